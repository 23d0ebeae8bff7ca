/- Part of the proof: what the last text of this claim imports. -/
import Derived.Test.YthfnjppieihcfaaGreatW8
import Derived.Laws.MakeOwn
set_option linter.unusedSimpArgs false
set_option linter.unusedVariables false
set_option maxRecDepth 100000
namespace Go.Mw
open Go.RowKit
variable {P : Program} {N : Nat} {r : Option Nat} {M : Nat → Prop} {w0 : World} {L : List (Nat × Obj)}
theorem flat_set {α:Type} {enc:α→List Value} {k:Nat} (hk : ∀ x,(enc x).length=k) (tl:List Value) : ∀ (xs:List α) (q:Nat) (x:α),q<xs.length →
    ((xs.map enc).flatten++tl).take (q*k)++enc x++((xs.map enc).flatten++tl).drop (q*k+k)=((xs.set q x).map enc).flatten++tl
  | [],q,x,h=>by simp at h
  | y :: ys,0,x,h=>by
    simp only [List.map_cons,List.flatten_cons,Nat.zero_mul,List.take_zero,List.nil_append,Nat.zero_add,List.set_cons_zero,List.append_assoc]
    rw [List.drop_append,hk,Nat.sub_self,List.drop_of_length_le (by rw [hk];exact Nat.le_refl _),List.nil_append,List.drop_zero]
  | y :: ys,q+1,x,h=>by
    have ih:=flat_set hk tl ys q x (by simpa using h)
    simp only [List.map_cons,List.flatten_cons,List.set_cons_succ,List.append_assoc] at ih ⊢
    rw [← ih]
    rw [List.take_append,List.drop_append,hk,List.take_of_length_le (by rw [hk,Nat.add_mul];omega),List.drop_of_length_le (by rw [hk,Nat.add_mul];omega),
      show (q+1)*k-k=q*k by rw [Nat.add_mul];omega,show (q+1)*k+k-k=q*k+k by rw [Nat.add_mul];omega]
    simp
section
variable {o : Oper} {ρ : Env} {w : World} {K : Value → World → Prop}
/-- an element of an own row turns -/
theorem S.setE {α:Type} {enc:α→List Value} {k:Nat} (hk0 : ∀ x,(enc x).length=k) (H:S M w0 L w) {t u g j q off:Nat} {x y:Operand} {xs:List α} {tl:List Value} {v:Value} {z:α} (hs : ∀ w,(sizeOf t).run P w = .ok k w) (ho:o.op = .store t x y) (hx:ev N ρ x=p g off) (hoff:off=q*k) (hy:ev N ρ y=v)
    (hv:v.cells=(enc z).toArray) (h1 : ∀ u∈enc z,u.oneCell'=true) (hi:L[j]? = some (g,.cells ((xs.map enc).flatten++tl).toArray u (0,0))) (hq:q<xs.length)
    (hk : ∀ w',S M w0 (L.set j (g,.cells (((xs.set q z).map enc).flatten++tl).toArray u (0,0))) w'→K undef w'):Does P N o ρ w K:=by
  subst hoff
  have hlen:=flat_len hk0 xs
  have hqk:q*k+k≤xs.length*k:=by
    have:=Nat.mul_le_mul_right k (show q+1≤xs.length from hq)
    rw [Nat.add_mul] at this;omega
  refine H.store (j:=j) (off:=q*k) (k:=k) (cs:=(xs.map enc).flatten++tl) ho hs hx hy hi (vs:=enc z) hv (hk0 z) (by simp only [List.length_append,hlen];simp;omega) h1 (cs':=((xs.set q z).map enc).flatten++tl) (flat_set hk0 tl xs q z hq) hk
/-- a row of zeros -/
theorem S.makeSlice {α:Type} {enc:α→List Value} {k:Nat} (hk0 : ∀ x,(enc x).length=k) (H:S M w0 L w) {t e by_ n:Nat} {x y:Operand} {z:Value} {z0:α} (hT:TR P t e k by_) (hz:ZV P e z) (hzc:z.cells=(enc z0).toArray)
    (ho:o.op = .makeSlice t x y) (hx:ev N ρ x=i (n:Int)) (hy:ev N ρ y=i (n:Int)) (hb:by_*n≤281474976710656) (h63:n≤maxLen)
    (hk : ∀ b w',S M w0 ((b,.cells ((List.replicate n z0).map enc).flatten.toArray e (0,0)) :: L) w'→K (.slice (some ⟨b,0,none⟩) n n) w'):Does P N o ρ w K:=by
  obtain ⟨ht,ti,zt,hi,hzz,hsize,hbytes,hzs,hkp⟩:=hT
  have hzt:z=zt:=by
    have h1:=hz w
    have h2:(zeroValue e).run P w = .ok zt w:=by simp [zeroValue,typeInfo,hi,hzz]
    rw [h1] at h2
    injection h2
  subst hzt
  subst hsize
  subst hbytes
  have h63':(n:Int)≤9223372036854775807:=by
    have h:=h63
    simp [maxLen] at h
    omega
  have hb':(ti.bytes:Int)*(n:Int)≤281474976710656:=by
    have h:((ti.bytes*n:Nat):Int)≤281474976710656:=by omega
    rwa [Int.natCast_mul] at h
  have hr:=run_make (P:=P) w t e ti z ht hi hzz .i64 .i64 n n (by omega) (Int.le_refl _) hb' h63'
  simp only [Int.toNat_natCast] at hr
  have hcells:madeCells z.cells (n*ti.size)=((List.replicate n z0).map enc).flatten.toArray:=by
    have hl:((List.replicate n z0).map enc).flatten.length=n*ti.size:=by rw [flat_len hk0];simp
    have hne : ∀ j,j<n*ti.size→((List.replicate n z0).map enc).flatten[j]? = (enc z0)[j % ti.size]?:=by
      intro j hj
      have hq:j / ti.size<n:=by
        rw [Nat.div_lt_iff_lt_mul hkp];exact hj
      have h1:=flat_at hk0 [] (List.replicate n z0) (j / ti.size) z0 (by simp [hq])
      rw [← h1,List.append_nil,List.getElem?_take_of_lt (Nat.mod_lt _ hkp),List.getElem?_drop]
      congr 1
      rw [Nat.mul_comm];exact (Nat.div_add_mod j ti.size).symm
    apply Array.ext'
    apply List.ext_getElem?
    intro j
    by_cases hj:j<n*ti.size
    · have:=hne j hj
      rw [this]
      have hm:j % ti.size<(enc z0).length:=by rw [hk0];exact Nat.mod_lt _ hkp
      have hx:(enc z0)[j % ti.size]? = some ((enc z0)[j % ti.size]):=by simp [hm]
      simp [madeCells,hzc,hj,hk0,hx]
    · have e1:((List.replicate n z0).map enc).flatten.toArray.toList[j]? = none:=List.getElem?_eq_none (by rw [List.toList_toArray,hl];omega)
      have e2:(madeCells z.cells (n*ti.size)).toList[j]? = none:=List.getElem?_eq_none (by rw [Array.length_toList,size_madeCells];omega)
      rw [e1,e2]
  refine does_val (v:=.slice (some ⟨w.heap.size,0,none⟩) n n) (w':=w.alloc (.cells (madeCells z.cells (n*ti.size)) e)) ?_ ?_
  · simp only [execOp,ho,hx,hy]
    simp [hr]
  · rw [hcells]
    exact hk _ _ (H.alloc _)
end
theorem S.turn2 {w w':World} {i j b b':Nat} {o o' q q':Obj} (H:S M w0 L w) (hi:L[i]? = some (b,o)) (hj:L[j]? = some (b',q)) (hne:b≠b') (hij:i≠j) (k:Keep (fun x=>x=b∨x=b') w w') (h1:w'.heap[b]? = some o') (h2:w'.heap[b']? = some q'):S M w0 ((L.set i (b,o')).set j (b',q')) w':=by
  have hm1:(b,o)∈L:=List.mem_of_getElem? hi
  have hm2:(b',q)∈L:=List.mem_of_getElem? hj
  have h0:=H.put i hi o'
  have hj':(L.set i (b,o'))[j]? = some (b',q):=by rw [List.getElem?_set_ne hij];exact hj
  have h00:=h0.put j hj' q'
  have hl1:=H.lt hm1
  have hl2:=H.lt hm2
  refine ⟨?_,fun p hp=>?_,h00.dist,h00.fresh⟩
  · refine ⟨k.os.trans H.keep.os,k.tape.trans H.keep.tape,k.output.trans H.keep.output,Nat.le_trans H.keep.size k.size,fun x hx hm=>?_⟩
    rw [k.block x (Nat.lt_of_lt_of_le hx H.keep.size) ?_]
    · exact H.keep.block x hx hm
    · rintro (rfl | rfl)
      · rcases H.fresh _ hm1 with h | h
        · simp only at h;omega
        · exact hm h
      · rcases H.fresh _ hm2 with h | h
        · simp only at h;omega
        · exact hm h
  · have h3:=h00.own p hp
    by_cases e2:p.1=b'
    · rw [e2,put_same (by rw [put_size];exact hl2)] at h3
      rw [e2,h2];exact h3
    · rw [put_other e2] at h3
      by_cases e1:p.1=b
      · rw [e1,put_same hl1] at h3
        rw [e1,h1];exact h3
      · rw [put_other e1] at h3
        have hpl:p.1<w.heap.size:=(Array.getElem?_eq_some_iff.1 h3).1
        rw [k.block p.1 hpl (fun h=>h.elim e1 e2)];exact h3
theorem vH {f:FuncId} {o:Oper} {ρ:Env} {w:World} {K:Value→World→Prop} {x:Operand} {l:List Operand} {ts:Array TypeId} {fv vs cv:List Value} {R:Value→World→Prop} (ho:o.op = .call { callee:=.value x,args:=l.toArray,argTypes:=ts })
    (hx:ev N ρ x = .func (.func f) fv.toArray cv.toArray) (he:Go.Proofs.Enters P f) (hargs:l.map (ev N ρ)=vs) (h:Calls P f (fv++vs++cv).toArray w fun e w'=>∃ v,e = .returned v∧R v w') (hk : ∀ v w',R v w'→K v w'):Does P N o ρ w K:=by
  have hrun:(execOp (ev N ρ) o).run P w = .ok (.enter f (fv++vs++cv).toArray) w:=by
    have:=he (fv++vs++cv).toArray w
    simp only [List.append_assoc] at this
    simp [execOp,ho,resolve,hx,Deferred.ofValue,invoke,hargs,this]
  unfold Does
  rw [hrun]
  exact Calls.mono h fun e w' ⟨v,he,hR⟩=>⟨v,he,hk v w' hR⟩
/-- what a callee has laid becomes one's own -/
theorem S.join {L':List (Nat×Obj)} {w w':World} (H:S M w0 L w) (H':S Nm w L' w'):S M w0 (L'++L) w':=by
  have hf : ∀ p∈L',w.heap.size≤p.1:=fun p hp=>(H'.fresh p hp).elim id False.elim
  refine ⟨H.keep.trans H'.keep.any,fun p hp=>?_,?_,fun p hp=>?_⟩
  · rcases List.mem_append.1 hp with hp | hp
    · exact H'.own p hp
    · exact (H.ext H'.keep).own p hp
  · refine List.pairwise_append.2 ⟨H'.dist,H.dist,fun p hp q hq=>?_⟩
    have h1:=hf p hp
    have h2:=H.lt hq
    omega
  · rcases List.mem_append.1 hp with hp | hp
    · exact .inl (Nat.le_trans H.keep.size (hf p hp))
    · exact H.fresh p hp
end Go.Mw
