/- Part of the proof: what the last text of this claim imports. -/
import Derived.Test.YthfnjppieihcfaaGreatW7
import Derived.Laws.Slices
set_option linter.unusedSimpArgs false
set_option linter.unusedVariables false
set_option maxRecDepth 100000
namespace Go.Mw
open Go.RowKit
variable {P : Program} {N : Nat} {r : Option Nat} {M : Nat → Prop} {w0 : World} {L : List (Nat × Obj)}
theorem Calls.body' {f:FuncId} {fn:Func} {c:Code} {args:List Value} {w:World} {R:Value→World→Prop} (hf:P.funcs[f]? = some fn) (hb:fn.body=some c) (hN:fn.ntmps=N) (hs:Nat.ble args.length N=true)
    (h:Wp P N none c (Body P N fn R) [] (fun i=>args.getD i undef) w):Calls P f args.toArray w fun e w'=>∃ v,e = .returned v∧R v w':=by
  refine calls_body hf hb hN (by simpa using hs) ?_
  have:(fun i=>args.toArray.getD i undef)=fun i=>args.getD i undef:=by
    funext i
    simp [List.getD]
  rw [this]
  exact h
/-- a call of a function that turns some blocks -/
theorem d_callM {f:FuncId} {o:Oper} {ρ:Env} {w:World} {K:Value→World→Prop} {l:List Operand} {ts:Array TypeId} {vs:List Value} {R:Value→World→Prop} (ho:o.op = .call { callee:=.value (.func f),args:=l.toArray,argTypes:=ts })
    (he:Go.Proofs.Enters P f) (hargs:l.map (ev N ρ)=vs) (h:Calls P f vs.toArray w fun e w'=>∃ v,e = .returned v∧R v w') (hk : ∀ v w',R v w'→K v w'):Does P N o ρ w K:=by
  have hrun:(execOp (ev N ρ) o).run P w = .ok (.enter f vs.toArray) w:=by
    have hev:ev N ρ (.func f) = .func (.func f) #[] #[]:=rfl
    simp [execOp,ho,resolve,hev,Deferred.ofValue,invoke,hargs,he vs.toArray w]
  unfold Does
  rw [hrun]
  exact Calls.mono h fun e w' ⟨v,he,hR⟩=>⟨v,he,hk v w' hR⟩
abbrev vC (D:Nat):Nat×Obj:=(D,.deferred (some []))
theorem Leave.marksS {fn:Func} {R:Value→World→Prop} {ρ:Env} : ∀ {Ds:List Nat} {w:World},S M w0 (Ds.map vC++L) w→(∀ w',S M w0 L w'→Leave P N fn R ρ [] w')→Leave P N fn R ρ (Ds.map mkD) w
  | [],w,H,h=>h w H
  | D :: Ds,w,H,h=>by
    refine ⟨D,rfl,H.own (D,_) (by simp),?_⟩
    have H2:=H.put (b:=D) (o:=.deferred (some [])) 0 rfl (.deferred none)
    exact Leave.marksS (Ds:=Ds) H2.tail h
abbrev Of (L:List (Nat×Obj)):Nat→Prop:=fun k=>∃ p∈L,p.1=k
theorem S.round {W:World} (H:S Nm w0 L W):S (Of L) W L W:=⟨Keep.refl _ _,H.own,H.dist,fun p hp=>.inr ⟨p,hp,rfl⟩⟩
theorem S.later {w w':World} {n:Nat} (H:S M w0 L w) (hL : ∀ p∈L,p.1<n) (hn:w0.heap.size≤n) (k:Keep (fun k=>n≤k) w w'):S M w0 L w':=by
  refine ⟨H.keep.later (k.mono (M':=fun k=>n≤k) fun _ _ h=>h) (fun i hi h=>by omega),fun p hp=>?_,H.dist,H.fresh⟩
  rw [k.block p.1 (H.lt hp) (by have:=hL p hp;omega)]
  exact H.own p hp
theorem S.below {w:World} (H:S M w0 L w) : ∀ p∈L,p.1<w.heap.size:=fun _ hp=>H.lt hp
/-- behind a yield: what one has laid oneself is as it was -/
theorem S.after {n0:Nat} {Mc:Nat→Prop} {wb w2 w3:World} (H:S (fun k=>n0≤k) wb L w2) (hwb:n0≤wb.heap.size) (k:Keep Mc w2 w3) (hMc : ∀ k,Mc k→k<n0):S (fun k=>n0≤k) w3 L w3:=by
  have hge : ∀ p∈L,n0≤p.1:=fun p hp=>by rcases H.fresh p hp with h | h <;>omega
  refine ⟨Keep.refl _ _,fun p hp=>?_,H.dist,fun p hp=>.inr (hge p hp)⟩
  rw [k.block p.1 (H.lt hp) (fun h=>by have:=hMc _ h;have:=hge p hp;omega)]
  exact H.own p hp
theorem Sl.old {W W':World} {k:Nat} {xs:List (List Value)} {a:Option Addr} (h:Sl w0 k xs a) (H:S Nm w0 L W) (k':Keep (Of L) W W'):Sl W' k xs a:=by
  intro j x hx
  obtain ⟨h1,h2,h3⟩:=h j x hx
  refine ⟨h1,h2,(h3.ext H.keep).keep ?_ k'⟩
  rintro ⟨p,hp,e⟩
  have hlt:=h3.lt
  rcases H.fresh p hp with h | h
  · rw [e] at h;omega
  · exact h
abbrev ints (zs:List Int):List Value:=zs.map fun n=>(.int .i64 n:Value)
theorem Sl.own {w:World} {g t:Nat} {fz:Nat×Nat} {zs:List Int} {tl:List Value} (h:w.heap[g]? = some (.cells (ints zs++tl).toArray t fz)) (off:Nat):Sl w 1 ((zs.drop off).map fun n=>[(.int .i64 n:Value)]) (some ⟨g,off,none⟩):=by
  intro j x hx
  rw [List.getElem?_map] at hx
  cases hz:(zs.drop off)[j]? with
  | none=>rw [hz] at hx;cases hx
  | some z =>
    rw [hz] at hx;cases hx
    refine ⟨rfl,rfl,_,t,fz,h,?_⟩
    simp only [blk,yP,Nat.mul_one,List.length_singleton]
    rw [List.getElem?_drop] at hz
    have hlt:=(List.getElem?_eq_some_iff.1 hz).1
    have hl:off+j<(ints zs++tl).length:=by simp;omega
    rw [List.drop_eq_getElem_cons hl]
    simp only [List.take_succ_cons,List.take_zero]
    rw [List.getElem_append_left (by simpa using hlt)]
    simp [(List.getElem?_eq_some_iff.1 hz).2]
section
variable {o : Oper} {ρ : Env} {w : World} {K : Value → World → Prop}
theorem r_sliceLo {t k c n:Nat} {e:TypeId} {a:Option Addr} {x y:Operand} {m:Int} (ht:P.underlying t=some (.slice e)) (hs : ∀ w,(sizeOf e).run P w = .ok k w) (hx:ev N ρ x = .slice a n c) (hy:ev N ρ y=i m) (h0:0≤m) (hm:m≤n) (hc:n≤c) :
    Runs P N (.slice t x (some y) none none) ρ w (.slice (if c=m.toNat then a else a.map (·.add (m.toNat*k))) (n-m.toNat) (c-m.toNat)):=by
  intro o ho
  have hu:(underlying t).run P w = .ok (.slice e) w:=by simp [underlying,Sem.run,ht]
  have hsl : ∀ v,(Instr.sliceAt t (.slice a n c) (some (i m)) none none).run P w=v→v=(Instr.slice t (.slice a n c) (some (i m)) none none).run P w:=by
    intro v hv;rw [← hv];simp [Instr.sliceAt,Sem.run_bind,hu,Result.andThen]
  have hb:=run_sliceBound (P:=P) w .i64 m n .sliceB h0 hm
  simp only [execOp,ho,hx,Option.map_some,Option.map_none,hy]
  have:(Instr.sliceAt t (.slice a n c) (some (i m)) none none).run P w = .ok (.slice (if c=m.toNat then a else a.map (·.add (m.toNat*k))) (n-m.toNat) (c-m.toNat)) w:=by
    rw [hsl _ rfl]
    simp [Instr.slice,Instr.sliceBounds,Sem.run_bind,hu,Result.andThen,hb,hs w]
  simp [this]
theorem r_sliceHi {t k c n:Nat} {e:TypeId} {g off:Nat} {x y:Operand} {m:Int} (ht:P.underlying t=some (.slice e)) (hs : ∀ w,(sizeOf e).run P w = .ok k w) (hx:ev N ρ x = .slice (some ⟨g,off,none⟩) n c) (hy:ev N ρ y=i m) (h0:0≤m) (hm:m≤c) :
    Runs P N (.slice t x none (some y) none) ρ w (.slice (some ⟨g,off,none⟩) m.toNat c):=by
  intro o ho
  have hu:(underlying t).run P w = .ok (.slice e) w:=by simp [underlying,Sem.run,ht]
  have hb:=run_sliceBound (P:=P) w .i64 m c .sliceAcap h0 hm
  simp only [execOp,ho,hx,Option.map_some,Option.map_none,hy]
  have:(Instr.sliceAt t (.slice (some ⟨g,off,none⟩) n c) none (some (i m)) none).run P w = .ok (.slice (some ⟨g,off,none⟩) m.toNat c) w:=by
    have h1:(Instr.sliceAt t (.slice (some ⟨g,off,none⟩) n c) none (some (i m)) none).run P w=(Instr.slice t (.slice (some ⟨g,off,none⟩) n c) none (some (i m)) none).run P w:=by
      simp [Instr.sliceAt,Sem.run_bind,hu,Result.andThen]
    rw [h1]
    simp [Instr.slice,Instr.sliceBounds,Sem.run_bind,hu,Result.andThen,hb,hs w,Addr.add]
  simp [this]
theorem S.clear (H:S M w0 L w) {t e u g off n c j:Nat} {z:Value} {cs:List Value} {x:Operand} (ht:P.underlying t=some (.slice e)) (hz:ZV P e z) (hzc:z.cells = #[z]) (h1:z.oneCell'=true)
    (ho:o.op = .call { callee:=.builtin .clear,args:=#[x],argTypes:=#[t] }) (hx:ev N ρ x = .slice (some ⟨g,off,none⟩) n c) (hi:L[j]? = some (g,.cells cs.toArray u (0,0))) (hle:off+n≤cs.length)
    (hk : ∀ w',S M w0 (L.set j (g,.cells (cs.take off++List.replicate n z++cs.drop (off+n)).toArray u (0,0))) w'→K (.tuple #[]) w'):Does P N o ρ w K:=by
  have hb:=H.own _ (List.mem_of_getElem? hi)
  have hu:(underlying t).run P w = .ok (.slice e) w:=by simp [underlying,Sem.run,ht]
  have hzl:(Builtin.zeroCells z.cells n).toList=List.replicate n z:=by
    rw [hzc]
    simp [Builtin.zeroCells]
    apply List.ext_getElem
    · simp
    · intro i h1 h2
      simp [Nat.mod_one]
  cases n with
  | zero =>
    have hrun:(execOp (ev N ρ) o).run P w = .ok (.value (.tuple #[])) w:=by
      simp [execOp,ho,resolve,invoke,builtin,hx,Builtin.clear_,Sem.run_bind,hu,Result.andThen]
    refine does_val hrun (hk w ?_)
    have:L.set j (g,.cells (cs.take off++List.replicate 0 z++cs.drop (off+0)).toArray u (0,0))=L:=by
      simp only [List.replicate_zero,List.append_nil,Nat.add_zero,List.take_append_drop]
      obtain ⟨hj,e⟩:=List.getElem?_eq_some_iff.1 hi
      rw [← e];exact List.set_getElem_self hj
    rw [this];exact H
  | succ n =>
    have hst:=run_storeCells (P:=P) (List.replicate (n+1) z) off 0 cs w hb (by simp;omega) (by intro v hv;rw [List.eq_of_mem_replicate hv];exact h1)
    simp only [Nat.add_zero,List.length_replicate] at hst
    have hrun:(execOp (ev N ρ) o).run P w = .ok (.value (.tuple #[])) (Mw.put w g (.cells (cs.take off++List.replicate (n+1) z++cs.drop (off+(n+1))).toArray u (0,0))):=by
      simp [execOp,ho,resolve,invoke,builtin,hx,Builtin.clear_,Sem.run_bind,hu,Result.andThen,hz w,hzl,hst]
    exact does_val hrun (hk _ (H.put j hi _))
theorem S.setI (H:S M w0 L w) {t u g j q:Nat} {x y:Operand} {zs:List Int} {tl:List Value} {v:Int} (hs : ∀ w,(sizeOf t).run P w = .ok 1 w) (ho:o.op = .store t x y) (hx:ev N ρ x=p g q) (hy:ev N ρ y=i v)
    (hi:L[j]? = some (g,.cells (ints zs++tl).toArray u (0,0))) (hq:q<zs.length)
    (hk : ∀ w',S M w0 (L.set j (g,.cells (ints (zs.set q v)++tl).toArray u (0,0))) w'→K undef w'):Does P N o ρ w K:=by
  refine H.store (j:=j) (off:=q) (k:=1) (cs:=ints zs++tl) ho hs hx hy hi (v:=i v) (vs:=[i v]) rfl rfl (by simp;omega) (by simp [Value.oneCell']) (cs':=ints (zs.set q v)++tl) ?_ hk
  simp only [ints,List.map_set]
  rw [List.take_append_of_le_length (by simp;omega),List.drop_append_of_le_length (by simp;omega),List.append_assoc]
  rw [List.set_eq_take_append_cons_drop,if_pos (by simpa using hq)]
  simp
end
theorem S.take {M:Nat→Prop} {w:World} {g:Nat} {o:Obj} (h:w.heap[g]? = some o) (hM:M g):S M w [(g,o)] w :=
  ⟨Keep.refl _ _,by simpa using h,by simp,by simpa using Or.inr hM⟩
theorem S.at {M:Nat→Prop} {w0 w:World} {L:List (Nat×Obj)} (H:S M w0 L w) (j:Nat) {b:Nat} {o:Obj} (h:L[j]? = some (b,o)):w.heap[b]? = some o:=H.own _ (List.mem_of_getElem? h)
theorem OwnRow.room {e k:Nat} {a:Option Addr} {n c:Nat} {xs:List Value} {L0:List (Nat×Obj)} (h:OwnRow e k a n c xs L0) (hn:0<n) :
    ∃ g tl,a=some ⟨g,0,none⟩∧L0=[(g,.cells (xs++tl).toArray e (0,0))]∧n≤c∧c≤maxLen∧(xs++tl).length=c*k:=by
  rcases h.2 with ⟨_,h0,_⟩ | ⟨g,cur,ha,hL,h1,h2,h3,h4⟩
  · omega
  · have:xs++cur.toList.drop (n*k)=cur.toList:=by rw [← h4,List.take_append_drop]
    exact ⟨g,cur.toList.drop (n*k),ha,by rw [hL,this],h1,h2,by rw [this];simpa using h3⟩
theorem flat_at {α:Type} {enc:α→List Value} {k:Nat} (hk : ∀ x,(enc x).length=k) (tl:List Value) : ∀ (xs:List α) (j:Nat) (x:α),xs[j]? = some x→(((xs.map enc).flatten++tl).drop (j*k)).take k=enc x
  | [],j,x,h=>by simp at h
  | y :: ys,0,x,h=>by
    simp at h;subst h
    simp only [List.map_cons,List.flatten_cons,Nat.zero_mul,List.drop_zero,List.append_assoc]
    rw [List.take_append_of_le_length (by rw [hk];exact Nat.le_refl _)]
    exact List.take_of_length_le (by rw [hk];exact Nat.le_refl _)
  | y :: ys,j+1,x,h=>by
    have:=flat_at hk tl ys j x (by simpa using h)
    simp only [List.map_cons,List.flatten_cons,List.append_assoc]
    rw [List.drop_append,hk,show (j+1)*k-k=j*k by rw [Nat.add_mul];omega,List.drop_of_length_le (by rw [hk,Nat.add_mul];omega),List.nil_append]
    exact this
theorem flat_len {α:Type} {enc:α→List Value} {k:Nat} (hk : ∀ x,(enc x).length=k) : ∀ (xs:List α),((xs.map enc).flatten).length=xs.length*k
  | []=>by simp
  | y :: ys=>by simp only [List.map_cons,List.flatten_cons,List.length_append,hk,flat_len hk ys,List.length_cons];rw [Nat.add_mul];omega
theorem Sl.block {α:Type} {enc:α→List Value} {k:Nat} (hk : ∀ x,(enc x).length=k) {w:World} {g t:Nat} {fz:Nat×Nat} {xs:List α} {tl:List Value} (h:w.heap[g]? = some (.cells ((xs.map enc).flatten++tl).toArray t fz)):Sl w k (xs.map enc) (some ⟨g,0,none⟩):=by
  intro j x hx
  rw [List.getElem?_map] at hx
  cases hz:xs[j]? with
  | none=>rw [hz] at hx;cases hx
  | some z =>
    rw [hz] at hx;cases hx
    refine ⟨hk z,rfl,_,t,fz,h,?_⟩
    simp only [blk,yP,hk,Nat.zero_add]
    exact flat_at hk tl xs j z hz
theorem OwnRow.sl {α:Type} {enc:α→List Value} {k e:Nat} (hk : ∀ x,(enc x).length=k) {w:World} {a:Option Addr} {n c:Nat} {xs:List α} {L0:List (Nat×Obj)} (h:OwnRow e k a n c (xs.map enc).flatten L0) (hn:n=xs.length) (H:S M w0 (L++L0) w):Sl w k (xs.map enc) a:=by
  subst hn
  rcases Nat.eq_zero_or_pos xs.length with h0 | h0
  · have:xs=[]:=List.length_eq_zero_iff.1 h0
    subst this
    intro j x hx;simp at hx
  · obtain ⟨g,tl,rfl,rfl,_⟩:=h.room h0
    exact Sl.block hk (H.own (g,.cells ((xs.map enc).flatten++tl).toArray e (0,0)) (by simp))
section
variable {o : Oper} {ρ : Env} {w : World} {K : Value → World → Prop}
theorem S.appendE {α:Type} {enc:α→List Value} {L0:List (Nat×Obj)} {e k c t by_ b m':Nat} {a:Option Addr} {xs:List α} {z:α} {x y:Operand} (H:S M w0 (L++L0) w) (hr:OwnRow e k a xs.length c (xs.map enc).flatten L0) (hT:TR P t e k by_)
    (ho:o.op = .call { callee:=.builtin .append,args:=#[x,y],argTypes:=#[t,t] }) (hx:ev N ρ x = .slice a xs.length c) (hy:ev N ρ y = .slice (some ⟨b,0,none⟩) 1 m')
    (hb:Cells w b 0 (enc z)) (hl:(enc z).length=k) (h1 : ∀ u∈enc z,u.oneCell'=true) (h63:xs.length+1≤maxLen) (hby:(xs.length+1)*by_≤140737488355328)
    (hk : ∀ a' c' L0' w',OwnRow e k a' (xs++[z]).length c' ((xs++[z]).map enc).flatten L0'→S M w0 (L++L0') w'→K (.slice a' (xs++[z]).length c') w'):Does P N o ρ w K:=by
  refine S.append (H.perm List.perm_append_comm) hr hT ho hx hy hb (by rw [hl];omega) h1 h63 hby ?_
  intro a' c' L0' w' hr' H'
  have e1:(xs++[z]).length=xs.length+1:=by simp
  have e2:((xs++[z]).map enc).flatten=(xs.map enc).flatten++enc z:=by simp
  have:=hk a' c' L0' w'
  rw [e1,e2] at this
  exact this hr' (H'.perm List.perm_append_comm)
end
/-- a callee has turned the last block -/
theorem S.turned {w w':World} {g:Nat} {o o':Obj} (H:S M w0 (L++[(g,o)]) w) (k:Keep (fun k=>k=g) w w') (hg:w'.heap[g]? = some o'):S M w0 (L++[(g,o')]) w':=by
  have hd:=List.pairwise_append.1 H.dist
  have hf:=H.fresh (g,o) (by simp)
  refine ⟨?_,?_,?_,?_⟩
  · refine ⟨k.os.trans H.keep.os,k.tape.trans H.keep.tape,k.output.trans H.keep.output,Nat.le_trans H.keep.size k.size,fun q hq hm=>?_⟩
    rw [k.block q (Nat.lt_of_lt_of_le hq H.keep.size) ?_]
    · exact H.keep.block q hq hm
    · rintro rfl
      rcases hf with h | h
      · simp only at h;omega
      · exact hm h
  · intro p hp
    rcases List.mem_append.1 hp with hp | hp
    · rw [k.block p.1 (H.lt (List.mem_append_left _ hp)) (fun e=>hd.2.2 p hp (g,o) (by simp) e)]
      exact H.own p (List.mem_append_left _ hp)
    · simp at hp;subst hp;exact hg
  · exact List.pairwise_append.2 ⟨hd.1,by simp,fun p hp q hq=>by simp at hq;subst hq;exact hd.2.2 p hp (g,o) (by simp)⟩
  · intro p hp
    rcases List.mem_append.1 hp with hp | hp
    · exact H.fresh p (List.mem_append_left _ hp)
    · simp at hp;subst hp;exact hf
theorem yJ {ρ:Env} {w:World} {t k b off n q:Nat} {e:TypeId} {x y:Operand} {a:Int} (ht:P.underlying t=some (.array n e)) (hs : ∀ w,(sizeOf e).run P w = .ok k w) (hx:ev N ρ x=p b off) (hy:ev N ρ y=i a) (h:0≤a∧a<n) (hq:off+a.toNat*k=q) :
    Runs P N (.indexAddr t x y) ρ w (p b q):=by
  subst hq
  intro o ho
  have ha:(⟨b,off,none⟩:Addr).add (a.toNat*k)=⟨b,off+a.toNat*k,none⟩:=by unfold Addr.add;split <;>simp_all
  simp [execOp,ho,hx,hy,Instr.indexAt,asIntOf,run_underlying ht,h,hs,ha,Instr.sureAddr]
theorem rep_get {n j:Nat} {v:Value} (h:j<n):(List.replicate n v)[j]? = some v:=by simp [h]
theorem S.rebase {M' Mc:Nat→Prop} {w2 w3:World} (H:S M w0 L w2) (k:Keep Mc w2 w3) (hL : ∀ p∈L,¬ Mc p.1) (hM : ∀ p∈L,M' p.1):S M' w3 L w3 :=
  ⟨Keep.refl _ _,fun p hp=>(k.block p.1 (H.lt hp) (hL p hp)).trans (H.own p hp),H.dist,fun p hp=>.inr (hM p hp)⟩
theorem yv {v:Value} {A B:Prop} (h:(v = .bool true∧A)∨(v = .bool false∧B)) : ∃ b:Bool,v = .bool b∧(b=true→A)∧(b=false→B):=by
  rcases h with ⟨rfl,h⟩ | ⟨rfl,h⟩
  · exact ⟨true,rfl,fun _=>h,(fun e=>by cases e)⟩
  · exact ⟨false,rfl,(fun e=>by cases e),fun _=>h⟩
end Go.Mw
namespace Go.Proofs.YthfnjppieihcfaaGreat
open Go.RowKit Go.Proofs Go.Mw
theorem sz3 : ∀ w,(sizeOf 3).run Tryz.prog w = .ok 1 w:=fun _=>by kernel_rfl
theorem zv3:ZV Tryz.prog 3 (i 0):=Tryz.zeroValue3
open Men
theorem take_mem {cur zs:List Int} {m k q:Int} {e:Int} (h : ∀ x,x∈cur.take m.toNat↔x∈zs.take (k+q).toNat) (h0:0≤k+q) (hm:0≤m) (hml:m<cur.length) (hz:zs[(k+q).toNat]? = some e) : ∀ x,x∈(cur.set m.toNat e).take (m+1).toNat↔x∈zs.take (k+(q+1)).toNat:=by
  intro x
  have h1:(cur.set m.toNat e).take (m+1).toNat=cur.take m.toNat++[e]:=by
    rw [show (m+1).toNat=m.toNat+1 by omega,List.take_add_one,List.take_set_of_le (Nat.le_refl _)]
    simp [show m.toNat<cur.length by omega]
  have h2:zs.take (k+(q+1)).toNat=zs.take (k+q).toNat++[e]:=by
    rw [show (k+(q+1)).toNat=(k+q).toNat+1 by omega,List.take_add_one,hz];rfl
  rw [h1,h2,List.mem_append,List.mem_append,h x]
theorem clear_eq {cur:List Int} {tl:List Value} {m n:Nat} {z:Value} (hm:m≤cur.length) (hn:cur.length=n):(ints cur++tl).take m++List.replicate (n-m) z++(ints cur++tl).drop (m+(n-m))=ints (cur.take m)++(List.replicate (n-m) z++tl):=by
  have hl:(ints cur).length=cur.length:=by simp
  rw [List.take_append_of_le_length (by omega),show m+(n-m)=(ints cur).length by omega,List.drop_left,List.append_assoc]
  unfold ints
  rw [List.map_take]
theorem take_first {zs:List Int} {k:Int} {e e1:Int} (hk:1≤k) (he:zs[k.toNat]? = some e) (he1:zs[(k-1).toNat]? = some e1) (h:e=e1) : ∀ x,x∈zs.take k.toNat↔x∈zs.take (k+1).toNat:=by
  intro x
  have h2:zs.take (k+1).toNat=zs.take k.toNat++[e]:=take_succ' (by omega) he
  rw [h2,List.mem_append,List.mem_singleton]
  refine ⟨.inl,fun hx=>hx.elim id fun hx=>?_⟩
  rw [hx,h]
  exact List.mem_of_getElem? (i:=(k-1).toNat) (by rw [List.getElem?_take_of_lt (by omega)];exact he1)
theorem take_same {cur zs:List Int} {m k q:Int} {e e':Int} (h : ∀ x,x∈cur.take m.toNat↔x∈zs.take (k+q).toNat) (h0:0<k+q) (hz:zs[(k+q).toNat]? = some e) (hz':zs[(k+(q-1)).toNat]? = some e') (he:e=e') : ∀ x,x∈cur.take m.toNat↔x∈zs.take (k+(q+1)).toNat:=by
  intro x
  have h2:zs.take (k+(q+1)).toNat=zs.take (k+q).toNat++[e]:=by
    rw [show (k+(q+1)).toNat=(k+q).toNat+1 by omega,List.take_add_one,hz];rfl
  rw [h x,h2,List.mem_append,List.mem_singleton]
  constructor
  · exact .inl
  · rintro (h | rfl)
    · exact h
    · rw [he]
      refine List.mem_of_getElem? (i:=(k+(q-1)).toNat) ?_
      rw [List.getElem?_take_of_lt (by omega)];exact hz'
theorem c151 {g c:Nat} {zs:List Int} {tl:List Value} (w:World) (hb:w.heap[g]? = some (.cells (ints zs++tl).toArray 3 (0,0))) (hc:(ints zs++tl).length=c) (hl:zs.length≤1099511627776):Calls Tryz.prog 151 [.slice (some ⟨g,0,none⟩) zs.length c].toArray w fun e w'=>∃ v,e = .returned v∧∃ ys tl',v = .slice (some ⟨g,0,none⟩) ys.length c∧Keep (fun k=>k=g) w w'∧w'.heap[g]? = some (.cells (ints ys++tl').toArray 3 (0,0))∧(ints ys++tl').length=c∧ys.length≤zs.length∧∀ x,x∈ys↔x∈zs:=by
  refine Calls.body' (N:=61) Tryz.func151 rfl Tryz.ntmps151 rfl ?_
  have hlen:zs.length≤c:=by rw [← hc];simp
  have H:=S.take (M:=fun k=>k=g) hb rfl
  refine Wp.seq (Wp.region ?_)
  refine Ro.q (v:=(.slice none 0 0)) rfl rfl (zD rfl) rfl ?_
  refine Ro.nil (nT (Wp.seq (Wp.seq (Wp.region ?_))))
  refine Ro.q (v:=(.slice (some ⟨g,0,none⟩) zs.length c)) rfl rfl (zB rfl) rfl ?_
  refine Ro.q rfl rfl (yG Tryz.underlying72 rfl (v:=zs.length) rfl) rfl ?_
  refine Ro.q rfl rfl (yB rfl rfl) rfl ?_
  refine Ro.nil (nT ?_)
  refine Wp.cond (t:=decide (((zs.length:Nat):Int)<2)) rfl ?_ ?_
  · intro c1
    have c1r:=c1
    simp only [bx] at c1
    refine Wp.seq (Wp.region ?_)
    refine Ro.q (v:=(.slice (some ⟨g,0,none⟩) zs.length c)) rfl rfl (zB rfl) rfl ?_
    refine Ro.q (v:=(.slice (some ⟨g,0,none⟩) zs.length c)) rfl rfl (zD rfl) rfl ?_
    refine Ro.nil (nT (Wp.ret (rT (zN ?_))))
    refine zI (v:=(.slice (some ⟨g,0,none⟩) zs.length c)) Tryz.results151 rfl ?_
    exact ⟨zs,tl,rfl,H.keep,H.at 0 rfl,hc,Nat.le_refl _,fun _=>Iff.rfl⟩
  intro c1
  have c1r:=c1
  simp only [bx] at c1
  refine Wp.skip (nT (Wp.seq (Wp.seq (Wp.region ?_))))
  refine Ro.q (v:=(i 1)) rfl rfl (zD rfl) rfl ?_
  refine Ro.nil (nT (Wp.block ?_))
  refine Wp.loop (fun kM ds ρ w'=>∃ k:Int,ds=[]∧(1≤k∧k≤zs.length)∧kM=((zs.length:Int)-k).toNat∧ρ 0=(.slice (some ⟨g,0,none⟩) zs.length c)∧ρ 3=(i k)∧S (fun k=>k=g) w [(g,.cells (ints zs++tl).toArray 3 (0,0))] w'∧(True)) (((zs.length:Int)-1).toNat) ⟨1,rfl,(by omega),rfl,rfl,rfl,H,trivial⟩ ?_
  clear H
  intro kρ4 dsρ4 ρ4 w5
  rintro ⟨k,rfl,hb7,hk6,f2,f3,H,hi8⟩
  refine Wp.seq (Wp.seq (Wp.region ?_))
  refine Ro.q (v:=(i k)) rfl rfl (zB f3) rfl ?_
  refine Ro.q (v:=(.slice (some ⟨g,0,none⟩) zs.length c)) rfl rfl (zB f2) rfl ?_
  refine Ro.q rfl rfl (yG Tryz.underlying72 rfl (v:=zs.length) rfl) rfl ?_
  refine Ro.q rfl rfl (yB rfl rfl) rfl ?_
  refine Ro.nil (nT ?_)
  refine Wp.cond (t:=decide (k<((zs.length:Nat):Int))) rfl ?_ ?_
  · intro c9
    have c9r:=c9
    simp only [bx] at c9
    obtain ⟨e,he⟩:=vQ zs k (by omega) (by omega)
    obtain ⟨e1,he1⟩:=vQ zs (k-1) (by omega) (by omega)
    refine Wp.skip (nT (Wp.seq (Wp.block (Wp.seq ?_))))
    refine Wp.drawnS 10 [0,0,3,7,0,0,32,112,240,511] [is (.slice (some ⟨g,0,none⟩) zs.length c),is (i k),is (p (blk (some ⟨g,0,none⟩)) (yP (some ⟨g,0,none⟩)+k.toNat*1)),is (i e),is (.slice (some ⟨g,0,none⟩) zs.length c),is (i k),is (i (k-1)),is (p (blk (some ⟨g,0,none⟩)) (yP (some ⟨g,0,none⟩)+((k-1).toNat)*1)),is (i e1),is (.bool (decide (e=e1)))] (by kernel_rfl) (by kernel_rfl) rfl (Mi (Mi (Mi (Mi (Mi (Mi (Mi (Mi (Mi (Mi Mono.nil)))))))))) (fun w' k=>H.ext k) ?_ ?_
    · refine ⟨?_,?_,?_,?_,?_,?_,?_,?_,?_,?_,trivial⟩
      · exact Ob.q rfl (fun _ _ B U D=>(zB ((U 0 rfl).trans f2))) rfl rfl
      · exact Ob.q rfl (fun _ _ B U D=>(zB ((U 3 rfl).trans f3))) rfl rfl
      · exact Ob.q rfl (fun _ _ B U D=>(zY ts72 ((Sl.own (t:=3) (fz:=(0,0)) (zs:=zs) (tl:=tl) (B.at 0 rfl) (0))) (D 0 rfl) (by first | (simp;done) | (simp;omega)) (D 1 rfl) (by omega) (zW he))) rfl rfl
      · exact Ob.q rfl (fun _ _ B U D=>(zE zM (D 2 rfl) (((Sl.own (t:=3) (fz:=(0,0)) (zs:=zs) (tl:=tl) (B.at 0 rfl) (0))).cells (zW he)) (j:=0) rfl rfl)) rfl rfl
      · exact Ob.q rfl (fun _ _ B U D=>(zB ((U 0 rfl).trans f2))) rfl rfl
      · exact Ob.q rfl (fun _ _ B U D=>(zB ((U 3 rfl).trans f3))) rfl rfl
      · exact Ob.q rfl (fun _ _ B U D=>(yT (D 5 rfl) rfl (by constructor <;>omega))) rfl rfl
      · exact Ob.q rfl (fun _ _ B U D=>(zY ts72 ((Sl.own (t:=3) (fz:=(0,0)) (zs:=zs) (tl:=tl) (B.at 0 rfl) (0))) (D 4 rfl) (by first | (simp;done) | (simp;omega)) (D 6 rfl) (by omega) (zW he1))) rfl rfl
      · exact Ob.q rfl (fun _ _ B U D=>(zE zM (D 7 rfl) (((Sl.own (t:=3) (fz:=(0,0)) (zs:=zs) (tl:=tl) (B.at 0 rfl) (0))).cells (zW he1)) (j:=0) rfl rfl)) rfl rfl
      · exact Ob.q rfl (fun _ _ B U D=>(vR (D 3 rfl) (D 8 rfl))) rfl rfl
    intro ρ10 w11 k12 U13 D14;replace H:=H.ext k12
    have f15:=(U13 0 rfl).trans f2
    have f16:=(U13 3 rfl).trans f3
    have f17:ρ10 25=(.bool (decide (e=e1))):=D14 9 rfl
    clear U13 D14 k12
    refine Ro.nil (nT ?_)
    refine Wp.cond (t:=decide (e=e1)) f17 ?_ ?_
    · intro c18
      have c18r:=c18
      simp only [bx] at c18
      refine Wp.seq (Wp.region ?_)
      refine Ro.q (v:=(.slice (some ⟨g,0,none⟩) zs.length c)) rfl rfl (zB f15) rfl ?_
      refine Ro.q (v:=(i k)) rfl rfl (zB f16) rfl ?_
      refine Ro.q (v:=(.slice (some ⟨g,k.toNat,none⟩) (zs.length-k.toNat) (c-k.toNat))) rfl rfl (Runs.to (r_sliceLo Tryz.underlying72 sz3 rfl rfl (by omega) (by omega) (by omega)) (by rw [if_neg (by omega)];simp [Addr.add] <;>omega)) rfl ?_
      refine Ro.q (v:=(.slice (some ⟨g,k.toNat,none⟩) (zs.length-k.toNat) (c-k.toNat))) rfl rfl (zD rfl) rfl ?_
      refine Ro.nil (nT (Wp.seq (Wp.seq (Wp.region ?_))))
      refine Ro.q (v:=(i 1)) rfl rfl (zD rfl) rfl ?_
      refine Ro.nil (nT (Wp.block ?_))
      refine Wp.loop (fun kM ds ρ w'=>∃ q:Int,∃ m:Int,∃ cur:List Int,ds=[]∧(1≤q∧k+q≤zs.length∧k≤m∧m≤k+q-1∧cur.length=zs.length)∧kM=((zs.length:Int)-k-q).toNat∧ρ 0=(.slice (some ⟨g,0,none⟩) zs.length c)∧ρ 4=(.slice (some ⟨g,k.toNat,none⟩) (zs.length-k.toNat) (c-k.toNat))∧ρ 3=(i m)∧ρ 5=(i q)∧S (fun k=>k=g) w [(g,.cells (ints cur++tl).toArray 3 (0,0))] w'∧((∀ j,(k+q-1).toNat≤j→cur[j]? = zs[j]?)∧(∀ x,x∈cur.take m.toNat↔x∈zs.take (k+q).toNat))) (((zs.length:Int)-k-1).toNat) ⟨1,k,zs,rfl,(by omega),rfl,f15,rfl,f16,rfl,H,⟨fun _ _=>rfl,take_first (by omega) he he1 (by omega)⟩⟩ ?_
      clear H
      intro kρ23 dsρ23 ρ23 w24
      rintro ⟨q,m,cur,rfl,hb26,hk25,f19,f20,f21,f22,H,hi27⟩
      refine Wp.seq (Wp.seq (Wp.region ?_))
      refine Ro.q (v:=(i q)) rfl rfl (zB f22) rfl ?_
      refine Ro.q (v:=(.slice (some ⟨g,k.toNat,none⟩) (zs.length-k.toNat) (c-k.toNat))) rfl rfl (zB f20) rfl ?_
      refine Ro.q rfl rfl (yG Tryz.underlying72 rfl (v:=(zs.length-k.toNat)) rfl) rfl ?_
      refine Ro.q rfl rfl (yB rfl rfl) rfl ?_
      refine Ro.nil (nT ?_)
      refine Wp.cond (t:=decide (q<(((zs.length-k.toNat):Nat):Int))) rfl ?_ ?_
      · intro c28
        have c28r:=c28
        simp only [bx] at c28
        obtain ⟨e2,he2⟩:=vQ zs (k+q) (by omega) (by omega)
        obtain ⟨e3,he3⟩:=vQ zs (k+(q-1)) (by omega) (by omega)
        obtain ⟨e4,he4⟩:=vQ cur m (by omega) (by omega)
        have hd2:(cur.drop k.toNat)[q.toNat]? = some e2:=by rw [List.getElem?_drop,show k.toNat+q.toNat=(k+q).toNat by omega,hi27.1 _ (by omega)];exact he2
        have hd3:(cur.drop k.toNat)[(q-1).toNat]? = some e3:=by rw [List.getElem?_drop,show k.toNat+(q-1).toNat=(k+(q-1)).toNat by omega,hi27.1 _ (by omega)];exact he3
        refine Wp.skip (nT (Wp.seq (Wp.block (Wp.seq ?_))))
        refine Wp.drawnS 10 [0,0,3,7,0,0,32,112,240,511] [is (.slice (some ⟨g,k.toNat,none⟩) (zs.length-k.toNat) (c-k.toNat)),is (i q),is (p (blk (some ⟨g,k.toNat,none⟩)) (yP (some ⟨g,k.toNat,none⟩)+q.toNat*1)),is (i e2),is (.slice (some ⟨g,k.toNat,none⟩) (zs.length-k.toNat) (c-k.toNat)),is (i q),is (i (q-1)),is (p (blk (some ⟨g,k.toNat,none⟩)) (yP (some ⟨g,k.toNat,none⟩)+((q-1).toNat)*1)),is (i e3),is (.bool (decide (e2≠e3)))] (by kernel_rfl) (by kernel_rfl) rfl (Mi (Mi (Mi (Mi (Mi (Mi (Mi (Mi (Mi (Mi Mono.nil)))))))))) (fun w' k=>H.ext k) ?_ ?_
        · refine ⟨?_,?_,?_,?_,?_,?_,?_,?_,?_,?_,trivial⟩
          · exact Ob.q rfl (fun _ _ B U D=>(zB ((U 4 rfl).trans f20))) rfl rfl
          · exact Ob.q rfl (fun _ _ B U D=>(zB ((U 5 rfl).trans f22))) rfl rfl
          · exact Ob.q rfl (fun _ _ B U D=>(zY ts72 ((Sl.own (t:=3) (fz:=(0,0)) (zs:=cur) (tl:=tl) (B.at 0 rfl) (k.toNat))) (D 0 rfl) (by first | (simp;done) | (simp;omega)) (D 1 rfl) (by omega) (zW hd2))) rfl rfl
          · exact Ob.q rfl (fun _ _ B U D=>(zE zM (D 2 rfl) (((Sl.own (t:=3) (fz:=(0,0)) (zs:=cur) (tl:=tl) (B.at 0 rfl) (k.toNat))).cells (zW hd2)) (j:=0) rfl rfl)) rfl rfl
          · exact Ob.q rfl (fun _ _ B U D=>(zB ((U 4 rfl).trans f20))) rfl rfl
          · exact Ob.q rfl (fun _ _ B U D=>(zB ((U 5 rfl).trans f22))) rfl rfl
          · exact Ob.q rfl (fun _ _ B U D=>(yT (D 5 rfl) rfl (by constructor <;>omega))) rfl rfl
          · exact Ob.q rfl (fun _ _ B U D=>(zY ts72 ((Sl.own (t:=3) (fz:=(0,0)) (zs:=cur) (tl:=tl) (B.at 0 rfl) (k.toNat))) (D 4 rfl) (by first | (simp;done) | (simp;omega)) (D 6 rfl) (by omega) (zW hd3))) rfl rfl
          · exact Ob.q rfl (fun _ _ B U D=>(zE zM (D 7 rfl) (((Sl.own (t:=3) (fz:=(0,0)) (zs:=cur) (tl:=tl) (B.at 0 rfl) (k.toNat))).cells (zW hd3)) (j:=0) rfl rfl)) rfl rfl
          · exact Ob.q rfl (fun _ _ B U D=>(vW (D 3 rfl) (D 8 rfl))) rfl rfl
        intro ρ29 w30 k31 U32 D33;replace H:=H.ext k31
        have f34:=(U32 0 rfl).trans f19
        have f35:=(U32 3 rfl).trans f21
        have f36:=(U32 4 rfl).trans f20
        have f37:=(U32 5 rfl).trans f22
        have f38:ρ29 44=(.bool (decide (e2≠e3))):=D33 9 rfl
        clear U32 D33 k31
        refine Ro.nil (nT ?_)
        refine Wp.cond (t:=decide (e2≠e3)) f38 ?_ ?_
        · intro c39
          have c39r:=c39
          simp only [bx] at c39
          refine Wp.seq (Wp.region ?_)
          refine Ro.q (v:=(.slice (some ⟨g,0,none⟩) zs.length c)) rfl rfl (zB f34) rfl ?_
          refine Ro.q (v:=(i m)) rfl rfl (zB f35) rfl ?_
          refine Ro.q (v:=(.slice (some ⟨g,k.toNat,none⟩) (zs.length-k.toNat) (c-k.toNat))) rfl rfl (zB f36) rfl ?_
          refine Ro.q (v:=(i q)) rfl rfl (zB f37) rfl ?_
          refine Ro.q rfl rfl (zY ts72 ((Sl.own (t:=3) (fz:=(0,0)) (zs:=cur) (tl:=tl) (H.at 0 rfl) (k.toNat))) rfl (by first | (simp;done) | (simp;omega)) rfl (by omega) (zW hd2)) rfl ?_
          refine Ro.q rfl rfl (zE zM rfl (((Sl.own (t:=3) (fz:=(0,0)) (zs:=cur) (tl:=tl) (H.at 0 rfl) (k.toNat))).cells (zW hd2)) (j:=0) rfl rfl) rfl ?_
          refine Ro.q rfl rfl (zY ts72 ((Sl.own (t:=3) (fz:=(0,0)) (zs:=cur) (tl:=tl) (H.at 0 rfl) (0))) rfl (by first | (simp;done) | (simp;omega)) rfl (by omega) (zW he4)) rfl ?_
          refine Ro.d0 rfl rfl rfl (H.setI (j:=0) (g:=g) (q:=m.toNat) (u:=3) (zs:=cur) (tl:=tl) sz3 rfl (show ev _ _ _=p g m.toNat from (Eq.trans rfl (congrArg (p g) (by simp [yP])))) rfl rfl (by omega) ?_)
          intro w40 Hn;replace H:S (fun k=>k=g) w [(g,.cells (ints (cur.set m.toNat e2)++tl).toArray 3 (0,0))] w40:=Hn;clear Hn
          refine Ro.nil (nT (Wp.region ?_))
          refine Ro.q (v:=(i m)) rfl rfl (zB f35) rfl ?_
          refine Ro.q rfl rfl (zU rfl rfl (by constructor <;>omega)) rfl ?_
          refine Ro.q (v:=(i (m+1))) rfl rfl (zD rfl) rfl ?_
          refine Ro.nil (nB (nT (Wp.region ?_)))
          refine Ro.q (v:=(i q)) rfl rfl (zB f37) rfl ?_
          refine Ro.q rfl rfl (zU rfl rfl (by constructor <;>omega)) rfl ?_
          refine Ro.q (v:=(i (q+1))) rfl rfl (zD rfl) rfl ?_
          refine Ro.nil (nT ?_)
          exact ⟨((zs.length:Int)-k-(q+1)).toNat,by omega,(q+1),(m+1),(cur.set m.toNat e2),rfl,⟨by omega,by omega,by omega,by omega,by simp;omega⟩,rfl,f34,f36,rfl,rfl,H,⟨fun j hj=>by rw [List.getElem?_set_ne (by omega)];exact hi27.1 j (by omega),take_mem hi27.2 (by omega) (by omega) (by omega) he2⟩⟩
        intro c39
        have c39r:=c39
        simp only [bx] at c39
        refine Wp.skip (nB (nT (Wp.region ?_)))
        refine Ro.q (v:=(i q)) rfl rfl (zB f37) rfl ?_
        refine Ro.q rfl rfl (zU rfl rfl (by constructor <;>omega)) rfl ?_
        refine Ro.q (v:=(i (q+1))) rfl rfl (zD rfl) rfl ?_
        refine Ro.nil (nT ?_)
        exact ⟨((zs.length:Int)-k-(q+1)).toNat,by omega,(q+1),m,cur,rfl,(by omega),rfl,f34,f36,f35,rfl,H,⟨fun j hj=>hi27.1 j (by omega),take_same hi27.2 (by omega) he2 he3 (by omega)⟩⟩
      intro c28
      have c28r:=c28
      simp only [bx] at c28
      refine Wp.exit (xT (xT (xB (nT (Wp.seq (Wp.region ?_))))))
      refine Ro.q (v:=(.slice (some ⟨g,0,none⟩) zs.length c)) rfl rfl (zB f19) rfl ?_
      refine Ro.q (v:=(i m)) rfl rfl (zB f21) rfl ?_
      refine Ro.q (v:=(.slice (some ⟨g,m.toNat,none⟩) (zs.length-m.toNat) (c-m.toNat))) rfl rfl (Runs.to (r_sliceLo Tryz.underlying72 sz3 rfl rfl (by omega) (by omega) (by omega)) (by rw [if_neg (by omega)];simp [Addr.add] <;>omega)) rfl ?_
      refine Ro.d0 rfl rfl rfl (H.clear (j:=0) (g:=g) (off:=m.toNat) (n:=zs.length-m.toNat) (u:=3) (z:=i 0) (cs:=ints cur++tl) Tryz.underlying72 zv3 rfl rfl rfl rfl rfl (by simp;omega) ?_)
      intro w41 Hn
      rw [clear_eq (cur:=cur) (m:=m.toNat) (n:=zs.length) (by omega) (by omega)] at Hn
      replace H:S (fun k=>k=g) w [(g,.cells (ints (cur.take m.toNat)++(List.replicate (zs.length-m.toNat) (i 0)++tl)).toArray 3 (0,0))] w41:=Hn;clear Hn
      refine Ro.nil (nT (Wp.seq (Wp.region ?_)))
      refine Ro.q (v:=(.slice (some ⟨g,0,none⟩) zs.length c)) rfl rfl (zB f19) rfl ?_
      refine Ro.q (v:=(i m)) rfl rfl (zB f21) rfl ?_
      refine Ro.q (v:=(.slice (some ⟨g,0,none⟩) m.toNat c)) rfl rfl (r_sliceHi Tryz.underlying72 sz3 rfl rfl (by omega) (by omega)) rfl ?_
      refine Ro.q (v:=(.slice (some ⟨g,0,none⟩) m.toNat c)) rfl rfl (zD rfl) rfl ?_
      refine Ro.nil (nT (Wp.ret (rB (rT (rT (rB (rT (zN ?_))))))))
      refine zI (v:=(.slice (some ⟨g,0,none⟩) m.toNat c)) Tryz.results151 rfl ?_
      exact ⟨cur.take m.toNat,List.replicate (zs.length-m.toNat) (i 0)++tl,(by simp [List.length_take];omega),H.keep,H.at 0 rfl,(by simp at hc ⊢;omega),(by simp [List.length_take];omega),fun x=>by rw [hi27.2 x,List.take_of_length_le (by omega)]⟩
    intro c18
    have c18r:=c18
    simp only [bx] at c18
    refine Wp.skip (nB (nT (Wp.region ?_)))
    refine Ro.q (v:=(i k)) rfl rfl (zB f16) rfl ?_
    refine Ro.q rfl rfl (zU rfl rfl (by constructor <;>omega)) rfl ?_
    refine Ro.q (v:=(i (k+1))) rfl rfl (zD rfl) rfl ?_
    refine Ro.nil (nT ?_)
    exact ⟨((zs.length:Int)-(k+1)).toNat,by omega,(k+1),rfl,(by omega),rfl,f15,rfl,H,trivial⟩
  intro c9
  have c9r:=c9
  simp only [bx] at c9
  refine Wp.exit (xT (xT (xB (nT (Wp.seq (Wp.region ?_))))))
  refine Ro.q (v:=(.slice (some ⟨g,0,none⟩) zs.length c)) rfl rfl (zB f2) rfl ?_
  refine Ro.q (v:=(.slice (some ⟨g,0,none⟩) zs.length c)) rfl rfl (zD rfl) rfl ?_
  refine Ro.nil (nT (Wp.ret (zN ?_)))
  refine zI (v:=(.slice (some ⟨g,0,none⟩) zs.length c)) Tryz.results151 rfl ?_
  exact ⟨zs,tl,rfl,H.keep,H.at 0 rfl,hc,Nat.le_refl _,fun _=>Iff.rfl⟩
end Go.Proofs.YthfnjppieihcfaaGreat
namespace Go.Proofs.YthfnjppieihcfaaGreat
open Go.RowKit Go.Proofs Go.Mw
theorem en150:Go.Proofs.Enters Tryz.prog 150:=Go.Proofs.enters_of Tryz.func150 (by kernel_rfl) rfl
theorem en151:Go.Proofs.Enters Tryz.prog 151:=Go.Proofs.enters_of Tryz.func151 (by kernel_rfl) rfl
theorem fo151_0:FO Tryz.prog 151 0 0:=fun _ _ _=>by kernel_rfl
theorem fo151_1:FO Tryz.prog 151 1 5:=fun _ _ _=>by kernel_rfl
theorem t1_47:T1 Tryz.prog 47:=⟨Tryz.isAgg47,fun _=>by kernel_rfl⟩
theorem tr72_8:TR Tryz.prog 72 3 1 8:=⟨Tryz.underlying72,(Tryz.prog.info? 3).get!,((Tryz.prog.info? 3).get!.zero).get!,by kernel_rfl,by kernel_rfl,by kernel_rfl,by kernel_rfl,by kernel_rfl,by decide⟩
theorem ts47:TS Tryz.prog 47 2:=⟨_,Tryz.underlying47,fun _=>by kernel_rfl⟩
open Men
def pickD (r:Rg) (d:Depth):Bool:=decide (r.lo<d.frm) && decide (d.frm≤r.hi)
theorem intV_len : ∀ x:Int,(yD x).length=1:=fun _=>rfl
theorem ints_flat : ∀ (xs:List Int),(xs.map yD).flatten=ints xs
  | []=>rfl
  | x :: xs=>by simp only [List.map_cons,List.flatten_cons,ints_flat xs];rfl
theorem pick_step {dl:List Depth} {n:Int} {e:Depth} {r:Rg} (h0:0≤n) (he:dl[n.toNat]? = some e):((dl.take (n+1).toNat).filter (pickD r)).map (·.sink)=if pickD r e=true then ((dl.take n.toNat).filter (pickD r)).map (·.sink)++[e.sink] else ((dl.take n.toNat).filter (pickD r)).map (·.sink):=by
  rw [take_succ' h0 he,List.filter_append,List.map_append]
  by_cases h:pickD r e=true
  · rw [if_pos h];simp [h]
  · rw [if_neg h];simp [h]
theorem c138 {base blo bhi day:Int} {ab ad ah:Option Addr} {bs:List Band} {dl:List Depth} {h:List Rg} {cab cad cah:Nat} {r:Rg} (w:World) (hab:Sl w 3 (bs.map yH) ab) (had:Sl w 2 (dl.map zZ) ad) (hah:Sl w 2 (h.map rgV) ah) (hb:bs.length≤3∧dl.length≤4∧h.length≤16) (hd:0≤day) (hr:h[day.toNat]? = some r):Ret Tryz.prog 138 [(.agg #[(i base),(.slice ab bs.length cab),(.slice ad dl.length cad),(i blo),(i bhi),(.slice ah h.length cah)]),(i day)] w fun v w'=>∃ a c,∃ xs:List Int,v = .slice a xs.length c∧Sl w' 1 (xs.map yD) a∧w.heap.size≤blk a∧xs.length≤5∧∀ k,k∈xs↔k∈vG dl r:=by
  refine Ret.body (N:=49) Tryz.func138 rfl Tryz.ntmps138 rfl ?_
  have H:=S.start Nm w
  refine Wp.seq (Wp.region ?_)
  refine Ro.d rfl rfl rfl (H.box (l:=[i base,.slice ab bs.length cab,.slice ad dl.length cad,i blo,i bhi,.slice ah h.length cah]) rfl (v:=(.agg #[(i base),(.slice ab bs.length cab),(.slice ad dl.length cad),(i blo),(i bhi),(.slice ah h.length cah)])) rfl rfl ?_)
  intro b1 w2 Hn;replace H:=Hn;clear Hn
  refine Ro.q (v:=(.slice none 0 0)) rfl rfl (zD rfl) rfl ?_
  refine Ro.nil (nT (Wp.seq (Wp.region ?_)))
  refine Ro.q (v:=(p b1 5)) rfl rfl (zA fo151_1 rfl rfl) rfl ?_
  refine Ro.q rfl rfl (zE t1_47 rfl (H.cells 0 rfl) (j:=5) rfl rfl) rfl ?_
  refine Ro.q (v:=(i day)) rfl rfl (zB rfl) rfl ?_
  refine Ro.q rfl rfl (zY ts47 (hah.ext H.keep) rfl (by first | (simp;done) | (simp;omega)) rfl hd (zW hr)) rfl ?_
  refine Ro.q rfl rfl (zJ vL rfl ((hah.ext H.keep).cells (zW hr)) (j:=0) rfl (vs:=[i r.lo,i r.hi]) rfl rfl) rfl ?_
  refine Ro.d rfl rfl rfl (H.new (l:=[i 0,i 0]) rfl zv41 rfl ?_)
  intro b3 w4 Hn;replace H:=Hn;clear Hn
  refine Ro.d0 rfl rfl rfl (H.store (j:=0) (off:=0) (k:=2) rfl sz41 rfl (v:=(.agg #[(i r.lo),(i r.hi)])) rfl rfl rfl rfl rfl (by simp [Value.oneCell']) (cs':=[i r.lo,i r.hi]) rfl ?_)
  intro w5 Hn;replace H:=Hn;clear Hn
  refine Ro.nil (nT (Wp.seq (Wp.region ?_)))
  refine Ro.q (v:=(.slice none 0 0)) rfl rfl (zB rfl) rfl ?_
  refine Ro.q (v:=(p b1 0)) rfl rfl (zA fo151_0 rfl rfl) rfl ?_
  refine Ro.q rfl rfl (zJ ta43 rfl (H.cells 1 rfl) (j:=0) rfl (vs:=[i base,.slice ab bs.length cab,.slice ad dl.length cad,i blo,i bhi]) rfl rfl) rfl ?_
  refine Ro.q (v:=(p b3 0)) rfl rfl (zA yV rfl rfl) rfl ?_
  refine Ro.q rfl rfl (zE zM rfl (H.cells 0 rfl) (j:=0) rfl rfl) rfl ?_
  refine Ro.d rfl rfl rfl (zH rfl en150 (ce (v:=(.agg #[(i base),(.slice ab bs.length cab),(.slice ad dl.length cad),(i blo),(i bhi)])) rfl (ce (v:=(i r.lo)) rfl cn)) (c150 base blo bhi r.lo ab bs cab ad dl cad _ (hab.ext H.keep) (had.ext H.keep) (by omega)) ?_)
  intro u w6 k7 hu;subst hu;replace H:=H.ext k7
  clear k7
  refine Ro.d rfl rfl rfl (H.row (e:=3) (cs:=[i (zV dl r.lo)]) rfl (pe (v:=(i (zV dl r.lo))) rfl pn) (fun w=>by kernel_rfl) ?_)
  intro b8 w9 Hn;replace H:=Hn;clear Hn
  replace H:S Nm w ([(b8,.cells [i (zV dl r.lo)].toArray 3 (0,0)),(b3,.cells [i r.lo,i r.hi].toArray 41 (0,0)),(b1,.cells [i base,.slice ab bs.length cab,.slice ad dl.length cad,i blo,i bhi,.slice ah h.length cah].toArray 151 (0,0))]++[]) _:=H
  refine Ro.d rfl rfl rfl (H.appendE (enc:=yD) (z:=zV dl r.lo) (show OwnRow 3 1 none ([]:List Int).length 0 (([]:List Int).map yD).flatten [] from OwnRow.nil 3 1) tr72_8 rfl rfl rfl (H.cells 0 rfl) rfl (by simp [Value.oneCell']) (by decide) (by decide) ?_)
  intro a10 c11 Lr12 w13 hr14 Hn
  replace H:S Nm w ([(b8,.cells [i (zV dl r.lo)].toArray 3 (0,0)),(b3,.cells [i r.lo,i r.hi].toArray 41 (0,0)),(b1,.cells [i base,.slice ab bs.length cab,.slice ad dl.length cad,i blo,i bhi,.slice ah h.length cah].toArray 151 (0,0))]++Lr12) w13:=Hn;clear Hn
  refine Ro.q (v:=(.slice a10 ((([]:List Int)++[zV dl r.lo]).length) c11)) rfl rfl (zD rfl) rfl ?_
  refine Ro.nil (nT (Wp.seq (Wp.seq (Wp.region ?_))))
  refine Ro.q (v:=(p b1 0)) rfl rfl (zA fo151_0 rfl rfl) rfl ?_
  refine Ro.q (v:=(p b1 2)) rfl rfl (zA fo43_2 rfl rfl) rfl ?_
  refine Ro.q rfl rfl (zE t1_40 rfl (H.cells 2 rfl) (j:=2) rfl rfl) rfl ?_
  refine Ro.q rfl rfl (yG Tryz.underlying40 rfl (v:=dl.length) rfl) rfl ?_
  refine Ro.q (v:=(i 0)) rfl rfl (zB rfl) rfl ?_
  refine Ro.nil (nT (Wp.block ?_))
  refine Wp.loop (fun kM ds ρ w'=>∃ n:Int,∃ a:Option Addr,∃ c:Nat,∃ xs:List Int,∃ Lr:List (Nat×Obj),ds=[]∧(0≤n∧n≤dl.length∧xs.length≤n+1)∧kM=((dl.length:Int)-n).toNat∧ρ 5=(p b3 0)∧ρ 23=(.slice ad dl.length cad)∧ρ 24=(i ((dl.length:Nat):Int))∧ρ 25=(i n)∧ρ 4=(.slice a xs.length c)∧S Nm w ([(b8,.cells [i (zV dl r.lo)].toArray 3 (0,0)),(b3,.cells [i r.lo,i r.hi].toArray 41 (0,0)),(b1,.cells [i base,.slice ab bs.length cab,.slice ad dl.length cad,i blo,i bhi,.slice ah h.length cah].toArray 151 (0,0))]++Lr) w'∧(OwnRow 3 1 a xs.length c (xs.map yD).flatten Lr∧xs=zV dl r.lo :: ((dl.take n.toNat).filter (pickD r)).map (·.sink))) (((dl.length:Int)-0).toNat) ⟨0,a10,c11,(([]:List Int)++[zV dl r.lo]),Lr12,rfl,⟨by omega,by omega,by simp⟩,rfl,rfl,rfl,rfl,rfl,rfl,H,⟨hr14,by simp⟩⟩ ?_
  clear H
  intro kρ20 dsρ20 ρ20 w21
  rintro ⟨n,a,c,xs,Lr,rfl,hb23,hk22,f15,f16,f17,f18,f19,H,hi24⟩
  refine Wp.seq (Wp.region ?_)
  refine Ro.q rfl rfl (yB f18 f17) rfl ?_
  refine Ro.nil (nT (Wp.seq ?_))
  refine Wp.cond (t:=decide (n<((dl.length:Nat):Int))) rfl ?_ ?_
  · intro c25
    have c25r:=c25
    simp only [bx] at c25
    obtain ⟨e,he⟩:=vQ dl n (by omega) (by omega)
    refine Wp.skip (nT (Wp.seq (Wp.block (Wp.seq (Wp.region ?_)))))
    refine Ro.q rfl rfl (zY ts40 (had.ext H.keep) f16 (by first | (simp;done) | (simp;omega)) f18 (by omega) (zW he)) rfl ?_
    refine Ro.q rfl rfl (zJ ta164 rfl ((had.ext H.keep).cells (zW he)) (j:=0) rfl (vs:=[i e.frm,i e.sink]) rfl rfl) rfl ?_
    refine Ro.d rfl rfl rfl (H.new (l:=[i 0,i 0]) rfl zv164 rfl ?_)
    intro b26 w27 Hn;replace H:=Hn;clear Hn
    refine Ro.d0 rfl rfl rfl (H.store (j:=0) (off:=0) (k:=2) rfl sz164 rfl (v:=(.agg #[(i e.frm),(i e.sink)])) rfl rfl rfl rfl rfl (by simp [Value.oneCell']) (cs':=[i e.frm,i e.sink]) rfl ?_)
    intro w28 Hn;replace H:S Nm w ([(b26,.cells [i e.frm,i e.sink].toArray 164 (0,0)),(b8,.cells [i (zV dl r.lo)].toArray 3 (0,0)),(b3,.cells [i r.lo,i r.hi].toArray 41 (0,0)),(b1,.cells [i base,.slice ab bs.length cab,.slice ad dl.length cad,i blo,i bhi,.slice ah h.length cah].toArray 151 (0,0))]++Lr) w28:=Hn;clear Hn
    refine Ro.nil (nT (Wp.seq ?_))
    let qq29:Bool:=(decide (r.lo<e.frm) && (decide (e.frm≤r.hi)))
    refine Wp.factsS 12 [is (p b26 0),is (i e.frm),is (p b3 0),is (i r.lo),is (.bool (decide (r.lo<e.frm))),is (.bool (decide (r.lo<e.frm))),gdv (True∧(decide (r.lo<e.frm))=true) (p b26 0),gdv (True∧(decide (r.lo<e.frm))=true) (i e.frm),gdv (True∧(decide (r.lo<e.frm))=true) (p b3 1),gdv (True∧(decide (r.lo<e.frm))=true) (i r.hi),gdv (True∧(decide (r.lo<e.frm))=true) (.bool (decide (e.frm≤r.hi))),is (.bool qq29)] (by kernel_rfl) (Mi (Mi (Mi (Mi (Mi (Mi (Mg (Mg (Mg (Mg (Mg (Mi Mono.nil)))))))))))) (fun w' k=>H.ext k) ?_ ?_
    · refine ⟨?_,?_,?_,?_,?_,?_,?_,?_,?_,?_,?_,?_,trivial⟩
      · exact Ob.q rfl (fun _ _ B U D=>(zA fo164_0 (show (_:Value)=(p b26 0) from U 7 rfl) rfl)) rfl rfl
      · exact Ob.q rfl (fun _ _ B U D=>(zE zM (D 0 rfl) (B.cells 0 rfl) (j:=0) rfl rfl)) rfl rfl
      · exact Ob.q rfl (fun _ _ B U D=>(zA yV ((U 5 rfl).trans f15) rfl)) rfl rfl
      · exact Ob.q rfl (fun _ _ B U D=>(zE zM (D 2 rfl) (B.cells 2 rfl) (j:=0) rfl rfl)) rfl rfl
      · exact Ob.q rfl (fun _ _ B U D=>(r_gtr (D 1 rfl) (D 3 rfl))) rfl rfl
      · exact Ob.q rfl (fun _ _ B U D=>(zB (D 4 rfl))) rfl rfl
      · exact Ob.g0 rfl rfl (fun _ _ _ D=>D 5 rfl) rfl (fun _ _ B U D hC hg=>(zA fo164_0 (show (_:Value)=(p b26 0) from U 7 rfl) rfl)) rfl
      · exact Ob.g0 rfl rfl (fun _ _ _ D=>D 5 rfl) rfl (fun _ _ B U D hC hg=>(zE zM (gdy (D 6 rfl) ⟨hC,hg⟩) (B.cells 0 rfl) (j:=0) rfl rfl)) rfl
      · exact Ob.g0 rfl rfl (fun _ _ _ D=>D 5 rfl) rfl (fun _ _ B U D hC hg=>(zA yZ ((U 5 rfl).trans f15) rfl)) rfl
      · exact Ob.g0 rfl rfl (fun _ _ _ D=>D 5 rfl) rfl (fun _ _ B U D hC hg=>(zE zM (gdy (D 8 rfl) ⟨hC,hg⟩) (B.cells 2 rfl) (j:=1) rfl rfl)) rfl
      · exact Ob.g0 rfl rfl (fun _ _ _ D=>D 5 rfl) rfl (fun _ _ B U D hC hg=>(vD (gdy (D 7 rfl) ⟨hC,hg⟩) (gdy (D 9 rfl) ⟨hC,hg⟩))) rfl
      · exact Ob.q rfl (fun _ _ B U D=>(zQ (v:=(.bool qq29)) (D 5 rfl) (fun eP=>(gdy (D 10 rfl) ⟨trivial,eP⟩).trans (yF eP)) (fun eP=>yE eP))) rfl rfl
    intro ρ30 w31 k32 U33 D34;replace H:=H.ext k32
    have f35:=(U33 4 rfl).trans f19
    have f36:=(U33 5 rfl).trans f15
    have f37:ρ30 7=(p b26 0):=U33 7 rfl
    have f38:=(U33 23 rfl).trans f16
    have f39:=(U33 24 rfl).trans f17
    have f40:=(U33 25 rfl).trans f18
    have f41:ρ30 40=(.bool qq29):=D34 11 rfl
    clear U33 D34 k32
    refine Ro.nil (nT ?_)
    refine Wp.cond (t:=qq29) f41 ?_ ?_
    · intro c42
      have c42r:((decide (r.lo<e.frm) && (decide (e.frm≤r.hi))))=true:=c42
      replace c42:=c42r
      simp only [bx] at c42
      refine Wp.region ?_
      refine Ro.q (v:=(.slice a xs.length c)) rfl rfl (zB f35) rfl ?_
      refine Ro.q (v:=(p b26 1)) rfl rfl (zA fo164_1 f37 rfl) rfl ?_
      refine Ro.q rfl rfl (zE zM rfl (H.cells 0 rfl) (j:=1) rfl rfl) rfl ?_
      refine Ro.d rfl rfl rfl (H.row (e:=3) (cs:=[i e.sink]) rfl (pe (v:=(i e.sink)) rfl pn) (fun w=>by kernel_rfl) ?_)
      intro b43 w44 Hn;replace H:=Hn;clear Hn
      replace H:S Nm w ([(b43,.cells [i e.sink].toArray 3 (0,0)),(b26,.cells [i e.frm,i e.sink].toArray 164 (0,0)),(b8,.cells [i (zV dl r.lo)].toArray 3 (0,0)),(b3,.cells [i r.lo,i r.hi].toArray 41 (0,0)),(b1,.cells [i base,.slice ab bs.length cab,.slice ad dl.length cad,i blo,i bhi,.slice ah h.length cah].toArray 151 (0,0))]++Lr) _:=H
      refine Ro.d rfl rfl rfl (H.appendE (enc:=yD) (z:=e.sink) hi24.1 tr72_8 rfl rfl rfl (H.cells 0 rfl) rfl (by simp [Value.oneCell']) (by simp only [maxLen];omega) (by omega) ?_)
      intro a45 c46 Lr47 w48 hr49 Hn
      replace H:S Nm w ([(b43,.cells [i e.sink].toArray 3 (0,0)),(b26,.cells [i e.frm,i e.sink].toArray 164 (0,0)),(b8,.cells [i (zV dl r.lo)].toArray 3 (0,0)),(b3,.cells [i r.lo,i r.hi].toArray 41 (0,0)),(b1,.cells [i base,.slice ab bs.length cab,.slice ad dl.length cad,i blo,i bhi,.slice ah h.length cah].toArray 151 (0,0))]++Lr47) w48:=Hn;clear Hn
      refine Ro.q (v:=(.slice a45 ((xs++[e.sink]).length) c46)) rfl rfl (zD rfl) rfl ?_
      refine Ro.nil (nB (nT (Wp.region ?_)))
      refine Ro.q rfl rfl (zU f40 rfl (by constructor <;>omega)) rfl ?_
      refine Ro.q (v:=(i (n+1))) rfl rfl (zB rfl) rfl ?_
      refine Ro.nil (nT ?_)
      exact ⟨((dl.length:Int)-(n+1)).toNat,by omega,(n+1),a45,c46,(xs++[e.sink]),Lr47,rfl,⟨by omega,by omega,by simp;omega⟩,rfl,f36,f38,f39,rfl,rfl,(H.drop 2),⟨hr49,by rw [pick_step (by omega) he,if_pos (show pickD r e=true from c42r),hi24.2];rfl⟩⟩
    intro c42
    have c42r:((decide (r.lo<e.frm) && (decide (e.frm≤r.hi))))=false:=c42
    replace c42:=c42r
    simp only [bx] at c42
    refine Wp.skip (nB (nT (Wp.region ?_)))
    refine Ro.q rfl rfl (zU f40 rfl (by constructor <;>omega)) rfl ?_
    refine Ro.q (v:=(i (n+1))) rfl rfl (zB rfl) rfl ?_
    refine Ro.nil (nT ?_)
    exact ⟨((dl.length:Int)-(n+1)).toNat,by omega,(n+1),a,c,xs,Lr,rfl,(by omega),rfl,f36,f38,f39,rfl,f35,(H.drop 1),⟨hi24.1,by rw [pick_step (by omega) he,if_neg (by rw [show pickD r e=false from c42r];simp)];exact hi24.2⟩⟩
  intro c25
  have c25r:=c25
  simp only [bx] at c25
  refine Wp.exit (xT (xT (xB (nT (Wp.seq (Wp.region ?_))))))
  refine Ro.q (v:=(.slice a xs.length c)) rfl rfl (zB f19) rfl ?_
  have hpos:0<xs.length:=by rw [hi24.2];simp
  obtain ⟨g,tl,ha,hL,hc1,hc2,hc3⟩:=hi24.1.room hpos
  subst hL
  have hg:=H.at 3 rfl
  rw [ints_flat] at hg hc3
  refine Ro.d rfl rfl rfl (d_callM rfl en151 (ce (v:=.slice (some ⟨g,0,none⟩) xs.length c) (by rw [← ha];exact rfl) cn) (c151 (g:=g) (c:=c) (zs:=xs) (tl:=tl) _ hg (by omega) (by omega)) ?_)
  rintro u w50 ⟨ys,tl2,rfl,hk2,hg2,hc4,hyl,hys⟩
  replace H:=S.turned H hk2 hg2
  refine Ro.q (v:=(.slice (some ⟨g,0,none⟩) ys.length c)) rfl rfl (zD rfl) rfl ?_
  refine Ro.nil (nT (Wp.ret (zN ?_)))
  refine zI (v:=(.slice (some ⟨g,0,none⟩) ys.length c)) Tryz.results138 rfl ⟨H.keep,?_⟩
  exact ⟨_,_,ys,rfl,Sl.block (tl:=tl2) intV_len (by rw [ints_flat];exact H.at 3 rfl),(H.fresh (g,.cells (ints ys++tl2).toArray 3 (0,0)) (by simp)).elim id False.elim,by omega,fun k=>by rw [hys,hi24.2,List.take_of_length_le (by omega)];rfl⟩
end Go.Proofs.YthfnjppieihcfaaGreat
namespace Go.Proofs.YthfnjppieihcfaaGreat
open Go.RowKit Go.Proofs Go.Mw
theorem en149:Go.Proofs.Enters Tryz.prog 149:=Go.Proofs.enters_of Tryz.func149 (by kernel_rfl) rfl
theorem fo103_0:FO Tryz.prog 103 0 0:=fun _ _ _=>by kernel_rfl
theorem fo153_1:FO Tryz.prog 153 1 6:=fun _ _ _=>by kernel_rfl
theorem sz103 : ∀ w,(sizeOf 103).run Tryz.prog w = .ok 3 w:=fun _=>by kernel_rfl
theorem sz4 : ∀ w,(sizeOf 4).run Tryz.prog w = .ok 1 w:=fun _=>by kernel_rfl
theorem t1_4:T1 Tryz.prog 4:=⟨Tryz.isAgg4,fun _=>by kernel_rfl⟩
theorem t1_49:T1 Tryz.prog 49:=⟨Tryz.isAgg49,fun _=>by kernel_rfl⟩
theorem ta103:TA Tryz.prog 103 3:=⟨Tryz.isAgg103,fun _=>by kernel_rfl⟩
theorem ts49:TS Tryz.prog 49 3:=⟨_,Tryz.underlying49,fun _=>by kernel_rfl⟩
theorem zv103:ZV Tryz.prog 103 (.agg #[(i 0),(i 0),(i 0)]):=Tryz.zeroValue103
open Men
theorem fits_ok2 {p a:Bool} (h:((p && true) && !a)=false):(!(p && !a))=true:=by cases p <;>cases a <;>simp_all
theorem fits_no2 {p a:Bool} (h:((p && true) && !a)=true):(!(p && !a))=false:=by cases p <;>cases a <;>simp_all
theorem c133 (base:Int) (blo:Int) (bhi:Int) (day:Int) (z:Int) (ab:Option Addr) (bs:List Band) (cab:Nat) (ad:Option Addr) (dl:List Depth) (cad:Nat) (ah:Option Addr) (h:List Rg) (cah:Nat) (ai:Option Addr) (ices:List Ice) (cai:Nat) (w:World) (hab:Sl w 3 (bs.map yH) ab) (had:Sl w 2 (dl.map zZ) ad) (hah:Sl w 2 (h.map rgV) ah) (hai:Sl w 3 (ices.map iceV) ai) (hl:ices.length≤8) (hz:(-1000000≤z∧z≤1000000)) (hin : ∀ e,e∈ices→(-1000000≤e.zero∧e.zero≤1000000)∧(-1000000≤e.err∧e.err≤1000000)):Rv Tryz.prog 133 [(.agg #[(i base),(.slice ab bs.length cab),(.slice ad dl.length cad),(i blo),(i bhi),(.slice ah h.length cah),(.slice ai ices.length cai)]),(i day),(i z),(.agg #[(.bool false),(.bool false),(.bool false),(.bool false),(.bool false),(.bool false),(.bool false),(.bool false)])] w (.bool (fitsB ices day z)):=by
  refine Ret.body (N:=39) Tryz.func133 rfl Tryz.ntmps133 rfl ?_
  have H:=S.start Nm w
  refine Wp.seq (Wp.region ?_)
  refine Ro.d rfl rfl rfl (H.box (l:=[i base,.slice ab bs.length cab,.slice ad dl.length cad,i blo,i bhi,.slice ah h.length cah,.slice ai ices.length cai]) rfl (v:=(.agg #[(i base),(.slice ab bs.length cab),(.slice ad dl.length cad),(i blo),(i bhi),(.slice ah h.length cah),(.slice ai ices.length cai)])) rfl rfl ?_)
  intro b1 w2 Hn;replace H:=Hn;clear Hn
  refine Ro.d rfl rfl rfl (H.box (l:=[.bool false,.bool false,.bool false,.bool false,.bool false,.bool false,.bool false,.bool false]) rfl (v:=(.agg #[(.bool false),(.bool false),(.bool false),(.bool false),(.bool false),(.bool false),(.bool false),(.bool false)])) rfl rfl ?_)
  intro b3 w4 Hn;replace H:=Hn;clear Hn
  refine Ro.q (v:=(.bool false)) rfl rfl (zD rfl) rfl ?_
  refine Ro.nil (nT (Wp.seq (Wp.seq (Wp.region ?_))))
  refine Ro.q (v:=(p b1 6)) rfl rfl (zA fo153_1 rfl rfl) rfl ?_
  refine Ro.q rfl rfl (zE t1_49 rfl (H.cells 1 rfl) (j:=6) rfl rfl) rfl ?_
  refine Ro.q rfl rfl (yG Tryz.underlying49 rfl (v:=ices.length) rfl) rfl ?_
  refine Ro.q (v:=(i 0)) rfl rfl (zB rfl) rfl ?_
  refine Ro.nil (nT (Wp.block ?_))
  refine Wp.loop (fun kM ds ρ w'=>∃ n:Int,ds=[]∧(0≤n∧n≤ices.length)∧kM=((ices.length:Int)-n).toNat∧ρ 1=(i day)∧ρ 2=(i z)∧ρ 7=(p b3 0)∧ρ 13=(.slice ai ices.length cai)∧ρ 14=(i ((ices.length:Nat):Int))∧ρ 15=(i n)∧S Nm w [(b3,.cells [.bool false,.bool false,.bool false,.bool false,.bool false,.bool false,.bool false,.bool false].toArray 196 (0,0)),(b1,.cells [i base,.slice ab bs.length cab,.slice ad dl.length cad,i blo,i bhi,.slice ah h.length cah,.slice ai ices.length cai].toArray 153 (0,0))] w'∧((ices.take n.toNat).all (fun x=>!(decide (x.day=day) && !agreesB x z))=true)) (((ices.length:Int)-0).toNat) ⟨0,rfl,(by omega),rfl,rfl,rfl,rfl,rfl,rfl,rfl,H,(by simp)⟩ ?_
  clear H
  intro kρ11 dsρ11 ρ11 w12
  rintro ⟨n,rfl,hb14,hk13,f5,f6,f7,f8,f9,f10,H,hi15⟩
  refine Wp.seq (Wp.region ?_)
  refine Ro.q rfl rfl (yB f10 f9) rfl ?_
  refine Ro.nil (nT (Wp.seq ?_))
  refine Wp.cond (t:=decide (n<((ices.length:Nat):Int))) rfl ?_ ?_
  · intro c16
    have c16r:=c16
    simp only [bx] at c16
    obtain ⟨e,he⟩:=vQ ices n (by omega) (by omega)
    have hei:=hin e (List.mem_of_getElem? he)
    refine Wp.skip (nT (Wp.seq (Wp.block (Wp.seq (Wp.region ?_)))))
    refine Ro.q (v:=(i n)) rfl rfl (zB f10) rfl ?_
    refine Ro.q rfl rfl (zY ts49 (hai.ext H.keep) f8 (by simp) f10 (by omega) (zW he)) rfl ?_
    refine Ro.q rfl rfl (zJ ta103 rfl ((hai.ext H.keep).cells (zW he)) (j:=0) rfl (vs:=[i e.day,i e.zero,i e.err]) rfl rfl) rfl ?_
    refine Ro.d rfl rfl rfl (H.new (l:=[i 0,i 0,i 0]) rfl zv103 rfl ?_)
    intro b17 w18 Hn;replace H:=Hn;clear Hn
    refine Ro.q (v:=(i n)) rfl rfl (zD rfl) rfl ?_
    refine Ro.d0 rfl rfl rfl (H.store (j:=0) (off:=0) (k:=3) rfl sz103 rfl (v:=(.agg #[(i e.day),(i e.zero),(i e.err)])) rfl rfl rfl rfl rfl (by simp [Value.oneCell']) (cs':=[i e.day,i e.zero,i e.err]) rfl ?_)
    intro w19 Hn;replace H:=Hn;clear Hn
    refine Ro.nil (nT (Wp.seq (Wp.region ?_)))
    refine Ro.q rfl rfl (zJ ta103 rfl (H.cells 0 rfl) (j:=0) rfl (vs:=[i e.day,i e.zero,i e.err]) rfl rfl) rfl ?_
    refine Ro.q (v:=(.func (.func 149) #[(.agg #[(i e.day),(i e.zero),(i e.err)])] #[])) rfl rfl (uH (ce (v:=(.agg #[(i e.day),(i e.zero),(i e.err)])) rfl cn) cn) rfl ?_
    refine Ro.q (v:=(.func (.func 149) #[(.agg #[(i e.day),(i e.zero),(i e.err)])] #[])) rfl rfl (zD rfl) rfl ?_
    refine Ro.nil (nT (Wp.seq ?_))
    let qq20:Bool:=(decide (e.day=day) && true)
    let qq21:Bool:=decide (-e.err≤z-e.zero) && decide (z-e.zero≤e.err)
    let qq22:Bool:=(qq20 && (!qq21))
    refine Wp.factsS 16 [is (p b17 0),is (i e.day),is (i day),is (.bool (decide (e.day=day))),is (.bool (decide (e.day=day))),gdv (True∧(decide (e.day=day))=true) (i n),gdv (True∧(decide (e.day=day))=true) (p b3 n.toNat),gdv (True∧(decide (e.day=day))=true) (.bool false),gdv (True∧(decide (e.day=day))=true) (.bool true),is (.bool qq20),is (.bool qq20),gdv (True∧qq20=true) (.func (.func 149) #[(.agg #[(i e.day),(i e.zero),(i e.err)])] #[]),gdv (True∧qq20=true) (i z),gdv (True∧qq20=true) (.bool qq21),gdv (True∧qq20=true) (.bool (!qq21)),is (.bool qq22)] (by kernel_rfl) (Mi (Mi (Mi (Mi (Mi (Mg (Mg (Mg (Mg (Mi (Mi (Mg (Mg (Mg (Mg (Mi Mono.nil)))))))))))))))) (fun w' k=>H.ext k) ?_ ?_
    · refine ⟨?_,?_,?_,?_,?_,?_,?_,?_,?_,?_,?_,?_,?_,?_,?_,?_,trivial⟩
      · exact Ob.q rfl (fun _ _ B U D=>(zA fo103_0 (show (_:Value)=(p b17 0) from U 10 rfl) rfl)) rfl rfl
      · exact Ob.q rfl (fun _ _ B U D=>(zE zM (D 0 rfl) (B.cells 0 rfl) (j:=0) rfl rfl)) rfl rfl
      · exact Ob.q rfl (fun _ _ B U D=>(zB ((U 1 rfl).trans f5))) rfl rfl
      · exact Ob.q rfl (fun _ _ B U D=>(vR (D 1 rfl) (D 2 rfl))) rfl rfl
      · exact Ob.q rfl (fun _ _ B U D=>(zB (D 3 rfl))) rfl rfl
      · exact Ob.g0 rfl rfl (fun _ _ _ D=>D 4 rfl) rfl (fun _ _ B U D hC hg=>(zB (show (_:Value)=(i n) from U 9 rfl))) rfl
      · exact Ob.g0 rfl rfl (fun _ _ _ D=>D 4 rfl) rfl (fun _ _ B U D hC hg=>(yJ Tryz.underlying196 sz4 ((U 7 rfl).trans f7) (gdy (D 5 rfl) ⟨hC,hg⟩) (by omega) (by omega))) rfl
      · exact Ob.g0 rfl rfl (fun _ _ _ D=>D 4 rfl) rfl (fun _ _ B U D hC hg=>(zE t1_4 (gdy (D 6 rfl) ⟨hC,hg⟩) (B.cells 1 rfl) (j:=n.toNat) (by simp) (show (List.replicate 8 (.bool false:Value))[n.toNat]? = some _ from rep_get (by omega)))) rfl
      · exact Ob.g0 rfl rfl (fun _ _ _ D=>D 4 rfl) rfl (fun _ _ B U D hC hg=>(Runs.to (yN (gdy (D 7 rfl) ⟨hC,hg⟩)) (by rfl))) rfl
      · exact Ob.q rfl (fun _ _ B U D=>(zQ (v:=(.bool qq20)) (D 4 rfl) (fun eP=>(gdy (D 8 rfl) ⟨trivial,eP⟩).trans (yF eP)) (fun eP=>yE eP))) rfl rfl
      · exact Ob.q rfl (fun _ _ B U D=>(zB (D 9 rfl))) rfl rfl
      · exact Ob.g0 rfl rfl (fun _ _ _ D=>D 10 rfl) rfl (fun _ _ B U D hC hg=>(zB (show (_:Value)=(.func (.func 149) #[(.agg #[(i e.day),(i e.zero),(i e.err)])] #[]) from U 11 rfl))) rfl
      · exact Ob.g0 rfl rfl (fun _ _ _ D=>D 10 rfl) rfl (fun _ _ B U D hC hg=>(zB ((U 2 rfl).trans f6))) rfl
      · exact Ob.gd (C:=True) (g:=qq20) rfl rfl (fun ρ' w' U D=>⟨fun _=>(D 10 rfl),fun h=>absurd trivial h⟩) (fun _ h=>⟨fun hc=>absurd hc (yQ h),fun _=>rfl⟩) fun ρ' w' B U D hC hg=>uG (fv:=[.agg #[(i e.day),(i e.zero),(i e.err)]]) (cv:=[]) rfl (gdy (D 11 rfl) ⟨hC,hg⟩) en149 (ce (v:=(i z)) (gdy (D 12 rfl) ⟨hC,hg⟩) cn) (c149 e.day e.zero e.err z _ (by omega)) (fun u w2 k2 hu=>⟨k2,⟨fun _=>hu,fun n=>absurd ⟨hC,hg⟩ n⟩⟩)
      · exact Ob.g0 rfl rfl (fun _ _ _ D=>D 10 rfl) rfl (fun _ _ B U D hC hg=>(yN (gdy (D 13 rfl) ⟨hC,hg⟩))) rfl
      · exact Ob.q rfl (fun _ _ B U D=>(zQ (v:=(.bool qq22)) (D 10 rfl) (fun eP=>(gdy (D 14 rfl) ⟨trivial,eP⟩).trans (yF eP)) (fun eP=>yE eP))) rfl rfl
    intro ρ23 w24 k25 U26 D27;replace H:=H.ext k25
    have f28:=(U26 1 rfl).trans f5
    have f29:=(U26 2 rfl).trans f6
    have f30:=(U26 7 rfl).trans f7
    have f31:=(U26 13 rfl).trans f8
    have f32:=(U26 14 rfl).trans f9
    have f33:=(U26 15 rfl).trans f10
    have f34:ρ23 37=(.bool qq22):=D27 15 rfl
    clear U26 D27 k25
    refine Ro.nil (nT ?_)
    refine Wp.cond (t:=qq22) f34 ?_ ?_
    · intro c35
      have c35r:(((decide (e.day=day) && true) && (!(decide (-e.err≤z-e.zero) && decide (z-e.zero≤e.err)))))=true:=c35
      replace c35:=c35r
      simp only [bx] at c35
      refine Wp.seq (Wp.region ?_)
      refine Ro.q (v:=(.bool false)) rfl rfl (zD rfl) rfl ?_
      refine Ro.nil (nT (Wp.ret (rB (rT (rT (rB (rT (zN ?_))))))))
      refine zI (v:=(.bool false)) Tryz.results133 rfl ⟨H.keep,?_⟩
      exact congrArg Value.bool (all_bad he (fits_no2 c35r)).symm
    intro c35
    have c35r:(((decide (e.day=day) && true) && (!(decide (-e.err≤z-e.zero) && decide (z-e.zero≤e.err)))))=false:=c35
    replace c35:=c35r
    simp only [bx] at c35
    refine Wp.skip (nB (nT (Wp.region ?_)))
    refine Ro.q rfl rfl (zU f33 rfl (by constructor <;>omega)) rfl ?_
    refine Ro.q (v:=(i (n+1))) rfl rfl (zB rfl) rfl ?_
    refine Ro.nil (nT ?_)
    exact ⟨((ices.length:Int)-(n+1)).toNat,by omega,(n+1),rfl,(by omega),rfl,f28,f29,f30,f31,f32,rfl,(H.drop 1),(all_take (by omega) he hi15 (fits_ok2 c35r))⟩
  intro c16
  have c16r:=c16
  simp only [bx] at c16
  refine Wp.exit (xT (xT (xB (nT (Wp.seq (Wp.region ?_))))))
  refine Ro.q (v:=(.bool true)) rfl rfl (zD rfl) rfl ?_
  refine Ro.nil (nT (Wp.ret (zN ?_)))
  refine zI (v:=(.bool true)) Tryz.results133 rfl ⟨H.keep,?_⟩
  exact congrArg Value.bool (all_end (by omega) hi15).symm
end Go.Proofs.YthfnjppieihcfaaGreat
namespace Go.Proofs.YthfnjppieihcfaaGreat
open Go.RowKit Go.Proofs Go.Mw
theorem en137:Go.Proofs.Enters Tryz.prog 137:=Go.Proofs.enters_of Tryz.func137 (by kernel_rfl) rfl
theorem en138:Go.Proofs.Enters Tryz.prog 138:=Go.Proofs.enters_of Tryz.func138 (by kernel_rfl) rfl
theorem en139:Go.Proofs.Enters Tryz.prog 139:=Go.Proofs.enters_of Tryz.func139 (by kernel_rfl) rfl
theorem ta151:TA Tryz.prog 151 6:=⟨Tryz.isAgg151,fun _=>by kernel_rfl⟩
open Men
theorem c115 {base blo bhi day rise sink:Int} {ab ad ah:Option Addr} {bs:List Band} {dl:List Depth} {h:List Rg} {cab cad cah:Nat} (w:World):Ret Tryz.prog 115 [(.agg #[(i base),(.slice ab bs.length cab),(.slice ad dl.length cad),(i blo),(i bhi),(.slice ah h.length cah)]),(.agg #[(i rise),(i sink)]),(i day)] w fun v w'=>∃ b1 b2 b3,v = .func (.func 136) #[] #[p b1 0,p b2 0,p b3 0]∧(Cells w' b1 0 [i base,.slice ab bs.length cab,.slice ad dl.length cad,i blo,i bhi,.slice ah h.length cah]∧Cells w' b2 0 [i day]∧Cells w' b3 0 [i rise,i sink])∧w.heap.size≤b1∧w.heap.size≤b2∧w.heap.size≤b3:=by
  refine Ret.body (N:=8) Tryz.func115 rfl Tryz.ntmps115 rfl ?_
  have H:=S.start Nm w
  refine Wp.seq (Wp.region ?_)
  refine Ro.d rfl rfl rfl (H.box (l:=[i base,.slice ab bs.length cab,.slice ad dl.length cad,i blo,i bhi,.slice ah h.length cah]) rfl (v:=(.agg #[(i base),(.slice ab bs.length cab),(.slice ad dl.length cad),(i blo),(i bhi),(.slice ah h.length cah)])) rfl rfl ?_)
  intro b1 w2 Hn;replace H:=Hn;clear Hn
  refine Ro.d rfl rfl rfl (H.box (l:=[i rise,i sink]) rfl (v:=(.agg #[(i rise),(i sink)])) rfl rfl ?_)
  intro b3 w4 Hn;replace H:=Hn;clear Hn
  refine Ro.d rfl rfl rfl (H.box (l:=[i day]) rfl (v:=(i day)) rfl rfl ?_)
  intro b5 w6 Hn;replace H:=Hn;clear Hn
  refine Ro.q (v:=.nilFunc) rfl rfl (zD rfl) rfl ?_
  refine Ro.nil (nT (Wp.seq (Wp.region ?_)))
  refine Ro.q (v:=(.func (.func 136) #[] #[(p b1 0),(p b5 0),(p b3 0)])) rfl rfl (uH cn (ce (v:=(p b1 0)) rfl (ce (v:=(p b5 0)) rfl (ce (v:=(p b3 0)) rfl cn)))) rfl ?_
  refine Ro.q (v:=(.func (.func 136) #[] #[(p b1 0),(p b5 0),(p b3 0)])) rfl rfl (zD rfl) rfl ?_
  refine Ro.nil (nT (Wp.ret (zN ?_)))
  refine zI (v:=(.func (.func 136) #[] #[(p b1 0),(p b5 0),(p b3 0)])) Tryz.results115 rfl ⟨H.keep,?_⟩
  refine ⟨_,_,_,rfl,⟨H.cells 2 rfl,H.cells 0 rfl,H.cells 1 rfl⟩,?_,?_,?_⟩
  · exact (H.fresh _ (List.mem_of_getElem? (i:=2) rfl)).elim id False.elim
  · exact (H.fresh _ (List.mem_of_getElem? (i:=0) rfl)).elim id False.elim
  · exact (H.fresh _ (List.mem_of_getElem? (i:=1) rfl)).elim id False.elim
structure F136 (base blo bhi day rise sink:Int) (ab ad ah:Option Addr) (bs:List Band) (dl:List Depth) (h:List Rg) (cab cad cah:Nat) (b1 b2 b3:Nat) (a:Option Addr) (xs:List Int) (n0:Nat) (wb:World):Prop where
  c1:Cells wb b1 0 [i base,.slice ab bs.length cab,.slice ad dl.length cad,i blo,i bhi,.slice ah h.length cah]
  c2:Cells wb b2 0 [i day]
  c3:Cells wb b3 0 [i rise,i sink]
  sd:Sl wb 1 (xs.map yD) a
  sz:n0≤wb.heap.size
theorem F136.next {base blo bhi day rise sink:Int} {ab ad ah:Option Addr} {bs:List Band} {dl:List Depth} {h:List Rg} {cab cad cah:Nat} {b1 b2 b3:Nat} {a:Option Addr} {xs:List Int} {n0:Nat} {wb w2 w3:World} {M Mc:Nat→Prop} (F:F136 base blo bhi day rise sink ab ad ah bs dl h cab cad cah b1 b2 b3 a xs n0 wb) (k:Keep M wb w2) (kc:Keep Mc w2 w3)
    (h1 : ¬ M b1) (h2 : ¬ M b2) (h3 : ¬ M b3) (h4 : ¬ M (blk a)) (g1 : ¬ Mc b1) (g2 : ¬ Mc b2) (g3 : ¬ Mc b3) (g4 : ¬ Mc (blk a)):F136 base blo bhi day rise sink ab ad ah bs dl h cab cad cah b1 b2 b3 a xs n0 w3 :=
  ⟨(F.c1.keep h1 k).keep g1 kc,(F.c2.keep h2 k).keep g2 kc,(F.c3.keep h3 k).keep g3 kc,(F.sd.keep (fun _=>h4) k).keep (fun _=>g4) kc,Nat.le_trans F.sz (Nat.le_trans k.size kc.size)⟩
theorem c136 {base blo bhi day rise sink:Int} {ab ad ah:Option Addr} {bs:List Band} {dl:List Depth} {h:List Rg} {cab cad cah:Nat} {r:Rg} {b1 b2 b3:Nat} {Mc:Nat→Prop} (w:World) (hab:Sl w 3 (bs.map yH) ab) (had:Sl w 2 (dl.map zZ) ad) (hah:Sl w 2 (h.map rgV) ah) (hc1:Cells w b1 0 [i base,.slice ab bs.length cab,.slice ad dl.length cad,i blo,i bhi,.slice ah h.length cah]) (hc2:Cells w b2 0 [i day]) (hc3:Cells w b3 0 [i rise,i sink]) (hMc : ∀ k,Mc k→k<w.heap.size) (m1 : ¬ Mc b1) (m2 : ¬ Mc b2) (m3 : ¬ Mc b3) (hbd:bs.length≤3∧dl.length≤4∧h.length≤16) (hday:0≤day) (hr:h[day.toNat]? = some r) (hcr:(zL bs day).to 3) (hbk:0≤blo∧blo≤bhi∧bhi≤5) (hst:(0≤rise∧rise≤1000)∧(0≤sink∧sink≤1000)) (hdp : ∀ k,k∈vG dl r→0≤k∧k≤1000):SeqC Tryz.prog 136 [p b1 0,p b2 0,p b3 0] uF (fun t=>Gone (rise,sink) ⟨(zL bs day).lo,(zL bs day).hi⟩ ⟨blo,bhi⟩ (vG dl r) t) Mc w:=by
  intro l J Jx hJ hJx hy h0
  have q1:=hc1.lt
  have q2:=hc2.lt
  have q3:=hc3.lt
  unfold Men.Rg.to at hcr
  refine Calls.body' (N:=51) Tryz.func136 rfl Tryz.ntmps136 rfl ?_
  have H:=S.start Nm w
  refine Wp.seq (Wp.region ?_)
  refine Ro.q (v:=(p b1 0)) rfl rfl (zA fo151_0 rfl rfl) rfl ?_
  refine Ro.q rfl rfl (zJ ta43 rfl (hc1.ext H.keep) (j:=0) rfl (vs:=[i base,.slice ab bs.length cab,.slice ad dl.length cad,i blo,i bhi]) rfl rfl) rfl ?_
  refine Ro.q rfl rfl (zE zM rfl (hc2.ext H.keep) (j:=0) rfl rfl) rfl ?_
  refine Ro.d rfl rfl rfl (zH rfl en137 (ce (v:=(.agg #[(i base),(.slice ab bs.length cab),(.slice ad dl.length cad),(i blo),(i bhi)])) rfl (ce (v:=(i day)) rfl cn)) (c137 base blo bhi day ab bs cab ad dl cad _ (hab.ext H.keep) (had.ext H.keep) (by omega)) ?_)
  intro u w1 k2 hu;subst hu;replace H:=H.ext k2
  clear k2
  refine Ro.d rfl rfl rfl (H.new (l:=[.int .i64 0,.int .i64 0]) rfl zv41 rfl ?_)
  intro b5 w5 Hn;replace H:=Hn;clear Hn
  refine Ro.d0 rfl rfl rfl (H.store (j:=0) (off:=0) (k:=2) rfl sz41 rfl (v:=(.agg #[(i ((zL bs day).lo)),(i ((zL bs day).hi))])) rfl rfl rfl rfl rfl (by simp [Value.oneCell']) (cs':=[i ((zL bs day).lo),i ((zL bs day).hi)]) rfl ?_)
  intro w3 Hn;replace H:=Hn;clear Hn
  refine Ro.nil (nT (Wp.seq (Wp.region ?_)))
  refine Ro.q rfl rfl (zJ ta151 rfl (hc1.ext H.keep) (j:=0) rfl (vs:=[i base,.slice ab bs.length cab,.slice ad dl.length cad,i blo,i bhi,.slice ah h.length cah]) rfl rfl) rfl ?_
  refine Ro.q rfl rfl (zE zM rfl (hc2.ext H.keep) (j:=0) rfl rfl) rfl ?_
  refine Ro.d rfl rfl rfl (zH rfl en138 (ce (v:=(.agg #[(i base),(.slice ab bs.length cab),(.slice ad dl.length cad),(i blo),(i bhi),(.slice ah h.length cah)])) rfl (ce (v:=(i day)) rfl cn)) (c138 _ (hab.ext H.keep) (had.ext H.keep) (hah.ext H.keep) hbd hday hr) ?_)
  rintro u w4 k5 ⟨a,ca,xs,rfl,hsl,hafr,hxl,hxs⟩
  have hb5:=H.fresh _ (List.mem_of_getElem? (i:=0) rfl)
  have hb5:w.heap.size≤b5:=hb5.elim id False.elim
  have hb5l:b5<_:=H.lt (List.mem_of_getElem? (i:=0) rfl)
  have hna5:blk a≠b5:=by have:=hafr;intro e;omega
  have n1 : ¬ b1=b5:=by omega
  have n2 : ¬ b2=b5:=by omega
  have n3 : ¬ b3=b5:=by omega
  have hnaw:w.heap.size≤blk a:=Nat.le_trans H.keep.size hafr
  have HF0:F136 base blo bhi day rise sink ab ad ah bs dl h cab cad cah b1 b2 b3 a xs w.heap.size w4:=⟨(hc1.ext H.keep).ext k5,(hc2.ext H.keep).ext k5,(hc3.ext H.keep).ext k5,hsl,Nat.le_trans H.keep.size k5.size⟩
  have hJ0:J [] w4:=hJ _ _ _ h0 ((H.keep.trans k5).any)
  replace H:S (fun k=>k=b5) w4 [(b5,.cells [.int .i64 (zL bs day).lo,.int .i64 (zL bs day).hi].toArray 41 (0,0))] w4:=(H.ext k5).rebase (Keep.refl Nm _) (fun _ _ h=>h) (by simp)
  refine Ro.q rfl rfl (yG Tryz.underlying72 rfl (v:=xs.length) rfl) rfl ?_
  refine Ro.q (v:=(i 0)) rfl rfl (zB rfl) rfl ?_
  refine Ro.nil (nT (Wp.block ?_))
  refine Wp.loop (fun kM ds ρ w'=>∃ wb:World,∃ pre:List St,∃ j:Int,ds=[]∧(0≤j∧j≤xs.length)∧kM=((xs.length:Int)-j).toNat∧ρ 0=(.func (.yield l) #[] #[])∧ρ 1=(p b1 0)∧ρ 3=(p b3 0)∧ρ 5=(p b5 0)∧ρ 16=(.slice a xs.length ca)∧ρ 17=(i ((xs.length:Nat):Int))∧ρ 18=(i j)∧S (fun k=>k=b5) wb [(b5,.cells [i ((zL bs day).lo),i ((zL bs day).hi)].toArray 41 (0,0))] w'∧(F136 base blo bhi day rise sink ab ad ah bs dl h cab cad cah b1 b2 b3 a xs w.heap.size wb∧J pre wb∧(∀ t,t∈pre↔Gone (rise,sink) ⟨(zL bs day).lo,(zL bs day).hi⟩ ⟨blo,bhi⟩ (xs.take j.toNat) t))) (((xs.length:Int)-0).toNat) ⟨w4,([]),0,rfl,(by omega),rfl,rfl,rfl,rfl,rfl,rfl,rfl,rfl,H,⟨HF0,hJ0,fun t=>⟨(fun h=>by cases h),(fun h=>by simp at h;exact absurd h Gone.none_k)⟩⟩⟩ ?_
  clear H
  intro kρ13 dsρ13 ρ13 w14
  rintro ⟨wb,pre,j,rfl,hb16,hk15,f6,f7,f8,f9,f10,f11,f12,H,hi17⟩
  refine Wp.seq (Wp.region ?_)
  refine Ro.q rfl rfl (yB f12 f11) rfl ?_
  refine Ro.nil (nT (Wp.seq ?_))
  refine Wp.cond (t:=decide (j<((xs.length:Nat):Int))) rfl ?_ ?_
  · intro c18
    have c18r:=c18
    simp only [bx] at c18
    obtain ⟨k0,he⟩:=vQ xs j (by omega) (by omega)
    have hk0b:=hdp k0 ((hxs k0).1 (List.mem_of_getElem? he))
    refine Wp.skip (nT (Wp.seq (Wp.block (Wp.seq (Wp.region ?_)))))
    refine Ro.q rfl rfl (zY ts72 ((hi17.1.sd.keep (fun _=>hna5) H.keep)) f10 (by simp) f12 (by omega) (zW he)) rfl ?_
    refine Ro.q rfl rfl (zE zM rfl (((hi17.1.sd.keep (fun _=>hna5) H.keep)).cells (zW he)) (j:=0) rfl rfl) rfl ?_
    refine Ro.q (v:=(i k0)) rfl rfl (zD rfl) rfl ?_
    refine Ro.nil (nT (Wp.seq (Wp.region ?_)))
    refine Ro.q (v:=(p b1 0)) rfl rfl (zA fo151_0 f7 rfl) rfl ?_
    refine Ro.q (v:=(p b1 3)) rfl rfl (zA fo43_3 rfl rfl) rfl ?_
    refine Ro.q (v:=(p b1 3)) rfl rfl (zA yV rfl rfl) rfl ?_
    refine Ro.q rfl rfl (zE zM rfl (hi17.1.c1.keep n1 H.keep) (j:=3) rfl rfl) rfl ?_
    refine Ro.q (v:=(i blo)) rfl rfl (zD rfl) rfl ?_
    refine Ro.nil (nT (Wp.block ?_))
    refine Wp.loop (fun kM ds ρ w'=>∃ wb:World,∃ pre:List St,∃ b:Int,ds=[]∧(blo≤b∧b≤bhi+1)∧kM=(bhi+1-b).toNat∧ρ 0=(.func (.yield l) #[] #[])∧ρ 1=(p b1 0)∧ρ 3=(p b3 0)∧ρ 5=(p b5 0)∧ρ 7=(i k0)∧ρ 16=(.slice a xs.length ca)∧ρ 17=(i ((xs.length:Nat):Int))∧ρ 18=(i j)∧ρ 8=(i b)∧S (fun k=>k=b5) wb [(b5,.cells [i ((zL bs day).lo),i ((zL bs day).hi)].toArray 41 (0,0))] w'∧(F136 base blo bhi day rise sink ab ad ah bs dl h cab cad cah b1 b2 b3 a xs w.heap.size wb∧J pre wb∧(∀ t,t∈pre↔Gone (rise,sink) ⟨(zL bs day).lo,(zL bs day).hi⟩ ⟨blo,bhi⟩ (xs.take j.toNat) t∨Gone (rise,sink) ⟨(zL bs day).lo,(zL bs day).hi⟩ ⟨blo,b-1⟩ [k0] t))) ((bhi+1-blo).toNat) ⟨wb,pre,blo,rfl,(by omega),rfl,f6,f7,f8,f9,rfl,f10,f11,f12,rfl,(H.drop 0),⟨hi17.1,hi17.2.1,fun t=>by rw [hi17.2.2 t,or_iff_left Gone.none_b]⟩⟩ ?_
    clear H
    intro kρ28 dsρ28 ρ28 w29
    rintro ⟨wb,pre,b,rfl,hb31,hk30,f19,f20,f21,f22,f23,f24,f25,f26,f27,H,hi32⟩
    refine Wp.seq (Wp.seq (Wp.region ?_))
    refine Ro.q (v:=(i b)) rfl rfl (zB f27) rfl ?_
    refine Ro.q (v:=(p b1 0)) rfl rfl (zA fo151_0 f20 rfl) rfl ?_
    refine Ro.q (v:=(p b1 3)) rfl rfl (zA fo43_3 rfl rfl) rfl ?_
    refine Ro.q (v:=(p b1 4)) rfl rfl (zA yZ rfl rfl) rfl ?_
    refine Ro.q rfl rfl (zE zM rfl (hi32.1.c1.keep n1 H.keep) (j:=4) rfl rfl) rfl ?_
    refine Ro.q rfl rfl (vD rfl rfl) rfl ?_
    refine Ro.nil (nT ?_)
    refine Wp.cond (t:=decide (b≤bhi)) rfl ?_ ?_
    · intro c33
      have c33r:=c33
      simp only [bx] at c33
      refine Wp.skip (nT (Wp.seq (Wp.block (Wp.seq (Wp.region ?_)))))
      refine Ro.q (v:=(p b5 0)) rfl rfl (zA yV f22 rfl) rfl ?_
      refine Ro.q rfl rfl (zE zM rfl (H.cells 0 rfl) (j:=0) rfl rfl) rfl ?_
      refine Ro.q (v:=(i ((zL bs day).lo))) rfl rfl (zD rfl) rfl ?_
      refine Ro.nil (nT (Wp.block ?_))
      refine Wp.loop (fun kM ds ρ w'=>∃ wb:World,∃ pre:List St,∃ c:Int,ds=[]∧((zL bs day).lo≤c∧c≤(zL bs day).hi+1)∧kM=((zL bs day).hi+1-c).toNat∧ρ 0=(.func (.yield l) #[] #[])∧ρ 1=(p b1 0)∧ρ 3=(p b3 0)∧ρ 5=(p b5 0)∧ρ 7=(i k0)∧ρ 8=(i b)∧ρ 16=(.slice a xs.length ca)∧ρ 17=(i ((xs.length:Nat):Int))∧ρ 18=(i j)∧ρ 9=(i c)∧S (fun k=>k=b5) wb [(b5,.cells [i ((zL bs day).lo),i ((zL bs day).hi)].toArray 41 (0,0))] w'∧(F136 base blo bhi day rise sink ab ad ah bs dl h cab cad cah b1 b2 b3 a xs w.heap.size wb∧J pre wb∧(∀ t,t∈pre↔Gone (rise,sink) ⟨(zL bs day).lo,(zL bs day).hi⟩ ⟨blo,bhi⟩ (xs.take j.toNat) t∨Gone (rise,sink) ⟨(zL bs day).lo,(zL bs day).hi⟩ ⟨blo,b-1⟩ [k0] t∨Gone (rise,sink) ⟨(zL bs day).lo,c-1⟩ ⟨b,b⟩ [k0] t))) (((zL bs day).hi+1-((zL bs day).lo)).toNat) ⟨wb,pre,((zL bs day).lo),rfl,(by omega),rfl,f19,f20,f21,f22,f23,f27,f24,f25,f26,rfl,(H.drop 0),⟨hi32.1,hi32.2.1,fun t=>by rw [hi32.2.2 t];simp only [Gone.none_c,or_false]⟩⟩ ?_
      clear H
      intro kρ44 dsρ44 ρ44 w45
      rintro ⟨wb,pre,c,rfl,hb47,hk46,f34,f35,f36,f37,f38,f39,f40,f41,f42,f43,H,hi48⟩
      refine Wp.seq (Wp.seq (Wp.region ?_))
      refine Ro.q (v:=(i c)) rfl rfl (zB f43) rfl ?_
      refine Ro.q (v:=(p b5 1)) rfl rfl (zA yZ f37 rfl) rfl ?_
      refine Ro.q rfl rfl (zE zM rfl (H.cells 0 rfl) (j:=1) rfl rfl) rfl ?_
      refine Ro.q rfl rfl (vD rfl rfl) rfl ?_
      refine Ro.nil (nT ?_)
      refine Wp.cond (t:=decide (c≤((zL bs day).hi))) rfl ?_ ?_
      · intro c49
        have c49r:=c49
        simp only [bx] at c49
        refine Wp.skip (nT (Wp.seq (Wp.block (Wp.seq (Wp.region ?_)))))
        refine Ro.q (v:=(.func (.yield l) #[] #[])) rfl rfl (zB f34) rfl ?_
        refine Ro.q rfl rfl (zJ ta199 f36 (hi48.1.c3.keep n3 H.keep) (j:=0) rfl (vs:=[i rise,i sink]) rfl rfl) rfl ?_
        refine Ro.q (v:=(i c)) rfl rfl (zB f43) rfl ?_
        refine Ro.q (v:=(i b)) rfl rfl (zB f39) rfl ?_
        refine Ro.q (v:=(i k0)) rfl rfl (zB f38) rfl ?_
        refine Ro.d rfl rfl rfl (zH rfl en139 (ce (v:=(.agg #[(i rise),(i sink)])) rfl (ce (v:=(i c)) rfl (ce (v:=(i b)) rfl (ce (v:=(i k0)) rfl cn)))) (c139 rise sink c b k0 _ (by omega)) ?_)
        intro u w50 k51 hu;subst hu;replace H:=H.ext k51
        clear k51
        have hmem:(fun t=>Gone (rise,sink) ⟨(zL bs day).lo,(zL bs day).hi⟩ ⟨blo,bhi⟩ (vG dl r) t) (after (rise,sink) c b k0):=⟨c,b,k0,by unfold Men.Rg.has;simp only;omega,by unfold Men.Rg.has;simp only;omega,(hxs k0).1 (List.mem_of_getElem? he),rfl⟩
        have hJ2:J pre _:=hJ _ _ _ hi48.2.1 (H.keep.mono (M':=fun k=>w.heap.size≤k) (fun q _ hq=>by omega))
        refine Ro.d rfl rfl rfl (d_yield (vs:=[uF (after (rise,sink) c b k0)]) rfl rfl (ce (v:=uF (after (rise,sink) c b k0)) rfl cn) (hy pre _ _ hJ2 hmem) ?_)
        rintro u w52 ⟨kc,hv⟩
        obtain ⟨bv,rfl,hjt,hjf⟩:=yv hv
        have HF3:F136 base blo bhi day rise sink ab ad ah bs dl h cab cad cah b1 b2 b3 a xs w.heap.size w52:=hi48.1.next H.keep kc n1 n2 n3 hna5 m1 m2 m3 (fun h=>by have:=hMc _ h;omega)
        replace H:S (fun k=>k=b5) w52 [(b5,.cells [i ((zL bs day).lo),i ((zL bs day).hi)].toArray 41 (0,0))] w52:=S.rebase (H.drop 0) kc (by intro p hp h;simp at hp;subst hp;have:=hMc _ h;simp only at this;omega) (by simp)
        refine Ro.q rfl rfl (yN rfl) rfl ?_
        refine Ro.nil (nT ?_)
        refine Wp.cond (t:=!bv) rfl ?_ ?_
        · intro c53
          have c53r:=c53
          simp only [bx] at c53
          refine Wp.ret (rB (rT (rT (rB (rB (rT (rT (rB (rB (rT (rT (rB (zN ?_)))))))))))))
          refine leave_none Tryz.results136 ?_
          exact .inr (hjf (by simpa using c53))
        intro c53
        have c53r:=c53
        simp only [bx] at c53
        refine Wp.skip (nB (nT (Wp.region ?_)))
        refine Ro.q (v:=(i c)) rfl rfl (zB f43) rfl ?_
        refine Ro.q rfl rfl (zU rfl rfl (by constructor <;>omega)) rfl ?_
        refine Ro.q (v:=(i (c+1))) rfl rfl (zD rfl) rfl ?_
        refine Ro.nil (nT ?_)
        exact ⟨((zL bs day).hi+1-(c+1)).toNat,by omega,w52,(pre++[after (rise,sink) c b k0]),(c+1),rfl,(by omega),rfl,f34,f35,f36,f37,f38,f39,f40,f41,f42,rfl,H,⟨HF3,hjt (by simpa using c53),fun t=>by rw [List.mem_append,List.mem_singleton,hi48.2.2 t,show c+1-1=c by omega,Gone.step_c (lo:=(zL bs day).lo) (n:=c) (by omega)];simp only [or_assoc]⟩⟩
      intro c49
      have c49r:=c49
      simp only [bx] at c49
      refine Wp.exit (xT (xT (xB (nB (nT (Wp.region ?_))))))
      refine Ro.q (v:=(i b)) rfl rfl (zB f39) rfl ?_
      refine Ro.q rfl rfl (zU rfl rfl (by constructor <;>omega)) rfl ?_
      refine Ro.q (v:=(i (b+1))) rfl rfl (zD rfl) rfl ?_
      refine Ro.nil (nT ?_)
      exact ⟨(bhi+1-(b+1)).toNat,by omega,wb,pre,(b+1),rfl,(by omega),rfl,f34,f35,f36,f37,f38,f40,f41,f42,rfl,H,⟨hi48.1,hi48.2.1,fun t=>by rw [hi48.2.2 t,show c-1=(zL bs day).hi by omega,show b+1-1=b by omega,Gone.step_b (lo:=blo) (n:=b) (by omega)]⟩⟩
    intro c33
    have c33r:=c33
    simp only [bx] at c33
    refine Wp.exit (xT (xT (xB (nB (nT (Wp.region ?_))))))
    refine Ro.q rfl rfl (zU f26 rfl (by constructor <;>omega)) rfl ?_
    refine Ro.q (v:=(i (j+1))) rfl rfl (zB rfl) rfl ?_
    refine Ro.nil (nT ?_)
    exact ⟨((xs.length:Int)-(j+1)).toNat,by omega,wb,pre,(j+1),rfl,(by omega),rfl,f19,f20,f21,f22,f24,f25,rfl,H,⟨hi32.1,hi32.2.1,fun t=>by rw [hi32.2.2 t,show b-1=bhi by omega,take_succ' (by omega) he,Gone.step_k]⟩⟩
  intro c18
  have c18r:=c18
  simp only [bx] at c18
  refine Wp.exit (xT (xT (xB (bodyN ?_))))
  refine leave_none Tryz.results136 ?_
  refine .inl ⟨pre,fun t=>?_,hJ _ _ _ hi17.2.1 (H.keep.mono (M':=fun k=>w.heap.size≤k) (fun q _ hq=>by omega))⟩
  rw [hi17.2.2 t,List.take_of_length_le (by omega)]
  unfold Gone;constructor
  · rintro ⟨c,b,k,q1,q2,q3,q4⟩;exact ⟨c,b,k,q1,q2,(hxs k).1 q3,q4⟩
  · rintro ⟨c,b,k,q1,q2,q3,q4⟩;exact ⟨c,b,k,q1,q2,(hxs k).2 q3,q4⟩
end Go.Proofs.YthfnjppieihcfaaGreat
namespace Go.Mw
open Go.RowKit
variable {P : Program} {N : Nat} {r : Option Nat} {M : Nat → Prop} {w0 : World} {L L' L'' : List (Nat × Obj)}
theorem of_keys (hk:L'.map (·.1)=L.map (·.1)) {k:Nat}:Of L' k↔Of L k:=by
  have h1 : ∀ X:List (Nat×Obj),Of X k↔k∈X.map (·.1):=fun X=>by unfold Of;simp
  rw [h1,h1,hk]
theorem S.belowK {w:World} (H:S M w0 L w) (hk:L'.map (·.1)=L.map (·.1)) : ∀ p∈L',p.1<w.heap.size:=by
  intro p hp
  obtain ⟨q,hq,e⟩:=(of_keys hk).1 ⟨p,hp,rfl⟩
  rw [← e];exact H.lt hq
theorem S.ofBelow {w:World} (H:S M w0 L w) : ∀ k,Of L k→k<w.heap.size:=by
  rintro k ⟨p,hp,rfl⟩;exact H.lt hp
theorem S.roundK {W:World} (H:S Nm w0 L' W) (hk:L'.map (·.1)=L.map (·.1)):S (Of L) W L' W :=
  ⟨Keep.refl _ _,H.own,H.dist,fun p hp=>.inr ((of_keys hk).1 ⟨p,hp,rfl⟩)⟩
theorem S.unroundK {W W3:World} (H:S Nm w0 L' W) (hk:L'.map (·.1)=L.map (·.1)) (H':S (Of L) W L'' W3):S Nm w0 L'' W3:=by
  have hf : ∀ k,Of L k→w0.heap.size≤k:=by
    intro k h
    obtain ⟨p,hp,rfl⟩:=(of_keys hk).2 h
    rcases H.fresh p hp with h | h
    · exact h
    · exact h.elim
  refine ⟨H.keep.later H'.keep ?_,H'.own,H'.dist,fun p hp=>?_⟩
  · intro k hk' h;have:=hf k h;omega
  · rcases H'.fresh p hp with h | h
    · exact .inl (Nat.le_trans H.keep.size h)
    · exact .inl (hf _ h)
/-- what lay there at the first stays through a round -/
theorem Sl.oldK {W W':World} {k:Nat} {xs:List (List Value)} {a:Option Addr} (h:Sl w0 k xs a) (H:S Nm w0 L' W) (hk:L'.map (·.1)=L.map (·.1)) (k':Keep (Of L) W W'):Sl W' k xs a:=by
  intro j x hx
  obtain ⟨h1,h2,h3⟩:=h j x hx
  refine ⟨h1,h2,(h3.ext H.keep).keep ?_ k'⟩
  intro hm
  obtain ⟨p,hp,e⟩:=(of_keys hk).2 hm
  have hlt:=h3.lt
  rcases H.fresh p hp with h | h
  · rw [e] at h;omega
  · exact h
theorem nodup_keys {kv:List (Value×Value)} (h:(kv.map (·.1)).Nodup) {k v v':Value} (h1:(k,v)∈kv) (h2:(k,v')∈kv):v=v':=by
  induction kv with
  | nil=>cases h1
  | cons p kv ih =>
    rw [List.map_cons,List.nodup_cons] at h
    rcases List.mem_cons.1 h1 with e1 | m1 <;>rcases List.mem_cons.1 h2 with e2 | m2
    · rw [← e1] at e2;exact (Prod.mk.inj e2).2.symm
    · subst e1;exact (h.1 (List.mem_map.2 ⟨_,m2,rfl⟩)).elim
    · subst e2;exact (h.1 (List.mem_map.2 ⟨_,m1,rfl⟩)).elim
    · exact ih h.2 m1 m2
theorem born_inj {es:Array MapEntry} (h:(es.toList.map (·.born)).Nodup) {e e':MapEntry} (h1:e∈es.toList) (h2:e'∈es.toList) (hb:e.born=e'.born):e=e':=by
  generalize es.toList=l at *
  induction l with
  | nil=>cases h1
  | cons x l ih =>
    rw [List.map_cons,List.nodup_cons] at h
    rcases List.mem_cons.1 h1 with e1 | m1 <;>rcases List.mem_cons.1 h2 with e2 | m2
    · rw [e1,e2]
    · subst e1;exact (h.1 (List.mem_map.2 ⟨_,m2,hb.symm⟩)).elim
    · subst e2;exact (h.1 (List.mem_map.2 ⟨_,m1,hb⟩)).elim
    · exact ih h.2 m1 m2
theorem S.assoc3 {A B C:List (Nat×Obj)} {w:World} (H:S M w0 (L++(A++(B++C))) w):S M w0 ((L++(A++B))++C) w:=by
  have e:(L++(A++B))++C=L++(A++(B++C)):=by simp only [List.append_assoc]
  rw [e];exact H
theorem S.unassoc3 {A B C:List (Nat×Obj)} {w:World} (H:S M w0 ((L++(A++B))++C) w):S M w0 (L++(A++(B++C))) w:=by
  have e:(L++(A++B))++C=L++(A++(B++C)):=by simp only [List.append_assoc]
  rw [← e];exact H
theorem S.stash {q:Nat×Obj} {X Y A T:List (Nat×Obj)} {w:World} (H:S M w0 ((X++(q :: Y))++(A++T)) w):S M w0 (Y++((A++[q])++T)) w:=by
  have h1:S M w0 (X++((q :: Y)++(A++T))) w:=by rw [← List.append_assoc];exact H
  have h2:=h1.part
  refine h2.perm ?_
  have e:Y++((A++[q])++T)=(Y++A)++q :: T:=by simp
  have e':(q :: Y)++(A++T)=q :: ((Y++A)++T):=by simp
  rw [e,e']
  exact List.perm_middle.symm
theorem S.extM {M':Nat→Prop} {w w':World} (H:S M w0 L w) (k:Keep M' w w') (hL : ∀ p∈L,¬ M' p.1) (hM : ∀ q,q<w0.heap.size→¬ M' q):S M w0 L w' :=
  ⟨H.keep.later k (fun i hi h=>absurd h (hM i hi)),fun p hp=>(k.block p.1 (H.lt hp) (hL p hp)).trans (H.own p hp),H.dist,H.fresh⟩
theorem S.top {q:Nat×Obj} {w:World} (H:S M w0 (q :: L) w) : ¬ Of L q.1:=by
  rintro ⟨p,hp,e⟩
  exact (List.pairwise_cons.1 H.dist).1 p hp e.symm
theorem S.adopt {w:World} {D:Nat} {o:Obj} (H:S M w0 L w) (hD:w.heap[D]? = some o) (hne : ∀ p∈L,D≠p.1) (hf:w0.heap.size≤D):S M w0 ((D,o) :: L) w:=by
  refine ⟨H.keep,fun p hp=>?_,List.pairwise_cons.2 ⟨hne,H.dist⟩,fun p hp=>?_⟩
  · rcases List.mem_cons.1 hp with rfl | hp
    · exact hD
    · exact H.own p hp
  · rcases List.mem_cons.1 hp with rfl | hp
    · exact .inl hf
    · exact H.fresh p hp
theorem marks3 (L A D C:List (Nat×Obj)):(L++(A++(D++C))).Perm (D++(L++(A++C))):=by
  have e:L++(A++(D++C))=(L++A)++(D++C):=by simp
  have e':D++(L++(A++C))=D++((L++A)++C):=by simp
  rw [e,e',← List.append_assoc,← List.append_assoc]
  exact List.Perm.append_right _ List.perm_append_comm
end Go.Mw
namespace Men
open Go Go.Mw
def pairT (t:St):Value×Value:=(uF t,.bool true)
def IsSt (v:Value):Prop:=∃ t:St,v=uF t∧(0≤t.1∧t.1≤1000)∧(0≤t.2∧t.2≤1000)
theorem encSt_inj {s t:St} (h:uF s=uF t):s=t:=by
  unfold uF at h
  simp only [Value.agg.injEq,Array.mk.injEq,List.cons.injEq,Value.int.injEq,and_true,true_and] at h
  exact Prod.ext h.1 h.2
def MapIs (es:Array MapEntry) (clk:Nat) (ts:List St):Prop:=Ents IsSt es clk (ts.map pairT)
theorem MapIs.entry {es:Array MapEntry} {clk:Nat} {ts:List St} (h:MapIs es clk ts) {e:MapEntry} (he:e∈es.toList) : ∃ s∈ts,e.key=uF s∧e.val = .bool true:=by
  have:(e.key,e.val)∈ts.map pairT:=by rw [← h.all];exact List.mem_map.2 ⟨e,he,rfl⟩
  obtain ⟨s,hs,e⟩:=List.mem_map.1 this
  unfold pairT at e
  simp only [Prod.mk.injEq] at e
  exact ⟨s,hs,e.1.symm,e.2.symm⟩
theorem MapIs.of_mem {es:Array MapEntry} {clk:Nat} {ts:List St} (h:MapIs es clk ts) {s:St} (hs:s∈ts) : ∃ e∈es.toList,e.key=uF s:=by
  have:pairT s∈es.toList.map (fun e=>(e.key,e.val)):=by rw [h.all];exact List.mem_map.2 ⟨s,hs,rfl⟩
  obtain ⟨e,he,h1⟩:=List.mem_map.1 this
  unfold pairT at h1
  simp only [Prod.mk.injEq] at h1
  exact ⟨e,he,h1.1⟩
theorem MapIs.bd {es:Array MapEntry} {clk:Nat} {ts:List St} (h:MapIs es clk ts) {s:St} (hs:s∈ts):(0≤s.1∧s.1≤1000)∧(0≤s.2∧s.2≤1000):=by
  obtain ⟨t,e,h1⟩:=h.key (pairT s) (List.mem_map.2 ⟨s,hs,rfl⟩)
  rw [encSt_inj (s:=s) (t:=t) e];exact h1
theorem MapIs.key_mem {es:Array MapEntry} {clk:Nat} {ts:List St} (_:MapIs es clk ts) {s:St}:uF s∈(ts.map pairT).map (·.1)↔s∈ts:=by
  simp only [List.map_map,List.mem_map,Function.comp]
  constructor
  · rintro ⟨t,ht,e⟩;rw [← encSt_inj (s:=t) (t:=s) e];exact ht
  · intro h;exact ⟨s,h,rfl⟩
theorem MapIs.nil:MapIs #[] 0 []:=Ents.nil _
theorem MapIs.put {es:Array MapEntry} {clk:Nat} {ts:List St} (_:MapIs es clk ts) {es':Array MapEntry} {clk':Nat} {kv':List (Value×Value)} {t:St} (hE:Ents IsSt es' clk' kv') (hp:PutKV (ts.map pairT) (uF t) (.bool true) kv') : ∃ ts',MapIs es' clk' ts'∧∀ x,x∈ts'↔x∈ts∨x=t:=by
  rcases hp with ⟨_,rfl⟩ | ⟨l1,l2,old,h1,rfl⟩
  · refine ⟨ts++[t],?_,fun x=>by simp⟩
    unfold MapIs
    rw [List.map_append];exact hE
  · obtain ⟨t1,t2,rfl,ht1,ht2⟩:=List.map_eq_append_iff.1 h1
    obtain ⟨q,t3,rfl,hq,ht3⟩:=List.map_eq_cons_iff.1 ht2
    have hqt:q=t:=by unfold pairT at hq;simp only [Prod.mk.injEq] at hq;exact encSt_inj hq.1
    subst hqt
    refine ⟨t1++q :: t3,?_,fun x=>?_⟩
    · unfold MapIs
      rw [List.map_append,List.map_cons,ht1,ht3];exact hE
    · constructor
      · exact .inl
      · rintro (h | rfl)
        · exact h
        · simp
theorem r_lookSt {P:Program} {N:Nat} {ρ:Env} {w:World} {t e b:Nat} {es:Array MapEntry} {clk:Nat} {ts:List St} {x y:Operand} {s:St} (ht:P.underlying t=some (.map 199 e)) (hK:KeyT P 199 IsSt) (hb:w.heap[b]? = some (.map es clk)) (hE:MapIs es clk ts)
    (hx:ev N ρ x = .map (some b)) (hy:ev N ρ y=uF s) (hs:(0≤s.1∧s.1≤1000)∧(0≤s.2∧s.2≤1000)) (hz:ZV P e (.bool false)):Runs P N (.lookup t x y false) ρ w (.bool (decide (s∈ts))):=by
  obtain ⟨v,h | h⟩:=r_lookup ht hK hb hE hx hy ⟨s,rfl,hs⟩ hz
  · have hm:s∈ts:=hE.key_mem.1 (List.mem_map.2 ⟨_,h.2.2,rfl⟩)
    have hv:v = .bool true:=nodup_keys hE.apart h.2.2 (List.mem_map.2 ⟨s,hm,rfl⟩)
    rw [decide_eq_true hm,← hv];exact h.1
  · have hm:s ∉ ts:=fun h'=>h.2.2.1 (hE.key_mem.2 h')
    rw [decide_eq_false hm,← h.2.2.2];exact h.1
abbrev yX (m:Nat×Array MapEntry×Nat):Nat×Obj:=(m.1,.map m.2.1 m.2.2)
abbrev vY (m:Nat×Array MapEntry×Nat):List Value:=[.map (some m.1)]
theorem fitsB_iff {ices:List Ice} {d z:Int}:fitsB ices d z=true↔fitsI ices d z:=by
  unfold fitsB fitsI
  rw [List.all_eq_true]
  constructor
  · intro h i hi hd
    have:=h i hi
    unfold agreesB at this
    unfold Ice.agrees
    simp [hd] at this
    omega
  · intro h i hi
    unfold agreesB
    by_cases hd:i.day=d
    · have:=h i hi hd
      unfold Ice.agrees at this
      simp [hd];omega
    · simp [hd]
/-- the day n leads from s to t, by the program's own lists -/
def Nx (g:Glass) (r:Rg) (ices:List Ice) (n:Int) (s t:St):Prop :=
  Gone s ⟨(zL g.bands n).lo,(zL g.bands n).hi⟩ ⟨g.back.lo,g.back.hi⟩ (vG g.depths r) t∧fitsB ices n (g.base+t.1-t.2)=true
theorem Nx_iff {g:Glass} (o:GlassOk g) {h:List Rg} {ices:List Ice} {n:Nat} {r:Rg} (hr:h[n]? = some r) (hh:r.to 500) {s t:St}:Nx g r ices n s t↔Nxt g h n s t∧fitsI ices n (g.zero t):=by
  unfold Nx Nxt Gone Glass.zero
  rw [fitsB_iff]
  have hd:vN h n=r:=by unfold vN;rw [List.getD_eq_getElem?_getD,hr];rfl
  rw [hd]
  have hm:=fun k=>mem_progDepths o.rising (r:=r) (by unfold Rg.to at hh;omega) k
  constructor
  · rintro ⟨⟨c,b,k,h1,h2,h3,h4⟩,h5⟩
    exact ⟨⟨c,b,k,h1,h2,(hm k).1 h3,h4⟩,h5⟩
  · rintro ⟨⟨c,b,k,h1,h2,h3,h4⟩,h5⟩
    exact ⟨⟨c,b,k,h1,h2,(hm k).2 h3,h4⟩,h5⟩
theorem Gone.bd {g:Glass} (o:GlassOk g) {r:Rg} (hh:r.to 500) {n:Int} {s t:St} (hs:(0≤s.1∧s.1≤60)∧(0≤s.2∧s.2≤30)) (h:Gone s ⟨(zL g.bands n).lo,(zL g.bands n).hi⟩ ⟨g.back.lo,g.back.hi⟩ (vG g.depths r) t):(0≤t.1∧t.1≤1000)∧(0≤t.2∧t.2≤1000):=by
  obtain ⟨c,b,k,h1,h2,h3,rfl⟩:=h
  have e1:=creepOf_to o n
  have e2:=o.back
  obtain ⟨heat,_,rfl⟩:=(mem_progDepths o.rising (r:=r) (by unfold Rg.to at hh;omega) k).1 h3
  have e3:=sinksOf_in o heat
  unfold Rg.has Rg.to at *
  simp only [after] at *
  omega
end Men
namespace Go.Proofs.YthfnjppieihcfaaGreat
open Go.RowKit Go.Proofs Go.Mw
theorem en113:Go.Proofs.Enters Tryz.prog 113:=Go.Proofs.enters_of Tryz.func113 (by kernel_rfl) rfl
theorem en115:Go.Proofs.Enters Tryz.prog 115:=Go.Proofs.enters_of Tryz.func115 (by kernel_rfl) rfl
theorem en133:Go.Proofs.Enters Tryz.prog 133:=Go.Proofs.enters_of Tryz.func133 (by kernel_rfl) rfl
theorem en136:Go.Proofs.Enters Tryz.prog 136:=Go.Proofs.enters_of Tryz.func136 (by kernel_rfl) rfl
theorem fo153_0:FO Tryz.prog 153 0 0:=fun _ _ _=>by kernel_rfl
theorem sz197 : ∀ w,(sizeOf 197).run Tryz.prog w = .ok 1 w:=fun _=>by kernel_rfl
theorem t1_197:T1 Tryz.prog 197:=⟨Tryz.isAgg197,fun _=>by kernel_rfl⟩
theorem ta153:TA Tryz.prog 153 7:=⟨Tryz.isAgg153,fun _=>by kernel_rfl⟩
theorem ta196:TA Tryz.prog 196 8:=⟨Tryz.isAgg196,fun _=>by kernel_rfl⟩
theorem tr193_8:TR Tryz.prog 193 197 1 8:=⟨Tryz.underlying193,(Tryz.prog.info? 197).get!,((Tryz.prog.info? 197).get!.zero).get!,by kernel_rfl,by kernel_rfl,by kernel_rfl,by kernel_rfl,by kernel_rfl,by decide⟩
theorem ts193:TS Tryz.prog 193 1:=⟨_,Tryz.underlying193,fun _=>by kernel_rfl⟩
theorem zv197:ZV Tryz.prog 197 (.map none):=Tryz.zeroValue197
theorem zv4:ZV Tryz.prog 4 (.bool false):=Tryz.zeroValue4
open Men
theorem laid:laidOutB Tryz.prog=true:=by kernel_rfl
theorem law199:WideMaps.KeyLaw Tryz.prog 199:=deep_law_laid laid (m:=2) (by omega) (of_decide_eq_true (by kernel_rfl)) (by kernel_rfl) (by rw [Tryz.underlying199])
theorem types_size : ∃ n,Tryz.prog.types.size+1=n+1+1+1:=⟨Tryz.prog.types.size-2,by kernel_rfl⟩
theorem kt199:Tryz.prog.keyType 199=true:=by kernel_rfl
theorem co199:Tryz.prog.cellsOf 199=2:=by kernel_rfl
theorem co3:Tryz.prog.cellsOf 3=1:=by kernel_rfl
theorem wf_int {n:Int} (h:0≤n∧n≤1000):(Lit.int .i64 n).wf=true:=by
  have:=wrap_in (n:=n) (by constructor <;>omega)
  have hm:IntKind.i64.min = -9223372036854775808:=by decide
  simp [Lit.wf,this];omega
theorem key199 {v:Value} (h:IsSt v) : ∃ l,keyOf Tryz.prog 199 v=some l:=by
  obtain ⟨⟨a,b⟩,rfl,ha,hb⟩:=h
  have h1:=wf_int ha
  have h2:=wf_int hb
  refine ⟨.string (keyBytes [.int .i64 a,.int .i64 b]),?_⟩
  unfold keyOf
  obtain ⟨n,hn⟩:=types_size
  rw [Tryz.underlying199,hn]
  simp only [kt199,Value.formed,Tryz.underlying199,co199,uF,Value.cells]
  simp only [Program.keyLits,Tryz.underlying199,Tryz.underlying3,co199,co3]
  simp [h1,h2,co3,Tryz.underlying3]
theorem keySt:KeyT Tryz.prog 199 IsSt:=KeyT.of law199 fun _ h=>key199 h
theorem step_put {ices:List Ice} {n base:Int} {O:St→Prop} {pre ts ts':List St} {t:St} (hx : ∀ x,x∈ts'↔x∈ts∨x=t) (hT : ∀ x,x∈ts↔O x∨(x∈pre∧fitsB ices n (base+x.1-x.2)=true)) (hc:(!decide (t∈ts) && fitsB ices n (base+t.1-t.2))=true) {x:St}:x∈ts'↔O x∨(x∈pre++[t]∧fitsB ices n (base+x.1-x.2)=true):=by
  simp only [Bool.and_eq_true] at hc
  rw [hx x,hT x,List.mem_append,List.mem_singleton]
  constructor
  · rintro ((h | h) | rfl)
    · exact .inl h
    · exact .inr ⟨.inl h.1,h.2⟩
    · exact .inr ⟨.inr rfl,hc.2⟩
  · rintro (h | ⟨h | rfl,h2⟩)
    · exact .inl (.inl h)
    · exact .inl (.inr ⟨h,h2⟩)
    · exact .inr rfl
theorem step_not {ices:List Ice} {n base:Int} {O:St→Prop} {pre ts:List St} {t:St} (hT : ∀ x,x∈ts↔O x∨(x∈pre∧fitsB ices n (base+x.1-x.2)=true)) (hc:(!decide (t∈ts) && fitsB ices n (base+t.1-t.2))=false) {x:St}:x∈ts↔O x∨(x∈pre++[t]∧fitsB ices n (base+x.1-x.2)=true):=by
  rw [List.mem_append,List.mem_singleton]
  constructor
  · intro h
    rcases (hT x).1 h with h | h
    · exact .inl h
    · exact .inr ⟨.inl h.1,h.2⟩
  · rintro (h | ⟨h | rfl,h2⟩)
    · exact (hT x).2 (.inl h)
    · exact (hT x).2 (.inr ⟨h,h2⟩)
    · rw [h2] at hc
      simpa using hc
theorem mark_perm (q:Nat×Obj) (L A:List (Nat×Obj)) (B:List (Nat×Obj)):(q :: (L++(A++B))).Perm (L++(A++(q :: B))):=by
  have e:L++(A++(q :: B))=(L++A)++q :: B:=by simp
  have e':q :: (L++(A++B))=q :: ((L++A)++B):=by simp
  rw [e,e']
  exact List.perm_middle.symm
theorem seen_step {es:Array MapEntry} {e:MapEntry} {seen:Array Nat} {s:St} {ts xs:List St} {g:Glass} {r:Rg} {ices:List Ice} {n:Int} (hb:(es.toList.map (·.born)).Nodup) (he:e∈es.toList) (hek:e.key=uF s)
    (hT : ∀ x,x∈ts↔(∃ e∈es.toList,e.born∈seen∧∃ s,e.key=uF s∧Nx g r ices n s x)∨(x∈xs∧fitsB ices n (g.base+x.1-x.2)=true)) (hxs : ∀ t,t∈xs↔Gone s ⟨(zL g.bands n).lo,(zL g.bands n).hi⟩ ⟨g.back.lo,g.back.hi⟩ (vG g.depths r) t) :
    ∀ x,x∈ts↔∃ e'∈es.toList,e'.born∈seen.push e.born∧∃ s,e'.key=uF s∧Nx g r ices n s x:=by
  intro x
  rw [hT x,hxs x]
  constructor
  · rintro (⟨e',h1,h2,h3⟩ | ⟨h1,h2⟩)
    · exact ⟨e',h1,by simp [h2],h3⟩
    · exact ⟨e,he,by simp,s,hek,h1,h2⟩
  · rintro ⟨e',h1,h2,s',h3,h4⟩
    rcases Array.mem_push.1 h2 with h2 | h2
    · exact .inl ⟨e',h1,h2,s',h3,h4⟩
    · have:=born_inj hb h1 he h2
      subst this
      rw [hek] at h3
      have:=encSt_inj h3
      subst this
      exact .inr h4
theorem day_next {es:Array MapEntry} {clk:Nat} {seen:Array Nat} {tm ts:List St} {g:Glass} {h:List Rg} {r:Rg} {ices:List Ice} {n:Nat} (o:GlassOk g) (hr:h[n]? = some r) (hh:r.to 500) (hm:MapIs es clk tm) (hmT : ∀ t,t∈tm↔R g h ices n t) (hall : ∀ e∈es.toList,e.born∈seen)
    (hT : ∀ x,x∈ts↔∃ e∈es.toList,e.born∈seen∧∃ s,e.key=uF s∧Nx g r ices n s x) : ∀ x,x∈ts↔R g h ices (n+1) x:=by
  intro x
  rw [hT x]
  constructor
  · rintro ⟨e,he,_,s,hk,hn⟩
    obtain ⟨s',hs',hk',_⟩:=hm.entry he
    rw [hk] at hk'
    have:=encSt_inj hk'
    subst this
    exact ⟨s,(hmT s).1 hs',((Nx_iff o hr hh).1 hn).1,((Nx_iff o hr hh).1 hn).2⟩
  · rintro ⟨s,hs,h1,h2⟩
    obtain ⟨e,he,hk⟩:=hm.of_mem ((hmT s).2 hs)
    exact ⟨e,he,hall e he,s,hk,(Nx_iff o hr hh).2 ⟨h1,h2⟩⟩
theorem mval_len : ∀ m:Nat×Array MapEntry×Nat,(vY m).length=1:=fun _=>rfl
theorem days_start {g:Glass} {h:List Rg} {ices:List Ice} {b:Nat} {es:Array MapEntry} {clk:Nat} {ts:List St} (hE:MapIs es clk ts) (hx : ∀ x,x∈ts↔x∈([]:List St)∨x=(0,0)) : ∀ (d:Nat) m,[(b,es,clk)][d]? = some m→∃ ts,MapIs m.2.1 m.2.2 ts∧∀ t,t∈ts↔R g h ices d t:=by
  intro d m hm
  cases d with
  | zero=>simp at hm;subst hm;exact ⟨ts,hE,fun t=>by rw [hx t];simp [R]⟩
  | succ d=>simp at hm
theorem days_step {g:Glass} {h:List Rg} {ices:List Ice} {ms:List (Nat×Array MapEntry×Nat)} {b:Nat} {es:Array MapEntry} {clk:Nat} {ts:List St} {n:Int} (hi : ∀ (d:Nat) m,ms[d]? = some m→∃ ts,MapIs m.2.1 m.2.2 ts∧∀ t,t∈ts↔R g h ices d t) (h0:0≤n) (hn:ms.length=n+1) (hE:MapIs es clk ts) (hT : ∀ x,x∈ts↔R g h ices (n.toNat+1) x) :
    ∀ (d:Nat) m,(ms++[(b,es,clk)])[d]? = some m→∃ ts,MapIs m.2.1 m.2.2 ts∧∀ t,t∈ts↔R g h ices d t:=by
  intro d m hm
  rcases Nat.lt_trichotomy d ms.length with hd | hd | hd
  · rw [List.getElem?_append_left hd] at hm;exact hi d m hm
  · subst hd
    simp at hm;subst hm
    exact ⟨ts,hE,fun t=>by rw [hT t,show ms.length=n.toNat+1 by omega]⟩
  · rw [List.getElem?_eq_none (by simp;omega)] at hm;cases hm
theorem c112 {base blo bhi:Int} {ab ad ah ai:Option Addr} {bs:List Band} {dl:List Depth} {h:List Rg} {ices:List Ice} {cab cad cah cai:Nat} (w:World) (hab:Sl w 3 (bs.map yH) ab) (had:Sl w 2 (dl.map zZ) ad) (hah:Sl w 2 (h.map rgV) ah) (hai:Sl w 3 (ices.map iceV) ai) (oG:GlassOk ⟨base,bs,dl,⟨blo,bhi⟩⟩) (oH:HistOk h) (oI:IcesOk h ices):Ret Tryz.prog 112 [(.agg #[(i base),(.slice ab bs.length cab),(.slice ad dl.length cad),(i blo),(i bhi),(.slice ah h.length cah),(.slice ai ices.length cai)]),(.agg #[(.bool false),(.bool false),(.bool false),(.bool false),(.bool false),(.bool false),(.bool false),(.bool false)])] w fun v w'=>∃ (b c:Nat) (ms:List (Nat×Array MapEntry×Nat)) (tl:List Value),v = .slice (some ⟨b,0,none⟩) (h.length+1) c∧S Nm w ((b,.cells ((ms.map vY).flatten++tl).toArray 197 (0,0)) :: ms.map yX) w'∧ms.length=h.length+1∧∀ d m,ms[d]? = some m→∃ ts,MapIs m.2.1 m.2.2 ts∧∀ t,t∈ts↔R ⟨base,bs,dl,⟨blo,bhi⟩⟩ h ices d t:=by
  have hb3:bs.length≤3:=oG.bands3
  have hd4:dl.length≤4:=oG.depths4
  have hh16:h.length≤16:=oH.len
  have hbase : -1000≤base∧base≤1000:=oG.base
  have hic:ices.length≤8:=oI.len
  have hin : ∀ e,e∈ices→(-1000000≤e.zero∧e.zero≤1000000)∧(-1000000≤e.err∧e.err≤1000000):=fun e he=>by have:=oI.each e he;omega
  refine Ret.body (N:=60) Tryz.func112 rfl Tryz.ntmps112 rfl ?_
  have H:=S.start Nm w
  refine Wp.seq (Wp.region ?_)
  refine Ro.d rfl rfl rfl (H.box (l:=[i base,.slice ab bs.length cab,.slice ad dl.length cad,i blo,i bhi,.slice ah h.length cah,.slice ai ices.length cai]) rfl (v:=(.agg #[(i base),(.slice ab bs.length cab),(.slice ad dl.length cad),(i blo),(i bhi),(.slice ah h.length cah),(.slice ai ices.length cai)])) rfl rfl ?_)
  intro b1 w2 Hn;replace H:=Hn;clear Hn
  refine Ro.d rfl rfl rfl (H.box (l:=[.bool false,.bool false,.bool false,.bool false,.bool false,.bool false,.bool false,.bool false]) rfl (v:=(.agg #[(.bool false),(.bool false),(.bool false),(.bool false),(.bool false),(.bool false),(.bool false),(.bool false)])) rfl rfl ?_)
  intro b3 w4 Hn;replace H:=Hn;clear Hn
  refine Ro.q (v:=(.slice none 0 0)) rfl rfl (zD rfl) rfl ?_
  refine Ro.nil (nT (Wp.seq (Wp.region ?_)))
  refine Ro.d rfl rfl rfl (H.makeMap rfl ?_)
  intro bm5 w6 Hn;replace H:S Nm w [(bm5,.map #[] 0),(b3,.cells [.bool false,.bool false,.bool false,.bool false,.bool false,.bool false,.bool false,.bool false].toArray 196 (0,0)),(b1,.cells [i base,.slice ab bs.length cab,.slice ad dl.length cad,i blo,i bhi,.slice ah h.length cah,.slice ai ices.length cai].toArray 153 (0,0))] w6:=Hn;clear Hn
  refine Ro.q (v:=(.agg #[(i 0),(i 0)])) rfl rfl (zP (v:=(.agg #[(i 0),(i 0)])) pn (fun w=>by kernel_rfl)) rfl ?_
  refine Ro.d0 rfl rfl rfl (H.mapSet (j:=0) (C:=IsSt) (kx:=uF (0,0)) (vy:=.bool true) Tryz.underlying197 keySt (.inr rfl) rfl rfl ⟨(0,0),rfl,(by decide)⟩ rfl rfl MapIs.nil ?_)
  intro en7 ck8 kv9 w10 hE11 hp12 Hn
  obtain ⟨ts13,hM14,hx15⟩:=MapIs.put MapIs.nil hE11 hp12
  replace H:S Nm w [(bm5,.map en7 ck8),(b3,.cells [.bool false,.bool false,.bool false,.bool false,.bool false,.bool false,.bool false,.bool false].toArray 196 (0,0)),(b1,.cells [i base,.slice ab bs.length cab,.slice ad dl.length cad,i blo,i bhi,.slice ah h.length cah,.slice ai ices.length cai].toArray 153 (0,0))] w10:=Hn;clear Hn
  refine Ro.q (v:=(.map (some bm5))) rfl rfl (zB rfl) rfl ?_
  refine Ro.d rfl rfl rfl (H.row (e:=197) (cs:=[.map (some bm5)]) rfl (pe (v:=(.map (some bm5))) rfl pn) (fun w=>by kernel_rfl) ?_)
  intro b16 w17 Hn;replace H:=Hn;clear Hn
  refine Ro.q (v:=(.slice (some ⟨b16,0,none⟩) 1 1)) rfl rfl (zD rfl) rfl ?_
  refine Ro.nil (nT (Wp.seq (Wp.seq (Wp.region ?_))))
  refine Ro.q (v:=(p b1 0)) rfl rfl (zA fo153_0 rfl rfl) rfl ?_
  refine Ro.q (v:=(p b1 5)) rfl rfl (zA fo151_1 rfl rfl) rfl ?_
  refine Ro.q rfl rfl (zE t1_47 rfl (H.cells 3 rfl) (j:=5) rfl rfl) rfl ?_
  refine Ro.q rfl rfl (yG Tryz.underlying47 rfl (v:=h.length) rfl) rfl ?_
  refine Ro.q (v:=(i 0)) rfl rfl (zB rfl) rfl ?_
  refine Ro.nil (nT (Wp.block ?_))
  refine Wp.loop (fun kM ds ρ w'=>∃ n:Int,∃ a:Option Addr,∃ c:Nat,∃ ms:List (Nat×Array MapEntry×Nat),∃ Lr:List (Nat×Obj),∃ Ds:List Nat,ds=Ds.map mkD∧(0≤n∧n≤h.length∧ms.length=n+1)∧kM=((h.length:Int)-n).toNat∧ρ 2=(p b1 0)∧ρ 3=(p b3 0)∧ρ 4=(.slice none 0 0)∧ρ 17=(i ((h.length:Nat):Int))∧ρ 18=(i n)∧ρ 5=(.slice a ms.length c)∧S Nm w ([(b3,.cells [.bool false,.bool false,.bool false,.bool false,.bool false,.bool false,.bool false,.bool false].toArray 196 (0,0)),(b1,.cells [i base,.slice ab bs.length cab,.slice ad dl.length cad,i blo,i bhi,.slice ah h.length cah,.slice ai ices.length cai].toArray 153 (0,0))]++(ms.map yX++(Ds.map vC++Lr))) w'∧(OwnRow 197 1 a ms.length c (ms.map vY).flatten Lr∧∀ d m,ms[d]? = some m→∃ ts,MapIs m.2.1 m.2.2 ts∧∀ t,t∈ts↔R ⟨base,bs,dl,⟨blo,bhi⟩⟩ h ices d t)) (((h.length:Int)-0).toNat) ⟨0,(some ⟨b16,0,none⟩),1,([(bm5,en7,ck8)]),([(b16,.cells [.map (some bm5)].toArray 197 (0,0))]),([]),rfl,⟨by omega,by omega,by simp⟩,rfl,rfl,rfl,rfl,rfl,rfl,rfl,(H.sub _ (by intro q hq;simp at hq ⊢;rcases hq with h | h | h | h <;>simp [h]) (by have:=H.dist;simp at this ⊢;omega)),⟨⟨by simp [vY],.inr ⟨b16,_,rfl,rfl,by simp,by simp [maxLen],by simp,by simp [vY]⟩⟩,days_start hM14 hx15⟩⟩ ?_
  clear H
  intro kρ24 dsρ24 ρ24 w25
  rintro ⟨n,a,c,ms,Lr,Ds,rfl,hb27,hk26,f18,f19,f20,f21,f22,f23,H,hi28⟩
  obtain ⟨m,hm⟩:=vQ ms n (by omega) (by omega)
  obtain ⟨tm,hmE,hmT⟩:=hi28.2 n.toNat m hm
  have hsbd : ∀ s∈tm,(0≤s.1∧s.1≤60)∧(0≤s.2∧s.2≤30):=fun s hs=>by have:=R.bounds oG ((hmT s).1 hs);omega
  refine Wp.seq (Wp.region ?_)
  refine Ro.q rfl rfl (yB f22 f21) rfl ?_
  refine Ro.nil (nT (Wp.seq ?_))
  refine Wp.cond (t:=decide (n<((h.length:Nat):Int))) rfl ?_ ?_
  · intro c29
    have c29r:=c29
    simp only [bx] at c29
    obtain ⟨r,hr⟩:=vQ h n (by omega) (by omega)
    have hdp : ∀ k,k∈vG dl r→0≤k∧k≤1000:=fun k hk=>by obtain ⟨q,_,rfl⟩:=(mem_progDepths oG.rising (r:=r) (by have:=oH.each r (List.mem_of_getElem? hr);unfold Men.Rg.to at this;omega) k).1 hk;have hx:0≤zV dl q∧zV dl q≤30:=sinksOf_in oG q;show 0≤zV dl q∧zV dl q≤1000;omega
    refine Wp.skip (nT (Wp.seq (Wp.block (Wp.seq (Wp.region ?_)))))
    refine Ro.q (v:=(i n)) rfl rfl (zB f22) rfl ?_
    refine Ro.d rfl rfl rfl (H.new (l:=[i 0]) rfl zv3 rfl ?_)
    intro b30 w31 Hn;replace H:=Hn;clear Hn
    refine Ro.d0 rfl rfl rfl (H.store (j:=0) (off:=0) (k:=1) rfl sz3 rfl (v:=(i n)) rfl rfl rfl rfl rfl (by simp [Value.oneCell']) (cs':=[i n]) rfl ?_)
    intro w32 Hn;replace H:S Nm w ([(b30,.cells [i n].toArray 3 (0,0)),(b3,.cells [.bool false,.bool false,.bool false,.bool false,.bool false,.bool false,.bool false,.bool false].toArray 196 (0,0)),(b1,.cells [i base,.slice ab bs.length cab,.slice ad dl.length cad,i blo,i bhi,.slice ah h.length cah,.slice ai ices.length cai].toArray 153 (0,0))]++(ms.map yX++(Ds.map vC++Lr))) w32:=Hn;clear Hn
    refine Ro.nil (nT (Wp.seq (Wp.region ?_)))
    refine Ro.d rfl rfl rfl (H.makeMap rfl ?_)
    intro bm33 w34 Hn;replace H:S Nm w ([(bm33,.map #[] 0),(b30,.cells [i n].toArray 3 (0,0)),(b3,.cells [.bool false,.bool false,.bool false,.bool false,.bool false,.bool false,.bool false,.bool false].toArray 196 (0,0)),(b1,.cells [i base,.slice ab bs.length cab,.slice ad dl.length cad,i blo,i bhi,.slice ah h.length cah,.slice ai ices.length cai].toArray 153 (0,0))]++(ms.map yX++(Ds.map vC++Lr))) w34:=Hn;clear Hn
    refine Ro.d rfl rfl rfl (H.new (l:=[.map none]) rfl zv197 rfl ?_)
    intro b35 w36 Hn;replace H:=Hn;clear Hn
    refine Ro.d0 rfl rfl rfl (H.store (j:=0) (off:=0) (k:=1) rfl sz197 rfl (v:=(.map (some bm33))) rfl rfl rfl rfl rfl (by simp [Value.oneCell']) (cs':=[.map (some bm33)]) rfl ?_)
    intro w37 Hn;replace H:S Nm w ([(b35,.cells [.map (some bm33)].toArray 197 (0,0)),(bm33,.map #[] 0),(b30,.cells [i n].toArray 3 (0,0)),(b3,.cells [.bool false,.bool false,.bool false,.bool false,.bool false,.bool false,.bool false,.bool false].toArray 196 (0,0)),(b1,.cells [i base,.slice ab bs.length cab,.slice ad dl.length cad,i blo,i bhi,.slice ah h.length cah,.slice ai ices.length cai].toArray 153 (0,0))]++(ms.map yX++(Ds.map vC++Lr))) w37:=Hn;clear Hn
    refine Ro.nil (nT (Wp.seq (Wp.seq (Wp.region ?_))))
    refine Ro.q (v:=(.slice a ms.length c)) rfl rfl (zB f23) rfl ?_
    refine Ro.q rfl rfl (zE zM rfl (H.cells 2 rfl) (j:=0) rfl rfl) rfl ?_
    refine Ro.q rfl rfl (zY ts193 ((OwnRow.sl (enc:=vY) mval_len hi28.1 rfl (H).assoc3)) rfl (by first | (simp;done) | (simp;omega)) rfl (by omega) (zW hm)) rfl ?_
    refine Ro.q rfl rfl (zE t1_197 rfl (((OwnRow.sl (enc:=vY) mval_len hi28.1 rfl (H).assoc3)).cells (zW hm)) (j:=0) rfl rfl) rfl ?_
    refine Ro.d rfl rfl rfl (H.range (b:=m.1) (es:=m.2.1) (clk:=m.2.2) Tryz.underlying197 rfl rfl (H.own (yX m) (List.mem_append_right _ (List.mem_append_left _ (List.mem_map.2 ⟨m,List.mem_of_getElem? hm,rfl⟩)))) ?_)
    intro bi38 w39 Hn;replace H:S Nm w ([(bi38,.mapIter (some m.1) m.2.2 #[] m.2.2),(b35,.cells [.map (some bm33)].toArray 197 (0,0)),(bm33,.map #[] 0),(b30,.cells [i n].toArray 3 (0,0)),(b3,.cells [.bool false,.bool false,.bool false,.bool false,.bool false,.bool false,.bool false,.bool false].toArray 196 (0,0)),(b1,.cells [i base,.slice ab bs.length cab,.slice ad dl.length cad,i blo,i bhi,.slice ah h.length cah,.slice ai ices.length cai].toArray 153 (0,0))]++(ms.map yX++(Ds.map vC++Lr))) w39:=Hn;clear Hn
    refine Ro.nil (nT (Wp.block ?_))
    refine Wp.loop (fun kM ds ρ w'=>∃ seen:Array Nat,∃ en:Array MapEntry,∃ ck:Nat,∃ ts:List St,∃ Ds2:List Nat,ds=Ds2.map mkD∧(True)∧kM=(leftOf m.2.1 seen).size∧ρ 2=(p b1 0)∧ρ 3=(p b3 0)∧ρ 4=(.slice none 0 0)∧ρ 5=(.slice a ms.length c)∧ρ 6=(p b30 0)∧ρ 7=(p b35 0)∧ρ 17=(i ((h.length:Nat):Int))∧ρ 18=(i n)∧ρ 26=(p bi38 0)∧S Nm w ([(bi38,.mapIter (some m.1) m.2.2 seen m.2.2),(b35,.cells [.map (some bm33)].toArray 197 (0,0)),(bm33,.map en ck),(b30,.cells [i n].toArray 3 (0,0)),(b3,.cells [.bool false,.bool false,.bool false,.bool false,.bool false,.bool false,.bool false,.bool false].toArray 196 (0,0)),(b1,.cells [i base,.slice ab bs.length cab,.slice ad dl.length cad,i blo,i bhi,.slice ah h.length cah,.slice ai ices.length cai].toArray 153 (0,0))]++(ms.map yX++(Ds2.map vC++Lr))) w'∧(MapIs en ck ts∧∀ x,x∈ts↔∃ e∈m.2.1.toList,e.born∈seen∧∃ s,e.key=uF s∧Nx ⟨base,bs,dl,⟨blo,bhi⟩⟩ r ices n s x)) ((leftOf m.2.1 (#[])).size) ⟨(#[]),(#[]),0,([]:List St),Ds,rfl,trivial,rfl,f18,f19,f20,f23,rfl,rfl,f21,f22,rfl,H,⟨MapIs.nil,fun x=>by simp⟩⟩ ?_
    clear H
    intro kρ49 dsρ49 ρ49 w50
    rintro ⟨seen,en,ck,ts,Ds2,rfl,hb52,hk51,f40,f41,f42,f43,f44,f45,f46,f47,f48,H,hi53⟩
    refine Wp.seq (Wp.region ?_)
    refine Ro.d rfl rfl rfl (H.next (j:=0) (b:=m.1) (es:=m.2.1) (clk:=m.2.2) rfl f48 rfl (H.own (yX m) (List.mem_append_right _ (List.mem_append_left _ (List.mem_map.2 ⟨m,List.mem_of_getElem? hm,rfl⟩)))) hmE.old ?_ ?_)
    · intro hleft
      refine Ro.q (v:=(.bool false)) rfl rfl (zO rfl (j:=0) rfl) rfl ?_
      refine Ro.nil (nT (Wp.seq ?_))
      refine Wp.condF rfl ?_
      refine Wp.exit (xT (xT (xB (nT (Wp.region ?_)))))
      refine Ro.q (v:=(.slice a ms.length c)) rfl rfl (zB f43) rfl ?_
      refine Ro.q rfl rfl (zE t1_197 f45 (H.cells 1 rfl) (j:=0) rfl rfl) rfl ?_
      refine Ro.d rfl rfl rfl (H.row (e:=197) (cs:=[.map (some bm33)]) rfl (pe (v:=(.map (some bm33))) rfl pn) (fun w=>by kernel_rfl) ?_)
      intro b54 w55 Hn;replace H:=Hn;clear Hn
      have Ha:=S.assoc3 (show S Nm w ([(b54,.cells [.map (some bm33)].toArray 197 (0,0)),(bi38,.mapIter (some m.1) m.2.2 seen m.2.2),(b35,.cells [.map (some bm33)].toArray 197 (0,0)),(bm33,.map en ck),(b30,.cells [i n].toArray 3 (0,0)),(b3,.cells [.bool false,.bool false,.bool false,.bool false,.bool false,.bool false,.bool false,.bool false].toArray 196 (0,0)),(b1,.cells [i base,.slice ab bs.length cab,.slice ad dl.length cad,i blo,i bhi,.slice ah h.length cah,.slice ai ices.length cai].toArray 153 (0,0))]++(ms.map yX++(Ds2.map vC++Lr))) _ from H)
      refine Ro.d rfl rfl rfl (Ha.appendE (enc:=vY) (z:=(bm33,en,ck)) hi28.1 tr193_8 rfl rfl rfl (S.cells Ha 0 rfl) rfl (by simp [Value.oneCell']) (by simp only [maxLen];omega) (by omega) ?_)
      intro a56 c57 Lr58 w59 hr60 Hn;replace H:=S.unassoc3 Hn;clear Hn Ha
      replace H:=S.stash (q:=yX (bm33,en,ck)) (X:=[(b54,.cells [.map (some bm33)].toArray 197 (0,0)),(bi38,.mapIter (some m.1) m.2.2 seen m.2.2),(b35,.cells [.map (some bm33)].toArray 197 (0,0))]) (Y:=[(b30,.cells [i n].toArray 3 (0,0)),(b3,.cells [.bool false,.bool false,.bool false,.bool false,.bool false,.bool false,.bool false,.bool false].toArray 196 (0,0)),(b1,.cells [i base,.slice ab bs.length cab,.slice ad dl.length cad,i blo,i bhi,.slice ah h.length cah,.slice ai ices.length cai].toArray 153 (0,0))]) H
      replace H:S Nm w ([(b30,.cells [i n].toArray 3 (0,0)),(b3,.cells [.bool false,.bool false,.bool false,.bool false,.bool false,.bool false,.bool false,.bool false].toArray 196 (0,0)),(b1,.cells [i base,.slice ab bs.length cab,.slice ad dl.length cad,i blo,i bhi,.slice ah h.length cah,.slice ai ices.length cai].toArray 153 (0,0))]++((ms++[(bm33,en,ck)]).map yX++(Ds2.map vC++Lr58))) w59:=by rw [List.map_append];exact H
      refine Ro.q (v:=(.slice a56 ((ms++[(bm33,en,ck)]).length) c57)) rfl rfl (zD rfl) rfl ?_
      refine Ro.nil (nB (nT (Wp.region ?_)))
      refine Ro.q rfl rfl (zU f47 rfl (by constructor <;>omega)) rfl ?_
      refine Ro.q (v:=(i (n+1))) rfl rfl (zB rfl) rfl ?_
      refine Ro.nil (nT ?_)
      exact ⟨((h.length:Int)-(n+1)).toNat,by omega,(n+1),a56,c57,(ms++[(bm33,en,ck)]),Lr58,Ds2,rfl,⟨by omega,by omega,by simp;omega⟩,rfl,f40,f41,f42,f46,rfl,rfl,(H.drop 1),⟨hr60,days_step hi28.2 (by omega) (by omega) hi53.1 (day_next (g:=⟨base,bs,dl,⟨blo,bhi⟩⟩) (n:=n.toNat) oG hr (oH.each r (List.mem_of_getElem? hr)) hmE hmT (left_none hleft) (by rw [show ((n.toNat:Nat):Int)=n by omega];exact hi53.2))⟩⟩
    · skip
      intro e w61 he Hn
      replace H:S Nm w ([(bi38,.mapIter (some m.1) m.2.2 (seen.push e.born) m.2.2),(b35,.cells [.map (some bm33)].toArray 197 (0,0)),(bm33,.map en ck),(b30,.cells [i n].toArray 3 (0,0)),(b3,.cells [.bool false,.bool false,.bool false,.bool false,.bool false,.bool false,.bool false,.bool false].toArray 196 (0,0)),(b1,.cells [i base,.slice ab bs.length cab,.slice ad dl.length cad,i blo,i bhi,.slice ah h.length cah,.slice ai ices.length cai].toArray 153 (0,0))]++(ms.map yX++(Ds2.map vC++Lr))) w61:=Hn;clear Hn
      have hel:=left_mem.1 he
      obtain ⟨s,hs,hek,hev⟩:=hmE.entry hel.1
      have hsb:=hsbd s hs
      refine Ro.q (v:=(.bool true)) rfl rfl (zO rfl (j:=0) rfl) rfl ?_
      refine Ro.nil (nT (Wp.seq ?_))
      refine Wp.condT rfl ?_
      refine Wp.skip (nT (Wp.block (Wp.seq (Wp.region ?_))))
      refine Ro.q (v:=(.tuple #[(.agg #[(i s.1),(i s.2)]),(.bool true)])) rfl rfl (Runs.to (r_entry f48 (H.at 0 rfl) (H.own (yX m) (List.mem_append_right _ (List.mem_append_left _ (List.mem_map.2 ⟨m,List.mem_of_getElem? hm,rfl⟩)))) hel.1 hmE.born) (by rw [hek,hev];rfl)) rfl ?_
      refine Ro.q (v:=(.agg #[(i s.1),(i s.2)])) rfl rfl (zO rfl (j:=0) rfl) rfl ?_
      refine Ro.d rfl rfl rfl (H.new (l:=[i 0,i 0]) rfl zv199 rfl ?_)
      intro b62 w63 Hn;replace H:=Hn;clear Hn
      refine Ro.d0 rfl rfl rfl (H.store (j:=0) (off:=0) (k:=2) rfl sz199 rfl (v:=(.agg #[(i s.1),(i s.2)])) rfl rfl rfl rfl rfl (by simp [Value.oneCell']) (cs':=[i s.1,i s.2]) rfl ?_)
      intro w64 Hn;replace H:S Nm w ([(b62,.cells [i s.1,i s.2].toArray 199 (0,0)),(bi38,.mapIter (some m.1) m.2.2 (seen.push e.born) m.2.2),(b35,.cells [.map (some bm33)].toArray 197 (0,0)),(bm33,.map en ck),(b30,.cells [i n].toArray 3 (0,0)),(b3,.cells [.bool false,.bool false,.bool false,.bool false,.bool false,.bool false,.bool false,.bool false].toArray 196 (0,0)),(b1,.cells [i base,.slice ab bs.length cab,.slice ad dl.length cad,i blo,i bhi,.slice ah h.length cah,.slice ai ices.length cai].toArray 153 (0,0))]++(ms.map yX++(Ds2.map vC++Lr))) w64:=Hn;clear Hn
      refine Ro.nil (nT (Wp.seq (Wp.region ?_)))
      refine Ro.q (v:=(p b1 0)) rfl rfl (zA fo153_0 f40 rfl) rfl ?_
      refine Ro.q rfl rfl (zJ ta151 rfl (H.cells 6 rfl) (j:=0) rfl (vs:=[i base,.slice ab bs.length cab,.slice ad dl.length cad,i blo,i bhi,.slice ah h.length cah]) rfl rfl) rfl ?_
      refine Ro.q rfl rfl (zJ ta199 rfl (H.cells 0 rfl) (j:=0) rfl (vs:=[i s.1,i s.2]) rfl rfl) rfl ?_
      refine Ro.q rfl rfl (zE zM f44 (H.cells 4 rfl) (j:=0) rfl rfl) rfl ?_
      refine Ro.d rfl rfl rfl (zH rfl en115 (ce (v:=(.agg #[(i base),(.slice ab bs.length cab),(.slice ad dl.length cad),(i blo),(i bhi),(.slice ah h.length cah)])) rfl (ce (v:=(.agg #[(i s.1),(i s.2)])) rfl (ce (v:=(i n)) rfl cn))) (c115 _) ?_)
      rintro u w65 k66 ⟨bq1,bq2,bq3,rfl,hcs,hz1,hz2,hz3⟩
      have Hold:=H
      replace H:=H.ext k66
      refine Ro.nil (nT (Wp.block ?_))
      refine Wp.rangeF (α:=St) (gf:=136) (cv:=[p bq1 0,p bq2 0,p bq3 0]) (enc:=uF) (Mem:=fun t=>Gone s ⟨(zL bs n).lo,(zL bs n).hi⟩ ⟨blo,bhi⟩ (vG dl r) t) rfl en136 (Of ([(b62,.cells [i s.1,i s.2].toArray 199 (0,0)),(bi38,.mapIter (some m.1) m.2.2 (seen.push e.born) m.2.2),(b35,.cells [.map (some bm33)].toArray 197 (0,0)),(bm33,.map en ck),(b30,.cells [i n].toArray 3 (0,0)),(b3,.cells [.bool false,.bool false,.bool false,.bool false,.bool false,.bool false,.bool false,.bool false].toArray 196 (0,0)),(b1,.cells [i base,.slice ab bs.length cab,.slice ad dl.length cad,i blo,i bhi,.slice ah h.length cah,.slice ai ices.length cai].toArray 153 (0,0))]++(ms.map yX++(Ds2.map vC++Lr)))) H.ofBelow (fun pre W=>∃ en1 ck1 ts1,S Nm w ([(b62,.cells [i s.1,i s.2].toArray 199 (0,0)),(bi38,.mapIter (some m.1) m.2.2 (seen.push e.born) m.2.2),(b35,.cells [.map (some bm33)].toArray 197 (0,0)),(bm33,.map en1 ck1),(b30,.cells [i n].toArray 3 (0,0)),(b3,.cells [.bool false,.bool false,.bool false,.bool false,.bool false,.bool false,.bool false,.bool false].toArray 196 (0,0)),(b1,.cells [i base,.slice ab bs.length cab,.slice ad dl.length cad,i blo,i bhi,.slice ah h.length cah,.slice ai ices.length cai].toArray 153 (0,0))]++(ms.map yX++(Ds2.map vC++Lr))) W∧MapIs en1 ck1 ts1∧∀ x,x∈ts1↔(∃ e∈m.2.1.toList,e.born∈seen∧∃ s,e.key=uF s∧Nx ⟨base,bs,dl,⟨blo,bhi⟩⟩ r ices n s x)∨(x∈pre∧fitsB ices n (base+x.1-x.2)=true)) (fun _ _=>False) ?_ ?_ ?_ ?_ ?_ ?_ ?_
      · rintro pre w1 w2 ⟨en1,ck1,ts1,h1,h2,h3⟩ k
        exact ⟨en1,ck1,ts1,h1.later (H.belowK rfl) H.keep.size k,h2,h3⟩
      · rintro _ _ _ h;exact h.elim
      · exact ⟨en,ck,ts,H,hi53.1,fun x=>by rw [hi53.2 x];simp⟩
      · intro w1 k1
        have m1 : ¬ (Of ([(b62,.cells [i s.1,i s.2].toArray 199 (0,0)),(bi38,.mapIter (some m.1) m.2.2 (seen.push e.born) m.2.2),(b35,.cells [.map (some bm33)].toArray 197 (0,0)),(bm33,.map en ck),(b30,.cells [i n].toArray 3 (0,0)),(b3,.cells [.bool false,.bool false,.bool false,.bool false,.bool false,.bool false,.bool false,.bool false].toArray 196 (0,0)),(b1,.cells [i base,.slice ab bs.length cab,.slice ad dl.length cad,i blo,i bhi,.slice ah h.length cah,.slice ai ices.length cai].toArray 153 (0,0))]++(ms.map yX++(Ds2.map vC++Lr))) bq1∨(w65.heap.size≤bq1∧bq1<w1.heap.size)):=by
          rintro (h | h)
          · have:=Hold.ofBelow _ h;omega
          · have:=hcs.1.lt;omega
        have m2 : ¬ (Of ([(b62,.cells [i s.1,i s.2].toArray 199 (0,0)),(bi38,.mapIter (some m.1) m.2.2 (seen.push e.born) m.2.2),(b35,.cells [.map (some bm33)].toArray 197 (0,0)),(bm33,.map en ck),(b30,.cells [i n].toArray 3 (0,0)),(b3,.cells [.bool false,.bool false,.bool false,.bool false,.bool false,.bool false,.bool false,.bool false].toArray 196 (0,0)),(b1,.cells [i base,.slice ab bs.length cab,.slice ad dl.length cad,i blo,i bhi,.slice ah h.length cah,.slice ai ices.length cai].toArray 153 (0,0))]++(ms.map yX++(Ds2.map vC++Lr))) bq2∨(w65.heap.size≤bq2∧bq2<w1.heap.size)):=by
          rintro (h | h)
          · have:=Hold.ofBelow _ h;omega
          · have:=hcs.2.1.lt;omega
        have m3 : ¬ (Of ([(b62,.cells [i s.1,i s.2].toArray 199 (0,0)),(bi38,.mapIter (some m.1) m.2.2 (seen.push e.born) m.2.2),(b35,.cells [.map (some bm33)].toArray 197 (0,0)),(bm33,.map en ck),(b30,.cells [i n].toArray 3 (0,0)),(b3,.cells [.bool false,.bool false,.bool false,.bool false,.bool false,.bool false,.bool false,.bool false].toArray 196 (0,0)),(b1,.cells [i base,.slice ab bs.length cab,.slice ad dl.length cad,i blo,i bhi,.slice ah h.length cah,.slice ai ices.length cai].toArray 153 (0,0))]++(ms.map yX++(Ds2.map vC++Lr))) bq3∨(w65.heap.size≤bq3∧bq3<w1.heap.size)):=by
          rintro (h | h)
          · have:=Hold.ofBelow _ h;omega
          · have:=hcs.2.2.lt;omega
        exact c136 (day:=n) w1 ((hab.ext H.keep).ext k1) ((had.ext H.keep).ext k1) ((hah.ext H.keep).ext k1) (hcs.1.ext k1) (hcs.2.1.ext k1) (hcs.2.2.ext k1) (fun q hq=>by rcases hq with h | h;(have:=H.ofBelow _ h;have:=k1.size;omega);exact h.2) m1 m2 m3 (by omega) (by omega) hr (creepOf_to oG n) (by have:=oG.back;unfold Men.Rg.to at this;exact this) (by omega) hdp
      · rintro l pre t W hl hlW ⟨en1,ck1,ts1,H0,hE1,hT1⟩ ht
        have htb:=Gone.bd oG (oH.each r (List.mem_of_getElem? hr)) (n:=n) hsb ht
        have hkk:(([(b62,.cells [i s.1,i s.2].toArray 199 (0,0)),(bi38,.mapIter (some m.1) m.2.2 (seen.push e.born) m.2.2),(b35,.cells [.map (some bm33)].toArray 197 (0,0)),(bm33,.map en1 ck1),(b30,.cells [i n].toArray 3 (0,0)),(b3,.cells [.bool false,.bool false,.bool false,.bool false,.bool false,.bool false,.bool false,.bool false].toArray 196 (0,0)),(b1,.cells [i base,.slice ab bs.length cab,.slice ad dl.length cad,i blo,i bhi,.slice ah h.length cah,.slice ai ices.length cai].toArray 153 (0,0))]++(ms.map yX++(Ds2.map vC++Lr))):List (Nat×Obj)).map (·.1)=(([(b62,.cells [i s.1,i s.2].toArray 199 (0,0)),(bi38,.mapIter (some m.1) m.2.2 (seen.push e.born) m.2.2),(b35,.cells [.map (some bm33)].toArray 197 (0,0)),(bm33,.map en ck),(b30,.cells [i n].toArray 3 (0,0)),(b3,.cells [.bool false,.bool false,.bool false,.bool false,.bool false,.bool false,.bool false,.bool false].toArray 196 (0,0)),(b1,.cells [i base,.slice ab bs.length cab,.slice ad dl.length cad,i blo,i bhi,.slice ah h.length cah,.slice ai ices.length cai].toArray 153 (0,0))]++(ms.map yX++(Ds2.map vC++Lr))):List (Nat×Obj)).map (·.1):=rfl
        have Hsz:=H.keep.size
        have Hbl : ∀ q∈(([(b62,.cells [i s.1,i s.2].toArray 199 (0,0)),(bi38,.mapIter (some m.1) m.2.2 (seen.push e.born) m.2.2),(b35,.cells [.map (some bm33)].toArray 197 (0,0)),(bm33,.map en1 ck1),(b30,.cells [i n].toArray 3 (0,0)),(b3,.cells [.bool false,.bool false,.bool false,.bool false,.bool false,.bool false,.bool false,.bool false].toArray 196 (0,0)),(b1,.cells [i base,.slice ab bs.length cab,.slice ad dl.length cad,i blo,i bhi,.slice ah h.length cah,.slice ai ices.length cai].toArray 153 (0,0))]++(ms.map yX++(Ds2.map vC++Lr))):List (Nat×Obj)),q.1<w65.heap.size:=H.belowK hkk
        have H:S (Of ([(b62,.cells [i s.1,i s.2].toArray 199 (0,0)),(bi38,.mapIter (some m.1) m.2.2 (seen.push e.born) m.2.2),(b35,.cells [.map (some bm33)].toArray 197 (0,0)),(bm33,.map en ck),(b30,.cells [i n].toArray 3 (0,0)),(b3,.cells [.bool false,.bool false,.bool false,.bool false,.bool false,.bool false,.bool false,.bool false].toArray 196 (0,0)),(b1,.cells [i base,.slice ab bs.length cab,.slice ad dl.length cad,i blo,i bhi,.slice ah h.length cah,.slice ai ices.length cai].toArray 153 (0,0))]++(ms.map yX++(Ds2.map vC++Lr)))) W ([(b62,.cells [i s.1,i s.2].toArray 199 (0,0)),(bi38,.mapIter (some m.1) m.2.2 (seen.push e.born) m.2.2),(b35,.cells [.map (some bm33)].toArray 197 (0,0)),(bm33,.map en1 ck1),(b30,.cells [i n].toArray 3 (0,0)),(b3,.cells [.bool false,.bool false,.bool false,.bool false,.bool false,.bool false,.bool false,.bool false].toArray 196 (0,0)),(b1,.cells [i base,.slice ab bs.length cab,.slice ad dl.length cad,i blo,i bhi,.slice ah h.length cah,.slice ai ices.length cai].toArray 153 (0,0))]++(ms.map yX++(Ds2.map vC++Lr))) W:=H0.roundK hkk
        refine Wp.region ?_
        refine Ro.d rfl rfl rfl (H.new (l:=[i 0,i 0]) rfl zv199 rfl ?_)
        intro b67 w68 Hn;replace H:=Hn;clear Hn
        refine Ro.d0 rfl rfl rfl (H.store (j:=0) (off:=0) (k:=2) rfl sz199 rfl (v:=(.agg #[(i t.1),(i t.2)])) rfl rfl rfl rfl rfl (by simp [Value.oneCell']) (cs':=[i t.1,i t.2]) rfl ?_)
        intro w69 Hn;replace H:S (Of ([(b62,.cells [i s.1,i s.2].toArray 199 (0,0)),(bi38,.mapIter (some m.1) m.2.2 (seen.push e.born) m.2.2),(b35,.cells [.map (some bm33)].toArray 197 (0,0)),(bm33,.map en ck),(b30,.cells [i n].toArray 3 (0,0)),(b3,.cells [.bool false,.bool false,.bool false,.bool false,.bool false,.bool false,.bool false,.bool false].toArray 196 (0,0)),(b1,.cells [i base,.slice ab bs.length cab,.slice ad dl.length cad,i blo,i bhi,.slice ah h.length cah,.slice ai ices.length cai].toArray 153 (0,0))]++(ms.map yX++(Ds2.map vC++Lr)))) W ([(b67,.cells [i t.1,i t.2].toArray 199 (0,0)),(b62,.cells [i s.1,i s.2].toArray 199 (0,0)),(bi38,.mapIter (some m.1) m.2.2 (seen.push e.born) m.2.2),(b35,.cells [.map (some bm33)].toArray 197 (0,0)),(bm33,.map en1 ck1),(b30,.cells [i n].toArray 3 (0,0)),(b3,.cells [.bool false,.bool false,.bool false,.bool false,.bool false,.bool false,.bool false,.bool false].toArray 196 (0,0)),(b1,.cells [i base,.slice ab bs.length cab,.slice ad dl.length cad,i blo,i bhi,.slice ah h.length cah,.slice ai ices.length cai].toArray 153 (0,0))]++(ms.map yX++(Ds2.map vC++Lr))) w69:=Hn;clear Hn
        refine Ro.nil ⟨rfl,H.keep,?_⟩
        intro W2 k2
        have n9 : ¬ Of ([(b62,.cells [i s.1,i s.2].toArray 199 (0,0)),(bi38,.mapIter (some m.1) m.2.2 (seen.push e.born) m.2.2),(b35,.cells [.map (some bm33)].toArray 197 (0,0)),(bm33,.map en ck),(b30,.cells [i n].toArray 3 (0,0)),(b3,.cells [.bool false,.bool false,.bool false,.bool false,.bool false,.bool false,.bool false,.bool false].toArray 196 (0,0)),(b1,.cells [i base,.slice ab bs.length cab,.slice ad dl.length cad,i blo,i bhi,.slice ah h.length cah,.slice ai ices.length cai].toArray 153 (0,0))]++(ms.map yX++(Ds2.map vC++Lr))) b67:=fun h=>S.top H ((of_keys hkk).2 h)
        have z9:W.heap.size≤b67:=(H.fresh (b67,_) (List.mem_cons_self ..)).elim id (fun h=>absurd h n9)
        have hc9:Cells W2 b67 0 [.int .i64 t.1,.int .i64 t.2]:=(H.cells 0 rfl).keep (fun h=>by have h:b67=l:=h;omega) k2
        have H2:S Nm w ([(b62,.cells [i s.1,i s.2].toArray 199 (0,0)),(bi38,.mapIter (some m.1) m.2.2 (seen.push e.born) m.2.2),(b35,.cells [.map (some bm33)].toArray 197 (0,0)),(bm33,.map en1 ck1),(b30,.cells [i n].toArray 3 (0,0)),(b3,.cells [.bool false,.bool false,.bool false,.bool false,.bool false,.bool false,.bool false,.bool false].toArray 196 (0,0)),(b1,.cells [i base,.slice ab bs.length cab,.slice ad dl.length cad,i blo,i bhi,.slice ah h.length cah,.slice ai ices.length cai].toArray 153 (0,0))]++(ms.map yX++(Ds2.map vC++Lr))) W2:=(H0.unroundK hkk H.tail).extM k2 (fun q hq e0=>by have:=Hbl q hq;omega) (fun q hq e0=>by omega)
        clear H
        have H:S (Of ([(b62,.cells [i s.1,i s.2].toArray 199 (0,0)),(bi38,.mapIter (some m.1) m.2.2 (seen.push e.born) m.2.2),(b35,.cells [.map (some bm33)].toArray 197 (0,0)),(bm33,.map en ck),(b30,.cells [i n].toArray 3 (0,0)),(b3,.cells [.bool false,.bool false,.bool false,.bool false,.bool false,.bool false,.bool false,.bool false].toArray 196 (0,0)),(b1,.cells [i base,.slice ab bs.length cab,.slice ad dl.length cad,i blo,i bhi,.slice ah h.length cah,.slice ai ices.length cai].toArray 153 (0,0))]++(ms.map yX++(Ds2.map vC++Lr)))) W2 ([(b62,.cells [i s.1,i s.2].toArray 199 (0,0)),(bi38,.mapIter (some m.1) m.2.2 (seen.push e.born) m.2.2),(b35,.cells [.map (some bm33)].toArray 197 (0,0)),(bm33,.map en1 ck1),(b30,.cells [i n].toArray 3 (0,0)),(b3,.cells [.bool false,.bool false,.bool false,.bool false,.bool false,.bool false,.bool false,.bool false].toArray 196 (0,0)),(b1,.cells [i base,.slice ab bs.length cab,.slice ad dl.length cad,i blo,i bhi,.slice ah h.length cah,.slice ai ices.length cai].toArray 153 (0,0))]++(ms.map yX++(Ds2.map vC++Lr))) W2:=H2.roundK hkk
        refine Wp.block (Wp.seq ?_)
        let qq70:Bool:=fitsB ices n (base+t.1-t.2)
        let qq71:Bool:=(!(decide (t∈ts1)) && qq70)
        refine Wp.drawnS 15 [0,0,3,7,15,31,31,31,159,415,31,1951,31,8191,16383] [is (.map (some bm33)),is (.agg #[(i t.1),(i t.2)]),is (.bool (decide (t∈ts1))),is (.bool (!(decide (t∈ts1)))),is (.bool (!(decide (t∈ts1)))),gdv (True∧(!(decide (t∈ts1)))=true) (.agg #[(i base),(.slice ab bs.length cab),(.slice ad dl.length cad),(i blo),(i bhi),(.slice ah h.length cah),(.slice ai ices.length cai)]),gdv (True∧(!(decide (t∈ts1)))=true) (i n),gdv (True∧(!(decide (t∈ts1)))=true) (p b1 0),gdv (True∧(!(decide (t∈ts1)))=true) (p b1 0),gdv (True∧(!(decide (t∈ts1)))=true) (.agg #[(i base),(.slice ab bs.length cab),(.slice ad dl.length cad),(i blo),(i bhi)]),gdv (True∧(!(decide (t∈ts1)))=true) (.agg #[(i t.1),(i t.2)]),gdv (True∧(!(decide (t∈ts1)))=true) (i (base+t.1-t.2)),gdv (True∧(!(decide (t∈ts1)))=true) (.agg #[(.bool false),(.bool false),(.bool false),(.bool false),(.bool false),(.bool false),(.bool false),(.bool false)]),gdv (True∧(!(decide (t∈ts1)))=true) (.bool qq70),is (.bool qq71)] (by kernel_rfl) (by kernel_rfl) rfl (Mi (Mi (Mi (Mi (Mi (Mg (Mg (Mg (Mg (Mg (Mg (Mg (Mg (Mg (Mi Mono.nil))))))))))))))) (fun w' k=>H.ext k) ?_ ?_
        · refine ⟨?_,?_,?_,?_,?_,?_,?_,?_,?_,?_,?_,?_,?_,?_,?_,trivial⟩
          · exact Ob.q rfl (fun _ _ B U D=>(zE t1_197 ((U 7 rfl).trans f45) (B.cells 2 rfl) (j:=0) rfl rfl)) rfl rfl
          · exact Ob.q rfl (fun _ _ B U D=>(zJ ta199 (show (_:Value)=(p b67 0) from U 9 rfl) (hc9.keep n9 B.keep) (j:=0) rfl (vs:=[i t.1,i t.2]) rfl rfl)) rfl rfl
          · exact Ob.q rfl (fun _ _ B U D=>(r_lookSt Tryz.underlying197 keySt (B.at 3 rfl) hE1 (D 0 rfl) (D 1 rfl) htb zv4)) rfl rfl
          · exact Ob.q rfl (fun _ _ B U D=>(yN (D 2 rfl))) rfl rfl
          · exact Ob.q rfl (fun _ _ B U D=>(zB (D 3 rfl))) rfl rfl
          · exact Ob.g0 rfl rfl (fun _ _ _ D=>D 4 rfl) rfl (fun _ _ B U D hC hg=>(zJ ta153 ((U 2 rfl).trans f40) (B.cells 6 rfl) (j:=0) rfl (vs:=[i base,.slice ab bs.length cab,.slice ad dl.length cad,i blo,i bhi,.slice ah h.length cah,.slice ai ices.length cai]) rfl rfl)) rfl
          · exact Ob.g0 rfl rfl (fun _ _ _ D=>D 4 rfl) rfl (fun _ _ B U D hC hg=>(zE zM ((U 6 rfl).trans f44) (B.cells 4 rfl) (j:=0) rfl rfl)) rfl
          · exact Ob.g0 rfl rfl (fun _ _ _ D=>D 4 rfl) rfl (fun _ _ B U D hC hg=>(zA fo153_0 ((U 2 rfl).trans f40) rfl)) rfl
          · exact Ob.g0 rfl rfl (fun _ _ _ D=>D 4 rfl) rfl (fun _ _ B U D hC hg=>(zA fo151_0 (gdy (D 7 rfl) ⟨hC,hg⟩) rfl)) rfl
          · exact Ob.g0 rfl rfl (fun _ _ _ D=>D 4 rfl) rfl (fun _ _ B U D hC hg=>(zJ ta43 (gdy (D 8 rfl) ⟨hC,hg⟩) (B.cells 6 rfl) (j:=0) rfl (vs:=[i base,.slice ab bs.length cab,.slice ad dl.length cad,i blo,i bhi]) rfl rfl)) rfl
          · exact Ob.g0 rfl rfl (fun _ _ _ D=>D 4 rfl) rfl (fun _ _ B U D hC hg=>(zJ ta199 (show (_:Value)=(p b67 0) from U 9 rfl) (hc9.keep n9 B.keep) (j:=0) rfl (vs:=[i t.1,i t.2]) rfl rfl)) rfl
          · exact Ob.gd (C:=True) (g:=!(decide (t∈ts1))) rfl rfl (fun ρ' w' U D=>⟨fun _=>(D 4 rfl),fun h=>absurd trivial h⟩) (fun _ h=>⟨fun hc=>absurd hc (yQ h),fun _=>rfl⟩) fun ρ' w' B U D hC hg=>zH rfl en113 (ce (v:=(.agg #[(i base),(.slice ab bs.length cab),(.slice ad dl.length cad),(i blo),(i bhi)])) (gdy (D 9 rfl) ⟨hC,hg⟩) (ce (v:=(.agg #[(i t.1),(i t.2)])) (gdy (D 10 rfl) ⟨hC,hg⟩) cn)) (c113 base blo bhi t.1 t.2 ab bs cab ad dl cad _ (hab.oldK H2 hkk B.keep) (had.oldK H2 hkk B.keep) (by omega)) (fun u w2 k2 hu=>⟨k2,⟨fun _=>hu,fun n=>absurd ⟨hC,hg⟩ n⟩⟩)
          · exact Ob.g0 rfl rfl (fun _ _ _ D=>D 4 rfl) rfl (fun _ _ B U D hC hg=>(zJ ta196 ((U 3 rfl).trans f41) (B.cells 5 rfl) (j:=0) rfl (vs:=[.bool false,.bool false,.bool false,.bool false,.bool false,.bool false,.bool false,.bool false]) rfl rfl)) rfl
          · exact Ob.gd (C:=True) (g:=!(decide (t∈ts1))) rfl rfl (fun ρ' w' U D=>⟨fun _=>(D 4 rfl),fun h=>absurd trivial h⟩) (fun _ h=>⟨fun hc=>absurd hc (yQ h),fun _=>rfl⟩) fun ρ' w' B U D hC hg=>zH rfl en133 (ce (v:=(.agg #[(i base),(.slice ab bs.length cab),(.slice ad dl.length cad),(i blo),(i bhi),(.slice ah h.length cah),(.slice ai ices.length cai)])) (gdy (D 5 rfl) ⟨hC,hg⟩) (ce (v:=(i n)) (gdy (D 6 rfl) ⟨hC,hg⟩) (ce (v:=(i (base+t.1-t.2))) (gdy (D 11 rfl) ⟨hC,hg⟩) (ce (v:=(.agg #[(.bool false),(.bool false),(.bool false),(.bool false),(.bool false),(.bool false),(.bool false),(.bool false)])) (gdy (D 12 rfl) ⟨hC,hg⟩) cn)))) (c133 base blo bhi n (base+t.1-t.2) ab bs cab ad dl cad ah h cah ai ices cai _ (hab.oldK H2 hkk B.keep) (had.oldK H2 hkk B.keep) (hah.oldK H2 hkk B.keep) (hai.oldK H2 hkk B.keep) hic (by omega) hin) (fun u w2 k2 hu=>⟨k2,⟨fun _=>hu,fun n=>absurd ⟨hC,hg⟩ n⟩⟩)
          · exact Ob.q rfl (fun _ _ B U D=>(zQ (v:=(.bool qq71)) (D 4 rfl) (fun eP=>(gdy (D 13 rfl) ⟨trivial,eP⟩).trans (yF eP)) (fun eP=>yE eP))) rfl rfl
        intro ρ72 w73 k74 U75 D76;replace H:=H.ext k74
        have f82:=(U75 7 rfl).trans f45
        have f84:ρ72 9=(p b67 0):=U75 9 rfl
        have f98:ρ72 51=(.bool qq71):=D76 14 rfl
        clear U75 D76 k74
        refine Ro.nil (nT ?_)
        refine Wp.cond (t:=qq71) f98 ?_ ?_
        · intro c99
          have c99r:((!(decide (t∈ts1)) && (fitsB ices n (base+t.1-t.2))))=true:=c99
          replace c99:=c99r
          simp only [bx] at c99
          refine Wp.region ?_
          refine Ro.q rfl rfl (zE t1_197 f82 (H.cells 2 rfl) (j:=0) rfl rfl) rfl ?_
          refine Ro.q rfl rfl (zJ ta199 f84 (hc9.keep n9 H.keep) (j:=0) rfl (vs:=[i t.1,i t.2]) rfl rfl) rfl ?_
          refine Ro.d0 rfl rfl rfl (H.mapSet (j:=3) (C:=IsSt) (kx:=uF (t.1,t.2)) (vy:=.bool true) Tryz.underlying197 keySt (.inl rfl) rfl rfl ⟨(t.1,t.2),rfl,htb⟩ rfl rfl hE1 ?_)
          intro en100 ck101 kv102 w103 hE104 hp105 Hn
          obtain ⟨ts106,hM107,hx108⟩:=MapIs.put hE1 hE104 hp105
          replace H:S (Of ([(b62,.cells [i s.1,i s.2].toArray 199 (0,0)),(bi38,.mapIter (some m.1) m.2.2 (seen.push e.born) m.2.2),(b35,.cells [.map (some bm33)].toArray 197 (0,0)),(bm33,.map en ck),(b30,.cells [i n].toArray 3 (0,0)),(b3,.cells [.bool false,.bool false,.bool false,.bool false,.bool false,.bool false,.bool false,.bool false].toArray 196 (0,0)),(b1,.cells [i base,.slice ab bs.length cab,.slice ad dl.length cad,i blo,i bhi,.slice ah h.length cah,.slice ai ices.length cai].toArray 153 (0,0))]++(ms.map yX++(Ds2.map vC++Lr)))) W2 ([(b62,.cells [i s.1,i s.2].toArray 199 (0,0)),(bi38,.mapIter (some m.1) m.2.2 (seen.push e.born) m.2.2),(b35,.cells [.map (some bm33)].toArray 197 (0,0)),(bm33,.map en100 ck101),(b30,.cells [i n].toArray 3 (0,0)),(b3,.cells [.bool false,.bool false,.bool false,.bool false,.bool false,.bool false,.bool false,.bool false].toArray 196 (0,0)),(b1,.cells [i base,.slice ab bs.length cab,.slice ad dl.length cad,i blo,i bhi,.slice ah h.length cah,.slice ai ices.length cai].toArray 153 (0,0))]++(ms.map yX++(Ds2.map vC++Lr))) w103:=Hn;clear Hn
          refine Ro.nil (nB (?_))
          refine ⟨H.keep,en100,ck101,ts106,H2.unroundK hkk H,hM107,fun x=>?_⟩
          exact step_put hx108 hT1 c99r
        intro c99
        have c99r:((!(decide (t∈ts1)) && (fitsB ices n (base+t.1-t.2))))=false:=c99
        replace c99:=c99r
        simp only [bx] at c99
        refine Wp.skip (nB (?_))
        refine ⟨H.keep,en1,ck1,ts1,H2.unroundK hkk H,hE1,fun x=>?_⟩
        exact step_not hT1 c99r
      · rintro D xs W hD hxs ⟨en2,ck2,ts2,H2,hE2,hT2⟩ hDo
        have HD:S Nm w ((D,.deferred (some [])) :: ([(b62,.cells [i s.1,i s.2].toArray 199 (0,0)),(bi38,.mapIter (some m.1) m.2.2 (seen.push e.born) m.2.2),(b35,.cells [.map (some bm33)].toArray 197 (0,0)),(bm33,.map en2 ck2),(b30,.cells [i n].toArray 3 (0,0)),(b3,.cells [.bool false,.bool false,.bool false,.bool false,.bool false,.bool false,.bool false,.bool false].toArray 196 (0,0)),(b1,.cells [i base,.slice ab bs.length cab,.slice ad dl.length cad,i blo,i bhi,.slice ah h.length cah,.slice ai ices.length cai].toArray 153 (0,0))]++(ms.map yX++(Ds2.map vC++Lr)))) W:=H2.adopt hDo (fun p hp=>by have:=H.belowK (L':=([(b62,.cells [i s.1,i s.2].toArray 199 (0,0)),(bi38,.mapIter (some m.1) m.2.2 (seen.push e.born) m.2.2),(b35,.cells [.map (some bm33)].toArray 197 (0,0)),(bm33,.map en2 ck2),(b30,.cells [i n].toArray 3 (0,0)),(b3,.cells [.bool false,.bool false,.bool false,.bool false,.bool false,.bool false,.bool false,.bool false].toArray 196 (0,0)),(b1,.cells [i base,.slice ab bs.length cab,.slice ad dl.length cad,i blo,i bhi,.slice ah h.length cah,.slice ai ices.length cai].toArray 153 (0,0))]++(ms.map yX++(Ds2.map vC++Lr)))) rfl p hp;omega) (Nat.le_trans H.keep.size hD)
        clear H
        have H:S Nm w ([(b62,.cells [i s.1,i s.2].toArray 199 (0,0)),(bi38,.mapIter (some m.1) m.2.2 (seen.push e.born) m.2.2),(b35,.cells [.map (some bm33)].toArray 197 (0,0)),(bm33,.map en2 ck2),(b30,.cells [i n].toArray 3 (0,0)),(b3,.cells [.bool false,.bool false,.bool false,.bool false,.bool false,.bool false,.bool false,.bool false].toArray 196 (0,0)),(b1,.cells [i base,.slice ab bs.length cab,.slice ad dl.length cad,i blo,i bhi,.slice ah h.length cah,.slice ai ices.length cai].toArray 153 (0,0))]++(ms.map yX++((D :: Ds2).map vC++Lr))) W:=HD.perm (mark_perm _ _ _ _)
        refine id (nB (nB (nT ?_)))
        exact ⟨(leftOf m.2.1 (seen.push e.born)).size,(by rw [hk51];exact left_lt he),(seen.push e.born),en2,ck2,ts2,(D :: Ds2),rfl,trivial,rfl,f40,f41,f42,f43,f44,f45,f46,f47,f48,(H.drop 1),⟨hE2,seen_step (g:=⟨base,bs,dl,⟨blo,bhi⟩⟩) hmE.born hel.1 hek hT2 hxs⟩⟩
      · rintro D c W hD h;exact h.elim
  intro c29
  have c29r:=c29
  simp only [bx] at c29
  refine Wp.exit (xT (xT (xB (nT (Wp.seq (Wp.region ?_))))))
  refine Ro.q (v:=(.slice a ms.length c)) rfl rfl (zB f23) rfl ?_
  refine Ro.q (v:=(.slice a ms.length c)) rfl rfl (zD rfl) rfl ?_
  refine Ro.nil (nT (Wp.ret (zN ?_)))
  have Hm:S Nm w (Ds.map vC++([(b3,.cells [.bool false,.bool false,.bool false,.bool false,.bool false,.bool false,.bool false,.bool false].toArray 196 (0,0)),(b1,.cells [i base,.slice ab bs.length cab,.slice ad dl.length cad,i blo,i bhi,.slice ah h.length cah,.slice ai ices.length cai].toArray 153 (0,0))]++(ms.map yX++Lr))) _:=H.perm (by first | exact List.perm_append_comm | exact marks3 _ _ _ _ | (rw [← List.append_assoc];exact List.perm_append_comm))
  refine Leave.marksS Hm ?_
  intro w110 Hn;replace H:=Hn;clear Hn
  refine zI (v:=(.slice a ms.length c)) Tryz.results112 rfl ⟨H.keep,?_⟩
  have hn:n=h.length:=by omega
  obtain ⟨g,tl,rfl,rfl,_,_,_⟩:=hi28.1.room (by omega)
  refine ⟨g,c,ms,tl,by rw [show ms.length=h.length+1 by omega],?_,by omega,hi28.2⟩
  exact (H.part).perm List.perm_append_comm
end Go.Proofs.YthfnjppieihcfaaGreat
namespace Go.Proofs.YthfnjppieihcfaaGreat
open Go.RowKit Go.Proofs Go.Mw
theorem en131:Go.Proofs.Enters Tryz.prog 131:=Go.Proofs.enters_of Tryz.func131 (by kernel_rfl) rfl
theorem en132:Go.Proofs.Enters Tryz.prog 132:=Go.Proofs.enters_of Tryz.func132 (by kernel_rfl) rfl
theorem en146:Go.Proofs.Enters Tryz.prog 146:=Go.Proofs.enters_of Tryz.func146 (by kernel_rfl) rfl
theorem en147:Go.Proofs.Enters Tryz.prog 147:=Go.Proofs.enters_of Tryz.func147 (by kernel_rfl) rfl
theorem en148:Go.Proofs.Enters Tryz.prog 148:=Go.Proofs.enters_of Tryz.func148 (by kernel_rfl) rfl
theorem en154:Go.Proofs.Enters Tryz.prog 154:=Go.Proofs.enters_of Tryz.func154 (by kernel_rfl) rfl
theorem t1_119:T1 Tryz.prog 119:=⟨Tryz.isAgg119,fun _=>by kernel_rfl⟩
theorem t1_191:T1 Tryz.prog 191:=⟨Tryz.isAgg191,fun _=>by kernel_rfl⟩
open Men
def idxL {α:Type} (f:α→Bool):List α→Int→Int
  | [],_=>-1
  | x :: l,n=>bif f x then n else idxL f l (n+1)
theorem idxL_any {α:Type} (f:α→Bool) : ∀ (l:List α) (n:Int),0≤n→decide (0≤idxL f l n)=l.any f
  | [],n,_=>rfl
  | x :: l,n,h=>by
    unfold idxL
    rw [List.any_cons]
    cases hx:f x
    · simp only [cond_false,Bool.false_or];exact idxL_any f l (n+1) (by omega)
    · simp;omega
theorem idxL_hit {α:Type} (f:α→Bool) : ∀ (l:List α) (n m:Int) (e:α),0≤n→l[n.toNat]? = some e→(l.take n.toNat).any f=false→f e=true→idxL f l m=m+n
  | [],n,m,e,_,h,_,_=>by simp at h
  | x :: l,n,m,e,h0,h,ha,he=>by
    unfold idxL
    by_cases hn:n=0
    · subst hn;simp at h;subst h;rw [he];simp
    · obtain ⟨k,hk⟩ : ∃ k:Nat,n.toNat=k+1:=⟨n.toNat-1,by omega⟩
      rw [hk] at h ha
      simp only [List.take_succ_cons,List.any_cons,Bool.or_eq_false_iff] at ha
      rw [ha.1]
      simp only [cond_false]
      rw [idxL_hit f l (n-1) (m+1) e (by omega) (by rw [show (n-1).toNat=k by omega];simpa using h) (by rw [show (n-1).toNat=k by omega];exact ha.2) he]
      omega
theorem idxL_none {α:Type} (f:α→Bool) : ∀ (l:List α) (m:Int),l.any f=false→idxL f l m = -1
  | [],_,_=>rfl
  | x :: l,m,h=>by
    rw [List.any_cons,Bool.or_eq_false_iff] at h
    unfold idxL
    rw [h.1];exact idxL_none f l (m+1) h.2
theorem all_not {α:Type} (f:α→Bool) (l:List α):(!l.any fun x=>!f x)=l.all f:=by
  induction l with
  | nil=>rfl
  | cons x l ih=>rw [List.any_cons,List.all_cons,← ih];cases f x <;>simp
theorem c148 {a:Option Addr} {xs:List Ice} {ca:Nat} {fi:FuncId} {cv:List Value} {φ:Ice→Bool} (w:World) (ha:Sl w 3 (xs.map iceV) a) (hl:xs.length≤4611686018427387904) (hen:Enters Tryz.prog fi) (hf : ∀ e,e∈xs→∀ w',Keep Nm w w'→Rv Tryz.prog fi (.agg #[i e.day,i e.zero,i e.err] :: cv) w' (.bool (φ e))):Rv Tryz.prog 148 [(.slice a xs.length ca),(.func (.func fi) #[] cv.toArray)] w (.int .i64 (idxL φ xs 0)):=by
  refine Ret.body (N:=19) Tryz.func148 rfl Tryz.ntmps148 rfl ?_
  have H:=S.start Nm w
  refine Wp.seq (Wp.region ?_)
  refine Ro.q (v:=(i 0)) rfl rfl (zD rfl) rfl ?_
  refine Ro.nil (nT (Wp.seq (Wp.seq (Wp.region ?_))))
  refine Ro.q (v:=(.slice a xs.length ca)) rfl rfl (zB rfl) rfl ?_
  refine Ro.q rfl rfl (yG Tryz.underlying49 rfl (v:=xs.length) rfl) rfl ?_
  refine Ro.q (v:=(i 0)) rfl rfl (zB rfl) rfl ?_
  refine Ro.nil (nT (Wp.block ?_))
  refine Wp.loop (fun kM ds ρ w'=>∃ n:Int,ds=[]∧(0≤n∧n≤xs.length)∧kM=((xs.length:Int)-n).toNat∧ρ 0=(.slice a xs.length ca)∧ρ 1=(.func (.func fi) #[] cv.toArray)∧ρ 7=(i ((xs.length:Nat):Int))∧ρ 8=(i n)∧S Nm w [] w'∧((xs.take n.toNat).any φ=false)) (((xs.length:Int)-0).toNat) ⟨0,rfl,(by omega),rfl,rfl,rfl,rfl,rfl,H,(by simp)⟩ ?_
  clear H
  intro kρ5 dsρ5 ρ5 w6
  rintro ⟨n,rfl,hb8,hk7,f1,f2,f3,f4,H,hi9⟩
  refine Wp.seq (Wp.region ?_)
  refine Ro.q rfl rfl (yB f4 f3) rfl ?_
  refine Ro.nil (nT (Wp.seq ?_))
  refine Wp.cond (t:=decide (n<((xs.length:Nat):Int))) rfl ?_ ?_
  · intro c10
    have c10r:=c10
    simp only [bx] at c10
    obtain ⟨e,he⟩:=vQ xs n (by omega) (by omega)
    refine Wp.skip (nT (Wp.seq (Wp.block (Wp.seq (Wp.region ?_)))))
    refine Ro.q (v:=(i n)) rfl rfl (zB f4) rfl ?_
    refine Ro.q (v:=(i n)) rfl rfl (zD rfl) rfl ?_
    refine Ro.nil (nT (Wp.seq (Wp.region ?_)))
    refine Ro.q (v:=(.func (.func fi) #[] cv.toArray)) rfl rfl (zB f2) rfl ?_
    refine Ro.q (v:=(.slice a xs.length ca)) rfl rfl (zB f1) rfl ?_
    refine Ro.q (v:=(i n)) rfl rfl (zB rfl) rfl ?_
    refine Ro.q rfl rfl (zY ts49 (ha.ext H.keep) rfl (by simp) rfl (by omega) (zW he)) rfl ?_
    refine Ro.q rfl rfl (zJ ta103 rfl ((ha.ext H.keep).cells (zW he)) (j:=0) rfl (vs:=[i e.day,i e.zero,i e.err]) rfl rfl) rfl ?_
    refine Ro.d rfl rfl rfl (uG (fv:=[]) (cv:=cv) rfl rfl hen (ce (v:=(.agg #[(i e.day),(i e.zero),(i e.err)])) rfl cn) (hf e (List.mem_of_getElem? he) _ H.keep) ?_)
    intro u w11 k12 hu;subst hu;replace H:=H.ext k12;clear k12
    refine Ro.nil (nT ?_)
    refine Wp.cond (t:=φ e) rfl ?_ ?_
    · intro c13
      have c13r:=c13
      refine Wp.seq (Wp.region ?_)
      refine Ro.q (v:=(i n)) rfl rfl (zB rfl) rfl ?_
      refine Ro.q (v:=(i n)) rfl rfl (zD rfl) rfl ?_
      refine Ro.nil (nT (Wp.ret (rB (rT (rT (rB (rT (zN ?_))))))))
      refine zI (v:=(i n)) Tryz.results148 rfl ⟨H.keep,?_⟩
      refine congrArg (Value.int _) ?_
      rw [idxL_hit φ xs n 0 e (by omega) he hi9 c13];omega
    intro c13
    have c13r:=c13
    refine Wp.skip (nB (nT (Wp.region ?_)))
    refine Ro.q rfl rfl (zU f4 rfl (by constructor <;>omega)) rfl ?_
    refine Ro.q (v:=(i (n+1))) rfl rfl (zB rfl) rfl ?_
    refine Ro.nil (nT ?_)
    exact ⟨((xs.length:Int)-(n+1)).toNat,by omega,(n+1),rfl,(by omega),rfl,f1,f2,f3,rfl,H,(any_take (by omega) he hi9 c13)⟩
  intro c10
  have c10r:=c10
  simp only [bx] at c10
  refine Wp.exit (xT (xT (xB (nT (Wp.seq (Wp.region ?_))))))
  refine Ro.q (v:=(i (-1))) rfl rfl (zD rfl) rfl ?_
  refine Ro.nil (nT (Wp.ret (zN ?_)))
  refine zI (v:=(i (-1))) Tryz.results148 rfl ⟨H.keep,?_⟩
  exact congrArg (Value.int _) (idxL_none φ xs 0 (any_end (by omega) hi9)).symm
theorem c131 {a:Option Addr} {xs:List Ice} {ca:Nat} {fi:FuncId} {cv:List Value} {φ:Ice→Bool} (w:World) (ha:Sl w 3 (xs.map iceV) a) (hl:xs.length≤4611686018427387904) (hen:Enters Tryz.prog fi) (hf : ∀ e,e∈xs→∀ w',Keep Nm w w'→Rv Tryz.prog fi (.agg #[i e.day,i e.zero,i e.err] :: cv) w' (.bool (φ e))):Rv Tryz.prog 131 [(.slice a xs.length ca),(.func (.func fi) #[] cv.toArray)] w (.bool (xs.any φ)):=by
  refine Ret.body (N:=9) Tryz.func131 rfl Tryz.ntmps131 rfl ?_
  have H:=S.start Nm w
  refine Wp.seq (Wp.region ?_)
  refine Ro.q (v:=(.bool false)) rfl rfl (zD rfl) rfl ?_
  refine Ro.nil (nT (Wp.seq (Wp.region ?_)))
  refine Ro.q (v:=(.slice a xs.length ca)) rfl rfl (zB rfl) rfl ?_
  refine Ro.q (v:=(.func (.func fi) #[] cv.toArray)) rfl rfl (zB rfl) rfl ?_
  refine Ro.d rfl rfl rfl (zH rfl en148 (ce (v:=(.slice a xs.length ca)) rfl (ce (v:=(.func (.func fi) #[] cv.toArray)) rfl cn)) (c148 _ (ha.ext H.keep) hl hen (fun e he w2 k=>hf e he w2 (H.keep.trans k))) ?_)
  intro u w1 k2 hu;subst hu;replace H:=H.ext k2;clear k2
  refine Ro.q rfl rfl (r_geq rfl rfl) rfl ?_
  refine Ro.q (v:=(.bool (decide (0≤(idxL φ xs 0))))) rfl rfl (zD rfl) rfl ?_
  refine Ro.nil (nT (Wp.ret (zN ?_)))
  refine zI (v:=(.bool (decide (0≤(idxL φ xs 0))))) Tryz.results131 rfl ⟨H.keep,?_⟩
  exact congrArg Value.bool (idxL_any φ xs 0 (by omega))
theorem c132 {e:Ice} {fi:FuncId} {cv:List Value} {ψ:Bool} {bf:Nat} (w:World) (hc:Cells w bf 0 [.func (.func fi) #[] cv.toArray]) (hen:Enters Tryz.prog fi) (hf : ∀ w',Keep Nm w w'→Rv Tryz.prog fi (.agg #[i e.day,i e.zero,i e.err] :: cv) w' (.bool ψ)):Rv Tryz.prog 132 [.agg #[i e.day,i e.zero,i e.err],p bf 0] w (.bool (!ψ)):=by
  refine Ret.body (N:=8) Tryz.func132 rfl Tryz.ntmps132 rfl ?_
  have H:=S.start Nm w
  refine Wp.seq (Wp.region ?_)
  refine Ro.d rfl rfl rfl (H.box (l:=[i e.day,i e.zero,i e.err]) rfl (v:=(.agg #[(i e.day),(i e.zero),(i e.err)])) rfl rfl ?_)
  intro b1 w2 Hn;replace H:=Hn;clear Hn
  refine Ro.q (v:=(.bool false)) rfl rfl (zD rfl) rfl ?_
  refine Ro.nil (nT (Wp.seq (Wp.region ?_)))
  refine Ro.q rfl rfl (zE t1_191 rfl (hc.ext H.keep) (j:=0) rfl rfl) rfl ?_
  refine Ro.q rfl rfl (zJ ta103 rfl (H.cells 0 rfl) (j:=0) rfl (vs:=[i e.day,i e.zero,i e.err]) rfl rfl) rfl ?_
  refine Ro.d rfl rfl rfl (uG (fv:=[]) (cv:=cv) rfl rfl hen (ce (v:=(.agg #[(i e.day),(i e.zero),(i e.err)])) rfl cn) (hf _ H.keep) ?_)
  intro u w3 k4 hu;subst hu;replace H:=H.ext k4;clear k4
  refine Ro.q rfl rfl (yN rfl) rfl ?_
  refine Ro.q (v:=(.bool (!ψ))) rfl rfl (zD rfl) rfl ?_
  refine Ro.nil (nT (Wp.ret (zN ?_)))
  refine zI (v:=(.bool (!ψ))) Tryz.results132 rfl ⟨H.keep,?_⟩
  rfl
theorem c111 {a:Option Addr} {xs:List Ice} {ca:Nat} {fi:FuncId} {cv:List Value} {φ:Ice→Bool} (w:World) (ha:Sl w 3 (xs.map iceV) a) (hl:xs.length≤4611686018427387904) (hen:Enters Tryz.prog fi) (hf : ∀ e,e∈xs→∀ w',Keep Nm w w'→Rv Tryz.prog fi (.agg #[i e.day,i e.zero,i e.err] :: cv) w' (.bool (φ e))):Rv Tryz.prog 111 [(.slice a xs.length ca),(.func (.func fi) #[] cv.toArray)] w (.bool (xs.all φ)):=by
  refine Ret.body (N:=9) Tryz.func111 rfl Tryz.ntmps111 rfl ?_
  have H:=S.start Nm w
  refine Wp.seq (Wp.region ?_)
  refine Ro.d rfl rfl rfl (H.box (l:=[.func (.func fi) #[] cv.toArray]) rfl (v:=(.func (.func fi) #[] cv.toArray)) rfl rfl ?_)
  intro b1 w2 Hn;replace H:=Hn;clear Hn
  refine Ro.q (v:=(.bool false)) rfl rfl (zD rfl) rfl ?_
  refine Ro.nil (nT (Wp.seq (Wp.region ?_)))
  refine Ro.q (v:=(.slice a xs.length ca)) rfl rfl (zB rfl) rfl ?_
  refine Ro.q (v:=(.func (.func 132) #[] #[(p b1 0)])) rfl rfl (uH cn (ce (v:=(p b1 0)) rfl cn)) rfl ?_
  refine Ro.d rfl rfl rfl (zH rfl en131 (ce (v:=(.slice a xs.length ca)) rfl (ce (v:=(.func (.func 132) #[] #[(p b1 0)])) rfl cn)) (c131 (φ:=fun x=>!φ x) _ (ha.ext H.keep) hl en132 (fun e he w2 k=>c132 _ ((H.cells 0 rfl).ext k) hen (fun w3 k3=>hf e he w3 ((H.keep.trans k).trans k3)))) ?_)
  intro u w3 k4 hu;subst hu;replace H:=H.ext k4;clear k4
  refine Ro.q rfl rfl (yN rfl) rfl ?_
  refine Ro.q (v:=(.bool (!(xs.any fun x=>!φ x)))) rfl rfl (zD rfl) rfl ?_
  refine Ro.nil (nT (Wp.ret (zN ?_)))
  refine zI (v:=(.bool (!(xs.any fun x=>!φ x)))) Tryz.results111 rfl ⟨H.keep,?_⟩
  exact congrArg Value.bool (all_not φ xs)
theorem c154 {a:Option Addr} {xs:List Rg} {ca:Nat} {fi:FuncId} {cv:List Value} {φ:Rg→Bool} (w:World) (ha:Sl w 2 (xs.map rgV) a) (hl:xs.length≤4611686018427387904) (hen:Enters Tryz.prog fi) (hf : ∀ e,e∈xs→∀ w',Keep Nm w w'→Rv Tryz.prog fi (.agg #[i e.lo,i e.hi] :: cv) w' (.bool (φ e))):Rv Tryz.prog 154 [(.slice a xs.length ca),(.func (.func fi) #[] cv.toArray)] w (.int .i64 (idxL φ xs 0)):=by
  refine Ret.body (N:=19) Tryz.func154 rfl Tryz.ntmps154 rfl ?_
  have H:=S.start Nm w
  refine Wp.seq (Wp.region ?_)
  refine Ro.q (v:=(i 0)) rfl rfl (zD rfl) rfl ?_
  refine Ro.nil (nT (Wp.seq (Wp.seq (Wp.region ?_))))
  refine Ro.q (v:=(.slice a xs.length ca)) rfl rfl (zB rfl) rfl ?_
  refine Ro.q rfl rfl (yG Tryz.underlying47 rfl (v:=xs.length) rfl) rfl ?_
  refine Ro.q (v:=(i 0)) rfl rfl (zB rfl) rfl ?_
  refine Ro.nil (nT (Wp.block ?_))
  refine Wp.loop (fun kM ds ρ w'=>∃ n:Int,ds=[]∧(0≤n∧n≤xs.length)∧kM=((xs.length:Int)-n).toNat∧ρ 0=(.slice a xs.length ca)∧ρ 1=(.func (.func fi) #[] cv.toArray)∧ρ 7=(i ((xs.length:Nat):Int))∧ρ 8=(i n)∧S Nm w [] w'∧((xs.take n.toNat).any φ=false)) (((xs.length:Int)-0).toNat) ⟨0,rfl,(by omega),rfl,rfl,rfl,rfl,rfl,H,(by simp)⟩ ?_
  clear H
  intro kρ5 dsρ5 ρ5 w6
  rintro ⟨n,rfl,hb8,hk7,f1,f2,f3,f4,H,hi9⟩
  refine Wp.seq (Wp.region ?_)
  refine Ro.q rfl rfl (yB f4 f3) rfl ?_
  refine Ro.nil (nT (Wp.seq ?_))
  refine Wp.cond (t:=decide (n<((xs.length:Nat):Int))) rfl ?_ ?_
  · intro c10
    have c10r:=c10
    simp only [bx] at c10
    obtain ⟨e,he⟩:=vQ xs n (by omega) (by omega)
    refine Wp.skip (nT (Wp.seq (Wp.block (Wp.seq (Wp.region ?_)))))
    refine Ro.q (v:=(i n)) rfl rfl (zB f4) rfl ?_
    refine Ro.q (v:=(i n)) rfl rfl (zD rfl) rfl ?_
    refine Ro.nil (nT (Wp.seq (Wp.region ?_)))
    refine Ro.q (v:=(.func (.func fi) #[] cv.toArray)) rfl rfl (zB f2) rfl ?_
    refine Ro.q (v:=(.slice a xs.length ca)) rfl rfl (zB f1) rfl ?_
    refine Ro.q (v:=(i n)) rfl rfl (zB rfl) rfl ?_
    refine Ro.q rfl rfl (zY ts47 (ha.ext H.keep) rfl (by simp) rfl (by omega) (zW he)) rfl ?_
    refine Ro.q rfl rfl (zJ vL rfl ((ha.ext H.keep).cells (zW he)) (j:=0) rfl (vs:=[i e.lo,i e.hi]) rfl rfl) rfl ?_
    refine Ro.d rfl rfl rfl (uG (fv:=[]) (cv:=cv) rfl rfl hen (ce (v:=(.agg #[(i e.lo),(i e.hi)])) rfl cn) (hf e (List.mem_of_getElem? he) _ H.keep) ?_)
    intro u w11 k12 hu;subst hu;replace H:=H.ext k12;clear k12
    refine Ro.nil (nT ?_)
    refine Wp.cond (t:=φ e) rfl ?_ ?_
    · intro c13
      have c13r:=c13
      refine Wp.seq (Wp.region ?_)
      refine Ro.q (v:=(i n)) rfl rfl (zB rfl) rfl ?_
      refine Ro.q (v:=(i n)) rfl rfl (zD rfl) rfl ?_
      refine Ro.nil (nT (Wp.ret (rB (rT (rT (rB (rT (zN ?_))))))))
      refine zI (v:=(i n)) Tryz.results154 rfl ⟨H.keep,?_⟩
      refine congrArg (Value.int _) ?_
      rw [idxL_hit φ xs n 0 e (by omega) he hi9 c13];omega
    intro c13
    have c13r:=c13
    refine Wp.skip (nB (nT (Wp.region ?_)))
    refine Ro.q rfl rfl (zU f4 rfl (by constructor <;>omega)) rfl ?_
    refine Ro.q (v:=(i (n+1))) rfl rfl (zB rfl) rfl ?_
    refine Ro.nil (nT ?_)
    exact ⟨((xs.length:Int)-(n+1)).toNat,by omega,(n+1),rfl,(by omega),rfl,f1,f2,f3,rfl,H,(any_take (by omega) he hi9 c13)⟩
  intro c10
  have c10r:=c10
  simp only [bx] at c10
  refine Wp.exit (xT (xT (xB (nT (Wp.seq (Wp.region ?_))))))
  refine Ro.q (v:=(i (-1))) rfl rfl (zD rfl) rfl ?_
  refine Ro.nil (nT (Wp.ret (zN ?_)))
  refine zI (v:=(i (-1))) Tryz.results154 rfl ⟨H.keep,?_⟩
  exact congrArg (Value.int _) (idxL_none φ xs 0 (any_end (by omega) hi9)).symm
theorem c146 {a:Option Addr} {xs:List Rg} {ca:Nat} {fi:FuncId} {cv:List Value} {φ:Rg→Bool} (w:World) (ha:Sl w 2 (xs.map rgV) a) (hl:xs.length≤4611686018427387904) (hen:Enters Tryz.prog fi) (hf : ∀ e,e∈xs→∀ w',Keep Nm w w'→Rv Tryz.prog fi (.agg #[i e.lo,i e.hi] :: cv) w' (.bool (φ e))):Rv Tryz.prog 146 [(.slice a xs.length ca),(.func (.func fi) #[] cv.toArray)] w (.bool (xs.any φ)):=by
  refine Ret.body (N:=9) Tryz.func146 rfl Tryz.ntmps146 rfl ?_
  have H:=S.start Nm w
  refine Wp.seq (Wp.region ?_)
  refine Ro.q (v:=(.bool false)) rfl rfl (zD rfl) rfl ?_
  refine Ro.nil (nT (Wp.seq (Wp.region ?_)))
  refine Ro.q (v:=(.slice a xs.length ca)) rfl rfl (zB rfl) rfl ?_
  refine Ro.q (v:=(.func (.func fi) #[] cv.toArray)) rfl rfl (zB rfl) rfl ?_
  refine Ro.d rfl rfl rfl (zH rfl en154 (ce (v:=(.slice a xs.length ca)) rfl (ce (v:=(.func (.func fi) #[] cv.toArray)) rfl cn)) (c154 _ (ha.ext H.keep) hl hen (fun e he w2 k=>hf e he w2 (H.keep.trans k))) ?_)
  intro u w1 k2 hu;subst hu;replace H:=H.ext k2;clear k2
  refine Ro.q rfl rfl (r_geq rfl rfl) rfl ?_
  refine Ro.q (v:=(.bool (decide (0≤(idxL φ xs 0))))) rfl rfl (zD rfl) rfl ?_
  refine Ro.nil (nT (Wp.ret (zN ?_)))
  refine zI (v:=(.bool (decide (0≤(idxL φ xs 0))))) Tryz.results146 rfl ⟨H.keep,?_⟩
  exact congrArg Value.bool (idxL_any φ xs 0 (by omega))
theorem c147 {e:Rg} {fi:FuncId} {cv:List Value} {ψ:Bool} {bf:Nat} (w:World) (hc:Cells w bf 0 [.func (.func fi) #[] cv.toArray]) (hen:Enters Tryz.prog fi) (hf : ∀ w',Keep Nm w w'→Rv Tryz.prog fi (.agg #[i e.lo,i e.hi] :: cv) w' (.bool ψ)):Rv Tryz.prog 147 [.agg #[i e.lo,i e.hi],p bf 0] w (.bool (!ψ)):=by
  refine Ret.body (N:=8) Tryz.func147 rfl Tryz.ntmps147 rfl ?_
  have H:=S.start Nm w
  refine Wp.seq (Wp.region ?_)
  refine Ro.d rfl rfl rfl (H.box (l:=[i e.lo,i e.hi]) rfl (v:=(.agg #[(i e.lo),(i e.hi)])) rfl rfl ?_)
  intro b1 w2 Hn;replace H:=Hn;clear Hn
  refine Ro.q (v:=(.bool false)) rfl rfl (zD rfl) rfl ?_
  refine Ro.nil (nT (Wp.seq (Wp.region ?_)))
  refine Ro.q rfl rfl (zE t1_119 rfl (hc.ext H.keep) (j:=0) rfl rfl) rfl ?_
  refine Ro.q rfl rfl (zJ vL rfl (H.cells 0 rfl) (j:=0) rfl (vs:=[i e.lo,i e.hi]) rfl rfl) rfl ?_
  refine Ro.d rfl rfl rfl (uG (fv:=[]) (cv:=cv) rfl rfl hen (ce (v:=(.agg #[(i e.lo),(i e.hi)])) rfl cn) (hf _ H.keep) ?_)
  intro u w3 k4 hu;subst hu;replace H:=H.ext k4;clear k4
  refine Ro.q rfl rfl (yN rfl) rfl ?_
  refine Ro.q (v:=(.bool (!ψ))) rfl rfl (zD rfl) rfl ?_
  refine Ro.nil (nT (Wp.ret (zN ?_)))
  refine zI (v:=(.bool (!ψ))) Tryz.results147 rfl ⟨H.keep,?_⟩
  rfl
theorem c130 {a:Option Addr} {xs:List Rg} {ca:Nat} {fi:FuncId} {cv:List Value} {φ:Rg→Bool} (w:World) (ha:Sl w 2 (xs.map rgV) a) (hl:xs.length≤4611686018427387904) (hen:Enters Tryz.prog fi) (hf : ∀ e,e∈xs→∀ w',Keep Nm w w'→Rv Tryz.prog fi (.agg #[i e.lo,i e.hi] :: cv) w' (.bool (φ e))):Rv Tryz.prog 130 [(.slice a xs.length ca),(.func (.func fi) #[] cv.toArray)] w (.bool (xs.all φ)):=by
  refine Ret.body (N:=9) Tryz.func130 rfl Tryz.ntmps130 rfl ?_
  have H:=S.start Nm w
  refine Wp.seq (Wp.region ?_)
  refine Ro.d rfl rfl rfl (H.box (l:=[.func (.func fi) #[] cv.toArray]) rfl (v:=(.func (.func fi) #[] cv.toArray)) rfl rfl ?_)
  intro b1 w2 Hn;replace H:=Hn;clear Hn
  refine Ro.q (v:=(.bool false)) rfl rfl (zD rfl) rfl ?_
  refine Ro.nil (nT (Wp.seq (Wp.region ?_)))
  refine Ro.q (v:=(.slice a xs.length ca)) rfl rfl (zB rfl) rfl ?_
  refine Ro.q (v:=(.func (.func 147) #[] #[(p b1 0)])) rfl rfl (uH cn (ce (v:=(p b1 0)) rfl cn)) rfl ?_
  refine Ro.d rfl rfl rfl (zH rfl en146 (ce (v:=(.slice a xs.length ca)) rfl (ce (v:=(.func (.func 147) #[] #[(p b1 0)])) rfl cn)) (c146 (φ:=fun x=>!φ x) _ (ha.ext H.keep) hl en147 (fun e he w2 k=>c147 _ ((H.cells 0 rfl).ext k) hen (fun w3 k3=>hf e he w3 ((H.keep.trans k).trans k3)))) ?_)
  intro u w3 k4 hu;subst hu;replace H:=H.ext k4;clear k4
  refine Ro.q rfl rfl (yN rfl) rfl ?_
  refine Ro.q (v:=(.bool (!(xs.any fun x=>!φ x)))) rfl rfl (zD rfl) rfl ?_
  refine Ro.nil (nT (Wp.ret (zN ?_)))
  refine zI (v:=(.bool (!(xs.any fun x=>!φ x)))) Tryz.results130 rfl ⟨H.keep,?_⟩
  exact congrArg Value.bool (all_not φ xs)
end Go.Proofs.YthfnjppieihcfaaGreat
namespace Go.Proofs.YthfnjppieihcfaaGreat
open Go.RowKit Go.Proofs Go.Mw
theorem en108:Go.Proofs.Enters Tryz.prog 108:=Go.Proofs.enters_of Tryz.func108 (by kernel_rfl) rfl
theorem en109:Go.Proofs.Enters Tryz.prog 109:=Go.Proofs.enters_of Tryz.func109 (by kernel_rfl) rfl
theorem en111:Go.Proofs.Enters Tryz.prog 111:=Go.Proofs.enters_of Tryz.func111 (by kernel_rfl) rfl
theorem en128:Go.Proofs.Enters Tryz.prog 128:=Go.Proofs.enters_of Tryz.func128 (by kernel_rfl) rfl
theorem en130:Go.Proofs.Enters Tryz.prog 130:=Go.Proofs.enters_of Tryz.func130 (by kernel_rfl) rfl
theorem sz151 : ∀ w,(sizeOf 151).run Tryz.prog w = .ok 6 w:=fun _=>by kernel_rfl
theorem sz153 : ∀ w,(sizeOf 153).run Tryz.prog w = .ok 7 w:=fun _=>by kernel_rfl
theorem zv151:ZV Tryz.prog 151 (.agg #[(i 0),(.slice none 0 0),(.slice none 0 0),(i 0),(i 0),(.slice none 0 0)]):=Tryz.zeroValue151
theorem zv153:ZV Tryz.prog 153 (.agg #[(i 0),(.slice none 0 0),(.slice none 0 0),(i 0),(i 0),(.slice none 0 0),(.slice none 0 0)]):=Tryz.zeroValue153
open Men
theorem c128 (lo:Int) (hi:Int) (w:World)   : Rv Tryz.prog 128 [(.agg #[(i lo),(i hi)])] w (.bool ((decide (0≤lo) && decide (lo≤hi)) && decide (hi≤500))):=by
  refine Ret.body (N:=5) Tryz.func128 rfl Tryz.ntmps128 rfl ?_
  have H:=S.start Nm w
  refine Wp.seq (Wp.region ?_)
  refine Ro.d rfl rfl rfl (H.box (l:=[i lo,i hi]) rfl (v:=(.agg #[(i lo),(i hi)])) rfl rfl ?_)
  intro b1 w2 Hn;replace H:=Hn;clear Hn
  refine Ro.q (v:=(.bool false)) rfl rfl (zD rfl) rfl ?_
  refine Ro.nil (nT (Wp.seq (Wp.region ?_)))
  refine Ro.q rfl rfl (zJ vL rfl (H.cells 0 rfl) (j:=0) rfl (vs:=[i lo,i hi]) rfl rfl) rfl ?_
  refine Ro.d rfl rfl rfl (zH rfl en129 (ce (v:=(.agg #[(i lo),(i hi)])) rfl (ce (v:=(i 500)) rfl cn)) (c129 lo hi 500 _ ) ?_)
  intro u w3 k4 hu;subst hu;replace H:=H.ext k4
  clear k4
  refine Ro.q (v:=(.bool ((decide (0≤lo) && decide (lo≤hi)) && decide (hi≤500)))) rfl rfl (zD rfl) rfl ?_
  refine Ro.nil (nT (Wp.ret (zN ?_)))
  refine zI (v:=(.bool ((decide (0≤lo) && decide (lo≤hi)) && decide (hi≤500)))) Tryz.results128 rfl ⟨H.keep,?_⟩
  rfl
theorem c108 {base blo bhi:Int} {ab ad ah:Option Addr} {bs:List Band} {dl:List Depth} {h:List Rg} {cab cad cah:Nat} (w:World) (hab:Sl w 3 (bs.map yH) ab) (had:Sl w 2 (dl.map zZ) ad) (hah:Sl w 2 (h.map rgV) ah) (hhl:h.length≤4611686018427387904):Ret Tryz.prog 108 [(.agg #[(i base),(.slice ab bs.length cab),(.slice ad dl.length cad),(i blo),(i bhi)]),(.slice ah h.length cah)] w fun v _=>(vI base bs dl blo bhi h=0∧v=(.tuple #[(.agg #[(i base),(.slice ab bs.length cab),(.slice ad dl.length cad),(i blo),(i bhi),(.slice ah h.length cah)]),(i 0)]))∨(vI base bs dl blo bhi h≠0∧v=(.tuple #[(.agg #[(i 0),(.slice none 0 0),(.slice none 0 0),(i 0),(i 0),(.slice none 0 0)]),(i (vI base bs dl blo bhi h))])):=by
  refine Ret.body (N:=33) Tryz.func108 rfl Tryz.ntmps108 rfl ?_
  have H:=S.start Nm w
  refine Wp.seq (Wp.region ?_)
  refine Ro.d rfl rfl rfl (H.box (l:=[i base,.slice ab bs.length cab,.slice ad dl.length cad,i blo,i bhi]) rfl (v:=(.agg #[(i base),(.slice ab bs.length cab),(.slice ad dl.length cad),(i blo),(i bhi)])) rfl rfl ?_)
  intro b1 w2 Hn;replace H:=Hn;clear Hn
  refine Ro.d rfl rfl rfl (H.new (l:=[i 0,.slice none 0 0,.slice none 0 0,i 0,i 0,.slice none 0 0]) rfl zv151 rfl ?_)
  intro b3 w4 Hn;replace H:=Hn;clear Hn
  refine Ro.q (v:=(i 0)) rfl rfl (zD rfl) rfl ?_
  refine Ro.nil (nT (Wp.seq (Wp.seq (Wp.region ?_))))
  refine Ro.q rfl rfl (zJ ta43 rfl (H.cells 1 rfl) (j:=0) rfl (vs:=[i base,.slice ab bs.length cab,.slice ad dl.length cad,i blo,i bhi]) rfl rfl) rfl ?_
  refine Ro.d rfl rfl rfl (zH rfl en116 (ce (v:=(.agg #[(i base),(.slice ab bs.length cab),(.slice ad dl.length cad),(i blo),(i bhi)])) rfl cn) (c116 base blo bhi ab bs cab ad dl cad _ (hab.ext H.keep) (had.ext H.keep)) ?_)
  intro u w5 k6 hu;subst hu;replace H:=H.ext k6
  clear k6
  refine Ro.q (v:=(i (yI base bs dl blo bhi))) rfl rfl (zD rfl) rfl ?_
  refine Ro.nil (nT (Wp.seq (Wp.region ?_)))
  refine Ro.q (v:=(i (yI base bs dl blo bhi))) rfl rfl (zB rfl) rfl ?_
  refine Ro.q rfl rfl (vW rfl rfl) rfl ?_
  refine Ro.nil (nT ?_)
  refine Wp.cond (t:=decide ((yI base bs dl blo bhi)≠0)) rfl ?_ ?_
  · intro c7
    have c7r:=c7
    simp only [bx] at c7
    refine Wp.seq (Wp.region ?_)
    refine Ro.q (v:=(.agg #[(i 0),(.slice none 0 0),(.slice none 0 0),(i 0),(i 0),(.slice none 0 0)])) rfl rfl (zP (v:=(.agg #[(i 0),(.slice none 0 0),(.slice none 0 0),(i 0),(i 0),(.slice none 0 0)])) pn (fun w=>by kernel_rfl)) rfl ?_
    refine Ro.q (v:=(i (yI base bs dl blo bhi))) rfl rfl (zB rfl) rfl ?_
    refine Ro.d0 rfl rfl rfl (H.store (j:=0) (off:=0) (k:=6) rfl sz151 rfl (v:=(.agg #[(i 0),(.slice none 0 0),(.slice none 0 0),(i 0),(i 0),(.slice none 0 0)])) rfl rfl rfl rfl rfl (by simp [Value.oneCell']) (cs':=[i 0,.slice none 0 0,.slice none 0 0,i 0,i 0,.slice none 0 0]) rfl ?_)
    intro w8 Hn;replace H:=Hn;clear Hn
    refine Ro.q (v:=(i (yI base bs dl blo bhi))) rfl rfl (zD rfl) rfl ?_
    refine Ro.nil (nT (Wp.ret (rT (zN ?_))))
    refine zT (vs:=[i 0,.slice none 0 0,.slice none 0 0,i 0,i 0,.slice none 0 0]) (v:=(i (yI base bs dl blo bhi))) Tryz.results108 rfl ta151 (H.cells 0 rfl) rfl rfl ⟨H.keep,?_⟩
    have e1:vI base bs dl blo bhi h=yI base bs dl blo bhi:=by unfold vI;rw [c7r];rfl
    exact .inr ⟨by rw [e1];omega,by rw [e1]⟩
  intro c7
  have c7r:=c7
  simp only [bx] at c7
  refine Wp.skip (nT (Wp.seq (Wp.region ?_)))
  refine Ro.q (v:=(.func (.func 128) #[] #[])) rfl rfl (zD rfl) rfl ?_
  refine Ro.nil (nT (Wp.seq (Wp.block (Wp.seq (Wp.region ?_)))))
  refine Ro.q (v:=(.slice ah h.length cah)) rfl rfl (zB rfl) rfl ?_
  refine Ro.q rfl rfl (yG Tryz.underlying47 rfl (v:=h.length) rfl) rfl ?_
  refine Ro.q rfl rfl (r_gtr rfl rfl) rfl ?_
  refine Ro.q (v:=(.bool (decide (16<((h.length:Nat):Int))))) rfl rfl (zD rfl) rfl ?_
  refine Ro.nil (nT ?_)
  refine Wp.cond (t:=decide (16<((h.length:Nat):Int))) rfl ?_ ?_
  · intro c9
    have c9r:=c9
    simp only [bx] at c9
    refine Wp.seq (Wp.region ?_)
    refine Ro.q (v:=(.agg #[(i 0),(.slice none 0 0),(.slice none 0 0),(i 0),(i 0),(.slice none 0 0)])) rfl rfl (zP (v:=(.agg #[(i 0),(.slice none 0 0),(.slice none 0 0),(i 0),(i 0),(.slice none 0 0)])) pn (fun w=>by kernel_rfl)) rfl ?_
    refine Ro.d0 rfl rfl rfl (H.store (j:=0) (off:=0) (k:=6) rfl sz151 rfl (v:=(.agg #[(i 0),(.slice none 0 0),(.slice none 0 0),(i 0),(i 0),(.slice none 0 0)])) rfl rfl rfl rfl rfl (by simp [Value.oneCell']) (cs':=[i 0,.slice none 0 0,.slice none 0 0,i 0,i 0,.slice none 0 0]) rfl ?_)
    intro w10 Hn;replace H:=Hn;clear Hn
    refine Ro.q (v:=(i 3)) rfl rfl (zD rfl) rfl ?_
    refine Ro.nil (nT (Wp.ret (rB (rT (zN ?_)))))
    refine zT (vs:=[i 0,.slice none 0 0,.slice none 0 0,i 0,i 0,.slice none 0 0]) (v:=(i 3)) Tryz.results108 rfl ta151 (H.cells 0 rfl) rfl rfl ⟨H.keep,?_⟩
    have e1:vI base bs dl blo bhi h=3:=by unfold vI histE;rw [c7r,c9r];rfl
    exact .inr ⟨by rw [e1];omega,by rw [e1]⟩
  intro c9
  have c9r:=c9
  simp only [bx] at c9
  refine Wp.seq ?_
  let qq11:Bool:=decide (((h.length:Nat):Int)=0)
  let qq12:Bool:=(qq11 || (!(h.all heatB)))
  refine Wp.factsS 10 [is (.slice ah h.length cah),is (i ((h.length:Nat):Int)),is (.bool qq11),is (.bool qq11),gdv (True∧qq11=false) (.slice ah h.length cah),gdv (True∧qq11=false) (.func (.func 128) #[] #[]),gdv (True∧qq11=false) (.bool (h.all heatB)),gdv (True∧qq11=false) (.bool (!(h.all heatB))),is (.bool qq12),is (.bool qq12)] (by kernel_rfl) (Mi (Mi (Mi (Mi (Mg (Mg (Mg (Mg (Mi (Mi Mono.nil)))))))))) (fun w' k=>H.ext k) ?_ ?_
  · refine ⟨?_,?_,?_,?_,?_,?_,?_,?_,?_,?_,trivial⟩
    · exact Ob.q rfl (fun _ _ B U D=>(zB (show (_:Value)=(.slice ah h.length cah) from U 1 rfl))) rfl rfl
    · exact Ob.q rfl (fun _ _ B U D=>(yG Tryz.underlying47 (D 0 rfl) (v:=h.length) rfl)) rfl rfl
    · exact Ob.q rfl (fun _ _ B U D=>(vR (D 1 rfl) rfl)) rfl rfl
    · exact Ob.q rfl (fun _ _ B U D=>(zB (D 2 rfl))) rfl rfl
    · exact Ob.g0 rfl rfl (fun _ _ _ D=>D 3 rfl) rfl (fun _ _ B U D hC hg=>(zB (show (_:Value)=(.slice ah h.length cah) from U 1 rfl))) rfl
    · exact Ob.g0 rfl rfl (fun _ _ _ D=>D 3 rfl) rfl (fun _ _ B U D hC hg=>(zB (show (_:Value)=(.func (.func 128) #[] #[]) from U 7 rfl))) rfl
    · exact Ob.gd (C:=True) (g:=qq11) rfl rfl (fun ρ' w' U D=>⟨fun _=>(D 3 rfl),fun h=>absurd trivial h⟩) (fun _ h=>⟨fun hc=>absurd hc (yQ h),fun _=>rfl⟩) fun ρ' w' B U D hC hg=>zH rfl en130 (ce (v:=(.slice ah h.length cah)) (gdy (D 4 rfl) ⟨hC,hg⟩) (ce (v:=(.func (.func 128) #[] #[])) (gdy (D 5 rfl) ⟨hC,hg⟩) cn)) (c130 (fi:=128) (cv:=[]) (φ:=heatB) _ (hah.ext B.keep) (by omega) en128 (fun e _ w2 _=>c128 e.lo e.hi w2)) (fun u w2 k2 hu=>⟨k2,⟨fun _=>hu,fun n=>absurd ⟨hC,hg⟩ n⟩⟩)
    · exact Ob.g0 rfl rfl (fun _ _ _ D=>D 3 rfl) rfl (fun _ _ B U D hC hg=>(yN (gdy (D 6 rfl) ⟨hC,hg⟩))) rfl
    · exact Ob.q rfl (fun _ _ B U D=>(zQ (v:=(.bool qq12)) (D 3 rfl) (fun eP=>or_t eP) (fun eP=>(gdy (D 7 rfl) ⟨trivial,eP⟩).trans (or_f eP)))) rfl rfl
    · exact Ob.q rfl (fun _ _ B U D=>(zD (D 8 rfl))) rfl rfl
  intro ρ13 w14 k15 U16 D17;replace H:=H.ext k15
  have f18:ρ13 1=(.slice ah h.length cah):=U16 1 rfl
  have f19:ρ13 2=(p b1 0):=U16 2 rfl
  have f20:ρ13 4=(p b3 0):=U16 4 rfl
  have f22:ρ13 19=(.bool qq12):=D17 9 rfl
  clear U16 D17 k15
  refine Ro.nil (nT ?_)
  refine Wp.cond (t:=qq12) f22 ?_ ?_
  · intro c23
    have c23r:(((decide (((h.length:Nat):Int)=0)) || (!(h.all heatB))))=true:=c23
    replace c23:=c23r
    simp only [bx] at c23
    refine Wp.seq (Wp.region ?_)
    refine Ro.q (v:=(.agg #[(i 0),(.slice none 0 0),(.slice none 0 0),(i 0),(i 0),(.slice none 0 0)])) rfl rfl (zP (v:=(.agg #[(i 0),(.slice none 0 0),(.slice none 0 0),(i 0),(i 0),(.slice none 0 0)])) pn (fun w=>by kernel_rfl)) rfl ?_
    refine Ro.d0 rfl rfl rfl (H.store (j:=0) (off:=0) (k:=6) rfl sz151 f20 (v:=(.agg #[(i 0),(.slice none 0 0),(.slice none 0 0),(i 0),(i 0),(.slice none 0 0)])) rfl rfl rfl rfl rfl (by simp [Value.oneCell']) (cs':=[i 0,.slice none 0 0,.slice none 0 0,i 0,i 0,.slice none 0 0]) rfl ?_)
    intro w24 Hn;replace H:=Hn;clear Hn
    refine Ro.q (v:=(i 2)) rfl rfl (zD rfl) rfl ?_
    refine Ro.nil (nT (Wp.ret (rB (rT (zN ?_)))))
    refine zT (vs:=[i 0,.slice none 0 0,.slice none 0 0,i 0,i 0,.slice none 0 0]) (v:=(i 2)) Tryz.results108 f20 ta151 (H.cells 0 rfl) rfl rfl ⟨H.keep,?_⟩
    have e1:vI base bs dl blo bhi h=2:=by unfold vI histE;rw [c7r,c9r,Bool.or_comm,c23r];rfl
    exact .inr ⟨by rw [e1];omega,by rw [e1]⟩
  intro c23
  have c23r:(((decide (((h.length:Nat):Int)=0)) || (!(h.all heatB))))=false:=c23
  replace c23:=c23r
  simp only [bx] at c23
  refine Wp.skip (nB (nT (Wp.seq (Wp.region ?_))))
  refine Ro.q rfl rfl (zJ ta43 f19 (H.cells 1 rfl) (j:=0) rfl (vs:=[i base,.slice ab bs.length cab,.slice ad dl.length cad,i blo,i bhi]) rfl rfl) rfl ?_
  refine Ro.q (v:=(.slice ah h.length cah)) rfl rfl (zB f18) rfl ?_
  refine Ro.q (v:=(.agg #[(i base),(.slice ab bs.length cab),(.slice ad dl.length cad),(i blo),(i bhi),(.slice ah h.length cah)])) rfl rfl (zP (v:=(.agg #[(i base),(.slice ab bs.length cab),(.slice ad dl.length cad),(i blo),(i bhi),(.slice ah h.length cah)])) (pe (v:=(.agg #[(i base),(.slice ab bs.length cab),(.slice ad dl.length cad),(i blo),(i bhi)])) rfl (pe (v:=(.slice ah h.length cah)) rfl pn)) (fun w=>by kernel_rfl)) rfl ?_
  refine Ro.d0 rfl rfl rfl (H.store (j:=0) (off:=0) (k:=6) rfl sz151 f20 (v:=(.agg #[(i base),(.slice ab bs.length cab),(.slice ad dl.length cad),(i blo),(i bhi),(.slice ah h.length cah)])) rfl rfl rfl rfl rfl (by simp [Value.oneCell']) (cs':=[i base,.slice ab bs.length cab,.slice ad dl.length cad,i blo,i bhi,.slice ah h.length cah]) rfl ?_)
  intro w25 Hn;replace H:=Hn;clear Hn
  refine Ro.q (v:=(i 0)) rfl rfl (zD rfl) rfl ?_
  refine Ro.nil (nT (Wp.ret (zN ?_)))
  refine zT (vs:=[i base,.slice ab bs.length cab,.slice ad dl.length cad,i blo,i bhi,.slice ah h.length cah]) (v:=(i 0)) Tryz.results108 f20 ta151 (H.cells 0 rfl) rfl rfl ⟨H.keep,?_⟩
  have e1:vI base bs dl blo bhi h=0:=by unfold vI histE;rw [c7r,c9r,Bool.or_comm,c23r];rfl
  exact .inl ⟨e1,rfl⟩
theorem c109 {e:Ice} {ah:Option Addr} {h:List Rg} {cah bf:Nat} (w:World) (hc:Cells w bf 0 [.slice ah h.length cah]) (hhl:h.length≤4611686018427387904):Rv Tryz.prog 109 [.agg #[i e.day,i e.zero,i e.err],p bf 0] w (.bool (iceB ((h.length:Nat):Int) e)):=by
  refine Ret.body (N:=20) Tryz.func109 rfl Tryz.ntmps109 rfl ?_
  have H:=S.start Nm w
  refine Wp.seq (Wp.region ?_)
  refine Ro.d rfl rfl rfl (H.box (l:=[i e.day,i e.zero,i e.err]) rfl (v:=(.agg #[(i e.day),(i e.zero),(i e.err)])) rfl rfl ?_)
  intro b1 w2 Hn;replace H:=Hn;clear Hn
  refine Ro.q (v:=(.bool false)) rfl rfl (zD rfl) rfl ?_
  refine Ro.nil (nT (Wp.seq ?_))
  let qq3:Bool:=decide (0≤e.day) && decide (e.day≤(((h.length:Nat):Int)-1))
  let qq4:Bool:=decide ((-2000)≤e.zero) && decide (e.zero≤2000)
  let qq5:Bool:=(qq3 && qq4)
  let qq6:Bool:=decide (0≤e.err) && decide (e.err≤20)
  let qq7:Bool:=(qq5 && qq6)
  refine Wp.factsS 17 [is (p b1 0),is (i e.day),is (.slice ah h.length cah),is (i ((h.length:Nat):Int)),is (i (((h.length:Nat):Int)-1)),is (.bool qq3),is (.bool qq3),gdv (True∧qq3=true) (p b1 1),gdv (True∧qq3=true) (i e.zero),gdv (True∧qq3=true) (.bool qq4),is (.bool qq5),is (.bool qq5),gdv (True∧qq5=true) (p b1 2),gdv (True∧qq5=true) (i e.err),gdv (True∧qq5=true) (.bool qq6),is (.bool qq7),is (.bool qq7)] (by kernel_rfl) (Mi (Mi (Mi (Mi (Mi (Mi (Mi (Mg (Mg (Mg (Mi (Mi (Mg (Mg (Mg (Mi (Mi Mono.nil))))))))))))))))) (fun w' k=>H.ext k) ?_ ?_
  · refine ⟨?_,?_,?_,?_,?_,?_,?_,?_,?_,?_,?_,?_,?_,?_,?_,?_,?_,trivial⟩
    · exact Ob.q rfl (fun _ _ B U D=>(zA fo103_0 (show (_:Value)=(p b1 0) from U 2 rfl) rfl)) rfl rfl
    · exact Ob.q rfl (fun _ _ B U D=>(zE zM (D 0 rfl) (B.cells 0 rfl) (j:=0) rfl rfl)) rfl rfl
    · exact Ob.q rfl (fun _ _ B U D=>(zE t1_47 (show (_:Value)=(p bf 0) from U 1 rfl) (hc.ext B.keep) (j:=0) rfl rfl)) rfl rfl
    · exact Ob.q rfl (fun _ _ B U D=>(yG Tryz.underlying47 (D 2 rfl) (v:=h.length) rfl)) rfl rfl
    · exact Ob.q rfl (fun _ _ B U D=>(yT (D 3 rfl) rfl (by constructor <;>omega))) rfl rfl
    · exact Ob.mk rfl fun ρ' w' B U D=>zH rfl en110 (ce (v:=(i e.day)) (D 1 rfl) (ce (v:=(i 0)) rfl (ce (v:=(i (((h.length:Nat):Int)-1))) (D 4 rfl) cn))) (c110 e.day 0 (((h.length:Nat):Int)-1) _ ) (fun u w2 k2 hu=>⟨k2,hu⟩)
    · exact Ob.q rfl (fun _ _ B U D=>(zB (D 5 rfl))) rfl rfl
    · exact Ob.g0 rfl rfl (fun _ _ _ D=>D 6 rfl) rfl (fun _ _ B U D hC hg=>(zA fo103_1 (show (_:Value)=(p b1 0) from U 2 rfl) rfl)) rfl
    · exact Ob.g0 rfl rfl (fun _ _ _ D=>D 6 rfl) rfl (fun _ _ B U D hC hg=>(zE zM (gdy (D 7 rfl) ⟨hC,hg⟩) (B.cells 0 rfl) (j:=1) rfl rfl)) rfl
    · exact Ob.gd (C:=True) (g:=qq3) rfl rfl (fun ρ' w' U D=>⟨fun _=>(D 6 rfl),fun h=>absurd trivial h⟩) (fun _ h=>⟨fun hc=>absurd hc (yQ h),fun _=>rfl⟩) fun ρ' w' B U D hC hg=>zH rfl en110 (ce (v:=(i e.zero)) (gdy (D 8 rfl) ⟨hC,hg⟩) (ce (v:=(i (-2000))) rfl (ce (v:=(i 2000)) rfl cn))) (c110 e.zero (-2000) 2000 _ ) (fun u w2 k2 hu=>⟨k2,⟨fun _=>hu,fun n=>absurd ⟨hC,hg⟩ n⟩⟩)
    · exact Ob.q rfl (fun _ _ B U D=>(zQ (v:=(.bool qq5)) (D 6 rfl) (fun eP=>(gdy (D 9 rfl) ⟨trivial,eP⟩).trans (yF eP)) (fun eP=>yE eP))) rfl rfl
    · exact Ob.q rfl (fun _ _ B U D=>(zB (D 10 rfl))) rfl rfl
    · exact Ob.g0 rfl rfl (fun _ _ _ D=>D 11 rfl) rfl (fun _ _ B U D hC hg=>(zA fo103_2 (show (_:Value)=(p b1 0) from U 2 rfl) rfl)) rfl
    · exact Ob.g0 rfl rfl (fun _ _ _ D=>D 11 rfl) rfl (fun _ _ B U D hC hg=>(zE zM (gdy (D 12 rfl) ⟨hC,hg⟩) (B.cells 0 rfl) (j:=2) rfl rfl)) rfl
    · exact Ob.gd (C:=True) (g:=qq5) rfl rfl (fun ρ' w' U D=>⟨fun _=>(D 11 rfl),fun h=>absurd trivial h⟩) (fun _ h=>⟨fun hc=>absurd hc (yQ h),fun _=>rfl⟩) fun ρ' w' B U D hC hg=>zH rfl en110 (ce (v:=(i e.err)) (gdy (D 13 rfl) ⟨hC,hg⟩) (ce (v:=(i 0)) rfl (ce (v:=(i 20)) rfl cn))) (c110 e.err 0 20 _ ) (fun u w2 k2 hu=>⟨k2,⟨fun _=>hu,fun n=>absurd ⟨hC,hg⟩ n⟩⟩)
    · exact Ob.q rfl (fun _ _ B U D=>(zQ (v:=(.bool qq7)) (D 11 rfl) (fun eP=>(gdy (D 14 rfl) ⟨trivial,eP⟩).trans (yF eP)) (fun eP=>yE eP))) rfl rfl
    · exact Ob.q rfl (fun _ _ B U D=>(zD (D 15 rfl))) rfl rfl
  intro ρ8 w9 k10 U11 D12;replace H:=H.ext k10
  have f13:ρ8 3=(.bool qq7):=D12 16 rfl
  clear U11 D12 k10
  refine Ro.nil (nT (Wp.ret (zN ?_)))
  refine zI (v:=(.bool (((decide (0≤e.day) && decide (e.day≤(((h.length:Nat):Int)-1))) && (decide ((-2000)≤e.zero) && decide (e.zero≤2000))) && (decide (0≤e.err) && decide (e.err≤20))))) Tryz.results109 f13 ⟨H.keep,?_⟩
  rfl
theorem c82 {base blo bhi:Int} {ab ad ah ai:Option Addr} {bs:List Band} {dl:List Depth} {h:List Rg} {ices:List Ice} {cab cad cah cai:Nat} (w:World) (hab:Sl w 3 (bs.map yH) ab) (had:Sl w 2 (dl.map zZ) ad) (hah:Sl w 2 (h.map rgV) ah) (hai:Sl w 3 (ices.map iceV) ai) (hhl:h.length≤4611686018427387904) (hil:ices.length≤4611686018427387904):Ret Tryz.prog 82 [(.agg #[(i base),(.slice ab bs.length cab),(.slice ad dl.length cad),(i blo),(i bhi)]),(.slice ah h.length cah),(.slice ai ices.length cai)] w fun v _=>(icedE base bs dl blo bhi h ices=0∧v=(.tuple #[(.agg #[(i base),(.slice ab bs.length cab),(.slice ad dl.length cad),(i blo),(i bhi),(.slice ah h.length cah),(.slice ai ices.length cai)]),(i 0)]))∨(icedE base bs dl blo bhi h ices≠0∧v=(.tuple #[(.agg #[(i 0),(.slice none 0 0),(.slice none 0 0),(i 0),(i 0),(.slice none 0 0),(.slice none 0 0)]),(i (icedE base bs dl blo bhi h ices))])):=by
  refine Ret.body (N:=36) Tryz.func82 rfl Tryz.ntmps82 rfl ?_
  have H:=S.start Nm w
  refine Wp.seq (Wp.region ?_)
  refine Ro.d rfl rfl rfl (H.box (l:=[i base,.slice ab bs.length cab,.slice ad dl.length cad,i blo,i bhi]) rfl (v:=(.agg #[(i base),(.slice ab bs.length cab),(.slice ad dl.length cad),(i blo),(i bhi)])) rfl rfl ?_)
  intro b1 w2 Hn;replace H:=Hn;clear Hn
  refine Ro.d rfl rfl rfl (H.box (l:=[.slice ah h.length cah]) rfl (v:=(.slice ah h.length cah)) rfl rfl ?_)
  intro b3 w4 Hn;replace H:=Hn;clear Hn
  refine Ro.d rfl rfl rfl (H.new (l:=[i 0,.slice none 0 0,.slice none 0 0,i 0,i 0,.slice none 0 0,.slice none 0 0]) rfl zv153 rfl ?_)
  intro b5 w6 Hn;replace H:=Hn;clear Hn
  refine Ro.q (v:=(i 0)) rfl rfl (zD rfl) rfl ?_
  refine Ro.nil (nT (Wp.seq (Wp.region ?_)))
  refine Ro.q rfl rfl (zJ ta43 rfl (H.cells 2 rfl) (j:=0) rfl (vs:=[i base,.slice ab bs.length cab,.slice ad dl.length cad,i blo,i bhi]) rfl rfl) rfl ?_
  refine Ro.q rfl rfl (zE t1_47 rfl (H.cells 1 rfl) (j:=0) rfl rfl) rfl ?_
  refine Ro.d rfl rfl rfl (zH rfl en108 (ce (v:=(.agg #[(i base),(.slice ab bs.length cab),(.slice ad dl.length cad),(i blo),(i bhi)])) rfl (ce (v:=(.slice ah h.length cah)) rfl cn)) (c108 _ (hab.ext H.keep) (had.ext H.keep) (hah.ext H.keep) hhl) ?_)
  rintro u w7 k8 (⟨h0,rfl⟩ | ⟨h0,rfl⟩)
  · skip
    replace H:=H.ext k8
    refine Ro.q (v:=(.tuple #[(.agg #[(i base),(.slice ab bs.length cab),(.slice ad dl.length cad),(i blo),(i bhi),(.slice ah h.length cah)]),(i 0)])) rfl rfl (zB rfl) rfl ?_
    refine Ro.q (v:=(.agg #[(i base),(.slice ab bs.length cab),(.slice ad dl.length cad),(i blo),(i bhi),(.slice ah h.length cah)])) rfl rfl (zO rfl (j:=0) rfl) rfl ?_
    refine Ro.q (v:=(i 0)) rfl rfl (zO rfl (j:=1) rfl) rfl ?_
    refine Ro.d rfl rfl rfl (H.new (l:=[i 0,.slice none 0 0,.slice none 0 0,i 0,i 0,.slice none 0 0]) rfl zv151 rfl ?_)
    intro b9 w10 Hn;replace H:=Hn;clear Hn
    refine Ro.d0 rfl rfl rfl (H.store (j:=0) (off:=0) (k:=6) rfl sz151 rfl (v:=(.agg #[(i base),(.slice ab bs.length cab),(.slice ad dl.length cad),(i blo),(i bhi),(.slice ah h.length cah)])) rfl rfl rfl rfl rfl (by simp [Value.oneCell']) (cs':=[i base,.slice ab bs.length cab,.slice ad dl.length cad,i blo,i bhi,.slice ah h.length cah]) rfl ?_)
    intro w11 Hn;replace H:=Hn;clear Hn
    refine Ro.q (v:=(i 0)) rfl rfl (zD rfl) rfl ?_
    refine Ro.nil (nT (Wp.seq (Wp.seq (Wp.region ?_))))
    refine Ro.q (v:=(i 0)) rfl rfl (zB rfl) rfl ?_
    refine Ro.q (v:=(.bool false)) rfl rfl (Runs.to (vW rfl rfl) (by rfl)) rfl ?_
    refine Ro.nil (nT ?_)
    refine Wp.condF rfl ?_
    refine Wp.skip (nT (Wp.seq (Wp.region ?_)))
    refine Ro.q (v:=(.func (.func 109) #[] #[(p b3 0)])) rfl rfl (uH cn (ce (v:=(p b3 0)) rfl cn)) rfl ?_
    refine Ro.q (v:=(.func (.func 109) #[] #[(p b3 0)])) rfl rfl (zD rfl) rfl ?_
    refine Ro.nil (nT (Wp.seq (Wp.block (Wp.seq (Wp.region ?_)))))
    refine Ro.q (v:=(.slice ai ices.length cai)) rfl rfl (zB rfl) rfl ?_
    refine Ro.q rfl rfl (yG Tryz.underlying49 rfl (v:=ices.length) rfl) rfl ?_
    refine Ro.q rfl rfl (r_gtr rfl rfl) rfl ?_
    refine Ro.q (v:=(.bool (decide (8<((ices.length:Nat):Int))))) rfl rfl (zD rfl) rfl ?_
    refine Ro.nil (nT ?_)
    refine Wp.cond (t:=decide (8<((ices.length:Nat):Int))) rfl ?_ ?_
    · intro c12
      have c12r:=c12
      simp only [bx] at c12
      refine Wp.seq (Wp.region ?_)
      refine Ro.q (v:=(.agg #[(i 0),(.slice none 0 0),(.slice none 0 0),(i 0),(i 0),(.slice none 0 0),(.slice none 0 0)])) rfl rfl (zP (v:=(.agg #[(i 0),(.slice none 0 0),(.slice none 0 0),(i 0),(i 0),(.slice none 0 0),(.slice none 0 0)])) pn (fun w=>by kernel_rfl)) rfl ?_
      refine Ro.d0 rfl rfl rfl (H.store (j:=1) (off:=0) (k:=7) rfl sz153 rfl (v:=(.agg #[(i 0),(.slice none 0 0),(.slice none 0 0),(i 0),(i 0),(.slice none 0 0),(.slice none 0 0)])) rfl rfl rfl rfl rfl (by simp [Value.oneCell']) (cs':=[i 0,.slice none 0 0,.slice none 0 0,i 0,i 0,.slice none 0 0,.slice none 0 0]) rfl ?_)
      intro w13 Hn;replace H:=Hn;clear Hn
      refine Ro.q (v:=(i 3)) rfl rfl (zD rfl) rfl ?_
      refine Ro.nil (nT (Wp.ret (rB (rT (zN ?_)))))
      refine zT (vs:=[i 0,.slice none 0 0,.slice none 0 0,i 0,i 0,.slice none 0 0,.slice none 0 0]) (v:=(i 3)) Tryz.results82 rfl ta153 (H.cells 1 rfl) rfl rfl ⟨H.keep,?_⟩
      have e1:icedE base bs dl blo bhi h ices=3:=by unfold icedE icesE;rw [decide_eq_false (fun h=>h h0),c12r];rfl
      exact .inr ⟨by rw [e1];omega,by rw [e1]⟩
    intro c12
    have c12r:=c12
    simp only [bx] at c12
    refine Wp.seq (Wp.region ?_)
    refine Ro.q (v:=(.slice ai ices.length cai)) rfl rfl (zB rfl) rfl ?_
    refine Ro.q (v:=(.func (.func 109) #[] #[(p b3 0)])) rfl rfl (zB rfl) rfl ?_
    refine Ro.d rfl rfl rfl (zH rfl en111 (ce (v:=(.slice ai ices.length cai)) rfl (ce (v:=(.func (.func 109) #[] #[(p b3 0)])) rfl cn)) (c111 (fi:=109) (cv:=[p b3 0]) (φ:=iceB ((h.length:Nat):Int)) _ (hai.ext H.keep) (by omega) en109 (fun e _ w2 k=>c109 _ ((H.cells 2 rfl).ext k) hhl)) ?_)
    intro u w14 k15 hu;subst hu;replace H:=H.ext k15;clear k15
    refine Ro.q rfl rfl (yN rfl) rfl ?_
    refine Ro.q (v:=(.bool (!(ices.all (iceB ((h.length:Nat):Int)))))) rfl rfl (zD rfl) rfl ?_
    refine Ro.nil (nT ?_)
    refine Wp.cond (t:=!(ices.all (iceB ((h.length:Nat):Int)))) rfl ?_ ?_
    · intro c16
      have c16r:=c16
      simp only [bx] at c16
      refine Wp.seq (Wp.region ?_)
      refine Ro.q (v:=(.agg #[(i 0),(.slice none 0 0),(.slice none 0 0),(i 0),(i 0),(.slice none 0 0),(.slice none 0 0)])) rfl rfl (zP (v:=(.agg #[(i 0),(.slice none 0 0),(.slice none 0 0),(i 0),(i 0),(.slice none 0 0),(.slice none 0 0)])) pn (fun w=>by kernel_rfl)) rfl ?_
      refine Ro.d0 rfl rfl rfl (H.store (j:=1) (off:=0) (k:=7) rfl sz153 rfl (v:=(.agg #[(i 0),(.slice none 0 0),(.slice none 0 0),(i 0),(i 0),(.slice none 0 0),(.slice none 0 0)])) rfl rfl rfl rfl rfl (by simp [Value.oneCell']) (cs':=[i 0,.slice none 0 0,.slice none 0 0,i 0,i 0,.slice none 0 0,.slice none 0 0]) rfl ?_)
      intro w17 Hn;replace H:=Hn;clear Hn
      refine Ro.q (v:=(i 2)) rfl rfl (zD rfl) rfl ?_
      refine Ro.nil (nT (Wp.ret (rB (rT (zN ?_)))))
      refine zT (vs:=[i 0,.slice none 0 0,.slice none 0 0,i 0,i 0,.slice none 0 0,.slice none 0 0]) (v:=(i 2)) Tryz.results82 rfl ta153 (H.cells 1 rfl) rfl rfl ⟨H.keep,?_⟩
      have e1:icedE base bs dl blo bhi h ices=2:=by unfold icedE icesE;rw [decide_eq_false (fun h=>h h0),c12r,c16r];rfl
      exact .inr ⟨by rw [e1];omega,by rw [e1]⟩
    intro c16
    have c16r:=c16
    simp only [bx] at c16
    refine Wp.skip (nB (nT (Wp.seq (Wp.region ?_))))
    refine Ro.q rfl rfl (zJ ta151 rfl (H.cells 0 rfl) (j:=0) rfl (vs:=[i base,.slice ab bs.length cab,.slice ad dl.length cad,i blo,i bhi,.slice ah h.length cah]) rfl rfl) rfl ?_
    refine Ro.q (v:=(.slice ai ices.length cai)) rfl rfl (zB rfl) rfl ?_
    refine Ro.q (v:=(.agg #[(i base),(.slice ab bs.length cab),(.slice ad dl.length cad),(i blo),(i bhi),(.slice ah h.length cah),(.slice ai ices.length cai)])) rfl rfl (zP (v:=(.agg #[(i base),(.slice ab bs.length cab),(.slice ad dl.length cad),(i blo),(i bhi),(.slice ah h.length cah),(.slice ai ices.length cai)])) (pe (v:=(.agg #[(i base),(.slice ab bs.length cab),(.slice ad dl.length cad),(i blo),(i bhi),(.slice ah h.length cah)])) rfl (pe (v:=(.slice ai ices.length cai)) rfl pn)) (fun w=>by kernel_rfl)) rfl ?_
    refine Ro.d0 rfl rfl rfl (H.store (j:=1) (off:=0) (k:=7) rfl sz153 rfl (v:=(.agg #[(i base),(.slice ab bs.length cab),(.slice ad dl.length cad),(i blo),(i bhi),(.slice ah h.length cah),(.slice ai ices.length cai)])) rfl rfl rfl rfl rfl (by simp [Value.oneCell']) (cs':=[i base,.slice ab bs.length cab,.slice ad dl.length cad,i blo,i bhi,.slice ah h.length cah,.slice ai ices.length cai]) rfl ?_)
    intro w18 Hn;replace H:=Hn;clear Hn
    refine Ro.q (v:=(i 0)) rfl rfl (zD rfl) rfl ?_
    refine Ro.nil (nT (Wp.ret (zN ?_)))
    refine zT (vs:=[i base,.slice ab bs.length cab,.slice ad dl.length cad,i blo,i bhi,.slice ah h.length cah,.slice ai ices.length cai]) (v:=(i 0)) Tryz.results82 rfl ta153 (H.cells 1 rfl) rfl rfl ⟨H.keep,?_⟩
    have e1:icedE base bs dl blo bhi h ices=0:=by unfold icedE icesE;rw [decide_eq_false (fun h=>h h0),c12r,c16r];rfl
    exact .inl ⟨e1,rfl⟩
  · skip
    replace H:=H.ext k8
    refine Ro.q (v:=(.tuple #[(.agg #[(i 0),(.slice none 0 0),(.slice none 0 0),(i 0),(i 0),(.slice none 0 0)]),(i (vI base bs dl blo bhi h))])) rfl rfl (zB rfl) rfl ?_
    refine Ro.q (v:=(.agg #[(i 0),(.slice none 0 0),(.slice none 0 0),(i 0),(i 0),(.slice none 0 0)])) rfl rfl (zO rfl (j:=0) rfl) rfl ?_
    refine Ro.q (v:=(i (vI base bs dl blo bhi h))) rfl rfl (zO rfl (j:=1) rfl) rfl ?_
    refine Ro.d rfl rfl rfl (H.new (l:=[i 0,.slice none 0 0,.slice none 0 0,i 0,i 0,.slice none 0 0]) rfl zv151 rfl ?_)
    intro b19 w20 Hn;replace H:=Hn;clear Hn
    refine Ro.d0 rfl rfl rfl (H.store (j:=0) (off:=0) (k:=6) rfl sz151 rfl (v:=(.agg #[(i 0),(.slice none 0 0),(.slice none 0 0),(i 0),(i 0),(.slice none 0 0)])) rfl rfl rfl rfl rfl (by simp [Value.oneCell']) (cs':=[i 0,.slice none 0 0,.slice none 0 0,i 0,i 0,.slice none 0 0]) rfl ?_)
    intro w21 Hn;replace H:=Hn;clear Hn
    refine Ro.q (v:=(i (vI base bs dl blo bhi h))) rfl rfl (zD rfl) rfl ?_
    refine Ro.nil (nT (Wp.seq (Wp.seq (Wp.region ?_))))
    refine Ro.q (v:=(i (vI base bs dl blo bhi h))) rfl rfl (zB rfl) rfl ?_
    refine Ro.q rfl rfl (vW rfl rfl) rfl ?_
    refine Ro.nil (nT ?_)
    refine Wp.condT (show ev _ _ _=_ from congrArg Value.bool (show decide ((vI base bs dl blo bhi h)≠0)=true by exact decide_eq_true h0)) ?_
    refine Wp.seq (Wp.region ?_)
    refine Ro.q (v:=(.agg #[(i 0),(.slice none 0 0),(.slice none 0 0),(i 0),(i 0),(.slice none 0 0),(.slice none 0 0)])) rfl rfl (zP (v:=(.agg #[(i 0),(.slice none 0 0),(.slice none 0 0),(i 0),(i 0),(.slice none 0 0),(.slice none 0 0)])) pn (fun w=>by kernel_rfl)) rfl ?_
    refine Ro.q (v:=(i (vI base bs dl blo bhi h))) rfl rfl (zB rfl) rfl ?_
    refine Ro.d0 rfl rfl rfl (H.store (j:=1) (off:=0) (k:=7) rfl sz153 rfl (v:=(.agg #[(i 0),(.slice none 0 0),(.slice none 0 0),(i 0),(i 0),(.slice none 0 0),(.slice none 0 0)])) rfl rfl rfl rfl rfl (by simp [Value.oneCell']) (cs':=[i 0,.slice none 0 0,.slice none 0 0,i 0,i 0,.slice none 0 0,.slice none 0 0]) rfl ?_)
    intro w23 Hn;replace H:=Hn;clear Hn
    refine Ro.q (v:=(i (vI base bs dl blo bhi h))) rfl rfl (zD rfl) rfl ?_
    refine Ro.nil (nT (Wp.ret (rT (zN ?_))))
    refine zT (vs:=[i 0,.slice none 0 0,.slice none 0 0,i 0,i 0,.slice none 0 0,.slice none 0 0]) (v:=(i (vI base bs dl blo bhi h))) Tryz.results82 rfl ta153 (H.cells 1 rfl) rfl rfl ⟨H.keep,?_⟩
    have e1:icedE base bs dl blo bhi h ices=vI base bs dl blo bhi h:=by unfold icedE;rw [decide_eq_true h0];rfl
    exact .inr ⟨by rw [e1];exact h0,by rw [e1]⟩
end Go.Proofs.YthfnjppieihcfaaGreat
namespace Go.Proofs.YthfnjppieihcfaaGreat
open Go.RowKit Go.Proofs Go.Mw
theorem en124:Go.Proofs.Enters Tryz.prog 124:=Go.Proofs.enters_of Tryz.func124 (by kernel_rfl) rfl
theorem en125:Go.Proofs.Enters Tryz.prog 125:=Go.Proofs.enters_of Tryz.func125 (by kernel_rfl) rfl
theorem en145:Go.Proofs.Enters Tryz.prog 145:=Go.Proofs.enters_of Tryz.func145 (by kernel_rfl) rfl
theorem en89:Go.Proofs.Enters Tryz.prog 89:=Go.Proofs.enters_of Tryz.func89 (by kernel_rfl) rfl
theorem t1_167:T1 Tryz.prog 167:=⟨Tryz.isAgg167,fun _=>by kernel_rfl⟩
theorem ta33:TA Tryz.prog 33 10:=⟨Tryz.isAgg33,fun _=>by kernel_rfl⟩
theorem ta52:TA Tryz.prog 52 10:=⟨Tryz.isAgg52,fun _=>by kernel_rfl⟩
theorem ts63:TS Tryz.prog 63 10:=⟨_,Tryz.underlying63,fun _=>by kernel_rfl⟩
open Men
theorem c145 {a:Option Addr} {xs:List Rdg} {ca:Nat} {fi:FuncId} {cv:List Value} {φ:Rdg→Bool} (w:World) (ha:Sl w 10 (xs.map rdV) a) (hl:xs.length≤4611686018427387904) (hen:Enters Tryz.prog fi) (hf : ∀ e,e∈xs→∀ w',Keep Nm w w'→Rv Tryz.prog fi (.agg #[i e.day,i e.shown,i e.err,i e.bare,i e.alo,i e.ahi,i e.rlo,i e.rhi,i e.deep,.bool e.broken] :: cv) w' (.bool (φ e))):Rv Tryz.prog 145 [(.slice a xs.length ca),(.func (.func fi) #[] cv.toArray)] w (.int .i64 (idxL φ xs 0)):=by
  refine Ret.body (N:=19) Tryz.func145 rfl Tryz.ntmps145 rfl ?_
  have H:=S.start Nm w
  refine Wp.seq (Wp.region ?_)
  refine Ro.q (v:=(i 0)) rfl rfl (zD rfl) rfl ?_
  refine Ro.nil (nT (Wp.seq (Wp.seq (Wp.region ?_))))
  refine Ro.q (v:=(.slice a xs.length ca)) rfl rfl (zB rfl) rfl ?_
  refine Ro.q rfl rfl (yG Tryz.underlying63 rfl (v:=xs.length) rfl) rfl ?_
  refine Ro.q (v:=(i 0)) rfl rfl (zB rfl) rfl ?_
  refine Ro.nil (nT (Wp.block ?_))
  refine Wp.loop (fun kM ds ρ w'=>∃ n:Int,ds=[]∧(0≤n∧n≤xs.length)∧kM=((xs.length:Int)-n).toNat∧ρ 0=(.slice a xs.length ca)∧ρ 1=(.func (.func fi) #[] cv.toArray)∧ρ 7=(i ((xs.length:Nat):Int))∧ρ 8=(i n)∧S Nm w [] w'∧((xs.take n.toNat).any φ=false)) (((xs.length:Int)-0).toNat) ⟨0,rfl,(by omega),rfl,rfl,rfl,rfl,rfl,H,(by simp)⟩ ?_
  clear H
  intro kρ5 dsρ5 ρ5 w6
  rintro ⟨n,rfl,hb8,hk7,f1,f2,f3,f4,H,hi9⟩
  refine Wp.seq (Wp.region ?_)
  refine Ro.q rfl rfl (yB f4 f3) rfl ?_
  refine Ro.nil (nT (Wp.seq ?_))
  refine Wp.cond (t:=decide (n<((xs.length:Nat):Int))) rfl ?_ ?_
  · intro c10
    have c10r:=c10
    simp only [bx] at c10
    obtain ⟨e,he⟩:=vQ xs n (by omega) (by omega)
    refine Wp.skip (nT (Wp.seq (Wp.block (Wp.seq (Wp.region ?_)))))
    refine Ro.q (v:=(i n)) rfl rfl (zB f4) rfl ?_
    refine Ro.q (v:=(i n)) rfl rfl (zD rfl) rfl ?_
    refine Ro.nil (nT (Wp.seq (Wp.region ?_)))
    refine Ro.q (v:=(.func (.func fi) #[] cv.toArray)) rfl rfl (zB f2) rfl ?_
    refine Ro.q (v:=(.slice a xs.length ca)) rfl rfl (zB f1) rfl ?_
    refine Ro.q (v:=(i n)) rfl rfl (zB rfl) rfl ?_
    refine Ro.q rfl rfl (zY ts63 (ha.ext H.keep) rfl (by simp) rfl (by omega) (zW he)) rfl ?_
    refine Ro.q rfl rfl (zJ ta52 rfl ((ha.ext H.keep).cells (zW he)) (j:=0) rfl (vs:=[i e.day,i e.shown,i e.err,i e.bare,i e.alo,i e.ahi,i e.rlo,i e.rhi,i e.deep,.bool e.broken]) rfl rfl) rfl ?_
    refine Ro.d rfl rfl rfl (uG (fv:=[]) (cv:=cv) rfl rfl hen (ce (v:=(.agg #[(i e.day),(i e.shown),(i e.err),(i e.bare),(i e.alo),(i e.ahi),(i e.rlo),(i e.rhi),(i e.deep),(.bool e.broken)])) rfl cn) (hf e (List.mem_of_getElem? he) _ H.keep) ?_)
    intro u w11 k12 hu;subst hu;replace H:=H.ext k12;clear k12
    refine Ro.nil (nT ?_)
    refine Wp.cond (t:=φ e) rfl ?_ ?_
    · intro c13
      have c13r:=c13
      refine Wp.seq (Wp.region ?_)
      refine Ro.q (v:=(i n)) rfl rfl (zB rfl) rfl ?_
      refine Ro.q (v:=(i n)) rfl rfl (zD rfl) rfl ?_
      refine Ro.nil (nT (Wp.ret (rB (rT (rT (rB (rT (zN ?_))))))))
      refine zI (v:=(i n)) Tryz.results145 rfl ⟨H.keep,?_⟩
      refine congrArg (Value.int _) ?_
      rw [idxL_hit φ xs n 0 e (by omega) he hi9 c13];omega
    intro c13
    have c13r:=c13
    refine Wp.skip (nB (nT (Wp.region ?_)))
    refine Ro.q rfl rfl (zU f4 rfl (by constructor <;>omega)) rfl ?_
    refine Ro.q (v:=(i (n+1))) rfl rfl (zB rfl) rfl ?_
    refine Ro.nil (nT ?_)
    exact ⟨((xs.length:Int)-(n+1)).toNat,by omega,(n+1),rfl,(by omega),rfl,f1,f2,f3,rfl,H,(any_take (by omega) he hi9 c13)⟩
  intro c10
  have c10r:=c10
  simp only [bx] at c10
  refine Wp.exit (xT (xT (xB (nT (Wp.seq (Wp.region ?_))))))
  refine Ro.q (v:=(i (-1))) rfl rfl (zD rfl) rfl ?_
  refine Ro.nil (nT (Wp.ret (zN ?_)))
  refine zI (v:=(i (-1))) Tryz.results145 rfl ⟨H.keep,?_⟩
  exact congrArg (Value.int _) (idxL_none φ xs 0 (any_end (by omega) hi9)).symm
theorem c124 {a:Option Addr} {xs:List Rdg} {ca:Nat} {fi:FuncId} {cv:List Value} {φ:Rdg→Bool} (w:World) (ha:Sl w 10 (xs.map rdV) a) (hl:xs.length≤4611686018427387904) (hen:Enters Tryz.prog fi) (hf : ∀ e,e∈xs→∀ w',Keep Nm w w'→Rv Tryz.prog fi (.agg #[i e.day,i e.shown,i e.err,i e.bare,i e.alo,i e.ahi,i e.rlo,i e.rhi,i e.deep,.bool e.broken] :: cv) w' (.bool (φ e))):Rv Tryz.prog 124 [(.slice a xs.length ca),(.func (.func fi) #[] cv.toArray)] w (.bool (xs.any φ)):=by
  refine Ret.body (N:=9) Tryz.func124 rfl Tryz.ntmps124 rfl ?_
  have H:=S.start Nm w
  refine Wp.seq (Wp.region ?_)
  refine Ro.q (v:=(.bool false)) rfl rfl (zD rfl) rfl ?_
  refine Ro.nil (nT (Wp.seq (Wp.region ?_)))
  refine Ro.q (v:=(.slice a xs.length ca)) rfl rfl (zB rfl) rfl ?_
  refine Ro.q (v:=(.func (.func fi) #[] cv.toArray)) rfl rfl (zB rfl) rfl ?_
  refine Ro.d rfl rfl rfl (zH rfl en145 (ce (v:=(.slice a xs.length ca)) rfl (ce (v:=(.func (.func fi) #[] cv.toArray)) rfl cn)) (c145 _ (ha.ext H.keep) hl hen (fun e he w2 k=>hf e he w2 (H.keep.trans k))) ?_)
  intro u w1 k2 hu;subst hu;replace H:=H.ext k2;clear k2
  refine Ro.q rfl rfl (r_geq rfl rfl) rfl ?_
  refine Ro.q (v:=(.bool (decide (0≤(idxL φ xs 0))))) rfl rfl (zD rfl) rfl ?_
  refine Ro.nil (nT (Wp.ret (zN ?_)))
  refine zI (v:=(.bool (decide (0≤(idxL φ xs 0))))) Tryz.results124 rfl ⟨H.keep,?_⟩
  exact congrArg Value.bool (idxL_any φ xs 0 (by omega))
theorem c125 {e:Rdg} {fi:FuncId} {cv:List Value} {ψ:Bool} {bf:Nat} (w:World) (hc:Cells w bf 0 [.func (.func fi) #[] cv.toArray]) (hen:Enters Tryz.prog fi) (hf : ∀ w',Keep Nm w w'→Rv Tryz.prog fi (.agg #[i e.day,i e.shown,i e.err,i e.bare,i e.alo,i e.ahi,i e.rlo,i e.rhi,i e.deep,.bool e.broken] :: cv) w' (.bool ψ)):Rv Tryz.prog 125 [.agg #[i e.day,i e.shown,i e.err,i e.bare,i e.alo,i e.ahi,i e.rlo,i e.rhi,i e.deep,.bool e.broken],p bf 0] w (.bool (!ψ)):=by
  refine Ret.body (N:=8) Tryz.func125 rfl Tryz.ntmps125 rfl ?_
  have H:=S.start Nm w
  refine Wp.seq (Wp.region ?_)
  refine Ro.d rfl rfl rfl (H.box (l:=[i e.day,i e.shown,i e.err,i e.bare,i e.alo,i e.ahi,i e.rlo,i e.rhi,i e.deep,.bool e.broken]) rfl (v:=(.agg #[(i e.day),(i e.shown),(i e.err),(i e.bare),(i e.alo),(i e.ahi),(i e.rlo),(i e.rhi),(i e.deep),(.bool e.broken)])) rfl rfl ?_)
  intro b1 w2 Hn;replace H:=Hn;clear Hn
  refine Ro.q (v:=(.bool false)) rfl rfl (zD rfl) rfl ?_
  refine Ro.nil (nT (Wp.seq (Wp.region ?_)))
  refine Ro.q rfl rfl (zE t1_167 rfl (hc.ext H.keep) (j:=0) rfl rfl) rfl ?_
  refine Ro.q rfl rfl (zJ ta52 rfl (H.cells 0 rfl) (j:=0) rfl (vs:=[i e.day,i e.shown,i e.err,i e.bare,i e.alo,i e.ahi,i e.rlo,i e.rhi,i e.deep,.bool e.broken]) rfl rfl) rfl ?_
  refine Ro.d rfl rfl rfl (uG (fv:=[]) (cv:=cv) rfl rfl hen (ce (v:=(.agg #[(i e.day),(i e.shown),(i e.err),(i e.bare),(i e.alo),(i e.ahi),(i e.rlo),(i e.rhi),(i e.deep),(.bool e.broken)])) rfl cn) (hf _ H.keep) ?_)
  intro u w3 k4 hu;subst hu;replace H:=H.ext k4;clear k4
  refine Ro.q rfl rfl (yN rfl) rfl ?_
  refine Ro.q (v:=(.bool (!ψ))) rfl rfl (zD rfl) rfl ?_
  refine Ro.nil (nT (Wp.ret (zN ?_)))
  refine zI (v:=(.bool (!ψ))) Tryz.results125 rfl ⟨H.keep,?_⟩
  rfl
theorem c97 {a:Option Addr} {xs:List Rdg} {ca:Nat} {fi:FuncId} {cv:List Value} {φ:Rdg→Bool} (w:World) (ha:Sl w 10 (xs.map rdV) a) (hl:xs.length≤4611686018427387904) (hen:Enters Tryz.prog fi) (hf : ∀ e,e∈xs→∀ w',Keep Nm w w'→Rv Tryz.prog fi (.agg #[i e.day,i e.shown,i e.err,i e.bare,i e.alo,i e.ahi,i e.rlo,i e.rhi,i e.deep,.bool e.broken] :: cv) w' (.bool (φ e))):Rv Tryz.prog 97 [(.slice a xs.length ca),(.func (.func fi) #[] cv.toArray)] w (.bool (xs.all φ)):=by
  refine Ret.body (N:=9) Tryz.func97 rfl Tryz.ntmps97 rfl ?_
  have H:=S.start Nm w
  refine Wp.seq (Wp.region ?_)
  refine Ro.d rfl rfl rfl (H.box (l:=[.func (.func fi) #[] cv.toArray]) rfl (v:=(.func (.func fi) #[] cv.toArray)) rfl rfl ?_)
  intro b1 w2 Hn;replace H:=Hn;clear Hn
  refine Ro.q (v:=(.bool false)) rfl rfl (zD rfl) rfl ?_
  refine Ro.nil (nT (Wp.seq (Wp.region ?_)))
  refine Ro.q (v:=(.slice a xs.length ca)) rfl rfl (zB rfl) rfl ?_
  refine Ro.q (v:=(.func (.func 125) #[] #[(p b1 0)])) rfl rfl (uH cn (ce (v:=(p b1 0)) rfl cn)) rfl ?_
  refine Ro.d rfl rfl rfl (zH rfl en124 (ce (v:=(.slice a xs.length ca)) rfl (ce (v:=(.func (.func 125) #[] #[(p b1 0)])) rfl cn)) (c124 (φ:=fun x=>!φ x) _ (ha.ext H.keep) hl en125 (fun e he w2 k=>c125 _ ((H.cells 0 rfl).ext k) hen (fun w3 k3=>hf e he w3 ((H.keep.trans k).trans k3)))) ?_)
  intro u w3 k4 hu;subst hu;replace H:=H.ext k4;clear k4
  refine Ro.q rfl rfl (yN rfl) rfl ?_
  refine Ro.q (v:=(.bool (!(xs.any fun x=>!φ x)))) rfl rfl (zD rfl) rfl ?_
  refine Ro.nil (nT (Wp.ret (zN ?_)))
  refine zI (v:=(.bool (!(xs.any fun x=>!φ x)))) Tryz.results97 rfl ⟨H.keep,?_⟩
  exact congrArg Value.bool (all_not φ xs)
end Go.Proofs.YthfnjppieihcfaaGreat
namespace Go.Proofs.YthfnjppieihcfaaGreat
open Go.RowKit Go.Proofs Go.Mw
theorem en84:Go.Proofs.Enters Tryz.prog 84:=Go.Proofs.enters_of Tryz.func84 (by kernel_rfl) rfl
theorem en85:Go.Proofs.Enters Tryz.prog 85:=Go.Proofs.enters_of Tryz.func85 (by kernel_rfl) rfl
theorem en86:Go.Proofs.Enters Tryz.prog 86:=Go.Proofs.enters_of Tryz.func86 (by kernel_rfl) rfl
theorem fo85_0:FO Tryz.prog 85 0 0:=fun _ _ _=>by kernel_rfl
theorem fo85_1:FO Tryz.prog 85 1 1:=fun _ _ _=>by kernel_rfl
theorem fo85_2:FO Tryz.prog 85 2 2:=fun _ _ _=>by kernel_rfl
theorem fo85_3:FO Tryz.prog 85 3 3:=fun _ _ _=>by kernel_rfl
theorem fo85_4:FO Tryz.prog 85 4 4:=fun _ _ _=>by kernel_rfl
theorem fo85_5:FO Tryz.prog 85 5 5:=fun _ _ _=>by kernel_rfl
theorem fo85_6:FO Tryz.prog 85 6 6:=fun _ _ _=>by kernel_rfl
theorem ta45:TA Tryz.prog 45 12:=⟨Tryz.isAgg45,fun _=>by kernel_rfl⟩
open Men
theorem readB_iff {days day shown err bare alo ahi rlo rhi deep:Int}:readB days day shown err bare alo ahi rlo rhi deep=true↔(0≤day∧day≤days-1)∧((-5000≤shown∧shown≤5000)∧(0≤err∧err≤20)∧(0≤bare∧bare≤300)∧(-100≤alo∧alo≤ahi∧ahi≤100)∧(-20≤rlo∧rlo≤rhi∧rhi≤20)∧(0≤deep∧deep≤20)):=by
  simp only [readB,yM,yL,Bool.and_eq_true,decide_eq_true_eq]
  constructor <;>(intro h;omega)
theorem tubeE_zero {base blo bhi klo khi llo lhi slo shi term:Int} {bs:List Band} {dl:List Depth} (h:tubeE base bs dl blo bhi klo khi llo lhi slo shi term=0):yI base bs dl blo bhi=0∧((0≤klo∧klo≤khi∧khi≤20)∧(0≤llo∧llo≤lhi∧lhi≤5)∧(0≤slo∧slo≤shi∧shi≤3))∧(0≤term∧term≤16):=by
  unfold tubeE at h
  by_cases hg:yI base bs dl blo bhi=0
  · rw [decide_eq_false (by simpa using hg)] at h
    simp only [cond_false] at h
    refine ⟨hg,?_⟩
    cases hb:(((!yL klo khi 0 20 || !yL llo lhi 0 5) || !yL slo shi 0 3) || !yM term 0 16)
    · simp only [yM,yL,Bool.or_eq_false_iff,Bool.not_eq_false',Bool.and_eq_true,decide_eq_true_eq] at hb
      omega
    · rw [hb] at h;simp at h
  · rw [decide_eq_true hg] at h
    simp only [cond_true] at h
    exact absurd h hg
theorem c39 {base blo bhi klo khi llo lhi slo shi term day shown err bare alo ahi rlo rhi deep zero tk tl ts ta tr off:Int} {broken:Bool} {ab ad:Option Addr} {bs:List Band} {dl:List Depth} {cab cad:Nat} (w:World) (hab:Sl w 3 (bs.map yH) ab) (had:Sl w 2 (dl.map zZ) ad) (herr : -1000000000000≤err∧err≤1000000000000):Ret Tryz.prog 39 [(.agg #[(i base),(.slice ab bs.length cab),(.slice ad dl.length cad),(i blo),(i bhi),(i klo),(i khi),(i llo),(i lhi),(i slo),(i shi),(i term)]),(.agg #[(i day),(i shown),(i err),(i bare),(i alo),(i ahi),(i rlo),(i rhi),(i deep),(.bool broken)]),(.agg #[(i zero),(i tk),(i tl),(i ts),(i ta),(i tr),(i off)])] w fun v _=>∃ n e:Int,v = .tuple #[.int .i64 n,.int .i64 e]∧((tubeE base bs dl blo bhi klo khi llo lhi slo shi term=0∧readB 16 day shown err bare alo ahi rlo rhi deep=true∧((klo≤tk∧tk≤khi)∧(llo≤tl∧tl≤lhi)∧(slo≤ts∧ts≤shi)∧(alo≤ta∧ta≤ahi)∧(rlo≤tr∧tr≤rhi)∧(-err≤off∧off≤err)∧(-2000≤zero∧zero≤2000)))→e=0∧n=zG tk tl ts shown bare deep ta tr off-zero):=by
  refine Ret.body (N:=94) Tryz.func39 rfl Tryz.ntmps39 rfl ?_
  have H:=S.start Nm w
  refine Wp.seq (Wp.region ?_)
  refine Ro.d rfl rfl rfl (H.box (l:=[i base,.slice ab bs.length cab,.slice ad dl.length cad,i blo,i bhi,i klo,i khi,i llo,i lhi,i slo,i shi,i term]) rfl (v:=(.agg #[(i base),(.slice ab bs.length cab),(.slice ad dl.length cad),(i blo),(i bhi),(i klo),(i khi),(i llo),(i lhi),(i slo),(i shi),(i term)])) rfl rfl ?_)
  intro b1 w2 Hn;replace H:=Hn;clear Hn
  refine Ro.d rfl rfl rfl (H.box (l:=[i day,i shown,i err,i bare,i alo,i ahi,i rlo,i rhi,i deep,.bool broken]) rfl (v:=(.agg #[(i day),(i shown),(i err),(i bare),(i alo),(i ahi),(i rlo),(i rhi),(i deep),(.bool broken)])) rfl rfl ?_)
  intro b3 w4 Hn;replace H:=Hn;clear Hn
  refine Ro.d rfl rfl rfl (H.box (l:=[i zero,i tk,i tl,i ts,i ta,i tr,i off]) rfl (v:=(.agg #[(i zero),(i tk),(i tl),(i ts),(i ta),(i tr),(i off)])) rfl rfl ?_)
  intro b5 w6 Hn;replace H:=Hn;clear Hn
  refine Ro.q (v:=(i 0)) rfl rfl (zD rfl) rfl ?_
  refine Ro.q (v:=(i 0)) rfl rfl (zD rfl) rfl ?_
  refine Ro.nil (nT (Wp.seq (Wp.seq (Wp.region ?_))))
  refine Ro.q rfl rfl (zJ ta45 rfl (H.cells 2 rfl) (j:=0) rfl (vs:=[i base,.slice ab bs.length cab,.slice ad dl.length cad,i blo,i bhi,i klo,i khi,i llo,i lhi,i slo,i shi,i term]) rfl rfl) rfl ?_
  refine Ro.d rfl rfl rfl (zH rfl en84 (ce (v:=(.agg #[(i base),(.slice ab bs.length cab),(.slice ad dl.length cad),(i blo),(i bhi),(i klo),(i khi),(i llo),(i lhi),(i slo),(i shi),(i term)])) rfl cn) (c84 base blo bhi klo khi llo lhi slo shi term ab bs cab ad dl cad _ (hab.ext H.keep) (had.ext H.keep)) ?_)
  intro u w7 k8 hu;subst hu;replace H:=H.ext k8
  clear k8
  refine Ro.q (v:=(i (tubeE base bs dl blo bhi klo khi llo lhi slo shi term))) rfl rfl (zD rfl) rfl ?_
  refine Ro.nil (nT (Wp.seq (Wp.region ?_)))
  refine Ro.q (v:=(i (tubeE base bs dl blo bhi klo khi llo lhi slo shi term))) rfl rfl (zB rfl) rfl ?_
  refine Ro.q rfl rfl (vW rfl rfl) rfl ?_
  refine Ro.nil (nT ?_)
  refine Wp.cond (t:=decide ((tubeE base bs dl blo bhi klo khi llo lhi slo shi term)≠0)) rfl ?_ ?_
  · intro c9
    have c9r:=c9
    simp only [bx] at c9
    refine Wp.seq (Wp.region ?_)
    refine Ro.q (v:=(i (tubeE base bs dl blo bhi klo khi llo lhi slo shi term))) rfl rfl (zB rfl) rfl ?_
    refine Ro.q (v:=(i 0)) rfl rfl (zD rfl) rfl ?_
    refine Ro.q (v:=(i (tubeE base bs dl blo bhi klo khi llo lhi slo shi term))) rfl rfl (zD rfl) rfl ?_
    refine Ro.nil (nT (Wp.ret (rT (zN ?_))))
    refine vT (v:=(i 0)) (v':=(i (tubeE base bs dl blo bhi klo khi llo lhi slo shi term))) Tryz.results39 rfl rfl ⟨H.keep,?_⟩
    exact ⟨_,_,rfl,fun hv=>absurd hv.1 c9⟩
  intro c9
  have c9r:=c9
  simp only [bx] at c9
  have ht0:=tubeE_zero (base:=base) (bs:=bs) (dl:=dl) (blo:=blo) (bhi:=bhi) (klo:=klo) (khi:=khi) (llo:=llo) (lhi:=lhi) (slo:=slo) (shi:=shi) (term:=term) (by omega)
  refine Wp.skip (nT (Wp.seq (Wp.seq ?_)))
  let qq10:Bool:=readB 16 day shown err bare alo ahi rlo rhi deep
  let qq11:Bool:=decide (klo≤tk) && decide (tk≤khi)
  let qq12:Bool:=(!qq10 || (!qq11))
  let qq13:Bool:=decide (llo≤tl) && decide (tl≤lhi)
  let qq14:Bool:=(qq12 || (!qq13))
  let qq15:Bool:=decide (slo≤ts) && decide (ts≤shi)
  let qq16:Bool:=(qq14 || (!qq15))
  let qq17:Bool:=decide (alo≤ta) && decide (ta≤ahi)
  let qq18:Bool:=(qq16 || (!qq17))
  let qq19:Bool:=decide (rlo≤tr) && decide (tr≤rhi)
  let qq20:Bool:=(qq18 || (!qq19))
  let qq21:Bool:=decide ((-err)≤off) && decide (off≤err)
  let qq22:Bool:=(qq20 || (!qq21))
  let qq23:Bool:=decide ((-2000)≤zero) && decide (zero≤2000)
  let qq24:Bool:=(qq22 || (!qq23))
  refine Wp.factsS 60 [is (.agg #[(i day),(i shown),(i err),(i bare),(i alo),(i ahi),(i rlo),(i rhi),(i deep),(.bool broken)]),is (.bool qq10),is (.bool (!qq10)),is (.bool (!qq10)),gdv (True∧(!qq10)=false) (p b1 5),gdv (True∧(!qq10)=false) (.agg #[(i klo),(i khi)]),gdv (True∧(!qq10)=false) (p b5 1),gdv (True∧(!qq10)=false) (i tk),gdv (True∧(!qq10)=false) (.bool qq11),gdv (True∧(!qq10)=false) (.bool (!qq11)),is (.bool qq12),is (.bool qq12),gdv (True∧qq12=false) (p b1 7),gdv (True∧qq12=false) (.agg #[(i llo),(i lhi)]),gdv (True∧qq12=false) (p b5 2),gdv (True∧qq12=false) (i tl),gdv (True∧qq12=false) (.bool qq13),gdv (True∧qq12=false) (.bool (!qq13)),is (.bool qq14),is (.bool qq14),gdv (True∧qq14=false) (p b1 9),gdv (True∧qq14=false) (.agg #[(i slo),(i shi)]),gdv (True∧qq14=false) (p b5 3),gdv (True∧qq14=false) (i ts),gdv (True∧qq14=false) (.bool qq15),gdv (True∧qq14=false) (.bool (!qq15)),is (.bool qq16),is (.bool qq16),gdv (True∧qq16=false) (p b3 4),gdv (True∧qq16=false) (.agg #[(i alo),(i ahi)]),gdv (True∧qq16=false) (p b5 4),gdv (True∧qq16=false) (i ta),gdv (True∧qq16=false) (.bool qq17),gdv (True∧qq16=false) (.bool (!qq17)),is (.bool qq18),is (.bool qq18),gdv (True∧qq18=false) (p b3 6),gdv (True∧qq18=false) (.agg #[(i rlo),(i rhi)]),gdv (True∧qq18=false) (p b5 5),gdv (True∧qq18=false) (i tr),gdv (True∧qq18=false) (.bool qq19),gdv (True∧qq18=false) (.bool (!qq19)),is (.bool qq20),is (.bool qq20),gdv (True∧qq20=false) (p b5 6),gdv (True∧qq20=false) (i off),gdv (True∧qq20=false) (p b3 2),gdv (True∧qq20=false) (i err),gdv (True∧qq20=false) (i (-err)),gdv (True∧qq20=false) (p b3 2),gdv (True∧qq20=false) (i err),gdv (True∧qq20=false) (.bool qq21),gdv (True∧qq20=false) (.bool (!qq21)),is (.bool qq22),is (.bool qq22),gdv (True∧qq22=false) (p b5 0),gdv (True∧qq22=false) (i zero),gdv (True∧qq22=false) (.bool qq23),gdv (True∧qq22=false) (.bool (!qq23)),is (.bool qq24)] (by kernel_rfl) (Mi (Mi (Mi (Mi (Mg (Mg (Mg (Mg (Mg (Mg (Mi (Mi (Mg (Mg (Mg (Mg (Mg (Mg (Mi (Mi (Mg (Mg (Mg (Mg (Mg (Mg (Mi (Mi (Mg (Mg (Mg (Mg (Mg (Mg (Mi (Mi (Mg (Mg (Mg (Mg (Mg (Mg (Mi (Mi (Mg (Mg (Mg (Mg (Mg (Mg (Mg (Mg (Mg (Mi (Mi (Mg (Mg (Mg (Mg (Mi Mono.nil)))))))))))))))))))))))))))))))))))))))))))))))))))))))))))) (fun w' k=>H.ext k) ?_ ?_
  · refine ⟨?_,?_,?_,?_,?_,?_,?_,?_,?_,?_,?_,?_,?_,?_,?_,?_,?_,?_,?_,?_,?_,?_,?_,?_,?_,?_,?_,?_,?_,?_,?_,?_,?_,?_,?_,?_,?_,?_,?_,?_,?_,?_,?_,?_,?_,?_,?_,?_,?_,?_,?_,?_,?_,?_,?_,?_,?_,?_,?_,?_,trivial⟩
    · exact Ob.q rfl (fun _ _ B U D=>(zJ ta52 (show (_:Value)=(p b3 0) from U 4 rfl) (B.cells 1 rfl) (j:=0) rfl (vs:=[i day,i shown,i err,i bare,i alo,i ahi,i rlo,i rhi,i deep,.bool broken]) rfl rfl)) rfl rfl
    · exact Ob.mk rfl fun ρ' w' B U D=>zH rfl en85 (ce (v:=(i 16)) rfl (ce (v:=(.agg #[(i day),(i shown),(i err),(i bare),(i alo),(i ahi),(i rlo),(i rhi),(i deep),(.bool broken)])) (D 0 rfl) cn)) (c85 16 day shown err bare alo ahi rlo rhi deep broken _ (by omega)) (fun u w2 k2 hu=>⟨k2,hu⟩)
    · exact Ob.q rfl (fun _ _ B U D=>(yN (D 1 rfl))) rfl rfl
    · exact Ob.q rfl (fun _ _ B U D=>(zB (D 2 rfl))) rfl rfl
    · exact Ob.g0 rfl rfl (fun _ _ _ D=>D 3 rfl) rfl (fun _ _ B U D hC hg=>(zA fo45_1 (show (_:Value)=(p b1 0) from U 3 rfl) rfl)) rfl
    · exact Ob.g0 rfl rfl (fun _ _ _ D=>D 3 rfl) rfl (fun _ _ B U D hC hg=>(zJ vL (gdy (D 4 rfl) ⟨hC,hg⟩) (B.cells 2 rfl) (j:=5) rfl (vs:=[i klo,i khi]) rfl rfl)) rfl
    · exact Ob.g0 rfl rfl (fun _ _ _ D=>D 3 rfl) rfl (fun _ _ B U D hC hg=>(zA fo85_1 (show (_:Value)=(p b5 0) from U 5 rfl) rfl)) rfl
    · exact Ob.g0 rfl rfl (fun _ _ _ D=>D 3 rfl) rfl (fun _ _ B U D hC hg=>(zE zM (gdy (D 6 rfl) ⟨hC,hg⟩) (B.cells 0 rfl) (j:=1) rfl rfl)) rfl
    · exact Ob.gd (C:=True) (g:=!qq10) rfl rfl (fun ρ' w' U D=>⟨fun _=>(D 3 rfl),fun h=>absurd trivial h⟩) (fun _ h=>⟨fun hc=>absurd hc (yQ h),fun _=>rfl⟩) fun ρ' w' B U D hC hg=>zH rfl en86 (ce (v:=(.agg #[(i klo),(i khi)])) (gdy (D 5 rfl) ⟨hC,hg⟩) (ce (v:=(i tk)) (gdy (D 7 rfl) ⟨hC,hg⟩) cn)) (c86 klo khi tk _ ) (fun u w2 k2 hu=>⟨k2,⟨fun _=>hu,fun n=>absurd ⟨hC,hg⟩ n⟩⟩)
    · exact Ob.g0 rfl rfl (fun _ _ _ D=>D 3 rfl) rfl (fun _ _ B U D hC hg=>(yN (gdy (D 8 rfl) ⟨hC,hg⟩))) rfl
    · exact Ob.q rfl (fun _ _ B U D=>(zQ (v:=(.bool qq12)) (D 3 rfl) (fun eP=>or_t eP) (fun eP=>(gdy (D 9 rfl) ⟨trivial,eP⟩).trans (or_f eP)))) rfl rfl
    · exact Ob.q rfl (fun _ _ B U D=>(zB (D 10 rfl))) rfl rfl
    · exact Ob.g0 rfl rfl (fun _ _ _ D=>D 11 rfl) rfl (fun _ _ B U D hC hg=>(zA fo45_2 (show (_:Value)=(p b1 0) from U 3 rfl) rfl)) rfl
    · exact Ob.g0 rfl rfl (fun _ _ _ D=>D 11 rfl) rfl (fun _ _ B U D hC hg=>(zJ vL (gdy (D 12 rfl) ⟨hC,hg⟩) (B.cells 2 rfl) (j:=7) rfl (vs:=[i llo,i lhi]) rfl rfl)) rfl
    · exact Ob.g0 rfl rfl (fun _ _ _ D=>D 11 rfl) rfl (fun _ _ B U D hC hg=>(zA fo85_2 (show (_:Value)=(p b5 0) from U 5 rfl) rfl)) rfl
    · exact Ob.g0 rfl rfl (fun _ _ _ D=>D 11 rfl) rfl (fun _ _ B U D hC hg=>(zE zM (gdy (D 14 rfl) ⟨hC,hg⟩) (B.cells 0 rfl) (j:=2) rfl rfl)) rfl
    · exact Ob.gd (C:=True) (g:=qq12) rfl rfl (fun ρ' w' U D=>⟨fun _=>(D 11 rfl),fun h=>absurd trivial h⟩) (fun _ h=>⟨fun hc=>absurd hc (yQ h),fun _=>rfl⟩) fun ρ' w' B U D hC hg=>zH rfl en86 (ce (v:=(.agg #[(i llo),(i lhi)])) (gdy (D 13 rfl) ⟨hC,hg⟩) (ce (v:=(i tl)) (gdy (D 15 rfl) ⟨hC,hg⟩) cn)) (c86 llo lhi tl _ ) (fun u w2 k2 hu=>⟨k2,⟨fun _=>hu,fun n=>absurd ⟨hC,hg⟩ n⟩⟩)
    · exact Ob.g0 rfl rfl (fun _ _ _ D=>D 11 rfl) rfl (fun _ _ B U D hC hg=>(yN (gdy (D 16 rfl) ⟨hC,hg⟩))) rfl
    · exact Ob.q rfl (fun _ _ B U D=>(zQ (v:=(.bool qq14)) (D 11 rfl) (fun eP=>or_t eP) (fun eP=>(gdy (D 17 rfl) ⟨trivial,eP⟩).trans (or_f eP)))) rfl rfl
    · exact Ob.q rfl (fun _ _ B U D=>(zB (D 18 rfl))) rfl rfl
    · exact Ob.g0 rfl rfl (fun _ _ _ D=>D 19 rfl) rfl (fun _ _ B U D hC hg=>(zA fo45_3 (show (_:Value)=(p b1 0) from U 3 rfl) rfl)) rfl
    · exact Ob.g0 rfl rfl (fun _ _ _ D=>D 19 rfl) rfl (fun _ _ B U D hC hg=>(zJ vL (gdy (D 20 rfl) ⟨hC,hg⟩) (B.cells 2 rfl) (j:=9) rfl (vs:=[i slo,i shi]) rfl rfl)) rfl
    · exact Ob.g0 rfl rfl (fun _ _ _ D=>D 19 rfl) rfl (fun _ _ B U D hC hg=>(zA fo85_3 (show (_:Value)=(p b5 0) from U 5 rfl) rfl)) rfl
    · exact Ob.g0 rfl rfl (fun _ _ _ D=>D 19 rfl) rfl (fun _ _ B U D hC hg=>(zE zM (gdy (D 22 rfl) ⟨hC,hg⟩) (B.cells 0 rfl) (j:=3) rfl rfl)) rfl
    · exact Ob.gd (C:=True) (g:=qq14) rfl rfl (fun ρ' w' U D=>⟨fun _=>(D 19 rfl),fun h=>absurd trivial h⟩) (fun _ h=>⟨fun hc=>absurd hc (yQ h),fun _=>rfl⟩) fun ρ' w' B U D hC hg=>zH rfl en86 (ce (v:=(.agg #[(i slo),(i shi)])) (gdy (D 21 rfl) ⟨hC,hg⟩) (ce (v:=(i ts)) (gdy (D 23 rfl) ⟨hC,hg⟩) cn)) (c86 slo shi ts _ ) (fun u w2 k2 hu=>⟨k2,⟨fun _=>hu,fun n=>absurd ⟨hC,hg⟩ n⟩⟩)
    · exact Ob.g0 rfl rfl (fun _ _ _ D=>D 19 rfl) rfl (fun _ _ B U D hC hg=>(yN (gdy (D 24 rfl) ⟨hC,hg⟩))) rfl
    · exact Ob.q rfl (fun _ _ B U D=>(zQ (v:=(.bool qq16)) (D 19 rfl) (fun eP=>or_t eP) (fun eP=>(gdy (D 25 rfl) ⟨trivial,eP⟩).trans (or_f eP)))) rfl rfl
    · exact Ob.q rfl (fun _ _ B U D=>(zB (D 26 rfl))) rfl rfl
    · exact Ob.g0 rfl rfl (fun _ _ _ D=>D 27 rfl) rfl (fun _ _ B U D hC hg=>(zA fo52_4 (show (_:Value)=(p b3 0) from U 4 rfl) rfl)) rfl
    · exact Ob.g0 rfl rfl (fun _ _ _ D=>D 27 rfl) rfl (fun _ _ B U D hC hg=>(zJ vL (gdy (D 28 rfl) ⟨hC,hg⟩) (B.cells 1 rfl) (j:=4) rfl (vs:=[i alo,i ahi]) rfl rfl)) rfl
    · exact Ob.g0 rfl rfl (fun _ _ _ D=>D 27 rfl) rfl (fun _ _ B U D hC hg=>(zA fo85_4 (show (_:Value)=(p b5 0) from U 5 rfl) rfl)) rfl
    · exact Ob.g0 rfl rfl (fun _ _ _ D=>D 27 rfl) rfl (fun _ _ B U D hC hg=>(zE zM (gdy (D 30 rfl) ⟨hC,hg⟩) (B.cells 0 rfl) (j:=4) rfl rfl)) rfl
    · exact Ob.gd (C:=True) (g:=qq16) rfl rfl (fun ρ' w' U D=>⟨fun _=>(D 27 rfl),fun h=>absurd trivial h⟩) (fun _ h=>⟨fun hc=>absurd hc (yQ h),fun _=>rfl⟩) fun ρ' w' B U D hC hg=>zH rfl en86 (ce (v:=(.agg #[(i alo),(i ahi)])) (gdy (D 29 rfl) ⟨hC,hg⟩) (ce (v:=(i ta)) (gdy (D 31 rfl) ⟨hC,hg⟩) cn)) (c86 alo ahi ta _ ) (fun u w2 k2 hu=>⟨k2,⟨fun _=>hu,fun n=>absurd ⟨hC,hg⟩ n⟩⟩)
    · exact Ob.g0 rfl rfl (fun _ _ _ D=>D 27 rfl) rfl (fun _ _ B U D hC hg=>(yN (gdy (D 32 rfl) ⟨hC,hg⟩))) rfl
    · exact Ob.q rfl (fun _ _ B U D=>(zQ (v:=(.bool qq18)) (D 27 rfl) (fun eP=>or_t eP) (fun eP=>(gdy (D 33 rfl) ⟨trivial,eP⟩).trans (or_f eP)))) rfl rfl
    · exact Ob.q rfl (fun _ _ B U D=>(zB (D 34 rfl))) rfl rfl
    · exact Ob.g0 rfl rfl (fun _ _ _ D=>D 35 rfl) rfl (fun _ _ B U D hC hg=>(zA fo52_5 (show (_:Value)=(p b3 0) from U 4 rfl) rfl)) rfl
    · exact Ob.g0 rfl rfl (fun _ _ _ D=>D 35 rfl) rfl (fun _ _ B U D hC hg=>(zJ vL (gdy (D 36 rfl) ⟨hC,hg⟩) (B.cells 1 rfl) (j:=6) rfl (vs:=[i rlo,i rhi]) rfl rfl)) rfl
    · exact Ob.g0 rfl rfl (fun _ _ _ D=>D 35 rfl) rfl (fun _ _ B U D hC hg=>(zA fo85_5 (show (_:Value)=(p b5 0) from U 5 rfl) rfl)) rfl
    · exact Ob.g0 rfl rfl (fun _ _ _ D=>D 35 rfl) rfl (fun _ _ B U D hC hg=>(zE zM (gdy (D 38 rfl) ⟨hC,hg⟩) (B.cells 0 rfl) (j:=5) rfl rfl)) rfl
    · exact Ob.gd (C:=True) (g:=qq18) rfl rfl (fun ρ' w' U D=>⟨fun _=>(D 35 rfl),fun h=>absurd trivial h⟩) (fun _ h=>⟨fun hc=>absurd hc (yQ h),fun _=>rfl⟩) fun ρ' w' B U D hC hg=>zH rfl en86 (ce (v:=(.agg #[(i rlo),(i rhi)])) (gdy (D 37 rfl) ⟨hC,hg⟩) (ce (v:=(i tr)) (gdy (D 39 rfl) ⟨hC,hg⟩) cn)) (c86 rlo rhi tr _ ) (fun u w2 k2 hu=>⟨k2,⟨fun _=>hu,fun n=>absurd ⟨hC,hg⟩ n⟩⟩)
    · exact Ob.g0 rfl rfl (fun _ _ _ D=>D 35 rfl) rfl (fun _ _ B U D hC hg=>(yN (gdy (D 40 rfl) ⟨hC,hg⟩))) rfl
    · exact Ob.q rfl (fun _ _ B U D=>(zQ (v:=(.bool qq20)) (D 35 rfl) (fun eP=>or_t eP) (fun eP=>(gdy (D 41 rfl) ⟨trivial,eP⟩).trans (or_f eP)))) rfl rfl
    · exact Ob.q rfl (fun _ _ B U D=>(zB (D 42 rfl))) rfl rfl
    · exact Ob.g0 rfl rfl (fun _ _ _ D=>D 43 rfl) rfl (fun _ _ B U D hC hg=>(zA fo85_6 (show (_:Value)=(p b5 0) from U 5 rfl) rfl)) rfl
    · exact Ob.g0 rfl rfl (fun _ _ _ D=>D 43 rfl) rfl (fun _ _ B U D hC hg=>(zE zM (gdy (D 44 rfl) ⟨hC,hg⟩) (B.cells 0 rfl) (j:=6) rfl rfl)) rfl
    · exact Ob.g0 rfl rfl (fun _ _ _ D=>D 43 rfl) rfl (fun _ _ B U D hC hg=>(zA fo52_2 (show (_:Value)=(p b3 0) from U 4 rfl) rfl)) rfl
    · exact Ob.g0 rfl rfl (fun _ _ _ D=>D 43 rfl) rfl (fun _ _ B U D hC hg=>(zE zM (gdy (D 46 rfl) ⟨hC,hg⟩) (B.cells 1 rfl) (j:=2) rfl rfl)) rfl
    · exact Ob.g0 rfl rfl (fun _ _ _ D=>D 43 rfl) rfl (fun _ _ B U D hC hg=>(r_neg (gdy (D 47 rfl) ⟨hC,hg⟩) (by constructor <;>omega))) rfl
    · exact Ob.g0 rfl rfl (fun _ _ _ D=>D 43 rfl) rfl (fun _ _ B U D hC hg=>(zA fo52_2 (show (_:Value)=(p b3 0) from U 4 rfl) rfl)) rfl
    · exact Ob.g0 rfl rfl (fun _ _ _ D=>D 43 rfl) rfl (fun _ _ B U D hC hg=>(zE zM (gdy (D 49 rfl) ⟨hC,hg⟩) (B.cells 1 rfl) (j:=2) rfl rfl)) rfl
    · exact Ob.gd (C:=True) (g:=qq20) rfl rfl (fun ρ' w' U D=>⟨fun _=>(D 43 rfl),fun h=>absurd trivial h⟩) (fun _ h=>⟨fun hc=>absurd hc (yQ h),fun _=>rfl⟩) fun ρ' w' B U D hC hg=>zH rfl en87 (ce (v:=(i off)) (gdy (D 45 rfl) ⟨hC,hg⟩) (ce (v:=(i (-err))) (gdy (D 48 rfl) ⟨hC,hg⟩) (ce (v:=(i err)) (gdy (D 50 rfl) ⟨hC,hg⟩) cn))) (c87 off (-err) err _ ) (fun u w2 k2 hu=>⟨k2,⟨fun _=>hu,fun n=>absurd ⟨hC,hg⟩ n⟩⟩)
    · exact Ob.g0 rfl rfl (fun _ _ _ D=>D 43 rfl) rfl (fun _ _ B U D hC hg=>(yN (gdy (D 51 rfl) ⟨hC,hg⟩))) rfl
    · exact Ob.q rfl (fun _ _ B U D=>(zQ (v:=(.bool qq22)) (D 43 rfl) (fun eP=>or_t eP) (fun eP=>(gdy (D 52 rfl) ⟨trivial,eP⟩).trans (or_f eP)))) rfl rfl
    · exact Ob.q rfl (fun _ _ B U D=>(zB (D 53 rfl))) rfl rfl
    · exact Ob.g0 rfl rfl (fun _ _ _ D=>D 54 rfl) rfl (fun _ _ B U D hC hg=>(zA fo85_0 (show (_:Value)=(p b5 0) from U 5 rfl) rfl)) rfl
    · exact Ob.g0 rfl rfl (fun _ _ _ D=>D 54 rfl) rfl (fun _ _ B U D hC hg=>(zE zM (gdy (D 55 rfl) ⟨hC,hg⟩) (B.cells 0 rfl) (j:=0) rfl rfl)) rfl
    · exact Ob.gd (C:=True) (g:=qq22) rfl rfl (fun ρ' w' U D=>⟨fun _=>(D 54 rfl),fun h=>absurd trivial h⟩) (fun _ h=>⟨fun hc=>absurd hc (yQ h),fun _=>rfl⟩) fun ρ' w' B U D hC hg=>zH rfl en87 (ce (v:=(i zero)) (gdy (D 56 rfl) ⟨hC,hg⟩) (ce (v:=(i (-2000))) rfl (ce (v:=(i 2000)) rfl cn))) (c87 zero (-2000) 2000 _ ) (fun u w2 k2 hu=>⟨k2,⟨fun _=>hu,fun n=>absurd ⟨hC,hg⟩ n⟩⟩)
    · exact Ob.g0 rfl rfl (fun _ _ _ D=>D 54 rfl) rfl (fun _ _ B U D hC hg=>(yN (gdy (D 57 rfl) ⟨hC,hg⟩))) rfl
    · exact Ob.q rfl (fun _ _ B U D=>(zQ (v:=(.bool qq24)) (D 54 rfl) (fun eP=>or_t eP) (fun eP=>(gdy (D 58 rfl) ⟨trivial,eP⟩).trans (or_f eP)))) rfl rfl
  intro ρ25 w26 k27 U28 D29;replace H:=H.ext k27
  have f30:ρ25 3=(p b1 0):=U28 3 rfl
  have f31:ρ25 4=(p b3 0):=U28 4 rfl
  have f32:ρ25 5=(p b5 0):=U28 5 rfl
  have f35:ρ25 73=(.bool qq24):=D29 59 rfl
  clear U28 D29 k27
  refine Ro.nil (nT ?_)
  refine Wp.cond (t:=qq24) f35 ?_ ?_
  · intro c36
    have c36r:((((((((!(readB 16 day shown err bare alo ahi rlo rhi deep) || (!(decide (klo≤tk) && decide (tk≤khi)))) || (!(decide (llo≤tl) && decide (tl≤lhi)))) || (!(decide (slo≤ts) && decide (ts≤shi)))) || (!(decide (alo≤ta) && decide (ta≤ahi)))) || (!(decide (rlo≤tr) && decide (tr≤rhi)))) || (!(decide ((-err)≤off) && decide (off≤err)))) || (!(decide ((-2000)≤zero) && decide (zero≤2000)))))=true:=c36
    replace c36:=c36r
    simp only [bx] at c36
    refine Wp.seq (Wp.region ?_)
    refine Ro.q (v:=(i 0)) rfl rfl (zD rfl) rfl ?_
    refine Ro.q (v:=(i 2)) rfl rfl (zD rfl) rfl ?_
    refine Ro.nil (nT (Wp.ret (rT (zN ?_))))
    refine vT (v:=(i 0)) (v':=(i 2)) Tryz.results39 rfl rfl ⟨H.keep,?_⟩
    refine ⟨_,_,rfl,fun hv=>?_⟩
    exfalso
    have hr1:=hv.2.1
    rw [hr1] at c36
    simp at c36
    omega
  intro c36
  have c36r:((((((((!(readB 16 day shown err bare alo ahi rlo rhi deep) || (!(decide (klo≤tk) && decide (tk≤khi)))) || (!(decide (llo≤tl) && decide (tl≤lhi)))) || (!(decide (slo≤ts) && decide (ts≤shi)))) || (!(decide (alo≤ta) && decide (ta≤ahi)))) || (!(decide (rlo≤tr) && decide (tr≤rhi)))) || (!(decide ((-err)≤off) && decide (off≤err)))) || (!(decide ((-2000)≤zero) && decide (zero≤2000)))))=false:=c36
  replace c36:=c36r
  simp only [bx] at c36
  have hr0:=readB_iff.1 c36.1.1.1.1.1.1.1
  have wi:=withoutP_in (k:=tk) (lag:=tl) (sq:=ts) (shown:=shown) (bare:=bare) (deep:=deep) (air:=ta) (rate:=tr) (off:=off) (by omega)
  refine Wp.skip (nT (Wp.seq ?_))
  refine Wp.drawnS 20 [0,0,3,0,8,0,32,0,128,504,0,1024,0,4096,0,16384,65535,0,131072,524287,1048575,2097151] [is (.agg #[(i base),(.slice ab bs.length cab),(.slice ad dl.length cad),(i blo),(i bhi),(i klo),(i khi),(i llo),(i lhi),(i slo),(i shi),(i term)]),is (.agg #[(i day),(i shown),(i err),(i bare),(i alo),(i ahi),(i rlo),(i rhi),(i deep),(.bool broken)]),is (.agg #[(i base),(.slice ab bs.length cab),(.slice ad dl.length cad),(i blo),(i bhi),(i klo),(i khi),(i llo),(i lhi),(i slo),(i shi),(i term),(i day),(i shown),(i err),(i bare),(i alo),(i ahi),(i rlo),(i rhi),(i deep),(.bool broken)]),is (p b5 1),is (i tk),is (p b5 2),is (i tl),is (p b5 3),is (i ts),is (.agg #[(i tk),(i tl),(i ts)]),is (p b5 4),is (i ta),is (p b5 5),is (i tr),is (p b5 6),is (i off),is (i (zG tk tl ts shown bare deep ta tr off)),is (p b5 0),is (i zero),is (i ((zG tk tl ts shown bare deep ta tr off)-zero))] (by kernel_rfl) (by kernel_rfl) rfl (Mi (Mi (Mi (Mi (Mi (Mi (Mi (Mi (Mi (Mi (Mi (Mi (Mi (Mi (Mi (Mi (Mi (Mi (Mi (Mi Mono.nil)))))))))))))))))))) (fun w' k=>H.ext k) ?_ ?_
  · refine ⟨?_,?_,?_,?_,?_,?_,?_,?_,?_,?_,?_,?_,?_,?_,?_,?_,?_,?_,?_,?_,trivial⟩
    · exact Ob.q rfl (fun _ _ B U D=>(zJ ta45 ((U 3 rfl).trans f30) (B.cells 2 rfl) (j:=0) rfl (vs:=[i base,.slice ab bs.length cab,.slice ad dl.length cad,i blo,i bhi,i klo,i khi,i llo,i lhi,i slo,i shi,i term]) rfl rfl)) rfl rfl
    · exact Ob.q rfl (fun _ _ B U D=>(zJ ta52 ((U 4 rfl).trans f31) (B.cells 1 rfl) (j:=0) rfl (vs:=[i day,i shown,i err,i bare,i alo,i ahi,i rlo,i rhi,i deep,.bool broken]) rfl rfl)) rfl rfl
    · exact Ob.q rfl (fun _ _ B U D=>(zP (v:=(.agg #[(i base),(.slice ab bs.length cab),(.slice ad dl.length cad),(i blo),(i bhi),(i klo),(i khi),(i llo),(i lhi),(i slo),(i shi),(i term),(i day),(i shown),(i err),(i bare),(i alo),(i ahi),(i rlo),(i rhi),(i deep),(.bool broken)])) (pe (v:=(.agg #[(i base),(.slice ab bs.length cab),(.slice ad dl.length cad),(i blo),(i bhi),(i klo),(i khi),(i llo),(i lhi),(i slo),(i shi),(i term)])) (D 0 rfl) (pe (v:=(.agg #[(i day),(i shown),(i err),(i bare),(i alo),(i ahi),(i rlo),(i rhi),(i deep),(.bool broken)])) (D 1 rfl) pn)) (fun w=>by kernel_rfl))) rfl rfl
    · exact Ob.q rfl (fun _ _ B U D=>(zA fo85_1 ((U 5 rfl).trans f32) rfl)) rfl rfl
    · exact Ob.q rfl (fun _ _ B U D=>(zE zM (D 3 rfl) (B.cells 0 rfl) (j:=1) rfl rfl)) rfl rfl
    · exact Ob.q rfl (fun _ _ B U D=>(zA fo85_2 ((U 5 rfl).trans f32) rfl)) rfl rfl
    · exact Ob.q rfl (fun _ _ B U D=>(zE zM (D 5 rfl) (B.cells 0 rfl) (j:=2) rfl rfl)) rfl rfl
    · exact Ob.q rfl (fun _ _ B U D=>(zA fo85_3 ((U 5 rfl).trans f32) rfl)) rfl rfl
    · exact Ob.q rfl (fun _ _ B U D=>(zE zM (D 7 rfl) (B.cells 0 rfl) (j:=3) rfl rfl)) rfl rfl
    · exact Ob.q rfl (fun _ _ B U D=>(zP (v:=(.agg #[(i tk),(i tl),(i ts)])) (pe (v:=(i tk)) (D 4 rfl) (pe (v:=(i tl)) (D 6 rfl) (pe (v:=(i ts)) (D 8 rfl) pn))) (fun w=>by kernel_rfl))) rfl rfl
    · exact Ob.q rfl (fun _ _ B U D=>(zA fo85_4 ((U 5 rfl).trans f32) rfl)) rfl rfl
    · exact Ob.q rfl (fun _ _ B U D=>(zE zM (D 10 rfl) (B.cells 0 rfl) (j:=4) rfl rfl)) rfl rfl
    · exact Ob.q rfl (fun _ _ B U D=>(zA fo85_5 ((U 5 rfl).trans f32) rfl)) rfl rfl
    · exact Ob.q rfl (fun _ _ B U D=>(zE zM (D 12 rfl) (B.cells 0 rfl) (j:=5) rfl rfl)) rfl rfl
    · exact Ob.q rfl (fun _ _ B U D=>(zA fo85_6 ((U 5 rfl).trans f32) rfl)) rfl rfl
    · exact Ob.q rfl (fun _ _ B U D=>(zE zM (D 14 rfl) (B.cells 0 rfl) (j:=6) rfl rfl)) rfl rfl
    · exact Ob.mk rfl fun ρ' w' B U D=>zH rfl en88 (ce (v:=(.agg #[(i base),(.slice ab bs.length cab),(.slice ad dl.length cad),(i blo),(i bhi),(i klo),(i khi),(i llo),(i lhi),(i slo),(i shi),(i term),(i day),(i shown),(i err),(i bare),(i alo),(i ahi),(i rlo),(i rhi),(i deep),(.bool broken)])) (D 2 rfl) (ce (v:=(.agg #[(i tk),(i tl),(i ts)])) (D 9 rfl) (ce (v:=(i ta)) (D 11 rfl) (ce (v:=(i tr)) (D 13 rfl) (ce (v:=(i off)) (D 15 rfl) cn))))) (c88 base blo bhi klo khi llo lhi slo shi term day shown err bare alo ahi rlo rhi deep broken tk tl ts ta tr off ab bs cab ad dl cad _ (hab.ext B.keep) (had.ext B.keep) (by omega)) (fun u w2 k2 hu=>⟨k2,hu⟩)
    · exact Ob.q rfl (fun _ _ B U D=>(zA fo85_0 ((U 5 rfl).trans f32) rfl)) rfl rfl
    · exact Ob.q rfl (fun _ _ B U D=>(zE zM (D 17 rfl) (B.cells 0 rfl) (j:=0) rfl rfl)) rfl rfl
    · exact Ob.q rfl (fun _ _ B U D=>(yT (D 16 rfl) (D 18 rfl) (by constructor <;>omega))) rfl rfl
  intro ρ37 w38 k39 U40 D41;replace H:=H.ext k39
  have f44:ρ37 93=(i ((zG tk tl ts shown bare deep ta tr off)-zero)):=D41 19 rfl
  clear U40 D41 k39
  refine Ro.q (v:=(i ((zG tk tl ts shown bare deep ta tr off)-zero))) rfl rfl (zD f44) rfl ?_
  refine Ro.q (v:=(i 0)) rfl rfl (zD rfl) rfl ?_
  refine Ro.nil (nT (Wp.ret (zN ?_)))
  refine vT (v:=(i ((zG tk tl ts shown bare deep ta tr off)-zero))) (v':=(i 0)) Tryz.results39 rfl rfl ⟨H.keep,?_⟩
  exact ⟨_,_,rfl,fun _=>⟨rfl,rfl⟩⟩
end Go.Proofs.YthfnjppieihcfaaGreat
namespace Go.Proofs.YthfnjppieihcfaaGreat
open Go.RowKit Go.Proofs Go.Mw
open Men
theorem S.take2 {M:Nat→Prop} {w:World} {g g':Nat} {o o':Obj} (h:w.heap[g]? = some o) (h':w.heap[g']? = some o') (hne:g≠g') (hM:M g) (hM':M g'):S M w [(g,o),(g',o')] w :=
  ⟨Keep.refl _ _,by intro p hp;simp at hp;rcases hp with rfl | rfl;exact h;exact h',by simp [hne],by intro p hp;simp at hp;rcases hp with rfl | rfl;exact .inr hM;exact .inr hM'⟩
theorem c120 {lo hi olo ohi:Int} {first:Bool} {bf bo:Nat} (w:World) (hf:w.heap[bf]? = some (.cells #[.bool first] 4 (0,0))) (ho:w.heap[bo]? = some (.cells #[.int .i64 olo,.int .i64 ohi] 41 (0,0))) (hne:bf≠bo):Calls Tryz.prog 120 [.agg #[.int .i64 lo,.int .i64 hi],p bf 0,p bo 0].toArray w fun e w'=>∃ v,e = .returned v∧v = .tuple #[]∧Keep (fun k=>k=bf∨k=bo) w w'∧w'.heap[bf]? = some (.cells #[.bool false] 4 (0,0))∧∃ lo2 hi2,w'.heap[bo]? = some (.cells #[.int .i64 lo2,.int .i64 hi2] 41 (0,0))∧lo2=(bif first then lo else min olo lo)∧hi2=(bif first then hi else max ohi hi):=by
  refine Calls.body' (N:=19) Tryz.func120 rfl Tryz.ntmps120 rfl ?_
  have H:=S.take2 (M:=fun k=>k=bf∨k=bo) hf ho hne (.inl rfl) (.inr rfl)
  refine Wp.seq (Wp.region ?_)
  refine Ro.d rfl rfl rfl (H.box (l:=[i lo,i hi]) rfl (v:=(.agg #[(i lo),(i hi)])) rfl rfl ?_)
  intro b1 w2 Hn;replace H:=Hn;clear Hn
  refine Ro.nil (nT (Wp.seq (Wp.seq (Wp.region ?_))))
  refine Ro.q rfl rfl (zE t1_4 rfl (H.cells 1 rfl) (j:=0) rfl rfl) rfl ?_
  refine Ro.nil (nT ?_)
  refine Wp.cond (t:=first) rfl ?_ ?_
  · intro c3
    have c3r:=c3
    refine Wp.region ?_
    refine Ro.q rfl rfl (zJ vL rfl (H.cells 0 rfl) (j:=0) rfl (vs:=[i lo,i hi]) rfl rfl) rfl ?_
    refine Ro.d0 rfl rfl rfl (H.store (j:=2) (off:=0) (k:=2) rfl sz41 rfl (v:=(.agg #[(i lo),(i hi)])) rfl rfl rfl rfl rfl (by simp [Value.oneCell']) (cs':=[i lo,i hi]) rfl ?_)
    intro w4 Hn;replace H:=Hn;clear Hn
    refine Ro.d0 rfl rfl rfl (H.store (j:=1) (off:=0) (k:=1) rfl sz4 rfl (v:=(.bool false)) rfl rfl rfl rfl rfl (by simp [Value.oneCell']) (cs':=[.bool false]) rfl ?_)
    intro w5 Hn;replace H:=Hn;clear Hn
    refine Ro.nil (nT ?_)
    refine Wp.drawnS 13 [0,1,0,4,15,31,0,64,0,256,960,2047,4095,8191] [is (p bo 0),is (i lo),is (p b1 0),is (i lo),fun v w=>∃ b,v = .slice (some ⟨b,0,none⟩) 2 2∧Cells w b 0 [i lo,i lo],is (i (vS ([lo,lo]))),is (p bo 1),is (i hi),is (p b1 1),is (i hi),fun v w=>∃ b,v = .slice (some ⟨b,0,none⟩) 2 2∧Cells w b 0 [i hi,i hi],is (i (vB ([hi,hi]))),is (.agg #[(i (vS ([lo,lo]))),(i (vB ([hi,hi])))])] (by kernel_rfl) (by kernel_rfl) rfl (Mi (Mi (Mi (Mi (Mono.row (Mi (Mi (Mi (Mi (Mi (Mono.row (Mi (Mi Mono.nil))))))))))))) (fun w' k=>H.ext k) ?_ ?_
    · refine ⟨?_,?_,?_,?_,?_,?_,?_,?_,?_,?_,?_,?_,?_,trivial⟩
      · exact Ob.q rfl (fun _ _ B U D=>(zA yV (show (_:Value)=(p bo 0) from U 2 rfl) rfl)) rfl rfl
      · exact Ob.q rfl (fun _ _ B U D=>(zE zM (D 0 rfl) (B.cells 2 rfl) (j:=0) rfl rfl)) rfl rfl
      · exact Ob.q rfl (fun _ _ B U D=>(zA yV (show (_:Value)=(p b1 0) from U 3 rfl) rfl)) rfl rfl
      · exact Ob.q rfl (fun _ _ B U D=>(zE zM (D 2 rfl) (B.cells 0 rfl) (j:=0) rfl rfl)) rfl rfl
      · exact Ob.mk rfl fun ρ' w' B U D=>d_row (e:=3) (cs:=[i lo,i lo]) rfl (pe (v:=(i lo)) (D 1 rfl) (pe (v:=(i lo)) (D 3 rfl) pn)) (fun w=>by kernel_rfl) fun b w2 k hc=>⟨k,b,rfl,hc⟩
      · exact Ob.mk rfl fun ρ' w' B U D=>(match (show ∃ b,ρ' 10 = .slice (some ⟨b,0,none⟩) 2 2∧Cells w' b 0 [i lo,i lo] from D 4 rfl) with | ⟨bR4,hR4,cR4⟩=>zH rfl en70 (ce (v:=(.slice (some ⟨bR4,0,none⟩) 2 2)) hR4 cn) (c70 (some ⟨bR4,0,none⟩) ([lo,lo]) 2 _ ((Sl.of (b:=bR4) (xs:=[lo,lo].map yD) (by simp [yD]) cR4)) (by simp)) (fun u w2 k2 hu=>⟨k2,hu⟩))
      · exact Ob.q rfl (fun _ _ B U D=>(zA yZ (show (_:Value)=(p bo 0) from U 2 rfl) rfl)) rfl rfl
      · exact Ob.q rfl (fun _ _ B U D=>(zE zM (D 6 rfl) (B.cells 2 rfl) (j:=1) rfl rfl)) rfl rfl
      · exact Ob.q rfl (fun _ _ B U D=>(zA yZ (show (_:Value)=(p b1 0) from U 3 rfl) rfl)) rfl rfl
      · exact Ob.q rfl (fun _ _ B U D=>(zE zM (D 8 rfl) (B.cells 0 rfl) (j:=1) rfl rfl)) rfl rfl
      · exact Ob.mk rfl fun ρ' w' B U D=>d_row (e:=3) (cs:=[i hi,i hi]) rfl (pe (v:=(i hi)) (D 7 rfl) (pe (v:=(i hi)) (D 9 rfl) pn)) (fun w=>by kernel_rfl) fun b w2 k hc=>⟨k,b,rfl,hc⟩
      · exact Ob.mk rfl fun ρ' w' B U D=>(match (show ∃ b,ρ' 16 = .slice (some ⟨b,0,none⟩) 2 2∧Cells w' b 0 [i hi,i hi] from D 10 rfl) with | ⟨bR10,hR10,cR10⟩=>zH rfl en71 (ce (v:=(.slice (some ⟨bR10,0,none⟩) 2 2)) hR10 cn) (c71 (some ⟨bR10,0,none⟩) ([hi,hi]) 2 _ ((Sl.of (b:=bR10) (xs:=[hi,hi].map yD) (by simp [yD]) cR10)) (by simp)) (fun u w2 k2 hu=>⟨k2,hu⟩))
      · exact Ob.q rfl (fun _ _ B U D=>(zP (v:=(.agg #[(i (vS ([lo,lo]))),(i (vB ([hi,hi])))])) (pe (v:=(i (vS ([lo,lo])))) (D 5 rfl) (pe (v:=(i (vB ([hi,hi])))) (D 11 rfl) pn)) (fun w=>by kernel_rfl))) rfl rfl
    intro ρ6 w7 k8 U9 D10;replace H:=H.ext k8
    have f11:ρ6 2=(p bo 0):=U9 2 rfl
    have f12:ρ6 18=(.agg #[(i (vS ([lo,lo]))),(i (vB ([hi,hi])))]):=D10 12 rfl
    clear U9 D10 k8
    refine Ro.d0 rfl rfl rfl (H.store (j:=2) (off:=0) (k:=2) rfl sz41 f11 (v:=(.agg #[(i (vS ([lo,lo]))),(i (vB ([hi,hi])))])) f12 rfl rfl rfl rfl (by simp [Value.oneCell']) (cs':=[i (vS ([lo,lo])),i (vB ([hi,hi]))]) rfl ?_)
    intro w13 Hn;replace H:S (fun k=>k=bf∨k=bo) w [(b1,.cells [i lo,i hi].toArray 41 (0,0)),(bf,.cells [.bool false].toArray 4 (0,0)),(bo,.cells [i (vS ([lo,lo])),i (vB ([hi,hi]))].toArray 41 (0,0))] w13:=Hn;clear Hn
    refine Ro.nil (bodyN ?_)
    refine leave_none Tryz.results120 ?_
    exact ⟨rfl,H.keep,H.at 1 rfl,_,_,H.at 2 rfl,by rw [c3];simp [vS],by rw [c3];simp [vB]⟩
  intro c3
  have c3r:=c3
  refine Wp.skip (nT ?_)
  refine Wp.drawnS 13 [0,1,0,4,15,31,0,64,0,256,960,2047,4095,8191] [is (p bo 0),is (i olo),is (p b1 0),is (i lo),fun v w=>∃ b,v = .slice (some ⟨b,0,none⟩) 2 2∧Cells w b 0 [i olo,i lo],is (i (vS ([olo,lo]))),is (p bo 1),is (i ohi),is (p b1 1),is (i hi),fun v w=>∃ b,v = .slice (some ⟨b,0,none⟩) 2 2∧Cells w b 0 [i ohi,i hi],is (i (vB ([ohi,hi]))),is (.agg #[(i (vS ([olo,lo]))),(i (vB ([ohi,hi])))])] (by kernel_rfl) (by kernel_rfl) rfl (Mi (Mi (Mi (Mi (Mono.row (Mi (Mi (Mi (Mi (Mi (Mono.row (Mi (Mi Mono.nil))))))))))))) (fun w' k=>H.ext k) ?_ ?_
  · refine ⟨?_,?_,?_,?_,?_,?_,?_,?_,?_,?_,?_,?_,?_,trivial⟩
    · exact Ob.q rfl (fun _ _ B U D=>(zA yV (show (_:Value)=(p bo 0) from U 2 rfl) rfl)) rfl rfl
    · exact Ob.q rfl (fun _ _ B U D=>(zE zM (D 0 rfl) (B.cells 2 rfl) (j:=0) rfl rfl)) rfl rfl
    · exact Ob.q rfl (fun _ _ B U D=>(zA yV (show (_:Value)=(p b1 0) from U 3 rfl) rfl)) rfl rfl
    · exact Ob.q rfl (fun _ _ B U D=>(zE zM (D 2 rfl) (B.cells 0 rfl) (j:=0) rfl rfl)) rfl rfl
    · exact Ob.mk rfl fun ρ' w' B U D=>d_row (e:=3) (cs:=[i olo,i lo]) rfl (pe (v:=(i olo)) (D 1 rfl) (pe (v:=(i lo)) (D 3 rfl) pn)) (fun w=>by kernel_rfl) fun b w2 k hc=>⟨k,b,rfl,hc⟩
    · exact Ob.mk rfl fun ρ' w' B U D=>(match (show ∃ b,ρ' 10 = .slice (some ⟨b,0,none⟩) 2 2∧Cells w' b 0 [i olo,i lo] from D 4 rfl) with | ⟨bR4,hR4,cR4⟩=>zH rfl en70 (ce (v:=(.slice (some ⟨bR4,0,none⟩) 2 2)) hR4 cn) (c70 (some ⟨bR4,0,none⟩) ([olo,lo]) 2 _ ((Sl.of (b:=bR4) (xs:=[olo,lo].map yD) (by simp [yD]) cR4)) (by simp)) (fun u w2 k2 hu=>⟨k2,hu⟩))
    · exact Ob.q rfl (fun _ _ B U D=>(zA yZ (show (_:Value)=(p bo 0) from U 2 rfl) rfl)) rfl rfl
    · exact Ob.q rfl (fun _ _ B U D=>(zE zM (D 6 rfl) (B.cells 2 rfl) (j:=1) rfl rfl)) rfl rfl
    · exact Ob.q rfl (fun _ _ B U D=>(zA yZ (show (_:Value)=(p b1 0) from U 3 rfl) rfl)) rfl rfl
    · exact Ob.q rfl (fun _ _ B U D=>(zE zM (D 8 rfl) (B.cells 0 rfl) (j:=1) rfl rfl)) rfl rfl
    · exact Ob.mk rfl fun ρ' w' B U D=>d_row (e:=3) (cs:=[i ohi,i hi]) rfl (pe (v:=(i ohi)) (D 7 rfl) (pe (v:=(i hi)) (D 9 rfl) pn)) (fun w=>by kernel_rfl) fun b w2 k hc=>⟨k,b,rfl,hc⟩
    · exact Ob.mk rfl fun ρ' w' B U D=>(match (show ∃ b,ρ' 16 = .slice (some ⟨b,0,none⟩) 2 2∧Cells w' b 0 [i ohi,i hi] from D 10 rfl) with | ⟨bR10,hR10,cR10⟩=>zH rfl en71 (ce (v:=(.slice (some ⟨bR10,0,none⟩) 2 2)) hR10 cn) (c71 (some ⟨bR10,0,none⟩) ([ohi,hi]) 2 _ ((Sl.of (b:=bR10) (xs:=[ohi,hi].map yD) (by simp [yD]) cR10)) (by simp)) (fun u w2 k2 hu=>⟨k2,hu⟩))
    · exact Ob.q rfl (fun _ _ B U D=>(zP (v:=(.agg #[(i (vS ([olo,lo]))),(i (vB ([ohi,hi])))])) (pe (v:=(i (vS ([olo,lo])))) (D 5 rfl) (pe (v:=(i (vB ([ohi,hi])))) (D 11 rfl) pn)) (fun w=>by kernel_rfl))) rfl rfl
  intro ρ14 w15 k16 U17 D18;replace H:=H.ext k16
  have f19:ρ14 2=(p bo 0):=U17 2 rfl
  have f20:ρ14 18=(.agg #[(i (vS ([olo,lo]))),(i (vB ([ohi,hi])))]):=D18 12 rfl
  clear U17 D18 k16
  refine Ro.d0 rfl rfl rfl (H.store (j:=2) (off:=0) (k:=2) rfl sz41 f19 (v:=(.agg #[(i (vS ([olo,lo]))),(i (vB ([ohi,hi])))])) f20 rfl rfl rfl rfl (by simp [Value.oneCell']) (cs':=[i (vS ([olo,lo])),i (vB ([ohi,hi]))]) rfl ?_)
  intro w21 Hn;replace H:=Hn;clear Hn
  refine Ro.nil (bodyN ?_)
  refine leave_none Tryz.results120 ?_
  exact ⟨rfl,H.keep,(by have h:=H.at 1 rfl;rw [c3] at h;exact h),_,_,H.at 2 rfl,by rw [c3];simp [vS],by rw [c3];simp [vB]⟩
end Go.Proofs.YthfnjppieihcfaaGreat
