/- Part of the proof: what the last text of this claim imports. -/
import Derived.Test.YthfnjppieihcfaaGreatW2
import Derived.KernelRfl
set_option linter.unusedSimpArgs false
set_option linter.unusedVariables false
set_option maxRecDepth 100000
namespace Go.Mw
open Go.RowKit
variable {P : Program} {N : Nat} {r : Option Nat} {M : Nat → Prop} {w0 : World} {L : List (Nat × Obj)}
section
variable {o : Oper} {ρ : Env} {w : World} {K : Value → World → Prop}
theorem cn:([]:List Operand).map (ev N ρ)=[]:=rfl
theorem ce {x:Operand} {v:Value} {xs:List Operand} {vs:List Value} (hx:ev N ρ x=v) (h:xs.map (ev N ρ)=vs):(x :: xs).map (ev N ρ)=v :: vs:=by rw [List.map_cons,hx,h]
theorem pn:([]:List (Nat×Operand)).map (fun q=>(q.1,ev N ρ q.2))=[]:=rfl
theorem pe {j:Nat} {x:Operand} {v:Value} {xs:List (Nat×Operand)} {vs:List (Nat×Value)} (hx:ev N ρ x=v) (h:xs.map (fun q=>(q.1,ev N ρ q.2))=vs):((j,x) :: xs).map (fun q=>(q.1,ev N ρ q.2))=(j,v) :: vs:=by rw [List.map_cons,hx,h]
theorem zP {t:TypeId} {ps:List (Nat×Operand)} {vs:List (Nat×Value)} {v:Value} (hp:ps.map (fun q=>(q.1,ev N ρ q.2))=vs) (h : ∀ w,(Instr.build t vs.toArray).run P w = .ok v w):Runs P N (.build t ps.toArray) ρ w v:=by
  intro o ho
  have:(ps.toArray.map fun (q:Nat×Operand)=>(q.1,ev N ρ q.2))=vs.toArray:=by simpa using hp
  simp only [execOp,ho]
  change Sem.run P (do pure (Next.value (← Instr.build t (ps.toArray.map fun (q:Nat×Operand)=>(q.1,ev N ρ q.2))))) w=_
  rw [this]
  simp [h w]
theorem S.row (H:S M w0 L w) {t e n:Nat} {ps:List (Nat×Operand)} {vs:List (Nat×Value)} {cs:List Value} (ho:o.op = .buildSlice t n ps.toArray) (hp:ps.map (fun q=>(q.1,ev N ρ q.2))=vs)
    (h : ∀ w,(Instr.buildSlice t n vs.toArray).run P w = .ok (.slice (some ⟨w.heap.size,0,none⟩) n n) (w.alloc (.cells cs.toArray e)))
    (hk : ∀ b w',S M w0 ((b,.cells cs.toArray e (0,0)) :: L) w'→K (.slice (some ⟨b,0,none⟩) n n) w'):Does P N o ρ w K:=by
  have:(ps.toArray.map fun (q:Nat×Operand)=>(q.1,ev N ρ q.2))=vs.toArray:=by simpa using hp
  have hrun:(execOp (ev N ρ) o).run P w = .ok (.value (.slice (some ⟨w.heap.size,0,none⟩) n n)) (w.alloc (.cells cs.toArray e)):=by
    simp only [execOp,ho]
    change Sem.run P (do pure (Next.value (← Instr.buildSlice t n (ps.toArray.map fun (q:Nat×Operand)=>(q.1,ev N ρ q.2))))) w=_
    rw [this]
    simp [h w]
  unfold Does
  rw [hrun]
  exact hk _ _ (H.alloc _)
theorem Sl.of {w:World} {b:Nat} {k:Nat} {xs:List (List Value)} (hk : ∀ x∈xs,x.length=k) (h:Cells w b 0 xs.flatten):Sl w k xs (some ⟨b,0,none⟩):=by
  intro j x hx
  have hxm:=hk x (List.mem_of_getElem? hx)
  refine ⟨hxm,rfl,?_⟩
  have:=h.sub (j*k) k (vs:=x) ?_ hxm
  · simpa [blk,yP] using this
  · clear h
    induction xs generalizing j with
    | nil=>simp at hx
    | cons y ys ih =>
      have hy:=hk y (by simp)
      cases j with
      | zero =>
        simp at hx;subst hx
        simp [hxm]
      | succ j =>
        have:=ih (fun x hx=>hk x (by simp [hx])) (j:=j) (by simpa using hx)
        rw [List.flatten_cons,Nat.add_mul,Nat.one_mul,List.drop_append,hy,show j*k+k-k=j*k by omega,List.drop_of_length_le (by omega),List.nil_append]
        exact this
end
def ObV (P:Program) (N:Nat) (l:List Oper) (n:Nat) (B:World→Prop) (ψ:List (Value→Prop)) (ρ:Env) (j:Nat) (o:Oper):Prop :=
  ∀ ρ' w',B w'→(∀ s,((l.take n).any fun o=>match o.dst with | some d=>Nat.beq d s | none=>false)=false→ρ' s=ρ s)→(∀ k,vF o k=true→(ψ.getD k (fun _=>True)) (got l ρ' k)) →
    (match o.guard with
     | none=>Does P N o ρ' w' fun v w''=>Keep Nm w' w''∧ψ.getD j (fun _=>True) (outv o v)
     | some (g,want)=>(∃ b,got l ρ' g = .bool b∧(slot l g).isSome=true∧((slot l g).all (Nat.blt · N))=true∧(b=want→Does P N o ρ' w' fun v w''=>Keep Nm w' w''∧ψ.getD j (fun _=>True) (outv o v))∧(b = !want→ψ.getD j (fun _=>True) undef))∨(got l ρ' g=undef∧ψ.getD j (fun _=>True) undef))
def liftV (ψ:List (Value→Prop)):List (Value→World→Prop):=ψ.map fun f v _=>f v
theorem liftV_get (ψ:List (Value→Prop)) (k:Nat):((liftV ψ).getD k (fun _ _=>True))=fun v _=>ψ.getD k (fun _=>True) v:=by
  unfold liftV
  simp only [List.getD_eq_getElem?_getD,List.getElem?_map]
  cases ψ[k]? <;>rfl
section
variable {o : Oper} {ρ : Env} {w : World} {l : List Oper} {n : Nat} {B : World → Prop} {ψ : List (Value → Prop)} {j : Nat}
theorem ObV.mk (hg:o.guard=none) (h : ∀ ρ' w',B w'→(∀ s,((l.take n).any fun o=>match o.dst with | some d=>Nat.beq d s | none=>false)=false→ρ' s=ρ s)→(∀ k,vF o k=true→(ψ.getD k (fun _=>True)) (got l ρ' k)) →
    Does P N o ρ' w' fun v w''=>Keep Nm w' w''∧ψ.getD j (fun _=>True) (outv o v)):ObV P N l n B ψ ρ j o:=by
  intro ρ' w' hB hU hD
  rw [hg]
  exact h ρ' w' hB hU hD
/-- guarded: C: what makes the guard's own operation run, g: what it gives -/
theorem ObV.gd {gj:Nat} {want:Bool} {C:Prop} {g:Bool} (hg:o.guard=some (gj,want)) (hs:((slot l gj).any (Nat.blt · N))=true)
    (hgot : ∀ ρ':Env,(∀ s,((l.take n).any fun o=>match o.dst with | some d=>Nat.beq d s | none=>false)=false→ρ' s=ρ s)→(∀ k,vF o k=true→(ψ.getD k (fun _=>True)) (got l ρ' k))→(C→got l ρ' gj = .bool g)∧(¬ C→got l ρ' gj=undef))
    (hno:(¬ C∨g = !want)→ψ.getD j (fun _=>True) undef)
    (h : ∀ ρ' w',B w'→(∀ s,((l.take n).any fun o=>match o.dst with | some d=>Nat.beq d s | none=>false)=false→ρ' s=ρ s)→(∀ k,vF o k=true→(ψ.getD k (fun _=>True)) (got l ρ' k)) →
      C→g=want→Does P N o ρ' w' fun v w''=>Keep Nm w' w''∧ψ.getD j (fun _=>True) (outv o v)):ObV P N l n B ψ ρ j o:=by
  intro ρ' w' hB hU hD
  rw [hg]
  obtain ⟨h1,h2⟩:=hgot ρ' hU hD
  by_cases hC:C
  · refine .inl ⟨g,h1 hC,?_,?_,fun e=>h ρ' w' hB hU hD hC e,fun e=>hno (.inr e)⟩
    · cases hx:slot l gj with
      | none=>rw [hx] at hs;cases hs
      | some d=>rfl
    · cases hx:slot l gj with
      | none=>rw [hx] at hs;cases hs
      | some d=>rw [hx] at hs;exact hs
  · exact .inr ⟨h2 hC,hno (.inl hC)⟩
end
end Go.Mw
namespace Go.Mw
theorem or_t {g y:Bool} (h:g=true):(Value.bool true) = .bool (g || y):=by rw [h];rfl
theorem or_f {g y:Bool} (h:g=false):(Value.bool y) = .bool (g || y):=by rw [h];rfl
theorem yF {g y:Bool} (h:g=true):(Value.bool y) = .bool (g && y):=by rw [h];rfl
theorem yE {g y:Bool} (h:g=false):(Value.bool false) = .bool (g && y):=by rw [h];rfl
theorem yQ {C:Prop} {g want:Bool} (h : ¬ C∨g = !want) : ¬ (C∧g=want):=by
  rintro ⟨hc,hg⟩
  rcases h with h | h
  · exact h hc
  · rw [hg] at h;cases want <;>cases h
end Go.Mw
namespace Go.Mw
open Go.RowKit
variable {P : Program} {N : Nat} {r : Option Nat}
theorem blt_dec (k n:Nat):Nat.blt k n=decide (k<n):=by rw [Bool.eq_iff_iff];simp
def maskOf (ms:List Nat) (o:Oper):Nat:=o.after.toList.foldl (fun a e=>bif Region.binds .any e then a ||| (2 ^ e.on ||| ms.getD e.on 0) else a) 0
/-- ms: for each operation the bits of all that come ahead of it in every order -/
def okT (ms:List Nat) (l:List Oper) (n:Nat):Bool :=
  (l.zipIdx.all fun (o,j)=>noDefer o.op && (o.after.toList.all fun e=>!Region.binds .any e || Nat.blt e.on j) && Nat.beq (ms.getD j 0) (maskOf ms o) && (Nat.blt j n || Nat.beq (ms.getD j 0) (2 ^ j-1))) &&
  (decide (((l.take n).filterMap (·.dst)).Nodup))
structure OkT (l:List Oper) (n:Nat):Prop where
  calm : ∀ (j:Nat) (o:Oper),l[j]? = some o→noDefer o.op=true
  before : ∀ (j:Nat) (o:Oper),l[j]? = some o→∀ e∈o.after,Region.binds .any e=true→e.on<j
  tail : ∀ (j:Nat) (o:Oper),l[j]? = some o→n≤j→∀ (done:Nat→Bool),(∀ q o',l[q]? = some o'→done q=true→∀ e∈o'.after,Region.binds .any e=true→done e.on=true) →
    (∀ e∈o.after,Region.binds .any e=true→done e.on=true)→∀ k,k<j→done k=true
  nodup:((l.take n).filterMap (·.dst)).Nodup
theorem maskOf_bit (ms:List Nat) (k:Nat) : ∀ (xs:List Edge) (a:Nat),(xs.foldl (fun a e=>bif Region.binds .any e then a ||| (2 ^ e.on ||| ms.getD e.on 0) else a) a).testBit k=true →
    a.testBit k=true∨∃ e∈xs,Region.binds .any e=true∧(e.on=k∨(ms.getD e.on 0).testBit k=true)
  | [],a,h=>.inl h
  | x :: xs,a,h=>by
    rw [List.foldl_cons] at h
    rcases maskOf_bit ms k xs _ h with h | ⟨e,he,hb,hk⟩
    · cases hb:Region.binds .any x
      · rw [hb] at h;exact .inl h
      · rw [hb] at h
        simp only [cond_true,Nat.testBit_or,Bool.or_eq_true,Nat.testBit_two_pow,decide_eq_true_eq] at h
        rcases h with h | h | h
        · exact .inl h
        · exact .inr ⟨x,by simp,hb,.inl h⟩
        · exact .inr ⟨x,by simp,hb,.inr h⟩
    · exact .inr ⟨e,by simp [he],hb,hk⟩
theorem okT_spec {ms:List Nat} {l:List Oper} {n:Nat} (h:okT ms l n=true):OkT l n:=by
  simp only [okT,Bool.and_eq_true,decide_eq_true_eq] at h
  obtain ⟨h1,h2⟩:=h
  rw [List.all_eq_true] at h1
  have h1' : ∀ j o,l[j]? = some o→noDefer o.op=true∧(∀ e∈o.after,Region.binds .any e=true→e.on<j)∧ms.getD j 0=maskOf ms o∧(n≤j→ms.getD j 0=2 ^ j-1):=by
    intro j o hj
    have hm:(o,j)∈l.zipIdx:=by
      rw [List.mem_zipIdx_iff_getElem?]
      exact hj
    have:=h1 _ hm
    simp only [Bool.and_eq_true,Bool.or_eq_true,Bool.not_eq_true',List.all_eq_true] at this
    refine ⟨this.1.1.1,fun e he hb=>?_,Nat.eq_of_beq_eq_true this.1.2,fun hn=>?_⟩
    · rcases this.1.1.2 e (Array.mem_toList_iff.2 he) with h | h
      · rw [h] at hb;cases hb
      · simpa using h
    · rcases this.2 with h | h
      · have:j<n:=by simpa using h
        omega
      · exact Nat.eq_of_beq_eq_true h
  refine ⟨fun j o hj=>(h1' j o hj).1,fun j o hj=>(h1' j o hj).2.1,fun j o hj hn done hcl hw k hk=>?_,h2⟩
  have key : ∀ (j:Nat) (o:Oper),l[j]? = some o→(∀ e∈o.after,Region.binds .any e=true→done e.on=true)→∀ k,(ms.getD j 0).testBit k=true→done k=true:=by
    intro j
    induction j using Nat.strongRecOn with
    | _ j ih =>
      intro o ho hw k hk
      rw [(h1' j o ho).2.2.1] at hk
      rcases maskOf_bit ms k _ _ hk with h | ⟨e,he,hb,hk⟩
      · simp at h
      · have hem:=Array.mem_toList_iff.1 he
        have hlt:=(h1' j o ho).2.1 e hem hb
        rcases hk with rfl | hk
        · exact hw e hem hb
        · have hjl:=(List.getElem?_eq_some_iff.1 ho).1
          have hoe:l[e.on]? = some l[e.on]:=by simp [show e.on<l.length by omega]
          exact ih _ hlt _ hoe (hcl _ _ hoe (hw e hem hb)) k hk
  exact key j o hj hw k (by rw [(h1' j o hj).2.2.2 hn,Nat.testBit_two_pow_sub_one];simpa using hk)
/-- from where all ahead of j have come up, and none else, the rest comes up in the text's order -/
theorem go_tailT {l:List Oper} {n:Nat} (ok:OkT l n) : ∀ (fuel j t:Nat) (listed:Array Bool),listed.size=l.length→n≤j→j+fuel=l.length→(∀ k,k<l.length→listed.getD k true=decide (k<j)) →
    Region.linearise.go .any l.toArray fuel t listed []=List.range' j fuel
  | 0,j,t,listed,_,_,_,_=>by simp [Region.linearise.go]
  | fuel+1,j,t,listed,hsz,hn,hf,hl=>by
    have hjl:j<l.length:=by omega
    have hlf : ∀ k,k<l.length→listed.getD k false=decide (k<j):=by
      intro k hk
      have:=hl k hk
      simp [hsz,hk] at this ⊢
      exact this
    have hr:Region.ready .any l.toArray listed=[j]:=by
      have hmem : ∀ q,q∈Region.ready .any l.toArray listed↔q=j:=by
        intro q
        rw [mem_ready' hsz]
        constructor
        · rintro ⟨o,ho,h1,h2⟩
          have hq:q<l.length:=(List.getElem?_eq_some_iff.1 ho).1
          have hqj:j≤q:=by have:=hl q hq;rw [h1] at this;simpa using this.symm
          rcases Nat.lt_or_ge j q with hlt | hge
          · have h3:=ok.tail q o ho (by omega) (fun k=>listed.getD k false) (fun a o' ha hd e he hb=>by
              have hal:=(List.getElem?_eq_some_iff.1 ha).1
              have h5:=ok.before a o' ha e he hb
              rw [hlf a hal] at hd
              simp only [decide_eq_true_eq] at hd
              rw [hlf _ (by omega)]
              simp;omega) h2 j hlt
            rw [hlf _ hjl] at h3
            simp at h3
          · omega
        · rintro rfl
          refine ⟨l[q],by simp [hjl],by rw [hl q hjl];simp,fun e he hb=>?_⟩
          have:=ok.before q l[q] (by simp [hjl]) e he hb
          rw [hlf _ (by omega)]
          simpa using this
      have hnd:(Region.ready .any l.toArray listed).Nodup:=by
        unfold Region.ready
        exact List.Pairwise.filter _ List.nodup_range
      have h1:j∈Region.ready .any l.toArray listed:=(hmem j).2 rfl
      cases hc:Region.ready .any l.toArray listed with
      | nil=>rw [hc] at h1;cases h1
      | cons a rest =>
        have ha:a=j:=(hmem a).1 (by rw [hc];simp)
        cases rest with
        | nil=>rw [ha]
        | cons b bs =>
          have hb:b=j:=(hmem b).1 (by rw [hc];simp)
          rw [hc,ha,hb] at hnd
          simp at hnd
    rw [Region.linearise.go]
    change (match (Region.ready .any l.toArray listed)[t % (Region.ready .any l.toArray listed).length]? with
      | some q=>Region.linearise.go .any l.toArray fuel (t / (Region.ready .any l.toArray listed).length) (listed.setIfInBounds q true) [q]
      | none=>[].reverse)=_
    rw [hr]
    simp only [List.length_cons,List.length_nil,Nat.zero_add,Nat.mod_one,List.getElem?_cons_zero]
    rw [linearise_go_acc,go_tailT ok fuel (j+1) _ _ (by simp [hsz]) (by omega) (by omega)]
    · simp [List.range'_succ]
    · intro k hk
      by_cases e:j=k
      · subst e;simp [hsz,hk]
      · have:=hl k hk
        simp [hsz,hk,e] at this ⊢
        rw [this]
        rw [Bool.eq_iff_iff]
        simp
        omega
theorem nodup_dst {l:List Oper} {n:Nat} (hnodup:((l.take n).filterMap (·.dst)).Nodup) {j k:Nat} {d:Tmp} (hj:j<n) (hk:k<n) (h1:slot l j=some d) (h2:slot l k=some d):j=k:=by
  have key : ∀ (q:List Oper),(q.filterMap (·.dst)).Nodup→∀ a b:Nat,(q[a]?).bind (·.dst)=some d→(q[b]?).bind (·.dst)=some d→a=b:=by
    intro q
    induction q with
    | nil=>intro _ a b ha;simp at ha
    | cons x q ih =>
      intro hnd a b ha hb
      have hmem : ∀ c:Nat,(q[c]?).bind (·.dst)=some d→d∈q.filterMap (·.dst):=by
        intro c hc
        cases hx:q[c]? with
        | none=>simp [hx] at hc
        | some y=>exact List.mem_filterMap.2 ⟨y,List.mem_of_getElem? hx,by simpa [hx] using hc⟩
      cases hxd:x.dst with
      | none =>
        rw [List.filterMap_cons_none hxd] at hnd
        cases a with
        | zero=>simp [hxd] at ha
        | succ a =>
          cases b with
          | zero=>simp [hxd] at hb
          | succ b=>rw [ih hnd a b (by simpa using ha) (by simpa using hb)]
      | some e =>
        rw [List.filterMap_cons_some hxd] at hnd
        obtain ⟨hne,hnd⟩:=List.nodup_cons.1 hnd
        cases a with
        | zero =>
          simp [hxd] at ha
          subst ha
          cases b with
          | zero=>rfl
          | succ b=>exact absurd (hmem b (by simpa using hb)) hne
        | succ a =>
          cases b with
          | zero =>
            simp [hxd] at hb
            subst hb
            exact absurd (hmem a (by simpa using ha)) hne
          | succ b=>rw [ih hnd a b (by simpa using ha) (by simpa using hb)]
  refine key (l.take n) hnodup j k ?_ ?_
  · simpa [List.getElem?_take,hj,slot] using h1
  · simpa [List.getElem?_take,hk,slot] using h2
/-- what is asked of one operation, at any time: done: what has been carried out -/
def setd (done:Nat→Bool) (j:Nat):Nat→Bool:=fun k=>Nat.beq k j || done k
def ObG (P:Program) (N:Nat) (l:List Oper) (n:Nat) (W:(Nat→Bool)→Env→World→Prop) (φ:List (Value→World→Prop)) (ρ:Env) (j:Nat) (o:Oper):Prop :=
  ∀ done ρ' w',W done ρ' w'→(∀ s,((l.take n).any fun o=>match o.dst with | some d=>Nat.beq d s | none=>false)=false→ρ' s=ρ s)→(∀ q o',l[q]? = some o'→done q=true→∀ k,vF o' k=true→done k=true)→done j=false→(∀ k,vF o k=true→done k=true) →
    (∀ k,vF o k=true→(φ.getD k (fun _ _=>True)) (got l ρ' k) w') →
    (match o.guard with
     | none=>Does P N o ρ' w' fun v w''=>(∀ k u,(φ.getD k (fun _ _=>True)) u w'→(φ.getD k (fun _ _=>True)) u w'')∧φ.getD j (fun _ _=>True) (outv o v) w''∧W (setd done j) (updo ρ' o.dst v) w''
     | some (g,want)=>(∃ b,got l ρ' g = .bool b∧(slot l g).isSome=true∧((slot l g).all (Nat.blt · N))=true∧(b=want→Does P N o ρ' w' fun v w''=>(∀ k u,(φ.getD k (fun _ _=>True)) u w'→(φ.getD k (fun _ _=>True)) u w'')∧φ.getD j (fun _ _=>True) (outv o v) w''∧W (setd done j) (updo ρ' o.dst v) w'')∧(b = !want→φ.getD j (fun _ _=>True) undef w'∧W (setd done j) (updo ρ' o.dst undef) w'))∨(got l ρ' g=undef∧φ.getD j (fun _ _=>True) undef w'∧W (setd done j) (updo ρ' o.dst undef) w'))
def ObsG (P:Program) (N:Nat) (l:List Oper) (n:Nat) (W:(Nat→Bool)→Env→World→Prop) (φ:List (Value→World→Prop)) (ρ:Env):Nat→List Oper→Prop
  | _,[]=>True
  | j,o :: rest=>ObG P N l n W φ ρ j o∧ObsG P N l n W φ ρ (j+1) rest
theorem ObsG.get {l:List Oper} {n:Nat} {W:(Nat→Bool)→Env→World→Prop} {φ:List (Value→World→Prop)} {ρ:Env} : ∀ {q:List Oper} {j:Nat},ObsG P N l n W φ ρ j q→∀ k o,q[k]? = some o→ObG P N l n W φ ρ (j+k) o
  | [],_,_,k,o,hk=>by simp at hk
  | a :: q,j,h,0,o,hk=>by simp at hk;subst hk;exact h.1
  | a :: q,j,h,k+1,o,hk=>by
    have:=ObsG.get h.2 k o (by simpa using hk)
    rwa [show j+(k+1)=j+1+k by omega]
theorem dst_uniqueT {l:List Oper} {n:Nat} (ok:OkT l n) {j k:Nat} {d:Tmp} (hj:j<n) (hk:k<n) (h1:slot l j=some d) (h2:slot l k=some d):j=k :=
  nodup_dst ok.nodup hj hk h1 h2
theorem waitsFor_of {o:Oper} {e:Edge} (he:e∈o.after) (hb:Region.binds .any e=true):vF o e.on=true:=by
  simp only [vF,List.any_eq_true,Bool.and_eq_true]
  exact ⟨e,Array.mem_toList_iff.2 he,hb,by simp⟩
theorem setd_listed {listed:Array Bool} {j:Nat} (h:j<listed.size):(fun k=>(listed.setIfInBounds j true).getD k false)=setd (fun k=>listed.getD k false) j:=by
  funext k
  unfold setd
  by_cases e:k=j
  · subst e;simp [h]
  · have hb:Nat.beq k j=false:=by
      cases hb:Nat.beq k j
      · rfl
      · exact absurd (Nat.eq_of_beq_eq_true hb) e
    rw [hb]
    simp [Array.getElem?_setIfInBounds_ne (Ne.symm e)]
/-- **A REGION THAT DRAWS ITS ORDER**, with W: what has turned by then -/
theorem Wp.drawnW {id:Nat} {l:List Oper} {Q:Post} {ds:List Deferred} {ρ:Env} {w:World} (n:Nat) (ms:List Nat) (φ:List (Value→World→Prop)) (W:(Nat→Bool)→Env→World→Prop)
    (hm:P.follows .mixedOrders=true) (hok:okT ms l n=true) (hW : ∀ w',Keep Nm w w'→W (fun _=>false) ρ w') (hobs:ObsG P N l n W φ ρ 0 (l.take n))
    (hn:Nat.ble n l.length=true) (hend : ∀ ρ' w',W (fun k=>Nat.blt k n) ρ' w'→(∀ s,((l.take n).any fun o=>match o.dst with | some d=>Nat.beq d s | none=>false)=false→ρ' s=ρ s)→(∀ k,k<(l.take n).length→(φ.getD k (fun _ _=>True)) (got l ρ' k) w') →
      Ro P N r l.toArray (l.drop n) Q ds ρ' w'):Wp P N r (.region id l.toArray true) Q ds ρ w:=by
  have ok:=okT_spec hok
  have hn':n≤l.length:=by simpa using hn
  refine wpIn_region_draw fun t=>?_
  simp only [Region.schedule,hm,Bool.true_or,if_true]
  -- the invariant
  have key : ∀ (fuel t:Nat) (listed:Array Bool) (ρ':Env) (w':World),listed.size=l.length →
      (∀ k,n≤k→k<l.length→listed.getD k true=false) →
      ((List.range l.length).countP fun k=>!listed.getD k true)=fuel →
      W (fun k=>listed.getD k false) ρ' w'→(∀ q o',l[q]? = some o'→listed.getD q false=true→∀ k,vF o' k=true→listed.getD k false=true)→(∀ s,((l.take n).any fun o=>match o.dst with | some d=>Nat.beq d s | none=>false)=false→ρ' s=ρ s) →
      (∀ k,k<n→k<l.length→listed.getD k true=true→(φ.getD k (fun _ _=>True)) (got l ρ' k) w') →
      wpOpsIn (FW r) 0 P l.toArray (lift N Q) (Region.linearise.go .any l.toArray fuel t listed []) (act N ds ρ') w':=by
    intro fuel
    induction fuel with
    | zero =>
      intro t listed ρ' w' hsz htail hcount hk hcl hU hφl
      have hall : ∀ k,k<l.length→listed.getD k true=true:=by
        intro k hk
        rw [List.countP_eq_zero] at hcount
        have:=hcount k (by simpa using hk)
        simpa using this
      have hnl:l.length≤n:=by
        rcases Nat.lt_or_ge n l.length with h | h
        · have h1:=htail n (Nat.le_refl _) h
          rw [hall n h] at h1
          cases h1
        · exact h
      have hdone:(fun k=>listed.getD k false)=fun k=>Nat.blt k n:=by
        funext k
        by_cases h:k<l.length
        · have h1:=hall k h
          simp [hsz,h] at h1
          rw [blt_dec,decide_eq_true (show k<n by omega)]
          simp [hsz,h,h1]
        · rw [blt_dec,decide_eq_false (show ¬ k<n by omega)]
          simp [hsz,h]
      rw [hdone] at hk
      have:=hend ρ' w' hk hU (fun k hk=>hφl k (by simp at hk;omega) (by simp at hk;omega) (hall k (by simp at hk;omega)))
      rw [List.drop_of_length_le hnl] at this
      simp only [Region.linearise.go,List.reverse_nil]
      exact this [] rfl
    | succ fuel ih =>
      intro t listed ρ' w' hsz htail hcount hk hcl hU hφl
      by_cases hE : ∃ k,k<n∧k<l.length∧listed.getD k true=false
      · -- one of those ahead of n is next
        have hnext : ∀ q∈Region.ready .any l.toArray listed,q<n:=by
          intro q hq
          obtain ⟨o,ho,h1,h2⟩:=(mem_ready' hsz).1 hq
          rcases Nat.lt_or_ge q n with h | h
          · exact h
          · obtain ⟨k,hkn,hkl,hku⟩:=hE
            have h3:=ok.tail q o ho h (fun k=>listed.getD k false) (fun a o' ha hd e he hb=>hcl a o' ha hd _ (waitsFor_of he hb)) h2 k (by omega)
            simp [hsz,hkl] at hku h3
            rw [hku] at h3
            cases h3
        have hne:Region.ready .any l.toArray listed≠[]:=by
          obtain ⟨k,hkn,hkl,hku⟩:=hE
          have hmin : ∃ m,m<l.length∧listed.getD m true=false∧∀ q,q<m→listed.getD q true=true:=by
            obtain ⟨hm1,hm2⟩:=leastOf_spec (p:=fun m=>m<l.length∧listed.getD m true=false) (n:=k) ⟨hkl,hku⟩
            have hspec:=leastOf_spec (p:=fun m=>m<l.length∧listed.getD m true=false) (n:=k) ⟨hkl,hku⟩
            refine ⟨_,hm1.1,hm1.2,fun q hq=>?_⟩
            cases hx:listed.getD q true
            · have:=(leastOf_spec (p:=fun m=>m<l.length∧listed.getD m true=false) (n:=q) ⟨by omega,hx⟩).2
              omega
            · rfl
          obtain ⟨m,hml,hmu,hmin⟩:=hmin
          intro hnil
          have:m∈Region.ready .any l.toArray listed:=by
            rw [mem_ready' hsz]
            refine ⟨l[m],by simp [hml],hmu,fun e he hb=>?_⟩
            have h1:=ok.before m l[m] (by simp [hml]) e he hb
            have h2:=hmin _ h1
            simp [hsz,show e.on<l.length by omega] at h2 ⊢
            exact h2
          rw [hnil] at this
          cases this
        rw [Region.linearise.go]
        change wpOpsIn (FW r) 0 P l.toArray (lift N Q) (match (Region.ready .any l.toArray listed)[t % (Region.ready .any l.toArray listed).length]? with
          | some q=>Region.linearise.go .any l.toArray fuel (t / (Region.ready .any l.toArray listed).length) (listed.setIfInBounds q true) [q]
          | none=>[].reverse) (act N ds ρ') w'
        have hpos:0<(Region.ready .any l.toArray listed).length:=by
          cases hc:Region.ready .any l.toArray listed with
          | nil=>exact absurd hc hne
          | cons a rest=>simp
        have hlt:=Nat.mod_lt t hpos
        rw [List.getElem?_eq_getElem hlt]
        generalize hj:(Region.ready .any l.toArray listed)[t % (Region.ready .any l.toArray listed).length]=j
        have hjm:j∈Region.ready .any l.toArray listed:=by rw [← hj];exact List.getElem_mem _
        have hjn:=hnext j hjm
        obtain ⟨o,ho,hju,hjw⟩:=(mem_ready' hsz).1 hjm
        have hjl:j<l.length:=(List.getElem?_eq_some_iff.1 ho).1
        simp only []
        rw [linearise_go_acc,List.reverse_singleton,List.singleton_append]
        have hob:ObG P N l n W φ ρ j o:=by
          have:=ObsG.get hobs j o (by rw [List.getElem?_take];simp [hjn,ho])
          simpa using this
        have hslot:slot l j=o.dst:=by simp [slot,ho]
        have hgets : ∀ k,vF o k=true→(φ.getD k (fun _ _=>True)) (got l ρ' k) w':=by
          intro k hk'
          obtain ⟨e,he,hb,rfl⟩:=waitsFor_spec hk'
          have h1:=ok.before j o ho e he hb
          have h2:=hjw e he hb
          refine hφl _ (by omega) (by omega) ?_
          simp [hsz,show e.on<l.length by omega] at h2 ⊢
          exact h2
        have hjf:listed.getD j false=false:=by
          simpa [hsz,hjl] using hju
        have hwt : ∀ k,vF o k=true→listed.getD k false=true:=by
          intro k hk'
          obtain ⟨e,he,hb,rfl⟩:=waitsFor_spec hk'
          exact hjw e he hb
        have hO:=hob (fun k=>listed.getD k false) ρ' w' hk hU hcl hjf hwt hgets
        -- what is so behind it
        have hcnt:((List.range l.length).countP fun k=>!(listed.setIfInBounds j true).getD k true)=fuel:=by
          have e1:(List.range l.length).countP (fun k=>!listed.getD k true)=(List.range l.length).countP (fun k=>!(listed.setIfInBounds j true).getD k true)+1:=by
            have hsplit : ∀ (q:List Nat),q.Nodup→j∈q→(∀ x∈q,x<l.length)→q.countP (fun k=>!listed.getD k true)=q.countP (fun k=>!(listed.setIfInBounds j true).getD k true)+1:=by
              intro q
              induction q with
              | nil=>intro _ h;cases h
              | cons x q ihq =>
                intro hnd hmem hlt
                obtain ⟨hx,hnd⟩:=List.nodup_cons.1 hnd
                have hsame : ∀ y,y≠j→(listed.setIfInBounds j true).getD y true=listed.getD y true:=by
                  intro y hy
                  simp [Array.getElem?_setIfInBounds_ne (Ne.symm hy)]
                rw [List.countP_cons,List.countP_cons]
                rcases List.mem_cons.1 hmem with rfl | hmem
                · have hq:q.countP (fun k=>!listed.getD k true)=q.countP (fun k=>!(listed.setIfInBounds j true).getD k true):=by
                    apply List.countP_congr
                    intro y hy
                    rw [hsame y (fun e=>hx (e ▸ hy))]
                  have hset:(listed.setIfInBounds j true).getD j true=true:=by simp [hsz,hjl]
                  rw [hq,hju,hset]
                  simp
                · have hxj:x≠j:=fun e=>hx (e ▸ hmem)
                  rw [ihq hnd hmem (fun y hy=>hlt y (by simp [hy])),hsame x hxj]
                  omega
            exact hsplit _ List.nodup_range (by simpa using hjl) (by simp)
          omega
        have next : ∀ v w'',(∀ k u,(φ.getD k (fun _ _=>True)) u w'→(φ.getD k (fun _ _=>True)) u w'')→(φ.getD j (fun _ _=>True)) (outv o v) w''→W (setd (fun k=>listed.getD k false) j) (updo ρ' o.dst v) w'' →
            wpOpsIn (FW r) 0 P l.toArray (lift N Q) (Region.linearise.go .any l.toArray fuel (t / (Region.ready .any l.toArray listed).length) (listed.setIfInBounds j true) []) (act N ds (updo ρ' o.dst v)) w'':=by
          intro v w'' hk'' hφj hWj
          refine ih _ _ _ _ (by simp [hsz]) (fun k hk1 hk2=>?_) hcnt (by rw [setd_listed (by omega)];exact hWj) (fun q o' hq hd k hk'=>?_) (fun s hs=>?_) (fun k hk1 hk2 hk3=>?_)
          · have:=htail k hk1 hk2
            have hne:j≠k:=by omega
            simp [Array.getElem?_setIfInBounds_ne hne] at this ⊢
            exact this
          · have hset : ∀ y,(listed.setIfInBounds j true).getD y false=(Nat.beq y j || listed.getD y false):=fun y=>congrFun (setd_listed (listed:=listed) (j:=j) (by omega)) y
            rw [hset] at hd ⊢
            rw [Bool.or_eq_true] at hd ⊢
            rcases hd with hd | hd
            · have:=Nat.eq_of_beq_eq_true hd
              subst this
              rw [ho] at hq;cases hq
              exact .inr (hwt k hk')
            · exact .inr (hcl q o' hq hd k hk')
          · rw [updo_other]
            · exact hU s hs
            · intro e
              rw [List.any_eq_false] at hs
              have:=hs o (List.mem_of_getElem? (i:=j) (by rw [List.getElem?_take];simp [hjn,ho]))
              rw [e] at this
              simp at this
          · by_cases e:k=j
            · subst e
              have hg:got l (updo ρ' o.dst v) k=outv o v:=by
                unfold got outv
                rw [hslot]
                cases o.dst with
                | none=>rfl
                | some d=>simp [updo,upd_self]
              rw [hg]
              exact hφj
            · have hkl:listed.getD k true=true:=by
                have hne:j≠k:=fun h=>e h.symm
                simp [Array.getElem?_setIfInBounds_ne hne] at hk3 ⊢
                exact hk3
              have h1:=hk'' k _ (hφl k hk1 hk2 hkl)
              have hg:got l (updo ρ' o.dst v) k=got l ρ' k:=by
                unfold got
                cases hs:slot l k with
                | none=>rfl
                | some d =>
                  simp only
                  rw [updo_other]
                  intro e'
                  exact e (dst_uniqueT ok hk1 hjn hs (by rw [hslot];exact e'))
              rw [hg]
              exact h1
        have hoA:l.toArray[j]? = some o:=by simpa using ho
        simp only [wpOpsIn,hoA]
        cases hgd:o.guard with
        | none =>
          rw [hgd] at hO
          have hw:Region.wanted o (yielded l.toArray (act N ds ρ').tmps)=true:=by simp [Region.wanted,hgd]
          simp only [hw,if_true]
          exact Does.wpIn (ok.calm j o ho) hO fun v w'' ⟨h1,h2,h3⟩=>next v w'' h1 h2 h3
        | some gw =>
          obtain ⟨g,want⟩:=gw
          rw [hgd] at hO
          rcases hO with ⟨b,hb,hsome,hN,hyes,hno⟩ | ⟨hund,hno,hno2⟩
          case inr =>
            have hw:Region.wanted o (yielded l.toArray (act N ds ρ').tmps)=false:=by
              have:=yielded_undef (N:=N) (ds:=ds) hund
              cases want <;>simp_all [Region.wanted]
            simp only [hw,Bool.false_eq_true,if_false]
            refine ⟨fun _ _=>trivial,?_⟩
            rw [put_act]
            exact next undef w' (fun _ _ h=>h) (by unfold outv;cases o.dst <;>exact hno) hno2
          obtain ⟨d,hd⟩:=Option.isSome_iff_exists.1 hsome
          have hyd:yielded l.toArray (act N ds ρ').tmps g=some b:=by
            refine yielded_act (d:=d) (by simpa [slot] using hd) (by simpa [hd] using hN) ?_
            simpa [got,hd] using hb
          by_cases hbw:b=want
          · have hw:Region.wanted o (yielded l.toArray (act N ds ρ').tmps)=true:=by simp [Region.wanted,hgd,hyd,hbw]
            simp only [hw,if_true]
            exact Does.wpIn (ok.calm j o ho) (hyes hbw) fun v w'' ⟨h1,h2,h3⟩=>next v w'' h1 h2 h3
          · have hw:Region.wanted o (yielded l.toArray (act N ds ρ').tmps)=false:=by simp [Region.wanted,hgd,hyd,hbw]
            simp only [hw,Bool.false_eq_true,if_false]
            refine ⟨fun _ _=>trivial,?_⟩
            rw [put_act]
            obtain ⟨hn1,hn2⟩:=hno (by cases b <;>cases want <;>simp_all)
            exact next undef w' (fun _ _ h=>h) (by unfold outv;cases o.dst <;>exact hn1) hn2
      · -- the tail
        have hall : ∀ k,k<n→k<l.length→listed.getD k true=true:=by
          intro k h1 h2
          cases hx:listed.getD k true
          · exact absurd ⟨k,h1,h2,hx⟩ hE
          · rfl
        have hnl:n≤l.length:=by
          rcases Nat.lt_or_ge l.length n with h | h
          · exfalso
            have:(List.range l.length).countP (fun k=>!listed.getD k true)=0:=by
              rw [List.countP_eq_zero]
              intro k hk
              simp only [List.mem_range] at hk
              rw [hall k (by omega) hk]
              simp
            omega
          · exact h
        have hl : ∀ k,k<l.length→listed.getD k true=decide (k<n):=by
          intro k hk
          rcases Nat.lt_or_ge k n with h | h
          · rw [hall k h hk];simp [h]
          · rw [htail k h hk];simp;omega
        have hf:n+(fuel+1)=l.length:=by
          have hc:(List.range l.length).countP (fun k=>!listed.getD k true)=l.length-n:=by
            have:(List.range l.length).countP (fun k=>!listed.getD k true)=(List.range l.length).countP (fun k=>decide (n≤k)):=by
              apply List.countP_congr
              intro k hk
              simp only [List.mem_range] at hk
              rw [hl k hk]
              simp
            rw [this]
            have hr:List.range l.length=List.range n++List.range' n (l.length-n):=by
              have h:List.range' 0 n 1++List.range' (0+1*n) (l.length-n) 1=List.range' 0 (n+(l.length-n)) 1:=List.range'_append
              rw [show 0+1*n=n by omega,show n+(l.length-n)=l.length by omega] at h
              rw [List.range_eq_range',List.range_eq_range',h]
            rw [hr,List.countP_append]
            have h1:(List.range n).countP (fun k=>decide (n≤k))=0:=by
              rw [List.countP_eq_zero];intro k hk;simp at hk ⊢;omega
            have h2:(List.range' n (l.length-n)).countP (fun k=>decide (n≤k))=(List.range' n (l.length-n)).length:=by
              rw [List.countP_eq_length];intro k hk;simp [List.mem_range'_1] at hk ⊢;omega
            rw [h1,h2]
            simp
          omega
        have hdone:(fun k=>listed.getD k false)=fun k=>Nat.blt k n:=by
          funext k
          by_cases h:k<l.length
          · have h1:=hl k h
            simp [hsz,h] at h1
            rw [blt_dec]
            simp [hsz,h,h1]
          · rw [blt_dec,decide_eq_false (show ¬ k<n by omega)]
            simp [hsz,h]
        rw [hdone] at hk
        rw [go_tailT ok (fuel+1) n t listed hsz (Nat.le_refl _) hf hl]
        refine hend ρ' w' hk hU (fun k hk=>hφl k (by simp at hk;omega) (by simp at hk;omega) (hall k (by simp at hk;omega) (by simp at hk;omega))) _ ?_
        apply List.ext_getElem?
        intro q
        by_cases hq:q<fuel+1
        · simp [hq,List.getElem?_drop,show n+q<l.length by omega]
        · simp [hq,List.getElem?_drop,show l.length≤n+q by omega]
  have hnone : ∀ k,(Array.replicate l.length false).getD k false=false:=by
    intro k
    by_cases h:k<l.length <;>simp [h]
  refine key l.length t _ ρ w.drew (by simp) (fun k _ hk=>by simp [hk]) ?_ (by have:=hW _ (keep_drew w);rwa [show (fun k=>(Array.replicate l.toArray.size false).getD k false)=fun _=>false from funext fun k=>by simpa using hnone k]) (fun q o' _ hd=>by have:=hnone q;simp at hd this;simp_all) (fun _ _=>rfl) (fun k _ hk h=>by simp [hk] at h)
  rw [List.countP_eq_length.2]
  · simp
  · intro k hk
    simp only [List.mem_range] at hk
    simp [hk]
end Go.Mw
namespace Go.Mw
open Go.RowKit
variable {P : Program} {N : Nat} {r : Option Nat} {M : Nat → Prop} {w0 : World} {L : List (Nat × Obj)}
theorem S.perm {L':List (Nat×Obj)} {w:World} (h:S M w0 L w) (hp:L.Perm L'):S M w0 L' w :=
  ⟨h.keep,fun p hm=>h.own p (hp.mem_iff.2 hm),(hp.pairwise_iff (fun h=>Ne.symm h)).1 h.dist,fun p hm=>h.fresh p (hp.mem_iff.2 hm)⟩
theorem S.mid {X:List (Nat×Obj)} {q:Nat×Obj} {w:World} (h:S M w0 (q :: (X++L)) w):S M w0 (X++([q]++L)) w :=
  h.perm List.perm_middle.symm
theorem S.part {X:List (Nat×Obj)} {w:World} (h:S M w0 (X++L) w):S M w0 L w :=
  h.sub _ (fun _ hp=>List.mem_append_right _ hp) (h.dist.sublist (List.sublist_append_right _ _))
section
variable {o : Oper} {ρ : Env} {w : World} {K : Value → World → Prop}
theorem S.newK (H:S M w0 L w) {t:TypeId} {z:Value} {l:List Value} (ho:o.op = .alloc t) (hz:ZV P t z) (hc:z.cells=l.toArray)
    (hk : ∀ b w',Keep Nm w w'→S M w0 ((b,.cells l.toArray t (0,0)) :: L) w'→K (p b 0) w'):Does P N o ρ w K :=
  d_alloc ho hz (by rw [hc];exact hk _ _ (keep_alloc _ _) (H.alloc _))
/-- a row of values that is laid anew -/
theorem d_row {t e n:Nat} {ps:List (Nat×Operand)} {vs:List (Nat×Value)} {cs:List Value} (ho:o.op = .buildSlice t n ps.toArray) (hp:ps.map (fun q=>(q.1,ev N ρ q.2))=vs)
    (h : ∀ w,(Instr.buildSlice t n vs.toArray).run P w = .ok (.slice (some ⟨w.heap.size,0,none⟩) n n) (w.alloc (.cells cs.toArray e)))
    (hk : ∀ b w',Keep Nm w w'→Cells w' b 0 cs→K (.slice (some ⟨b,0,none⟩) n n) w'):Does P N o ρ w K :=
  S.row (S.start Nm w) ho hp h fun b w' H=>hk b w' H.keep (H.cells 0 rfl)
end
def Mono (φ:List (Value→World→Prop)):Prop:=∀ k v w' w'',Keep Nm w' w''→(φ.getD k (fun _ _=>True)) v w'→(φ.getD k (fun _ _=>True)) v w''
theorem Mono.nil:Mono []:=fun _ _ _ _ _ h=>h
theorem Mono.cons {φ:List (Value→World→Prop)} {f:Value→World→Prop} (h : ∀ v w' w'',Keep Nm w' w''→f v w'→f v w'') (hm:Mono φ):Mono (f :: φ)
  | 0,v,w',w'',k,hf=>h v w' w'' k hf
  | j+1,v,w',w'',k,hf=>hm j v w' w'' k hf
theorem Mono.c {φ:List (Value→World→Prop)} {f:Value→Prop} (hm:Mono φ):Mono ((fun v _=>f v) :: φ):=Mono.cons (fun _ _ _ _ h=>h) hm
theorem Mono.row {φ:List (Value→World→Prop)} {n:Nat} {xs:List Value} (hm:Mono φ):Mono ((fun v w=>∃ b,v = .slice (some ⟨b,0,none⟩) n n∧Cells w b 0 xs) :: φ) :=
  Mono.cons (fun _ _ _ k ⟨b,h1,h2⟩=>⟨b,h1,h2.ext k⟩) hm
section
variable {o : Oper} {ρ : Env} {w : World} {l : List Oper} {n : Nat} {B : World → Prop} {φ : List (Value → World → Prop)} {j : Nat} {W : (Nat → Bool) → Env → World → Prop}
abbrev Uns (l:List Oper) (n:Nat) (ρ ρ':Env):Prop:=∀ s,((l.take n).any fun o=>match o.dst with | some d=>Nat.beq d s | none=>false)=false→ρ' s=ρ s
abbrev Fs (φ:List (Value→World→Prop)) (l:List Oper) (o:Oper) (ρ':Env) (w':World):Prop:=∀ k,vF o k=true→(φ.getD k (fun _ _=>True)) (got l ρ' k) w'
theorem Ob.mk (hg:o.guard=none) (h : ∀ ρ' w',B w'→Uns l n ρ ρ'→Fs φ l o ρ' w'→Does P N o ρ' w' fun v w''=>Keep Nm w' w''∧φ.getD j (fun _ _=>True) (outv o v) w''):Ob P N l n B φ ρ j o:=by
  intro ρ' w' hB hU hD
  rw [hg]
  exact h ρ' w' hB hU hD
/-- guarded: C: what makes the guard's own operation run, g: what it gives -/
theorem Ob.gd {gj:Nat} {want:Bool} {C:Prop} {g:Bool} (hg:o.guard=some (gj,want)) (hs:((slot l gj).any (Nat.blt · N))=true)
    (hgot : ∀ ρ' w',Uns l n ρ ρ'→Fs φ l o ρ' w'→(C→got l ρ' gj = .bool g)∧(¬ C→got l ρ' gj=undef))
    (hno : ∀ w',(¬ C∨g = !want)→φ.getD j (fun _ _=>True) undef w')
    (h : ∀ ρ' w',B w'→Uns l n ρ ρ'→Fs φ l o ρ' w'→C→g=want→Does P N o ρ' w' fun v w''=>Keep Nm w' w''∧φ.getD j (fun _ _=>True) (outv o v) w''):Ob P N l n B φ ρ j o:=by
  intro ρ' w' hB hU hD
  rw [hg]
  obtain ⟨h1,h2⟩:=hgot ρ' w' hU hD
  by_cases hC:C
  · refine .inl ⟨g,h1 hC,?_,?_,fun e=>h ρ' w' hB hU hD hC e,fun e=>hno w' (.inr e)⟩
    · cases hx:slot l gj with
      | none=>rw [hx] at hs;cases hs
      | some d=>rfl
    · cases hx:slot l gj with
      | none=>rw [hx] at hs;cases hs
      | some d=>rw [hx] at hs;exact hs
  · exact .inr ⟨h2 hC,hno w' (.inl hC)⟩
theorem Runs.doesF {v:Value} (h:Runs P N o.op ρ w v) (hv:φ.getD j (fun _ _=>True) (outv o v) w):Does P N o ρ w fun v w''=>Keep Nm w w''∧φ.getD j (fun _ _=>True) (outv o v) w'' :=
  h.does ⟨Keep.refl _ _,hv⟩
theorem ObG.of (h:Ob P N l n B φ ρ j o) (hB : ∀ done ρ' w',W done ρ' w'→B w') (hφ:Mono φ) (hW : ∀ done ρ' w' v w'',W done ρ' w'→Keep Nm w' w''→W (setd done j) (updo ρ' o.dst v) w''):ObG P N l n W φ ρ j o:=by
  intro done ρ' w' hw hU _ _ _ hD
  have:=h ρ' w' (hB _ _ _ hw) hU hD
  have key : ∀ {K:Value→World→Prop},(K=fun v w''=>Keep Nm w' w''∧φ.getD j (fun _ _=>True) (outv o v) w'')→Does P N o ρ' w' K→Does P N o ρ' w' fun v w''=>(∀ k u,(φ.getD k (fun _ _=>True)) u w'→(φ.getD k (fun _ _=>True)) u w'')∧φ.getD j (fun _ _=>True) (outv o v) w''∧W (setd done j) (updo ρ' o.dst v) w'':=by
    rintro K rfl hd
    exact hd.mono fun v w'' ⟨k,hv⟩=>⟨fun q u hq=>hφ q u _ _ k hq,hv,hW _ _ _ _ _ hw k⟩
  cases hg:o.guard with
  | none=>rw [hg] at this;exact key rfl this
  | some gw =>
    obtain ⟨g,want⟩:=gw
    rw [hg] at this
    rcases this with ⟨b,h1,h2,h3,h4,h5⟩ | ⟨h1,h2⟩
    · exact .inl ⟨b,h1,h2,h3,fun e=>key rfl (h4 e),fun e=>⟨h5 e,hW _ _ _ _ _ hw (Keep.refl _ _)⟩⟩
    · exact .inr ⟨h1,h2,hW _ _ _ _ _ hw (Keep.refl _ _)⟩
theorem ObG.to (hB : ∀ done ρ' w',W done ρ' w'→B w') (hφ:Mono φ) (hW : ∀ done ρ' w' v w'',W done ρ' w'→Keep Nm w' w''→W (setd done j) (updo ρ' o.dst v) w'') (h:Ob P N l n B φ ρ j o):ObG P N l n W φ ρ j o:=ObG.of h hB hφ hW
abbrev Closed (l:List Oper) (done:Nat→Bool):Prop:=∀ q o',l[q]? = some o'→done q=true→∀ k,vF o' k=true→done k=true
theorem ObG.sp (hg:o.guard=none) (h : ∀ done ρ' w',W done ρ' w'→Uns l n ρ ρ'→Closed l done→done j=false→(∀ k,vF o k=true→done k=true)→Fs φ l o ρ' w' →
    Does P N o ρ' w' fun v w''=>(∀ k u,(φ.getD k (fun _ _=>True)) u w'→(φ.getD k (fun _ _=>True)) u w'')∧φ.getD j (fun _ _=>True) (outv o v) w''∧W (setd done j) (updo ρ' o.dst v) w''):ObG P N l n W φ ρ j o:=by
  intro done ρ' w' h1 h2 h3 h4 h5 h6
  rw [hg]
  exact h done ρ' w' h1 h2 h3 h4 h5 h6
/-- what waits for the undone is undone -/
theorem nd {done:Nat→Bool} (hc:Closed l done) {q k:Nat} {o':Oper} (hq:l[q]? = some o') (hw:vF o' k=true) (hk:done k=false):done q=false:=by
  cases h:done q
  · rfl
  · rw [hc q o' hq h k hw] at hk;cases hk
end
theorem Obs.toG {l:List Oper} {n:Nat} {ρ:Env} {w:World} {B:World→Prop} {φ:List (Value→World→Prop)} (hB : ∀ w',Keep Nm w w'→B w') (hφ:Mono φ) : ∀ {j:Nat} {q:List Oper},Obs P N l n B φ ρ j q→ObsG P N l n (fun _ _ w'=>Keep Nm w w') φ ρ j q
  | _,[],_=>trivial
  | _,_ :: _,h=>⟨ObG.of h.1 (fun _ _ _ k=>hB _ k) hφ (fun _ _ _ _ _ h k=>h.trans k),Obs.toG hB hφ h.2⟩
/-- a region that draws its order, and turns nothing that was there -/
theorem Wp.drawnS {id:Nat} {l:List Oper} {Q:Post} {ds:List Deferred} {ρ:Env} {w:World} {B:World→Prop} (n:Nat) (ms:List Nat) (φ:List (Value→World→Prop))
    (hm:P.follows .mixedOrders=true) (hok:okT ms l n=true) (hn:Nat.ble n l.length=true) (hφ:Mono φ) (hB : ∀ w',Keep Nm w w'→B w') (hobs:Obs P N l n B φ ρ 0 (l.take n))
    (hend : ∀ ρ' w',Keep Nm w w'→Uns l n ρ ρ'→(∀ k,Nat.blt k (l.take n).length=true→(φ.getD k (fun _ _=>True)) (got l ρ' k) w')→Ro P N r l.toArray (l.drop n) Q ds ρ' w'):Wp P N r (.region id l.toArray true) Q ds ρ w :=
  Wp.drawnW n ms φ (fun _ _ w'=>Keep Nm w w') hm hok (fun _ k=>k) (hobs.toG hB hφ) hn (fun ρ' w' hk hU hD=>hend ρ' w' hk hU fun k hlt=>hD k (by simpa using hlt))
/-- .. with W: what has turned by then -/
theorem Wp.drawnG {id:Nat} {l:List Oper} {Q:Post} {ds:List Deferred} {ρ:Env} {w:World} (n:Nat) (ms:List Nat) (φ:List (Value→World→Prop)) (W:(Nat→Bool)→Env→World→Prop)
    (hm:P.follows .mixedOrders=true) (hok:okT ms l n=true) (hn:Nat.ble n l.length=true) (hW : ∀ w',Keep Nm w w'→W (fun _=>false) ρ w') (hobs:ObsG P N l n W φ ρ 0 (l.take n))
    (hend : ∀ ρ' w',W (fun k=>Nat.blt k n) ρ' w'→Uns l n ρ ρ'→(∀ k,Nat.blt k (l.take n).length=true→(φ.getD k (fun _ _=>True)) (got l ρ' k) w')→Ro P N r l.toArray (l.drop n) Q ds ρ' w'):Wp P N r (.region id l.toArray true) Q ds ρ w :=
  Wp.drawnW n ms φ W hm hok hW hobs hn (fun ρ' w' hk hU hD=>hend ρ' w' hk hU fun k hlt=>hD k (by simpa using hlt))
/-- in the text's order, where guards are not decided -/
theorem Wp.factsS {id:Nat} {l:List Oper} {Q:Post} {ds:List Deferred} {ρ:Env} {w:World} {B:World→Prop} (n:Nat) (φ:List (Value→World→Prop))
    (hok:okDraw l n=true) (hφ:Mono φ) (hB : ∀ w',Keep Nm w w'→B w') (hobs:Obs P N l n B φ ρ 0 (l.take n))
    (hend : ∀ ρ' w',Keep Nm w w'→Uns l n ρ ρ'→(∀ k,Nat.blt k (l.take n).length=true→(φ.getD k (fun _ _=>True)) (got l ρ' k) w')→Ro P N r l.toArray (l.drop n) Q ds ρ' w'):Wp P N r (.region id l.toArray false) Q ds ρ w :=
  Wp.facts n φ B hok hB hφ hobs (fun ρ' w' hk hU hD=>hend ρ' w' hk hU fun k hlt=>hD k (by simpa using hlt))
theorem fix_v {ψ:List (Value→Prop)} {w w':World} : ∀ k u,((liftV ψ).getD k (fun _ _=>True)) u w→((liftV ψ).getD k (fun _ _=>True)) u w':=by
  intro k u h
  rw [liftV_get] at *
  exact h
abbrev is (x:Value):Value→World→Prop:=fun v _=>v=x
def gdv (C:Prop) (x:Value):Value→World→Prop:=fun v _=>(C→v=x)∧(¬ C→v=undef)
theorem gdy {C:Prop} {x v:Value} (h:(C→v=x)∧(¬ C→v=undef)) (hc:C):v=x:=h.1 hc
theorem Mi {φ:List (Value→World→Prop)} {x:Value} (hm:Mono φ):Mono (is x :: φ):=Mono.cons (fun _ _ _ _ h=>h) hm
theorem Mg {φ:List (Value→World→Prop)} {C:Prop} {x:Value} (hm:Mono φ):Mono (gdv C x :: φ):=Mono.cons (fun _ _ _ _ h=>h) hm
section
variable {o : Oper} {ρ : Env} {l : List Oper} {n : Nat} {B : World → Prop} {φ : List (Value → World → Prop)} {j : Nat}
theorem Ob.q {x v:Value} (hg:o.guard=none) (h : ∀ ρ' w',B w'→Uns l n ρ ρ'→Fs φ l o ρ' w'→Runs P N o.op ρ' w' v) (hφ:φ.getD j (fun _ _=>True)=is x) (hv:outv o v=x):Ob P N l n B φ ρ j o :=
  Ob.mk hg fun ρ' w' b u d=>(h ρ' w' b u d).doesF (by rw [hφ];exact hv)
theorem Ob.gr {gj:Nat} {want:Bool} {C:Prop} {g:Bool} {x v:Value} (hg:o.guard=some (gj,want)) (hs:((slot l gj).any (Nat.blt · N))=true)
    (hgot : ∀ ρ' w',Uns l n ρ ρ'→Fs φ l o ρ' w'→(C→got l ρ' gj = .bool g)∧(¬ C→got l ρ' gj=undef))
    (hφ:φ.getD j (fun _ _=>True)=gdv (C∧g=want) x)
    (h : ∀ ρ' w',B w'→Uns l n ρ ρ'→Fs φ l o ρ' w'→C→g=want→Runs P N o.op ρ' w' v) (hv:outv o v=x):Ob P N l n B φ ρ j o:=by
  refine Ob.gd hg hs hgot (fun w' hn=>?_) fun ρ' w' b u d hC hw=>(h ρ' w' b u d hC hw).doesF ?_
  · rw [hφ]
    refine ⟨fun hc=>?_,fun _=>rfl⟩
    rcases hn with hn | hn
    · exact absurd hc.1 hn
    · have:=hc.2;rw [hn] at this;cases want <;>cases this
  · rw [hφ]
    exact ⟨fun _=>hv,fun hn=>absurd ⟨hC,hw⟩ hn⟩
theorem Ob.g0 {gj:Nat} {want:Bool} {g:Bool} {x v:Value} (hg:o.guard=some (gj,want)) (hs:((slot l gj).any (Nat.blt · N))=true)
    (hgot : ∀ ρ' w',Uns l n ρ ρ'→Fs φ l o ρ' w'→got l ρ' gj = .bool g)
    (hφ:φ.getD j (fun _ _=>True)=gdv (True∧g=want) x)
    (h : ∀ ρ' w',B w'→Uns l n ρ ρ'→Fs φ l o ρ' w'→True→g=want→Runs P N o.op ρ' w' v) (hv:outv o v=x):Ob P N l n B φ ρ j o :=
  Ob.gr hg hs (fun ρ' w' u d=>⟨fun _=>hgot ρ' w' u d,fun h=>absurd trivial h⟩) hφ h hv
end
theorem bx:(∀ a b:Bool,((a || b)=true)=(a=true∨b=true))∧(∀ a b:Bool,((a && b)=true)=(a=true∧b=true))∧(∀ a:Bool,((!a)=true)=(a=false)) ∧
    (∀ (p:Prop) [Decidable p],(decide p=true)=p)∧(∀ (p:Prop) [Decidable p],(decide p=false) = ¬ p)∧(∀ a b:Bool,((a || b)=false)=(a=false∧b=false)) ∧
    (∀ a b:Bool,((a && b)=false)=(a=false∨b=false))∧(∀ a:Bool,((!a)=false)=(a=true))∧(∀ a:Bool,(¬ a=true)=(a=false))∧(∀ a:Bool,(¬ a=false)=(a=true)):=by
  refine ⟨?_,?_,?_,?_,?_,?_,fun a b=>by cases a <;>cases b <;>simp,?_,?_,?_⟩ <;>intros <;>simp
end Go.Mw
