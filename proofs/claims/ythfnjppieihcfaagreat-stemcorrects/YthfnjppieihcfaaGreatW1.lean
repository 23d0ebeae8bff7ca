/- Part of the proof: what the last text of this claim imports. -/
import Derived.RangeFuncLeaves
import Derived.RangeFuncRecord
import Derived.RangeFuncCalls
import Derived.Orders
import Derived.Shelf.Abstract
set_option linter.unusedSimpArgs false
set_option linter.unusedVariables false
set_option maxRecDepth 100000
namespace Go.Mw
open Go.RowKit
abbrev Env:=Nat→Value
def upd (ρ:Env) (d:Nat) (v:Value):Env:=fun i=>bif Nat.beq i d then v else ρ i
def updo (ρ:Env):Option Nat→Value→Env
  | some d,v=>upd ρ d v
  | none,_=>ρ
def act (N:Nat) (ds:List Deferred) (ρ:Env):Act:={ tmps:=(Array.range N).map ρ,defers:=ds }
def ev (N:Nat) (ρ:Env):Operand→Value
  | .tmp t=>bif Nat.blt t N then ρ t else undef
  | .const v=>v
  | .global g=>.pointer (some ⟨g,0,none⟩)
  | .func f=>.func (.func f) #[] #[]
theorem eval_act (N:Nat) (ds:List Deferred) (ρ:Env):(act N ds ρ).eval=ev N ρ:=by
  funext x
  cases x with
  | tmp t =>
    unfold ev
    by_cases h:t<N
    · have e:Nat.blt t N=true:=by simpa using h
      simp [Act.eval,act,h,e]
    · have e:Nat.blt t N=false:=by
        cases hb:Nat.blt t N
        · rfl
        · exact absurd (by simpa using hb) h
      simp [Act.eval,act,h,e]
  | _=>rfl
theorem put_act (N:Nat) (ds:List Deferred) (ρ:Env) (dst:Option Tmp) (v:Value):(act N ds ρ).put dst v=act N ds (updo ρ dst v):=by
  cases dst with
  | none=>rfl
  | some d =>
    simp only [Act.put,act,updo]
    congr 1
    apply Array.ext_getElem?
    intro i
    by_cases h:d=i
    · subst h
      by_cases hd:d<N
      · rw [Array.getElem?_setIfInBounds_self_of_lt (by simpa using hd)]
        simp [hd,upd]
      · simp [hd]
    · have hb:Nat.beq i d=false:=by
        cases hb:Nat.beq i d
        · rfl
        · exact absurd (Nat.eq_of_beq_eq_true hb).symm h
      rw [Array.getElem?_setIfInBounds_ne h]
      simp only [Array.getElem?_map]
      by_cases hi:i<N
      · simp [hi,upd,hb]
      · simp [hi]
theorem act_args (N:Nat) (args:Array Value) (h:args.size≤N) :
    ({ tmps:=args++Array.replicate (N-args.size) undef,defers:=[] }:Act)=act N [] (fun i=>args.getD i undef):=by
  unfold act
  congr 1
  apply Array.ext
  · simp;omega
  · intro i h1 h2
    simp only [Array.getElem_map,Array.getElem_range]
    by_cases hi:i<args.size
    · rw [Array.getElem_append_left hi];simp [hi]
    · rw [Array.getElem_append_right (by omega)];simp [hi]
/-- what was there, but for the blocks of M, is as it was -/
structure Keep (M:Nat→Prop) (w w':World):Prop where
  os:w'.os=w.os
  tape:w'.tape=w.tape
  output:w'.output=w.output
  size:w.heap.size≤w'.heap.size
  block : ∀ k,k<w.heap.size→¬ M k→w'.heap[k]? = w.heap[k]?
abbrev Nm:Nat→Prop:=fun _=>False
theorem Keep.refl (M:Nat→Prop) (w:World):Keep M w w:=⟨rfl,rfl,rfl,Nat.le_refl _,fun _ _ _=>rfl⟩
theorem Keep.trans {M:Nat→Prop} {a b c:World} (h:Keep M a b) (k:Keep M b c):Keep M a c :=
  ⟨k.os.trans h.os,k.tape.trans h.tape,k.output.trans h.output,Nat.le_trans h.size k.size,
    fun i hi hm=>(k.block i (Nat.lt_of_lt_of_le hi h.size) hm).trans (h.block i hi hm)⟩
theorem Keep.mono {M M':Nat→Prop} {a b:World} (h:Keep M a b) (hM : ∀ k,k<a.heap.size→M k→M' k):Keep M' a b :=
  ⟨h.os,h.tape,h.output,h.size,fun i hi hm=>h.block i hi (fun hx=>hm (hM i hi hx))⟩
theorem Keep.any {M:Nat→Prop} {a b:World} (h:Keep Nm a b):Keep M a b:=h.mono fun _ _ hx=>hx.elim
/-- what turned was not there at the first -/
theorem Keep.later {M M':Nat→Prop} {a b c:World} (h:Keep M a b) (k:Keep M' b c) (hM : ∀ i,i<a.heap.size→M' i→M i):Keep M a c :=
  ⟨k.os.trans h.os,k.tape.trans h.tape,k.output.trans h.output,Nat.le_trans h.size k.size,
    fun i hi hm=>(k.block i (Nat.lt_of_lt_of_le hi h.size) (fun hx=>hm (hM i hi hx))).trans (h.block i hi hm)⟩
theorem keep_alloc (w:World) (o:Obj):Keep Nm w (w.alloc o):=⟨rfl,rfl,rfl,by simp,fun k hk _=>Below.heap_alloc w o k hk⟩
theorem keep_drew (w:World):Keep Nm w w.drew:=⟨rfl,rfl,rfl,Nat.le_refl _,fun _ _ _=>rfl⟩
theorem Keep.below {w w':World} (h:Keep Nm w w'):Below w.heap.size w w':=⟨h.os,h.tape,h.output,h.size,fun k hk=>h.block k hk (fun h=>h)⟩
theorem heap_new (w:World) (o:Obj):(w.alloc o).heap[w.heap.size]? = some o:=World.alloc_heap_new w o
/-- the blocks that are one's own, and what they hold -/
structure S (M:Nat→Prop) (w0:World) (L:List (Nat×Obj)) (w:World):Prop where
  keep:Keep M w0 w
  own : ∀ p∈L,w.heap[p.1]? = some p.2
  dist:L.Pairwise (fun p q=>p.1≠q.1)
  fresh : ∀ p∈L,w0.heap.size≤p.1∨M p.1
theorem S.start (M:Nat→Prop) (w:World):S M w [] w:=⟨Keep.refl M w,by simp,.nil,by simp⟩
theorem S.lt {M w0 L w} (h:S M w0 L w) {p:Nat×Obj} (hp:p∈L):p.1<w.heap.size:=(Array.getElem?_eq_some_iff.1 (h.own p hp)).1
theorem S.ext {M w0 L w w'} (h:S M w0 L w) (k:Keep Nm w w'):S M w0 L w' :=
  ⟨h.keep.trans k.any,fun p hp=>(k.block p.1 (h.lt hp) (fun h=>h)).trans (h.own p hp),h.dist,h.fresh⟩
theorem S.alloc {M w0 L w} (h:S M w0 L w) (o:Obj):S M w0 ((w.heap.size,o) :: L) (w.alloc o):=by
  refine ⟨h.keep.trans (keep_alloc w o).any,fun p hp=>?_,List.pairwise_cons.2 ⟨fun q hq=>?_,h.dist⟩,fun p hp=>?_⟩
  · rcases List.mem_cons.1 hp with rfl | hp
    · exact heap_new w o
    · exact (Below.heap_alloc w o p.1 (h.lt hp)).trans (h.own p hp)
  · have:=h.lt hq;simp only;omega
  · rcases List.mem_cons.1 hp with rfl | hp
    · exact .inl h.keep.size
    · exact h.fresh p hp
theorem S.tail {M w0 p L w} (h:S M w0 (p :: L) w):S M w0 L w :=
  ⟨h.keep,fun q hq=>h.own q (List.mem_cons_of_mem _ hq),(List.pairwise_cons.1 h.dist).2,fun q hq=>h.fresh q (List.mem_cons_of_mem _ hq)⟩
/-- any part of what is known, in any order -/
theorem S.sub {M w0 L w} (h:S M w0 L w) (L':List (Nat×Obj)) (hs : ∀ p∈L',p∈L) (hd:L'.Pairwise (fun p q=>p.1≠q.1)):S M w0 L' w :=
  ⟨h.keep,fun q hq=>h.own q (hs q hq),hd,fun q hq=>h.fresh q (hs q hq)⟩
theorem S.drop {M w0 L w} (h:S M w0 L w) (n:Nat):S M w0 (L.drop n) w :=
  h.sub _ (fun _ hp=>List.mem_of_mem_drop hp) (h.dist.sublist (List.drop_sublist n L))
/-- a block turns: the heap's block b becomes o -/
def put (w:World) (b:Nat) (o:Obj):World:={ w with heap:=w.heap.setIfInBounds b o }
theorem put_same {w:World} {b:Nat} {o:Obj} (h:b<w.heap.size):(put w b o).heap[b]? = some o:=by simp [put,h]
theorem put_other {w:World} {b k:Nat} {o:Obj} (h:k≠b):(put w b o).heap[k]? = w.heap[k]?:=by
  simp [put,Array.getElem?_setIfInBounds_ne (Ne.symm h)]
theorem put_size (w:World) (b:Nat) (o:Obj):(put w b o).heap.size=w.heap.size:=by simp [put]
theorem S.put {M w0 L w} (h:S M w0 L w) (i:Nat) {b:Nat} {o:Obj} (hi:L[i]? = some (b,o)) (o':Obj):S M w0 (L.set i (b,o')) (put w b o'):=by
  have hmem:(b,o)∈L:=List.mem_of_getElem? hi
  have hlt:b<w.heap.size:=h.lt hmem
  have hil:i<L.length:=(List.getElem?_eq_some_iff.1 hi).1
  have hLi:L[i]=(b,o):=(List.getElem?_eq_some_iff.1 hi).2
  have hkeys:(L.set i (b,o')).map (·.1)=L.map (·.1):=by
    rw [List.map_set]
    apply List.ext_getElem
    · simp
    · intro j h1 h2
      simp only [List.getElem_set,List.getElem_map]
      split
      · rename_i e;subst e;simp [hLi]
      · rfl
  have hother : ∀ p∈L.set i (b,o'),p=(b,o')∨(p∈L∧p.1≠b):=by
    intro p hp
    obtain ⟨j,hj,rfl⟩:=List.getElem_of_mem hp
    rw [List.getElem_set]
    split
    · exact .inl rfl
    · rename_i hne
      refine .inr ⟨List.getElem_mem _,?_⟩
      have hjl:j<L.length:=by simpa using hj
      have hd:=h.dist
      rw [List.pairwise_iff_getElem] at hd
      rcases Nat.lt_or_gt_of_ne hne with hlt' | hgt'
      · have:=hd i j hil hjl hlt';rw [hLi] at this;exact fun e=>this e.symm
      · have:=hd j i hjl hil hgt';rw [hLi] at this;exact this
  refine ⟨⟨h.keep.os,h.keep.tape,h.keep.output,?_,fun k hk hm=>?_⟩,fun p hp=>?_,?_,fun p hp=>?_⟩
  · rw [put_size];exact h.keep.size
  · rw [put_other]
    · exact h.keep.block k hk hm
    · rintro rfl
      rcases h.fresh _ hmem with hf | hf
      · simp only at hf;omega
      · exact hm hf
  · rcases hother p hp with rfl | ⟨hp,hne⟩
    · exact put_same hlt
    · rw [put_other hne];exact h.own p hp
  · have h1:(L.map (·.1)).Pairwise (·≠·):=List.pairwise_map.2 h.dist
    rw [← hkeys] at h1
    exact List.pairwise_map.1 h1
  · rcases hother p hp with rfl | ⟨hp,_⟩
    · exact h.fresh (b,o) hmem
    · exact h.fresh p hp
/-- reading a row of cells -/
def Cells (w:World) (b off:Nat) (xs:List Value):Prop :=
  ∃ cs t fz,w.heap[b]? = some (.cells cs t fz)∧(cs.toList.drop off).take xs.length=xs
theorem Cells.ext {w w' b off xs} (h:Cells w b off xs) (k:Keep Nm w w'):Cells w' b off xs:=by
  obtain ⟨cs,t,fz,hb,hx⟩:=h
  exact ⟨cs,t,fz,(k.block b (Array.getElem?_eq_some_iff.1 hb).1 (fun h=>h)).trans hb,hx⟩
theorem Cells.keep {M:Nat→Prop} {w w' b off xs} (h:Cells w b off xs) (hM : ¬ M b) (k:Keep M w w'):Cells w' b off xs:=by
  obtain ⟨cs,t,fz,hb,hx⟩:=h
  exact ⟨cs,t,fz,(k.block b (Array.getElem?_eq_some_iff.1 hb).1 hM).trans hb,hx⟩
theorem Cells.lt {w b off xs} (h:Cells w b off xs):b<w.heap.size:=by
  obtain ⟨cs,t,fz,hb,hx⟩:=h
  exact (Array.getElem?_eq_some_iff.1 hb).1
theorem S.cells {M w0 L w} (h:S M w0 L w) (i:Nat) {b:Nat} {l:List Value} {t:TypeId} {fz:Nat×Nat} (hi:L[i]? = some (b,.cells l.toArray t fz)):Cells w b 0 l :=
  ⟨_,t,fz,h.own _ (List.mem_of_getElem? hi),by simp⟩
theorem Cells.cell {w b off xs} (h:Cells w b off xs) (j:Nat) {v:Value} (hj:xs[j]? = some v):w.cell? ⟨b,off+j,none⟩=some v:=by
  obtain ⟨cs,t,fz,hb,hx⟩:=h
  have hjl:j<xs.length:=(List.getElem?_eq_some_iff.1 hj).1
  have:(cs.toList.drop off)[j]? = some v:=by
    rw [← hj,← hx,List.getElem?_take]
    simp [hjl]
  rw [List.getElem?_drop] at this
  simp [World.cell?,hb]
  simpa using this
theorem Cells.sub {w b off xs} (h:Cells w b off xs) (j k:Nat) {vs:List Value} (hv:(xs.drop j).take k=vs) (hl:vs.length=k):Cells w b (off+j) vs:=by
  obtain ⟨cs,t,fz,hb,hx⟩:=h
  refine ⟨cs,t,fz,hb,?_⟩
  rw [hl,← hv,← hx,← List.drop_drop,List.drop_take,List.take_take]
  congr 1
  rw [← hx] at hv
  have h1:=congrArg List.length hv
  simp only [List.length_take,List.length_drop] at h1
  omega
end Go.Mw
namespace Go.Mw
open Go.RowKit
variable {P : Program} {N : Nat} {r : Option Nat}
/-- the wide fence, in a round or not -/
def FW (r:Option Nat):Fence:={ Fence.wide with round:=r }
abbrev Post:=Exit→List Deferred→Env→World→Prop
def lift (N:Nat) (Q:Post):Exit→Act→World→Prop:=fun e a w=>∃ ds ρ,a=act N ds ρ∧Q e ds ρ w
def Wp (P:Program) (N:Nat) (r:Option Nat) (c:Code) (Q:Post) (ds:List Deferred) (ρ:Env) (w:World):Prop :=
  c.wpIn (FW r) 0 P (lift N Q) (act N ds ρ) w
def Then (K:List Deferred→Env→World→Prop) (Q:Post):Post
  | .normal,ds,ρ,w=>K ds ρ w
  | e,ds,ρ,w=>Q e ds ρ w
def InBlk (id:Nat) (Q:Post):Post
  | .exit id',ds,ρ,w=>bif Nat.beq id' id then Q .normal ds ρ w else Q (.exit id') ds ρ w
  | e,ds,ρ,w=>Q e ds ρ w
section rules
variable {Q : Post} {ds : List Deferred} {ρ : Env} {w : World}
theorem Wp.mono {c:Code} {Q':Post} (h:Wp P N r c Q ds ρ w) (hq : ∀ e ds ρ w,Q e ds ρ w→Q' e ds ρ w):Wp P N r c Q' ds ρ w :=
  wpIn_mono h fun _ _ _ ⟨ds,ρ,e,q⟩=>⟨ds,ρ,e,hq _ _ _ _ q⟩
theorem Wp.skip (h:Q .normal ds ρ w):Wp P N r .skip Q ds ρ w:=wpIn_skip ⟨ds,ρ,rfl,h⟩
theorem Wp.ret (h:Q .ret ds ρ w):Wp P N r .ret Q ds ρ w:=wpIn_ret ⟨ds,ρ,rfl,h⟩
theorem Wp.exit {id:Nat} (h:Q (.exit id) ds ρ w):Wp P N r (.exit id) Q ds ρ w:=wpIn_exit ⟨ds,ρ,rfl,h⟩
theorem Wp.label {l:Nat} (h:Q .normal ds ρ w):Wp P N r (.label l) Q ds ρ w:=wpIn_label ⟨ds,ρ,rfl,h⟩
theorem Wp.seq {x y:Code} (h:Wp P N r x (Then (Wp P N r y Q) Q) ds ρ w):Wp P N r (.seq x y) Q ds ρ w:=by
  refine wpIn_seq (wpIn_mono h ?_)
  rintro e a w ⟨ds,ρ,rfl,q⟩
  cases e with
  | normal=>exact q
  | _=>exact ⟨ds,ρ,rfl,q⟩
theorem Wp.cond {c:Operand} {x y:Code} {t:Bool} (hc:ev N ρ c = .bool t) (ht:t=true→Wp P N r x Q ds ρ w) (hf:t=false→Wp P N r y Q ds ρ w):Wp P N r (.cond c x y) Q ds ρ w :=
  wpIn_cond_split (t:=t) (by rw [eval_act];exact hc) ht hf
theorem Wp.condT {c:Operand} {x y:Code} (hc:ev N ρ c = .bool true) (ht:Wp P N r x Q ds ρ w):Wp P N r (.cond c x y) Q ds ρ w :=
  Wp.cond hc (fun _=>ht) (fun h=>by cases h)
theorem Wp.condF {c:Operand} {x y:Code} (hc:ev N ρ c = .bool false) (hf:Wp P N r y Q ds ρ w):Wp P N r (.cond c x y) Q ds ρ w :=
  Wp.cond hc (fun h=>by cases h) (fun _=>hf)
theorem Wp.block {id:Nat} {c:Code} (h:Wp P N r c (InBlk id Q) ds ρ w):Wp P N r (.block id c) Q ds ρ w:=by
  refine wpIn_block (wpIn_mono h ?_)
  rintro e a w ⟨ds,ρ,rfl,q⟩
  cases e with
  | exit id' =>
    by_cases e:id'=id
    · subst e
      have hb:Nat.beq id' id'=true:=by simp
      simp only [InBlk,hb,cond_true] at q
      simp only [Exit.inBlock,if_true]
      exact ⟨ds,ρ,rfl,q⟩
    · have hb:Nat.beq id' id=false:=by
        cases hb:Nat.beq id' id
        · rfl
        · exact absurd (Nat.eq_of_beq_eq_true hb) e
      simp only [InBlk,hb,cond_false] at q
      simp only [Exit.inBlock,e,if_false]
      exact ⟨ds,ρ,rfl,q⟩
  | _=>exact ⟨ds,ρ,rfl,q⟩
open Classical in
noncomputable def leastOf (p:Nat→Prop):Nat:=if h : ∃ n,p n∧∀ m,m<n→¬ p m then Classical.choose h else 0
theorem leastOf_spec {p:Nat→Prop} {n:Nat} (hn:p n):p (leastOf p)∧leastOf p≤n:=by
  have hex : ∃ n,p n∧∀ m,m<n→¬ p m:=by
    induction n using Nat.strongRecOn with
    | _ n ih =>
      by_cases h : ∃ m,m<n∧p m
      · obtain ⟨m,hm,hp⟩:=h;exact ih m hm hp
      · exact ⟨n,hn,fun m hm hp=>h ⟨m,hm,hp⟩⟩
  unfold leastOf
  rw [dif_pos hex]
  have hc:=Classical.choose_spec hex
  refine ⟨hc.1,Nat.le_of_not_lt fun hlt=>hc.2 n hlt hn⟩
/-- a loop: the invariant at k, which every round lowers -/
theorem Wp.loop {c:Code} (I:Nat→List Deferred→Env→World→Prop) (k:Nat) (h0:I k ds ρ w)
    (round : ∀ k ds ρ w,I k ds ρ w→Wp P N r c (Then (fun ds' ρ' w'=>∃ k',k'<k∧I k' ds' ρ' w') Q) ds ρ w):Wp P N r (.loop c) Q ds ρ w:=by
  let J:Act→World→Nat→Prop:=fun a w k=>∃ ds ρ,a=act N ds ρ∧I k ds ρ w
  refine wpIn_loop (fun a w=>∃ k,J a w k) (fun a w=>leastOf (J a w)) ⟨k,ds,ρ,rfl,h0⟩ ?_
  rintro a w ⟨k,hk⟩
  obtain ⟨⟨ds,ρ,rfl,hI⟩,_⟩:=leastOf_spec hk
  refine wpIn_mono (round _ ds ρ w hI) ?_
  rintro e a' w' ⟨ds',ρ',rfl,q⟩
  cases e with
  | normal =>
    obtain ⟨k',hlt,hI'⟩:=q
    have hJ:J (act N ds' ρ') w' k':=⟨ds',ρ',rfl,hI'⟩
    exact ⟨⟨k',hJ⟩,Nat.lt_of_le_of_lt (leastOf_spec hJ).2 hlt⟩
  | _=>exact ⟨ds',ρ',rfl,q⟩
end rules
def Does (P:Program) (N:Nat) (o:Oper) (ρ:Env) (w:World) (K:Value→World→Prop):Prop :=
  match (execOp (ev N ρ) o).run P w with
  | .ok (.value v) w'=>K v w'
  | .ok .skip w'=>K undef w'
  | .ok (.enter f args) w'=>Calls P f args w' fun e w''=>∃ v,e = .returned v∧K v w''
  | .ok (.round l f tmps assign body) w'=>RoundIn (FW none) 0 P l f tmps assign body w' fun e w''=>∃ v,e = .returned v∧K v w''
  | _=>False
def noDefer:Op→Bool
  | .defer _=>false
  | _=>true
theorem Does.mono {o:Oper} {ρ:Env} {w:World} {K K':Value→World→Prop} (h:Does P N o ρ w K) (hk : ∀ v w',K v w'→K' v w'):Does P N o ρ w K':=by
  unfold Does at *
  generalize (execOp (ev N ρ) o).run P w=x at *
  cases x with
  | halt h' w'=>exact h
  | ok n w' =>
    cases n <;>simp only at h ⊢
    case value=>exact hk _ _ h
    case skip=>exact hk _ _ h
    case enter=>exact h.mono fun _ _ ⟨v,e,q⟩=>⟨v,e,hk _ _ q⟩
    case round=>exact h.mono fun _ _ ⟨v,e,q⟩=>⟨v,e,hk _ _ q⟩
theorem Does.wpIn {o:Oper} {ds:List Deferred} {ρ:Env} {w:World} {K:Value→World→Prop} {next:Act→World→Prop} {Q:Exit→Act→World→Prop} (hd:noDefer o.op=true)
    (h:Does P N o ρ w K) (hn : ∀ v w',K v w'→next (act N ds (updo ρ o.dst v)) w'):o.wpIn (FW r) 0 P (act N ds ρ) w next Q:=by
  refine ⟨fun _ _=>trivial,?_⟩
  have hs:o.semAt (FW r).round (act N ds ρ).eval=execOp (ev N ρ) o:=by
    rw [eval_act,Oper.semAt_eq]
    intro c hc
    rw [hc] at hd
    cases hd
  rw [hs]
  unfold Does at h
  generalize (execOp (ev N ρ) o).run P w=x at *
  cases x with
  | halt h' w'=>exact h.elim
  | ok n w' =>
    cases n <;>simp only [Oper.uponIn] at h ⊢
    case value=>rw [put_act];exact hn _ _ h
    case skip=>rw [put_act];exact hn _ _ h
    case enter f args =>
      refine ⟨(fun h=>by cases h),?_⟩
      refine ((callsIn_wide (n:=0)).2 h).mono ?_
      rintro e w'' ⟨v,rfl,q⟩
      simp only [put_act]
      exact hn _ _ q
    case round l f tmps assign body =>
      refine ⟨(fun h=>by cases h),?_⟩
      refine RoundIn.mono (show RoundIn (FW r) 0 P l f tmps assign body w' _ from h) ?_
      rintro e w'' ⟨v,rfl,q⟩
      simp only [put_act]
      exact hn _ _ q
def Ro (P:Program) (N:Nat) (r:Option Nat) (ops:Array Oper) (rest:List Oper) (Q:Post) (ds:List Deferred) (ρ:Env) (w:World):Prop :=
  ∀ l:List Nat,l.map (ops[·]?)=rest.map some→wpOpsIn (FW r) 0 P ops (lift N Q) l (act N ds ρ) w
section regions
variable {Q : Post} {ds : List Deferred} {ρ : Env} {w : World} {ops : Array Oper}
theorem Wp.region {id:Nat} {l:List Oper} (h:Ro P N r l.toArray l Q ds ρ w):Wp P N r (.region id l.toArray false) Q ds ρ w:=by
  refine wpIn_region (h _ ?_)
  apply List.ext_getElem?
  intro i
  by_cases hi:i<l.length
  · simp [hi]
  · simp [hi]
theorem Ro.nil (h:Q .normal ds ρ w):Ro P N r ops [] Q ds ρ w:=by
  intro l hl
  have:l=[]:=by simpa using hl
  subst this
  exact ⟨ds,ρ,rfl,h⟩
theorem Ro.cons {o:Oper} {rest:List Oper} (hg:o.guard=none) (hd:noDefer o.op=true) (h:Does P N o ρ w fun v w'=>Ro P N r ops rest Q ds (updo ρ o.dst v) w') :
    Ro P N r ops (o :: rest) Q ds ρ w:=by
  intro l hl
  cases l with
  | nil=>simp at hl
  | cons i l =>
    simp only [List.map_cons,List.cons.injEq] at hl
    simp only [wpOpsIn,hl.1]
    have hw:Region.wanted o (yielded ops (act N ds ρ).tmps)=true:=by simp [Region.wanted,hg]
    simp only [hw,if_true]
    exact h.wpIn hd fun v w' q=>q l hl.2
theorem yielded_act {j d:Nat} {b:Bool} (hj:(ops[j]?).bind (·.dst)=some d) (hN:Nat.blt d N=true) (hb:ρ d = .bool b):yielded ops (act N ds ρ).tmps j=some b:=by
  have hN':d<N:=by simpa using hN
  simp [yielded,hj,act,hN',hb]
theorem Ro.want {o:Oper} {rest:List Oper} {j d:Nat} {b want:Bool} (hg:o.guard=some (j,want)) (hj:(ops[j]?).bind (·.dst)=some d) (hN:Nat.blt d N=true) (hb:ρ d = .bool b) (hd:noDefer o.op=true)
    (h:b=want→Does P N o ρ w fun v w'=>Ro P N r ops rest Q ds (updo ρ o.dst v) w') (h':b = !want→Ro P N r ops rest Q ds (updo ρ o.dst undef) w):Ro P N r ops (o :: rest) Q ds ρ w:=by
  intro l hl
  cases l with
  | nil=>simp at hl
  | cons i l =>
    simp only [List.map_cons,List.cons.injEq] at hl
    simp only [wpOpsIn,hl.1]
    by_cases hbw:b=want
    · have hw:Region.wanted o (yielded ops (act N ds ρ).tmps)=true:=by simp [Region.wanted,hg,yielded_act hj hN hb,hbw]
      simp only [hw,if_true]
      exact (h hbw).wpIn hd fun v w' q=>q l hl.2
    · have hw:Region.wanted o (yielded ops (act N ds ρ).tmps)=false:=by simp [Region.wanted,hg,yielded_act hj hN hb,hbw]
      simp only [hw,Bool.false_eq_true,if_false]
      refine ⟨fun _ _=>trivial,?_⟩
      rw [put_act]
      exact h' (by cases b <;>cases want <;>simp_all) l hl.2
end regions
/-- on the way out: the marks of the loops over functions are taken off -/
def Leave (P:Program) (N:Nat) (fn:Func) (R:Value→World→Prop) (ρ:Env):List Deferred→World→Prop
  | [],w=>∃ v,(results fn (act N [] ρ).tmps).run P w = .ok v w∧R v w
  | d :: ds,w=>∃ D,d.target = .collected D∧w.heap[D]? = some (.deferred (some []))∧Leave P N fn R ρ ds (put w D (.deferred none))
def Body (P:Program) (N:Nat) (fn:Func) (R:Value→World→Prop):Post
  | .normal,ds,ρ,w | .ret,ds,ρ,w=>Leave P N fn R ρ ds w
  | _,_,_,_=>False
theorem Leave.marks {fn:Func} {R:Value→World→Prop} {ρ:Env} {R':Ending→World→Prop} (hR : ∀ v w,R v w→R' (.returned v) w) : ∀ {ds:List Deferred} {w:World},Leave P N fn R ρ ds w →
    LeavesInM (FW none) 0 P fn (act N ds ρ).tmps R' ds .returning w
  | [],w,⟨v,h1,h2⟩=>⟨v,h1,hR v w h2⟩
  | d :: ds,w,⟨D,hd,hD,h⟩=>by
    refine ⟨(fun h=>by cases h),.inl ⟨D,put w D (.deferred none),hd,run_takeDeferred hD,?_⟩⟩
    exact Leave.marks hR h
theorem calls_body {f:FuncId} {fn:Func} {c:Code} {args:Array Value} {w:World} {R:Value→World→Prop} (hf:P.funcs[f]? = some fn) (hb:fn.body=some c) (hN:fn.ntmps=N) (hs:args.size≤N)
    (h:Wp P N none c (Body P N fn R) [] (fun i=>args.getD i undef) w):Calls P f args w fun e w'=>∃ v,e = .returned v∧R v w':=by
  refine (callsIn_wide (n:=0)).1 (callsIn_of_wp_marks (F:=FW none) hf hb trivial ?_)
  rw [hN,act_args N args hs]
  refine wpIn_mono h ?_
  rintro e a w ⟨ds,ρ,rfl,q⟩
  cases e with
  | normal=>exact Leave.marks (R':=fun e w'=>∃ v,e = .returned v∧R v w') (fun v w h=>⟨v,rfl,h⟩) q
  | ret=>exact Leave.marks (R':=fun e w'=>∃ v,e = .returned v∧R v w') (fun v w h=>⟨v,rfl,h⟩) q
  | _=>exact q.elim
/-- WHAT A CALL DOES: it returns; nothing that was there has turned; R of the result and of the memory behind it -/
def Ret (P:Program) (f:FuncId) (args:List Value) (w:World) (R:Value→World→Prop):Prop :=
  Calls P f args.toArray w fun e w'=>∃ v,e = .returned v∧Keep Nm w w'∧R v w'
/-- .. it returns just v -/
def Rv (P:Program) (f:FuncId) (args:List Value) (w:World) (v:Value):Prop:=Ret P f args w fun u _=>u=v
theorem Ret.mono {f:FuncId} {args:List Value} {w:World} {R R':Value→World→Prop} (h:Ret P f args w R) (hr : ∀ v w',Keep Nm w w'→R v w'→R' v w'):Ret P f args w R' :=
  Calls.mono h fun _ _ ⟨v,e,k,q⟩=>⟨v,e,k,hr _ _ k q⟩
theorem Ret.body {f:FuncId} {fn:Func} {c:Code} {args:List Value} {w:World} {R:Value→World→Prop} (hf:P.funcs[f]? = some fn) (hb:fn.body=some c) (hN:fn.ntmps=N) (hs:Nat.ble args.length N=true)
    (h:Wp P N none c (Body P N fn fun v w'=>Keep Nm w w'∧R v w') [] (fun i=>args.getD i undef) w):Ret P f args w R:=by
  refine calls_body hf hb hN (by simpa using hs) ?_
  have:(fun i=>args.toArray.getD i undef)=fun i=>args.getD i undef:=by
    funext i
    simp [List.getD]
  rw [this]
  exact h
end Go.Mw
