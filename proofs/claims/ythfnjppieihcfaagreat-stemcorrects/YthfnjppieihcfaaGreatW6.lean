/- Part of the proof: what the last text of this claim imports. -/
import Derived.Test.YthfnjppieihcfaaGreatW5
import Derived.Maps.RangeRun
import Derived.DeepKeys4
set_option linter.unusedSimpArgs false
set_option linter.unusedVariables false
set_option maxRecDepth 100000
namespace Go.Mw
open Go.RowKit
variable {P : Program} {N : Nat} {r : Option Nat} {M : Nat → Prop} {w0 : World} {L : List (Nat × Obj)}
/-- a type of keys, and which values of it come up -/
structure KeyT (P:Program) (k:TypeId) (C:Value→Prop):Prop where
  check : ∀ (w:World) (em:Bool) {v:Value},C v→(Instr.checkKey em 10000 k v).run P w = .ok () w
  find : ∀ (w:World) {x:Value},C x→∀ es:List MapEntry,(∀ e∈es,C e.key) →
    ((Instr.findKey k x es).run P w = .ok none w∧∀ e∈es,e.key≠x)∨∃ j e,(Instr.findKey k x es).run P w = .ok (some (j,e.val)) w∧es[j]? = some e∧e.key=x
  stays : ∀ (w:World) {v:Value},C v→(Instr.keyThatStays v v).run P w = .ok v w
theorem KeyT.of {k:TypeId} {C:Value→Prop} (h:WideMaps.KeyLaw P k) (hc : ∀ v,C v→∃ l,keyOf P k v=some l):KeyT P k C where
  check w em v hv:=let ⟨_,e⟩:=hc v hv;h.check w em e
  find w x hx es he:=let ⟨_,e⟩:=hc x hx;h.find w e es fun y hy=>hc _ (he y hy)
  stays w v hv:=let ⟨_,e⟩:=hc v hv;h.stays w e
/-- the entries of a map: kv, in the order in which they were laid -/
structure Ents (C:Value→Prop) (es:Array MapEntry) (clock:Nat) (kv:List (Value×Value)):Prop where
  all:es.toList.map (fun e=>(e.key,e.val))=kv
  key : ∀ p∈kv,C p.1
  apart:(kv.map (·.1)).Nodup
  born:(es.toList.map (·.born)).Nodup
  old : ∀ e∈es.toList,e.born<clock
theorem Ents.nil (C:Value→Prop):Ents C #[] 0 []:=⟨rfl,by simp,by simp,by simp,by simp⟩
theorem Ents.size {C:Value→Prop} {es:Array MapEntry} {clock:Nat} {kv:List (Value×Value)} (h:Ents C es clock kv):es.size=kv.length:=by
  rw [← h.all];simp
theorem Ents.keyC {C:Value→Prop} {es:Array MapEntry} {clock:Nat} {kv:List (Value×Value)} (h:Ents C es clock kv) : ∀ e∈es.toList,C e.key:=by
  intro e he
  exact h.key (e.key,e.val) (by rw [← h.all];exact List.mem_map.2 ⟨e,he,rfl⟩)
/-- a new key -/
theorem Ents.push {C:Value→Prop} {es:Array MapEntry} {clock:Nat} {kv:List (Value×Value)} (h:Ents C es clock kv) {k v:Value} (hk:C k) (hn:k ∉ kv.map (·.1)) :
    Ents C (es.push { key:=k,val:=v,born:=clock }) (clock+1) (kv++[(k,v)]):=by
  refine ⟨by simp [h.all],?_,?_,?_,?_⟩
  · intro p hp
    rcases List.mem_append.1 hp with hp | hp
    · exact h.key p hp
    · simp at hp;subst hp;exact hk
  · rw [List.map_append,List.nodup_append]
    refine ⟨h.apart,by simp,?_⟩
    rintro a ha b hb rfl
    simp at hb
    subst hb
    exact hn ha
  · simp only [Array.toList_push,List.map_append,List.map_cons,List.map_nil]
    rw [List.nodup_append]
    refine ⟨h.born,by simp,?_⟩
    rintro a ha b hb rfl
    simp at hb
    subst hb
    obtain ⟨e,he,h1⟩:=List.mem_map.1 ha
    have:=h.old e he
    omega
  · intro e he
    simp only [Array.toList_push,List.mem_append,List.mem_singleton] at he
    rcases he with he | rfl
    · have:=h.old e he;omega
    · simp
/-- what a store does to the pairs -/
def PutKV (kv:List (Value×Value)) (k v:Value) (kv':List (Value×Value)):Prop :=
  (k ∉ kv.map (·.1)∧kv'=kv++[(k,v)])∨∃ l1 l2 old,kv=l1++(k,old) :: l2∧kv'=l1++(k,v) :: l2
theorem modify_at {α:Type} {l:List α} {i:Nat} {e:α} (f:α→α) (h:l[i]? = some e) : ∃ l1 l2,l=l1++e :: l2∧l.modify i f=l1++f e :: l2:=by
  induction l generalizing i with
  | nil=>simp at h
  | cons x l ih =>
    cases i with
    | zero=>simp at h;subst h;exact ⟨[],l,rfl,rfl⟩
    | succ i =>
      obtain ⟨l1,l2,h1,h2⟩:=ih (by simpa using h)
      exact ⟨x :: l1,l2,by rw [h1];rfl,by simp [List.modify_succ_cons,h2]⟩
theorem Ents.set {C:Value→Prop} {es:Array MapEntry} {clock:Nat} {kv:List (Value×Value)} (h:Ents C es clock kv) {i:Nat} {e:MapEntry} {v:Value} (he:es.toList[i]? = some e) :
    ∃ kv',PutKV kv e.key v kv'∧Ents C (es.modify i fun x=>{ x with key:=e.key,val:=v }) clock kv':=by
  obtain ⟨l1,l2,h1,h2⟩:=modify_at (fun x:MapEntry=>{ x with key:=e.key,val:=v }) he
  have hl:(es.modify i fun x=>{ x with key:=e.key,val:=v }).toList=l1++{ e with val:=v } :: l2:=by rw [Array.toList_modify,h2]
  have hkv:kv=l1.map (fun e=>(e.key,e.val))++(e.key,e.val) :: l2.map (fun e=>(e.key,e.val)):=by rw [← h.all,h1];simp
  refine ⟨l1.map (fun e=>(e.key,e.val))++(e.key,v) :: l2.map (fun e=>(e.key,e.val)),.inr ⟨_,_,e.val,hkv,rfl⟩,?_,?_,?_,?_,?_⟩
  · rw [hl];simp
  · intro p hp
    have:=h.key
    rw [hkv] at this
    rcases List.mem_append.1 hp with hp | hp
    · exact this p (by simp [hp])
    · rcases List.mem_cons.1 hp with rfl | hp
      · exact this (e.key,e.val) (by simp)
      · exact this p (by simp [hp])
  · have:=h.apart
    rw [hkv] at this
    simpa using this
  · have:=h.born
    rw [h1] at this
    rw [hl];simpa using this
  · intro x hx
    have:=h.old
    rw [h1] at this
    rw [hl] at hx
    rcases List.mem_append.1 hx with hx | hx
    · exact this x (by simp [hx])
    · rcases List.mem_cons.1 hx with rfl | hx
      · exact this e (by simp)
      · exact this x (by simp [hx])
section
variable {o : Oper} {ρ : Env} {w : World} {K : Value → World → Prop}
theorem does_val {v:Value} {w':World} (h:(execOp (ev N ρ) o).run P w = .ok (.value v) w') (hk:K v w'):Does P N o ρ w K:=by unfold Does;rw [h];exact hk
theorem does_skip {w':World} (h:(execOp (ev N ρ) o).run P w = .ok .skip w') (hk:K undef w'):Does P N o ρ w K:=by unfold Does;rw [h];exact hk
theorem run_getObj {b c:Nat} {es:Array MapEntry} (h:w.heap[b]? = some (.map es c)):(getObj b).run P w = .ok (.map es c) w:=by simp [getObj,Sem.run,h]
theorem run_setObj {b c:Nat} {es:Array MapEntry} (o':Obj) (h:w.heap[b]? = some (.map es c)):(setObj b o').run P w = .ok () (Mw.put w b o'):=by
  have:=(Array.getElem?_eq_some_iff.1 h).1
  simp [setObj,Sem.run,Mw.put,h]
theorem S.makeMap (H:S M w0 L w) {t:TypeId} (ho:o.op = .makeMap t none) (hk : ∀ b w',S M w0 ((b,.map #[] 0) :: L) w'→K (.map (some b)) w'):Does P N o ρ w K:=by
  refine does_val (v:=.map (some w.heap.size)) (w':=w.alloc (.map #[] 0)) ?_ (hk _ _ (H.alloc _))
  simp only [execOp,ho]
  simp [Instr.makeMap,run_newObj_alloc,Sem.run_bind,Result.andThen]
theorem S.mapSet (H:S M w0 L w) {t k e:TypeId} {C:Value→Prop} {b j:Nat} {es:Array MapEntry} {clk:Nat} {kv:List (Value×Value)} {m x y:Operand} {kx vy:Value} (ht:P.underlying t=some (.map k e)) (hK:KeyT P k C)
    (ho:o.op = .mapUpdate t m x y∨o.op = .insert t m x y) (hm:ev N ρ m = .map (some b)) (hx:ev N ρ x=kx) (hC:C kx) (hy:ev N ρ y=vy) (hi:L[j]? = some (b,.map es clk)) (hE:Ents C es clk kv)
    (hk : ∀ es' clk' kv' w',Ents C es' clk' kv'→PutKV kv kx vy kv'→S M w0 (L.set j (b,.map es' clk')) w'→K undef w'):Does P N o ρ w K:=by
  have hb:=H.own _ (List.mem_of_getElem? hi)
  simp only at hb
  have hu:(underlying t).run P w = .ok (.map k e) w:=by simp [underlying,Sem.run,ht]
  have hrun : ∀ w',(Instr.mapUpdate t (.map (some b)) kx vy).run P w = .ok () w'→(execOp (ev N ρ) o).run P w = .ok .skip w':=by
    intro w' h
    rcases ho with ho | ho <;>simp only [execOp,ho,hm,hx,hy] <;>simp [h]
  rcases hK.find w hC es.toList hE.keyC with ⟨hf,hno⟩ | ⟨i,e0,hf,hie,hke⟩
  · have hn:kx ∉ kv.map (·.1):=by
      rw [← hE.all]
      intro hm
      simp only [List.map_map,List.mem_map,Function.comp] at hm
      obtain ⟨e0,he0,h⟩:=hm
      exact hno e0 he0 h
    refine does_skip (hrun (Mw.put w b (.map (es.push { key:=kx,val:=vy,born:=clk }) (clk+1))) ?_) (hk _ _ _ _ (hE.push hC hn) (.inl ⟨hn,rfl⟩) (H.put j hi _))
    simp only [Instr.mapUpdate,Sem.run_bind,hu,Result.andThen,run_getObj hb,hK.check w false hC,hf,run_setObj _ hb]
  · subst hke
    obtain ⟨kv',h1,h2⟩:=hE.set (v:=vy) hie
    refine does_skip (hrun (Mw.put w b (.map (es.modify i fun x=>{ x with key:=e0.key,val:=vy }) clk)) ?_) (hk _ _ _ _ h2 h1 (H.put j hi _))
    have hie':es[i]? = some e0:=by simpa using hie
    simp only [Instr.mapUpdate,Sem.run_bind,hu,Result.andThen,run_getObj hb,hK.check w false hC,hf,hie',Option.map_some,Option.getD_some,hK.stays w hC,run_setObj _ hb]
theorem r_lookup {t k e:TypeId} {C:Value→Prop} {b:Nat} {es:Array MapEntry} {clk:Nat} {kv:List (Value×Value)} {x y:Operand} {kx z:Value} (ht:P.underlying t=some (.map k e)) (hK:KeyT P k C) (hb:w.heap[b]? = some (.map es clk)) (hE:Ents C es clk kv)
    (hx:ev N ρ x = .map (some b)) (hy:ev N ρ y=kx) (hC:C kx) (hz:ZV P e z) : ∃ v,(Runs P N (.lookup t x y false) ρ w v∧Runs P N (.lookup t x y true) ρ w (.tuple #[v,.bool true])∧(kx,v)∈kv)∨(Runs P N (.lookup t x y false) ρ w v∧Runs P N (.lookup t x y true) ρ w (.tuple #[v,.bool false])∧kx ∉ kv.map (·.1)∧v=z):=by
  have hu:(underlying t).run P w = .ok (.map k e) w:=by simp [underlying,Sem.run,ht]
  rcases hK.find w hC es.toList hE.keyC with ⟨hf,hno⟩ | ⟨i,e0,hf,hie,hke⟩
  · have hn:kx ∉ kv.map (·.1):=by
      rw [← hE.all]
      intro hm
      simp only [List.map_map,List.mem_map,Function.comp] at hm
      obtain ⟨e0,he0,h⟩:=hm
      exact hno e0 he0 h
    refine ⟨z,.inr ⟨?_,?_,hn,rfl⟩⟩
    · intro o ho
      simp only [execOp,ho,hx,hy]
      simp [Instr.lookup,Sem.run_bind,hu,Result.andThen,run_getObj hb,hK.check w _ hC,hf,hz w]
    · intro o ho
      simp only [execOp,ho,hx,hy]
      simp [Instr.lookup,Sem.run_bind,hu,Result.andThen,run_getObj hb,hK.check w _ hC,hf,hz w]
  · refine ⟨e0.val,.inl ⟨?_,?_,?_⟩⟩
    · intro o ho
      simp only [execOp,ho,hx,hy]
      simp [Instr.lookup,Sem.run_bind,hu,Result.andThen,run_getObj hb,hK.check w _ hC,hf]
    · intro o ho
      simp only [execOp,ho,hx,hy]
      simp [Instr.lookup,Sem.run_bind,hu,Result.andThen,run_getObj hb,hK.check w _ hC,hf]
    · rw [← hE.all,← hke]
      exact List.mem_map.2 ⟨e0,List.mem_of_getElem? hie,rfl⟩
theorem r_lenMap {t k e:TypeId} {b:Nat} {es:Array MapEntry} {clk:Nat} {x:Operand} (ht:P.underlying t=some (.map k e)) (hb:w.heap[b]? = some (.map es clk)) (hx:ev N ρ x = .map (some b)) :
    Runs P N (.call { callee:=.builtin .len,args:=#[x],argTypes:=#[t] }) ρ w (i es.size):=by
  intro o ho
  have hu:(underlying t).run P w = .ok (.map k e) w:=by simp [underlying,Sem.run,ht]
  simp [execOp,ho,hx,resolve,invoke,builtin,Builtin.len_,Sem.run_bind,hu,Result.andThen,run_getObj hb,goInt]
theorem S.range (H:S M w0 L w) {t k e:TypeId} {b:Nat} {es:Array MapEntry} {clk:Nat} {x:Operand} (ht:P.underlying t=some (.map k e)) (ho:o.op = .range t x) (hx:ev N ρ x = .map (some b)) (hb:w.heap[b]? = some (.map es clk))
    (hk : ∀ bi w',S M w0 ((bi,.mapIter (some b) clk #[] clk) :: L) w'→K (p bi 0) w'):Does P N o ρ w K:=by
  have hu:(underlying t).run P w = .ok (.map k e) w:=by simp [underlying,Sem.run,ht]
  refine does_val (v:=p w.heap.size 0) (w':=w.alloc (.mapIter (some b) clk #[] clk)) ?_ (hk _ _ (H.alloc _))
  simp only [execOp,ho,hx]
  simp [Instr.range,Sem.run_bind,hu,Result.andThen,run_getObj hb,run_newObj_alloc]
theorem S.next (H:S M w0 L w) {b bi j:Nat} {es:Array MapEntry} {clk:Nat} {seen:Array Nat} {x:Operand} (ho:o.op = .next x false) (hx:ev N ρ x=p bi 0) (hi:L[j]? = some (bi,.mapIter (some b) clk seen clk)) (hb:w.heap[b]? = some (.map es clk)) (hold : ∀ e∈es.toList,e.born<clk)
    (hover:(leftOf es seen).size=0→K (.tuple #[.bool false]) w) (hstep : ∀ e w',e∈(leftOf es seen).toList→S M w0 (L.set j (bi,.mapIter (some b) clk (seen.push e.born) clk)) w'→K (.tuple #[.bool true,e.key,e.val]) w'):Does P N o ρ w K:=by
  have hbi:=H.own _ (List.mem_of_getElem? hi)
  simp only at hbi
  have hrun : ∀ v w',(Instr.next (p bi 0) false o.type).run P w = .ok v w'→(execOp (ev N ρ) o).run P w = .ok (.value v) w':=by
    intro v w' h
    simp only [execOp,ho,hx]
    simp [h]
  rcases run_next_at (P:=P) w o.type bi b clk clk seen es clk hbi hb hold (Nat.le_refl _) with ⟨h0,hr⟩ | ⟨e,he,w1,hw1,hr⟩
  · exact does_val (hrun _ _ hr) (hover h0)
  · refine does_val (hrun _ _ hr) (hstep e _ he ?_)
    have H1:S M w0 L w1:=by
      rcases hw1 with rfl | rfl
      · exact H
      · exact H.ext (keep_drew w)
    exact H1.put j hi _
theorem r_entry {b bi:Nat} {es:Array MapEntry} {clk:Nat} {seen:Array Nat} {x:Operand} {e:MapEntry} (hx:ev N ρ x=p bi 0) (hbi:w.heap[bi]? = some (.mapIter (some b) clk (seen.push e.born) clk)) (hb:w.heap[b]? = some (.map es clk)) (he:e∈es.toList) (hn:(es.toList.map (·.born)).Nodup) :
    Runs P N (.entry x) ρ w (.tuple #[e.key,e.val]):=by
  intro o ho
  simp only [execOp,ho,hx]
  simp [run_entry_at (P:=P) w bi b clk seen es clk e hbi hb he hn]
end
theorem left_start (es:Array MapEntry):leftOf es #[]=es:=by simp [leftOf]
theorem left_mem {es:Array MapEntry} {seen:Array Nat} {e:MapEntry}:e∈(leftOf es seen).toList↔e∈es.toList∧e.born ∉ seen:=by
  simp [leftOf]
theorem left_lt {es:Array MapEntry} {seen:Array Nat} {e:MapEntry} (he:e∈(leftOf es seen).toList):(leftOf es (seen.push e.born)).size<(leftOf es seen).size:=by
  have hs:leftOf es (seen.push e.born)=(leftOf es seen).filter (fun x=>!(x.born == e.born)):=by
    unfold leftOf
    rw [Array.filter_filter]
    congr 1
    funext x
    simp
    rw [Bool.eq_iff_iff]
    simp
    constructor
    · rintro ⟨h1,h2⟩;exact ⟨h2,h1⟩
    · rintro ⟨h1,h2⟩;exact ⟨h2,h1⟩
  rw [hs]
  have h1:((leftOf es seen).filter (fun x=>!(x.born == e.born))).size≤(leftOf es seen).size:=Array.size_filter_le
  rcases Nat.lt_or_ge ((leftOf es seen).filter (fun x=>!(x.born == e.born))).size (leftOf es seen).size with h | h
  · exact h
  · have heq:=Array.filter_size_eq_size.1 (Nat.le_antisymm h1 h) e (by simpa using he)
    simp at heq
theorem left_none {es:Array MapEntry} {seen:Array Nat} (h:(leftOf es seen).size=0) : ∀ e∈es.toList,e.born∈seen:=by
  intro e he
  by_cases hb:e.born∈seen
  · exact hb
  · have:e∈(leftOf es seen).toList:=left_mem.2 ⟨he,hb⟩
    rw [Array.eq_empty_of_size_eq_zero h] at this
    simp at this
end Go.Mw
