/- Part of the proof: what the last text of this claim imports. -/
import Derived.Test.YthfnjppieihcfaaGreatW1
import Derived.IntWalk
import Derived.Laws.Entries
set_option linter.unusedSimpArgs false
set_option linter.unusedVariables false
set_option maxRecDepth 100000
namespace Go.Mw
open Go.RowKit
variable {P : Program} {N : Nat} {r : Option Nat}
def TA (P:Program) (t k:Nat):Prop:=(∀ w,(isAgg t).run P w = .ok true w)∧∀ w,(sizeOf t).run P w = .ok k w
def T1 (P:Program) (t:Nat):Prop:=(∀ w,(isAgg t).run P w = .ok false w)∧∀ w,(sizeOf t).run P w = .ok 1 w
def FO (P:Program) (t i k:Nat):Prop:=∀ b o w,(Instr.fieldAt t (.pointer (some ⟨b,o,none⟩)) i).run P w = .ok (.pointer (some ⟨b,o+k,none⟩)) w
def ZV (P:Program) (t:Nat) (v:Value):Prop:=∀ w,(zeroValue t).run P w = .ok v w
/-- a slice type of elements of k cells each -/
def TS (P:Program) (t k:Nat):Prop:=∃ e,P.underlying t=some (.slice e)∧∀ w,(sizeOf e).run P w = .ok k w
abbrev I64 (n:Int):Prop:=-9223372036854775808≤n∧n≤9223372036854775807
theorem wrap_in {n:Int} (h:I64 n):IntKind.i64.wrap n=n:=IntWalk.i64_in n h
theorem beqD (a b:Int):(a == b)=decide (a=b):=by rw [Bool.eq_iff_iff];simp
abbrev i (n:Int):Value:=.int .i64 n
abbrev p (b o:Nat):Value:=.pointer (some ⟨b,o,none⟩)
section
variable {o : Oper} {ρ : Env} {w : World} {K : Value → World → Prop}
/-- an operation that yields v and leaves the world alone -/
def Runs (P:Program) (N:Nat) (op:Op) (ρ:Env) (w:World) (v:Value):Prop :=
  ∀ o:Oper,o.op=op→(execOp (ev N ρ) o).run P w = .ok (.value v) w
theorem Runs.does {v:Value} (h:Runs P N o.op ρ w v) (hk:K v w):Does P N o ρ w K:=by
  unfold Does
  rw [h o rfl]
  exact hk
theorem zB {x:Operand} {v:Value} (hv:ev N ρ x=v):Runs P N (.move x) ρ w v:=by
  intro o ho;simp [execOp,ho,hv]
theorem zD {x:Operand} {v:Value} (hv:ev N ρ x=v):Runs P N (.assign x) ρ w v:=by
  intro o ho;simp [execOp,ho,hv]
theorem zQ {c x y:Operand} {b:Bool} {v:Value} (hc:ev N ρ c = .bool b) (ht:b=true→ev N ρ x=v) (hf:b=false→ev N ρ y=v):Runs P N (.pick c x y) ρ w v:=by
  intro o ho
  cases b
  · simp [execOp,ho,hc,hf rfl,asBool]
  · simp [execOp,ho,hc,ht rfl,asBool]
theorem yN {t:TypeId} {x:Operand} {b:Bool} (hx:ev N ρ x = .bool b):Runs P N (.unOp .not t x) ρ w (.bool !b):=by
  intro o ho;simp [execOp,ho,hx,Op.unary]
theorem r_neg {t:TypeId} {x:Operand} {a:Int} (hx:ev N ρ x=i a) (h:I64 (-a)):Runs P N (.unOp .neg t x) ρ w (i (-a)):=by
  intro o ho;simp [execOp,ho,hx,Op.unary,Op.intArith,wrap_in h]
theorem zU {t t':TypeId} {x y:Operand} {a b:Int} (hx:ev N ρ x=i a) (hy:ev N ρ y=i b) (h:I64 (a+b)):Runs P N (.binOp .add t x y t') ρ w (i (a+b)):=by
  intro o ho;simp [execOp,ho,hx,hy,eqGuard,binOp,Op.intArith,wrap_in h]
theorem yT {t t':TypeId} {x y:Operand} {a b:Int} (hx:ev N ρ x=i a) (hy:ev N ρ y=i b) (h:I64 (a-b)):Runs P N (.binOp .sub t x y t') ρ w (i (a-b)):=by
  intro o ho;simp [execOp,ho,hx,hy,eqGuard,binOp,Op.intArith,wrap_in h]
theorem r_mul {t t':TypeId} {x y:Operand} {a b:Int} (hx:ev N ρ x=i a) (hy:ev N ρ y=i b) (h:I64 (a*b)):Runs P N (.binOp .mul t x y t') ρ w (i (a*b)):=by
  intro o ho;simp [execOp,ho,hx,hy,eqGuard,binOp,Op.intArith,wrap_in h]
theorem r_quo {t t':TypeId} {x y:Operand} {a b:Int} (hx:ev N ρ x=i a) (hy:ev N ρ y=i b) (hb:b≠0) (h:I64 (a.tdiv b)):Runs P N (.binOp .quo t x y t') ρ w (i (a.tdiv b)):=by
  intro o ho;simp [execOp,ho,hx,hy,eqGuard,binOp,Op.intDiv,hb,wrap_in h]
theorem r_rem {t t':TypeId} {x y:Operand} {a b:Int} (hx:ev N ρ x=i a) (hy:ev N ρ y=i b) (hb:b≠0):Runs P N (.binOp .rem t x y t') ρ w (i (a.tmod b)):=by
  intro o ho;simp [execOp,ho,hx,hy,eqGuard,binOp,Op.intDiv,hb]
theorem yB {t t':TypeId} {x y:Operand} {k:IntKind} {a b:Int} (hx:ev N ρ x = .int k a) (hy:ev N ρ y = .int k b):Runs P N (.binOp .lss t x y t') ρ w (.bool (decide (a<b))):=by
  intro o ho;simp [execOp,ho,hx,hy,eqGuard,binOp,Op.intCmp]
theorem vD {t t':TypeId} {x y:Operand} {k:IntKind} {a b:Int} (hx:ev N ρ x = .int k a) (hy:ev N ρ y = .int k b):Runs P N (.binOp .leq t x y t') ρ w (.bool (decide (a≤b))):=by
  intro o ho;simp [execOp,ho,hx,hy,eqGuard,binOp,Op.intCmp]
theorem r_gtr {t t':TypeId} {x y:Operand} {k:IntKind} {a b:Int} (hx:ev N ρ x = .int k a) (hy:ev N ρ y = .int k b):Runs P N (.binOp .gtr t x y t') ρ w (.bool (decide (b<a))):=by
  intro o ho;simp [execOp,ho,hx,hy,eqGuard,binOp,Op.intCmp]
theorem r_geq {t t':TypeId} {x y:Operand} {k:IntKind} {a b:Int} (hx:ev N ρ x = .int k a) (hy:ev N ρ y = .int k b):Runs P N (.binOp .geq t x y t') ρ w (.bool (decide (b≤a))):=by
  intro o ho;simp [execOp,ho,hx,hy,eqGuard,binOp,Op.intCmp]
theorem vR {t t':TypeId} {x y:Operand} {k:IntKind} {a b:Int} (hx:ev N ρ x = .int k a) (hy:ev N ρ y = .int k b):Runs P N (.binOp .eql t x y t') ρ w (.bool (decide (a=b))):=by
  intro o ho;simp [execOp,ho,hx,hy,eqGuard,binOp,Op.intCmp,beqD]
theorem vW {t t':TypeId} {x y:Operand} {k:IntKind} {a b:Int} (hx:ev N ρ x = .int k a) (hy:ev N ρ y = .int k b):Runs P N (.binOp .neq t x y t') ρ w (.bool (decide (a≠b))):=by
  intro o ho;simp [execOp,ho,hx,hy,eqGuard,binOp,Op.intCmp,bne,beqD]
theorem zO {x:Operand} {j:Nat} {vs:List Value} {v:Value} (hx:ev N ρ x = .tuple vs.toArray) (hv:vs[j]? = some v):Runs P N (.extract x j) ρ w v:=by
  intro o ho;simp [execOp,ho,hx,Instr.extract,hv]
theorem uH {f:Fn} {first cap:List Operand} {fv cv:List Value} (hf:first.map (ev N ρ)=fv) (hc:cap.map (ev N ρ)=cv):Runs P N (.makeFunc f first.toArray cap.toArray) ρ w (.func f fv.toArray cv.toArray):=by
  intro o ho;simp [execOp,ho,Instr.makeFunc,hf,hc]
theorem zA {t j k b off q:Nat} {x:Operand} (hf:FO P t j k) (hx:ev N ρ x=p b off) (hq:off+k=q):Runs P N (.fieldAddr t x j) ρ w (p b q):=by
  subst hq
  intro o ho;simp [execOp,ho,hx,hf b off w]
theorem yG {t e a n c:_} {x:Operand} {v:Nat} (ht:P.underlying t=some (.slice e)) (hx:ev N ρ x = .slice a n c) (hv:n=v) :
    Runs P N (.call { callee:=.builtin .len,args:=#[x],argTypes:=#[t] }) ρ w (i v):=by
  subst hv
  intro o ho;simp [execOp,ho,hx,resolve,invoke,builtin,Builtin.len_,run_underlying ht,goInt]
theorem run_loadCellsFrom {b off:Nat} : ∀ (n j:Nat) (acc:Array Value) (vs:List Value),vs.length=n→(∀ q v,vs[q]? = some v→w.cell? ⟨b,off+(j+q),none⟩=some v) →
    (loadCellsFrom ⟨b,off,none⟩ j n acc).run P w = .ok (acc++vs.toArray) w
  | 0,j,acc,vs,hl,_=>by
    have:vs=[]:=List.eq_nil_of_length_eq_zero hl
    subst this
    simp [loadCellsFrom]
  | n+1,j,acc,vs,hl,h=>by
    cases vs with
    | nil=>simp at hl
    | cons v vs =>
      have h0:=h 0 v rfl
      have ha:(⟨b,off,none⟩:Addr).add j=⟨b,off+j,none⟩:=by unfold Addr.add;split <;>simp_all
      have hl':(load ((⟨b,off,none⟩:Addr).add j)).run P w = .ok v w:=by
        rw [ha]
        simp only [Nat.add_zero] at h0
        simp [load,Sem.run,h0]
      simp only [loadCellsFrom,Sem.run_bind,hl',Result.andThen]
      rw [run_loadCellsFrom n (j+1) _ vs (by simpa using hl) (fun q u hq=>by have:=h (q+1) u (by simpa using hq);rw [← this];congr 2;omega)]
      simp
theorem run_load_agg {t k b off j:Nat} {xs vs:List Value} (hk:TA P t k) (hc:Cells w b off xs) (hv:(xs.drop j).take k=vs) (hl:vs.length=k) :
    (Instr.loadAt t (p b (off+j))).run P w = .ok (.agg vs.toArray) w:=by
  have hs:=hc.sub j k hv hl
  simp only [Instr.loadAt,Instr.sureAddr,loadVar,Sem.run_bind,Sem.run_pure,Result.andThen,hk.1,hk.2,if_true,loadCells]
  rw [run_loadCellsFrom k 0 #[] vs hl (fun q v hq=>by rw [Nat.zero_add];exact hs.cell q hq)]
  simp
theorem run_load_one {t b off j:Nat} {xs:List Value} {v:Value} (hk:T1 P t) (hc:Cells w b off xs) (hv:xs[j]? = some v) :
    (Instr.loadAt t (p b (off+j))).run P w = .ok v w:=by
  have:=hc.cell j hv
  simp [Instr.loadAt,Instr.sureAddr,loadVar,hk.1,load,Sem.run,this,Result.andThen]
theorem zJ {t k b off q j:Nat} {x:Operand} {xs vs:List Value} (hk:TA P t k) (hx:ev N ρ x=p b q) (hc:Cells w b off xs) (hq:q=off+j) (hv:(xs.drop j).take k=vs) (hl:vs.length=k) :
    Runs P N (.load t x) ρ w (.agg vs.toArray):=by
  subst hq
  intro o ho;simp [execOp,ho,hx,run_load_agg hk hc hv hl]
theorem zE {t b off q j:Nat} {x:Operand} {xs:List Value} {v:Value} (hk:T1 P t) (hx:ev N ρ x=p b q) (hc:Cells w b off xs) (hq:q=off+j) (hv:xs[j]? = some v) :
    Runs P N (.load t x) ρ w v:=by
  subst hq
  intro o ho;simp [execOp,ho,hx,run_load_one hk hc hv]
theorem r_indexAddr {t k b off n c:Nat} {x y:Operand} {a:Int} (ht:TS P t k) (hx:ev N ρ x = .slice (some ⟨b,off,none⟩) n c) (hy:ev N ρ y=i a) (h:0≤a∧a<n) :
    Runs P N (.indexAddr t x y) ρ w (p b (off+a.toNat*k)):=by
  obtain ⟨e,he,hs⟩:=ht
  intro o ho
  have ha:(⟨b,off,none⟩:Addr).add (a.toNat*k)=⟨b,off+a.toNat*k,none⟩:=by unfold Addr.add;split <;>simp_all
  simp [execOp,ho,hx,hy,Instr.indexAt,asIntOf,run_underlying he,h,hs,ha]
theorem d_box {t:TypeId} {x:Operand} {v:Value} (ho:o.op = .box t x) (hv:ev N ρ x=v) (hk:K (p w.heap.size 0) (w.alloc (.cells v.cells t))):Does P N o ρ w K:=by
  unfold Does
  simp only [execOp,ho,hv,Instr.box,newVar,newRow,Sem.run_bind,run_newObj_alloc,Result.andThen,Sem.run_pure]
  exact hk
theorem d_alloc {t:TypeId} {z:Value} (ho:o.op = .alloc t) (hz:ZV P t z) (hk:K (p w.heap.size 0) (w.alloc (.cells z.cells t))):Does P N o ρ w K:=by
  unfold Does
  simp only [execOp,ho,Instr.alloc,hz w,newVar,newRow,Sem.run_bind,run_newObj_alloc,Result.andThen,Sem.run_pure]
  exact hk
theorem run_storeCells {b:Nat} {t:TypeId} : ∀ (vs:List Value) (off j:Nat) (cs:List Value) (w:World),w.heap[b]? = some (.cells cs.toArray t (0,0))→off+j+vs.length≤cs.length→(∀ v∈vs,v.oneCell'=true) →
    (storeCells ⟨b,off,none⟩ vs j).run P w = .ok () (put w b (.cells (cs.take (off+j)++vs++cs.drop (off+j+vs.length)).toArray t (0,0)))
  | [],off,j,cs,w,hb,_,_=>by
    have:put w b (.cells (cs.take (off+j)++[]++cs.drop (off+j+([]:List Value).length)).toArray t (0,0))=w:=by
      simp only [List.append_nil,List.length_nil,Nat.add_zero,List.take_append_drop]
      unfold put
      have hlt:=(Array.getElem?_eq_some_iff.1 hb).1
      have he:=(Array.getElem?_eq_some_iff.1 hb).2
      rw [← he]
      have:w.heap.setIfInBounds b w.heap[b]=w.heap:=by
        apply Array.ext_getElem?
        intro q
        rw [Array.getElem?_setIfInBounds]
        split
        · rename_i e;subst e;simp [hlt]
        · rfl
      rw [this]
    rw [this]
    simp [storeCells]
  | v :: vs,off,j,cs,w,hb,hl,h1=>by
    have ha:(⟨b,off,none⟩:Addr).add j=⟨b,off+j,none⟩:=by unfold Addr.add;split <;>simp_all
    simp only [List.length_cons] at hl
    have hlt:=(Array.getElem?_eq_some_iff.1 hb).1
    have hcell:w.cell? ⟨b,off+j,none⟩=some cs[off+j]:=by simp [World.cell?,hb]
    have hfr:w.frozen? ⟨b,off+j,none⟩=false:=by simp [World.frozen?,hb]
    have hset:w.setCell ⟨b,off+j,none⟩ v=put w b (.cells (cs.set (off+j) v).toArray t (0,0)):=by
      unfold World.setCell put
      congr 1
      apply Array.ext_getElem?
      intro q
      rw [Array.getElem?_modify,Array.getElem?_setIfInBounds]
      by_cases e:b=q
      · subst e
        have he:=(Array.getElem?_eq_some_iff.1 hb).2
        simp [hlt,he]
      · simp [e]
    have hst:(store ((⟨b,off,none⟩:Addr).add j) v).run P w = .ok () (put w b (.cells (cs.set (off+j) v).toArray t (0,0))):=by
      rw [ha]
      have hv1:=h1 v (by simp)
      cases v <;>first | (simp [Value.oneCell'] at hv1;done) | simp [store,Sem.run,hcell,hfr,hset]
    have hb':(put w b (.cells (cs.set (off+j) v).toArray t (0,0))).heap[b]? = some (.cells (cs.set (off+j) v).toArray t (0,0)):=put_same hlt
    simp only [storeCells,Sem.run_bind,hst,Result.andThen]
    rw [run_storeCells vs off (j+1) (cs.set (off+j) v) _ hb' (by simp;omega) (fun u hu=>h1 u (by simp [hu]))]
    congr 1
    unfold put
    simp only [Array.setIfInBounds_setIfInBounds]
    congr 4
    rw [List.set_eq_take_append_cons_drop,if_pos (by omega)]
    have e1:(cs.take (off+j)).length=off+j:=by simp;omega
    rw [show off+(j+1)=off+j+1 by omega,List.take_append,List.drop_append,e1]
    simp only [Nat.add_sub_cancel_left,show off+j+1+vs.length-(off+j)=1+vs.length by omega]
    rw [List.take_of_length_le (l:=cs.take (off+j)) (by omega),List.drop_of_length_le (l:=cs.take (off+j)) (by omega),show 1+vs.length=vs.length+1 by omega]
    simp [List.drop_drop,show off+j+1+vs.length=off+j+(vs.length+1) by omega]
end
end Go.Mw
namespace Go.Mw
open Go.RowKit
variable {P : Program} {N : Nat} {r : Option Nat} {M : Nat → Prop} {w0 : World} {L : List (Nat × Obj)}
section ops
variable {o : Oper} {ρ : Env} {w : World} {K : Value → World → Prop}
theorem S.box (H:S M w0 L w) {t:TypeId} {x:Operand} {v:Value} {l:List Value} (ho:o.op = .box t x) (hv:ev N ρ x=v) (hc:v.cells=l.toArray)
    (hk : ∀ b w',S M w0 ((b,.cells l.toArray t (0,0)) :: L) w'→K (p b 0) w'):Does P N o ρ w K :=
  d_box ho hv (by rw [hc];exact hk _ _ (H.alloc _))
theorem S.new (H:S M w0 L w) {t:TypeId} {z:Value} {l:List Value} (ho:o.op = .alloc t) (hz:ZV P t z) (hc:z.cells=l.toArray)
    (hk : ∀ b w',S M w0 ((b,.cells l.toArray t (0,0)) :: L) w'→K (p b 0) w'):Does P N o ρ w K :=
  d_alloc ho hz (by rw [hc];exact hk _ _ (H.alloc _))
theorem S.store (H:S M w0 L w) {t k j b off:Nat} {u:TypeId} {x y:Operand} {v:Value} {cs vs cs':List Value} (ho:o.op = .store t x y) (hs : ∀ w,(sizeOf t).run P w = .ok k w)
    (hx:ev N ρ x=p b off) (hy:ev N ρ y=v) (hi:L[j]? = some (b,.cells cs.toArray u (0,0))) (hvc:v.cells=vs.toArray) (hl:vs.length=k) (hle:Nat.ble (off+k) cs.length=true)
    (h1 : ∀ v∈vs,v.oneCell'=true) (hn:cs.take off++vs++cs.drop (off+k)=cs') (hk : ∀ w',S M w0 (L.set j (b,.cells cs'.toArray u (0,0))) w'→K undef w'):Does P N o ρ w K:=by
  have hb:=H.own _ (List.mem_of_getElem? hi)
  have hle':off+k≤cs.length:=by simpa using hle
  have hr:=run_storeCells (P:=P) vs off 0 cs w hb (by omega) h1
  simp only [Nat.add_zero,hl,hn] at hr
  have hrun:(execOp (ev N ρ) o).run P w = .ok .skip (Mw.put w b (.cells cs'.toArray u (0,0))):=by
    simp only [execOp,ho,hx,hy,Instr.storeAt,Instr.sureAddr,storeVar,Sem.run_bind,Sem.run_pure,Result.andThen,hs w,hvc,List.size_toArray,hl,ne_eq,not_true_eq_false,if_false,hr]
  unfold Does
  rw [hrun]
  exact hk _ (H.put j hi _)
theorem zH {f:FuncId} {l:List Operand} {ts:Array TypeId} {vs:List Value} {R:Value→World→Prop} (ho:o.op = .call { callee:=.value (.func f),args:=l.toArray,argTypes:=ts })
    (he:Go.Proofs.Enters P f) (hargs:l.map (ev N ρ)=vs) (h:Ret P f vs w R) (hk : ∀ v w',Keep Nm w w'→R v w'→K v w'):Does P N o ρ w K:=by
  have hrun:(execOp (ev N ρ) o).run P w = .ok (.enter f vs.toArray) w:=by
    have hev:ev N ρ (.func f) = .func (.func f) #[] #[]:=rfl
    simp [execOp,ho,resolve,hev,Deferred.ofValue,invoke,hargs,he vs.toArray w]
  unfold Does
  rw [hrun]
  exact Calls.mono h fun e w' ⟨v,he,hk',hR⟩=>⟨v,he,hk v w' hk' hR⟩
/-- a function value -/
theorem uG {f:FuncId} {x:Operand} {l:List Operand} {ts:Array TypeId} {fv vs cv:List Value} {R:Value→World→Prop} (ho:o.op = .call { callee:=.value x,args:=l.toArray,argTypes:=ts })
    (hx:ev N ρ x = .func (.func f) fv.toArray cv.toArray) (he:Go.Proofs.Enters P f) (hargs:l.map (ev N ρ)=vs) (h:Ret P f (fv++vs++cv) w R) (hk : ∀ v w',Keep Nm w w'→R v w'→K v w'):Does P N o ρ w K:=by
  have hrun:(execOp (ev N ρ) o).run P w = .ok (.enter f (fv++vs++cv).toArray) w:=by
    have:=he (fv++vs++cv).toArray w
    simp only [List.append_assoc] at this
    simp [execOp,ho,resolve,hx,Deferred.ofValue,invoke,hargs,this]
  unfold Does
  rw [hrun]
  exact Calls.mono h fun e w' ⟨v,he,hk',hR⟩=>⟨v,he,hk v w' hk' hR⟩
/-- a call of yield -/
def Yield (P:Program) (l:Nat) (args:List Value) (w:World) (R:Value→World→Prop):Prop :=
  ∃ f tmps assign body,(Instr.yield l args.toArray).run P w = .ok (.round l f tmps assign body) w ∧
    RoundIn (FW none) 0 P l f tmps assign body w fun e w'=>∃ v,e = .returned v∧R v w'
theorem d_yield {l:Nat} {x:Operand} {xs:List Operand} {ts:Array TypeId} {vs:List Value} {R:Value→World→Prop} (ho:o.op = .call { callee:=.value x,args:=xs.toArray,argTypes:=ts })
    (hx:ev N ρ x = .func (.yield l) #[] #[]) (hargs:xs.map (ev N ρ)=vs) (h:Yield P l vs w R) (hk : ∀ v w',R v w'→K v w'):Does P N o ρ w K:=by
  obtain ⟨f,tmps,assign,body,hy,hr⟩:=h
  have hrun:(execOp (ev N ρ) o).run P w = .ok (.round l f tmps assign body) w:=by
    simp [execOp,ho,resolve,hx,Deferred.ofValue,invoke,hargs,hy]
  unfold Does
  rw [hrun]
  exact RoundIn.mono hr fun e w' ⟨v,he,hR⟩=>⟨v,he,hk v w' hR⟩
theorem max_if (a b:Int):(if b > a then b else a)=max a b:=by
  by_cases h:b > a
  · rw [if_pos h];omega
  · rw [if_neg h];omega
theorem min_if (a b:Int):(if b<a then b else a)=min a b:=by
  by_cases h:b<a
  · rw [if_pos h];omega
  · rw [if_neg h];omega
theorem r_max2 {x y:Operand} {ts:Array TypeId} {a b:Int} (hx:ev N ρ x=i a) (hy:ev N ρ y=i b) :
    Runs P N (.call { callee:=.builtin .max,args:=#[x,y],argTypes:=ts }) ρ w (i (max a b)):=by
  intro o ho;simp [execOp,ho,hx,hy,resolve,invoke,builtin,Builtin.max_,Builtin.max2,← max_if]
theorem r_max3 {x y z:Operand} {ts:Array TypeId} {a b c:Int} (hx:ev N ρ x=i a) (hy:ev N ρ y=i b) (hz:ev N ρ z=i c) :
    Runs P N (.call { callee:=.builtin .max,args:=#[x,y,z],argTypes:=ts }) ρ w (i (max (max a b) c)):=by
  intro o ho;simp [execOp,ho,hx,hy,hz,resolve,invoke,builtin,Builtin.max_,Builtin.max2,← max_if]
theorem r_min2 {x y:Operand} {ts:Array TypeId} {a b:Int} (hx:ev N ρ x=i a) (hy:ev N ρ y=i b) :
    Runs P N (.call { callee:=.builtin .min,args:=#[x,y],argTypes:=ts }) ρ w (i (min a b)):=by
  intro o ho;simp [execOp,ho,hx,hy,resolve,invoke,builtin,Builtin.min_,Builtin.min2,← min_if]
theorem r_nilCheck {x:Operand} {b off:Nat} (hx:ev N ρ x=p b off):Runs P N (.nilCheck x) ρ w (p b off):=by
  intro o ho;simp [execOp,ho,hx]
end ops
section leave
variable {fn : Func} {R : Value → World → Prop} {ρ : Env} {w : World}
theorem act_getD (t:Nat):((act N [] ρ).tmps[t]?).getD undef=ev N ρ (.tmp t):=by
  have:=congrFun (eval_act N [] ρ) (.tmp t)
  simpa [Act.eval] using this
theorem leave_none (hr:fn.results = #[]) (hR:R (.tuple #[]) w):Leave P N fn R ρ [] w:=by
  refine ⟨_,?_,hR⟩
  simp [results,hr]
theorem zI {t:Nat} {v:Value} (hr:fn.results = #[.tmp t]) (hv:ev N ρ (.tmp t)=v) (hR:R v w):Leave P N fn R ρ [] w:=by
  refine ⟨v,?_,hR⟩
  simp only [results,hr]
  have:=act_getD (N:=N) (ρ:=ρ) t
  rw [hv] at this
  simp [this]
theorem vT {t u:Nat} {v v':Value} (hr:fn.results = #[.tmp t,.tmp u]) (hv:ev N ρ (.tmp t)=v) (hv':ev N ρ (.tmp u)=v') (hR:R (.tuple #[v,v']) w):Leave P N fn R ρ [] w:=by
  refine ⟨_,?_,hR⟩
  have h1:=act_getD (N:=N) (ρ:=ρ) t
  have h2:=act_getD (N:=N) (ρ:=ρ) u
  rw [hv] at h1
  rw [hv'] at h2
  simp [results,hr,h1,h2]
theorem run_loadVar_agg {t k b:Nat} {vs:List Value} (hk:TA P t k) (hc:Cells w b 0 vs) (hl:vs.length=k):(loadVar t ⟨b,0,none⟩).run P w = .ok (.agg vs.toArray) w:=by
  have:=run_load_agg (off:=0) (j:=0) (vs:=vs) hk hc (by simp [← hl]) hl
  simpa [Instr.loadAt,Instr.sureAddr] using this
theorem yW {a t k b:Nat} {vs:List Value} (hr:fn.results = #[.cell a t]) (hv:ev N ρ (.tmp a)=p b 0) (hk:TA P t k) (hc:Cells w b 0 vs) (hl:vs.length=k) (hR:R (.agg vs.toArray) w):Leave P N fn R ρ [] w:=by
  refine ⟨_,?_,hR⟩
  have h1:=act_getD (N:=N) (ρ:=ρ) a
  rw [hv] at h1
  simp [results,hr,h1,asAddr,run_loadVar_agg hk hc hl]
theorem zT {a t k b u:Nat} {vs:List Value} {v:Value} (hr:fn.results = #[.cell a t,.tmp u]) (hv:ev N ρ (.tmp a)=p b 0) (hk:TA P t k) (hc:Cells w b 0 vs) (hl:vs.length=k) (hu:ev N ρ (.tmp u)=v)
    (hR:R (.tuple #[.agg vs.toArray,v]) w):Leave P N fn R ρ [] w:=by
  refine ⟨_,?_,hR⟩
  have h1:=act_getD (N:=N) (ρ:=ρ) a
  have h2:=act_getD (N:=N) (ρ:=ρ) u
  rw [hv] at h1
  rw [hu] at h2
  simp [results,hr,h1,h2,asAddr,run_loadVar_agg hk hc hl]
end leave
section steps
variable {Q : Post} {ds : List Deferred} {ρ : Env} {w : World} {ops : Array Oper} {o : Oper} {rest : List Oper}
theorem Ro.q {d:Nat} {v:Value} (hg:o.guard=none) (hd:o.dst=some d) (h:Runs P N o.op ρ w v) (hn:noDefer o.op=true) (hk:Ro P N r ops rest Q ds (upd ρ d v) w):Ro P N r ops (o :: rest) Q ds ρ w :=
  Ro.cons hg hn (h.does (by rw [hd];exact hk))
theorem Ro.d {d:Nat} (hg:o.guard=none) (hd:o.dst=some d) (hn:noDefer o.op=true) (h:Does P N o ρ w fun v w'=>Ro P N r ops rest Q ds (upd ρ d v) w'):Ro P N r ops (o :: rest) Q ds ρ w :=
  Ro.cons hg hn (h.mono fun v w' hk=>by rw [hd];exact hk)
theorem Ro.d0 (hg:o.guard=none) (hd:o.dst=none) (hn:noDefer o.op=true) (h:Does P N o ρ w fun _ w'=>Ro P N r ops rest Q ds ρ w'):Ro P N r ops (o :: rest) Q ds ρ w :=
  Ro.cons hg hn (h.mono fun v w' hk=>by rw [hd];exact hk)
end steps
end Go.Mw
namespace Go.Mw
open Go.RowKit
variable {P : Program} {N : Nat} {r : Option Nat}
def vF (o:Oper) (k:Nat):Bool:=o.after.toList.any fun e=>Region.binds .any e && Nat.beq e.on k
/-- the slot that operation k writes -/
def slot (l:List Oper) (k:Nat):Option Tmp:=(l[k]?).bind (·.dst)
def outv (o:Oper) (v:Value):Value:=match o.dst with | some _=>v | none=>undef
def got (l:List Oper) (ρ:Env) (k:Nat):Value:=match slot l k with | some d=>ρ d | none=>undef
/-- the text's order is an order; the operations from n on wait for all ahead of them; no slot is written twice ahead of n -/
def okDraw (l:List Oper) (n:Nat):Bool :=
  (l.zipIdx.all fun (o,j)=>noDefer o.op && (o.after.toList.all fun e=>!Region.binds .any e || Nat.blt e.on j) && (Nat.blt j n || (List.range j).all fun k=>vF o k)) &&
  (decide (((l.take n).filterMap (·.dst)).Nodup))
structure OkDraw (l:List Oper) (n:Nat):Prop where
  calm : ∀ (j:Nat) (o:Oper),l[j]? = some o→noDefer o.op=true
  before : ∀ (j:Nat) (o:Oper),l[j]? = some o→∀ e∈o.after,Region.binds .any e=true→e.on<j
  tail : ∀ (j:Nat) (o:Oper),l[j]? = some o→n≤j→∀ k,k<j→vF o k=true
  nodup:((l.take n).filterMap (·.dst)).Nodup
theorem okDraw_spec {l:List Oper} {n:Nat} (h:okDraw l n=true):OkDraw l n:=by
  simp only [okDraw,Bool.and_eq_true,decide_eq_true_eq] at h
  obtain ⟨h1,h2⟩:=h
  rw [List.all_eq_true] at h1
  have h1' : ∀ j o,l[j]? = some o→noDefer o.op=true∧(∀ e∈o.after,Region.binds .any e=true→e.on<j)∧(n≤j→∀ k,k<j→vF o k=true):=by
    intro j o hj
    have hm:(o,j)∈l.zipIdx:=by
      rw [List.mem_zipIdx_iff_getElem?]
      exact hj
    have:=h1 _ hm
    simp only [Bool.and_eq_true,Bool.or_eq_true,Bool.not_eq_true',List.all_eq_true,List.mem_range] at this
    refine ⟨this.1.1,fun e he hb=>?_,fun hn k hk=>?_⟩
    · rcases this.1.2 e (Array.mem_toList_iff.2 he) with h | h
      · rw [h] at hb;cases hb
      · simpa using h
    · rcases this.2 with h | h
      · have:j<n:=by simpa using h
        omega
      · exact h k hk
  exact ⟨fun j o hj=>(h1' j o hj).1,fun j o hj=>(h1' j o hj).2.1,fun j o hj=>(h1' j o hj).2.2,h2⟩
theorem waitsFor_spec {o:Oper} {k:Nat} (h:vF o k=true) : ∃ e∈o.after,Region.binds .any e=true∧e.on=k:=by
  simp only [vF,List.any_eq_true,Bool.and_eq_true] at h
  obtain ⟨e,he,hb,heq⟩:=h
  exact ⟨e,Array.mem_toList_iff.1 he,hb,Nat.eq_of_beq_eq_true heq⟩
theorem mem_ready' {l:List Oper} {listed:Array Bool} (_hsz:listed.size=l.length) {j:Nat} :
    j∈Region.ready .any l.toArray listed↔∃ o,l[j]? = some o∧listed.getD j true=false∧∀ e∈o.after,Region.binds .any e=true→listed.getD e.on false=true:=by
  unfold Region.ready
  rw [List.mem_filter]
  constructor
  · rintro ⟨hr,h⟩
    simp only [List.size_toArray,List.mem_range] at hr
    simp only [Bool.and_eq_true,Bool.not_eq_true',List.getElem?_toArray] at h
    obtain ⟨h1,h2⟩:=h
    cases ho:l[j]? with
    | none=>simp [ho] at h2
    | some o =>
      refine ⟨o,rfl,h1,fun e he hb=>?_⟩
      simp only [ho,Option.map_some,Option.getD_some,Array.all_eq_true,Bool.or_eq_true,Bool.not_eq_true'] at h2
      obtain ⟨q,hq,rfl⟩:=Array.getElem_of_mem he
      rcases h2 q hq with h | h
      · rw [h] at hb;cases hb
      · exact h
  · rintro ⟨o,ho,h1,h2⟩
    have hlt:j<l.length:=(List.getElem?_eq_some_iff.1 ho).1
    refine ⟨by simpa using hlt,?_⟩
    simp only [Bool.and_eq_true,Bool.not_eq_true',List.getElem?_toArray,ho,Option.map_some,Option.getD_some,Array.all_eq_true,Bool.or_eq_true]
    refine ⟨h1,fun q hq=>?_⟩
    cases hb:Region.binds .any o.after[q]
    · exact .inl rfl
    · exact .inr (h2 _ (Array.getElem_mem hq) hb)
/-- what is asked of one operation: whatever has been carried out, if what it waits for has -/
def Ob (P:Program) (N:Nat) (l:List Oper) (n:Nat) (B:World→Prop) (φ:List (Value→World→Prop)) (ρ:Env) (j:Nat) (o:Oper):Prop :=
  ∀ ρ' w',B w'→(∀ s,((l.take n).any fun o=>match o.dst with | some d=>Nat.beq d s | none=>false)=false→ρ' s=ρ s)→(∀ k,vF o k=true→(φ.getD k (fun _ _=>True)) (got l ρ' k) w') →
    (match o.guard with
     | none=>Does P N o ρ' w' fun v w''=>Keep Nm w' w''∧φ.getD j (fun _ _=>True) (outv o v) w''
     | some (g,want)=>(∃ b,got l ρ' g = .bool b∧(slot l g).isSome=true∧((slot l g).all (Nat.blt · N))=true∧(b=want→Does P N o ρ' w' fun v w''=>Keep Nm w' w''∧φ.getD j (fun _ _=>True) (outv o v) w'')∧(b = !want→φ.getD j (fun _ _=>True) undef w'))∨(got l ρ' g=undef∧φ.getD j (fun _ _=>True) undef w'))
def Obs (P:Program) (N:Nat) (l:List Oper) (n:Nat) (B:World→Prop) (φ:List (Value→World→Prop)) (ρ:Env):Nat→List Oper→Prop
  | _,[]=>True
  | j,o :: rest=>Ob P N l n B φ ρ j o∧Obs P N l n B φ ρ (j+1) rest
theorem Obs.get {l:List Oper} {n:Nat} {B:World→Prop} {φ:List (Value→World→Prop)} {ρ:Env} : ∀ {q:List Oper} {j:Nat},Obs P N l n B φ ρ j q→∀ k o,q[k]? = some o→Ob P N l n B φ ρ (j+k) o
  | [],_,_,k,o,hk=>by simp at hk
  | a :: q,j,h,0,o,hk=>by simp at hk;subst hk;exact h.1
  | a :: q,j,h,k+1,o,hk=>by
    have:=Obs.get h.2 k o (by simpa using hk)
    rwa [show j+(k+1)=j+1+k by omega]
theorem dst_unique {l:List Oper} {n:Nat} (ok:OkDraw l n) {j k:Nat} {d:Tmp} (hj:j<n) (hk:k<n) (h1:slot l j=some d) (h2:slot l k=some d):j=k:=by
  have key : ∀ (q:List Oper),(q.filterMap (·.dst)).Nodup→∀ a b:Nat,(q[a]?).bind (·.dst)=some d→(q[b]?).bind (·.dst)=some d→a=b:=by
    intro q
    induction q with
    | nil=>intro _ a b ha;simp at ha
    | cons x q ih =>
      intro hnd a b ha hb
      have hmem : ∀ c:Nat,(q[c]?).bind (·.dst)=some d→d∈q.filterMap (·.dst):=by
        intro c hc
        cases hx:q[c]? with
        | none=>simp [hx] at hc
        | some y=>exact List.mem_filterMap.2 ⟨y,List.mem_of_getElem? hx,by simpa [hx] using hc⟩
      cases hxd:x.dst with
      | none =>
        rw [List.filterMap_cons_none hxd] at hnd
        cases a with
        | zero=>simp [hxd] at ha
        | succ a =>
          cases b with
          | zero=>simp [hxd] at hb
          | succ b=>rw [ih hnd a b (by simpa using ha) (by simpa using hb)]
      | some e =>
        rw [List.filterMap_cons_some hxd] at hnd
        obtain ⟨hne,hnd⟩:=List.nodup_cons.1 hnd
        cases a with
        | zero =>
          simp [hxd] at ha
          subst ha
          cases b with
          | zero=>rfl
          | succ b=>exact absurd (hmem b (by simpa using hb)) hne
        | succ a =>
          cases b with
          | zero =>
            simp [hxd] at hb
            subst hb
            exact absurd (hmem a (by simpa using ha)) hne
          | succ b=>rw [ih hnd a b (by simpa using ha) (by simpa using hb)]
  refine key (l.take n) ok.nodup j k ?_ ?_
  · simpa [List.getElem?_take,hj,slot] using h1
  · simpa [List.getElem?_take,hk,slot] using h2
theorem updo_other {ρ:Env} {dst:Option Tmp} {v:Value} {s:Nat} (h:dst≠some s):updo ρ dst v s=ρ s:=by
  cases dst with
  | none=>rfl
  | some d =>
    have hb:Nat.beq s d=false:=by
      cases hb:Nat.beq s d
      · rfl
      · exact absurd (by rw [Nat.eq_of_beq_eq_true hb]) h
    simp [updo,upd,hb]
theorem upd_self (ρ:Env) (d:Nat) (v:Value):upd ρ d v d=v:=by simp [upd]
theorem yielded_undef {l:List Oper} {ds:List Deferred} {ρ:Env} {g:Nat} (h:got l ρ g=undef):yielded l.toArray (act N ds ρ).tmps g=none:=by
  unfold got slot at h
  unfold yielded
  simp only [List.getElem?_toArray]
  cases hs:(l[g]?).bind (·.dst) with
  | none=>simp
  | some d =>
    rw [hs] at h
    simp only at h
    by_cases hd:d<N
    · simp [act,hd,h,undef]
    · simp [act,hd]
theorem Ro.unwanted {l:List Oper} {Q:Post} {ds:List Deferred} {ρ:Env} {w:World} {o:Oper} {rest:List Oper} {g:Nat} {want:Bool} (hg:o.guard=some (g,want))
    (hy:yielded l.toArray (act N ds ρ).tmps g=none) (h':Ro P N r l.toArray rest Q ds (updo ρ o.dst undef) w):Ro P N r l.toArray (o :: rest) Q ds ρ w:=by
  intro q hq
  cases q with
  | nil=>simp at hq
  | cons j q =>
    simp only [List.map_cons,List.cons.injEq] at hq
    simp only [wpOpsIn,hq.1]
    have hw:Region.wanted o (yielded l.toArray (act N ds ρ).tmps)=false:=by cases want <;>simp [Region.wanted,hg,hy]
    simp only [hw,Bool.false_eq_true,if_false]
    refine ⟨fun _ _=>trivial,?_⟩
    rw [put_act]
    exact h' q hq.2
end Go.Mw
namespace Go.Mw
open Go.RowKit
variable {P : Program} {N : Nat} {r : Option Nat}
section ends
variable {K : List Deferred → Env → World → Prop} {Q : Post} {ds : List Deferred} {ρ : Env} {w : World}
theorem nT (h:K ds ρ w):Then K Q .normal ds ρ w:=h
theorem xT {j:Nat} (h:Q (.exit j) ds ρ w):Then K Q (.exit j) ds ρ w:=h
theorem rT (h:Q .ret ds ρ w):Then K Q .ret ds ρ w:=h
theorem nB {id:Nat} (h:Q .normal ds ρ w):InBlk id Q .normal ds ρ w:=h
theorem rB {id:Nat} (h:Q .ret ds ρ w):InBlk id Q .ret ds ρ w:=h
theorem xB {id:Nat} (h:Q .normal ds ρ w):InBlk id Q (.exit id) ds ρ w:=by
  have hb:Nat.beq id id=true:=by simp
  simp only [InBlk,hb,cond_true]
  exact h
theorem xO {id j:Nat} (hne:Nat.beq j id=false) (h:Q (.exit j) ds ρ w):InBlk id Q (.exit j) ds ρ w:=by
  simp only [InBlk,hne,cond_false]
  exact h
theorem zN {fn:Func} {R:Value→World→Prop} (h:Leave P N fn R ρ ds w):Body P N fn R .ret ds ρ w:=h
theorem bodyN {fn:Func} {R:Value→World→Prop} (h:Leave P N fn R ρ ds w):Body P N fn R .normal ds ρ w:=h
end ends
def blk (a:Option Addr):Nat:=match a with | some a=>a.block | none=>0
def yP (a:Option Addr):Nat:=match a with | some a=>a.off | none=>0
def Sl (w:World) (k:Nat) (xs:List (List Value)) (a:Option Addr):Prop :=
  ∀ j x,xs[j]? = some x→x.length=k∧a=some ⟨blk a,yP a,none⟩∧Cells w (blk a) (yP a+j*k) x
theorem Sl.ext {w w' k xs a} (h:Sl w k xs a) (kp:Keep Nm w w'):Sl w' k xs a:=fun j x hx=>let ⟨h1,h2,h3⟩:=h j x hx;⟨h1,h2,h3.ext kp⟩
theorem Sl.keep {M:Nat→Prop} {w w' k xs a} (h:Sl w k xs a) (hM:xs≠[]→¬ M (blk a)) (kp:Keep M w w'):Sl w' k xs a:=fun j x hx =>
  let ⟨h1,h2,h3⟩:=h j x hx;⟨h1,h2,h3.keep (hM (fun e=>by rw [e] at hx;simp at hx)) kp⟩
theorem Sl.cells {w k xs a} (h:Sl w k xs a) {j:Nat} {x:List Value} (hx:xs[j]? = some x):Cells w (blk a) (yP a+j*k) x:=(h j x hx).2.2
theorem zY {ρ:Env} {w:World} {t k c:Nat} {xs:List (List Value)} {a:Option Addr} {x y:Operand} {n:Int} {len:Nat} {e:List Value} (ht:TS P t k) (hs:Sl w k xs a) (hx:ev N ρ x = .slice a len c) (hl:len=xs.length)
    (hy:ev N ρ y=i n) (h0:0≤n) (hn:xs[n.toNat]? = some e):Runs P N (.indexAddr t x y) ρ w (p (blk a) (yP a+n.toNat*k)):=by
  obtain ⟨_,ha,_⟩:=hs _ _ hn
  have hlt:=(List.getElem?_eq_some_iff.1 hn).1
  have hx':ev N ρ x = .slice (some ⟨blk a,yP a,none⟩) len c:=by rw [hx,← ha]
  exact r_indexAddr ht hx' hy ⟨h0,by omega⟩
theorem Obs.run {l:List Oper} {Q:Post} {ds:List Deferred} {ρ:Env} {w:World} {φ:List (Value→World→Prop)} {B:World→Prop} (n:Nat)
    (hok:okDraw l n=true) (hB : ∀ w',Keep Nm w w'→B w') (hφ : ∀ k v w' w'',Keep Nm w' w''→(φ.getD k (fun _ _=>True)) v w'→(φ.getD k (fun _ _=>True)) v w'')
    (hobs:Obs P N l n B φ ρ 0 (l.take n))
    (hend : ∀ ρ' w',Keep Nm w w'→(∀ s,((l.take n).any fun o=>match o.dst with | some d=>Nat.beq d s | none=>false)=false→ρ' s=ρ s)→(∀ k,k<(l.take n).length→(φ.getD k (fun _ _=>True)) (got l ρ' k) w') →
      Ro P N r l.toArray (l.drop n) Q ds ρ' w'):Ro P N r l.toArray l Q ds ρ w:=by
  have ok:=okDraw_spec hok
  have key : ∀ (j:Nat),j≤(l.take n).length→∀ (ρ':Env) (w':World),Keep Nm w w'→(∀ s,((l.take n).any fun o=>match o.dst with | some d=>Nat.beq d s | none=>false)=false→ρ' s=ρ s) →
      (∀ k,k<(l.take n).length-j→(φ.getD k (fun _ _=>True)) (got l ρ' k) w')→Ro P N r l.toArray (l.drop ((l.take n).length-j)) Q ds ρ' w':=by
    intro j
    induction j with
    | zero =>
      intro _ ρ' w' hk hU hφl
      have:=hend ρ' w' hk hU (fun k hk=>hφl k (by omega))
      rcases Nat.lt_or_ge n l.length with h | h
      · simpa [Nat.min_eq_left (Nat.le_of_lt h)] using this
      · rw [List.drop_of_length_le h] at this
        simpa [List.take_of_length_le h] using this
    | succ j ih =>
      intro hj ρ' w' hk hU hφl
      generalize hm:(l.take n).length-(j+1)=m at *
      have hm1:(l.take n).length-j=m+1:=by omega
      have hmn:m<n∧m<l.length:=by simp at hm hj hm1;omega
      have hdrop:l.drop m=l[m] :: l.drop (m+1):=List.drop_eq_getElem_cons hmn.2
      rw [hdrop]
      have ho:l[m]? = some l[m]:=by simp [hmn.2]
      generalize hoe:l[m]=o at *
      have hob:Ob P N l n B φ ρ m o:=by
        have:=Obs.get hobs m o (by rw [List.getElem?_take];simp [hmn.1,ho])
        simpa using this
      have hslot:slot l m=o.dst:=by simp [slot,ho]
      have hO:=hob ρ' w' (hB w' hk) hU (fun k hk'=>by
        obtain ⟨e,he,hb,rfl⟩:=waitsFor_spec hk'
        exact hφl _ (ok.before m o ho e he hb))
      have next : ∀ v w'',Keep Nm w' w''→(φ.getD m (fun _ _=>True)) (outv o v) w''→Ro P N r l.toArray (l.drop (m+1)) Q ds (updo ρ' o.dst v) w'':=by
        intro v w'' hk'' hφm
        have:=ih (by omega) (updo ρ' o.dst v) w'' (hk.trans hk'') (fun s hs=>?_) (fun k hk1=>?_)
        · rwa [hm1] at this
        · rw [updo_other]
          · exact hU s hs
          · intro e
            rw [List.any_eq_false] at hs
            have:=hs o (List.mem_of_getElem? (i:=m) (by rw [List.getElem?_take];simp [hmn.1,ho]))
            rw [e] at this
            simp at this
        · rw [hm1] at hk1
          by_cases e:k=m
          · subst e
            have hg:got l (updo ρ' o.dst v) k=outv o v:=by
              unfold got outv
              rw [hslot]
              cases o.dst with
              | none=>rfl
              | some d=>simp [updo,upd_self]
            rw [hg]
            exact hφm
          · have hg:got l (updo ρ' o.dst v) k=got l ρ' k:=by
              unfold got
              cases hs:slot l k with
              | none=>rfl
              | some d =>
                simp only
                rw [updo_other]
                intro e'
                exact e (dst_unique ok (by omega) hmn.1 hs (by rw [hslot];exact e'))
            rw [hg]
            exact hφ k _ w' w'' hk'' (hφl k (by omega))
      cases hgd:o.guard with
      | none =>
        rw [hgd] at hO
        exact Ro.cons hgd (ok.calm m o ho) (hO.mono fun v w'' ⟨h1,h2⟩=>next v w'' h1 h2)
      | some gw =>
        obtain ⟨g,want⟩:=gw
        rw [hgd] at hO
        rcases hO with ⟨b,hb,hsome,hN,hyes,hno⟩ | ⟨hund,hno⟩
        · obtain ⟨d,hd⟩:=Option.isSome_iff_exists.1 hsome
          refine Ro.want hgd (d:=d) (b:=b) (by simpa [slot] using hd) (by simpa [hd] using hN) (by simpa [got,hd] using hb) (ok.calm m o ho) (fun h=>(hyes h).mono fun v w'' ⟨h1,h2⟩=>next v w'' h1 h2) (fun h=>?_)
          exact next undef w' (Keep.refl _ _) (by have:=hno h;unfold outv;cases o.dst <;>exact this)
        · refine Ro.unwanted hgd ?_ (next undef w' (Keep.refl _ _) (by unfold outv;cases o.dst <;>exact hno))
          exact yielded_undef hund
  have:=key (l.take n).length (Nat.le_refl _) ρ w (Keep.refl _ _) (fun _ _=>rfl) (fun k hk=>by omega)
  simpa using this
theorem Wp.facts {id:Nat} {l:List Oper} {Q:Post} {ds:List Deferred} {ρ:Env} {w:World} (n:Nat) (φ:List (Value→World→Prop)) (B:World→Prop)
    (hok:okDraw l n=true) (hB : ∀ w',Keep Nm w w'→B w') (hφ : ∀ k v w' w'',Keep Nm w' w''→(φ.getD k (fun _ _=>True)) v w'→(φ.getD k (fun _ _=>True)) v w'')
    (hobs:Obs P N l n B φ ρ 0 (l.take n))
    (hend : ∀ ρ' w',Keep Nm w w'→(∀ s,((l.take n).any fun o=>match o.dst with | some d=>Nat.beq d s | none=>false)=false→ρ' s=ρ s)→(∀ k,k<(l.take n).length→(φ.getD k (fun _ _=>True)) (got l ρ' k) w') →
      Ro P N r l.toArray (l.drop n) Q ds ρ' w'):Wp P N r (.region id l.toArray false) Q ds ρ w :=
  Wp.region (Obs.run n hok hB hφ hobs hend)
end Go.Mw
