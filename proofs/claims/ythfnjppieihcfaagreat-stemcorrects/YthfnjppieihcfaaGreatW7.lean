/- Part of the proof: what the last text of this claim imports. -/
import Derived.Test.YthfnjppieihcfaaGreatW6
import Derived.Maps.AppendAt
import Derived.RangeFuncIn
set_option linter.unusedSimpArgs false
set_option linter.unusedVariables false
set_option maxRecDepth 100000
namespace Go.Mw
open Go.RowKit
variable {P : Program} {N : Nat} {r : Option Nat} {M : Nat → Prop} {w0 : World} {L : List (Nat × Obj)}
def OwnRow (e k:Nat) (a:Option Addr) (n c:Nat) (xs:List Value) (L0:List (Nat×Obj)):Prop :=
  xs.length=n*k∧((a=none∧n=0∧c=0∧L0=[]) ∨
    ∃ g cur,a=some ⟨g,0,none⟩∧L0=[(g,.cells cur e (0,0))]∧n≤c∧c≤maxLen∧cur.size=c*k∧cur.toList.take (n*k)=xs)
theorem OwnRow.nil (e k:Nat):OwnRow e k none 0 0 [] []:=⟨by simp,.inl ⟨rfl,rfl,rfl,rfl⟩⟩
/-- facts of a type of elements -/
def TR (P:Program) (t e k by_:Nat):Prop:=P.underlying t=some (.slice e)∧∃ i z,P.info? e=some i∧i.zero=some z∧i.size=k∧i.bytes=by_∧z.cells.size=k∧0<k
theorem Keep.of_grown {w w':World} {row:Option Nat} (h:w.grownBy w' row):Keep (fun k=>some k=row) w w' :=
  ⟨h.os,h.tape,h.output,h.size,fun k hk hm=>h.block k hk hm⟩
theorem S.grown {L0:List (Nat×Obj)} {w w':World} {row:Option Nat} {g:Nat} {ob:Obj} (H:S M w0 (L0++L) w) (hg:w.grownBy w' row) (hrow : ∀ q,row=some q→q∈L0.map (·.1))
    (hob:w'.heap[g]? = some ob) (hg':g∈L0.map (·.1)∨w.heap.size≤g):S M w0 ((g,ob) :: L) w':=by
  have hd:=List.pairwise_append.1 H.dist
  have hne : ∀ p∈L,p.1 ∉ L0.map (·.1):=by
    intro p hp hm
    obtain ⟨q,hq,e⟩:=List.mem_map.1 hm
    exact hd.2.2 q hq p hp e
  have hL : ∀ p∈L,w'.heap[p.1]? = some p.2:=by
    intro p hp
    rw [hg.block p.1 (H.lt (List.mem_append_right _ hp)) (fun e=>hne p hp (hrow _ e.symm))]
    exact H.own p (List.mem_append_right _ hp)
  refine ⟨?_,?_,List.pairwise_cons.2 ⟨?_,hd.2.1⟩,?_⟩
  · refine ⟨hg.os.trans H.keep.os,hg.tape.trans H.keep.tape,hg.output.trans H.keep.output,Nat.le_trans H.keep.size hg.size,fun k hk hm=>?_⟩
    rw [hg.block k (Nat.lt_of_lt_of_le hk H.keep.size) ?_]
    · exact H.keep.block k hk hm
    · intro e
      obtain ⟨q,hq,rfl⟩:=List.mem_map.1 (hrow _ e.symm)
      rcases H.fresh q (List.mem_append_left _ hq) with h | h
      · omega
      · exact hm h
  · intro p hp
    rcases List.mem_cons.1 hp with rfl | hp
    · exact hob
    · exact hL p hp
  · intro p hp e
    simp only at e
    rcases hg' with h | h
    · exact hne p hp (e ▸ h)
    · have:=H.lt (List.mem_append_right L0 hp);omega
  · intro p hp
    rcases List.mem_cons.1 hp with rfl | hp
    · rcases hg' with h | h
      · obtain ⟨q,hq,e⟩:=List.mem_map.1 h
        have:=H.fresh q (List.mem_append_left _ hq)
        simp only at e ⊢
        rwa [← e]
      · exact .inl (Nat.le_trans H.keep.size h)
    · exact H.fresh p (List.mem_append_right _ hp)
section
variable {o : Oper} {ρ : Env} {w : World} {K : Value → World → Prop}
theorem S.append {L0:List (Nat×Obj)} {e k n c m m' t by_ b:Nat} {a:Option Addr} {xs news:List Value} {x y:Operand} (H:S M w0 (L0++L) w) (hr:OwnRow e k a n c xs L0) (hT:TR P t e k by_)
    (ho:o.op = .call { callee:=.builtin .append,args:=#[x,y],argTypes:=#[t,t] }) (hx:ev N ρ x = .slice a n c) (hy:ev N ρ y = .slice (some ⟨b,0,none⟩) m m')
    (hb:Cells w b 0 news) (hl:news.length=m*k) (h1 : ∀ u∈news,u.oneCell'=true) (h63:n+m≤maxLen) (hby:(n+m)*by_≤140737488355328)
    (hk : ∀ a' c' L0' w',OwnRow e k a' (n+m) c' (xs++news) L0'→S M w0 (L0'++L) w'→K (.slice a' (n+m) c') w'):Does P N o ρ w K:=by
  obtain ⟨ht,ti,z,hi,hz,hsize,hbytes,hzs,hk0⟩:=hT
  have hown:w.ownsRow 0 e k (.slice a n c) n xs:=by
    refine ⟨hr.1,?_⟩
    rcases hr.2 with ⟨rfl,rfl,rfl,rfl⟩ | ⟨g,cur,rfl,rfl,h1,h2,h3,h4⟩
    · exact .inl ⟨rfl,rfl⟩
    · exact .inr ⟨g,c,cur,rfl,Nat.zero_le _,H.own (g,_) (by simp),h1,h2,h3,h4⟩
  obtain ⟨v',w',hrun,hown',hg,hiff,hblk⟩:=run_append_own_at (P:=P) (w:=w) 0 t o.type e ti z k by_ ht hi hz hsize hbytes hzs hk0 (.slice a n c) n xs hown ⟨b,0,none⟩ m m' news hl
    (fun j u hj=>by have:=hb.cell j hj;rw [Nat.zero_add] at this;simp only [Addr.add];split <;>simp_all) h1 h63 hby (Nat.zero_le _)
  have hex:(execOp (ev N ρ) o).run P w = .ok (.value v') w':=by
    simp only [execOp,ho]
    simp [resolve,invoke,builtin,hx,hy,hrun]
  have hrow : ∀ q,(Value.slice a n c).ownBlock=some q→q∈L0.map (·.1):=by
    intro q hq
    rcases hr.2 with ⟨rfl,rfl,rfl,rfl⟩ | ⟨g,cur,rfl,rfl,_⟩
    · simp [Value.ownBlock] at hq
    · simp [Value.ownBlock] at hq;simp [hq]
  obtain ⟨hlen,hown'⟩:=hown'
  rcases hown' with ⟨rfl,hnm⟩ | ⟨g,cap,cur,rfl,_,hcell,hle,hmax,hcur,htake⟩
  · obtain ⟨hv,hm⟩:=hiff.1 rfl
    injection hv with hva hvn hvc
    subst hva;subst hvn;subst hvc;subst hm
    have hL0:L0=[]:=by
      rcases hr.2 with ⟨_,_,_,h⟩ | ⟨g,cur,h,_⟩
      · exact h
      · cases h
    subst hL0
    refine does_val hex (hk none 0 [] w' ⟨hlen,.inl ⟨rfl,rfl,rfl,rfl⟩⟩ ?_)
    refine H.ext ?_
    exact (Keep.of_grown hg).mono fun q _ e=>by simp [Value.ownBlock] at e
  · refine does_val hex (hk _ cap [(g,.cells cur e (0,0))] w' ⟨hlen,.inr ⟨g,cur,rfl,rfl,hle,hmax,hcur,htake⟩⟩ ?_)
    refine H.grown hg hrow hcell ?_
    rcases hblk with h | h
    · exact .inl (hrow g (by rw [← h];rfl))
    · simp [Value.ownBlock] at h;exact .inr (by omega)
end
abbrev mkD (D:Nat):Deferred:={ target:=.collected D,args:=#[] }
/-- what a function does that goes through some things: it hands each to yield, until that says no -/
def SeqC {α:Type} (P:Program) (gf:FuncId) (cv:List Value) (enc:α→Value) (Mem:α→Prop) (Mc:Nat→Prop) (w1:World):Prop :=
  ∀ (l:Nat) (J:List α→World→Prop) (Jx:World→Prop),
    (∀ pre w' w'',J pre w'→Keep (fun k=>w1.heap.size≤k) w' w''→J pre w'') →
    (∀ w' w'',Jx w'→Keep (fun k=>w1.heap.size≤k) w' w''→Jx w'') →
    (∀ pre t w',J pre w'→Mem t→Yield P l [enc t] w' fun v w''=>Keep Mc w' w''∧((v = .bool true∧J (pre++[t]) w'')∨(v = .bool false∧Jx w''))) →
    J [] w1→Calls P gf (.func (.yield l) #[] #[] :: cv).toArray w1 fun e w2=>∃ v,e = .returned v∧((∃ xs,(∀ t,t∈xs↔Mem t)∧J xs w2)∨Jx w2)
/-- .. of which more is known when it comes up -/
def SeqG {α:Type} (P:Program) (gf:FuncId) (cv:List Value) (enc:α→Value) (Mem:α→Prop) (Ok:List α→α→Prop) (Mc:Nat→Prop) (w1:World):Prop :=
  ∀ (l:Nat) (J:List α→World→Prop) (Jx:World→Prop),
    (∀ pre w' w'',J pre w'→Keep (fun k=>w1.heap.size≤k) w' w''→J pre w'') →
    (∀ w' w'',Jx w'→Keep (fun k=>w1.heap.size≤k) w' w''→Jx w'') →
    (∀ pre t w',J pre w'→Mem t→Ok pre t→Yield P l [enc t] w' fun v w''=>Keep Mc w' w''∧((v = .bool true∧J (pre++[t]) w'')∨(v = .bool false∧Jx w''))) →
    J [] w1→Calls P gf (.func (.yield l) #[] #[] :: cv).toArray w1 fun e w2=>∃ v,e = .returned v∧((∃ xs,(∀ t,t∈xs↔Mem t)∧J xs w2)∨Jx w2)
def RP {α:Type} (M:Nat→Prop) (J:List α→World→Prop) (Jx:Code→World→Prop) (xs:List α) (W2:World):Post
  | .normal,_,_,W3=>Keep M W2 W3∧J xs W3
  | .ret,_,_,W3=>Keep M W2 W3∧Jx .ret W3
  | .exit id,_,_,W3=>Keep M W2 W3∧Jx (.exit id) W3
  | _,_,_,_=>False
theorem keep_putObj (w:World) (l:Nat) (o:Obj):Keep (fun k=>k=l) w (w.putObj l o) :=
  ⟨rfl,rfl,rfl,by simp,fun k _ hk=>World.putObj_heap_other hk⟩
theorem Wp.rangeG {α:Type} {Ok:List α→α→Prop} {g ps:Nat} {assign body:Code} {Q:Post} {ds:List Deferred} {ρ:Env} {w:World} {gf:FuncId} {cv:List Value} {enc:α→Value} {Mem:α→Prop}
    (hg:ev N ρ (.tmp g) = .func (.func gf) #[] cv.toArray) (he:Go.Proofs.Enters P gf) (M:Nat→Prop) (hM : ∀ k,M k→k<w.heap.size)
    (J:List α→World→Prop) (Jx:Code→World→Prop)
    (hJ : ∀ pre w' w'',J pre w'→Keep (fun k=>w.heap.size≤k) w' w''→J pre w'') (hJx : ∀ c w' w'',Jx c w'→Keep (fun k=>w.heap.size≤k) w' w''→Jx c w'') (h0:J [] w)
    (hseq : ∀ w1,Keep Nm w w1→SeqG P gf cv enc Mem Ok (fun k=>M k∨(w.heap.size≤k∧k<w1.heap.size)) w1)
    (hround : ∀ l pre t W,w.heap.size≤l→l<W.heap.size→J pre W→Mem t→Ok pre t→Wp P N (some l) assign (fun e ds1 ρ1 W1=>e = .normal∧Keep M W W1∧∀ W2,Keep (fun k=>k=l) W1 W2→Wp P N (some l) body (RP M J Jx (pre++[t]) W2) ds1 ρ1 W2) [] (upd ρ ps (enc t)) W)
    (hdone : ∀ D xs W,w.heap.size≤D→(∀ t,t∈xs↔Mem t)→J xs W→W.heap[D]? = some (.deferred (some []))→Q .normal (mkD D :: ds) ρ W)
    (hstop : ∀ D c W,w.heap.size≤D→Jx c W→W.heap[D]? = some (.deferred (some []))→Wp P N none c Q (mkD D :: ds) ρ W) :
    Wp P N none (.rangeFunc (.tmp g) #[ps] assign body) Q ds ρ w:=by
  refine wpIn_rangeFunc ?_
  intro fn hfn
  obtain ⟨rec,hrec⟩ : ∃ rec:LoopState→Option Code→Loop,rec=fun st pe=>{ state:=st,pending:=pe,fn,tmps:=(act N ds ρ).tmps,params:=#[ps],assign,body,defers:=w.heap.size }:=⟨_,rfl⟩
  obtain ⟨W1,hW1⟩ : ∃ W1,(w.alloc (.deferred (some []))).alloc (.loop (rec .ready none))=W1:=⟨_,rfl⟩
  have hL1:W1.heap[w.heap.size+1]? = some (.loop (rec .ready none)):=by
    rw [← hW1];have:=World.alloc_heap_new (w.alloc (.deferred (some []))) (.loop (rec .ready none));rwa [World.size_alloc] at this
  have hD1:W1.heap[w.heap.size]? = some (.deferred (some [])):=by
    rw [← hW1];exact (Below.heap_alloc _ _ _ (by simp)).trans (World.alloc_heap_new w _)
  have hk1:Keep Nm w W1:=by rw [← hW1];exact (keep_alloc _ _).trans (keep_alloc _ _)
  have hs1:W1.heap.size=w.heap.size+2:=by rw [← hW1];simp
  refine ⟨w.heap.size+1,[mkD w.heap.size],W1,{ target:=.fn (.func gf) cv.toArray,args:=#[.func (.yield (w.heap.size+1)) #[] #[]] },W1,gf,
    #[.func (.yield (w.heap.size+1)) #[] #[]]++cv.toArray,W1,?_,?_,?_,?_,(fun h=>by cases h),?_⟩
  · rw [← hW1,hrec];exact run_enterLoop_outer _ _ _ _ _
  · rw [eval_act]
    simp only [resolve,hg]
    simp [go_sem,ev]
  · intro f' hf';trivial
  · have h:=fun a w=>he a w
    simp [invoke,go_sem,h]
  · refine (callsIn_wide (n:=0-1)).2 ?_
    have hargs:(#[.func (.yield (w.heap.size+1)) #[] #[]]++cv.toArray:Array Value)=(.func (.yield (w.heap.size+1)) #[] #[] :: cv).toArray:=by simp
    rw [hargs]
    refine (hseq W1 hk1 (w.heap.size+1)
      (fun pre W=>J pre W∧W.heap[w.heap.size+1]? = some (.loop (rec .ready none))∧W.heap[w.heap.size]? = some (.deferred (some [])))
      (fun W=>∃ c,Jx c W∧W.heap[w.heap.size+1]? = some (.loop (rec .done (some c)))∧W.heap[w.heap.size]? = some (.deferred (some [])))
      ?_ ?_ ?_ ⟨hJ _ _ _ h0 hk1.any,hL1,hD1⟩).mono ?_
    · rintro pre w' w'' ⟨h1,h2,h3⟩ k
      refine ⟨hJ _ _ _ h1 (k.mono fun q _ hq=>by omega),?_,?_⟩
      · exact (k.block _ (Array.getElem?_eq_some_iff.1 h2).1 (by omega)).trans h2
      · exact (k.block _ (Array.getElem?_eq_some_iff.1 h3).1 (by omega)).trans h3
    · rintro w' w'' ⟨c,h1,h2,h3⟩ k
      refine ⟨c,hJx _ _ _ h1 (k.mono fun q _ hq=>by omega),?_,?_⟩
      · exact (k.block _ (Array.getElem?_eq_some_iff.1 h2).1 (by omega)).trans h2
      · exact (k.block _ (Array.getElem?_eq_some_iff.1 h3).1 (by omega)).trans h3
    · rintro pre t W ⟨hj,hl,hd⟩ ht hok
      have hy:=run_yield (P:=P) (args:=#[enc t]) hl (by rw [hrec];rfl)
      rw [hrec] at hy
      refine ⟨fn,_,assign,body,hy,roundIn_of_wpIn (F:=FW none) trivial ?_⟩
      have htm:({ tmps:=(#[ps].zip #[enc t]).foldl (fun tmps (t,a)=>tmps.setIfInBounds t a) (act N ds ρ).tmps,defers:=[] }:Act)=act N [] (upd ρ ps (enc t)):=by
        have:=put_act N [] ρ (some ps) (enc t)
        simpa [Act.put,act,updo] using this
      rw [htm]
      refine wpIn_mono (hround (w.heap.size+1) pre t W (by omega) (Array.getElem?_eq_some_iff.1 hl).1 hj ht hok) ?_
      rintro e a1 Wa ⟨ds1,ρ1,rfl,rfl,ka,hb⟩
      have hla:Wa.heap[w.heap.size+1]? = some (.loop (rec .ready none)):=(ka.block _ (Array.getElem?_eq_some_iff.1 hl).1 (fun h=>by have:=hM _ h;omega)).trans hl
      have hda:Wa.heap[w.heap.size]? = some (.deferred (some [])):=(ka.block _ (Array.getElem?_eq_some_iff.1 hd).1 (fun h=>by have:=hM _ h;omega)).trans hd
      refine ⟨_,run_beginRound hla (by rw [hrec]),?_⟩
      have hlt:=(Array.getElem?_eq_some_iff.1 hla).1
      have k2:=keep_putObj Wa (w.heap.size+1) (.loop { rec .ready none with state:=.busy })
      have hl2:(Wa.putObj (w.heap.size+1) (.loop { rec .ready none with state:=.busy })).heap[w.heap.size+1]? = some (.loop { rec .ready none with state:=.busy }):=World.putObj_heap_same hlt
      have hd2:(Wa.putObj (w.heap.size+1) (.loop { rec .ready none with state:=.busy })).heap[w.heap.size]? = some (.deferred (some [])):=(World.putObj_heap_other (by omega)).trans hda
      refine wpIn_mono (hb _ k2) ?_
      have fin : ∀ (jump:Option Code) (W3:World),Keep M (Wa.putObj (w.heap.size+1) (.loop { rec .ready none with state:=.busy })) W3 →
          (Instr.endRound (w.heap.size+1) jump).run P W3 = .ok (.bool jump.isNone) (W3.putObj (w.heap.size+1) (.loop (rec (if jump.isNone then .ready else .done) jump))) ∧
          (W3.putObj (w.heap.size+1) (.loop (rec (if jump.isNone then .ready else .done) jump))).heap[w.heap.size+1]? = some (.loop (rec (if jump.isNone then .ready else .done) jump)) ∧
          (W3.putObj (w.heap.size+1) (.loop (rec (if jump.isNone then .ready else .done) jump))).heap[w.heap.size]? = some (.deferred (some [])) ∧
          Keep (fun k=>M k∨(w.heap.size≤k∧k<W1.heap.size)) W (W3.putObj (w.heap.size+1) (.loop (rec (if jump.isNone then .ready else .done) jump))):=fun jump W3 k3=>by
        have hl3:=(k3.block _ (Array.getElem?_eq_some_iff.1 hl2).1 (fun h=>by have:=hM _ h;omega)).trans hl2
        have hd3:=(k3.block _ (Array.getElem?_eq_some_iff.1 hd2).1 (fun h=>by have:=hM _ h;omega)).trans hd2
        have:=run_endRound (P:=P) jump hl3
        rw [hrec] at this ⊢
        refine ⟨this,World.putObj_heap_same (Array.getElem?_eq_some_iff.1 hl3).1,(World.putObj_heap_other (by omega)).trans hd3,?_⟩
        have c1:Keep (fun k=>M k∨(w.heap.size≤k∧k<W1.heap.size)) W Wa:=ka.mono fun _ _ h=>.inl h
        have c2:=k2.mono (M':=fun k=>M k∨(w.heap.size≤k∧k<W1.heap.size)) fun q _ h=>.inr (by omega)
        have c3:Keep (fun k=>M k∨(w.heap.size≤k∧k<W1.heap.size)) _ W3:=k3.mono fun _ _ h=>.inl h
        have c4:=(keep_putObj W3 (w.heap.size+1) (.loop (rec (if jump.isNone then .ready else .done) jump))).mono (M':=fun k=>M k∨(w.heap.size≤k∧k<W1.heap.size)) fun q _ h=>.inr (by omega)
        rw [hrec] at c2 c3 c4
        exact ((c1.trans c2).trans c3).trans c4
      rintro e a3 W3 ⟨ds3,ρ3,rfl,hp⟩
      cases e with
      | normal =>
        obtain ⟨k3,hj3⟩:=hp
        obtain ⟨hr,hl4,hd4,k4⟩:=fin none W3 k3
        exact ⟨_,_,hr,_,rfl,k4,.inl ⟨rfl,hJ _ _ _ hj3 ((keep_putObj W3 _ _).mono fun q _ h=>by omega),hl4,hd4⟩⟩
      | ret =>
        obtain ⟨k3,hj3⟩:=hp
        obtain ⟨hr,hl4,hd4,k4⟩:=fin (some .ret) W3 k3
        exact ⟨_,_,hr,_,rfl,k4,.inr ⟨rfl,.ret,hJx _ _ _ hj3 ((keep_putObj W3 _ _).mono fun q _ h=>by omega),hl4,hd4⟩⟩
      | exit id =>
        obtain ⟨k3,hj3⟩:=hp
        obtain ⟨hr,hl4,hd4,k4⟩:=fin (some (.exit id)) W3 k3
        exact ⟨_,_,hr,_,rfl,k4,.inr ⟨rfl,.exit id,hJx _ _ _ hj3 ((keep_putObj W3 _ _).mono fun q _ h=>by omega),hl4,hd4⟩⟩
      | goto t=>exact hp.elim
      | panic ch=>exact hp.elim
      | outgrown=>exact hp.elim
    · rintro e W2 ⟨v,rfl,(⟨xs,hxs,hj,hl,hd⟩ | ⟨c,hj,hl,hd⟩)⟩
      · have hend:=run_endLoop (P:=P) hl (by rw [hrec];simp)
        rw [hrec] at hend
        refine ⟨none,_,hend,⟨mkD w.heap.size :: ds,ρ,rfl,?_⟩⟩
        exact hdone w.heap.size xs _ (Nat.le_refl _) hxs (hJ _ _ _ hj ((keep_putObj W2 _ _).mono fun q _ h=>by omega)) ((World.putObj_heap_other (by omega)).trans hd)
      · have hend:=run_endLoop (P:=P) hl (by rw [hrec];simp)
        rw [hrec] at hend
        refine ⟨some c,_,hend,?_⟩
        exact hstop w.heap.size c _ (Nat.le_refl _) (hJx _ _ _ hj ((keep_putObj W2 _ _).mono fun q _ h=>by omega)) ((World.putObj_heap_other (by omega)).trans hd)
theorem Wp.rangeF {α:Type} {g ps:Nat} {assign body:Code} {Q:Post} {ds:List Deferred} {ρ:Env} {w:World} {gf:FuncId} {cv:List Value} {enc:α→Value} {Mem:α→Prop}
    (hg:ev N ρ (.tmp g) = .func (.func gf) #[] cv.toArray) (he:Go.Proofs.Enters P gf) (M:Nat→Prop) (hM : ∀ k,M k→k<w.heap.size)
    (J:List α→World→Prop) (Jx:Code→World→Prop)
    (hJ : ∀ pre w' w'',J pre w'→Keep (fun k=>w.heap.size≤k) w' w''→J pre w'') (hJx : ∀ c w' w'',Jx c w'→Keep (fun k=>w.heap.size≤k) w' w''→Jx c w'') (h0:J [] w)
    (hseq : ∀ w1,Keep Nm w w1→SeqC P gf cv enc Mem (fun k=>M k∨(w.heap.size≤k∧k<w1.heap.size)) w1)
    (hround : ∀ l pre t W,w.heap.size≤l→l<W.heap.size→J pre W→Mem t→Wp P N (some l) assign (fun e ds1 ρ1 W1=>e = .normal∧Keep M W W1∧∀ W2,Keep (fun k=>k=l) W1 W2→Wp P N (some l) body (RP M J Jx (pre++[t]) W2) ds1 ρ1 W2) [] (upd ρ ps (enc t)) W)
    (hdone : ∀ D xs W,w.heap.size≤D→(∀ t,t∈xs↔Mem t)→J xs W→W.heap[D]? = some (.deferred (some []))→Q .normal (mkD D :: ds) ρ W)
    (hstop : ∀ D c W,w.heap.size≤D→Jx c W→W.heap[D]? = some (.deferred (some []))→Wp P N none c Q (mkD D :: ds) ρ W) :
    Wp P N none (.rangeFunc (.tmp g) #[ps] assign body) Q ds ρ w :=
  Wp.rangeG (Ok:=fun _ _=>True) hg he M hM J Jx hJ hJx h0 (fun w1 k l J Jx a b c d=>hseq w1 k l J Jx a b (fun pre t w' h1 h2=>c pre t w' h1 h2 trivial) d) (fun l pre t W a b c d _=>hround l pre t W a b c d) hdone hstop
end Go.Mw
