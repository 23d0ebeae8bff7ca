/- Part of the proof: what the last text of this claim imports. -/
import Derived.Test.YthfnjppieihcfaaGreatW4
import Derived.LoopNIn
set_option linter.unusedSimpArgs false
set_option linter.unusedVariables false
set_option maxRecDepth 100000
namespace Go.Mw
open Go.RowKit
variable {P : Program} {N : Nat} {r : Option Nat} {M : Nat → Prop} {w0 : World} {L : List (Nat × Obj)}
section
variable {o : Oper} {ρ : Env} {w : World} {K : Value → World → Prop} {Q : Post} {ds : List Deferred}
theorem r_index {t:TypeId} {x y:Operand} {X Y v:Value} (hx:ev N ρ x=X) (hy:ev N ρ y=Y) (h : ∀ w,(Instr.index t X Y).run P w = .ok v w):Runs P N (.index t x y) ρ w v:=by
  intro o ho
  simp only [execOp,ho,hx,hy]
  simp [h w]
theorem Runs.to {op:Op} {v v':Value} (h:Runs P N op ρ w v) (e:v=v'):Runs P N op ρ w v':=e ▸ h
/-- so many rounds at most -/
def Rounds (P:Program) (N:Nat) (r:Option Nat) (c:Code) (Q:Post):Nat→List Deferred→Env→World→Prop
  | 0,_,_,_=>False
  | m+1,ds,ρ,w=>Wp P N r c (Then (Rounds P N r c Q m) Q) ds ρ w
theorem Rounds.next {c:Code} {m:Nat} (h:Wp P N r c (Then (Rounds P N r c Q m) Q) ds ρ w):Rounds P N r c Q (m+1) ds ρ w:=h
theorem Wp.rounds {c:Code} (m:Nat) (h:Rounds P N r c Q m ds ρ w):Wp P N r (.loop c) Q ds ρ w:=by
  have key : ∀ m ds ρ w,Rounds P N r c Q m ds ρ w→Code.roundsIn (FW r) 0 P c (lift N Q) m (act N ds ρ) w:=by
    intro m
    induction m with
    | zero=>intro _ _ _ h;exact h.elim
    | succ m ih =>
      intro ds ρ w h
      rw [roundsIn_succ]
      refine wpIn_mono h ?_
      rintro e a w ⟨ds,ρ,rfl,q⟩
      cases e with
      | normal=>exact ih _ _ _ q
      | _=>exact ⟨ds,ρ,rfl,q⟩
  exact wpIn_loop_rounds m (key m ds ρ w h)
end
theorem mulin {a b A B:Int} (ha : -A≤a∧a≤A) (hb : -B≤b∧b≤B) : -(A*B)≤a*b∧a*b≤A*B:=by
  have h1:(a*b).natAbs≤A.natAbs*B.natAbs:=by
    rw [Int.natAbs_mul]
    exact Nat.mul_le_mul (by omega) (by omega)
  have h2:((A.natAbs*B.natAbs:Nat):Int)=A*B:=by
    rw [Int.natCast_mul,Int.natAbs_of_nonneg (by omega),Int.natAbs_of_nonneg (by omega)]
  omega
theorem quo_lo {n b:Int} (hb:0<b) (h:n.tmod b<0):n.tdiv b-1=n / b:=by
  have h1:=Int.mul_tdiv_add_tmod n b
  have h2:=Int.lt_tmod_of_pos n hb
  have h3:n / b=n.tdiv b-1:=by
    rw [Int.ediv_eq_iff_of_pos hb]
    constructor <;>grind
  exact h3.symm
theorem quo_hi {n b:Int} (hb:0<b) (h : ¬ n.tmod b<0):n.tdiv b=n / b:=by
  have h1:=Int.mul_tdiv_add_tmod n b
  have h2:=Int.tmod_lt_of_pos n hb
  have h3:n / b=n.tdiv b:=by
    rw [Int.ediv_eq_iff_of_pos hb]
    constructor <;>grind
  exact h3.symm
theorem quo_in {n b A:Int} (hb:0<b) (h : -A≤n∧n≤A) : -A≤n.tdiv b∧n.tdiv b≤A:=by
  have h1:(n.tdiv b).natAbs≤n.natAbs:=by
    rw [Int.natAbs_tdiv];exact Nat.div_le_self _ _
  omega
theorem ediv_in {n b A:Int} (hb:1<b) (h : -A≤n∧n≤A) : -A≤n / b∧n / b≤A:=by
  have hb0:0<b:=by omega
  constructor
  · rw [Int.le_ediv_iff_mul_le hb0]
    have:A*1≤A*b:=Int.mul_le_mul_of_nonneg_left (by omega) (by omega)
    have h2 : -A*b = -(A*b):=Int.neg_mul A b
    omega
  · have h1:n / b≤n.natAbs:=by
      rcases Int.le_total 0 n with h0 | h0
      · have:=Int.ediv_le_self (b:=b) h0;omega
      · have h5:n / b≤0:=by
          have:n / b<1:=by rw [Int.ediv_lt_iff_lt_mul hb0];omega
          omega
        omega
    omega
end Go.Mw
namespace Go.Proofs.YthfnjppieihcfaaGreat
open Go.RowKit Go.Proofs Go.Mw
theorem en102:Go.Proofs.Enters Tryz.prog 102:=Go.Proofs.enters_of Tryz.func102 (by kernel_rfl) rfl
theorem en103:Go.Proofs.Enters Tryz.prog 103:=Go.Proofs.enters_of Tryz.func103 (by kernel_rfl) rfl
theorem en110:Go.Proofs.Enters Tryz.prog 110:=Go.Proofs.enters_of Tryz.func110 (by kernel_rfl) rfl
theorem en116:Go.Proofs.Enters Tryz.prog 116:=Go.Proofs.enters_of Tryz.func116 (by kernel_rfl) rfl
theorem en117:Go.Proofs.Enters Tryz.prog 117:=Go.Proofs.enters_of Tryz.func117 (by kernel_rfl) rfl
theorem en129:Go.Proofs.Enters Tryz.prog 129:=Go.Proofs.enters_of Tryz.func129 (by kernel_rfl) rfl
theorem en140:Go.Proofs.Enters Tryz.prog 140:=Go.Proofs.enters_of Tryz.func140 (by kernel_rfl) rfl
theorem en141:Go.Proofs.Enters Tryz.prog 141:=Go.Proofs.enters_of Tryz.func141 (by kernel_rfl) rfl
theorem fo161_0:FO Tryz.prog 161 0 0:=fun _ _ _=>by kernel_rfl
theorem fo161_1:FO Tryz.prog 161 1 1:=fun _ _ _=>by kernel_rfl
theorem fo164_0:FO Tryz.prog 164 0 0:=fun _ _ _=>by kernel_rfl
theorem fo164_1:FO Tryz.prog 164 1 1:=fun _ _ _=>by kernel_rfl
theorem fo43_0:FO Tryz.prog 43 0 0:=fun _ _ _=>by kernel_rfl
theorem fo43_1:FO Tryz.prog 43 1 1:=fun _ _ _=>by kernel_rfl
theorem fo43_2:FO Tryz.prog 43 2 2:=fun _ _ _=>by kernel_rfl
theorem fo43_3:FO Tryz.prog 43 3 3:=fun _ _ _=>by kernel_rfl
theorem fo45_0:FO Tryz.prog 45 0 0:=fun _ _ _=>by kernel_rfl
theorem fo45_1:FO Tryz.prog 45 1 5:=fun _ _ _=>by kernel_rfl
theorem fo45_2:FO Tryz.prog 45 2 7:=fun _ _ _=>by kernel_rfl
theorem fo45_3:FO Tryz.prog 45 3 9:=fun _ _ _=>by kernel_rfl
theorem fo45_4:FO Tryz.prog 45 4 11:=fun _ _ _=>by kernel_rfl
theorem fo52_0:FO Tryz.prog 52 0 0:=fun _ _ _=>by kernel_rfl
theorem fo52_1:FO Tryz.prog 52 1 1:=fun _ _ _=>by kernel_rfl
theorem fo52_2:FO Tryz.prog 52 2 2:=fun _ _ _=>by kernel_rfl
theorem fo52_3:FO Tryz.prog 52 3 3:=fun _ _ _=>by kernel_rfl
theorem fo52_4:FO Tryz.prog 52 4 4:=fun _ _ _=>by kernel_rfl
theorem fo52_5:FO Tryz.prog 52 5 6:=fun _ _ _=>by kernel_rfl
theorem fo52_6:FO Tryz.prog 52 6 8:=fun _ _ _=>by kernel_rfl
theorem sz161 : ∀ w,(sizeOf 161).run Tryz.prog w = .ok 3 w:=fun _=>by kernel_rfl
theorem sz164 : ∀ w,(sizeOf 164).run Tryz.prog w = .ok 2 w:=fun _=>by kernel_rfl
theorem t1_39:T1 Tryz.prog 39:=⟨Tryz.isAgg39,fun _=>by kernel_rfl⟩
theorem t1_40:T1 Tryz.prog 40:=⟨Tryz.isAgg40,fun _=>by kernel_rfl⟩
theorem ta161:TA Tryz.prog 161 3:=⟨Tryz.isAgg161,fun _=>by kernel_rfl⟩
theorem ta164:TA Tryz.prog 164 2:=⟨Tryz.isAgg164,fun _=>by kernel_rfl⟩
theorem ta43:TA Tryz.prog 43 5:=⟨Tryz.isAgg43,fun _=>by kernel_rfl⟩
theorem ts39:TS Tryz.prog 39 3:=⟨_,Tryz.underlying39,fun _=>by kernel_rfl⟩
theorem ts40:TS Tryz.prog 40 2:=⟨_,Tryz.underlying40,fun _=>by kernel_rfl⟩
theorem ts72:TS Tryz.prog 72 1:=⟨_,Tryz.underlying72,fun _=>by kernel_rfl⟩
theorem zv161:ZV Tryz.prog 161 (.agg #[(i 0),(i 0),(i 0)]):=Tryz.zeroValue161
theorem zv164:ZV Tryz.prog 164 (.agg #[(i 0),(i 0)]):=Tryz.zeroValue164
open Men
theorem zW {α:Type} {f:α→List Value} {l:List α} {j:Nat} {x:α} (h:l[j]? = some x):(l.map f)[j]? = some (f x):=by rw [List.getElem?_map,h];rfl
theorem vQ {α:Type} (l:List α) (n:Int) (h0:0≤n) (h:n<l.length) : ∃ x,l[n.toNat]? = some x:=⟨l[n.toNat]'(by omega),by simp⟩
theorem ecell' {α:Type} (l:List α) (n:Int) (d:α) (h:n-1<l.length) : ∃ x,0<n→l[(n-1).toNat]? = some x:=by
  by_cases h0:0<n
  · obtain ⟨x,hx⟩:=vQ l (n-1) (by omega) h;exact ⟨x,fun _=>hx⟩
  · exact ⟨d,fun h=>absurd h h0⟩
theorem ehead {α:Type} (l:List α) (d:α) : ∃ x,0<(l.length:Int)→l[(0:Int).toNat]? = some x:=by
  cases l with
  | nil=>exact ⟨d,fun h=>absurd h (by simp)⟩
  | cons x l=>exact ⟨x,fun _=>rfl⟩
theorem bandAt_iff {bs:List Band} {j:Nat} {e:Band} (he:bs[j]? = some e):bandAt bs j↔(0≤e.frm∧e.frm≤16)∧(e.creep.to 3)∧(0<j→∀ a,bs[j-1]? = some a→a.frm<e.frm):=by
  refine ⟨fun h=>h e he,fun h b hb=>?_⟩
  rw [he] at hb;cases hb;exact h
theorem bands_bad {bs:List Band} {n:Int} {e q:Band} (he:bs[n.toNat]? = some e) (hq:0<n→bs[(n-1).toNat]? = some q) (h0:0≤n) (h : ¬ (0≤e.frm∧e.frm≤16)∨¬ (0≤e.creep.lo∧e.creep.lo≤e.creep.hi∧e.creep.hi≤3)∨(0<n∧e.frm≤q.frm)):bandsB bs=false:=by
  refine bandsB_false.2 fun hok=>?_
  have h1:=(bandAt_iff he).1 (hok.1 n.toNat)
  have h2:=h1.1;have h3:=h1.2.1
  unfold Men.Rg.to at h3
  rcases h with h | h | ⟨hn,h⟩
  · exact h h2
  · exact h h3
  · have:=h1.2.2 (by omega) q (by rw [show n.toNat-1=(n-1).toNat by omega];exact hq hn)
    omega
theorem bands_step {bs:List Band} {n:Int} {e q:Band} (hi : ∀ j,j<n.toNat→bandAt bs j) (he:bs[n.toNat]? = some e) (hq:0<n→bs[(n-1).toNat]? = some q) (h0:0≤n) (h:(0≤e.frm∧e.frm≤16)∧(0≤e.creep.lo∧e.creep.lo≤e.creep.hi∧e.creep.hi≤3)∧(0<n→q.frm<e.frm)) : ∀ j,j<(n+1).toNat→bandAt bs j:=by
  intro j hj
  by_cases hjn:j<n.toNat
  · exact hi j hjn
  · obtain rfl:j=n.toNat:=by omega
    refine (bandAt_iff he).2 ⟨h.1,h.2.1,fun hp a ha=>?_⟩
    have hn:0<n:=by omega
    rw [show n.toNat-1=(n-1).toNat by omega,hq hn] at ha
    cases ha;exact h.2.2 hn
theorem bands_good {bs:List Band} {n:Int} {z:Band} (hi : ∀ j,j<n.toNat→bandAt bs j) (hn:bs.length≤n) (hz:0<(bs.length:Int)→bs[(0:Int).toNat]? = some z):bandsB bs=(decide (0<(bs.length:Int)) && decide (z.frm=0)):=by
  have hall : ∀ j,bandAt bs j:=by
    intro j
    by_cases hj:j<n.toNat
    · exact hi j hj
    · intro b hb;have:=(List.getElem?_eq_some_iff.1 hb).1;omega
  cases hb:bandsB bs with
  | true =>
    obtain ⟨b,hb0,hf⟩:=(bandsB_true.1 hb).2
    have hl:=(List.getElem?_eq_some_iff.1 hb0).1
    have:bs[(0:Int).toNat]? = some b:=hb0
    rw [hz (by omega)] at this;cases this
    simp [hf];omega
  | false =>
    have:=bandsB_false.1 hb
    by_cases hl:0<(bs.length:Int)
    · have hne:z.frm≠0:=fun h=>this ⟨hall,z,hz hl,h⟩
      simp [hne]
    · have:(decide (0<(bs.length:Int)))=false:=decide_eq_false hl
      rw [this];rfl
theorem c140 (base:Int) (blo:Int) (bhi:Int) (ab:Option Addr) (bs:List Band) (cab:Nat) (ad:Option Addr) (dl:List Depth) (cad:Nat) (w:World) (hab:Sl w 3 (bs.map yH) ab) (had:Sl w 2 (dl.map zZ) ad) (hbs:bs.length≤3):Rv Tryz.prog 140 [(.agg #[(i base),(.slice ab bs.length cab),(.slice ad dl.length cad),(i blo),(i bhi)])] w (.bool (bandsB bs)):=by
  refine Ret.body (N:=52) Tryz.func140 rfl Tryz.ntmps140 rfl ?_
  have H:=S.start Nm w
  refine Wp.seq (Wp.region ?_)
  refine Ro.d rfl rfl rfl (H.box (l:=[i base,.slice ab bs.length cab,.slice ad dl.length cad,i blo,i bhi]) rfl (v:=(.agg #[(i base),(.slice ab bs.length cab),(.slice ad dl.length cad),(i blo),(i bhi)])) rfl rfl ?_)
  intro b1 w2 Hn;replace H:=Hn;clear Hn
  refine Ro.q (v:=(.bool false)) rfl rfl (zD rfl) rfl ?_
  refine Ro.nil (nT (Wp.seq (Wp.seq (Wp.region ?_))))
  refine Ro.q (v:=(p b1 1)) rfl rfl (zA fo43_1 rfl rfl) rfl ?_
  refine Ro.q rfl rfl (zE t1_39 rfl (H.cells 0 rfl) (j:=1) rfl rfl) rfl ?_
  refine Ro.q rfl rfl (yG Tryz.underlying39 rfl (v:=bs.length) rfl) rfl ?_
  refine Ro.q (v:=(i 0)) rfl rfl (zB rfl) rfl ?_
  refine Ro.nil (nT (Wp.block ?_))
  refine Wp.loop (fun kM ds ρ w'=>∃ n:Int,ds=[]∧(0≤n∧n≤bs.length)∧kM=((bs.length:Int)-n).toNat∧ρ 1=(p b1 0)∧ρ 6=(.slice ab bs.length cab)∧ρ 7=(i ((bs.length:Nat):Int))∧ρ 8=(i n)∧S Nm w [(b1,.cells [i base,.slice ab bs.length cab,.slice ad dl.length cad,i blo,i bhi].toArray 43 (0,0))] w'∧(∀ j,j<n.toNat→bandAt bs j)) (((bs.length:Int)-0).toNat) ⟨0,rfl,(by omega),rfl,rfl,rfl,rfl,rfl,H,(by intro j hj;exact absurd hj (by simp))⟩ ?_
  clear H
  intro kρ7 dsρ7 ρ7 w8
  rintro ⟨n,rfl,hb10,hk9,f3,f4,f5,f6,H,hi11⟩
  refine Wp.seq (Wp.region ?_)
  refine Ro.q rfl rfl (yB f6 f5) rfl ?_
  refine Ro.nil (nT (Wp.seq ?_))
  refine Wp.cond (t:=decide (n<((bs.length:Nat):Int))) rfl ?_ ?_
  · intro c12
    have c12r:=c12
    simp only [bx] at c12
    obtain ⟨e,he⟩:=vQ bs n (by omega) (by omega)
    obtain ⟨q,hq⟩:=ecell' bs n e (by omega)
    refine Wp.skip (nT (Wp.seq (Wp.block (Wp.seq (Wp.region ?_)))))
    refine Ro.q (v:=(i n)) rfl rfl (zB f6) rfl ?_
    refine Ro.q rfl rfl (zY ts39 (hab.ext H.keep) f4 (by simp) f6 (by omega) (zW he)) rfl ?_
    refine Ro.q rfl rfl (zJ ta161 rfl ((hab.ext H.keep).cells (zW he)) (j:=0) rfl (vs:=[i e.frm,i e.creep.lo,i e.creep.hi]) rfl rfl) rfl ?_
    refine Ro.d rfl rfl rfl (H.new (l:=[i 0,i 0,i 0]) rfl zv161 rfl ?_)
    intro b13 w14 Hn;replace H:=Hn;clear Hn
    refine Ro.q (v:=(i n)) rfl rfl (zD rfl) rfl ?_
    refine Ro.d0 rfl rfl rfl (H.store (j:=0) (off:=0) (k:=3) rfl sz161 rfl (v:=(.agg #[(i e.frm),(i e.creep.lo),(i e.creep.hi)])) rfl rfl rfl rfl rfl (by simp [Value.oneCell']) (cs':=[i e.frm,i e.creep.lo,i e.creep.hi]) rfl ?_)
    intro w15 Hn;replace H:=Hn;clear Hn
    refine Ro.nil (nT (Wp.seq ?_))
    let qq16:Bool:=decide (0≤e.frm) && decide (e.frm≤16)
    let qq17:Bool:=(decide (0≤e.creep.lo) && decide (e.creep.lo≤e.creep.hi)) && decide (e.creep.hi≤3)
    let qq18:Bool:=(!qq16 || (!qq17))
    let qq19:Bool:=(decide (0<n) && (decide (e.frm≤q.frm)))
    let qq20:Bool:=(qq18 || qq19)
    refine Wp.drawnS 26 [0,1,3,7,15,31,63,127,255,511,1023,2047,4095,8191,16383,32767,16383,81919,16383,278527,999423,2047999,4145151,8388607,16777215,33554431] [is (p b13 0),is (i e.frm),is (.bool qq16),is (.bool (!qq16)),is (.bool (!qq16)),gdv (True∧(!qq16)=false) (p b13 1),gdv (True∧(!qq16)=false) (.agg #[(i e.creep.lo),(i e.creep.hi)]),gdv (True∧(!qq16)=false) (.bool qq17),gdv (True∧(!qq16)=false) (.bool (!qq17)),is (.bool qq18),is (.bool qq18),gdv (True∧qq18=false) (i n),gdv (True∧qq18=false) (.bool (decide (0<n))),gdv (True∧qq18=false) (.bool (decide (0<n))),gdv ((True∧qq18=false)∧(decide (0<n))=true) (p b13 0),gdv ((True∧qq18=false)∧(decide (0<n))=true) (i e.frm),gdv ((True∧qq18=false)∧(decide (0<n))=true) (p b1 1),gdv ((True∧qq18=false)∧(decide (0<n))=true) (.slice ab bs.length cab),gdv ((True∧qq18=false)∧(decide (0<n))=true) (i n),gdv ((True∧qq18=false)∧(decide (0<n))=true) (i (n-1)),gdv ((True∧qq18=false)∧(decide (0<n))=true) (p (blk ab) (yP ab+((n-1).toNat)*3)),gdv ((True∧qq18=false)∧(decide (0<n))=true) (p (blk ab) (yP ab+((n-1).toNat)*3)),gdv ((True∧qq18=false)∧(decide (0<n))=true) (i q.frm),gdv ((True∧qq18=false)∧(decide (0<n))=true) (.bool (decide (e.frm≤q.frm))),gdv (True∧qq18=false) (.bool qq19),is (.bool qq20)] (by kernel_rfl) (by kernel_rfl) rfl (Mi (Mi (Mi (Mi (Mi (Mg (Mg (Mg (Mg (Mi (Mi (Mg (Mg (Mg (Mg (Mg (Mg (Mg (Mg (Mg (Mg (Mg (Mg (Mg (Mg (Mi Mono.nil)))))))))))))))))))))))))) (fun w' k=>H.ext k) ?_ ?_
    · refine ⟨?_,?_,?_,?_,?_,?_,?_,?_,?_,?_,?_,?_,?_,?_,?_,?_,?_,?_,?_,?_,?_,?_,?_,?_,?_,?_,trivial⟩
      · exact Ob.q rfl (fun _ _ B U D=>(zA fo161_0 (show (_:Value)=(p b13 0) from U 4 rfl) rfl)) rfl rfl
      · exact Ob.q rfl (fun _ _ B U D=>(zE zM (D 0 rfl) (B.cells 0 rfl) (j:=0) rfl rfl)) rfl rfl
      · exact Ob.mk rfl fun ρ' w' B U D=>zH rfl en110 (ce (v:=(i e.frm)) (D 1 rfl) (ce (v:=(i 0)) rfl (ce (v:=(i 16)) rfl cn))) (c110 e.frm 0 16 _ ) (fun u w2 k2 hu=>⟨k2,hu⟩)
      · exact Ob.q rfl (fun _ _ B U D=>(yN (D 2 rfl))) rfl rfl
      · exact Ob.q rfl (fun _ _ B U D=>(zB (D 3 rfl))) rfl rfl
      · exact Ob.g0 rfl rfl (fun _ _ _ D=>D 4 rfl) rfl (fun _ _ B U D hC hg=>(zA fo161_1 (show (_:Value)=(p b13 0) from U 4 rfl) rfl)) rfl
      · exact Ob.g0 rfl rfl (fun _ _ _ D=>D 4 rfl) rfl (fun _ _ B U D hC hg=>(zJ vL (gdy (D 5 rfl) ⟨hC,hg⟩) (B.cells 0 rfl) (j:=1) rfl (vs:=[i e.creep.lo,i e.creep.hi]) rfl rfl)) rfl
      · exact Ob.gd (C:=True) (g:=!qq16) rfl rfl (fun ρ' w' U D=>⟨fun _=>(D 4 rfl),fun h=>absurd trivial h⟩) (fun _ h=>⟨fun hc=>absurd hc (yQ h),fun _=>rfl⟩) fun ρ' w' B U D hC hg=>zH rfl en129 (ce (v:=(.agg #[(i e.creep.lo),(i e.creep.hi)])) (gdy (D 6 rfl) ⟨hC,hg⟩) (ce (v:=(i 3)) rfl cn)) (c129 e.creep.lo e.creep.hi 3 _ ) (fun u w2 k2 hu=>⟨k2,⟨fun _=>hu,fun n=>absurd ⟨hC,hg⟩ n⟩⟩)
      · exact Ob.g0 rfl rfl (fun _ _ _ D=>D 4 rfl) rfl (fun _ _ B U D hC hg=>(yN (gdy (D 7 rfl) ⟨hC,hg⟩))) rfl
      · exact Ob.q rfl (fun _ _ B U D=>(zQ (v:=(.bool qq18)) (D 4 rfl) (fun eP=>or_t eP) (fun eP=>(gdy (D 8 rfl) ⟨trivial,eP⟩).trans (or_f eP)))) rfl rfl
      · exact Ob.q rfl (fun _ _ B U D=>(zB (D 9 rfl))) rfl rfl
      · exact Ob.g0 rfl rfl (fun _ _ _ D=>D 10 rfl) rfl (fun _ _ B U D hC hg=>(zB (show (_:Value)=(i n) from U 3 rfl))) rfl
      · exact Ob.g0 rfl rfl (fun _ _ _ D=>D 10 rfl) rfl (fun _ _ B U D hC hg=>(r_gtr (gdy (D 11 rfl) ⟨hC,hg⟩) rfl)) rfl
      · exact Ob.g0 rfl rfl (fun _ _ _ D=>D 10 rfl) rfl (fun _ _ B U D hC hg=>(zB (gdy (D 12 rfl) ⟨hC,hg⟩))) rfl
      · exact Ob.gr rfl rfl (fun _ _ _ D=>D 13 rfl) rfl (fun _ _ B U D hC hg=>(zA fo161_0 (show (_:Value)=(p b13 0) from U 4 rfl) rfl)) rfl
      · exact Ob.gr rfl rfl (fun _ _ _ D=>D 13 rfl) rfl (fun _ _ B U D hC hg=>(zE zM (gdy (D 14 rfl) ⟨hC,hg⟩) (B.cells 0 rfl) (j:=0) rfl rfl)) rfl
      · exact Ob.gr rfl rfl (fun _ _ _ D=>D 13 rfl) rfl (fun _ _ B U D hC hg=>(zA fo43_1 ((U 1 rfl).trans f3) rfl)) rfl
      · exact Ob.gr rfl rfl (fun _ _ _ D=>D 13 rfl) rfl (fun _ _ B U D hC hg=>(zE t1_39 (gdy (D 16 rfl) ⟨hC,hg⟩) (B.cells 1 rfl) (j:=1) rfl rfl)) rfl
      · exact Ob.gr rfl rfl (fun _ _ _ D=>D 13 rfl) rfl (fun _ _ B U D hC hg=>(zB (show (_:Value)=(i n) from U 3 rfl))) rfl
      · exact Ob.gr rfl rfl (fun _ _ _ D=>D 13 rfl) rfl (fun _ _ B U D hC hg=>(yT (gdy (D 18 rfl) ⟨hC,hg⟩) rfl (by constructor <;>omega))) rfl
      · exact Ob.gr rfl rfl (fun _ _ _ D=>D 13 rfl) rfl (fun _ _ B U D hC hg=>(zY ts39 (hab.ext B.keep) (gdy (D 17 rfl) ⟨hC,hg⟩) (by simp) (gdy (D 19 rfl) ⟨hC,hg⟩) (by have:=of_decide_eq_true hg;omega) (zW (hq (of_decide_eq_true hg))))) rfl
      · exact Ob.gr rfl rfl (fun _ _ _ D=>D 13 rfl) rfl (fun _ _ B U D hC hg=>(zA fo161_0 (gdy (D 20 rfl) ⟨hC,hg⟩) rfl)) rfl
      · exact Ob.gr rfl rfl (fun _ _ _ D=>D 13 rfl) rfl (fun _ _ B U D hC hg=>(zE zM (gdy (D 21 rfl) ⟨hC,hg⟩) ((hab.ext B.keep).cells (zW (hq (of_decide_eq_true hg)))) (j:=0) rfl rfl)) rfl
      · exact Ob.gr rfl rfl (fun _ _ _ D=>D 13 rfl) rfl (fun _ _ B U D hC hg=>(vD (gdy (D 15 rfl) ⟨hC,hg⟩) (gdy (D 22 rfl) ⟨hC,hg⟩))) rfl
      · exact Ob.g0 rfl rfl (fun _ _ _ D=>D 10 rfl) rfl (fun _ _ B U D hC hg=>(zQ (v:=(.bool qq19)) (gdy (D 13 rfl) ⟨hC,hg⟩) (fun eP=>(gdy (D 23 rfl) ⟨⟨hC,hg⟩,eP⟩).trans (yF eP)) (fun eP=>yE eP))) rfl
      · exact Ob.q rfl (fun _ _ B U D=>(zQ (v:=(.bool qq20)) (D 10 rfl) (fun eP=>or_t eP) (fun eP=>(gdy (D 24 rfl) ⟨trivial,eP⟩).trans (or_f eP)))) rfl rfl
    intro ρ21 w22 k23 U24 D25;replace H:=H.ext k23
    have f26:=(U24 1 rfl).trans f3
    have f27:=(U24 6 rfl).trans f4
    have f28:=(U24 7 rfl).trans f5
    have f29:=(U24 8 rfl).trans f6
    have f30:ρ21 38=(.bool qq20):=D25 25 rfl
    clear U24 D25 k23
    refine Ro.nil (nT ?_)
    refine Wp.cond (t:=qq20) f30 ?_ ?_
    · intro c31
      have c31r:(((!(decide (0≤e.frm) && decide (e.frm≤16)) || (!((decide (0≤e.creep.lo) && decide (e.creep.lo≤e.creep.hi)) && decide (e.creep.hi≤3)))) || (decide (0<n) && (decide (e.frm≤q.frm)))))=true:=c31
      replace c31:=c31r
      simp only [bx] at c31
      refine Wp.seq (Wp.region ?_)
      refine Ro.q (v:=(.bool false)) rfl rfl (zD rfl) rfl ?_
      refine Ro.nil (nT (Wp.ret (rB (rT (rT (rB (rT (zN ?_))))))))
      refine zI (v:=(.bool false)) Tryz.results140 rfl ⟨H.keep,?_⟩
      exact congrArg Value.bool (bands_bad he hq (by omega) (by omega)).symm
    intro c31
    have c31r:(((!(decide (0≤e.frm) && decide (e.frm≤16)) || (!((decide (0≤e.creep.lo) && decide (e.creep.lo≤e.creep.hi)) && decide (e.creep.hi≤3)))) || (decide (0<n) && (decide (e.frm≤q.frm)))))=false:=c31
    replace c31:=c31r
    simp only [bx] at c31
    refine Wp.skip (nB (nT (Wp.region ?_)))
    refine Ro.q rfl rfl (zU f29 rfl (by constructor <;>omega)) rfl ?_
    refine Ro.q (v:=(i (n+1))) rfl rfl (zB rfl) rfl ?_
    refine Ro.nil (nT ?_)
    exact ⟨((bs.length:Int)-(n+1)).toNat,by omega,(n+1),rfl,(by omega),rfl,f26,f27,f28,rfl,(H.drop 1),(bands_step hi11 he hq (by omega) (by omega))⟩
  intro c12
  have c12r:=c12
  simp only [bx] at c12
  obtain ⟨z,hz⟩:=ehead bs ⟨0,⟨0,0⟩⟩
  refine Wp.exit (xT (xT (xB (nT (Wp.seq ?_)))))
  let qq32:Bool:=decide (0<((bs.length:Nat):Int))
  let qq33:Bool:=(qq32 && (decide (z.frm=0)))
  refine Wp.factsS 13 [is (p b1 1),is (.slice ab bs.length cab),is (i ((bs.length:Nat):Int)),is (.bool qq32),is (.bool qq32),gdv (True∧qq32=true) (p b1 1),gdv (True∧qq32=true) (.slice ab bs.length cab),gdv (True∧qq32=true) (p (blk ab) (yP ab+((0:Int).toNat)*3)),gdv (True∧qq32=true) (p (blk ab) (yP ab+((0:Int).toNat)*3)),gdv (True∧qq32=true) (i z.frm),gdv (True∧qq32=true) (.bool (decide (z.frm=0))),is (.bool qq33),is (.bool qq33)] (by kernel_rfl) (Mi (Mi (Mi (Mi (Mi (Mg (Mg (Mg (Mg (Mg (Mg (Mi (Mi Mono.nil))))))))))))) (fun w' k=>H.ext k) ?_ ?_
  · refine ⟨?_,?_,?_,?_,?_,?_,?_,?_,?_,?_,?_,?_,?_,trivial⟩
    · exact Ob.q rfl (fun _ _ B U D=>(zA fo43_1 ((U 1 rfl).trans f3) rfl)) rfl rfl
    · exact Ob.q rfl (fun _ _ B U D=>(zE t1_39 (D 0 rfl) (B.cells 0 rfl) (j:=1) rfl rfl)) rfl rfl
    · exact Ob.q rfl (fun _ _ B U D=>(yG Tryz.underlying39 (D 1 rfl) (v:=bs.length) rfl)) rfl rfl
    · exact Ob.q rfl (fun _ _ B U D=>(r_gtr (D 2 rfl) rfl)) rfl rfl
    · exact Ob.q rfl (fun _ _ B U D=>(zB (D 3 rfl))) rfl rfl
    · exact Ob.g0 rfl rfl (fun _ _ _ D=>D 4 rfl) rfl (fun _ _ B U D hC hg=>(zA fo43_1 ((U 1 rfl).trans f3) rfl)) rfl
    · exact Ob.g0 rfl rfl (fun _ _ _ D=>D 4 rfl) rfl (fun _ _ B U D hC hg=>(zE t1_39 (gdy (D 5 rfl) ⟨hC,hg⟩) (B.cells 0 rfl) (j:=1) rfl rfl)) rfl
    · exact Ob.g0 rfl rfl (fun _ _ _ D=>D 4 rfl) rfl (fun _ _ B U D hC hg=>(zY ts39 (hab.ext B.keep) (gdy (D 6 rfl) ⟨hC,hg⟩) (by simp) rfl (by omega) (zW (hz (of_decide_eq_true hg))))) rfl
    · exact Ob.g0 rfl rfl (fun _ _ _ D=>D 4 rfl) rfl (fun _ _ B U D hC hg=>(zA fo161_0 (gdy (D 7 rfl) ⟨hC,hg⟩) rfl)) rfl
    · exact Ob.g0 rfl rfl (fun _ _ _ D=>D 4 rfl) rfl (fun _ _ B U D hC hg=>(zE zM (gdy (D 8 rfl) ⟨hC,hg⟩) ((hab.ext B.keep).cells (zW (hz (of_decide_eq_true hg)))) (j:=0) rfl rfl)) rfl
    · exact Ob.g0 rfl rfl (fun _ _ _ D=>D 4 rfl) rfl (fun _ _ B U D hC hg=>(vR (gdy (D 9 rfl) ⟨hC,hg⟩) rfl)) rfl
    · exact Ob.q rfl (fun _ _ B U D=>(zQ (v:=(.bool qq33)) (D 4 rfl) (fun eP=>(gdy (D 10 rfl) ⟨trivial,eP⟩).trans (yF eP)) (fun eP=>yE eP))) rfl rfl
    · exact Ob.q rfl (fun _ _ B U D=>(zD (D 11 rfl))) rfl rfl
  intro ρ34 w35 k36 U37 D38;replace H:=H.ext k36
  have f39:ρ34 2=(.bool qq33):=D38 12 rfl
  clear U37 D38 k36
  refine Ro.nil (nT (Wp.ret (zN ?_)))
  refine zI (v:=(.bool ((decide (0<((bs.length:Nat):Int))) && (decide (z.frm=0))))) Tryz.results140 f39 ⟨H.keep,?_⟩
  exact congrArg Value.bool (bands_good (n:=n) (by assumption) (by omega) hz).symm
theorem depthAt_iff {bs:List Depth} {j:Nat} {e:Depth} (he:bs[j]? = some e):depthAt bs j↔((0≤e.frm∧e.frm≤500)∧(0≤e.sink∧e.sink≤30))∧(0<j→∀ a,bs[j-1]? = some a→a.frm<e.frm∧a.sink≤e.sink):=by
  refine ⟨fun h=>h e he,fun h b hb=>?_⟩
  rw [he] at hb;cases hb;exact h
theorem depths_bad {bs:List Depth} {n:Int} {e q:Depth} (he:bs[n.toNat]? = some e) (hq:0<n→bs[(n-1).toNat]? = some q) (h:(¬ (0≤e.frm∧e.frm≤500)∨¬ (0≤e.sink∧e.sink≤30))∨(0<n∧(e.frm≤q.frm∨e.sink<q.sink))):uD bs=false:=by
  refine depthsB_false.2 fun hok=>?_
  have h1:=(depthAt_iff he).1 (hok.1 n.toNat)
  have h2:=h1.1
  rcases h with h | ⟨hn,h⟩
  · omega
  · have:=h1.2 (by omega) q (by rw [show n.toNat-1=(n-1).toNat by omega];exact hq hn)
    omega
theorem depths_step {bs:List Depth} {n:Int} {e q:Depth} (hi : ∀ j,j<n.toNat→depthAt bs j) (he:bs[n.toNat]? = some e) (hq:0<n→bs[(n-1).toNat]? = some q) (h0:0≤n) (h:((0≤e.frm∧e.frm≤500)∧(0≤e.sink∧e.sink≤30))∧(0<n→q.frm<e.frm∧q.sink≤e.sink)) : ∀ j,j<(n+1).toNat→depthAt bs j:=by
  intro j hj
  by_cases hjn:j<n.toNat
  · exact hi j hjn
  · obtain rfl:j=n.toNat:=by omega
    refine (depthAt_iff he).2 ⟨h.1,fun hp a ha=>?_⟩
    have hn:0<n:=by omega
    rw [show n.toNat-1=(n-1).toNat by omega,hq hn] at ha
    cases ha;exact h.2 hn
theorem depths_good {bs:List Depth} {n:Int} (hi : ∀ j,j<n.toNat→depthAt bs j) (hn:bs.length≤n):uD bs=decide (0<((bs.length:Nat):Int)):=by
  have hall : ∀ j,depthAt bs j:=by
    intro j
    by_cases hj:j<n.toNat
    · exact hi j hj
    · intro b hb;have:=(List.getElem?_eq_some_iff.1 hb).1;omega
  cases hb:uD bs with
  | true=>have:=(depthsB_true.1 hb).2;exact (decide_eq_true (by omega)).symm
  | false =>
    have:=depthsB_false.1 hb
    have : ¬ 0<bs.length:=fun h=>this ⟨hall,h⟩
    exact (decide_eq_false (by omega)).symm
theorem c141 (base:Int) (blo:Int) (bhi:Int) (ab:Option Addr) (bs:List Band) (cab:Nat) (ad:Option Addr) (dl:List Depth) (cad:Nat) (w:World) (hab:Sl w 3 (bs.map yH) ab) (had:Sl w 2 (dl.map zZ) ad) (hbs:dl.length≤4):Rv Tryz.prog 141 [(.agg #[(i base),(.slice ab bs.length cab),(.slice ad dl.length cad),(i blo),(i bhi)])] w (.bool (uD dl)):=by
  refine Ret.body (N:=54) Tryz.func141 rfl Tryz.ntmps141 rfl ?_
  have H:=S.start Nm w
  refine Wp.seq (Wp.region ?_)
  refine Ro.d rfl rfl rfl (H.box (l:=[i base,.slice ab bs.length cab,.slice ad dl.length cad,i blo,i bhi]) rfl (v:=(.agg #[(i base),(.slice ab bs.length cab),(.slice ad dl.length cad),(i blo),(i bhi)])) rfl rfl ?_)
  intro b1 w2 Hn;replace H:=Hn;clear Hn
  refine Ro.q (v:=(.bool false)) rfl rfl (zD rfl) rfl ?_
  refine Ro.nil (nT (Wp.seq (Wp.seq (Wp.region ?_))))
  refine Ro.q (v:=(p b1 2)) rfl rfl (zA fo43_2 rfl rfl) rfl ?_
  refine Ro.q rfl rfl (zE t1_40 rfl (H.cells 0 rfl) (j:=2) rfl rfl) rfl ?_
  refine Ro.q rfl rfl (yG Tryz.underlying40 rfl (v:=dl.length) rfl) rfl ?_
  refine Ro.q (v:=(i 0)) rfl rfl (zB rfl) rfl ?_
  refine Ro.nil (nT (Wp.block ?_))
  refine Wp.loop (fun kM ds ρ w'=>∃ n:Int,ds=[]∧(0≤n∧n≤dl.length)∧kM=((dl.length:Int)-n).toNat∧ρ 1=(p b1 0)∧ρ 6=(.slice ad dl.length cad)∧ρ 7=(i ((dl.length:Nat):Int))∧ρ 8=(i n)∧S Nm w [(b1,.cells [i base,.slice ab bs.length cab,.slice ad dl.length cad,i blo,i bhi].toArray 43 (0,0))] w'∧(∀ j,j<n.toNat→depthAt dl j)) (((dl.length:Int)-0).toNat) ⟨0,rfl,(by omega),rfl,rfl,rfl,rfl,rfl,H,(by intro j hj;exact absurd hj (by simp))⟩ ?_
  clear H
  intro kρ7 dsρ7 ρ7 w8
  rintro ⟨n,rfl,hb10,hk9,f3,f4,f5,f6,H,hi11⟩
  refine Wp.seq (Wp.region ?_)
  refine Ro.q rfl rfl (yB f6 f5) rfl ?_
  refine Ro.nil (nT (Wp.seq ?_))
  refine Wp.cond (t:=decide (n<((dl.length:Nat):Int))) rfl ?_ ?_
  · intro c12
    have c12r:=c12
    simp only [bx] at c12
    obtain ⟨e,he⟩:=vQ dl n (by omega) (by omega)
    obtain ⟨q,hq⟩:=ecell' dl n e (by omega)
    refine Wp.skip (nT (Wp.seq (Wp.block (Wp.seq (Wp.region ?_)))))
    refine Ro.q (v:=(i n)) rfl rfl (zB f6) rfl ?_
    refine Ro.q rfl rfl (zY ts40 (had.ext H.keep) f4 (by simp) f6 (by omega) (zW he)) rfl ?_
    refine Ro.q rfl rfl (zJ ta164 rfl ((had.ext H.keep).cells (zW he)) (j:=0) rfl (vs:=[i e.frm,i e.sink]) rfl rfl) rfl ?_
    refine Ro.d rfl rfl rfl (H.new (l:=[i 0,i 0]) rfl zv164 rfl ?_)
    intro b13 w14 Hn;replace H:=Hn;clear Hn
    refine Ro.q (v:=(i n)) rfl rfl (zD rfl) rfl ?_
    refine Ro.d0 rfl rfl rfl (H.store (j:=0) (off:=0) (k:=2) rfl sz164 rfl (v:=(.agg #[(i e.frm),(i e.sink)])) rfl rfl rfl rfl rfl (by simp [Value.oneCell']) (cs':=[i e.frm,i e.sink]) rfl ?_)
    intro w15 Hn;replace H:=Hn;clear Hn
    refine Ro.nil (nT (Wp.seq (Wp.seq ?_)))
    let qq16:Bool:=decide (0≤e.frm) && decide (e.frm≤500)
    let qq17:Bool:=decide (0≤e.sink) && decide (e.sink≤30)
    let qq18:Bool:=(!qq16 || (!qq17))
    refine Wp.factsS 10 [is (p b13 0),is (i e.frm),is (.bool qq16),is (.bool (!qq16)),is (.bool (!qq16)),gdv (True∧(!qq16)=false) (p b13 1),gdv (True∧(!qq16)=false) (i e.sink),gdv (True∧(!qq16)=false) (.bool qq17),gdv (True∧(!qq16)=false) (.bool (!qq17)),is (.bool qq18)] (by kernel_rfl) (Mi (Mi (Mi (Mi (Mi (Mg (Mg (Mg (Mg (Mi Mono.nil)))))))))) (fun w' k=>H.ext k) ?_ ?_
    · refine ⟨?_,?_,?_,?_,?_,?_,?_,?_,?_,?_,trivial⟩
      · exact Ob.q rfl (fun _ _ B U D=>(zA fo164_0 (show (_:Value)=(p b13 0) from U 4 rfl) rfl)) rfl rfl
      · exact Ob.q rfl (fun _ _ B U D=>(zE zM (D 0 rfl) (B.cells 0 rfl) (j:=0) rfl rfl)) rfl rfl
      · exact Ob.mk rfl fun ρ' w' B U D=>zH rfl en110 (ce (v:=(i e.frm)) (D 1 rfl) (ce (v:=(i 0)) rfl (ce (v:=(i 500)) rfl cn))) (c110 e.frm 0 500 _ ) (fun u w2 k2 hu=>⟨k2,hu⟩)
      · exact Ob.q rfl (fun _ _ B U D=>(yN (D 2 rfl))) rfl rfl
      · exact Ob.q rfl (fun _ _ B U D=>(zB (D 3 rfl))) rfl rfl
      · exact Ob.g0 rfl rfl (fun _ _ _ D=>D 4 rfl) rfl (fun _ _ B U D hC hg=>(zA fo164_1 (show (_:Value)=(p b13 0) from U 4 rfl) rfl)) rfl
      · exact Ob.g0 rfl rfl (fun _ _ _ D=>D 4 rfl) rfl (fun _ _ B U D hC hg=>(zE zM (gdy (D 5 rfl) ⟨hC,hg⟩) (B.cells 0 rfl) (j:=1) rfl rfl)) rfl
      · exact Ob.gd (C:=True) (g:=!qq16) rfl rfl (fun ρ' w' U D=>⟨fun _=>(D 4 rfl),fun h=>absurd trivial h⟩) (fun _ h=>⟨fun hc=>absurd hc (yQ h),fun _=>rfl⟩) fun ρ' w' B U D hC hg=>zH rfl en110 (ce (v:=(i e.sink)) (gdy (D 6 rfl) ⟨hC,hg⟩) (ce (v:=(i 0)) rfl (ce (v:=(i 30)) rfl cn))) (c110 e.sink 0 30 _ ) (fun u w2 k2 hu=>⟨k2,⟨fun _=>hu,fun n=>absurd ⟨hC,hg⟩ n⟩⟩)
      · exact Ob.g0 rfl rfl (fun _ _ _ D=>D 4 rfl) rfl (fun _ _ B U D hC hg=>(yN (gdy (D 7 rfl) ⟨hC,hg⟩))) rfl
      · exact Ob.q rfl (fun _ _ B U D=>(zQ (v:=(.bool qq18)) (D 4 rfl) (fun eP=>or_t eP) (fun eP=>(gdy (D 8 rfl) ⟨trivial,eP⟩).trans (or_f eP)))) rfl rfl
    intro ρ19 w20 k21 U22 D23;replace H:=H.ext k21
    have f24:=(U22 1 rfl).trans f3
    have f25:ρ19 3=(i n):=U22 3 rfl
    have f26:ρ19 4=(p b13 0):=U22 4 rfl
    have f27:=(U22 6 rfl).trans f4
    have f28:=(U22 7 rfl).trans f5
    have f29:=(U22 8 rfl).trans f6
    have f30:ρ19 22=(.bool qq18):=D23 9 rfl
    clear U22 D23 k21
    refine Ro.nil (nT ?_)
    refine Wp.cond (t:=qq18) f30 ?_ ?_
    · intro c31
      have c31r:((!(decide (0≤e.frm) && decide (e.frm≤500)) || (!(decide (0≤e.sink) && decide (e.sink≤30)))))=true:=c31
      replace c31:=c31r
      simp only [bx] at c31
      refine Wp.seq (Wp.region ?_)
      refine Ro.q (v:=(.bool false)) rfl rfl (zD rfl) rfl ?_
      refine Ro.nil (nT (Wp.ret (rT (rB (rT (rT (rB (rT (zN ?_)))))))))
      refine zI (v:=(.bool false)) Tryz.results141 rfl ⟨H.keep,?_⟩
      exact congrArg Value.bool (depths_bad he hq (by omega)).symm
    intro c31
    have c31r:((!(decide (0≤e.frm) && decide (e.frm≤500)) || (!(decide (0≤e.sink) && decide (e.sink≤30)))))=false:=c31
    replace c31:=c31r
    simp only [bx] at c31
    refine Wp.skip (nT (Wp.seq ?_))
    let qq32:Bool:=decide (e.sink<q.sink)
    let qq33:Bool:=(decide (e.frm≤q.frm) || qq32)
    let qq34:Bool:=(decide (0<n) && qq33)
    refine Wp.drawnS 26 [0,1,3,7,15,7,39,7,135,487,999,2023,4095,8191,16383,32767,16383,81919,16383,278527,999423,2047999,4145151,8388607,16777215,33554431] [is (i n),is (.bool (decide (0<n))),is (.bool (decide (0<n))),gdv (True∧(decide (0<n))=true) (p b13 0),gdv (True∧(decide (0<n))=true) (i e.frm),gdv (True∧(decide (0<n))=true) (p b1 2),gdv (True∧(decide (0<n))=true) (.slice ad dl.length cad),gdv (True∧(decide (0<n))=true) (i n),gdv (True∧(decide (0<n))=true) (i (n-1)),gdv (True∧(decide (0<n))=true) (p (blk ad) (yP ad+((n-1).toNat)*2)),gdv (True∧(decide (0<n))=true) (p (blk ad) (yP ad+((n-1).toNat)*2)),gdv (True∧(decide (0<n))=true) (i q.frm),gdv (True∧(decide (0<n))=true) (.bool (decide (e.frm≤q.frm))),gdv (True∧(decide (0<n))=true) (.bool (decide (e.frm≤q.frm))),gdv ((True∧(decide (0<n))=true)∧(decide (e.frm≤q.frm))=false) (p b13 1),gdv ((True∧(decide (0<n))=true)∧(decide (e.frm≤q.frm))=false) (i e.sink),gdv ((True∧(decide (0<n))=true)∧(decide (e.frm≤q.frm))=false) (p b1 2),gdv ((True∧(decide (0<n))=true)∧(decide (e.frm≤q.frm))=false) (.slice ad dl.length cad),gdv ((True∧(decide (0<n))=true)∧(decide (e.frm≤q.frm))=false) (i n),gdv ((True∧(decide (0<n))=true)∧(decide (e.frm≤q.frm))=false) (i (n-1)),gdv ((True∧(decide (0<n))=true)∧(decide (e.frm≤q.frm))=false) (p (blk ad) (yP ad+((n-1).toNat)*2)),gdv ((True∧(decide (0<n))=true)∧(decide (e.frm≤q.frm))=false) (p (blk ad) (yP ad+((n-1).toNat)*2+1)),gdv ((True∧(decide (0<n))=true)∧(decide (e.frm≤q.frm))=false) (i q.sink),gdv ((True∧(decide (0<n))=true)∧(decide (e.frm≤q.frm))=false) (.bool qq32),gdv (True∧(decide (0<n))=true) (.bool qq33),is (.bool qq34)] (by kernel_rfl) (by kernel_rfl) rfl (Mi (Mi (Mi (Mg (Mg (Mg (Mg (Mg (Mg (Mg (Mg (Mg (Mg (Mg (Mg (Mg (Mg (Mg (Mg (Mg (Mg (Mg (Mg (Mg (Mg (Mi Mono.nil)))))))))))))))))))))))))) (fun w' k=>H.ext k) ?_ ?_
    · refine ⟨?_,?_,?_,?_,?_,?_,?_,?_,?_,?_,?_,?_,?_,?_,?_,?_,?_,?_,?_,?_,?_,?_,?_,?_,?_,?_,trivial⟩
      · exact Ob.q rfl (fun _ _ B U D=>(zB ((U 3 rfl).trans f25))) rfl rfl
      · exact Ob.q rfl (fun _ _ B U D=>(r_gtr (D 0 rfl) rfl)) rfl rfl
      · exact Ob.q rfl (fun _ _ B U D=>(zB (D 1 rfl))) rfl rfl
      · exact Ob.g0 rfl rfl (fun _ _ _ D=>D 2 rfl) rfl (fun _ _ B U D hC hg=>(zA fo164_0 ((U 4 rfl).trans f26) rfl)) rfl
      · exact Ob.g0 rfl rfl (fun _ _ _ D=>D 2 rfl) rfl (fun _ _ B U D hC hg=>(zE zM (gdy (D 3 rfl) ⟨hC,hg⟩) (B.cells 0 rfl) (j:=0) rfl rfl)) rfl
      · exact Ob.g0 rfl rfl (fun _ _ _ D=>D 2 rfl) rfl (fun _ _ B U D hC hg=>(zA fo43_2 ((U 1 rfl).trans f24) rfl)) rfl
      · exact Ob.g0 rfl rfl (fun _ _ _ D=>D 2 rfl) rfl (fun _ _ B U D hC hg=>(zE t1_40 (gdy (D 5 rfl) ⟨hC,hg⟩) (B.cells 1 rfl) (j:=2) rfl rfl)) rfl
      · exact Ob.g0 rfl rfl (fun _ _ _ D=>D 2 rfl) rfl (fun _ _ B U D hC hg=>(zB ((U 3 rfl).trans f25))) rfl
      · exact Ob.g0 rfl rfl (fun _ _ _ D=>D 2 rfl) rfl (fun _ _ B U D hC hg=>(yT (gdy (D 7 rfl) ⟨hC,hg⟩) rfl (by constructor <;>omega))) rfl
      · exact Ob.g0 rfl rfl (fun _ _ _ D=>D 2 rfl) rfl (fun _ _ B U D hC hg=>(zY ts40 (had.ext B.keep) (gdy (D 6 rfl) ⟨hC,hg⟩) (by simp) (gdy (D 8 rfl) ⟨hC,hg⟩) (by have:=of_decide_eq_true hg;omega) (zW (hq (of_decide_eq_true hg))))) rfl
      · exact Ob.g0 rfl rfl (fun _ _ _ D=>D 2 rfl) rfl (fun _ _ B U D hC hg=>(zA fo164_0 (gdy (D 9 rfl) ⟨hC,hg⟩) rfl)) rfl
      · exact Ob.g0 rfl rfl (fun _ _ _ D=>D 2 rfl) rfl (fun _ _ B U D hC hg=>(zE zM (gdy (D 10 rfl) ⟨hC,hg⟩) ((had.ext B.keep).cells (zW (hq (of_decide_eq_true hg)))) (j:=0) rfl rfl)) rfl
      · exact Ob.g0 rfl rfl (fun _ _ _ D=>D 2 rfl) rfl (fun _ _ B U D hC hg=>(vD (gdy (D 4 rfl) ⟨hC,hg⟩) (gdy (D 11 rfl) ⟨hC,hg⟩))) rfl
      · exact Ob.g0 rfl rfl (fun _ _ _ D=>D 2 rfl) rfl (fun _ _ B U D hC hg=>(zB (gdy (D 12 rfl) ⟨hC,hg⟩))) rfl
      · exact Ob.gr rfl rfl (fun _ _ _ D=>D 13 rfl) rfl (fun _ _ B U D hC hg=>(zA fo164_1 ((U 4 rfl).trans f26) rfl)) rfl
      · exact Ob.gr rfl rfl (fun _ _ _ D=>D 13 rfl) rfl (fun _ _ B U D hC hg=>(zE zM (gdy (D 14 rfl) ⟨hC,hg⟩) (B.cells 0 rfl) (j:=1) rfl rfl)) rfl
      · exact Ob.gr rfl rfl (fun _ _ _ D=>D 13 rfl) rfl (fun _ _ B U D hC hg=>(zA fo43_2 ((U 1 rfl).trans f24) rfl)) rfl
      · exact Ob.gr rfl rfl (fun _ _ _ D=>D 13 rfl) rfl (fun _ _ B U D hC hg=>(zE t1_40 (gdy (D 16 rfl) ⟨hC,hg⟩) (B.cells 1 rfl) (j:=2) rfl rfl)) rfl
      · exact Ob.gr rfl rfl (fun _ _ _ D=>D 13 rfl) rfl (fun _ _ B U D hC hg=>(zB ((U 3 rfl).trans f25))) rfl
      · exact Ob.gr rfl rfl (fun _ _ _ D=>D 13 rfl) rfl (fun _ _ B U D hC hg=>(yT (gdy (D 18 rfl) ⟨hC,hg⟩) rfl (by constructor <;>omega))) rfl
      · exact Ob.gr rfl rfl (fun _ _ _ D=>D 13 rfl) rfl (fun _ _ B U D hC hg=>(zY ts40 (had.ext B.keep) (gdy (D 17 rfl) ⟨hC,hg⟩) (by simp) (gdy (D 19 rfl) ⟨hC,hg⟩) (by have:=of_decide_eq_true hC.2;omega) (zW (hq (of_decide_eq_true hC.2))))) rfl
      · exact Ob.gr rfl rfl (fun _ _ _ D=>D 13 rfl) rfl (fun _ _ B U D hC hg=>(zA fo164_1 (gdy (D 20 rfl) ⟨hC,hg⟩) rfl)) rfl
      · exact Ob.gr rfl rfl (fun _ _ _ D=>D 13 rfl) rfl (fun _ _ B U D hC hg=>(zE zM (gdy (D 21 rfl) ⟨hC,hg⟩) ((had.ext B.keep).cells (zW (hq (of_decide_eq_true hC.2)))) (j:=1) rfl rfl)) rfl
      · exact Ob.gr rfl rfl (fun _ _ _ D=>D 13 rfl) rfl (fun _ _ B U D hC hg=>(yB (gdy (D 15 rfl) ⟨hC,hg⟩) (gdy (D 22 rfl) ⟨hC,hg⟩))) rfl
      · exact Ob.g0 rfl rfl (fun _ _ _ D=>D 2 rfl) rfl (fun _ _ B U D hC hg=>(zQ (v:=(.bool qq33)) (gdy (D 13 rfl) ⟨hC,hg⟩) (fun eP=>or_t eP) (fun eP=>(gdy (D 23 rfl) ⟨⟨hC,hg⟩,eP⟩).trans (or_f eP)))) rfl
      · exact Ob.q rfl (fun _ _ B U D=>(zQ (v:=(.bool qq34)) (D 2 rfl) (fun eP=>(gdy (D 24 rfl) ⟨trivial,eP⟩).trans (yF eP)) (fun eP=>yE eP))) rfl rfl
    intro ρ35 w36 k37 U38 D39;replace H:=H.ext k37
    have f40:=(U38 1 rfl).trans f24
    have f41:=(U38 6 rfl).trans f27
    have f42:=(U38 7 rfl).trans f28
    have f43:=(U38 8 rfl).trans f29
    have f44:ρ35 48=(.bool qq34):=D39 25 rfl
    clear U38 D39 k37
    refine Ro.nil (nT ?_)
    refine Wp.cond (t:=qq34) f44 ?_ ?_
    · intro c45
      have c45r:((decide (0<n) && (decide (e.frm≤q.frm) || (decide (e.sink<q.sink)))))=true:=c45
      replace c45:=c45r
      simp only [bx] at c45
      refine Wp.seq (Wp.region ?_)
      refine Ro.q (v:=(.bool false)) rfl rfl (zD rfl) rfl ?_
      refine Ro.nil (nT (Wp.ret (rB (rT (rT (rB (rT (zN ?_))))))))
      refine zI (v:=(.bool false)) Tryz.results141 rfl ⟨H.keep,?_⟩
      exact congrArg Value.bool (depths_bad he hq (by omega)).symm
    intro c45
    have c45r:((decide (0<n) && (decide (e.frm≤q.frm) || (decide (e.sink<q.sink)))))=false:=c45
    replace c45:=c45r
    simp only [bx] at c45
    refine Wp.skip (nB (nT (Wp.region ?_)))
    refine Ro.q rfl rfl (zU f43 rfl (by constructor <;>omega)) rfl ?_
    refine Ro.q (v:=(i (n+1))) rfl rfl (zB rfl) rfl ?_
    refine Ro.nil (nT ?_)
    exact ⟨((dl.length:Int)-(n+1)).toNat,by omega,(n+1),rfl,(by omega),rfl,f40,f41,f42,rfl,(H.drop 1),(depths_step hi11 he hq (by omega) (by omega))⟩
  intro c12
  have c12r:=c12
  simp only [bx] at c12
  refine Wp.exit (xT (xT (xB (nT (Wp.seq (Wp.region ?_))))))
  refine Ro.q (v:=(p b1 2)) rfl rfl (zA fo43_2 f3 rfl) rfl ?_
  refine Ro.q rfl rfl (zE t1_40 rfl (H.cells 0 rfl) (j:=2) rfl rfl) rfl ?_
  refine Ro.q rfl rfl (yG Tryz.underlying40 rfl (v:=dl.length) rfl) rfl ?_
  refine Ro.q rfl rfl (r_gtr rfl rfl) rfl ?_
  refine Ro.q (v:=(.bool (decide (0<((dl.length:Nat):Int))))) rfl rfl (zD rfl) rfl ?_
  refine Ro.nil (nT (Wp.ret (zN ?_)))
  refine zI (v:=(.bool (decide (0<((dl.length:Nat):Int))))) Tryz.results141 rfl ⟨H.keep,?_⟩
  exact congrArg Value.bool (depths_good (n:=n) (by assumption) (by omega)).symm
theorem c116 (base:Int) (blo:Int) (bhi:Int) (ab:Option Addr) (bs:List Band) (cab:Nat) (ad:Option Addr) (dl:List Depth) (cad:Nat) (w:World) (hab:Sl w 3 (bs.map yH) ab) (had:Sl w 2 (dl.map zZ) ad)  : Rv Tryz.prog 116 [(.agg #[(i base),(.slice ab bs.length cab),(.slice ad dl.length cad),(i blo),(i bhi)])] w (i (yI base bs dl blo bhi)):=by
  refine Ret.body (N:=35) Tryz.func116 rfl Tryz.ntmps116 rfl ?_
  have H:=S.start Nm w
  refine Wp.seq (Wp.region ?_)
  refine Ro.d rfl rfl rfl (H.box (l:=[i base,.slice ab bs.length cab,.slice ad dl.length cad,i blo,i bhi]) rfl (v:=(.agg #[(i base),(.slice ab bs.length cab),(.slice ad dl.length cad),(i blo),(i bhi)])) rfl rfl ?_)
  intro b1 w2 Hn;replace H:=Hn;clear Hn
  refine Ro.q (v:=(i 0)) rfl rfl (zD rfl) rfl ?_
  refine Ro.nil (nT (Wp.seq (Wp.block (Wp.seq ?_))))
  let qq3:Bool:=decide (3<((bs.length:Nat):Int))
  let qq4:Bool:=decide (4<((dl.length:Nat):Int))
  let qq5:Bool:=(qq3 || qq4)
  refine Wp.factsS 11 [is (p b1 1),is (.slice ab bs.length cab),is (i ((bs.length:Nat):Int)),is (.bool qq3),is (.bool qq3),gdv (True∧qq3=false) (p b1 2),gdv (True∧qq3=false) (.slice ad dl.length cad),gdv (True∧qq3=false) (i ((dl.length:Nat):Int)),gdv (True∧qq3=false) (.bool qq4),is (.bool qq5),is (.bool qq5)] (by kernel_rfl) (Mi (Mi (Mi (Mi (Mi (Mg (Mg (Mg (Mg (Mi (Mi Mono.nil))))))))))) (fun w' k=>H.ext k) ?_ ?_
  · refine ⟨?_,?_,?_,?_,?_,?_,?_,?_,?_,?_,?_,trivial⟩
    · exact Ob.q rfl (fun _ _ B U D=>(zA fo43_1 (show (_:Value)=(p b1 0) from U 1 rfl) rfl)) rfl rfl
    · exact Ob.q rfl (fun _ _ B U D=>(zE t1_39 (D 0 rfl) (B.cells 0 rfl) (j:=1) rfl rfl)) rfl rfl
    · exact Ob.q rfl (fun _ _ B U D=>(yG Tryz.underlying39 (D 1 rfl) (v:=bs.length) rfl)) rfl rfl
    · exact Ob.q rfl (fun _ _ B U D=>(r_gtr (D 2 rfl) rfl)) rfl rfl
    · exact Ob.q rfl (fun _ _ B U D=>(zB (D 3 rfl))) rfl rfl
    · exact Ob.g0 rfl rfl (fun _ _ _ D=>D 4 rfl) rfl (fun _ _ B U D hC hg=>(zA fo43_2 (show (_:Value)=(p b1 0) from U 1 rfl) rfl)) rfl
    · exact Ob.g0 rfl rfl (fun _ _ _ D=>D 4 rfl) rfl (fun _ _ B U D hC hg=>(zE t1_40 (gdy (D 5 rfl) ⟨hC,hg⟩) (B.cells 0 rfl) (j:=2) rfl rfl)) rfl
    · exact Ob.g0 rfl rfl (fun _ _ _ D=>D 4 rfl) rfl (fun _ _ B U D hC hg=>(yG Tryz.underlying40 (gdy (D 6 rfl) ⟨hC,hg⟩) (v:=dl.length) rfl)) rfl
    · exact Ob.g0 rfl rfl (fun _ _ _ D=>D 4 rfl) rfl (fun _ _ B U D hC hg=>(r_gtr (gdy (D 7 rfl) ⟨hC,hg⟩) rfl)) rfl
    · exact Ob.q rfl (fun _ _ B U D=>(zQ (v:=(.bool qq5)) (D 4 rfl) (fun eP=>or_t eP) (fun eP=>(gdy (D 8 rfl) ⟨trivial,eP⟩).trans (or_f eP)))) rfl rfl
    · exact Ob.q rfl (fun _ _ B U D=>(zD (D 9 rfl))) rfl rfl
  intro ρ6 w7 k8 U9 D10;replace H:=H.ext k8
  have f11:ρ6 1=(p b1 0):=U9 1 rfl
  have f13:ρ6 3=(.bool qq5):=D10 10 rfl
  clear U9 D10 k8
  refine Ro.nil (nT ?_)
  refine Wp.cond (t:=qq5) f13 ?_ ?_
  · intro c14
    have c14r:(((decide (3<((bs.length:Nat):Int))) || (decide (4<((dl.length:Nat):Int)))))=true:=c14
    replace c14:=c14r
    simp only [bx] at c14
    refine Wp.seq (Wp.region ?_)
    refine Ro.q (v:=(i 3)) rfl rfl (zD rfl) rfl ?_
    refine Ro.nil (nT (Wp.ret (rB (rT (zN ?_)))))
    refine zI (v:=(i 3)) Tryz.results116 rfl ⟨H.keep,?_⟩
    refine congrArg (Value.int _) ?_
    unfold yI
    simp only [yM,yL,c14r,cond_true,cond_false]
  intro c14
  have c14r:(((decide (3<((bs.length:Nat):Int))) || (decide (4<((dl.length:Nat):Int)))))=false:=c14
  replace c14:=c14r
  simp only [bx] at c14
  refine Wp.seq ?_
  let qq15:Bool:=decide ((-1000)≤base) && decide (base≤1000)
  let qq16:Bool:=(decide (0≤blo) && decide (blo≤bhi)) && decide (bhi≤5)
  let qq17:Bool:=(!qq15 || (!qq16))
  let qq18:Bool:=(qq17 || (!(bandsB bs)))
  let qq19:Bool:=(qq18 || (!(uD dl)))
  refine Wp.factsS 21 [is (p b1 0),is (i base),is (.bool qq15),is (.bool (!qq15)),is (.bool (!qq15)),gdv (True∧(!qq15)=false) (p b1 3),gdv (True∧(!qq15)=false) (.agg #[(i blo),(i bhi)]),gdv (True∧(!qq15)=false) (.bool qq16),gdv (True∧(!qq15)=false) (.bool (!qq16)),is (.bool qq17),is (.bool qq17),gdv (True∧qq17=false) (.agg #[(i base),(.slice ab bs.length cab),(.slice ad dl.length cad),(i blo),(i bhi)]),gdv (True∧qq17=false) (.bool (bandsB bs)),gdv (True∧qq17=false) (.bool (!(bandsB bs))),is (.bool qq18),is (.bool qq18),gdv (True∧qq18=false) (.agg #[(i base),(.slice ab bs.length cab),(.slice ad dl.length cad),(i blo),(i bhi)]),gdv (True∧qq18=false) (.bool (uD dl)),gdv (True∧qq18=false) (.bool (!(uD dl))),is (.bool qq19),is (.bool qq19)] (by kernel_rfl) (Mi (Mi (Mi (Mi (Mi (Mg (Mg (Mg (Mg (Mi (Mi (Mg (Mg (Mg (Mi (Mi (Mg (Mg (Mg (Mi (Mi Mono.nil))))))))))))))))))))) (fun w' k=>H.ext k) ?_ ?_
  · refine ⟨?_,?_,?_,?_,?_,?_,?_,?_,?_,?_,?_,?_,?_,?_,?_,?_,?_,?_,?_,?_,?_,trivial⟩
    · exact Ob.q rfl (fun _ _ B U D=>(zA fo43_0 ((U 1 rfl).trans f11) rfl)) rfl rfl
    · exact Ob.q rfl (fun _ _ B U D=>(zE zM (D 0 rfl) (B.cells 0 rfl) (j:=0) rfl rfl)) rfl rfl
    · exact Ob.mk rfl fun ρ' w' B U D=>zH rfl en110 (ce (v:=(i base)) (D 1 rfl) (ce (v:=(i (-1000))) rfl (ce (v:=(i 1000)) rfl cn))) (c110 base (-1000) 1000 _ ) (fun u w2 k2 hu=>⟨k2,hu⟩)
    · exact Ob.q rfl (fun _ _ B U D=>(yN (D 2 rfl))) rfl rfl
    · exact Ob.q rfl (fun _ _ B U D=>(zB (D 3 rfl))) rfl rfl
    · exact Ob.g0 rfl rfl (fun _ _ _ D=>D 4 rfl) rfl (fun _ _ B U D hC hg=>(zA fo43_3 ((U 1 rfl).trans f11) rfl)) rfl
    · exact Ob.g0 rfl rfl (fun _ _ _ D=>D 4 rfl) rfl (fun _ _ B U D hC hg=>(zJ vL (gdy (D 5 rfl) ⟨hC,hg⟩) (B.cells 0 rfl) (j:=3) rfl (vs:=[i blo,i bhi]) rfl rfl)) rfl
    · exact Ob.gd (C:=True) (g:=!qq15) rfl rfl (fun ρ' w' U D=>⟨fun _=>(D 4 rfl),fun h=>absurd trivial h⟩) (fun _ h=>⟨fun hc=>absurd hc (yQ h),fun _=>rfl⟩) fun ρ' w' B U D hC hg=>zH rfl en129 (ce (v:=(.agg #[(i blo),(i bhi)])) (gdy (D 6 rfl) ⟨hC,hg⟩) (ce (v:=(i 5)) rfl cn)) (c129 blo bhi 5 _ ) (fun u w2 k2 hu=>⟨k2,⟨fun _=>hu,fun n=>absurd ⟨hC,hg⟩ n⟩⟩)
    · exact Ob.g0 rfl rfl (fun _ _ _ D=>D 4 rfl) rfl (fun _ _ B U D hC hg=>(yN (gdy (D 7 rfl) ⟨hC,hg⟩))) rfl
    · exact Ob.q rfl (fun _ _ B U D=>(zQ (v:=(.bool qq17)) (D 4 rfl) (fun eP=>or_t eP) (fun eP=>(gdy (D 8 rfl) ⟨trivial,eP⟩).trans (or_f eP)))) rfl rfl
    · exact Ob.q rfl (fun _ _ B U D=>(zB (D 9 rfl))) rfl rfl
    · exact Ob.g0 rfl rfl (fun _ _ _ D=>D 10 rfl) rfl (fun _ _ B U D hC hg=>(zJ ta43 ((U 1 rfl).trans f11) (B.cells 0 rfl) (j:=0) rfl (vs:=[i base,.slice ab bs.length cab,.slice ad dl.length cad,i blo,i bhi]) rfl rfl)) rfl
    · exact Ob.gd (C:=True) (g:=qq17) rfl rfl (fun ρ' w' U D=>⟨fun _=>(D 10 rfl),fun h=>absurd trivial h⟩) (fun _ h=>⟨fun hc=>absurd hc (yQ h),fun _=>rfl⟩) fun ρ' w' B U D hC hg=>zH rfl en140 (ce (v:=(.agg #[(i base),(.slice ab bs.length cab),(.slice ad dl.length cad),(i blo),(i bhi)])) (gdy (D 11 rfl) ⟨hC,hg⟩) cn) (c140 base blo bhi ab bs cab ad dl cad _ (hab.ext B.keep) (had.ext B.keep) (by omega)) (fun u w2 k2 hu=>⟨k2,⟨fun _=>hu,fun n=>absurd ⟨hC,hg⟩ n⟩⟩)
    · exact Ob.g0 rfl rfl (fun _ _ _ D=>D 10 rfl) rfl (fun _ _ B U D hC hg=>(yN (gdy (D 12 rfl) ⟨hC,hg⟩))) rfl
    · exact Ob.q rfl (fun _ _ B U D=>(zQ (v:=(.bool qq18)) (D 10 rfl) (fun eP=>or_t eP) (fun eP=>(gdy (D 13 rfl) ⟨trivial,eP⟩).trans (or_f eP)))) rfl rfl
    · exact Ob.q rfl (fun _ _ B U D=>(zB (D 14 rfl))) rfl rfl
    · exact Ob.g0 rfl rfl (fun _ _ _ D=>D 15 rfl) rfl (fun _ _ B U D hC hg=>(zJ ta43 ((U 1 rfl).trans f11) (B.cells 0 rfl) (j:=0) rfl (vs:=[i base,.slice ab bs.length cab,.slice ad dl.length cad,i blo,i bhi]) rfl rfl)) rfl
    · exact Ob.gd (C:=True) (g:=qq18) rfl rfl (fun ρ' w' U D=>⟨fun _=>(D 15 rfl),fun h=>absurd trivial h⟩) (fun _ h=>⟨fun hc=>absurd hc (yQ h),fun _=>rfl⟩) fun ρ' w' B U D hC hg=>zH rfl en141 (ce (v:=(.agg #[(i base),(.slice ab bs.length cab),(.slice ad dl.length cad),(i blo),(i bhi)])) (gdy (D 16 rfl) ⟨hC,hg⟩) cn) (c141 base blo bhi ab bs cab ad dl cad _ (hab.ext B.keep) (had.ext B.keep) (by omega)) (fun u w2 k2 hu=>⟨k2,⟨fun _=>hu,fun n=>absurd ⟨hC,hg⟩ n⟩⟩)
    · exact Ob.g0 rfl rfl (fun _ _ _ D=>D 15 rfl) rfl (fun _ _ B U D hC hg=>(yN (gdy (D 17 rfl) ⟨hC,hg⟩))) rfl
    · exact Ob.q rfl (fun _ _ B U D=>(zQ (v:=(.bool qq19)) (D 15 rfl) (fun eP=>or_t eP) (fun eP=>(gdy (D 18 rfl) ⟨trivial,eP⟩).trans (or_f eP)))) rfl rfl
    · exact Ob.q rfl (fun _ _ B U D=>(zD (D 19 rfl))) rfl rfl
  intro ρ20 w21 k22 U23 D24;replace H:=H.ext k22
  have f26:ρ20 14=(.bool qq19):=D24 20 rfl
  clear U23 D24 k22
  refine Ro.nil (nT ?_)
  refine Wp.cond (t:=qq19) f26 ?_ ?_
  · intro c27
    have c27r:((((!(decide ((-1000)≤base) && decide (base≤1000)) || (!((decide (0≤blo) && decide (blo≤bhi)) && decide (bhi≤5)))) || (!(bandsB bs))) || (!(uD dl))))=true:=c27
    replace c27:=c27r
    simp only [bx] at c27
    refine Wp.seq (Wp.region ?_)
    refine Ro.q (v:=(i 1)) rfl rfl (zD rfl) rfl ?_
    refine Ro.nil (nT (Wp.ret (rB (rT (zN ?_)))))
    refine zI (v:=(i 1)) Tryz.results116 rfl ⟨H.keep,?_⟩
    refine congrArg (Value.int _) ?_
    unfold yI
    simp only [yM,yL,c14r,c27r,cond_true,cond_false]
  intro c27
  have c27r:((((!(decide ((-1000)≤base) && decide (base≤1000)) || (!((decide (0≤blo) && decide (blo≤bhi)) && decide (bhi≤5)))) || (!(bandsB bs))) || (!(uD dl))))=false:=c27
  replace c27:=c27r
  simp only [bx] at c27
  refine Wp.skip (nB (nT (Wp.seq (Wp.region ?_))))
  refine Ro.q (v:=(i 0)) rfl rfl (zD rfl) rfl ?_
  refine Ro.nil (nT (Wp.ret (zN ?_)))
  refine zI (v:=(i 0)) Tryz.results116 rfl ⟨H.keep,?_⟩
  refine congrArg (Value.int _) ?_
  unfold yI
  simp only [yM,yL,c14r,c27r,cond_true,cond_false]
theorem c84 (base:Int) (blo:Int) (bhi:Int) (klo:Int) (khi:Int) (llo:Int) (lhi:Int) (slo:Int) (shi:Int) (term:Int) (ab:Option Addr) (bs:List Band) (cab:Nat) (ad:Option Addr) (dl:List Depth) (cad:Nat) (w:World) (hab:Sl w 3 (bs.map yH) ab) (had:Sl w 2 (dl.map zZ) ad)  : Rv Tryz.prog 84 [(.agg #[(i base),(.slice ab bs.length cab),(.slice ad dl.length cad),(i blo),(i bhi),(i klo),(i khi),(i llo),(i lhi),(i slo),(i shi),(i term)])] w (i (tubeE base bs dl blo bhi klo khi llo lhi slo shi term)):=by
  refine Ret.body (N:=32) Tryz.func84 rfl Tryz.ntmps84 rfl ?_
  have H:=S.start Nm w
  refine Wp.seq (Wp.region ?_)
  refine Ro.d rfl rfl rfl (H.box (l:=[i base,.slice ab bs.length cab,.slice ad dl.length cad,i blo,i bhi,i klo,i khi,i llo,i lhi,i slo,i shi,i term]) rfl (v:=(.agg #[(i base),(.slice ab bs.length cab),(.slice ad dl.length cad),(i blo),(i bhi),(i klo),(i khi),(i llo),(i lhi),(i slo),(i shi),(i term)])) rfl rfl ?_)
  intro b1 w2 Hn;replace H:=Hn;clear Hn
  refine Ro.q (v:=(i 0)) rfl rfl (zD rfl) rfl ?_
  refine Ro.nil (nT (Wp.seq (Wp.seq (Wp.region ?_))))
  refine Ro.q (v:=(p b1 0)) rfl rfl (zA fo45_0 rfl rfl) rfl ?_
  refine Ro.q rfl rfl (zJ ta43 rfl (H.cells 0 rfl) (j:=0) rfl (vs:=[i base,.slice ab bs.length cab,.slice ad dl.length cad,i blo,i bhi]) rfl rfl) rfl ?_
  refine Ro.d rfl rfl rfl (zH rfl en116 (ce (v:=(.agg #[(i base),(.slice ab bs.length cab),(.slice ad dl.length cad),(i blo),(i bhi)])) rfl cn) (c116 base blo bhi ab bs cab ad dl cad _ (hab.ext H.keep) (had.ext H.keep)) ?_)
  intro u w3 k4 hu;subst hu;replace H:=H.ext k4
  clear k4
  refine Ro.q (v:=(i (yI base bs dl blo bhi))) rfl rfl (zD rfl) rfl ?_
  refine Ro.nil (nT (Wp.seq (Wp.region ?_)))
  refine Ro.q (v:=(i (yI base bs dl blo bhi))) rfl rfl (zB rfl) rfl ?_
  refine Ro.q rfl rfl (vW rfl rfl) rfl ?_
  refine Ro.nil (nT ?_)
  refine Wp.cond (t:=decide ((yI base bs dl blo bhi)≠0)) rfl ?_ ?_
  · intro c5
    have c5r:=c5
    simp only [bx] at c5
    refine Wp.seq (Wp.region ?_)
    refine Ro.q (v:=(i (yI base bs dl blo bhi))) rfl rfl (zB rfl) rfl ?_
    refine Ro.q (v:=(i (yI base bs dl blo bhi))) rfl rfl (zD rfl) rfl ?_
    refine Ro.nil (nT (Wp.ret (rT (zN ?_))))
    refine zI (v:=(i (yI base bs dl blo bhi))) Tryz.results84 rfl ⟨H.keep,?_⟩
    refine congrArg (Value.int _) ?_
    unfold tubeE
    simp only [yM,yL,c5r,cond_true,cond_false]
  intro c5
  have c5r:=c5
  simp only [bx] at c5
  refine Wp.skip (nT (Wp.seq (Wp.seq ?_)))
  let qq6:Bool:=(decide (0≤klo) && decide (klo≤khi)) && decide (khi≤20)
  let qq7:Bool:=(decide (0≤llo) && decide (llo≤lhi)) && decide (lhi≤5)
  let qq8:Bool:=(!qq6 || (!qq7))
  let qq9:Bool:=(decide (0≤slo) && decide (slo≤shi)) && decide (shi≤3)
  let qq10:Bool:=(qq8 || (!qq9))
  let qq11:Bool:=decide (0≤term) && decide (term≤16)
  let qq12:Bool:=(qq10 || (!qq11))
  refine Wp.factsS 22 [is (p b1 5),is (.agg #[(i klo),(i khi)]),is (.bool qq6),is (.bool (!qq6)),is (.bool (!qq6)),gdv (True∧(!qq6)=false) (p b1 7),gdv (True∧(!qq6)=false) (.agg #[(i llo),(i lhi)]),gdv (True∧(!qq6)=false) (.bool qq7),gdv (True∧(!qq6)=false) (.bool (!qq7)),is (.bool qq8),is (.bool qq8),gdv (True∧qq8=false) (p b1 9),gdv (True∧qq8=false) (.agg #[(i slo),(i shi)]),gdv (True∧qq8=false) (.bool qq9),gdv (True∧qq8=false) (.bool (!qq9)),is (.bool qq10),is (.bool qq10),gdv (True∧qq10=false) (p b1 11),gdv (True∧qq10=false) (i term),gdv (True∧qq10=false) (.bool qq11),gdv (True∧qq10=false) (.bool (!qq11)),is (.bool qq12)] (by kernel_rfl) (Mi (Mi (Mi (Mi (Mi (Mg (Mg (Mg (Mg (Mi (Mi (Mg (Mg (Mg (Mg (Mi (Mi (Mg (Mg (Mg (Mg (Mi Mono.nil)))))))))))))))))))))) (fun w' k=>H.ext k) ?_ ?_
  · refine ⟨?_,?_,?_,?_,?_,?_,?_,?_,?_,?_,?_,?_,?_,?_,?_,?_,?_,?_,?_,?_,?_,?_,trivial⟩
    · exact Ob.q rfl (fun _ _ B U D=>(zA fo45_1 (show (_:Value)=(p b1 0) from U 1 rfl) rfl)) rfl rfl
    · exact Ob.q rfl (fun _ _ B U D=>(zJ vL (D 0 rfl) (B.cells 0 rfl) (j:=5) rfl (vs:=[i klo,i khi]) rfl rfl)) rfl rfl
    · exact Ob.mk rfl fun ρ' w' B U D=>zH rfl en117 (ce (v:=(.agg #[(i klo),(i khi)])) (D 1 rfl) (ce (v:=(i 0)) rfl (ce (v:=(i 20)) rfl cn))) (c117 klo khi 0 20 _ ) (fun u w2 k2 hu=>⟨k2,hu⟩)
    · exact Ob.q rfl (fun _ _ B U D=>(yN (D 2 rfl))) rfl rfl
    · exact Ob.q rfl (fun _ _ B U D=>(zB (D 3 rfl))) rfl rfl
    · exact Ob.g0 rfl rfl (fun _ _ _ D=>D 4 rfl) rfl (fun _ _ B U D hC hg=>(zA fo45_2 (show (_:Value)=(p b1 0) from U 1 rfl) rfl)) rfl
    · exact Ob.g0 rfl rfl (fun _ _ _ D=>D 4 rfl) rfl (fun _ _ B U D hC hg=>(zJ vL (gdy (D 5 rfl) ⟨hC,hg⟩) (B.cells 0 rfl) (j:=7) rfl (vs:=[i llo,i lhi]) rfl rfl)) rfl
    · exact Ob.gd (C:=True) (g:=!qq6) rfl rfl (fun ρ' w' U D=>⟨fun _=>(D 4 rfl),fun h=>absurd trivial h⟩) (fun _ h=>⟨fun hc=>absurd hc (yQ h),fun _=>rfl⟩) fun ρ' w' B U D hC hg=>zH rfl en117 (ce (v:=(.agg #[(i llo),(i lhi)])) (gdy (D 6 rfl) ⟨hC,hg⟩) (ce (v:=(i 0)) rfl (ce (v:=(i 5)) rfl cn))) (c117 llo lhi 0 5 _ ) (fun u w2 k2 hu=>⟨k2,⟨fun _=>hu,fun n=>absurd ⟨hC,hg⟩ n⟩⟩)
    · exact Ob.g0 rfl rfl (fun _ _ _ D=>D 4 rfl) rfl (fun _ _ B U D hC hg=>(yN (gdy (D 7 rfl) ⟨hC,hg⟩))) rfl
    · exact Ob.q rfl (fun _ _ B U D=>(zQ (v:=(.bool qq8)) (D 4 rfl) (fun eP=>or_t eP) (fun eP=>(gdy (D 8 rfl) ⟨trivial,eP⟩).trans (or_f eP)))) rfl rfl
    · exact Ob.q rfl (fun _ _ B U D=>(zB (D 9 rfl))) rfl rfl
    · exact Ob.g0 rfl rfl (fun _ _ _ D=>D 10 rfl) rfl (fun _ _ B U D hC hg=>(zA fo45_3 (show (_:Value)=(p b1 0) from U 1 rfl) rfl)) rfl
    · exact Ob.g0 rfl rfl (fun _ _ _ D=>D 10 rfl) rfl (fun _ _ B U D hC hg=>(zJ vL (gdy (D 11 rfl) ⟨hC,hg⟩) (B.cells 0 rfl) (j:=9) rfl (vs:=[i slo,i shi]) rfl rfl)) rfl
    · exact Ob.gd (C:=True) (g:=qq8) rfl rfl (fun ρ' w' U D=>⟨fun _=>(D 10 rfl),fun h=>absurd trivial h⟩) (fun _ h=>⟨fun hc=>absurd hc (yQ h),fun _=>rfl⟩) fun ρ' w' B U D hC hg=>zH rfl en117 (ce (v:=(.agg #[(i slo),(i shi)])) (gdy (D 12 rfl) ⟨hC,hg⟩) (ce (v:=(i 0)) rfl (ce (v:=(i 3)) rfl cn))) (c117 slo shi 0 3 _ ) (fun u w2 k2 hu=>⟨k2,⟨fun _=>hu,fun n=>absurd ⟨hC,hg⟩ n⟩⟩)
    · exact Ob.g0 rfl rfl (fun _ _ _ D=>D 10 rfl) rfl (fun _ _ B U D hC hg=>(yN (gdy (D 13 rfl) ⟨hC,hg⟩))) rfl
    · exact Ob.q rfl (fun _ _ B U D=>(zQ (v:=(.bool qq10)) (D 10 rfl) (fun eP=>or_t eP) (fun eP=>(gdy (D 14 rfl) ⟨trivial,eP⟩).trans (or_f eP)))) rfl rfl
    · exact Ob.q rfl (fun _ _ B U D=>(zB (D 15 rfl))) rfl rfl
    · exact Ob.g0 rfl rfl (fun _ _ _ D=>D 16 rfl) rfl (fun _ _ B U D hC hg=>(zA fo45_4 (show (_:Value)=(p b1 0) from U 1 rfl) rfl)) rfl
    · exact Ob.g0 rfl rfl (fun _ _ _ D=>D 16 rfl) rfl (fun _ _ B U D hC hg=>(zE zM (gdy (D 17 rfl) ⟨hC,hg⟩) (B.cells 0 rfl) (j:=11) rfl rfl)) rfl
    · exact Ob.gd (C:=True) (g:=qq10) rfl rfl (fun ρ' w' U D=>⟨fun _=>(D 16 rfl),fun h=>absurd trivial h⟩) (fun _ h=>⟨fun hc=>absurd hc (yQ h),fun _=>rfl⟩) fun ρ' w' B U D hC hg=>zH rfl en87 (ce (v:=(i term)) (gdy (D 18 rfl) ⟨hC,hg⟩) (ce (v:=(i 0)) rfl (ce (v:=(i 16)) rfl cn))) (c87 term 0 16 _ ) (fun u w2 k2 hu=>⟨k2,⟨fun _=>hu,fun n=>absurd ⟨hC,hg⟩ n⟩⟩)
    · exact Ob.g0 rfl rfl (fun _ _ _ D=>D 16 rfl) rfl (fun _ _ B U D hC hg=>(yN (gdy (D 19 rfl) ⟨hC,hg⟩))) rfl
    · exact Ob.q rfl (fun _ _ B U D=>(zQ (v:=(.bool qq12)) (D 16 rfl) (fun eP=>or_t eP) (fun eP=>(gdy (D 20 rfl) ⟨trivial,eP⟩).trans (or_f eP)))) rfl rfl
  intro ρ13 w14 k15 U16 D17;replace H:=H.ext k15
  have f19:ρ13 31=(.bool qq12):=D17 21 rfl
  clear U16 D17 k15
  refine Ro.nil (nT ?_)
  refine Wp.cond (t:=qq12) f19 ?_ ?_
  · intro c20
    have c20r:((((!((decide (0≤klo) && decide (klo≤khi)) && decide (khi≤20)) || (!((decide (0≤llo) && decide (llo≤lhi)) && decide (lhi≤5)))) || (!((decide (0≤slo) && decide (slo≤shi)) && decide (shi≤3)))) || (!(decide (0≤term) && decide (term≤16)))))=true:=c20
    replace c20:=c20r
    simp only [bx] at c20
    refine Wp.seq (Wp.region ?_)
    refine Ro.q (v:=(i 1)) rfl rfl (zD rfl) rfl ?_
    refine Ro.nil (nT (Wp.ret (rT (zN ?_))))
    refine zI (v:=(i 1)) Tryz.results84 rfl ⟨H.keep,?_⟩
    refine congrArg (Value.int _) ?_
    unfold tubeE
    simp only [yM,yL,c5r,c20r,cond_true,cond_false]
  intro c20
  have c20r:((((!((decide (0≤klo) && decide (klo≤khi)) && decide (khi≤20)) || (!((decide (0≤llo) && decide (llo≤lhi)) && decide (lhi≤5)))) || (!((decide (0≤slo) && decide (slo≤shi)) && decide (shi≤3)))) || (!(decide (0≤term) && decide (term≤16)))))=false:=c20
  replace c20:=c20r
  simp only [bx] at c20
  refine Wp.skip (nT (Wp.seq (Wp.region ?_)))
  refine Ro.q (v:=(i 0)) rfl rfl (zD rfl) rfl ?_
  refine Ro.nil (nT (Wp.ret (zN ?_)))
  refine zI (v:=(i 0)) Tryz.results84 rfl ⟨H.keep,?_⟩
  refine congrArg (Value.int _) ?_
  unfold tubeE
  simp only [yM,yL,c5r,c20r,cond_true,cond_false]
theorem c85 (days:Int) (day:Int) (shown:Int) (err:Int) (bare:Int) (alo:Int) (ahi:Int) (rlo:Int) (rhi:Int) (deep:Int) (broken:Bool) (w:World)  (hd:0≤days∧days≤4611686018427387904):Rv Tryz.prog 85 [(i days),(.agg #[(i day),(i shown),(i err),(i bare),(i alo),(i ahi),(i rlo),(i rhi),(i deep),(.bool broken)])] w (.bool (readB days day shown err bare alo ahi rlo rhi deep)):=by
  refine Ret.body (N:=40) Tryz.func85 rfl Tryz.ntmps85 rfl ?_
  have H:=S.start Nm w
  refine Wp.seq (Wp.region ?_)
  refine Ro.d rfl rfl rfl (H.box (l:=[i day,i shown,i err,i bare,i alo,i ahi,i rlo,i rhi,i deep,.bool broken]) rfl (v:=(.agg #[(i day),(i shown),(i err),(i bare),(i alo),(i ahi),(i rlo),(i rhi),(i deep),(.bool broken)])) rfl rfl ?_)
  intro b1 w2 Hn;replace H:=Hn;clear Hn
  refine Ro.q (v:=(.bool false)) rfl rfl (zD rfl) rfl ?_
  refine Ro.nil (nT (Wp.seq ?_))
  let qq3:Bool:=decide (0≤day) && decide (day≤(days-1))
  let qq4:Bool:=decide ((-5000)≤shown) && decide (shown≤5000)
  let qq5:Bool:=(qq3 && qq4)
  let qq6:Bool:=decide (0≤err) && decide (err≤20)
  let qq7:Bool:=(qq5 && qq6)
  let qq8:Bool:=decide (0≤bare) && decide (bare≤300)
  let qq9:Bool:=(qq7 && qq8)
  let qq10:Bool:=(decide ((-100)≤alo) && decide (alo≤ahi)) && decide (ahi≤100)
  let qq11:Bool:=(qq9 && qq10)
  let qq12:Bool:=(decide ((-20)≤rlo) && decide (rlo≤rhi)) && decide (rhi≤20)
  let qq13:Bool:=(qq11 && qq12)
  let qq14:Bool:=decide (0≤deep) && decide (deep≤20)
  let qq15:Bool:=(qq13 && qq14)
  refine Wp.factsS 36 [is (p b1 0),is (i day),is (i days),is (i (days-1)),is (.bool qq3),is (.bool qq3),gdv (True∧qq3=true) (p b1 1),gdv (True∧qq3=true) (i shown),gdv (True∧qq3=true) (.bool qq4),is (.bool qq5),is (.bool qq5),gdv (True∧qq5=true) (p b1 2),gdv (True∧qq5=true) (i err),gdv (True∧qq5=true) (.bool qq6),is (.bool qq7),is (.bool qq7),gdv (True∧qq7=true) (p b1 3),gdv (True∧qq7=true) (i bare),gdv (True∧qq7=true) (.bool qq8),is (.bool qq9),is (.bool qq9),gdv (True∧qq9=true) (p b1 4),gdv (True∧qq9=true) (.agg #[(i alo),(i ahi)]),gdv (True∧qq9=true) (.bool qq10),is (.bool qq11),is (.bool qq11),gdv (True∧qq11=true) (p b1 6),gdv (True∧qq11=true) (.agg #[(i rlo),(i rhi)]),gdv (True∧qq11=true) (.bool qq12),is (.bool qq13),is (.bool qq13),gdv (True∧qq13=true) (p b1 8),gdv (True∧qq13=true) (i deep),gdv (True∧qq13=true) (.bool qq14),is (.bool qq15),is (.bool qq15)] (by kernel_rfl) (Mi (Mi (Mi (Mi (Mi (Mi (Mg (Mg (Mg (Mi (Mi (Mg (Mg (Mg (Mi (Mi (Mg (Mg (Mg (Mi (Mi (Mg (Mg (Mg (Mi (Mi (Mg (Mg (Mg (Mi (Mi (Mg (Mg (Mg (Mi (Mi Mono.nil)))))))))))))))))))))))))))))))))))) (fun w' k=>H.ext k) ?_ ?_
  · refine ⟨?_,?_,?_,?_,?_,?_,?_,?_,?_,?_,?_,?_,?_,?_,?_,?_,?_,?_,?_,?_,?_,?_,?_,?_,?_,?_,?_,?_,?_,?_,?_,?_,?_,?_,?_,?_,trivial⟩
    · exact Ob.q rfl (fun _ _ B U D=>(zA fo52_0 (show (_:Value)=(p b1 0) from U 3 rfl) rfl)) rfl rfl
    · exact Ob.q rfl (fun _ _ B U D=>(zE zM (D 0 rfl) (B.cells 0 rfl) (j:=0) rfl rfl)) rfl rfl
    · exact Ob.q rfl (fun _ _ B U D=>(zB (show (_:Value)=(i days) from U 0 rfl))) rfl rfl
    · exact Ob.q rfl (fun _ _ B U D=>(yT (D 2 rfl) rfl (by constructor <;>omega))) rfl rfl
    · exact Ob.mk rfl fun ρ' w' B U D=>zH rfl en87 (ce (v:=(i day)) (D 1 rfl) (ce (v:=(i 0)) rfl (ce (v:=(i (days-1))) (D 3 rfl) cn))) (c87 day 0 (days-1) _ ) (fun u w2 k2 hu=>⟨k2,hu⟩)
    · exact Ob.q rfl (fun _ _ B U D=>(zB (D 4 rfl))) rfl rfl
    · exact Ob.g0 rfl rfl (fun _ _ _ D=>D 5 rfl) rfl (fun _ _ B U D hC hg=>(zA fo52_1 (show (_:Value)=(p b1 0) from U 3 rfl) rfl)) rfl
    · exact Ob.g0 rfl rfl (fun _ _ _ D=>D 5 rfl) rfl (fun _ _ B U D hC hg=>(zE zM (gdy (D 6 rfl) ⟨hC,hg⟩) (B.cells 0 rfl) (j:=1) rfl rfl)) rfl
    · exact Ob.gd (C:=True) (g:=qq3) rfl rfl (fun ρ' w' U D=>⟨fun _=>(D 5 rfl),fun h=>absurd trivial h⟩) (fun _ h=>⟨fun hc=>absurd hc (yQ h),fun _=>rfl⟩) fun ρ' w' B U D hC hg=>zH rfl en87 (ce (v:=(i shown)) (gdy (D 7 rfl) ⟨hC,hg⟩) (ce (v:=(i (-5000))) rfl (ce (v:=(i 5000)) rfl cn))) (c87 shown (-5000) 5000 _ ) (fun u w2 k2 hu=>⟨k2,⟨fun _=>hu,fun n=>absurd ⟨hC,hg⟩ n⟩⟩)
    · exact Ob.q rfl (fun _ _ B U D=>(zQ (v:=(.bool qq5)) (D 5 rfl) (fun eP=>(gdy (D 8 rfl) ⟨trivial,eP⟩).trans (yF eP)) (fun eP=>yE eP))) rfl rfl
    · exact Ob.q rfl (fun _ _ B U D=>(zB (D 9 rfl))) rfl rfl
    · exact Ob.g0 rfl rfl (fun _ _ _ D=>D 10 rfl) rfl (fun _ _ B U D hC hg=>(zA fo52_2 (show (_:Value)=(p b1 0) from U 3 rfl) rfl)) rfl
    · exact Ob.g0 rfl rfl (fun _ _ _ D=>D 10 rfl) rfl (fun _ _ B U D hC hg=>(zE zM (gdy (D 11 rfl) ⟨hC,hg⟩) (B.cells 0 rfl) (j:=2) rfl rfl)) rfl
    · exact Ob.gd (C:=True) (g:=qq5) rfl rfl (fun ρ' w' U D=>⟨fun _=>(D 10 rfl),fun h=>absurd trivial h⟩) (fun _ h=>⟨fun hc=>absurd hc (yQ h),fun _=>rfl⟩) fun ρ' w' B U D hC hg=>zH rfl en87 (ce (v:=(i err)) (gdy (D 12 rfl) ⟨hC,hg⟩) (ce (v:=(i 0)) rfl (ce (v:=(i 20)) rfl cn))) (c87 err 0 20 _ ) (fun u w2 k2 hu=>⟨k2,⟨fun _=>hu,fun n=>absurd ⟨hC,hg⟩ n⟩⟩)
    · exact Ob.q rfl (fun _ _ B U D=>(zQ (v:=(.bool qq7)) (D 10 rfl) (fun eP=>(gdy (D 13 rfl) ⟨trivial,eP⟩).trans (yF eP)) (fun eP=>yE eP))) rfl rfl
    · exact Ob.q rfl (fun _ _ B U D=>(zB (D 14 rfl))) rfl rfl
    · exact Ob.g0 rfl rfl (fun _ _ _ D=>D 15 rfl) rfl (fun _ _ B U D hC hg=>(zA fo52_3 (show (_:Value)=(p b1 0) from U 3 rfl) rfl)) rfl
    · exact Ob.g0 rfl rfl (fun _ _ _ D=>D 15 rfl) rfl (fun _ _ B U D hC hg=>(zE zM (gdy (D 16 rfl) ⟨hC,hg⟩) (B.cells 0 rfl) (j:=3) rfl rfl)) rfl
    · exact Ob.gd (C:=True) (g:=qq7) rfl rfl (fun ρ' w' U D=>⟨fun _=>(D 15 rfl),fun h=>absurd trivial h⟩) (fun _ h=>⟨fun hc=>absurd hc (yQ h),fun _=>rfl⟩) fun ρ' w' B U D hC hg=>zH rfl en87 (ce (v:=(i bare)) (gdy (D 17 rfl) ⟨hC,hg⟩) (ce (v:=(i 0)) rfl (ce (v:=(i 300)) rfl cn))) (c87 bare 0 300 _ ) (fun u w2 k2 hu=>⟨k2,⟨fun _=>hu,fun n=>absurd ⟨hC,hg⟩ n⟩⟩)
    · exact Ob.q rfl (fun _ _ B U D=>(zQ (v:=(.bool qq9)) (D 15 rfl) (fun eP=>(gdy (D 18 rfl) ⟨trivial,eP⟩).trans (yF eP)) (fun eP=>yE eP))) rfl rfl
    · exact Ob.q rfl (fun _ _ B U D=>(zB (D 19 rfl))) rfl rfl
    · exact Ob.g0 rfl rfl (fun _ _ _ D=>D 20 rfl) rfl (fun _ _ B U D hC hg=>(zA fo52_4 (show (_:Value)=(p b1 0) from U 3 rfl) rfl)) rfl
    · exact Ob.g0 rfl rfl (fun _ _ _ D=>D 20 rfl) rfl (fun _ _ B U D hC hg=>(zJ vL (gdy (D 21 rfl) ⟨hC,hg⟩) (B.cells 0 rfl) (j:=4) rfl (vs:=[i alo,i ahi]) rfl rfl)) rfl
    · exact Ob.gd (C:=True) (g:=qq9) rfl rfl (fun ρ' w' U D=>⟨fun _=>(D 20 rfl),fun h=>absurd trivial h⟩) (fun _ h=>⟨fun hc=>absurd hc (yQ h),fun _=>rfl⟩) fun ρ' w' B U D hC hg=>zH rfl en117 (ce (v:=(.agg #[(i alo),(i ahi)])) (gdy (D 22 rfl) ⟨hC,hg⟩) (ce (v:=(i (-100))) rfl (ce (v:=(i 100)) rfl cn))) (c117 alo ahi (-100) 100 _ ) (fun u w2 k2 hu=>⟨k2,⟨fun _=>hu,fun n=>absurd ⟨hC,hg⟩ n⟩⟩)
    · exact Ob.q rfl (fun _ _ B U D=>(zQ (v:=(.bool qq11)) (D 20 rfl) (fun eP=>(gdy (D 23 rfl) ⟨trivial,eP⟩).trans (yF eP)) (fun eP=>yE eP))) rfl rfl
    · exact Ob.q rfl (fun _ _ B U D=>(zB (D 24 rfl))) rfl rfl
    · exact Ob.g0 rfl rfl (fun _ _ _ D=>D 25 rfl) rfl (fun _ _ B U D hC hg=>(zA fo52_5 (show (_:Value)=(p b1 0) from U 3 rfl) rfl)) rfl
    · exact Ob.g0 rfl rfl (fun _ _ _ D=>D 25 rfl) rfl (fun _ _ B U D hC hg=>(zJ vL (gdy (D 26 rfl) ⟨hC,hg⟩) (B.cells 0 rfl) (j:=6) rfl (vs:=[i rlo,i rhi]) rfl rfl)) rfl
    · exact Ob.gd (C:=True) (g:=qq11) rfl rfl (fun ρ' w' U D=>⟨fun _=>(D 25 rfl),fun h=>absurd trivial h⟩) (fun _ h=>⟨fun hc=>absurd hc (yQ h),fun _=>rfl⟩) fun ρ' w' B U D hC hg=>zH rfl en117 (ce (v:=(.agg #[(i rlo),(i rhi)])) (gdy (D 27 rfl) ⟨hC,hg⟩) (ce (v:=(i (-20))) rfl (ce (v:=(i 20)) rfl cn))) (c117 rlo rhi (-20) 20 _ ) (fun u w2 k2 hu=>⟨k2,⟨fun _=>hu,fun n=>absurd ⟨hC,hg⟩ n⟩⟩)
    · exact Ob.q rfl (fun _ _ B U D=>(zQ (v:=(.bool qq13)) (D 25 rfl) (fun eP=>(gdy (D 28 rfl) ⟨trivial,eP⟩).trans (yF eP)) (fun eP=>yE eP))) rfl rfl
    · exact Ob.q rfl (fun _ _ B U D=>(zB (D 29 rfl))) rfl rfl
    · exact Ob.g0 rfl rfl (fun _ _ _ D=>D 30 rfl) rfl (fun _ _ B U D hC hg=>(zA fo52_6 (show (_:Value)=(p b1 0) from U 3 rfl) rfl)) rfl
    · exact Ob.g0 rfl rfl (fun _ _ _ D=>D 30 rfl) rfl (fun _ _ B U D hC hg=>(zE zM (gdy (D 31 rfl) ⟨hC,hg⟩) (B.cells 0 rfl) (j:=8) rfl rfl)) rfl
    · exact Ob.gd (C:=True) (g:=qq13) rfl rfl (fun ρ' w' U D=>⟨fun _=>(D 30 rfl),fun h=>absurd trivial h⟩) (fun _ h=>⟨fun hc=>absurd hc (yQ h),fun _=>rfl⟩) fun ρ' w' B U D hC hg=>zH rfl en87 (ce (v:=(i deep)) (gdy (D 32 rfl) ⟨hC,hg⟩) (ce (v:=(i 0)) rfl (ce (v:=(i 20)) rfl cn))) (c87 deep 0 20 _ ) (fun u w2 k2 hu=>⟨k2,⟨fun _=>hu,fun n=>absurd ⟨hC,hg⟩ n⟩⟩)
    · exact Ob.q rfl (fun _ _ B U D=>(zQ (v:=(.bool qq15)) (D 30 rfl) (fun eP=>(gdy (D 33 rfl) ⟨trivial,eP⟩).trans (yF eP)) (fun eP=>yE eP))) rfl rfl
    · exact Ob.q rfl (fun _ _ B U D=>(zD (D 34 rfl))) rfl rfl
  intro ρ16 w17 k18 U19 D20;replace H:=H.ext k18
  have f21:ρ16 4=(.bool qq15):=D20 35 rfl
  clear U19 D20 k18
  refine Ro.nil (nT (Wp.ret (zN ?_)))
  refine zI (v:=(.bool (((((((decide (0≤day) && decide (day≤(days-1))) && (decide ((-5000)≤shown) && decide (shown≤5000))) && (decide (0≤err) && decide (err≤20))) && (decide (0≤bare) && decide (bare≤300))) && ((decide ((-100)≤alo) && decide (alo≤ahi)) && decide (ahi≤100))) && ((decide ((-20)≤rlo) && decide (rlo≤rhi)) && decide (rhi≤20))) && (decide (0≤deep) && decide (deep≤20))))) Tryz.results85 f21 ⟨H.keep,?_⟩
  rfl
theorem c103 (a:Option Addr) (xs:List Int) (ca:Nat) (w:World) (ha:Sl w 1 (xs.map yD) a) (hl:0<xs.length∧xs.length≤4611686018427387904):Rv Tryz.prog 103 [(.slice a xs.length ca)] w (i (vB xs)):=by
  obtain ⟨z,hz⟩ : ∃ z,xs[(0:Int).toNat]? = some z:=⟨xs[0],by simp⟩
  refine Ret.body (N:=25) Tryz.func103 rfl Tryz.ntmps103 rfl ?_
  have H:=S.start Nm w
  refine Wp.seq (Wp.region ?_)
  refine Ro.q (v:=(i 0)) rfl rfl (zD rfl) rfl ?_
  refine Ro.nil (nT (Wp.seq (Wp.seq (Wp.region ?_))))
  refine Ro.q (v:=(.slice a xs.length ca)) rfl rfl (zB rfl) rfl ?_
  refine Ro.q rfl rfl (yG Tryz.underlying72 rfl (v:=xs.length) rfl) rfl ?_
  refine Ro.q rfl rfl (yB rfl rfl) rfl ?_
  refine Ro.nil (nT ?_)
  refine Wp.condF (show ev _ _ _=_ from congrArg Value.bool (show decide (((xs.length:Nat):Int)<1)=false by exact decide_eq_false (by omega))) ?_
  refine Wp.skip (nT (Wp.seq (Wp.region ?_)))
  refine Ro.q (v:=(.slice a xs.length ca)) rfl rfl (zB rfl) rfl ?_
  refine Ro.q rfl rfl (zY ts72 (ha.ext H.keep) rfl (by simp) rfl (by omega) (zW hz)) rfl ?_
  refine Ro.q rfl rfl (zE zM rfl ((ha.ext H.keep).cells (zW hz)) (j:=0) rfl rfl) rfl ?_
  refine Ro.q (v:=(i z)) rfl rfl (zD rfl) rfl ?_
  refine Ro.nil (nT (Wp.seq (Wp.seq (Wp.region ?_))))
  refine Ro.q (v:=(i 1)) rfl rfl (zD rfl) rfl ?_
  refine Ro.nil (nT (Wp.block ?_))
  refine Wp.loop (fun kM ds ρ w'=>∃ n:Int,∃ m:Int,ds=[]∧(1≤n∧n≤xs.length)∧kM=((xs.length:Int)-n).toNat∧ρ 0=(.slice a xs.length ca)∧ρ 2=(i 0)∧ρ 4=(i n)∧ρ 3=(i m)∧S Nm w [] w'∧(m=vB (xs.take n.toNat))) (((xs.length:Int)-1).toNat) ⟨1,z,rfl,(by omega),rfl,rfl,rfl,rfl,rfl,H,(by cases xs with | nil=>simp at hz | cons x l=>simp at hz;simp [vB,hz])⟩ ?_
  clear H
  intro kρ6 dsρ6 ρ6 w7
  rintro ⟨n,m,rfl,hb9,hk8,f2,f3,f4,f5,H,hi10⟩
  refine Wp.seq (Wp.seq (Wp.region ?_))
  refine Ro.q (v:=(i n)) rfl rfl (zB f4) rfl ?_
  refine Ro.q (v:=(.slice a xs.length ca)) rfl rfl (zB f2) rfl ?_
  refine Ro.q rfl rfl (yG Tryz.underlying72 rfl (v:=xs.length) rfl) rfl ?_
  refine Ro.q rfl rfl (yB rfl rfl) rfl ?_
  refine Ro.nil (nT ?_)
  refine Wp.cond (t:=decide (n<((xs.length:Nat):Int))) rfl ?_ ?_
  · intro c11
    have c11r:=c11
    simp only [bx] at c11
    obtain ⟨e,he⟩:=vQ xs n (by omega) (by omega)
    refine Wp.skip (nT (Wp.seq (Wp.block (Wp.region ?_))))
    refine Ro.q (v:=(i m)) rfl rfl (zB f5) rfl ?_
    refine Ro.q (v:=(.slice a xs.length ca)) rfl rfl (zB f2) rfl ?_
    refine Ro.q (v:=(i n)) rfl rfl (zB f4) rfl ?_
    refine Ro.q rfl rfl (zY ts72 (ha.ext H.keep) rfl (by simp) rfl (by omega) (zW he)) rfl ?_
    refine Ro.q rfl rfl (zE zM rfl ((ha.ext H.keep).cells (zW he)) (j:=0) rfl rfl) rfl ?_
    refine Ro.q rfl rfl (r_max2 rfl rfl) rfl ?_
    refine Ro.q (v:=(i (max m e))) rfl rfl (zD rfl) rfl ?_
    refine Ro.nil (nB (nT (Wp.region ?_)))
    refine Ro.q (v:=(i n)) rfl rfl (zB f4) rfl ?_
    refine Ro.q rfl rfl (zU rfl rfl (by constructor <;>omega)) rfl ?_
    refine Ro.q (v:=(i (n+1))) rfl rfl (zD rfl) rfl ?_
    refine Ro.nil (nT ?_)
    exact ⟨((xs.length:Int)-(n+1)).toNat,by omega,(n+1),(max m e),rfl,(by omega),rfl,f2,f3,rfl,rfl,H,(by rw [show (n+1).toNat=n.toNat+1 by omega,maxL_take (by omega) he,hi10])⟩
  intro c11
  have c11r:=c11
  simp only [bx] at c11
  refine Wp.exit (xT (xT (xB (nT (Wp.seq (Wp.region ?_))))))
  refine Ro.q (v:=(i m)) rfl rfl (zB f5) rfl ?_
  refine Ro.q (v:=(i m)) rfl rfl (zD rfl) rfl ?_
  refine Ro.nil (nT (Wp.ret (zN ?_)))
  refine zI (v:=(i m)) Tryz.results103 rfl ⟨H.keep,?_⟩
  have hn:n=xs.length:=by omega
  subst hn
  rw [hi10];simp
theorem c102 (a:Option Addr) (xs:List Int) (ca:Nat) (w:World) (ha:Sl w 1 (xs.map yD) a) (hl:0<xs.length∧xs.length≤4611686018427387904):Rv Tryz.prog 102 [(.slice a xs.length ca)] w (i (vS xs)):=by
  obtain ⟨z,hz⟩ : ∃ z,xs[(0:Int).toNat]? = some z:=⟨xs[0],by simp⟩
  refine Ret.body (N:=25) Tryz.func102 rfl Tryz.ntmps102 rfl ?_
  have H:=S.start Nm w
  refine Wp.seq (Wp.region ?_)
  refine Ro.q (v:=(i 0)) rfl rfl (zD rfl) rfl ?_
  refine Ro.nil (nT (Wp.seq (Wp.seq (Wp.region ?_))))
  refine Ro.q (v:=(.slice a xs.length ca)) rfl rfl (zB rfl) rfl ?_
  refine Ro.q rfl rfl (yG Tryz.underlying72 rfl (v:=xs.length) rfl) rfl ?_
  refine Ro.q rfl rfl (yB rfl rfl) rfl ?_
  refine Ro.nil (nT ?_)
  refine Wp.condF (show ev _ _ _=_ from congrArg Value.bool (show decide (((xs.length:Nat):Int)<1)=false by exact decide_eq_false (by omega))) ?_
  refine Wp.skip (nT (Wp.seq (Wp.region ?_)))
  refine Ro.q (v:=(.slice a xs.length ca)) rfl rfl (zB rfl) rfl ?_
  refine Ro.q rfl rfl (zY ts72 (ha.ext H.keep) rfl (by simp) rfl (by omega) (zW hz)) rfl ?_
  refine Ro.q rfl rfl (zE zM rfl ((ha.ext H.keep).cells (zW hz)) (j:=0) rfl rfl) rfl ?_
  refine Ro.q (v:=(i z)) rfl rfl (zD rfl) rfl ?_
  refine Ro.nil (nT (Wp.seq (Wp.seq (Wp.region ?_))))
  refine Ro.q (v:=(i 1)) rfl rfl (zD rfl) rfl ?_
  refine Ro.nil (nT (Wp.block ?_))
  refine Wp.loop (fun kM ds ρ w'=>∃ n:Int,∃ m:Int,ds=[]∧(1≤n∧n≤xs.length)∧kM=((xs.length:Int)-n).toNat∧ρ 0=(.slice a xs.length ca)∧ρ 2=(i 0)∧ρ 4=(i n)∧ρ 3=(i m)∧S Nm w [] w'∧(m=vS (xs.take n.toNat))) (((xs.length:Int)-1).toNat) ⟨1,z,rfl,(by omega),rfl,rfl,rfl,rfl,rfl,H,(by cases xs with | nil=>simp at hz | cons x l=>simp at hz;simp [vS,hz])⟩ ?_
  clear H
  intro kρ6 dsρ6 ρ6 w7
  rintro ⟨n,m,rfl,hb9,hk8,f2,f3,f4,f5,H,hi10⟩
  refine Wp.seq (Wp.seq (Wp.region ?_))
  refine Ro.q (v:=(i n)) rfl rfl (zB f4) rfl ?_
  refine Ro.q (v:=(.slice a xs.length ca)) rfl rfl (zB f2) rfl ?_
  refine Ro.q rfl rfl (yG Tryz.underlying72 rfl (v:=xs.length) rfl) rfl ?_
  refine Ro.q rfl rfl (yB rfl rfl) rfl ?_
  refine Ro.nil (nT ?_)
  refine Wp.cond (t:=decide (n<((xs.length:Nat):Int))) rfl ?_ ?_
  · intro c11
    have c11r:=c11
    simp only [bx] at c11
    obtain ⟨e,he⟩:=vQ xs n (by omega) (by omega)
    refine Wp.skip (nT (Wp.seq (Wp.block (Wp.region ?_))))
    refine Ro.q (v:=(i m)) rfl rfl (zB f5) rfl ?_
    refine Ro.q (v:=(.slice a xs.length ca)) rfl rfl (zB f2) rfl ?_
    refine Ro.q (v:=(i n)) rfl rfl (zB f4) rfl ?_
    refine Ro.q rfl rfl (zY ts72 (ha.ext H.keep) rfl (by simp) rfl (by omega) (zW he)) rfl ?_
    refine Ro.q rfl rfl (zE zM rfl ((ha.ext H.keep).cells (zW he)) (j:=0) rfl rfl) rfl ?_
    refine Ro.q rfl rfl (r_min2 rfl rfl) rfl ?_
    refine Ro.q (v:=(i (min m e))) rfl rfl (zD rfl) rfl ?_
    refine Ro.nil (nB (nT (Wp.region ?_)))
    refine Ro.q (v:=(i n)) rfl rfl (zB f4) rfl ?_
    refine Ro.q rfl rfl (zU rfl rfl (by constructor <;>omega)) rfl ?_
    refine Ro.q (v:=(i (n+1))) rfl rfl (zD rfl) rfl ?_
    refine Ro.nil (nT ?_)
    exact ⟨((xs.length:Int)-(n+1)).toNat,by omega,(n+1),(min m e),rfl,(by omega),rfl,f2,f3,rfl,rfl,H,(by rw [show (n+1).toNat=n.toNat+1 by omega,minL_take (by omega) he,hi10])⟩
  intro c11
  have c11r:=c11
  simp only [bx] at c11
  refine Wp.exit (xT (xT (xB (nT (Wp.seq (Wp.region ?_))))))
  refine Ro.q (v:=(i m)) rfl rfl (zB f5) rfl ?_
  refine Ro.q (v:=(i m)) rfl rfl (zD rfl) rfl ?_
  refine Ro.nil (nT (Wp.ret (zN ?_)))
  refine zI (v:=(i m)) Tryz.results102 rfl ⟨H.keep,?_⟩
  have hn:n=xs.length:=by omega
  subst hn
  rw [hi10];simp
theorem c152 (a:Option Addr) (xs:List Int) (ca:Nat) (w:World) (ha:Sl w 1 (xs.map yD) a) (hl:0<xs.length∧xs.length≤4611686018427387904):Rv Tryz.prog 152 [(.slice a xs.length ca)] w (i (vB xs)):=by
  refine Ret.body (N:=5) Tryz.func152 rfl Tryz.ntmps152 rfl ?_
  have H:=S.start Nm w
  refine Wp.seq (Wp.region ?_)
  refine Ro.q (v:=(i 0)) rfl rfl (zD rfl) rfl ?_
  refine Ro.nil (nT (Wp.seq (Wp.region ?_)))
  refine Ro.q (v:=(.slice a xs.length ca)) rfl rfl (zB rfl) rfl ?_
  refine Ro.d rfl rfl rfl (zH rfl en103 (ce (v:=(.slice a xs.length ca)) rfl cn) (c103 a xs ca _ (ha.ext H.keep) hl) ?_)
  intro u w1 k2 hu;subst hu;replace H:=H.ext k2
  clear k2
  refine Ro.q (v:=(i (vB xs))) rfl rfl (zD rfl) rfl ?_
  refine Ro.nil (nT (Wp.ret (zN ?_)))
  refine zI (v:=(i (vB xs))) Tryz.results152 rfl ⟨H.keep,?_⟩
  rfl
theorem c71 (a:Option Addr) (xs:List Int) (ca:Nat) (w:World) (ha:Sl w 1 (xs.map yD) a) (hl:0<xs.length∧xs.length≤4611686018427387904):Rv Tryz.prog 71 [(.slice a xs.length ca)] w (i (vB xs)):=by
  refine Ret.body (N:=5) Tryz.func71 rfl Tryz.ntmps71 rfl ?_
  have H:=S.start Nm w
  refine Wp.seq (Wp.region ?_)
  refine Ro.q (v:=(i 0)) rfl rfl (zD rfl) rfl ?_
  refine Ro.nil (nT (Wp.seq (Wp.region ?_)))
  refine Ro.q (v:=(.slice a xs.length ca)) rfl rfl (zB rfl) rfl ?_
  refine Ro.d rfl rfl rfl (zH rfl en103 (ce (v:=(.slice a xs.length ca)) rfl cn) (c103 a xs ca _ (ha.ext H.keep) hl) ?_)
  intro u w1 k2 hu;subst hu;replace H:=H.ext k2
  clear k2
  refine Ro.q (v:=(i (vB xs))) rfl rfl (zD rfl) rfl ?_
  refine Ro.nil (nT (Wp.ret (zN ?_)))
  refine zI (v:=(i (vB xs))) Tryz.results71 rfl ⟨H.keep,?_⟩
  rfl
theorem c70 (a:Option Addr) (xs:List Int) (ca:Nat) (w:World) (ha:Sl w 1 (xs.map yD) a) (hl:0<xs.length∧xs.length≤4611686018427387904):Rv Tryz.prog 70 [(.slice a xs.length ca)] w (i (vS xs)):=by
  refine Ret.body (N:=5) Tryz.func70 rfl Tryz.ntmps70 rfl ?_
  have H:=S.start Nm w
  refine Wp.seq (Wp.region ?_)
  refine Ro.q (v:=(i 0)) rfl rfl (zD rfl) rfl ?_
  refine Ro.nil (nT (Wp.seq (Wp.region ?_)))
  refine Ro.q (v:=(.slice a xs.length ca)) rfl rfl (zB rfl) rfl ?_
  refine Ro.d rfl rfl rfl (zH rfl en102 (ce (v:=(.slice a xs.length ca)) rfl cn) (c102 a xs ca _ (ha.ext H.keep) hl) ?_)
  intro u w1 k2 hu;subst hu;replace H:=H.ext k2
  clear k2
  refine Ro.q (v:=(i (vS xs))) rfl rfl (zD rfl) rfl ?_
  refine Ro.nil (nT (Wp.ret (zN ?_)))
  refine zI (v:=(i (vS xs))) Tryz.results70 rfl ⟨H.keep,?_⟩
  rfl
end Go.Proofs.YthfnjppieihcfaaGreat
namespace Go.Proofs.YthfnjppieihcfaaGreat
open Go.RowKit Go.Proofs Go.Mw
theorem en118:Go.Proofs.Enters Tryz.prog 118:=Go.Proofs.enters_of Tryz.func118 (by kernel_rfl) rfl
theorem en119:Go.Proofs.Enters Tryz.prog 119:=Go.Proofs.enters_of Tryz.func119 (by kernel_rfl) rfl
theorem en134:Go.Proofs.Enters Tryz.prog 134:=Go.Proofs.enters_of Tryz.func134 (by kernel_rfl) rfl
theorem en135:Go.Proofs.Enters Tryz.prog 135:=Go.Proofs.enters_of Tryz.func135 (by kernel_rfl) rfl
theorem en142:Go.Proofs.Enters Tryz.prog 142:=Go.Proofs.enters_of Tryz.func142 (by kernel_rfl) rfl
theorem en143:Go.Proofs.Enters Tryz.prog 143:=Go.Proofs.enters_of Tryz.func143 (by kernel_rfl) rfl
theorem en144:Go.Proofs.Enters Tryz.prog 144:=Go.Proofs.enters_of Tryz.func144 (by kernel_rfl) rfl
theorem en152:Go.Proofs.Enters Tryz.prog 152:=Go.Proofs.enters_of Tryz.func152 (by kernel_rfl) rfl
theorem en153:Go.Proofs.Enters Tryz.prog 153:=Go.Proofs.enters_of Tryz.func153 (by kernel_rfl) rfl
theorem en70:Go.Proofs.Enters Tryz.prog 70:=Go.Proofs.enters_of Tryz.func70 (by kernel_rfl) rfl
theorem en71:Go.Proofs.Enters Tryz.prog 71:=Go.Proofs.enters_of Tryz.func71 (by kernel_rfl) rfl
theorem en79:Go.Proofs.Enters Tryz.prog 79:=Go.Proofs.enters_of Tryz.func79 (by kernel_rfl) rfl
theorem en88:Go.Proofs.Enters Tryz.prog 88:=Go.Proofs.enters_of Tryz.func88 (by kernel_rfl) rfl
theorem fo103_1:FO Tryz.prog 103 1 1:=fun _ _ _=>by kernel_rfl
theorem fo103_2:FO Tryz.prog 103 2 2:=fun _ _ _=>by kernel_rfl
theorem fo137_0:FO Tryz.prog 137 0 0:=fun _ _ _=>by kernel_rfl
theorem fo137_1:FO Tryz.prog 137 1 1:=fun _ _ _=>by kernel_rfl
theorem fo137_2:FO Tryz.prog 137 2 2:=fun _ _ _=>by kernel_rfl
theorem vJ:FO Tryz.prog 170 1 12:=fun _ _ _=>by kernel_rfl
theorem fo199_0:FO Tryz.prog 199 0 0:=fun _ _ _=>by kernel_rfl
theorem fo199_1:FO Tryz.prog 199 1 1:=fun _ _ _=>by kernel_rfl
theorem fo209_0:FO Tryz.prog 209 0 0:=fun _ _ _=>by kernel_rfl
theorem fo225_0:FO Tryz.prog 225 0 0:=fun _ _ _=>by kernel_rfl
theorem fo29_1:FO Tryz.prog 29 1 5:=fun _ _ _=>by kernel_rfl
theorem fo29_2:FO Tryz.prog 29 2 7:=fun _ _ _=>by kernel_rfl
theorem fo29_3:FO Tryz.prog 29 3 9:=fun _ _ _=>by kernel_rfl
theorem fo33_0:FO Tryz.prog 33 0 0:=fun _ _ _=>by kernel_rfl
theorem fo33_1:FO Tryz.prog 33 1 1:=fun _ _ _=>by kernel_rfl
theorem fo33_2:FO Tryz.prog 33 2 2:=fun _ _ _=>by kernel_rfl
theorem fo33_3:FO Tryz.prog 33 3 3:=fun _ _ _=>by kernel_rfl
theorem fo33_4:FO Tryz.prog 33 4 4:=fun _ _ _=>by kernel_rfl
theorem fo33_5:FO Tryz.prog 33 5 6:=fun _ _ _=>by kernel_rfl
theorem fo33_6:FO Tryz.prog 33 6 8:=fun _ _ _=>by kernel_rfl
theorem fo91_1:FO Tryz.prog 91 1 1:=fun _ _ _=>by kernel_rfl
theorem fo91_2:FO Tryz.prog 91 2 2:=fun _ _ _=>by kernel_rfl
theorem sz199 : ∀ w,(sizeOf 199).run Tryz.prog w = .ok 2 w:=fun _=>by kernel_rfl
theorem sz209 : ∀ w,(sizeOf 209).run Tryz.prog w = .ok 1 w:=fun _=>by kernel_rfl
theorem sz211 : ∀ w,(sizeOf 211).run Tryz.prog w = .ok 3 w:=fun _=>by kernel_rfl
theorem sz225 : ∀ w,(sizeOf 225).run Tryz.prog w = .ok 1 w:=fun _=>by kernel_rfl
theorem t1_207:T1 Tryz.prog 207:=⟨Tryz.isAgg207,fun _=>by kernel_rfl⟩
theorem t1_222:T1 Tryz.prog 222:=⟨Tryz.isAgg222,fun _=>by kernel_rfl⟩
theorem ta137:TA Tryz.prog 137 3:=⟨Tryz.isAgg137,fun _=>by kernel_rfl⟩
theorem ta170:TA Tryz.prog 170 22:=⟨Tryz.isAgg170,fun _=>by kernel_rfl⟩
theorem ta199:TA Tryz.prog 199 2:=⟨Tryz.isAgg199,fun _=>by kernel_rfl⟩
theorem ta211:TA Tryz.prog 211 3:=⟨Tryz.isAgg211,fun _=>by kernel_rfl⟩
theorem zv199:ZV Tryz.prog 199 (.agg #[(i 0),(i 0)]):=Tryz.zeroValue199
theorem zv209:ZV Tryz.prog 209 (.agg #[.nilFunc]):=Tryz.zeroValue209
theorem zv211:ZV Tryz.prog 211 (.agg #[.nilFunc,.nilFunc,.nilFunc]):=Tryz.zeroValue211
theorem zv225:ZV Tryz.prog 225 (.agg #[.nilFunc]):=Tryz.zeroValue225
open Men
theorem c119 (n:Int) (d:Int) (w:World)  (h:0<d∧(-1000000000000≤n∧n≤1000000000000)):Rv Tryz.prog 119 [(i n),(i d)] w (i (n / d)):=by
  have hq:=quo_in (b:=d) (by omega) h.2
  refine Ret.body (N:=16) Tryz.func119 rfl Tryz.ntmps119 rfl ?_
  have H:=S.start Nm w
  refine Wp.seq (Wp.region ?_)
  refine Ro.q (v:=(i 0)) rfl rfl (zD rfl) rfl ?_
  refine Ro.nil (nT (Wp.seq (Wp.region ?_)))
  refine Ro.q (v:=(i n)) rfl rfl (zB rfl) rfl ?_
  refine Ro.q (v:=(i d)) rfl rfl (zB rfl) rfl ?_
  refine Ro.q rfl rfl (r_quo rfl rfl (by omega) (by constructor <;>omega)) rfl ?_
  refine Ro.q (v:=(i (n.tdiv d))) rfl rfl (zD rfl) rfl ?_
  refine Ro.nil (nT (Wp.seq (Wp.seq (Wp.region ?_))))
  refine Ro.q (v:=(i n)) rfl rfl (zB rfl) rfl ?_
  refine Ro.q (v:=(i d)) rfl rfl (zB rfl) rfl ?_
  refine Ro.q rfl rfl (r_rem rfl rfl (by omega)) rfl ?_
  refine Ro.q rfl rfl (yB rfl rfl) rfl ?_
  refine Ro.nil (nT ?_)
  refine Wp.cond (t:=decide ((n.tmod d)<0)) rfl ?_ ?_
  · intro c1
    have c1r:=c1
    simp only [bx] at c1
    refine Wp.region ?_
    refine Ro.q (v:=(i (n.tdiv d))) rfl rfl (zB rfl) rfl ?_
    refine Ro.q rfl rfl (yT rfl rfl (by constructor <;>omega)) rfl ?_
    refine Ro.q (v:=(i ((n.tdiv d)-1))) rfl rfl (zD rfl) rfl ?_
    refine Ro.nil (nT (Wp.seq (Wp.region ?_)))
    refine Ro.q (v:=(i ((n.tdiv d)-1))) rfl rfl (zB rfl) rfl ?_
    refine Ro.q (v:=(i ((n.tdiv d)-1))) rfl rfl (zD rfl) rfl ?_
    refine Ro.nil (nT (Wp.ret (zN ?_)))
    refine zI (v:=(i ((n.tdiv d)-1))) Tryz.results119 rfl ⟨H.keep,?_⟩
    rw [quo_lo (n:=n) (b:=d) (by omega) (by omega)]
  intro c1
  have c1r:=c1
  simp only [bx] at c1
  refine Wp.skip (nT (Wp.seq (Wp.region ?_)))
  refine Ro.q (v:=(i (n.tdiv d))) rfl rfl (zB rfl) rfl ?_
  refine Ro.q (v:=(i (n.tdiv d))) rfl rfl (zD rfl) rfl ?_
  refine Ro.nil (nT (Wp.ret (zN ?_)))
  refine zI (v:=(i (n.tdiv d))) Tryz.results119 rfl ⟨H.keep,?_⟩
  rw [quo_hi (n:=n) (b:=d) (by omega) (by omega)]
theorem c153 (n:Int) (d:Int) (w:World)  (h:0<d∧(-1000000000000≤n∧n≤1000000000000)):Rv Tryz.prog 153 [(i n),(i d)] w (i (n / d)):=by
  have hq:=quo_in (b:=d) (by omega) h.2
  refine Ret.body (N:=16) Tryz.func153 rfl Tryz.ntmps153 rfl ?_
  have H:=S.start Nm w
  refine Wp.seq (Wp.region ?_)
  refine Ro.q (v:=(i 0)) rfl rfl (zD rfl) rfl ?_
  refine Ro.nil (nT (Wp.seq (Wp.region ?_)))
  refine Ro.q (v:=(i n)) rfl rfl (zB rfl) rfl ?_
  refine Ro.q (v:=(i d)) rfl rfl (zB rfl) rfl ?_
  refine Ro.q rfl rfl (r_quo rfl rfl (by omega) (by constructor <;>omega)) rfl ?_
  refine Ro.q (v:=(i (n.tdiv d))) rfl rfl (zD rfl) rfl ?_
  refine Ro.nil (nT (Wp.seq (Wp.seq (Wp.region ?_))))
  refine Ro.q (v:=(i n)) rfl rfl (zB rfl) rfl ?_
  refine Ro.q (v:=(i d)) rfl rfl (zB rfl) rfl ?_
  refine Ro.q rfl rfl (r_rem rfl rfl (by omega)) rfl ?_
  refine Ro.q rfl rfl (yB rfl rfl) rfl ?_
  refine Ro.nil (nT ?_)
  refine Wp.cond (t:=decide ((n.tmod d)<0)) rfl ?_ ?_
  · intro c1
    have c1r:=c1
    simp only [bx] at c1
    refine Wp.region ?_
    refine Ro.q (v:=(i (n.tdiv d))) rfl rfl (zB rfl) rfl ?_
    refine Ro.q rfl rfl (yT rfl rfl (by constructor <;>omega)) rfl ?_
    refine Ro.q (v:=(i ((n.tdiv d)-1))) rfl rfl (zD rfl) rfl ?_
    refine Ro.nil (nT (Wp.seq (Wp.region ?_)))
    refine Ro.q (v:=(i ((n.tdiv d)-1))) rfl rfl (zB rfl) rfl ?_
    refine Ro.q (v:=(i ((n.tdiv d)-1))) rfl rfl (zD rfl) rfl ?_
    refine Ro.nil (nT (Wp.ret (zN ?_)))
    refine zI (v:=(i ((n.tdiv d)-1))) Tryz.results153 rfl ⟨H.keep,?_⟩
    rw [quo_lo (n:=n) (b:=d) (by omega) (by omega)]
  intro c1
  have c1r:=c1
  simp only [bx] at c1
  refine Wp.skip (nT (Wp.seq (Wp.region ?_)))
  refine Ro.q (v:=(i (n.tdiv d))) rfl rfl (zB rfl) rfl ?_
  refine Ro.q (v:=(i (n.tdiv d))) rfl rfl (zD rfl) rfl ?_
  refine Ro.nil (nT (Wp.ret (zN ?_)))
  refine zI (v:=(i (n.tdiv d))) Tryz.results153 rfl ⟨H.keep,?_⟩
  rw [quo_hi (n:=n) (b:=d) (by omega) (by omega)]
theorem c139 (rise:Int) (sink:Int) (creep:Int) (back:Int) (sinks:Int) (w:World)  (h:(-1000000000000≤rise∧rise≤1000000000000)∧(-1000000000000≤sink∧sink≤1000000000000)∧(-1000000000000≤creep∧creep≤1000000000000)∧(-1000000000000≤back∧back≤1000000000000)∧(-1000000000000≤sinks∧sinks≤1000000000000)):Rv Tryz.prog 139 [(.agg #[(i rise),(i sink)]),(i creep),(i back),(i sinks)] w (.agg #[(i (rise+creep)),(i (max (max (sink-back) 0) sinks))]):=by
  refine Ret.body (N:=21) Tryz.func139 rfl Tryz.ntmps139 rfl ?_
  have H:=S.start Nm w
  refine Wp.seq (Wp.region ?_)
  refine Ro.d rfl rfl rfl (H.box (l:=[i rise,i sink]) rfl (v:=(.agg #[(i rise),(i sink)])) rfl rfl ?_)
  intro b1 w2 Hn;replace H:=Hn;clear Hn
  refine Ro.d rfl rfl rfl (H.new (l:=[i 0,i 0]) rfl zv199 rfl ?_)
  intro b3 w4 Hn;replace H:=Hn;clear Hn
  refine Ro.nil (nT (Wp.seq ?_))
  refine Wp.drawnS 12 [0,1,0,7,0,16,0,112,0,496,1008,2047,4095] [is (p b1 0),is (i rise),is (i creep),is (i (rise+creep)),is (p b1 1),is (i sink),is (i back),is (i (sink-back)),is (i sinks),fun v w=>∃ b,v = .slice (some ⟨b,0,none⟩) 3 3∧Cells w b 0 [i (sink-back),i 0,i sinks],is (i (vB ([sink-back,0,sinks]))),is (.agg #[(i (rise+creep)),(i (vB ([sink-back,0,sinks])))])] (by kernel_rfl) (by kernel_rfl) rfl (Mi (Mi (Mi (Mi (Mi (Mi (Mi (Mi (Mi (Mono.row (Mi (Mi Mono.nil)))))))))))) (fun w' k=>H.ext k) ?_ ?_
  · refine ⟨?_,?_,?_,?_,?_,?_,?_,?_,?_,?_,?_,?_,trivial⟩
    · exact Ob.q rfl (fun _ _ B U D=>(zA fo199_0 (show (_:Value)=(p b1 0) from U 4 rfl) rfl)) rfl rfl
    · exact Ob.q rfl (fun _ _ B U D=>(zE zM (D 0 rfl) (B.cells 1 rfl) (j:=0) rfl rfl)) rfl rfl
    · exact Ob.q rfl (fun _ _ B U D=>(zB (show (_:Value)=(i creep) from U 1 rfl))) rfl rfl
    · exact Ob.q rfl (fun _ _ B U D=>(zU (D 1 rfl) (D 2 rfl) (by constructor <;>omega))) rfl rfl
    · exact Ob.q rfl (fun _ _ B U D=>(zA fo199_1 (show (_:Value)=(p b1 0) from U 4 rfl) rfl)) rfl rfl
    · exact Ob.q rfl (fun _ _ B U D=>(zE zM (D 4 rfl) (B.cells 1 rfl) (j:=1) rfl rfl)) rfl rfl
    · exact Ob.q rfl (fun _ _ B U D=>(zB (show (_:Value)=(i back) from U 2 rfl))) rfl rfl
    · exact Ob.q rfl (fun _ _ B U D=>(yT (D 5 rfl) (D 6 rfl) (by constructor <;>omega))) rfl rfl
    · exact Ob.q rfl (fun _ _ B U D=>(zB (show (_:Value)=(i sinks) from U 3 rfl))) rfl rfl
    · exact Ob.mk rfl fun ρ' w' B U D=>d_row (e:=3) (cs:=[i (sink-back),i 0,i sinks]) rfl (pe (v:=(i (sink-back))) (D 7 rfl) (pe (v:=(i 0)) rfl (pe (v:=(i sinks)) (D 8 rfl) pn))) (fun w=>by kernel_rfl) fun b w2 k hc=>⟨k,b,rfl,hc⟩
    · exact Ob.mk rfl fun ρ' w' B U D=>(match (show ∃ b,ρ' 18 = .slice (some ⟨b,0,none⟩) 3 3∧Cells w' b 0 [i (sink-back),i 0,i sinks] from D 9 rfl) with | ⟨bR9,hR9,cR9⟩=>zH rfl en152 (ce (v:=(.slice (some ⟨bR9,0,none⟩) 3 3)) hR9 cn) (c152 (some ⟨bR9,0,none⟩) ([sink-back,0,sinks]) 3 _ ((Sl.of (b:=bR9) (xs:=[sink-back,0,sinks].map yD) (by simp [yD]) cR9)) (by simp)) (fun u w2 k2 hu=>⟨k2,hu⟩))
    · exact Ob.q rfl (fun _ _ B U D=>(zP (v:=(.agg #[(i (rise+creep)),(i (vB ([sink-back,0,sinks])))])) (pe (v:=(i (rise+creep))) (D 3 rfl) (pe (v:=(i (vB ([sink-back,0,sinks])))) (D 10 rfl) pn)) (fun w=>by kernel_rfl))) rfl rfl
  intro ρ5 w6 k7 U8 D9;replace H:=H.ext k7
  have f10:ρ5 8=(p b3 0):=U8 8 rfl
  have f11:ρ5 20=(.agg #[(i (rise+creep)),(i (vB ([sink-back,0,sinks])))]):=D9 11 rfl
  clear U8 D9 k7
  refine Ro.d0 rfl rfl rfl (H.store (j:=0) (off:=0) (k:=2) rfl sz199 f10 (v:=(.agg #[(i (rise+creep)),(i (vB ([sink-back,0,sinks])))])) f11 rfl rfl rfl rfl (by simp [Value.oneCell']) (cs':=[i (rise+creep),i (vB ([sink-back,0,sinks]))]) rfl ?_)
  intro w12 Hn;replace H:=Hn;clear Hn
  refine Ro.nil (nT (Wp.ret (zN ?_)))
  refine yW (vs:=[i (rise+creep),i (vB ([sink-back,0,sinks]))]) Tryz.results139 f10 ta199 (H.cells 0 rfl) rfl ⟨H.keep,?_⟩
  rfl
theorem c113 (base:Int) (blo:Int) (bhi:Int) (rise:Int) (sink:Int) (ab:Option Addr) (bs:List Band) (cab:Nat) (ad:Option Addr) (dl:List Depth) (cad:Nat) (w:World) (hab:Sl w 3 (bs.map yH) ab) (had:Sl w 2 (dl.map zZ) ad) (h:(-1000000000000≤rise∧rise≤1000000000000)∧(-1000000000000≤sink∧sink≤1000000000000)∧(-1000000000000≤base∧base≤1000000000000)):Rv Tryz.prog 113 [(.agg #[(i base),(.slice ab bs.length cab),(.slice ad dl.length cad),(i blo),(i bhi)]),(.agg #[(i rise),(i sink)])] w (i (base+rise-sink)):=by
  refine Ret.body (N:=13) Tryz.func113 rfl Tryz.ntmps113 rfl ?_
  have H:=S.start Nm w
  refine Wp.seq (Wp.region ?_)
  refine Ro.d rfl rfl rfl (H.box (l:=[i base,.slice ab bs.length cab,.slice ad dl.length cad,i blo,i bhi]) rfl (v:=(.agg #[(i base),(.slice ab bs.length cab),(.slice ad dl.length cad),(i blo),(i bhi)])) rfl rfl ?_)
  intro b1 w2 Hn;replace H:=Hn;clear Hn
  refine Ro.d rfl rfl rfl (H.box (l:=[i rise,i sink]) rfl (v:=(.agg #[(i rise),(i sink)])) rfl rfl ?_)
  intro b3 w4 Hn;replace H:=Hn;clear Hn
  refine Ro.q (v:=(i 0)) rfl rfl (zD rfl) rfl ?_
  refine Ro.nil (nT (Wp.seq (Wp.region ?_)))
  refine Ro.q (v:=(p b1 0)) rfl rfl (zA fo43_0 rfl rfl) rfl ?_
  refine Ro.q rfl rfl (zE zM rfl (H.cells 1 rfl) (j:=0) rfl rfl) rfl ?_
  refine Ro.q (v:=(p b3 0)) rfl rfl (zA fo199_0 rfl rfl) rfl ?_
  refine Ro.q rfl rfl (zE zM rfl (H.cells 0 rfl) (j:=0) rfl rfl) rfl ?_
  refine Ro.q rfl rfl (zU rfl rfl (by constructor <;>omega)) rfl ?_
  refine Ro.q (v:=(p b3 1)) rfl rfl (zA fo199_1 rfl rfl) rfl ?_
  refine Ro.q rfl rfl (zE zM rfl (H.cells 0 rfl) (j:=1) rfl rfl) rfl ?_
  refine Ro.q rfl rfl (yT rfl rfl (by constructor <;>omega)) rfl ?_
  refine Ro.q (v:=(i ((base+rise)-sink))) rfl rfl (zD rfl) rfl ?_
  refine Ro.nil (nT (Wp.ret (zN ?_)))
  refine zI (v:=(i ((base+rise)-sink))) Tryz.results113 rfl ⟨H.keep,?_⟩
  rfl
theorem c149 (day:Int) (zero:Int) (err:Int) (z:Int) (w:World)  (h:(-1000000000000≤z∧z≤1000000000000)∧(-1000000000000≤zero∧zero≤1000000000000)∧(-1000000000000≤err∧err≤1000000000000)):Rv Tryz.prog 149 [(.agg #[(i day),(i zero),(i err)]),(i z)] w (.bool (decide (-err≤z-zero) && decide (z-zero≤err))):=by
  refine Ret.body (N:=15) Tryz.func149 rfl Tryz.ntmps149 rfl ?_
  have H:=S.start Nm w
  refine Wp.seq (Wp.region ?_)
  refine Ro.d rfl rfl rfl (H.box (l:=[i day,i zero,i err]) rfl (v:=(.agg #[(i day),(i zero),(i err)])) rfl rfl ?_)
  intro b1 w2 Hn;replace H:=Hn;clear Hn
  refine Ro.q (v:=(.bool false)) rfl rfl (zD rfl) rfl ?_
  refine Ro.nil (nT (Wp.seq (Wp.region ?_)))
  refine Ro.q (v:=(i z)) rfl rfl (zB rfl) rfl ?_
  refine Ro.q (v:=(p b1 1)) rfl rfl (zA fo103_1 rfl rfl) rfl ?_
  refine Ro.q rfl rfl (zE zM rfl (H.cells 0 rfl) (j:=1) rfl rfl) rfl ?_
  refine Ro.q rfl rfl (yT rfl rfl (by constructor <;>omega)) rfl ?_
  refine Ro.q (v:=(p b1 2)) rfl rfl (zA fo103_2 rfl rfl) rfl ?_
  refine Ro.q rfl rfl (zE zM rfl (H.cells 0 rfl) (j:=2) rfl rfl) rfl ?_
  refine Ro.q rfl rfl (r_neg rfl (by constructor <;>omega)) rfl ?_
  refine Ro.q (v:=(p b1 2)) rfl rfl (zA fo103_2 rfl rfl) rfl ?_
  refine Ro.q rfl rfl (zE zM rfl (H.cells 0 rfl) (j:=2) rfl rfl) rfl ?_
  refine Ro.d rfl rfl rfl (zH rfl en110 (ce (v:=(i (z-zero))) rfl (ce (v:=(i (-err))) rfl (ce (v:=(i err)) rfl cn))) (c110 (z-zero) (-err) err _ ) ?_)
  intro u w3 k4 hu;subst hu;replace H:=H.ext k4
  clear k4
  refine Ro.q (v:=(.bool (decide ((-err)≤(z-zero)) && decide ((z-zero)≤err)))) rfl rfl (zD rfl) rfl ?_
  refine Ro.nil (nT (Wp.ret (zN ?_)))
  refine zI (v:=(.bool (decide ((-err)≤(z-zero)) && decide ((z-zero)≤err)))) Tryz.results149 rfl ⟨H.keep,?_⟩
  rfl
theorem c123 (day:Int) (zero:Int) (err:Int) (z:Int) (w:World)  (h:(-1000000000000≤z∧z≤1000000000000)∧(-1000000000000≤zero∧zero≤1000000000000)∧(-1000000000000≤err∧err≤1000000000000)):Rv Tryz.prog 123 [(.agg #[(i day),(i zero),(i err)]),(i z)] w (.bool (decide (-err≤z-zero) && decide (z-zero≤err))):=by
  refine Ret.body (N:=15) Tryz.func123 rfl Tryz.ntmps123 rfl ?_
  have H:=S.start Nm w
  refine Wp.seq (Wp.region ?_)
  refine Ro.d rfl rfl rfl (H.box (l:=[i day,i zero,i err]) rfl (v:=(.agg #[(i day),(i zero),(i err)])) rfl rfl ?_)
  intro b1 w2 Hn;replace H:=Hn;clear Hn
  refine Ro.q (v:=(.bool false)) rfl rfl (zD rfl) rfl ?_
  refine Ro.nil (nT (Wp.seq (Wp.region ?_)))
  refine Ro.q (v:=(i z)) rfl rfl (zB rfl) rfl ?_
  refine Ro.q (v:=(p b1 1)) rfl rfl (zA fo91_1 rfl rfl) rfl ?_
  refine Ro.q rfl rfl (zE zM rfl (H.cells 0 rfl) (j:=1) rfl rfl) rfl ?_
  refine Ro.q rfl rfl (yT rfl rfl (by constructor <;>omega)) rfl ?_
  refine Ro.q (v:=(p b1 2)) rfl rfl (zA fo91_2 rfl rfl) rfl ?_
  refine Ro.q rfl rfl (zE zM rfl (H.cells 0 rfl) (j:=2) rfl rfl) rfl ?_
  refine Ro.q rfl rfl (r_neg rfl (by constructor <;>omega)) rfl ?_
  refine Ro.q (v:=(p b1 2)) rfl rfl (zA fo91_2 rfl rfl) rfl ?_
  refine Ro.q rfl rfl (zE zM rfl (H.cells 0 rfl) (j:=2) rfl rfl) rfl ?_
  refine Ro.d rfl rfl rfl (zH rfl en41 (ce (v:=(i (z-zero))) rfl (ce (v:=(i (-err))) rfl (ce (v:=(i err)) rfl cn))) (c41 (z-zero) (-err) err _ ) ?_)
  intro u w3 k4 hu;subst hu;replace H:=H.ext k4
  clear k4
  refine Ro.q (v:=(.bool (decide ((-err)≤(z-zero)) && decide ((z-zero)≤err)))) rfl rfl (zD rfl) rfl ?_
  refine Ro.nil (nT (Wp.ret (zN ?_)))
  refine zI (v:=(.bool (decide ((-err)≤(z-zero)) && decide ((z-zero)≤err)))) Tryz.results123 rfl ⟨H.keep,?_⟩
  rfl
theorem c114 (lo:Int) (hi:Int) (n:Int) (w:World)   : Rv Tryz.prog 114 [(.agg #[(i lo),(i hi)]),(i n)] w (.agg #[(i (min lo n)),(i (max hi n))]):=by
  refine Ret.body (N:=20) Tryz.func114 rfl Tryz.ntmps114 rfl ?_
  have H:=S.start Nm w
  refine Wp.seq (Wp.region ?_)
  refine Ro.d rfl rfl rfl (H.box (l:=[i lo,i hi]) rfl (v:=(.agg #[(i lo),(i hi)])) rfl rfl ?_)
  intro b1 w2 Hn;replace H:=Hn;clear Hn
  refine Ro.d rfl rfl rfl (H.new (l:=[i 0,i 0]) rfl zv41 rfl ?_)
  intro b3 w4 Hn;replace H:=Hn;clear Hn
  refine Ro.nil (nT (Wp.seq (Wp.region ?_)))
  refine Ro.q (v:=(.agg #[(.func (.func 134) #[] #[])])) rfl rfl (zP (v:=(.agg #[(.func (.func 134) #[] #[])])) (pe (v:=(.func (.func 134) #[] #[])) rfl pn) (fun w=>by kernel_rfl)) rfl ?_
  refine Ro.q (v:=(.agg #[(.func (.func 135) #[] #[])])) rfl rfl (zP (v:=(.agg #[(.func (.func 135) #[] #[])])) (pe (v:=(.func (.func 135) #[] #[])) rfl pn) (fun w=>by kernel_rfl)) rfl ?_
  refine Ro.d rfl rfl rfl (H.new (l:=[.nilFunc]) rfl zv225 rfl ?_)
  intro b5 w6 Hn;replace H:=Hn;clear Hn
  refine Ro.d rfl rfl rfl (H.new (l:=[.nilFunc]) rfl zv225 rfl ?_)
  intro b7 w8 Hn;replace H:=Hn;clear Hn
  refine Ro.d0 rfl rfl rfl (H.store (j:=1) (off:=0) (k:=1) rfl sz225 rfl (v:=(.agg #[(.func (.func 134) #[] #[])])) rfl rfl rfl rfl rfl (by simp [Value.oneCell']) (cs':=[.func (.func 134) #[] #[]]) rfl ?_)
  intro w9 Hn;replace H:=Hn;clear Hn
  refine Ro.d0 rfl rfl rfl (H.store (j:=0) (off:=0) (k:=1) rfl sz225 rfl (v:=(.agg #[(.func (.func 135) #[] #[])])) rfl rfl rfl rfl rfl (by simp [Value.oneCell']) (cs':=[.func (.func 135) #[] #[]]) rfl ?_)
  intro w10 Hn;replace H:=Hn;clear Hn
  refine Ro.nil (nT (Wp.seq ?_))
  refine Wp.drawnS 9 [0,1,0,0,15,0,32,0,0,511,1023,2047] [is (p b5 0),is (.func (.func 134) #[] #[]),is (.agg #[(i lo),(i hi)]),is (i n),is (i (min lo n)),is (p b7 0),is (.func (.func 135) #[] #[]),is (.agg #[(i lo),(i hi)]),is (i n)] (by kernel_rfl) (by kernel_rfl) rfl (Mi (Mi (Mi (Mi (Mi (Mi (Mi (Mi (Mi Mono.nil))))))))) (fun w' k=>H.ext k) ?_ ?_
  · refine ⟨?_,?_,?_,?_,?_,?_,?_,?_,?_,trivial⟩
    · exact Ob.q rfl (fun _ _ B U D=>(zA fo225_0 (show (_:Value)=(p b5 0) from U 5 rfl) rfl)) rfl rfl
    · exact Ob.q rfl (fun _ _ B U D=>(zE t1_222 (D 0 rfl) (B.cells 1 rfl) (j:=0) rfl rfl)) rfl rfl
    · exact Ob.q rfl (fun _ _ B U D=>(zJ vL (show (_:Value)=(p b1 0) from U 2 rfl) (B.cells 3 rfl) (j:=0) rfl (vs:=[i lo,i hi]) rfl rfl)) rfl rfl
    · exact Ob.q rfl (fun _ _ B U D=>(zB (show (_:Value)=(i n) from U 1 rfl))) rfl rfl
    · exact Ob.mk rfl fun ρ' w' B U D=>uG (fv:=[]) (cv:=[]) rfl (D 1 rfl) en134 (ce (v:=(.agg #[(i lo),(i hi)])) (D 2 rfl) (ce (v:=(i n)) (D 3 rfl) cn)) (c134 lo hi n _ ) (fun u w2 k2 hu=>⟨k2,hu⟩)
    · exact Ob.q rfl (fun _ _ B U D=>(zA fo225_0 (show (_:Value)=(p b7 0) from U 6 rfl) rfl)) rfl rfl
    · exact Ob.q rfl (fun _ _ B U D=>(zE t1_222 (D 5 rfl) (B.cells 0 rfl) (j:=0) rfl rfl)) rfl rfl
    · exact Ob.q rfl (fun _ _ B U D=>(zJ vL (show (_:Value)=(p b1 0) from U 2 rfl) (B.cells 3 rfl) (j:=0) rfl (vs:=[i lo,i hi]) rfl rfl)) rfl rfl
    · exact Ob.q rfl (fun _ _ B U D=>(zB (show (_:Value)=(i n) from U 1 rfl))) rfl rfl
  intro ρ11 w12 k13 U14 D15;replace H:=H.ext k13
  have f16:ρ11 4=(p b3 0):=U14 4 rfl
  have f17:ρ11 13=(i (min lo n)):=D15 4 rfl
  have f18:ρ11 15=(.func (.func 135) #[] #[]):=D15 6 rfl
  have f19:ρ11 16=(.agg #[(i lo),(i hi)]):=D15 7 rfl
  have f20:ρ11 17=(i n):=D15 8 rfl
  clear U14 D15 k13
  refine Ro.d rfl rfl rfl (uG (fv:=[]) (cv:=[]) rfl f18 en135 (ce (v:=(.agg #[(i lo),(i hi)])) f19 (ce (v:=(i n)) f20 cn)) (c135 lo hi n _ ) ?_)
  intro u w21 k22 hu;subst hu;replace H:=H.ext k22
  clear k22
  refine Ro.q (v:=(.agg #[(i (min lo n)),(i (max hi n))])) rfl rfl (zP (v:=(.agg #[(i (min lo n)),(i (max hi n))])) (pe (v:=(i (min lo n))) f17 (pe (v:=(i (max hi n))) rfl pn)) (fun w=>by kernel_rfl)) rfl ?_
  refine Ro.d0 rfl rfl rfl (H.store (j:=2) (off:=0) (k:=2) rfl sz41 f16 (v:=(.agg #[(i (min lo n)),(i (max hi n))])) rfl rfl rfl rfl rfl (by simp [Value.oneCell']) (cs':=[i (min lo n),i (max hi n)]) rfl ?_)
  intro w23 Hn;replace H:S Nm w [(b7,.cells [.func (.func 135) #[] #[]].toArray 225 (0,0)),(b5,.cells [.func (.func 134) #[] #[]].toArray 225 (0,0)),(b3,.cells [i (min lo n),i (max hi n)].toArray 41 (0,0)),(b1,.cells [i lo,i hi].toArray 41 (0,0))] w23:=Hn;clear Hn
  refine Ro.nil (nT (Wp.ret (zN ?_)))
  refine yW (vs:=[i (min lo n),i (max hi n)]) Tryz.results114 f16 vL (H.cells 2 rfl) rfl ⟨H.keep,?_⟩
  rfl
theorem stemP_in {k bare shown air:Int} (h1:0≤k∧k≤20) (h2:0≤bare∧bare≤300) (h3 : -5000≤shown∧shown≤5000) (h4 : -100≤air∧air≤100) : -36000000≤yC k bare shown air∧yC k bare shown air≤36000000:=by
  have m1:=mulin (a:=k) (b:=bare) (A:=20) (B:=300) (by omega) (by omega)
  have m2:=mulin (a:=k*bare) (b:=shown-10*air) (A:=6000) (B:=6000) (by omega) (by omega)
  exact ediv_in (by omega) (by omega)
theorem c89 (day:Int) (shown:Int) (err:Int) (bare:Int) (alo:Int) (ahi:Int) (rlo:Int) (rhi:Int) (deep:Int) (broken:Bool) (k:Int) (air:Int) (w:World)  (h:(0≤k∧k≤20)∧((-5000≤shown∧shown≤5000)∧(0≤err∧err≤20)∧(0≤bare∧bare≤300)∧(-100≤alo∧alo≤ahi∧ahi≤100)∧(-20≤rlo∧rlo≤rhi∧rhi≤20)∧(0≤deep∧deep≤20))∧(-100≤air∧air≤100)):Rv Tryz.prog 89 [(.agg #[(i day),(i shown),(i err),(i bare),(i alo),(i ahi),(i rlo),(i rhi),(i deep),(.bool broken)]),(i k),(i air)] w (i (yC k bare shown air)):=by
  have m1:=mulin (a:=k) (b:=bare) (A:=20) (B:=300) (by omega) (by omega)
  have m2:=mulin (a:=k*bare) (b:=shown-(10*air)) (A:=6000) (B:=6000) (by omega) (by omega)
  refine Ret.body (N:=18) Tryz.func89 rfl Tryz.ntmps89 rfl ?_
  have H:=S.start Nm w
  refine Wp.seq (Wp.region ?_)
  refine Ro.d rfl rfl rfl (H.box (l:=[i day,i shown,i err,i bare,i alo,i ahi,i rlo,i rhi,i deep,.bool broken]) rfl (v:=(.agg #[(i day),(i shown),(i err),(i bare),(i alo),(i ahi),(i rlo),(i rhi),(i deep),(.bool broken)])) rfl rfl ?_)
  intro b1 w2 Hn;replace H:=Hn;clear Hn
  refine Ro.q (v:=(i 0)) rfl rfl (zD rfl) rfl ?_
  refine Ro.nil (nT (Wp.seq (Wp.region ?_)))
  refine Ro.q (v:=(i k)) rfl rfl (zB rfl) rfl ?_
  refine Ro.q (v:=(p b1 3)) rfl rfl (zA fo33_3 rfl rfl) rfl ?_
  refine Ro.q rfl rfl (zE zM rfl (H.cells 0 rfl) (j:=3) rfl rfl) rfl ?_
  refine Ro.q rfl rfl (r_mul rfl rfl (by constructor <;>omega)) rfl ?_
  refine Ro.q (v:=(p b1 1)) rfl rfl (zA fo33_1 rfl rfl) rfl ?_
  refine Ro.q rfl rfl (zE zM rfl (H.cells 0 rfl) (j:=1) rfl rfl) rfl ?_
  refine Ro.q (v:=(i air)) rfl rfl (zB rfl) rfl ?_
  refine Ro.q rfl rfl (r_mul rfl rfl (by constructor <;>omega)) rfl ?_
  refine Ro.q rfl rfl (yT rfl rfl (by constructor <;>omega)) rfl ?_
  refine Ro.q rfl rfl (r_mul rfl rfl (by constructor <;>omega)) rfl ?_
  refine Ro.d rfl rfl rfl (zH rfl en119 (ce (v:=(i ((k*bare)*(shown-(10*air))))) rfl (ce (v:=(i 100000)) rfl cn)) (c119 ((k*bare)*(shown-(10*air))) 100000 _ (by omega)) ?_)
  intro u w3 k4 hu;subst hu;replace H:=H.ext k4
  clear k4
  refine Ro.q (v:=(i (((k*bare)*(shown-(10*air))) / 100000))) rfl rfl (zD rfl) rfl ?_
  refine Ro.nil (nT (Wp.ret (zN ?_)))
  refine zI (v:=(i (((k*bare)*(shown-(10*air))) / 100000))) Tryz.results89 rfl ⟨H.keep,?_⟩
  rfl
theorem c142 (base:Int) (blo:Int) (bhi:Int) (klo:Int) (khi:Int) (llo:Int) (lhi:Int) (slo:Int) (shi:Int) (term:Int) (day:Int) (shown:Int) (err:Int) (bare:Int) (alo:Int) (ahi:Int) (rlo:Int) (rhi:Int) (deep:Int) (broken:Bool) (k:Int) (lag:Int) (sq:Int) (air:Int) (rate:Int) (ab:Option Addr) (bs:List Band) (cab:Nat) (ad:Option Addr) (dl:List Depth) (cad:Nat) (w:World) (hab:Sl w 3 (bs.map yH) ab) (had:Sl w 2 (dl.map zZ) ad) (h:((0≤k∧k≤20)∧(0≤lag∧lag≤5)∧(0≤sq∧sq≤3))∧((-5000≤shown∧shown≤5000)∧(0≤err∧err≤20)∧(0≤bare∧bare≤300)∧(-100≤alo∧alo≤ahi∧ahi≤100)∧(-20≤rlo∧rlo≤rhi∧rhi≤20)∧(0≤deep∧deep≤20))∧(-100≤air∧air≤100)):Rv Tryz.prog 142 [(.agg #[(i base),(.slice ab bs.length cab),(.slice ad dl.length cad),(i blo),(i bhi),(i klo),(i khi),(i llo),(i lhi),(i slo),(i shi),(i term),(i day),(i shown),(i err),(i bare),(i alo),(i ahi),(i rlo),(i rhi),(i deep),(.bool broken)]),(.agg #[(i k),(i lag),(i sq)]),(i air),(i rate)] w (i (yC k bare shown air)):=by
  have m1:=mulin (a:=k) (b:=bare) (A:=20) (B:=300) (by omega) (by omega)
  have m2:=mulin (a:=k*bare) (b:=shown-(10*air)) (A:=6000) (B:=6000) (by omega) (by omega)
  refine Ret.body (N:=23) Tryz.func142 rfl Tryz.ntmps142 rfl ?_
  have H:=S.start Nm w
  refine Wp.seq (Wp.region ?_)
  refine Ro.d rfl rfl rfl (H.box (l:=[i base,.slice ab bs.length cab,.slice ad dl.length cad,i blo,i bhi,i klo,i khi,i llo,i lhi,i slo,i shi,i term,i day,i shown,i err,i bare,i alo,i ahi,i rlo,i rhi,i deep,.bool broken]) rfl (v:=(.agg #[(i base),(.slice ab bs.length cab),(.slice ad dl.length cad),(i blo),(i bhi),(i klo),(i khi),(i llo),(i lhi),(i slo),(i shi),(i term),(i day),(i shown),(i err),(i bare),(i alo),(i ahi),(i rlo),(i rhi),(i deep),(.bool broken)])) rfl rfl ?_)
  intro b1 w2 Hn;replace H:=Hn;clear Hn
  refine Ro.d rfl rfl rfl (H.box (l:=[i k,i lag,i sq]) rfl (v:=(.agg #[(i k),(i lag),(i sq)])) rfl rfl ?_)
  intro b3 w4 Hn;replace H:=Hn;clear Hn
  refine Ro.q (v:=(i 0)) rfl rfl (zD rfl) rfl ?_
  refine Ro.nil (nT (Wp.seq (Wp.region ?_)))
  refine Ro.q (v:=(p b3 0)) rfl rfl (zA fo137_0 rfl rfl) rfl ?_
  refine Ro.q rfl rfl (zE zM rfl (H.cells 0 rfl) (j:=0) rfl rfl) rfl ?_
  refine Ro.q (v:=(p b1 12)) rfl rfl (zA vJ rfl rfl) rfl ?_
  refine Ro.q (v:=(p b1 15)) rfl rfl (zA fo52_3 rfl rfl) rfl ?_
  refine Ro.q rfl rfl (zE zM rfl (H.cells 1 rfl) (j:=15) rfl rfl) rfl ?_
  refine Ro.q rfl rfl (r_mul rfl rfl (by constructor <;>omega)) rfl ?_
  refine Ro.q (v:=(p b1 12)) rfl rfl (zA vJ rfl rfl) rfl ?_
  refine Ro.q (v:=(p b1 13)) rfl rfl (zA fo52_1 rfl rfl) rfl ?_
  refine Ro.q rfl rfl (zE zM rfl (H.cells 1 rfl) (j:=13) rfl rfl) rfl ?_
  refine Ro.q (v:=(i air)) rfl rfl (zB rfl) rfl ?_
  refine Ro.q rfl rfl (r_mul rfl rfl (by constructor <;>omega)) rfl ?_
  refine Ro.q rfl rfl (yT rfl rfl (by constructor <;>omega)) rfl ?_
  refine Ro.q rfl rfl (r_mul rfl rfl (by constructor <;>omega)) rfl ?_
  refine Ro.d rfl rfl rfl (zH rfl en153 (ce (v:=(i ((k*bare)*(shown-(10*air))))) rfl (ce (v:=(i 100000)) rfl cn)) (c153 ((k*bare)*(shown-(10*air))) 100000 _ (by omega)) ?_)
  intro u w5 k6 hu;subst hu;replace H:=H.ext k6
  clear k6
  refine Ro.q (v:=(i (((k*bare)*(shown-(10*air))) / 100000))) rfl rfl (zD rfl) rfl ?_
  refine Ro.nil (nT (Wp.ret (zN ?_)))
  refine zI (v:=(i (((k*bare)*(shown-(10*air))) / 100000))) Tryz.results142 rfl ⟨H.keep,?_⟩
  rfl
theorem c143 (base:Int) (blo:Int) (bhi:Int) (klo:Int) (khi:Int) (llo:Int) (lhi:Int) (slo:Int) (shi:Int) (term:Int) (day:Int) (shown:Int) (err:Int) (bare:Int) (alo:Int) (ahi:Int) (rlo:Int) (rhi:Int) (deep:Int) (broken:Bool) (k:Int) (lag:Int) (sq:Int) (air:Int) (rate:Int) (ab:Option Addr) (bs:List Band) (cab:Nat) (ad:Option Addr) (dl:List Depth) (cad:Nat) (w:World) (hab:Sl w 3 (bs.map yH) ab) (had:Sl w 2 (dl.map zZ) ad) (h:((0≤k∧k≤20)∧(0≤lag∧lag≤5)∧(0≤sq∧sq≤3))∧(-20≤rate∧rate≤20)):Rv Tryz.prog 143 [(.agg #[(i base),(.slice ab bs.length cab),(.slice ad dl.length cad),(i blo),(i bhi),(i klo),(i khi),(i llo),(i lhi),(i slo),(i shi),(i term),(i day),(i shown),(i err),(i bare),(i alo),(i ahi),(i rlo),(i rhi),(i deep),(.bool broken)]),(.agg #[(i k),(i lag),(i sq)]),(i air),(i rate)] w (i (rate*lag)):=by
  have ml:=mulin (a:=rate) (b:=lag) (A:=20) (B:=5) (by omega) (by omega)
  refine Ret.body (N:=13) Tryz.func143 rfl Tryz.ntmps143 rfl ?_
  have H:=S.start Nm w
  refine Wp.seq (Wp.region ?_)
  refine Ro.d rfl rfl rfl (H.box (l:=[i base,.slice ab bs.length cab,.slice ad dl.length cad,i blo,i bhi,i klo,i khi,i llo,i lhi,i slo,i shi,i term,i day,i shown,i err,i bare,i alo,i ahi,i rlo,i rhi,i deep,.bool broken]) rfl (v:=(.agg #[(i base),(.slice ab bs.length cab),(.slice ad dl.length cad),(i blo),(i bhi),(i klo),(i khi),(i llo),(i lhi),(i slo),(i shi),(i term),(i day),(i shown),(i err),(i bare),(i alo),(i ahi),(i rlo),(i rhi),(i deep),(.bool broken)])) rfl rfl ?_)
  intro b1 w2 Hn;replace H:=Hn;clear Hn
  refine Ro.d rfl rfl rfl (H.box (l:=[i k,i lag,i sq]) rfl (v:=(.agg #[(i k),(i lag),(i sq)])) rfl rfl ?_)
  intro b3 w4 Hn;replace H:=Hn;clear Hn
  refine Ro.q (v:=(i 0)) rfl rfl (zD rfl) rfl ?_
  refine Ro.nil (nT (Wp.seq (Wp.region ?_)))
  refine Ro.q (v:=(i rate)) rfl rfl (zB rfl) rfl ?_
  refine Ro.q (v:=(p b3 1)) rfl rfl (zA fo137_1 rfl rfl) rfl ?_
  refine Ro.q rfl rfl (zE zM rfl (H.cells 0 rfl) (j:=1) rfl rfl) rfl ?_
  refine Ro.q rfl rfl (r_mul rfl rfl (by constructor <;>omega)) rfl ?_
  refine Ro.q (v:=(i (rate*lag))) rfl rfl (zD rfl) rfl ?_
  refine Ro.nil (nT (Wp.ret (zN ?_)))
  refine zI (v:=(i (rate*lag))) Tryz.results143 rfl ⟨H.keep,?_⟩
  rfl
theorem c144 (base:Int) (blo:Int) (bhi:Int) (klo:Int) (khi:Int) (llo:Int) (lhi:Int) (slo:Int) (shi:Int) (term:Int) (day:Int) (shown:Int) (err:Int) (bare:Int) (alo:Int) (ahi:Int) (rlo:Int) (rhi:Int) (deep:Int) (broken:Bool) (k:Int) (lag:Int) (sq:Int) (air:Int) (rate:Int) (ab:Option Addr) (bs:List Band) (cab:Nat) (ad:Option Addr) (dl:List Depth) (cad:Nat) (w:World) (hab:Sl w 3 (bs.map yH) ab) (had:Sl w 2 (dl.map zZ) ad) (h:((0≤k∧k≤20)∧(0≤lag∧lag≤5)∧(0≤sq∧sq≤3))∧((-5000≤shown∧shown≤5000)∧(0≤err∧err≤20)∧(0≤bare∧bare≤300)∧(-100≤alo∧alo≤ahi∧ahi≤100)∧(-20≤rlo∧rlo≤rhi∧rhi≤20)∧(0≤deep∧deep≤20))):Rv Tryz.prog 144 [(.agg #[(i base),(.slice ab bs.length cab),(.slice ad dl.length cad),(i blo),(i bhi),(i klo),(i khi),(i llo),(i lhi),(i slo),(i shi),(i term),(i day),(i shown),(i err),(i bare),(i alo),(i ahi),(i rlo),(i rhi),(i deep),(.bool broken)]),(.agg #[(i k),(i lag),(i sq)]),(i air),(i rate)] w (i (-sq*deep)):=by
  have ms:=mulin (a:=-sq) (b:=deep) (A:=3) (B:=20) (by omega) (by omega)
  refine Ret.body (N:=16) Tryz.func144 rfl Tryz.ntmps144 rfl ?_
  have H:=S.start Nm w
  refine Wp.seq (Wp.region ?_)
  refine Ro.d rfl rfl rfl (H.box (l:=[i base,.slice ab bs.length cab,.slice ad dl.length cad,i blo,i bhi,i klo,i khi,i llo,i lhi,i slo,i shi,i term,i day,i shown,i err,i bare,i alo,i ahi,i rlo,i rhi,i deep,.bool broken]) rfl (v:=(.agg #[(i base),(.slice ab bs.length cab),(.slice ad dl.length cad),(i blo),(i bhi),(i klo),(i khi),(i llo),(i lhi),(i slo),(i shi),(i term),(i day),(i shown),(i err),(i bare),(i alo),(i ahi),(i rlo),(i rhi),(i deep),(.bool broken)])) rfl rfl ?_)
  intro b1 w2 Hn;replace H:=Hn;clear Hn
  refine Ro.d rfl rfl rfl (H.box (l:=[i k,i lag,i sq]) rfl (v:=(.agg #[(i k),(i lag),(i sq)])) rfl rfl ?_)
  intro b3 w4 Hn;replace H:=Hn;clear Hn
  refine Ro.q (v:=(i 0)) rfl rfl (zD rfl) rfl ?_
  refine Ro.nil (nT (Wp.seq (Wp.region ?_)))
  refine Ro.q (v:=(p b3 2)) rfl rfl (zA fo137_2 rfl rfl) rfl ?_
  refine Ro.q rfl rfl (zE zM rfl (H.cells 0 rfl) (j:=2) rfl rfl) rfl ?_
  refine Ro.q rfl rfl (r_neg rfl (by constructor <;>omega)) rfl ?_
  refine Ro.q (v:=(p b1 12)) rfl rfl (zA vJ rfl rfl) rfl ?_
  refine Ro.q (v:=(p b1 20)) rfl rfl (zA fo52_6 rfl rfl) rfl ?_
  refine Ro.q rfl rfl (zE zM rfl (H.cells 1 rfl) (j:=20) rfl rfl) rfl ?_
  refine Ro.q rfl rfl (r_mul rfl rfl (by constructor <;>omega)) rfl ?_
  refine Ro.q (v:=(i ((-sq)*deep))) rfl rfl (zD rfl) rfl ?_
  refine Ro.nil (nT (Wp.ret (zN ?_)))
  refine zI (v:=(i ((-sq)*deep))) Tryz.results144 rfl ⟨H.keep,?_⟩
  rfl
theorem c118  (w:World)   : Rv Tryz.prog 118 [] w (.agg #[(.func (.func 142) #[] #[]),(.func (.func 143) #[] #[]),(.func (.func 144) #[] #[])]):=by
  refine Ret.body (N:=5) Tryz.func118 rfl Tryz.ntmps118 rfl ?_
  have H:=S.start Nm w
  refine Wp.seq (Wp.region ?_)
  refine Ro.d rfl rfl rfl (H.new (l:=[.nilFunc,.nilFunc,.nilFunc]) rfl zv211 rfl ?_)
  intro b1 w2 Hn;replace H:=Hn;clear Hn
  refine Ro.nil (nT (Wp.seq (Wp.region ?_)))
  refine Ro.q (v:=(.agg #[(.func (.func 142) #[] #[])])) rfl rfl (zP (v:=(.agg #[(.func (.func 142) #[] #[])])) (pe (v:=(.func (.func 142) #[] #[])) rfl pn) (fun w=>by kernel_rfl)) rfl ?_
  refine Ro.q (v:=(.agg #[(.func (.func 143) #[] #[])])) rfl rfl (zP (v:=(.agg #[(.func (.func 143) #[] #[])])) (pe (v:=(.func (.func 143) #[] #[])) rfl pn) (fun w=>by kernel_rfl)) rfl ?_
  refine Ro.q (v:=(.agg #[(.func (.func 144) #[] #[])])) rfl rfl (zP (v:=(.agg #[(.func (.func 144) #[] #[])])) (pe (v:=(.func (.func 144) #[] #[])) rfl pn) (fun w=>by kernel_rfl)) rfl ?_
  refine Ro.q (v:=(.agg #[(.func (.func 142) #[] #[]),(.func (.func 143) #[] #[]),(.func (.func 144) #[] #[])])) rfl rfl (zP (v:=(.agg #[(.func (.func 142) #[] #[]),(.func (.func 143) #[] #[]),(.func (.func 144) #[] #[])])) (pe (v:=(.agg #[(.func (.func 142) #[] #[])])) rfl (pe (v:=(.agg #[(.func (.func 143) #[] #[])])) rfl (pe (v:=(.agg #[(.func (.func 144) #[] #[])])) rfl pn))) (fun w=>by kernel_rfl)) rfl ?_
  refine Ro.d0 rfl rfl rfl (H.store (j:=0) (off:=0) (k:=3) rfl sz211 rfl (v:=(.agg #[(.func (.func 142) #[] #[]),(.func (.func 143) #[] #[]),(.func (.func 144) #[] #[])])) rfl rfl rfl rfl rfl (by simp [Value.oneCell']) (cs':=[.func (.func 142) #[] #[],.func (.func 143) #[] #[],.func (.func 144) #[] #[]]) rfl ?_)
  intro w3 Hn;replace H:=Hn;clear Hn
  refine Ro.nil (nT (Wp.ret (zN ?_)))
  refine yW (vs:=[.func (.func 142) #[] #[],.func (.func 143) #[] #[],.func (.func 144) #[] #[]]) Tryz.results118 rfl ta211 (H.cells 0 rfl) rfl ⟨H.keep,?_⟩
  rfl
theorem c88 (base:Int) (blo:Int) (bhi:Int) (klo:Int) (khi:Int) (llo:Int) (lhi:Int) (slo:Int) (shi:Int) (term:Int) (day:Int) (shown:Int) (err:Int) (bare:Int) (alo:Int) (ahi:Int) (rlo:Int) (rhi:Int) (deep:Int) (broken:Bool) (k:Int) (lag:Int) (sq:Int) (air:Int) (rate:Int) (off:Int) (ab:Option Addr) (bs:List Band) (cab:Nat) (ad:Option Addr) (dl:List Depth) (cad:Nat) (w:World) (hab:Sl w 3 (bs.map yH) ab) (had:Sl w 2 (dl.map zZ) ad) (h:((0≤k∧k≤20)∧(0≤lag∧lag≤5)∧(0≤sq∧sq≤3))∧((-5000≤shown∧shown≤5000)∧(0≤err∧err≤20)∧(0≤bare∧bare≤300)∧(-100≤alo∧alo≤ahi∧ahi≤100)∧(-20≤rlo∧rlo≤rhi∧rhi≤20)∧(0≤deep∧deep≤20))∧(-100≤air∧air≤100)∧(-20≤rate∧rate≤20)∧(-20≤off∧off≤20)):Rv Tryz.prog 88 [(.agg #[(i base),(.slice ab bs.length cab),(.slice ad dl.length cad),(i blo),(i bhi),(i klo),(i khi),(i llo),(i lhi),(i slo),(i shi),(i term),(i day),(i shown),(i err),(i bare),(i alo),(i ahi),(i rlo),(i rhi),(i deep),(.bool broken)]),(.agg #[(i k),(i lag),(i sq)]),(i air),(i rate),(i off)] w (i (zG k lag sq shown bare deep air rate off)):=by
  have ml:=mulin (a:=rate) (b:=lag) (A:=20) (B:=5) (by omega) (by omega)
  have ms:=mulin (a:=-sq) (b:=deep) (A:=3) (B:=20) (by omega) (by omega)
  have sp:=stemP_in (k:=k) (bare:=bare) (shown:=shown) (air:=air) (by omega) (by omega) (by omega) (by omega)
  refine Ret.body (N:=34) Tryz.func88 rfl Tryz.ntmps88 rfl ?_
  have H:=S.start Nm w
  refine Wp.seq (Wp.region ?_)
  refine Ro.d rfl rfl rfl (H.box (l:=[i base,.slice ab bs.length cab,.slice ad dl.length cad,i blo,i bhi,i klo,i khi,i llo,i lhi,i slo,i shi,i term,i day,i shown,i err,i bare,i alo,i ahi,i rlo,i rhi,i deep,.bool broken]) rfl (v:=(.agg #[(i base),(.slice ab bs.length cab),(.slice ad dl.length cad),(i blo),(i bhi),(i klo),(i khi),(i llo),(i lhi),(i slo),(i shi),(i term),(i day),(i shown),(i err),(i bare),(i alo),(i ahi),(i rlo),(i rhi),(i deep),(.bool broken)])) rfl rfl ?_)
  intro b1 w2 Hn;replace H:=Hn;clear Hn
  refine Ro.d rfl rfl rfl (H.box (l:=[i k,i lag,i sq]) rfl (v:=(.agg #[(i k),(i lag),(i sq)])) rfl rfl ?_)
  intro b3 w4 Hn;replace H:=Hn;clear Hn
  refine Ro.q (v:=(i 0)) rfl rfl (zD rfl) rfl ?_
  refine Ro.nil (nT (Wp.seq (Wp.region ?_)))
  refine Ro.q (v:=(p b1 12)) rfl rfl (zA vJ rfl rfl) rfl ?_
  refine Ro.q (v:=(p b1 13)) rfl rfl (zA fo52_1 rfl rfl) rfl ?_
  refine Ro.q rfl rfl (zE zM rfl (H.cells 1 rfl) (j:=13) rfl rfl) rfl ?_
  refine Ro.q (v:=(i off)) rfl rfl (zB rfl) rfl ?_
  refine Ro.q rfl rfl (zU rfl rfl (by constructor <;>omega)) rfl ?_
  refine Ro.q (v:=(i (shown+off))) rfl rfl (zD rfl) rfl ?_
  refine Ro.nil (nT (Wp.seq (Wp.seq (Wp.region ?_))))
  refine Ro.d rfl rfl rfl (zH rfl en118 cn (c118  _ ) ?_)
  intro u w5 k6 hu;subst hu;replace H:=H.ext k6
  clear k6
  refine Ro.q (v:=(i 0)) rfl rfl (zB rfl) rfl ?_
  refine Ro.nil (nT (Wp.block ?_))
  refine Wp.rounds 4 (Rounds.next ?_)
  refine Wp.seq (Wp.region ?_)
  refine Ro.q (v:=(.bool true)) rfl rfl (Runs.to (yB rfl rfl) (by rfl)) rfl ?_
  refine Ro.nil (nT (Wp.seq ?_))
  refine Wp.condT rfl ?_
  refine Wp.skip (nT (Wp.seq (Wp.block (Wp.seq (Wp.region ?_)))))
  refine Ro.q (v:=(.agg #[(.func (.func 142) #[] #[])])) rfl rfl (r_index (v:=(.agg #[(.func (.func 142) #[] #[])])) rfl rfl (fun w=>by kernel_rfl)) rfl ?_
  refine Ro.d rfl rfl rfl (H.new (l:=[.nilFunc]) rfl zv209 rfl ?_)
  intro b7 w8 Hn;replace H:=Hn;clear Hn
  refine Ro.d0 rfl rfl rfl (H.store (j:=0) (off:=0) (k:=1) rfl sz209 rfl (v:=(.agg #[(.func (.func 142) #[] #[])])) rfl rfl rfl rfl rfl (by simp [Value.oneCell']) (cs':=[.func (.func 142) #[] #[]]) rfl ?_)
  intro w9 Hn;replace H:=Hn;clear Hn
  refine Ro.nil (nT (Wp.region ?_))
  refine Ro.q (v:=(i (shown+off))) rfl rfl (zB rfl) rfl ?_
  refine Ro.q (v:=(p b7 0)) rfl rfl (zA fo209_0 rfl rfl) rfl ?_
  refine Ro.q rfl rfl (zE t1_207 rfl (H.cells 0 rfl) (j:=0) rfl rfl) rfl ?_
  refine Ro.q rfl rfl (zJ ta170 rfl (H.cells 2 rfl) (j:=0) rfl (vs:=[i base,.slice ab bs.length cab,.slice ad dl.length cad,i blo,i bhi,i klo,i khi,i llo,i lhi,i slo,i shi,i term,i day,i shown,i err,i bare,i alo,i ahi,i rlo,i rhi,i deep,.bool broken]) rfl rfl) rfl ?_
  refine Ro.q rfl rfl (zJ ta137 rfl (H.cells 1 rfl) (j:=0) rfl (vs:=[i k,i lag,i sq]) rfl rfl) rfl ?_
  refine Ro.q (v:=(i air)) rfl rfl (zB rfl) rfl ?_
  refine Ro.q (v:=(i rate)) rfl rfl (zB rfl) rfl ?_
  refine Ro.d rfl rfl rfl (uG (fv:=[]) (cv:=[]) rfl rfl en142 (ce (v:=(.agg #[(i base),(.slice ab bs.length cab),(.slice ad dl.length cad),(i blo),(i bhi),(i klo),(i khi),(i llo),(i lhi),(i slo),(i shi),(i term),(i day),(i shown),(i err),(i bare),(i alo),(i ahi),(i rlo),(i rhi),(i deep),(.bool broken)])) rfl (ce (v:=(.agg #[(i k),(i lag),(i sq)])) rfl (ce (v:=(i air)) rfl (ce (v:=(i rate)) rfl cn)))) (c142 base blo bhi klo khi llo lhi slo shi term day shown err bare alo ahi rlo rhi deep broken k lag sq air rate ab bs cab ad dl cad _ (hab.ext H.keep) (had.ext H.keep) (by omega)) ?_)
  intro u w10 k11 hu;subst hu;replace H:=H.ext k11
  clear k11
  refine Ro.q rfl rfl (zU rfl rfl (by constructor <;>omega)) rfl ?_
  refine Ro.q (v:=(i ((shown+off)+(yC k bare shown air)))) rfl rfl (zD rfl) rfl ?_
  refine Ro.nil (nB (nT (Wp.region ?_)))
  refine Ro.q (v:=(i 1)) rfl rfl (Runs.to (zU rfl rfl (by constructor <;>omega)) (by rfl)) rfl ?_
  refine Ro.q (v:=(i 1)) rfl rfl (zB rfl) rfl ?_
  refine Ro.nil (nT ?_)
  refine Rounds.next ?_
  refine Wp.seq (Wp.region ?_)
  refine Ro.q (v:=(.bool true)) rfl rfl (Runs.to (yB rfl rfl) (by rfl)) rfl ?_
  refine Ro.nil (nT (Wp.seq ?_))
  refine Wp.condT rfl ?_
  refine Wp.skip (nT (Wp.seq (Wp.block (Wp.seq (Wp.region ?_)))))
  refine Ro.q (v:=(.agg #[(.func (.func 143) #[] #[])])) rfl rfl (r_index (v:=(.agg #[(.func (.func 143) #[] #[])])) rfl rfl (fun w=>by kernel_rfl)) rfl ?_
  refine Ro.d rfl rfl rfl (H.new (l:=[.nilFunc]) rfl zv209 rfl ?_)
  intro b12 w13 Hn;replace H:=Hn;clear Hn
  refine Ro.d0 rfl rfl rfl (H.store (j:=0) (off:=0) (k:=1) rfl sz209 rfl (v:=(.agg #[(.func (.func 143) #[] #[])])) rfl rfl rfl rfl rfl (by simp [Value.oneCell']) (cs':=[.func (.func 143) #[] #[]]) rfl ?_)
  intro w14 Hn;replace H:=Hn;clear Hn
  refine Ro.nil (nT (Wp.region ?_))
  refine Ro.q (v:=(i ((shown+off)+(yC k bare shown air)))) rfl rfl (zB rfl) rfl ?_
  refine Ro.q (v:=(p b12 0)) rfl rfl (zA fo209_0 rfl rfl) rfl ?_
  refine Ro.q rfl rfl (zE t1_207 rfl (H.cells 0 rfl) (j:=0) rfl rfl) rfl ?_
  refine Ro.q rfl rfl (zJ ta170 rfl (H.cells 3 rfl) (j:=0) rfl (vs:=[i base,.slice ab bs.length cab,.slice ad dl.length cad,i blo,i bhi,i klo,i khi,i llo,i lhi,i slo,i shi,i term,i day,i shown,i err,i bare,i alo,i ahi,i rlo,i rhi,i deep,.bool broken]) rfl rfl) rfl ?_
  refine Ro.q rfl rfl (zJ ta137 rfl (H.cells 2 rfl) (j:=0) rfl (vs:=[i k,i lag,i sq]) rfl rfl) rfl ?_
  refine Ro.q (v:=(i air)) rfl rfl (zB rfl) rfl ?_
  refine Ro.q (v:=(i rate)) rfl rfl (zB rfl) rfl ?_
  refine Ro.d rfl rfl rfl (uG (fv:=[]) (cv:=[]) rfl rfl en143 (ce (v:=(.agg #[(i base),(.slice ab bs.length cab),(.slice ad dl.length cad),(i blo),(i bhi),(i klo),(i khi),(i llo),(i lhi),(i slo),(i shi),(i term),(i day),(i shown),(i err),(i bare),(i alo),(i ahi),(i rlo),(i rhi),(i deep),(.bool broken)])) rfl (ce (v:=(.agg #[(i k),(i lag),(i sq)])) rfl (ce (v:=(i air)) rfl (ce (v:=(i rate)) rfl cn)))) (c143 base blo bhi klo khi llo lhi slo shi term day shown err bare alo ahi rlo rhi deep broken k lag sq air rate ab bs cab ad dl cad _ (hab.ext H.keep) (had.ext H.keep) (by omega)) ?_)
  intro u w15 k16 hu;subst hu;replace H:=H.ext k16
  clear k16
  refine Ro.q rfl rfl (zU rfl rfl (by constructor <;>omega)) rfl ?_
  refine Ro.q (v:=(i (((shown+off)+(yC k bare shown air))+(rate*lag)))) rfl rfl (zD rfl) rfl ?_
  refine Ro.nil (nB (nT (Wp.region ?_)))
  refine Ro.q (v:=(i 2)) rfl rfl (Runs.to (zU rfl rfl (by constructor <;>omega)) (by rfl)) rfl ?_
  refine Ro.q (v:=(i 2)) rfl rfl (zB rfl) rfl ?_
  refine Ro.nil (nT ?_)
  refine Rounds.next ?_
  refine Wp.seq (Wp.region ?_)
  refine Ro.q (v:=(.bool true)) rfl rfl (Runs.to (yB rfl rfl) (by rfl)) rfl ?_
  refine Ro.nil (nT (Wp.seq ?_))
  refine Wp.condT rfl ?_
  refine Wp.skip (nT (Wp.seq (Wp.block (Wp.seq (Wp.region ?_)))))
  refine Ro.q (v:=(.agg #[(.func (.func 144) #[] #[])])) rfl rfl (r_index (v:=(.agg #[(.func (.func 144) #[] #[])])) rfl rfl (fun w=>by kernel_rfl)) rfl ?_
  refine Ro.d rfl rfl rfl (H.new (l:=[.nilFunc]) rfl zv209 rfl ?_)
  intro b17 w18 Hn;replace H:=Hn;clear Hn
  refine Ro.d0 rfl rfl rfl (H.store (j:=0) (off:=0) (k:=1) rfl sz209 rfl (v:=(.agg #[(.func (.func 144) #[] #[])])) rfl rfl rfl rfl rfl (by simp [Value.oneCell']) (cs':=[.func (.func 144) #[] #[]]) rfl ?_)
  intro w19 Hn;replace H:S Nm w [(b17,.cells [.func (.func 144) #[] #[]].toArray 209 (0,0)),(b12,.cells [.func (.func 143) #[] #[]].toArray 209 (0,0)),(b7,.cells [.func (.func 142) #[] #[]].toArray 209 (0,0)),(b3,.cells [i k,i lag,i sq].toArray 137 (0,0)),(b1,.cells [i base,.slice ab bs.length cab,.slice ad dl.length cad,i blo,i bhi,i klo,i khi,i llo,i lhi,i slo,i shi,i term,i day,i shown,i err,i bare,i alo,i ahi,i rlo,i rhi,i deep,.bool broken].toArray 170 (0,0))] w19:=Hn;clear Hn
  refine Ro.nil (nT (Wp.region ?_))
  refine Ro.q (v:=(i (((shown+off)+(yC k bare shown air))+(rate*lag)))) rfl rfl (zB rfl) rfl ?_
  refine Ro.q (v:=(p b17 0)) rfl rfl (zA fo209_0 rfl rfl) rfl ?_
  refine Ro.q rfl rfl (zE t1_207 rfl (H.cells 0 rfl) (j:=0) rfl rfl) rfl ?_
  refine Ro.q rfl rfl (zJ ta170 rfl (H.cells 4 rfl) (j:=0) rfl (vs:=[i base,.slice ab bs.length cab,.slice ad dl.length cad,i blo,i bhi,i klo,i khi,i llo,i lhi,i slo,i shi,i term,i day,i shown,i err,i bare,i alo,i ahi,i rlo,i rhi,i deep,.bool broken]) rfl rfl) rfl ?_
  refine Ro.q rfl rfl (zJ ta137 rfl (H.cells 3 rfl) (j:=0) rfl (vs:=[i k,i lag,i sq]) rfl rfl) rfl ?_
  refine Ro.q (v:=(i air)) rfl rfl (zB rfl) rfl ?_
  refine Ro.q (v:=(i rate)) rfl rfl (zB rfl) rfl ?_
  refine Ro.d rfl rfl rfl (uG (fv:=[]) (cv:=[]) rfl rfl en144 (ce (v:=(.agg #[(i base),(.slice ab bs.length cab),(.slice ad dl.length cad),(i blo),(i bhi),(i klo),(i khi),(i llo),(i lhi),(i slo),(i shi),(i term),(i day),(i shown),(i err),(i bare),(i alo),(i ahi),(i rlo),(i rhi),(i deep),(.bool broken)])) rfl (ce (v:=(.agg #[(i k),(i lag),(i sq)])) rfl (ce (v:=(i air)) rfl (ce (v:=(i rate)) rfl cn)))) (c144 base blo bhi klo khi llo lhi slo shi term day shown err bare alo ahi rlo rhi deep broken k lag sq air rate ab bs cab ad dl cad _ (hab.ext H.keep) (had.ext H.keep) (by omega)) ?_)
  intro u w20 k21 hu;subst hu;replace H:=H.ext k21
  clear k21
  refine Ro.q rfl rfl (zU rfl rfl (by constructor <;>omega)) rfl ?_
  refine Ro.q (v:=(i ((((shown+off)+(yC k bare shown air))+(rate*lag))+(-sq*deep)))) rfl rfl (zD rfl) rfl ?_
  refine Ro.nil (nB (nT (Wp.region ?_)))
  refine Ro.q (v:=(i 3)) rfl rfl (Runs.to (zU rfl rfl (by constructor <;>omega)) (by rfl)) rfl ?_
  refine Ro.q (v:=(i 3)) rfl rfl (zB rfl) rfl ?_
  refine Ro.nil (nT ?_)
  refine Rounds.next ?_
  refine Wp.seq (Wp.region ?_)
  refine Ro.q (v:=(.bool false)) rfl rfl (Runs.to (yB rfl rfl) (by rfl)) rfl ?_
  refine Ro.nil (nT (Wp.seq ?_))
  refine Wp.condF rfl ?_
  refine Wp.exit (xT (xT (xB (nT (Wp.seq (Wp.region ?_))))))
  refine Ro.q (v:=(i ((((shown+off)+(yC k bare shown air))+(rate*lag))+(-sq*deep)))) rfl rfl (zB rfl) rfl ?_
  refine Ro.q (v:=(i ((((shown+off)+(yC k bare shown air))+(rate*lag))+(-sq*deep)))) rfl rfl (zD rfl) rfl ?_
  refine Ro.nil (nT (Wp.ret (zN ?_)))
  refine zI (v:=(i ((((shown+off)+(yC k bare shown air))+(rate*lag))+(-sq*deep)))) Tryz.results88 rfl ⟨H.keep,?_⟩
  rfl
theorem withoutP_in {k lag sq shown bare deep air rate off:Int} (h:((0≤k∧k≤20)∧(0≤lag∧lag≤5)∧(0≤sq∧sq≤3))∧((-5000≤shown∧shown≤5000)∧(0≤bare∧bare≤300)∧(0≤deep∧deep≤20))∧(-100≤air∧air≤100)∧(-20≤rate∧rate≤20)∧(-20≤off∧off≤20)) : -37000000≤zG k lag sq shown bare deep air rate off∧zG k lag sq shown bare deep air rate off≤37000000:=by
  have ml:=mulin (a:=rate) (b:=lag) (A:=20) (B:=5) (by omega) (by omega)
  have ms:=mulin (a:=-sq) (b:=deep) (A:=3) (B:=20) (by omega) (by omega)
  have sp:=stemP_in (k:=k) (bare:=bare) (shown:=shown) (air:=air) (by omega) (by omega) (by omega) (by omega)
  unfold zG
  omega
theorem c121 (base:Int) (blo:Int) (bhi:Int) (klo:Int) (khi:Int) (llo:Int) (lhi:Int) (slo:Int) (shi:Int) (term:Int) (day:Int) (shown:Int) (err:Int) (bare:Int) (alo:Int) (ahi:Int) (rlo:Int) (rhi:Int) (deep:Int) (broken:Bool) (k:Int) (lag:Int) (sq:Int) (rate:Int) (ab:Option Addr) (bs:List Band) (cab:Nat) (ad:Option Addr) (dl:List Depth) (cad:Nat) (w:World) (hab:Sl w 3 (bs.map yH) ab) (had:Sl w 2 (dl.map zZ) ad) (h:((0≤k∧k≤20)∧(0≤lag∧lag≤5)∧(0≤sq∧sq≤3))∧((-5000≤shown∧shown≤5000)∧(0≤err∧err≤20)∧(0≤bare∧bare≤300)∧(-100≤alo∧alo≤ahi∧ahi≤100)∧(-20≤rlo∧rlo≤rhi∧rhi≤20)∧(0≤deep∧deep≤20))∧(-20≤rate∧rate≤20)):Rv Tryz.prog 121 [(.agg #[(i base),(.slice ab bs.length cab),(.slice ad dl.length cad),(i blo),(i bhi),(i klo),(i khi),(i llo),(i lhi),(i slo),(i shi),(i term),(i day),(i shown),(i err),(i bare),(i alo),(i ahi),(i rlo),(i rhi),(i deep),(.bool broken)]),(.agg #[(i k),(i lag),(i sq)]),(i rate)] w (.agg #[(i (min (zG k lag sq shown bare deep alo rate 0) (zG k lag sq shown bare deep ahi rate 0)-err)),(i (max (zG k lag sq shown bare deep alo rate 0) (zG k lag sq shown bare deep ahi rate 0)+err))]):=by
  have wa:=withoutP_in (k:=k) (lag:=lag) (sq:=sq) (shown:=shown) (bare:=bare) (deep:=deep) (air:=alo) (rate:=rate) (off:=0) (by omega)
  have wb:=withoutP_in (k:=k) (lag:=lag) (sq:=sq) (shown:=shown) (bare:=bare) (deep:=deep) (air:=ahi) (rate:=rate) (off:=0) (by omega)
  refine Ret.body (N:=42) Tryz.func121 rfl Tryz.ntmps121 rfl ?_
  have H:=S.start Nm w
  refine Wp.seq (Wp.region ?_)
  refine Ro.d rfl rfl rfl (H.box (l:=[i base,.slice ab bs.length cab,.slice ad dl.length cad,i blo,i bhi,i klo,i khi,i llo,i lhi,i slo,i shi,i term,i day,i shown,i err,i bare,i alo,i ahi,i rlo,i rhi,i deep,.bool broken]) rfl (v:=(.agg #[(i base),(.slice ab bs.length cab),(.slice ad dl.length cad),(i blo),(i bhi),(i klo),(i khi),(i llo),(i lhi),(i slo),(i shi),(i term),(i day),(i shown),(i err),(i bare),(i alo),(i ahi),(i rlo),(i rhi),(i deep),(.bool broken)])) rfl rfl ?_)
  intro b1 w2 Hn;replace H:=Hn;clear Hn
  refine Ro.d rfl rfl rfl (H.box (l:=[i k,i lag,i sq]) rfl (v:=(.agg #[(i k),(i lag),(i sq)])) rfl rfl ?_)
  intro b3 w4 Hn;replace H:=Hn;clear Hn
  refine Ro.d rfl rfl rfl (H.new (l:=[i 0,i 0]) rfl zv41 rfl ?_)
  intro b5 w6 Hn;replace H:=Hn;clear Hn
  refine Ro.nil (nT (Wp.seq ?_))
  refine Wp.drawnS 15 [0,0,0,4,12,28,0,127,0,0,0,1024,3072,7168,0,32767,65535,131071] [is (.agg #[(i base),(.slice ab bs.length cab),(.slice ad dl.length cad),(i blo),(i bhi),(i klo),(i khi),(i llo),(i lhi),(i slo),(i shi),(i term),(i day),(i shown),(i err),(i bare),(i alo),(i ahi),(i rlo),(i rhi),(i deep),(.bool broken)]),is (.agg #[(i k),(i lag),(i sq)]),is (p b1 12),is (p b1 16),is (p b1 16),is (i alo),is (i rate),is (i (zG k lag sq shown bare deep alo rate 0)),is (.agg #[(i base),(.slice ab bs.length cab),(.slice ad dl.length cad),(i blo),(i bhi),(i klo),(i khi),(i llo),(i lhi),(i slo),(i shi),(i term),(i day),(i shown),(i err),(i bare),(i alo),(i ahi),(i rlo),(i rhi),(i deep),(.bool broken)]),is (.agg #[(i k),(i lag),(i sq)]),is (p b1 12),is (p b1 16),is (p b1 17),is (i ahi),is (i rate)] (by kernel_rfl) (by kernel_rfl) rfl (Mi (Mi (Mi (Mi (Mi (Mi (Mi (Mi (Mi (Mi (Mi (Mi (Mi (Mi (Mi Mono.nil))))))))))))))) (fun w' k=>H.ext k) ?_ ?_
  · refine ⟨?_,?_,?_,?_,?_,?_,?_,?_,?_,?_,?_,?_,?_,?_,?_,trivial⟩
    · exact Ob.q rfl (fun _ _ B U D=>(zJ ta170 (show (_:Value)=(p b1 0) from U 3 rfl) (B.cells 2 rfl) (j:=0) rfl (vs:=[i base,.slice ab bs.length cab,.slice ad dl.length cad,i blo,i bhi,i klo,i khi,i llo,i lhi,i slo,i shi,i term,i day,i shown,i err,i bare,i alo,i ahi,i rlo,i rhi,i deep,.bool broken]) rfl rfl)) rfl rfl
    · exact Ob.q rfl (fun _ _ B U D=>(zJ ta137 (show (_:Value)=(p b3 0) from U 4 rfl) (B.cells 1 rfl) (j:=0) rfl (vs:=[i k,i lag,i sq]) rfl rfl)) rfl rfl
    · exact Ob.q rfl (fun _ _ B U D=>(zA vJ (show (_:Value)=(p b1 0) from U 3 rfl) rfl)) rfl rfl
    · exact Ob.q rfl (fun _ _ B U D=>(zA fo52_4 (D 2 rfl) rfl)) rfl rfl
    · exact Ob.q rfl (fun _ _ B U D=>(zA yV (D 3 rfl) rfl)) rfl rfl
    · exact Ob.q rfl (fun _ _ B U D=>(zE zM (D 4 rfl) (B.cells 2 rfl) (j:=16) rfl rfl)) rfl rfl
    · exact Ob.q rfl (fun _ _ B U D=>(zB (show (_:Value)=(i rate) from U 2 rfl))) rfl rfl
    · exact Ob.mk rfl fun ρ' w' B U D=>zH rfl en88 (ce (v:=(.agg #[(i base),(.slice ab bs.length cab),(.slice ad dl.length cad),(i blo),(i bhi),(i klo),(i khi),(i llo),(i lhi),(i slo),(i shi),(i term),(i day),(i shown),(i err),(i bare),(i alo),(i ahi),(i rlo),(i rhi),(i deep),(.bool broken)])) (D 0 rfl) (ce (v:=(.agg #[(i k),(i lag),(i sq)])) (D 1 rfl) (ce (v:=(i alo)) (D 5 rfl) (ce (v:=(i rate)) (D 6 rfl) (ce (v:=(i 0)) rfl cn))))) (c88 base blo bhi klo khi llo lhi slo shi term day shown err bare alo ahi rlo rhi deep broken k lag sq alo rate 0 ab bs cab ad dl cad _ (hab.ext B.keep) (had.ext B.keep) (by omega)) (fun u w2 k2 hu=>⟨k2,hu⟩)
    · exact Ob.q rfl (fun _ _ B U D=>(zJ ta170 (show (_:Value)=(p b1 0) from U 3 rfl) (B.cells 2 rfl) (j:=0) rfl (vs:=[i base,.slice ab bs.length cab,.slice ad dl.length cad,i blo,i bhi,i klo,i khi,i llo,i lhi,i slo,i shi,i term,i day,i shown,i err,i bare,i alo,i ahi,i rlo,i rhi,i deep,.bool broken]) rfl rfl)) rfl rfl
    · exact Ob.q rfl (fun _ _ B U D=>(zJ ta137 (show (_:Value)=(p b3 0) from U 4 rfl) (B.cells 1 rfl) (j:=0) rfl (vs:=[i k,i lag,i sq]) rfl rfl)) rfl rfl
    · exact Ob.q rfl (fun _ _ B U D=>(zA vJ (show (_:Value)=(p b1 0) from U 3 rfl) rfl)) rfl rfl
    · exact Ob.q rfl (fun _ _ B U D=>(zA fo52_4 (D 10 rfl) rfl)) rfl rfl
    · exact Ob.q rfl (fun _ _ B U D=>(zA yZ (D 11 rfl) rfl)) rfl rfl
    · exact Ob.q rfl (fun _ _ B U D=>(zE zM (D 12 rfl) (B.cells 2 rfl) (j:=17) rfl rfl)) rfl rfl
    · exact Ob.q rfl (fun _ _ B U D=>(zB (show (_:Value)=(i rate) from U 2 rfl))) rfl rfl
  intro ρ7 w8 k9 U10 D11;replace H:=H.ext k9
  have f12:ρ7 3=(p b1 0):=U10 3 rfl
  have f13:ρ7 6=(p b5 0):=U10 6 rfl
  have f14:ρ7 16=(i (zG k lag sq shown bare deep alo rate 0)):=D11 7 rfl
  have f15:ρ7 17=(.agg #[(i base),(.slice ab bs.length cab),(.slice ad dl.length cad),(i blo),(i bhi),(i klo),(i khi),(i llo),(i lhi),(i slo),(i shi),(i term),(i day),(i shown),(i err),(i bare),(i alo),(i ahi),(i rlo),(i rhi),(i deep),(.bool broken)]):=D11 8 rfl
  have f16:ρ7 18=(.agg #[(i k),(i lag),(i sq)]):=D11 9 rfl
  have f17:ρ7 22=(i ahi):=D11 13 rfl
  have f18:ρ7 23=(i rate):=D11 14 rfl
  clear U10 D11 k9
  refine Ro.d rfl rfl rfl (zH rfl en88 (ce (v:=(.agg #[(i base),(.slice ab bs.length cab),(.slice ad dl.length cad),(i blo),(i bhi),(i klo),(i khi),(i llo),(i lhi),(i slo),(i shi),(i term),(i day),(i shown),(i err),(i bare),(i alo),(i ahi),(i rlo),(i rhi),(i deep),(.bool broken)])) f15 (ce (v:=(.agg #[(i k),(i lag),(i sq)])) f16 (ce (v:=(i ahi)) f17 (ce (v:=(i rate)) f18 (ce (v:=(i 0)) rfl cn))))) (c88 base blo bhi klo khi llo lhi slo shi term day shown err bare alo ahi rlo rhi deep broken k lag sq ahi rate 0 ab bs cab ad dl cad _ (hab.ext H.keep) (had.ext H.keep) (by omega)) ?_)
  intro u w19 k20 hu;subst hu;replace H:=H.ext k20
  clear k20
  refine Ro.q (v:=(i (zG k lag sq shown bare deep alo rate 0))) rfl rfl (zD f14) rfl ?_
  refine Ro.q (v:=(i (zG k lag sq shown bare deep ahi rate 0))) rfl rfl (zD rfl) rfl ?_
  refine Ro.nil (nT (Wp.seq ?_))
  refine Wp.drawnS 17 [0,0,3,7,0,16,48,127,0,0,768,1807,0,4096,12288,32527,65535,131071] [is (i (zG k lag sq shown bare deep alo rate 0)),is (i (zG k lag sq shown bare deep ahi rate 0)),fun v w=>∃ b,v = .slice (some ⟨b,0,none⟩) 2 2∧Cells w b 0 [i (zG k lag sq shown bare deep alo rate 0),i (zG k lag sq shown bare deep ahi rate 0)],is (i (vS ([zG k lag sq shown bare deep alo rate 0,zG k lag sq shown bare deep ahi rate 0]))),is (p b1 12),is (p b1 14),is (i err),is (i ((vS ([zG k lag sq shown bare deep alo rate 0,zG k lag sq shown bare deep ahi rate 0]))-err)),is (i (zG k lag sq shown bare deep alo rate 0)),is (i (zG k lag sq shown bare deep ahi rate 0)),fun v w=>∃ b,v = .slice (some ⟨b,0,none⟩) 2 2∧Cells w b 0 [i (zG k lag sq shown bare deep alo rate 0),i (zG k lag sq shown bare deep ahi rate 0)],is (i (vB ([zG k lag sq shown bare deep alo rate 0,zG k lag sq shown bare deep ahi rate 0]))),is (p b1 12),is (p b1 14),is (i err),is (i ((vB ([zG k lag sq shown bare deep alo rate 0,zG k lag sq shown bare deep ahi rate 0]))+err)),is (.agg #[(i ((vS ([zG k lag sq shown bare deep alo rate 0,zG k lag sq shown bare deep ahi rate 0]))-err)),(i ((vB ([zG k lag sq shown bare deep alo rate 0,zG k lag sq shown bare deep ahi rate 0]))+err))])] (by kernel_rfl) (by kernel_rfl) rfl (Mi (Mi (Mono.row (Mi (Mi (Mi (Mi (Mi (Mi (Mi (Mono.row (Mi (Mi (Mi (Mi (Mi (Mi Mono.nil))))))))))))))))) (fun w' k=>H.ext k) ?_ ?_
  · refine ⟨?_,?_,?_,?_,?_,?_,?_,?_,?_,?_,?_,?_,?_,?_,?_,?_,?_,trivial⟩
    · exact Ob.q rfl (fun _ _ B U D=>(zB (show (_:Value)=(i (zG k lag sq shown bare deep alo rate 0)) from U 7 rfl))) rfl rfl
    · exact Ob.q rfl (fun _ _ B U D=>(zB (show (_:Value)=(i (zG k lag sq shown bare deep ahi rate 0)) from U 8 rfl))) rfl rfl
    · exact Ob.mk rfl fun ρ' w' B U D=>d_row (e:=3) (cs:=[i (zG k lag sq shown bare deep alo rate 0),i (zG k lag sq shown bare deep ahi rate 0)]) rfl (pe (v:=(i (zG k lag sq shown bare deep alo rate 0))) (D 0 rfl) (pe (v:=(i (zG k lag sq shown bare deep ahi rate 0))) (D 1 rfl) pn)) (fun w=>by kernel_rfl) fun b w2 k hc=>⟨k,b,rfl,hc⟩
    · exact Ob.mk rfl fun ρ' w' B U D=>(match (show ∃ b,ρ' 27 = .slice (some ⟨b,0,none⟩) 2 2∧Cells w' b 0 [i (zG k lag sq shown bare deep alo rate 0),i (zG k lag sq shown bare deep ahi rate 0)] from D 2 rfl) with | ⟨bR2,hR2,cR2⟩=>zH rfl en70 (ce (v:=(.slice (some ⟨bR2,0,none⟩) 2 2)) hR2 cn) (c70 (some ⟨bR2,0,none⟩) ([zG k lag sq shown bare deep alo rate 0,zG k lag sq shown bare deep ahi rate 0]) 2 _ ((Sl.of (b:=bR2) (xs:=[zG k lag sq shown bare deep alo rate 0,zG k lag sq shown bare deep ahi rate 0].map yD) (by simp [yD]) cR2)) (by simp)) (fun u w2 k2 hu=>⟨k2,hu⟩))
    · exact Ob.q rfl (fun _ _ B U D=>(zA vJ ((U 3 rfl).trans f12) rfl)) rfl rfl
    · exact Ob.q rfl (fun _ _ B U D=>(zA fo52_2 (D 4 rfl) rfl)) rfl rfl
    · exact Ob.q rfl (fun _ _ B U D=>(zE zM (D 5 rfl) (B.cells 2 rfl) (j:=14) rfl rfl)) rfl rfl
    · exact Ob.q rfl (fun _ _ B U D=>(yT (D 3 rfl) (D 6 rfl) (by first | (constructor <;>omega) | (have e1:vS [zG k lag sq shown bare deep alo rate 0,zG k lag sq shown bare deep ahi rate 0]=min (zG k lag sq shown bare deep alo rate 0) (zG k lag sq shown bare deep ahi rate 0):=rfl;have e2:vB [zG k lag sq shown bare deep alo rate 0,zG k lag sq shown bare deep ahi rate 0]=max (zG k lag sq shown bare deep alo rate 0) (zG k lag sq shown bare deep ahi rate 0):=rfl;constructor <;>omega)))) rfl rfl
    · exact Ob.q rfl (fun _ _ B U D=>(zB (show (_:Value)=(i (zG k lag sq shown bare deep alo rate 0)) from U 7 rfl))) rfl rfl
    · exact Ob.q rfl (fun _ _ B U D=>(zB (show (_:Value)=(i (zG k lag sq shown bare deep ahi rate 0)) from U 8 rfl))) rfl rfl
    · exact Ob.mk rfl fun ρ' w' B U D=>d_row (e:=3) (cs:=[i (zG k lag sq shown bare deep alo rate 0),i (zG k lag sq shown bare deep ahi rate 0)]) rfl (pe (v:=(i (zG k lag sq shown bare deep alo rate 0))) (D 8 rfl) (pe (v:=(i (zG k lag sq shown bare deep ahi rate 0))) (D 9 rfl) pn)) (fun w=>by kernel_rfl) fun b w2 k hc=>⟨k,b,rfl,hc⟩
    · exact Ob.mk rfl fun ρ' w' B U D=>(match (show ∃ b,ρ' 35 = .slice (some ⟨b,0,none⟩) 2 2∧Cells w' b 0 [i (zG k lag sq shown bare deep alo rate 0),i (zG k lag sq shown bare deep ahi rate 0)] from D 10 rfl) with | ⟨bR10,hR10,cR10⟩=>zH rfl en71 (ce (v:=(.slice (some ⟨bR10,0,none⟩) 2 2)) hR10 cn) (c71 (some ⟨bR10,0,none⟩) ([zG k lag sq shown bare deep alo rate 0,zG k lag sq shown bare deep ahi rate 0]) 2 _ ((Sl.of (b:=bR10) (xs:=[zG k lag sq shown bare deep alo rate 0,zG k lag sq shown bare deep ahi rate 0].map yD) (by simp [yD]) cR10)) (by simp)) (fun u w2 k2 hu=>⟨k2,hu⟩))
    · exact Ob.q rfl (fun _ _ B U D=>(zA vJ ((U 3 rfl).trans f12) rfl)) rfl rfl
    · exact Ob.q rfl (fun _ _ B U D=>(zA fo52_2 (D 12 rfl) rfl)) rfl rfl
    · exact Ob.q rfl (fun _ _ B U D=>(zE zM (D 13 rfl) (B.cells 2 rfl) (j:=14) rfl rfl)) rfl rfl
    · exact Ob.q rfl (fun _ _ B U D=>(zU (D 11 rfl) (D 14 rfl) (by first | (constructor <;>omega) | (have e1:vS [zG k lag sq shown bare deep alo rate 0,zG k lag sq shown bare deep ahi rate 0]=min (zG k lag sq shown bare deep alo rate 0) (zG k lag sq shown bare deep ahi rate 0):=rfl;have e2:vB [zG k lag sq shown bare deep alo rate 0,zG k lag sq shown bare deep ahi rate 0]=max (zG k lag sq shown bare deep alo rate 0) (zG k lag sq shown bare deep ahi rate 0):=rfl;constructor <;>omega)))) rfl rfl
    · exact Ob.q rfl (fun _ _ B U D=>(zP (v:=(.agg #[(i ((vS ([zG k lag sq shown bare deep alo rate 0,zG k lag sq shown bare deep ahi rate 0]))-err)),(i ((vB ([zG k lag sq shown bare deep alo rate 0,zG k lag sq shown bare deep ahi rate 0]))+err))])) (pe (v:=(i ((vS ([zG k lag sq shown bare deep alo rate 0,zG k lag sq shown bare deep ahi rate 0]))-err))) (D 7 rfl) (pe (v:=(i ((vB ([zG k lag sq shown bare deep alo rate 0,zG k lag sq shown bare deep ahi rate 0]))+err))) (D 15 rfl) pn)) (fun w=>by kernel_rfl))) rfl rfl
  intro ρ21 w22 k23 U24 D25;replace H:=H.ext k23
  have f26:=(U24 6 rfl).trans f13
  have f27:ρ21 41=(.agg #[(i ((vS ([zG k lag sq shown bare deep alo rate 0,zG k lag sq shown bare deep ahi rate 0]))-err)),(i ((vB ([zG k lag sq shown bare deep alo rate 0,zG k lag sq shown bare deep ahi rate 0]))+err))]):=D25 16 rfl
  clear U24 D25 k23
  refine Ro.d0 rfl rfl rfl (H.store (j:=0) (off:=0) (k:=2) rfl sz41 f26 (v:=(.agg #[(i ((vS ([zG k lag sq shown bare deep alo rate 0,zG k lag sq shown bare deep ahi rate 0]))-err)),(i ((vB ([zG k lag sq shown bare deep alo rate 0,zG k lag sq shown bare deep ahi rate 0]))+err))])) f27 rfl rfl rfl rfl (by simp [Value.oneCell']) (cs':=[i ((vS ([zG k lag sq shown bare deep alo rate 0,zG k lag sq shown bare deep ahi rate 0]))-err),i ((vB ([zG k lag sq shown bare deep alo rate 0,zG k lag sq shown bare deep ahi rate 0]))+err)]) rfl ?_)
  intro w28 Hn;replace H:=Hn;clear Hn
  refine Ro.nil (nT (Wp.ret (zN ?_)))
  refine yW (vs:=[i ((vS ([zG k lag sq shown bare deep alo rate 0,zG k lag sq shown bare deep ahi rate 0]))-err),i ((vB ([zG k lag sq shown bare deep alo rate 0,zG k lag sq shown bare deep ahi rate 0]))+err)]) Tryz.results121 f26 vL (H.cells 0 rfl) rfl ⟨H.keep,?_⟩
  rfl
theorem c33 (day:Int) (shown:Int) (err:Int) (bare:Int) (alo:Int) (ahi:Int) (rlo:Int) (rhi:Int) (deep:Int) (broken:Bool) (days:Int) (w:World)  (hd:0≤days∧days≤4611686018427387904):Rv Tryz.prog 33 [(.agg #[(i day),(i shown),(i err),(i bare),(i alo),(i ahi),(i rlo),(i rhi),(i deep),(.bool broken)]),(i days)] w (.bool (readB days day shown err bare alo ahi rlo rhi deep)):=by
  refine Ret.body (N:=40) Tryz.func33 rfl Tryz.ntmps33 rfl ?_
  have H:=S.start Nm w
  refine Wp.seq (Wp.region ?_)
  refine Ro.d rfl rfl rfl (H.box (l:=[i day,i shown,i err,i bare,i alo,i ahi,i rlo,i rhi,i deep,.bool broken]) rfl (v:=(.agg #[(i day),(i shown),(i err),(i bare),(i alo),(i ahi),(i rlo),(i rhi),(i deep),(.bool broken)])) rfl rfl ?_)
  intro b1 w2 Hn;replace H:=Hn;clear Hn
  refine Ro.q (v:=(.bool false)) rfl rfl (zD rfl) rfl ?_
  refine Ro.nil (nT (Wp.seq ?_))
  let qq3:Bool:=decide (0≤day) && decide (day≤(days-1))
  let qq4:Bool:=decide ((-5000)≤shown) && decide (shown≤5000)
  let qq5:Bool:=(qq3 && qq4)
  let qq6:Bool:=decide (0≤err) && decide (err≤20)
  let qq7:Bool:=(qq5 && qq6)
  let qq8:Bool:=decide (0≤bare) && decide (bare≤300)
  let qq9:Bool:=(qq7 && qq8)
  let qq10:Bool:=(decide ((-100)≤alo) && decide (alo≤ahi)) && decide (ahi≤100)
  let qq11:Bool:=(qq9 && qq10)
  let qq12:Bool:=(decide ((-20)≤rlo) && decide (rlo≤rhi)) && decide (rhi≤20)
  let qq13:Bool:=(qq11 && qq12)
  let qq14:Bool:=decide (0≤deep) && decide (deep≤20)
  let qq15:Bool:=(qq13 && qq14)
  refine Wp.factsS 36 [is (p b1 0),is (i day),is (i days),is (i (days-1)),is (.bool qq3),is (.bool qq3),gdv (True∧qq3=true) (p b1 1),gdv (True∧qq3=true) (i shown),gdv (True∧qq3=true) (.bool qq4),is (.bool qq5),is (.bool qq5),gdv (True∧qq5=true) (p b1 2),gdv (True∧qq5=true) (i err),gdv (True∧qq5=true) (.bool qq6),is (.bool qq7),is (.bool qq7),gdv (True∧qq7=true) (p b1 3),gdv (True∧qq7=true) (i bare),gdv (True∧qq7=true) (.bool qq8),is (.bool qq9),is (.bool qq9),gdv (True∧qq9=true) (p b1 4),gdv (True∧qq9=true) (.agg #[(i alo),(i ahi)]),gdv (True∧qq9=true) (.bool qq10),is (.bool qq11),is (.bool qq11),gdv (True∧qq11=true) (p b1 6),gdv (True∧qq11=true) (.agg #[(i rlo),(i rhi)]),gdv (True∧qq11=true) (.bool qq12),is (.bool qq13),is (.bool qq13),gdv (True∧qq13=true) (p b1 8),gdv (True∧qq13=true) (i deep),gdv (True∧qq13=true) (.bool qq14),is (.bool qq15),is (.bool qq15)] (by kernel_rfl) (Mi (Mi (Mi (Mi (Mi (Mi (Mg (Mg (Mg (Mi (Mi (Mg (Mg (Mg (Mi (Mi (Mg (Mg (Mg (Mi (Mi (Mg (Mg (Mg (Mi (Mi (Mg (Mg (Mg (Mi (Mi (Mg (Mg (Mg (Mi (Mi Mono.nil)))))))))))))))))))))))))))))))))))) (fun w' k=>H.ext k) ?_ ?_
  · refine ⟨?_,?_,?_,?_,?_,?_,?_,?_,?_,?_,?_,?_,?_,?_,?_,?_,?_,?_,?_,?_,?_,?_,?_,?_,?_,?_,?_,?_,?_,?_,?_,?_,?_,?_,?_,?_,trivial⟩
    · exact Ob.q rfl (fun _ _ B U D=>(zA fo33_0 (show (_:Value)=(p b1 0) from U 2 rfl) rfl)) rfl rfl
    · exact Ob.q rfl (fun _ _ B U D=>(zE zM (D 0 rfl) (B.cells 0 rfl) (j:=0) rfl rfl)) rfl rfl
    · exact Ob.q rfl (fun _ _ B U D=>(zB (show (_:Value)=(i days) from U 1 rfl))) rfl rfl
    · exact Ob.q rfl (fun _ _ B U D=>(yT (D 2 rfl) rfl (by constructor <;>omega))) rfl rfl
    · exact Ob.mk rfl fun ρ' w' B U D=>zH rfl en41 (ce (v:=(i day)) (D 1 rfl) (ce (v:=(i 0)) rfl (ce (v:=(i (days-1))) (D 3 rfl) cn))) (c41 day 0 (days-1) _ ) (fun u w2 k2 hu=>⟨k2,hu⟩)
    · exact Ob.q rfl (fun _ _ B U D=>(zB (D 4 rfl))) rfl rfl
    · exact Ob.g0 rfl rfl (fun _ _ _ D=>D 5 rfl) rfl (fun _ _ B U D hC hg=>(zA fo33_1 (show (_:Value)=(p b1 0) from U 2 rfl) rfl)) rfl
    · exact Ob.g0 rfl rfl (fun _ _ _ D=>D 5 rfl) rfl (fun _ _ B U D hC hg=>(zE zM (gdy (D 6 rfl) ⟨hC,hg⟩) (B.cells 0 rfl) (j:=1) rfl rfl)) rfl
    · exact Ob.gd (C:=True) (g:=qq3) rfl rfl (fun ρ' w' U D=>⟨fun _=>(D 5 rfl),fun h=>absurd trivial h⟩) (fun _ h=>⟨fun hc=>absurd hc (yQ h),fun _=>rfl⟩) fun ρ' w' B U D hC hg=>zH rfl en41 (ce (v:=(i shown)) (gdy (D 7 rfl) ⟨hC,hg⟩) (ce (v:=(i (-5000))) rfl (ce (v:=(i 5000)) rfl cn))) (c41 shown (-5000) 5000 _ ) (fun u w2 k2 hu=>⟨k2,⟨fun _=>hu,fun n=>absurd ⟨hC,hg⟩ n⟩⟩)
    · exact Ob.q rfl (fun _ _ B U D=>(zQ (v:=(.bool qq5)) (D 5 rfl) (fun eP=>(gdy (D 8 rfl) ⟨trivial,eP⟩).trans (yF eP)) (fun eP=>yE eP))) rfl rfl
    · exact Ob.q rfl (fun _ _ B U D=>(zB (D 9 rfl))) rfl rfl
    · exact Ob.g0 rfl rfl (fun _ _ _ D=>D 10 rfl) rfl (fun _ _ B U D hC hg=>(zA fo33_2 (show (_:Value)=(p b1 0) from U 2 rfl) rfl)) rfl
    · exact Ob.g0 rfl rfl (fun _ _ _ D=>D 10 rfl) rfl (fun _ _ B U D hC hg=>(zE zM (gdy (D 11 rfl) ⟨hC,hg⟩) (B.cells 0 rfl) (j:=2) rfl rfl)) rfl
    · exact Ob.gd (C:=True) (g:=qq5) rfl rfl (fun ρ' w' U D=>⟨fun _=>(D 10 rfl),fun h=>absurd trivial h⟩) (fun _ h=>⟨fun hc=>absurd hc (yQ h),fun _=>rfl⟩) fun ρ' w' B U D hC hg=>zH rfl en41 (ce (v:=(i err)) (gdy (D 12 rfl) ⟨hC,hg⟩) (ce (v:=(i 0)) rfl (ce (v:=(i 20)) rfl cn))) (c41 err 0 20 _ ) (fun u w2 k2 hu=>⟨k2,⟨fun _=>hu,fun n=>absurd ⟨hC,hg⟩ n⟩⟩)
    · exact Ob.q rfl (fun _ _ B U D=>(zQ (v:=(.bool qq7)) (D 10 rfl) (fun eP=>(gdy (D 13 rfl) ⟨trivial,eP⟩).trans (yF eP)) (fun eP=>yE eP))) rfl rfl
    · exact Ob.q rfl (fun _ _ B U D=>(zB (D 14 rfl))) rfl rfl
    · exact Ob.g0 rfl rfl (fun _ _ _ D=>D 15 rfl) rfl (fun _ _ B U D hC hg=>(zA fo33_3 (show (_:Value)=(p b1 0) from U 2 rfl) rfl)) rfl
    · exact Ob.g0 rfl rfl (fun _ _ _ D=>D 15 rfl) rfl (fun _ _ B U D hC hg=>(zE zM (gdy (D 16 rfl) ⟨hC,hg⟩) (B.cells 0 rfl) (j:=3) rfl rfl)) rfl
    · exact Ob.gd (C:=True) (g:=qq7) rfl rfl (fun ρ' w' U D=>⟨fun _=>(D 15 rfl),fun h=>absurd trivial h⟩) (fun _ h=>⟨fun hc=>absurd hc (yQ h),fun _=>rfl⟩) fun ρ' w' B U D hC hg=>zH rfl en41 (ce (v:=(i bare)) (gdy (D 17 rfl) ⟨hC,hg⟩) (ce (v:=(i 0)) rfl (ce (v:=(i 300)) rfl cn))) (c41 bare 0 300 _ ) (fun u w2 k2 hu=>⟨k2,⟨fun _=>hu,fun n=>absurd ⟨hC,hg⟩ n⟩⟩)
    · exact Ob.q rfl (fun _ _ B U D=>(zQ (v:=(.bool qq9)) (D 15 rfl) (fun eP=>(gdy (D 18 rfl) ⟨trivial,eP⟩).trans (yF eP)) (fun eP=>yE eP))) rfl rfl
    · exact Ob.q rfl (fun _ _ B U D=>(zB (D 19 rfl))) rfl rfl
    · exact Ob.g0 rfl rfl (fun _ _ _ D=>D 20 rfl) rfl (fun _ _ B U D hC hg=>(zA fo33_4 (show (_:Value)=(p b1 0) from U 2 rfl) rfl)) rfl
    · exact Ob.g0 rfl rfl (fun _ _ _ D=>D 20 rfl) rfl (fun _ _ B U D hC hg=>(zJ ta25 (gdy (D 21 rfl) ⟨hC,hg⟩) (B.cells 0 rfl) (j:=4) rfl (vs:=[i alo,i ahi]) rfl rfl)) rfl
    · exact Ob.gd (C:=True) (g:=qq9) rfl rfl (fun ρ' w' U D=>⟨fun _=>(D 20 rfl),fun h=>absurd trivial h⟩) (fun _ h=>⟨fun hc=>absurd hc (yQ h),fun _=>rfl⟩) fun ρ' w' B U D hC hg=>zH rfl en79 (ce (v:=(.agg #[(i alo),(i ahi)])) (gdy (D 22 rfl) ⟨hC,hg⟩) (ce (v:=(i (-100))) rfl (ce (v:=(i 100)) rfl cn))) (c79 alo ahi (-100) 100 _ ) (fun u w2 k2 hu=>⟨k2,⟨fun _=>hu,fun n=>absurd ⟨hC,hg⟩ n⟩⟩)
    · exact Ob.q rfl (fun _ _ B U D=>(zQ (v:=(.bool qq11)) (D 20 rfl) (fun eP=>(gdy (D 23 rfl) ⟨trivial,eP⟩).trans (yF eP)) (fun eP=>yE eP))) rfl rfl
    · exact Ob.q rfl (fun _ _ B U D=>(zB (D 24 rfl))) rfl rfl
    · exact Ob.g0 rfl rfl (fun _ _ _ D=>D 25 rfl) rfl (fun _ _ B U D hC hg=>(zA fo33_5 (show (_:Value)=(p b1 0) from U 2 rfl) rfl)) rfl
    · exact Ob.g0 rfl rfl (fun _ _ _ D=>D 25 rfl) rfl (fun _ _ B U D hC hg=>(zJ ta25 (gdy (D 26 rfl) ⟨hC,hg⟩) (B.cells 0 rfl) (j:=6) rfl (vs:=[i rlo,i rhi]) rfl rfl)) rfl
    · exact Ob.gd (C:=True) (g:=qq11) rfl rfl (fun ρ' w' U D=>⟨fun _=>(D 25 rfl),fun h=>absurd trivial h⟩) (fun _ h=>⟨fun hc=>absurd hc (yQ h),fun _=>rfl⟩) fun ρ' w' B U D hC hg=>zH rfl en79 (ce (v:=(.agg #[(i rlo),(i rhi)])) (gdy (D 27 rfl) ⟨hC,hg⟩) (ce (v:=(i (-20))) rfl (ce (v:=(i 20)) rfl cn))) (c79 rlo rhi (-20) 20 _ ) (fun u w2 k2 hu=>⟨k2,⟨fun _=>hu,fun n=>absurd ⟨hC,hg⟩ n⟩⟩)
    · exact Ob.q rfl (fun _ _ B U D=>(zQ (v:=(.bool qq13)) (D 25 rfl) (fun eP=>(gdy (D 28 rfl) ⟨trivial,eP⟩).trans (yF eP)) (fun eP=>yE eP))) rfl rfl
    · exact Ob.q rfl (fun _ _ B U D=>(zB (D 29 rfl))) rfl rfl
    · exact Ob.g0 rfl rfl (fun _ _ _ D=>D 30 rfl) rfl (fun _ _ B U D hC hg=>(zA fo33_6 (show (_:Value)=(p b1 0) from U 2 rfl) rfl)) rfl
    · exact Ob.g0 rfl rfl (fun _ _ _ D=>D 30 rfl) rfl (fun _ _ B U D hC hg=>(zE zM (gdy (D 31 rfl) ⟨hC,hg⟩) (B.cells 0 rfl) (j:=8) rfl rfl)) rfl
    · exact Ob.gd (C:=True) (g:=qq13) rfl rfl (fun ρ' w' U D=>⟨fun _=>(D 30 rfl),fun h=>absurd trivial h⟩) (fun _ h=>⟨fun hc=>absurd hc (yQ h),fun _=>rfl⟩) fun ρ' w' B U D hC hg=>zH rfl en41 (ce (v:=(i deep)) (gdy (D 32 rfl) ⟨hC,hg⟩) (ce (v:=(i 0)) rfl (ce (v:=(i 20)) rfl cn))) (c41 deep 0 20 _ ) (fun u w2 k2 hu=>⟨k2,⟨fun _=>hu,fun n=>absurd ⟨hC,hg⟩ n⟩⟩)
    · exact Ob.q rfl (fun _ _ B U D=>(zQ (v:=(.bool qq15)) (D 30 rfl) (fun eP=>(gdy (D 33 rfl) ⟨trivial,eP⟩).trans (yF eP)) (fun eP=>yE eP))) rfl rfl
    · exact Ob.q rfl (fun _ _ B U D=>(zD (D 34 rfl))) rfl rfl
  intro ρ16 w17 k18 U19 D20;replace H:=H.ext k18
  have f21:ρ16 4=(.bool qq15):=D20 35 rfl
  clear U19 D20 k18
  refine Ro.nil (nT (Wp.ret (zN ?_)))
  refine zI (v:=(.bool (((((((decide (0≤day) && decide (day≤(days-1))) && (decide ((-5000)≤shown) && decide (shown≤5000))) && (decide (0≤err) && decide (err≤20))) && (decide (0≤bare) && decide (bare≤300))) && ((decide ((-100)≤alo) && decide (alo≤ahi)) && decide (ahi≤100))) && ((decide ((-20)≤rlo) && decide (rlo≤rhi)) && decide (rhi≤20))) && (decide (0≤deep) && decide (deep≤20))))) Tryz.results33 f21 ⟨H.keep,?_⟩
  rfl
end Go.Proofs.YthfnjppieihcfaaGreat
namespace Go.Proofs.YthfnjppieihcfaaGreat
open Go.RowKit Go.Proofs Go.Mw
theorem en104:Go.Proofs.Enters Tryz.prog 104:=Go.Proofs.enters_of Tryz.func104 (by kernel_rfl) rfl
theorem en123:Go.Proofs.Enters Tryz.prog 123:=Go.Proofs.enters_of Tryz.func123 (by kernel_rfl) rfl
theorem en127:Go.Proofs.Enters Tryz.prog 127:=Go.Proofs.enters_of Tryz.func127 (by kernel_rfl) rfl
theorem en44:Go.Proofs.Enters Tryz.prog 44:=Go.Proofs.enters_of Tryz.func44 (by kernel_rfl) rfl
theorem en95:Go.Proofs.Enters Tryz.prog 95:=Go.Proofs.enters_of Tryz.func95 (by kernel_rfl) rfl
theorem fo159_0:FO Tryz.prog 159 0 0:=fun _ _ _=>by kernel_rfl
theorem fo159_1:FO Tryz.prog 159 1 1:=fun _ _ _=>by kernel_rfl
theorem fo163_0:FO Tryz.prog 163 0 0:=fun _ _ _=>by kernel_rfl
theorem fo163_1:FO Tryz.prog 163 1 1:=fun _ _ _=>by kernel_rfl
theorem fo27_1:FO Tryz.prog 27 1 1:=fun _ _ _=>by kernel_rfl
theorem fo27_2:FO Tryz.prog 27 2 2:=fun _ _ _=>by kernel_rfl
theorem fo91_0:FO Tryz.prog 91 0 0:=fun _ _ _=>by kernel_rfl
theorem t1_22:T1 Tryz.prog 22:=⟨Tryz.isAgg22,fun _=>by kernel_rfl⟩
theorem t1_23:T1 Tryz.prog 23:=⟨Tryz.isAgg23,fun _=>by kernel_rfl⟩
theorem ta91:TA Tryz.prog 91 3:=⟨Tryz.isAgg91,fun _=>by kernel_rfl⟩
theorem ts22:TS Tryz.prog 22 3:=⟨_,Tryz.underlying22,fun _=>by kernel_rfl⟩
theorem ts23:TS Tryz.prog 23 2:=⟨_,Tryz.underlying23,fun _=>by kernel_rfl⟩
theorem ts30:TS Tryz.prog 30 2:=⟨_,Tryz.underlying30,fun _=>by kernel_rfl⟩
theorem ts31:TS Tryz.prog 31 3:=⟨_,Tryz.underlying31,fun _=>by kernel_rfl⟩
open Men
theorem creepOf_step {bs:List Band} {n day:Int} {e:Band} (h0:0≤n) (he:bs[n.toNat]? = some e):zL (bs.take (n+1).toNat) day=if e.frm≤day then e.creep else zL (bs.take n.toNat) day:=fold_take h0 he
theorem creepOf_end {bs:List Band} {n day:Int} (hn:bs.length≤n):zL (bs.take n.toNat) day=zL bs day:=fold_end hn
theorem sinksOf_step {bs:List Depth} {n heat:Int} {e:Depth} (h0:0≤n) (he:bs[n.toNat]? = some e):zV (bs.take (n+1).toNat) heat=if e.frm≤heat then e.sink else zV (bs.take n.toNat) heat:=fold_take h0 he
theorem sinksOf_end {bs:List Depth} {n heat:Int} (hn:bs.length≤n):zV (bs.take n.toNat) heat=zV bs heat:=fold_end hn
theorem c137 (base:Int) (blo:Int) (bhi:Int) (day:Int) (ab:Option Addr) (bs:List Band) (cab:Nat) (ad:Option Addr) (dl:List Depth) (cad:Nat) (w:World) (hab:Sl w 3 (bs.map yH) ab) (had:Sl w 2 (dl.map zZ) ad) (hbs:bs.length≤3):Rv Tryz.prog 137 [(.agg #[(i base),(.slice ab bs.length cab),(.slice ad dl.length cad),(i blo),(i bhi)]),(i day)] w (.agg #[(i ((zL bs day).lo)),(i ((zL bs day).hi))]):=by
  refine Ret.body (N:=22) Tryz.func137 rfl Tryz.ntmps137 rfl ?_
  have H:=S.start Nm w
  refine Wp.seq (Wp.region ?_)
  refine Ro.d rfl rfl rfl (H.box (l:=[i base,.slice ab bs.length cab,.slice ad dl.length cad,i blo,i bhi]) rfl (v:=(.agg #[(i base),(.slice ab bs.length cab),(.slice ad dl.length cad),(i blo),(i bhi)])) rfl rfl ?_)
  intro b1 w2 Hn;replace H:=Hn;clear Hn
  refine Ro.d rfl rfl rfl (H.new (l:=[i 0,i 0]) rfl zv41 rfl ?_)
  intro b3 w4 Hn;replace H:=Hn;clear Hn
  refine Ro.nil (nT (Wp.seq (Wp.seq (Wp.region ?_))))
  refine Ro.q (v:=(p b1 1)) rfl rfl (zA fo43_1 rfl rfl) rfl ?_
  refine Ro.q rfl rfl (zE t1_39 rfl (H.cells 1 rfl) (j:=1) rfl rfl) rfl ?_
  refine Ro.q rfl rfl (yG Tryz.underlying39 rfl (v:=bs.length) rfl) rfl ?_
  refine Ro.q (v:=(i 0)) rfl rfl (zB rfl) rfl ?_
  refine Ro.nil (nT (Wp.block ?_))
  refine Wp.loop (fun kM ds ρ w'=>∃ n:Int,∃ rlo:Int,∃ rhi:Int,ds=[]∧(0≤n∧n≤bs.length)∧kM=((bs.length:Int)-n).toNat∧ρ 1=(i day)∧ρ 4=(p b3 0)∧ρ 8=(.slice ab bs.length cab)∧ρ 9=(i ((bs.length:Nat):Int))∧ρ 10=(i n)∧S Nm w [(b3,.cells [i rlo,i rhi].toArray 41 (0,0)),(b1,.cells [i base,.slice ab bs.length cab,.slice ad dl.length cad,i blo,i bhi].toArray 43 (0,0))] w'∧((⟨rlo,rhi⟩:Rg)=zL (bs.take n.toNat) day)) (((bs.length:Int)-0).toNat) ⟨0,0,0,rfl,(by omega),rfl,rfl,rfl,rfl,rfl,rfl,H,(by simp [zL])⟩ ?_
  clear H
  intro kρ10 dsρ10 ρ10 w11
  rintro ⟨n,rlo,rhi,rfl,hb13,hk12,f5,f6,f7,f8,f9,H,hi14⟩
  refine Wp.seq (Wp.region ?_)
  refine Ro.q rfl rfl (yB f9 f8) rfl ?_
  refine Ro.nil (nT (Wp.seq ?_))
  refine Wp.cond (t:=decide (n<((bs.length:Nat):Int))) rfl ?_ ?_
  · intro c15
    have c15r:=c15
    simp only [bx] at c15
    obtain ⟨e,he⟩:=vQ bs n (by omega) (by omega)
    refine Wp.skip (nT (Wp.seq (Wp.block (Wp.seq (Wp.region ?_)))))
    refine Ro.q rfl rfl (zY ts39 (hab.ext H.keep) f7 (by simp) f9 (by omega) (zW he)) rfl ?_
    refine Ro.q rfl rfl (zJ ta161 rfl ((hab.ext H.keep).cells (zW he)) (j:=0) rfl (vs:=[i e.frm,i e.creep.lo,i e.creep.hi]) rfl rfl) rfl ?_
    refine Ro.d rfl rfl rfl (H.new (l:=[i 0,i 0,i 0]) rfl zv161 rfl ?_)
    intro b16 w17 Hn;replace H:=Hn;clear Hn
    refine Ro.d0 rfl rfl rfl (H.store (j:=0) (off:=0) (k:=3) rfl sz161 rfl (v:=(.agg #[(i e.frm),(i e.creep.lo),(i e.creep.hi)])) rfl rfl rfl rfl rfl (by simp [Value.oneCell']) (cs':=[i e.frm,i e.creep.lo,i e.creep.hi]) rfl ?_)
    intro w18 Hn;replace H:=Hn;clear Hn
    refine Ro.nil (nT (Wp.seq (Wp.region ?_)))
    refine Ro.q (v:=(p b16 0)) rfl rfl (zA fo161_0 rfl rfl) rfl ?_
    refine Ro.q rfl rfl (zE zM rfl (H.cells 0 rfl) (j:=0) rfl rfl) rfl ?_
    refine Ro.q (v:=(i day)) rfl rfl (zB f5) rfl ?_
    refine Ro.q rfl rfl (vD rfl rfl) rfl ?_
    refine Ro.nil (nT ?_)
    refine Wp.cond (t:=decide (e.frm≤day)) rfl ?_ ?_
    · intro c19
      have c19r:=c19
      simp only [bx] at c19
      refine Wp.region ?_
      refine Ro.q (v:=(p b16 1)) rfl rfl (zA fo161_1 rfl rfl) rfl ?_
      refine Ro.q rfl rfl (zJ vL rfl (H.cells 0 rfl) (j:=1) rfl (vs:=[i e.creep.lo,i e.creep.hi]) rfl rfl) rfl ?_
      refine Ro.d0 rfl rfl rfl (H.store (j:=1) (off:=0) (k:=2) rfl sz41 f6 (v:=(.agg #[(i e.creep.lo),(i e.creep.hi)])) rfl rfl rfl rfl rfl (by simp [Value.oneCell']) (cs':=[i e.creep.lo,i e.creep.hi]) rfl ?_)
      intro w20 Hn;replace H:=Hn;clear Hn
      refine Ro.nil (nB (nT (Wp.region ?_)))
      refine Ro.q rfl rfl (zU f9 rfl (by constructor <;>omega)) rfl ?_
      refine Ro.q (v:=(i (n+1))) rfl rfl (zB rfl) rfl ?_
      refine Ro.nil (nT ?_)
      exact ⟨((bs.length:Int)-(n+1)).toNat,by omega,(n+1),e.creep.lo,e.creep.hi,rfl,(by omega),rfl,f5,f6,f7,f8,rfl,(H.drop 1),(by rw [creepOf_step (by omega) he,if_pos (by omega)])⟩
    intro c19
    have c19r:=c19
    simp only [bx] at c19
    refine Wp.skip (nB (nT (Wp.region ?_)))
    refine Ro.q rfl rfl (zU f9 rfl (by constructor <;>omega)) rfl ?_
    refine Ro.q (v:=(i (n+1))) rfl rfl (zB rfl) rfl ?_
    refine Ro.nil (nT ?_)
    exact ⟨((bs.length:Int)-(n+1)).toNat,by omega,(n+1),rlo,rhi,rfl,(by omega),rfl,f5,f6,f7,f8,rfl,(H.drop 1),(by rw [creepOf_step (by omega) he,if_neg (by omega)];exact hi14)⟩
  intro c15
  have c15r:=c15
  simp only [bx] at c15
  refine Wp.exit (xT (xT (xB (nT (Wp.seq (Wp.region ?_))))))
  refine Ro.q rfl rfl (zJ vL f6 (H.cells 0 rfl) (j:=0) rfl (vs:=[i rlo,i rhi]) rfl rfl) rfl ?_
  refine Ro.d0 rfl rfl rfl (H.store (j:=0) (off:=0) (k:=2) rfl sz41 f6 (v:=(.agg #[(i rlo),(i rhi)])) rfl rfl rfl rfl rfl (by simp [Value.oneCell']) (cs':=[i rlo,i rhi]) rfl ?_)
  intro w21 Hn;replace H:=Hn;clear Hn
  refine Ro.nil (nT (Wp.ret (zN ?_)))
  refine yW (vs:=[i rlo,i rhi]) Tryz.results137 f6 vL (H.cells 0 rfl) rfl ⟨H.keep,?_⟩
  have hz:=creepOf_end (bs:=bs) (day:=day) (n:=n) (by omega)
  rw [← hi14] at hz
  rw [← hz]
theorem c94 (base:Int) (blo:Int) (bhi:Int) (heat:Int) (ab:Option Addr) (bs:List Band) (cab:Nat) (ad:Option Addr) (dl:List Depth) (cad:Nat) (w:World) (hab:Sl w 3 (bs.map yH) ab) (had:Sl w 2 (dl.map zZ) ad) (hbs:dl.length≤4):Rv Tryz.prog 94 [(.agg #[(i base),(.slice ab bs.length cab),(.slice ad dl.length cad),(i blo),(i bhi)]),(i heat)] w (i (zV dl heat)):=by
  refine Ret.body (N:=29) Tryz.func94 rfl Tryz.ntmps94 rfl ?_
  have H:=S.start Nm w
  refine Wp.seq (Wp.region ?_)
  refine Ro.d rfl rfl rfl (H.box (l:=[i base,.slice ab bs.length cab,.slice ad dl.length cad,i blo,i bhi]) rfl (v:=(.agg #[(i base),(.slice ab bs.length cab),(.slice ad dl.length cad),(i blo),(i bhi)])) rfl rfl ?_)
  intro b1 w2 Hn;replace H:=Hn;clear Hn
  refine Ro.q (v:=(i 0)) rfl rfl (zD rfl) rfl ?_
  refine Ro.nil (nT (Wp.seq (Wp.region ?_)))
  refine Ro.q (v:=(i 0)) rfl rfl (zD rfl) rfl ?_
  refine Ro.nil (nT (Wp.seq (Wp.seq (Wp.region ?_))))
  refine Ro.q (v:=(i 0)) rfl rfl (zD rfl) rfl ?_
  refine Ro.nil (nT (Wp.block ?_))
  refine Wp.loop (fun kM ds ρ w'=>∃ n:Int,∃ r:Int,ds=[]∧(0≤n∧n≤dl.length)∧kM=((dl.length:Int)-n).toNat∧ρ 1=(i heat)∧ρ 2=(p b1 0)∧ρ 4=(i 0)∧ρ 6=(i n)∧ρ 5=(i r)∧S Nm w [(b1,.cells [i base,.slice ab bs.length cab,.slice ad dl.length cad,i blo,i bhi].toArray 27 (0,0))] w'∧(r=zV (dl.take n.toNat) heat)) (((dl.length:Int)-0).toNat) ⟨0,0,rfl,(by omega),rfl,rfl,rfl,rfl,rfl,rfl,H,(by simp [zV])⟩ ?_
  clear H
  intro kρ8 dsρ8 ρ8 w9
  rintro ⟨n,r,rfl,hb11,hk10,f3,f4,f5,f6,f7,H,hi12⟩
  refine Wp.seq (Wp.seq (Wp.region ?_))
  refine Ro.q (v:=(i n)) rfl rfl (zB f6) rfl ?_
  refine Ro.q (v:=(p b1 2)) rfl rfl (zA fo27_2 f4 rfl) rfl ?_
  refine Ro.q rfl rfl (zE t1_23 rfl (H.cells 0 rfl) (j:=2) rfl rfl) rfl ?_
  refine Ro.q rfl rfl (yG Tryz.underlying23 rfl (v:=dl.length) rfl) rfl ?_
  refine Ro.q rfl rfl (yB rfl rfl) rfl ?_
  refine Ro.nil (nT ?_)
  refine Wp.cond (t:=decide (n<((dl.length:Nat):Int))) rfl ?_ ?_
  · intro c13
    have c13r:=c13
    simp only [bx] at c13
    obtain ⟨e,he⟩:=vQ dl n (by omega) (by omega)
    refine Wp.skip (nT (Wp.seq (Wp.block (Wp.seq (Wp.region ?_)))))
    refine Ro.q (v:=(p b1 2)) rfl rfl (zA fo27_2 f4 rfl) rfl ?_
    refine Ro.q rfl rfl (zE t1_23 rfl (H.cells 0 rfl) (j:=2) rfl rfl) rfl ?_
    refine Ro.q (v:=(i n)) rfl rfl (zB f6) rfl ?_
    refine Ro.q rfl rfl (zY ts23 (had.ext H.keep) rfl (by simp) rfl (by omega) (zW he)) rfl ?_
    refine Ro.q (v:=(p (blk ad) (yP ad+n.toNat*2))) rfl rfl (zA fo163_0 rfl rfl) rfl ?_
    refine Ro.q rfl rfl (zE zM rfl ((had.ext H.keep).cells (zW he)) (j:=0) rfl rfl) rfl ?_
    refine Ro.q (v:=(i heat)) rfl rfl (zB f3) rfl ?_
    refine Ro.q rfl rfl (vD rfl rfl) rfl ?_
    refine Ro.nil (nT ?_)
    refine Wp.cond (t:=decide (e.frm≤heat)) rfl ?_ ?_
    · intro c14
      have c14r:=c14
      simp only [bx] at c14
      refine Wp.region ?_
      refine Ro.q (v:=(p b1 2)) rfl rfl (zA fo27_2 f4 rfl) rfl ?_
      refine Ro.q rfl rfl (zE t1_23 rfl (H.cells 0 rfl) (j:=2) rfl rfl) rfl ?_
      refine Ro.q (v:=(i n)) rfl rfl (zB f6) rfl ?_
      refine Ro.q rfl rfl (zY ts23 (had.ext H.keep) rfl (by simp) rfl (by omega) (zW he)) rfl ?_
      refine Ro.q (v:=(p (blk ad) (yP ad+n.toNat*2+1))) rfl rfl (zA fo163_1 rfl rfl) rfl ?_
      refine Ro.q rfl rfl (zE zM rfl ((had.ext H.keep).cells (zW he)) (j:=1) rfl rfl) rfl ?_
      refine Ro.q (v:=(i e.sink)) rfl rfl (zD rfl) rfl ?_
      refine Ro.nil (nB (nT (Wp.region ?_)))
      refine Ro.q (v:=(i n)) rfl rfl (zB f6) rfl ?_
      refine Ro.q rfl rfl (zU rfl rfl (by constructor <;>omega)) rfl ?_
      refine Ro.q (v:=(i (n+1))) rfl rfl (zD rfl) rfl ?_
      refine Ro.nil (nT ?_)
      exact ⟨((dl.length:Int)-(n+1)).toNat,by omega,(n+1),e.sink,rfl,(by omega),rfl,f3,f4,f5,rfl,rfl,H,(by rw [sinksOf_step (by omega) he,if_pos (by omega)])⟩
    intro c14
    have c14r:=c14
    simp only [bx] at c14
    refine Wp.skip (nB (nT (Wp.region ?_)))
    refine Ro.q (v:=(i n)) rfl rfl (zB f6) rfl ?_
    refine Ro.q rfl rfl (zU rfl rfl (by constructor <;>omega)) rfl ?_
    refine Ro.q (v:=(i (n+1))) rfl rfl (zD rfl) rfl ?_
    refine Ro.nil (nT ?_)
    exact ⟨((dl.length:Int)-(n+1)).toNat,by omega,(n+1),r,rfl,(by omega),rfl,f3,f4,f5,rfl,f7,H,(by rw [sinksOf_step (by omega) he,if_neg (by omega)];exact hi12)⟩
  intro c13
  have c13r:=c13
  simp only [bx] at c13
  refine Wp.exit (xT (xT (xB (nT (Wp.seq (Wp.region ?_))))))
  refine Ro.q (v:=(i r)) rfl rfl (zB f7) rfl ?_
  refine Ro.q (v:=(i r)) rfl rfl (zD rfl) rfl ?_
  refine Ro.nil (nT (Wp.ret (zN ?_)))
  refine zI (v:=(i r)) Tryz.results94 rfl ⟨H.keep,?_⟩
  have hz:=sinksOf_end (bs:=dl) (heat:=heat) (n:=n) (by omega)
  rw [← hi12] at hz
  rw [← hz]
theorem c95 (n:Int) (a:Option Addr) (xs:List Int) (ca:Nat) (w:World) (ha:Sl w 1 (xs.map yD) a) (hl:xs.length≤4611686018427387904):Rv Tryz.prog 95 [(.slice a xs.length ca),(i n)] w (.bool (hasB xs n)):=by
  refine Ret.body (N:=18) Tryz.func95 rfl Tryz.ntmps95 rfl ?_
  have H:=S.start Nm w
  refine Wp.seq (Wp.region ?_)
  refine Ro.q (v:=(.bool false)) rfl rfl (zD rfl) rfl ?_
  refine Ro.nil (nT (Wp.seq (Wp.seq (Wp.region ?_))))
  refine Ro.q (v:=(i 0)) rfl rfl (zD rfl) rfl ?_
  refine Ro.nil (nT (Wp.block ?_))
  refine Wp.loop (fun kM ds ρ w'=>∃ j:Int,ds=[]∧(0≤j∧j≤xs.length)∧kM=((xs.length:Int)-j).toNat∧ρ 0=(.slice a xs.length ca)∧ρ 1=(i n)∧ρ 5=(i j)∧S Nm w [] w'∧((xs.take j.toNat).any (fun x=>decide (x=n))=false)) (((xs.length:Int)-0).toNat) ⟨0,rfl,(by omega),rfl,rfl,rfl,rfl,H,(by simp)⟩ ?_
  clear H
  intro kρ4 dsρ4 ρ4 w5
  rintro ⟨j,rfl,hb7,hk6,f1,f2,f3,H,hi8⟩
  refine Wp.seq (Wp.seq (Wp.region ?_))
  refine Ro.q (v:=(i j)) rfl rfl (zB f3) rfl ?_
  refine Ro.q (v:=(.slice a xs.length ca)) rfl rfl (zB f1) rfl ?_
  refine Ro.q rfl rfl (yG Tryz.underlying72 rfl (v:=xs.length) rfl) rfl ?_
  refine Ro.q rfl rfl (yB rfl rfl) rfl ?_
  refine Ro.nil (nT ?_)
  refine Wp.cond (t:=decide (j<((xs.length:Nat):Int))) rfl ?_ ?_
  · intro c9
    have c9r:=c9
    simp only [bx] at c9
    obtain ⟨e,he⟩:=vQ xs j (by omega) (by omega)
    refine Wp.skip (nT (Wp.seq (Wp.block (Wp.seq (Wp.region ?_)))))
    refine Ro.q (v:=(.slice a xs.length ca)) rfl rfl (zB f1) rfl ?_
    refine Ro.q (v:=(i j)) rfl rfl (zB f3) rfl ?_
    refine Ro.q rfl rfl (zY ts72 (ha.ext H.keep) rfl (by simp) rfl (by omega) (zW he)) rfl ?_
    refine Ro.q rfl rfl (zE zM rfl ((ha.ext H.keep).cells (zW he)) (j:=0) rfl rfl) rfl ?_
    refine Ro.q (v:=(i n)) rfl rfl (zB f2) rfl ?_
    refine Ro.q rfl rfl (vR rfl rfl) rfl ?_
    refine Ro.nil (nT ?_)
    refine Wp.cond (t:=decide (e=n)) rfl ?_ ?_
    · intro c10
      have c10r:=c10
      simp only [bx] at c10
      refine Wp.seq (Wp.region ?_)
      refine Ro.q (v:=(.bool true)) rfl rfl (zD rfl) rfl ?_
      refine Ro.nil (nT (Wp.ret (rB (rT (rT (rB (rT (zN ?_))))))))
      refine zI (v:=(.bool true)) Tryz.results95 rfl ⟨H.keep,?_⟩
      exact congrArg Value.bool (any_good he (decide_eq_true (by omega))).symm
    intro c10
    have c10r:=c10
    simp only [bx] at c10
    refine Wp.skip (nB (nT (Wp.region ?_)))
    refine Ro.q (v:=(i j)) rfl rfl (zB f3) rfl ?_
    refine Ro.q rfl rfl (zU rfl rfl (by constructor <;>omega)) rfl ?_
    refine Ro.q (v:=(i (j+1))) rfl rfl (zD rfl) rfl ?_
    refine Ro.nil (nT ?_)
    exact ⟨((xs.length:Int)-(j+1)).toNat,by omega,(j+1),rfl,(by omega),rfl,f1,f2,rfl,H,(any_take (by omega) he hi8 (decide_eq_false (by omega)))⟩
  intro c9
  have c9r:=c9
  simp only [bx] at c9
  refine Wp.exit (xT (xT (xB (nT (Wp.seq (Wp.region ?_))))))
  refine Ro.q (v:=(.bool false)) rfl rfl (zD rfl) rfl ?_
  refine Ro.nil (nT (Wp.ret (zN ?_)))
  refine zI (v:=(.bool false)) Tryz.results95 rfl ⟨H.keep,?_⟩
  exact congrArg Value.bool (any_end (by omega) hi8).symm
theorem Sl.nil' {w:World} {k:Nat} {xs:List (List Value)} (h:xs=[]):Sl w k xs none:=by subst h;intro j x hx;simp at hx
theorem c64 (base:Int) (blo:Int) (bhi:Int) (day:Int) (ab:Option Addr) (bs:List Band) (cab:Nat) (ad:Option Addr) (dl:List Depth) (cad:Nat) (w:World) (hab:Sl w 3 (bs.map yH) ab) (had:Sl w 2 (dl.map zZ) ad) (hbs:bs.length≤3):Rv Tryz.prog 64 [(.agg #[(i base),(.slice ab bs.length cab),(.slice ad dl.length cad),(i blo),(i bhi)]),(i day)] w (.agg #[(i ((zL bs day).lo)),(i ((zL bs day).hi))]):=by
  refine Ret.body (N:=29) Tryz.func64 rfl Tryz.ntmps64 rfl ?_
  have H:=S.start Nm w
  refine Wp.seq (Wp.region ?_)
  refine Ro.d rfl rfl rfl (H.box (l:=[i base,.slice ab bs.length cab,.slice ad dl.length cad,i blo,i bhi]) rfl (v:=(.agg #[(i base),(.slice ab bs.length cab),(.slice ad dl.length cad),(i blo),(i bhi)])) rfl rfl ?_)
  intro b1 w2 Hn;replace H:=Hn;clear Hn
  refine Ro.d rfl rfl rfl (H.new (l:=[i 0,i 0]) rfl zv25 rfl ?_)
  intro b3 w4 Hn;replace H:=Hn;clear Hn
  refine Ro.nil (nT (Wp.seq (Wp.region ?_)))
  refine Ro.d rfl rfl rfl (H.new (l:=[i 0,i 0]) rfl zv25 rfl ?_)
  intro b5 w6 Hn;replace H:=Hn;clear Hn
  refine Ro.nil (nT (Wp.seq (Wp.seq (Wp.region ?_))))
  refine Ro.q (v:=(i 0)) rfl rfl (zD rfl) rfl ?_
  refine Ro.nil (nT (Wp.block ?_))
  refine Wp.loop (fun kM ds ρ w'=>∃ n:Int,∃ rlo:Int,∃ rhi:Int,ds=[]∧(0≤n∧n≤bs.length)∧kM=((bs.length:Int)-n).toNat∧ρ 1=(i day)∧ρ 2=(p b1 0)∧ρ 4=(p b3 0)∧ρ 5=(p b5 0)∧ρ 6=(i n)∧S Nm w [(b5,.cells [i rlo,i rhi].toArray 25 (0,0)),(b3,.cells [i 0,i 0].toArray 25 (0,0)),(b1,.cells [i base,.slice ab bs.length cab,.slice ad dl.length cad,i blo,i bhi].toArray 27 (0,0))] w'∧((⟨rlo,rhi⟩:Rg)=zL (bs.take n.toNat) day)) (((bs.length:Int)-0).toNat) ⟨0,0,0,rfl,(by omega),rfl,rfl,rfl,rfl,rfl,rfl,H,(by simp [zL])⟩ ?_
  clear H
  intro kρ12 dsρ12 ρ12 w13
  rintro ⟨n,rlo,rhi,rfl,hb15,hk14,f7,f8,f9,f10,f11,H,hi16⟩
  refine Wp.seq (Wp.seq (Wp.region ?_))
  refine Ro.q (v:=(i n)) rfl rfl (zB f11) rfl ?_
  refine Ro.q (v:=(p b1 1)) rfl rfl (zA fo27_1 f8 rfl) rfl ?_
  refine Ro.q rfl rfl (zE t1_22 rfl (H.cells 2 rfl) (j:=1) rfl rfl) rfl ?_
  refine Ro.q rfl rfl (yG Tryz.underlying22 rfl (v:=bs.length) rfl) rfl ?_
  refine Ro.q rfl rfl (yB rfl rfl) rfl ?_
  refine Ro.nil (nT ?_)
  refine Wp.cond (t:=decide (n<((bs.length:Nat):Int))) rfl ?_ ?_
  · intro c17
    have c17r:=c17
    simp only [bx] at c17
    obtain ⟨e,he⟩:=vQ bs n (by omega) (by omega)
    refine Wp.skip (nT (Wp.seq (Wp.block (Wp.seq (Wp.region ?_)))))
    refine Ro.q (v:=(p b1 1)) rfl rfl (zA fo27_1 f8 rfl) rfl ?_
    refine Ro.q rfl rfl (zE t1_22 rfl (H.cells 2 rfl) (j:=1) rfl rfl) rfl ?_
    refine Ro.q (v:=(i n)) rfl rfl (zB f11) rfl ?_
    refine Ro.q rfl rfl (zY ts22 (hab.ext H.keep) rfl (by simp) rfl (by omega) (zW he)) rfl ?_
    refine Ro.q (v:=(p (blk ab) (yP ab+n.toNat*3))) rfl rfl (zA fo159_0 rfl rfl) rfl ?_
    refine Ro.q rfl rfl (zE zM rfl ((hab.ext H.keep).cells (zW he)) (j:=0) rfl rfl) rfl ?_
    refine Ro.q (v:=(i day)) rfl rfl (zB f7) rfl ?_
    refine Ro.q rfl rfl (vD rfl rfl) rfl ?_
    refine Ro.nil (nT ?_)
    refine Wp.cond (t:=decide (e.frm≤day)) rfl ?_ ?_
    · intro c18
      have c18r:=c18
      simp only [bx] at c18
      refine Wp.region ?_
      refine Ro.q (v:=(p b1 1)) rfl rfl (zA fo27_1 f8 rfl) rfl ?_
      refine Ro.q rfl rfl (zE t1_22 rfl (H.cells 2 rfl) (j:=1) rfl rfl) rfl ?_
      refine Ro.q (v:=(i n)) rfl rfl (zB f11) rfl ?_
      refine Ro.q rfl rfl (zY ts22 (hab.ext H.keep) rfl (by simp) rfl (by omega) (zW he)) rfl ?_
      refine Ro.q (v:=(p (blk ab) (yP ab+n.toNat*3+1))) rfl rfl (zA fo159_1 rfl rfl) rfl ?_
      refine Ro.q rfl rfl (zJ ta25 rfl ((hab.ext H.keep).cells (zW he)) (j:=1) rfl (vs:=[i e.creep.lo,i e.creep.hi]) rfl rfl) rfl ?_
      refine Ro.d0 rfl rfl rfl (H.store (j:=0) (off:=0) (k:=2) rfl sz25 f10 (v:=(.agg #[(i e.creep.lo),(i e.creep.hi)])) rfl rfl rfl rfl rfl (by simp [Value.oneCell']) (cs':=[i e.creep.lo,i e.creep.hi]) rfl ?_)
      intro w19 Hn;replace H:=Hn;clear Hn
      refine Ro.nil (nB (nT (Wp.region ?_)))
      refine Ro.q (v:=(i n)) rfl rfl (zB f11) rfl ?_
      refine Ro.q rfl rfl (zU rfl rfl (by constructor <;>omega)) rfl ?_
      refine Ro.q (v:=(i (n+1))) rfl rfl (zD rfl) rfl ?_
      refine Ro.nil (nT ?_)
      exact ⟨((bs.length:Int)-(n+1)).toNat,by omega,(n+1),e.creep.lo,e.creep.hi,rfl,(by omega),rfl,f7,f8,f9,f10,rfl,H,(by rw [creepOf_step (by omega) he,if_pos (by omega)])⟩
    intro c18
    have c18r:=c18
    simp only [bx] at c18
    refine Wp.skip (nB (nT (Wp.region ?_)))
    refine Ro.q (v:=(i n)) rfl rfl (zB f11) rfl ?_
    refine Ro.q rfl rfl (zU rfl rfl (by constructor <;>omega)) rfl ?_
    refine Ro.q (v:=(i (n+1))) rfl rfl (zD rfl) rfl ?_
    refine Ro.nil (nT ?_)
    exact ⟨((bs.length:Int)-(n+1)).toNat,by omega,(n+1),rlo,rhi,rfl,(by omega),rfl,f7,f8,f9,f10,rfl,H,(by rw [creepOf_step (by omega) he,if_neg (by omega)];exact hi16)⟩
  intro c17
  have c17r:=c17
  simp only [bx] at c17
  refine Wp.exit (xT (xT (xB (nT (Wp.seq (Wp.region ?_))))))
  refine Ro.q rfl rfl (zJ ta25 f10 (H.cells 0 rfl) (j:=0) rfl (vs:=[i rlo,i rhi]) rfl rfl) rfl ?_
  refine Ro.d0 rfl rfl rfl (H.store (j:=1) (off:=0) (k:=2) rfl sz25 f9 (v:=(.agg #[(i rlo),(i rhi)])) rfl rfl rfl rfl rfl (by simp [Value.oneCell']) (cs':=[i rlo,i rhi]) rfl ?_)
  intro w20 Hn;replace H:=Hn;clear Hn
  refine Ro.nil (nT (Wp.ret (zN ?_)))
  refine yW (vs:=[i rlo,i rhi]) Tryz.results64 f9 ta25 (H.cells 1 rfl) rfl ⟨H.keep,?_⟩
  have hz:=creepOf_end (bs:=bs) (day:=day) (n:=n) (by omega)
  rw [← hi16] at hz
  rw [← hz]
theorem c150 (base:Int) (blo:Int) (bhi:Int) (heat:Int) (ab:Option Addr) (bs:List Band) (cab:Nat) (ad:Option Addr) (dl:List Depth) (cad:Nat) (w:World) (hab:Sl w 3 (bs.map yH) ab) (had:Sl w 2 (dl.map zZ) ad) (hbs:dl.length≤4):Rv Tryz.prog 150 [(.agg #[(i base),(.slice ab bs.length cab),(.slice ad dl.length cad),(i blo),(i bhi)]),(i heat)] w (i (zV dl heat)):=by
  refine Ret.body (N:=22) Tryz.func150 rfl Tryz.ntmps150 rfl ?_
  have H:=S.start Nm w
  refine Wp.seq (Wp.region ?_)
  refine Ro.d rfl rfl rfl (H.box (l:=[i base,.slice ab bs.length cab,.slice ad dl.length cad,i blo,i bhi]) rfl (v:=(.agg #[(i base),(.slice ab bs.length cab),(.slice ad dl.length cad),(i blo),(i bhi)])) rfl rfl ?_)
  intro b1 w2 Hn;replace H:=Hn;clear Hn
  refine Ro.q (v:=(i 0)) rfl rfl (zD rfl) rfl ?_
  refine Ro.nil (nT (Wp.seq (Wp.seq (Wp.region ?_))))
  refine Ro.q (v:=(p b1 2)) rfl rfl (zA fo43_2 rfl rfl) rfl ?_
  refine Ro.q rfl rfl (zE t1_40 rfl (H.cells 0 rfl) (j:=2) rfl rfl) rfl ?_
  refine Ro.q rfl rfl (yG Tryz.underlying40 rfl (v:=dl.length) rfl) rfl ?_
  refine Ro.q (v:=(i 0)) rfl rfl (zB rfl) rfl ?_
  refine Ro.nil (nT (Wp.block ?_))
  refine Wp.loop (fun kM ds ρ w'=>∃ n:Int,∃ r:Int,ds=[]∧(0≤n∧n≤dl.length)∧kM=((dl.length:Int)-n).toNat∧ρ 1=(i heat)∧ρ 8=(.slice ad dl.length cad)∧ρ 9=(i ((dl.length:Nat):Int))∧ρ 10=(i n)∧ρ 4=(i r)∧S Nm w [(b1,.cells [i base,.slice ab bs.length cab,.slice ad dl.length cad,i blo,i bhi].toArray 43 (0,0))] w'∧(r=zV (dl.take n.toNat) heat)) (((dl.length:Int)-0).toNat) ⟨0,0,rfl,(by omega),rfl,rfl,rfl,rfl,rfl,rfl,H,(by simp [zV])⟩ ?_
  clear H
  intro kρ8 dsρ8 ρ8 w9
  rintro ⟨n,r,rfl,hb11,hk10,f3,f4,f5,f6,f7,H,hi12⟩
  refine Wp.seq (Wp.region ?_)
  refine Ro.q rfl rfl (yB f6 f5) rfl ?_
  refine Ro.nil (nT (Wp.seq ?_))
  refine Wp.cond (t:=decide (n<((dl.length:Nat):Int))) rfl ?_ ?_
  · intro c13
    have c13r:=c13
    simp only [bx] at c13
    obtain ⟨e,he⟩:=vQ dl n (by omega) (by omega)
    refine Wp.skip (nT (Wp.seq (Wp.block (Wp.seq (Wp.region ?_)))))
    refine Ro.q rfl rfl (zY ts40 (had.ext H.keep) f4 (by simp) f6 (by omega) (zW he)) rfl ?_
    refine Ro.q rfl rfl (zJ ta164 rfl ((had.ext H.keep).cells (zW he)) (j:=0) rfl (vs:=[i e.frm,i e.sink]) rfl rfl) rfl ?_
    refine Ro.d rfl rfl rfl (H.new (l:=[i 0,i 0]) rfl zv164 rfl ?_)
    intro b14 w15 Hn;replace H:=Hn;clear Hn
    refine Ro.d0 rfl rfl rfl (H.store (j:=0) (off:=0) (k:=2) rfl sz164 rfl (v:=(.agg #[(i e.frm),(i e.sink)])) rfl rfl rfl rfl rfl (by simp [Value.oneCell']) (cs':=[i e.frm,i e.sink]) rfl ?_)
    intro w16 Hn;replace H:=Hn;clear Hn
    refine Ro.nil (nT (Wp.seq (Wp.region ?_)))
    refine Ro.q (v:=(p b14 0)) rfl rfl (zA fo164_0 rfl rfl) rfl ?_
    refine Ro.q rfl rfl (zE zM rfl (H.cells 0 rfl) (j:=0) rfl rfl) rfl ?_
    refine Ro.q (v:=(i heat)) rfl rfl (zB f3) rfl ?_
    refine Ro.q rfl rfl (vD rfl rfl) rfl ?_
    refine Ro.nil (nT ?_)
    refine Wp.cond (t:=decide (e.frm≤heat)) rfl ?_ ?_
    · intro c17
      have c17r:=c17
      simp only [bx] at c17
      refine Wp.region ?_
      refine Ro.q (v:=(p b14 1)) rfl rfl (zA fo164_1 rfl rfl) rfl ?_
      refine Ro.q rfl rfl (zE zM rfl (H.cells 0 rfl) (j:=1) rfl rfl) rfl ?_
      refine Ro.q (v:=(i e.sink)) rfl rfl (zD rfl) rfl ?_
      refine Ro.nil (nB (nT (Wp.region ?_)))
      refine Ro.q rfl rfl (zU f6 rfl (by constructor <;>omega)) rfl ?_
      refine Ro.q (v:=(i (n+1))) rfl rfl (zB rfl) rfl ?_
      refine Ro.nil (nT ?_)
      exact ⟨((dl.length:Int)-(n+1)).toNat,by omega,(n+1),e.sink,rfl,(by omega),rfl,f3,f4,f5,rfl,rfl,(H.drop 1),(by rw [sinksOf_step (by omega) he,if_pos (by omega)])⟩
    intro c17
    have c17r:=c17
    simp only [bx] at c17
    refine Wp.skip (nB (nT (Wp.region ?_)))
    refine Ro.q rfl rfl (zU f6 rfl (by constructor <;>omega)) rfl ?_
    refine Ro.q (v:=(i (n+1))) rfl rfl (zB rfl) rfl ?_
    refine Ro.nil (nT ?_)
    exact ⟨((dl.length:Int)-(n+1)).toNat,by omega,(n+1),r,rfl,(by omega),rfl,f3,f4,f5,rfl,f7,(H.drop 1),(by rw [sinksOf_step (by omega) he,if_neg (by omega)];exact hi12)⟩
  intro c13
  have c13r:=c13
  simp only [bx] at c13
  refine Wp.exit (xT (xT (xB (nT (Wp.seq (Wp.region ?_))))))
  refine Ro.q (v:=(i r)) rfl rfl (zB f7) rfl ?_
  refine Ro.q (v:=(i r)) rfl rfl (zD rfl) rfl ?_
  refine Ro.nil (nT (Wp.ret (zN ?_)))
  refine zI (v:=(i r)) Tryz.results150 rfl ⟨H.keep,?_⟩
  have hz:=sinksOf_end (bs:=dl) (heat:=heat) (n:=n) (by omega)
  rw [← hi12] at hz
  rw [← hz]
theorem nb {b:Bool} (h:(!b)=true):b=false:=by cases b <;>simp_all
theorem fits_ok {p q a:Bool} (h:((p && !q) && !a)=false) (hq:q=false):(!(p && !a))=true:=by cases p <;>cases q <;>cases a <;>simp_all
theorem fits_no {p q a:Bool} (h:((p && !q) && !a)=true) (hq:q=false):(!(p && !a))=false:=by cases p <;>cases q <;>cases a <;>simp_all
theorem c93 (day:Int) (z:Int) (ai:Option Addr) (ices:List Ice) (cai:Nat) (w:World) (hai:Sl w 3 (ices.map iceV) ai) (hl:ices.length≤8) (hz:(-1000000≤z∧z≤1000000)) (hin : ∀ e,e∈ices→(-1000000≤e.zero∧e.zero≤1000000)∧(-1000000≤e.err∧e.err≤1000000)):Rv Tryz.prog 93 [(.slice ai ices.length cai),(.slice none 0 0),(i day),(i z)] w (.bool (fitsB ices day z)):=by
  refine Ret.body (N:=38) Tryz.func93 rfl Tryz.ntmps93 rfl ?_
  have H:=S.start Nm w
  refine Wp.seq (Wp.region ?_)
  refine Ro.q (v:=(.bool false)) rfl rfl (zD rfl) rfl ?_
  refine Ro.nil (nT (Wp.seq (Wp.seq (Wp.region ?_))))
  refine Ro.q (v:=(i 0)) rfl rfl (zD rfl) rfl ?_
  refine Ro.nil (nT (Wp.block ?_))
  refine Wp.loop (fun kM ds ρ w'=>∃ n:Int,ds=[]∧(0≤n∧n≤ices.length)∧kM=((ices.length:Int)-n).toNat∧ρ 0=(.slice ai ices.length cai)∧ρ 1=(.slice none 0 0)∧ρ 2=(i day)∧ρ 3=(i z)∧ρ 9=(i n)∧S Nm w [] w'∧((ices.take n.toNat).all (fun x=>!(decide (x.day=day) && !agreesB x z))=true)) (((ices.length:Int)-0).toNat) ⟨0,rfl,(by omega),rfl,rfl,rfl,rfl,rfl,rfl,H,(by simp)⟩ ?_
  clear H
  intro kρ6 dsρ6 ρ6 w7
  rintro ⟨n,rfl,hb9,hk8,f1,f2,f3,f4,f5,H,hi10⟩
  refine Wp.seq (Wp.seq (Wp.region ?_))
  refine Ro.q (v:=(i n)) rfl rfl (zB f5) rfl ?_
  refine Ro.q (v:=(.slice ai ices.length cai)) rfl rfl (zB f1) rfl ?_
  refine Ro.q rfl rfl (yG Tryz.underlying31 rfl (v:=ices.length) rfl) rfl ?_
  refine Ro.q rfl rfl (yB rfl rfl) rfl ?_
  refine Ro.nil (nT ?_)
  refine Wp.cond (t:=decide (n<((ices.length:Nat):Int))) rfl ?_ ?_
  · intro c11
    have c11r:=c11
    simp only [bx] at c11
    obtain ⟨e,he⟩:=vQ ices n (by omega) (by omega)
    have hei:=hin e (List.mem_of_getElem? he)
    refine Wp.skip (nT (Wp.seq (Wp.block (Wp.seq ?_))))
    let qq12:Bool:=!(hasB ([]:List Int) n)
    let qq13:Bool:=(decide (e.day=day) && qq12)
    let qq14:Bool:=decide (-e.err≤z-e.zero) && decide (z-e.zero≤e.err)
    let qq15:Bool:=(qq13 && (!qq14))
    refine Wp.factsS 22 [is (.slice ai ices.length cai),is (i n),is (p (blk ai) (yP ai+n.toNat*3)),is (p (blk ai) (yP ai+n.toNat*3)),is (i e.day),is (i day),is (.bool (decide (e.day=day))),is (.bool (decide (e.day=day))),gdv (True∧(decide (e.day=day))=true) (.slice none 0 0),gdv (True∧(decide (e.day=day))=true) (i n),gdv (True∧(decide (e.day=day))=true) (.bool (hasB ([]:List Int) n)),gdv (True∧(decide (e.day=day))=true) (.bool qq12),is (.bool qq13),is (.bool qq13),gdv (True∧qq13=true) (.slice ai ices.length cai),gdv (True∧qq13=true) (i n),gdv (True∧qq13=true) (p (blk ai) (yP ai+n.toNat*3)),gdv (True∧qq13=true) (.agg #[(i e.day),(i e.zero),(i e.err)]),gdv (True∧qq13=true) (i z),gdv (True∧qq13=true) (.bool qq14),gdv (True∧qq13=true) (.bool (!qq14)),is (.bool qq15)] (by kernel_rfl) (Mi (Mi (Mi (Mi (Mi (Mi (Mi (Mi (Mg (Mg (Mg (Mg (Mi (Mi (Mg (Mg (Mg (Mg (Mg (Mg (Mg (Mi Mono.nil)))))))))))))))))))))) (fun w' k=>H.ext k) ?_ ?_
    · refine ⟨?_,?_,?_,?_,?_,?_,?_,?_,?_,?_,?_,?_,?_,?_,?_,?_,?_,?_,?_,?_,?_,?_,trivial⟩
      · exact Ob.q rfl (fun _ _ B U D=>(zB ((U 0 rfl).trans f1))) rfl rfl
      · exact Ob.q rfl (fun _ _ B U D=>(zB ((U 9 rfl).trans f5))) rfl rfl
      · exact Ob.q rfl (fun _ _ B U D=>(zY ts31 (hai.ext B.keep) (D 0 rfl) (by simp) (D 1 rfl) (by omega) (zW he))) rfl rfl
      · exact Ob.q rfl (fun _ _ B U D=>(zA fo91_0 (D 2 rfl) rfl)) rfl rfl
      · exact Ob.q rfl (fun _ _ B U D=>(zE zM (D 3 rfl) ((hai.ext B.keep).cells (zW he)) (j:=0) rfl rfl)) rfl rfl
      · exact Ob.q rfl (fun _ _ B U D=>(zB ((U 2 rfl).trans f3))) rfl rfl
      · exact Ob.q rfl (fun _ _ B U D=>(vR (D 4 rfl) (D 5 rfl))) rfl rfl
      · exact Ob.q rfl (fun _ _ B U D=>(zB (D 6 rfl))) rfl rfl
      · exact Ob.g0 rfl rfl (fun _ _ _ D=>D 7 rfl) rfl (fun _ _ B U D hC hg=>(zB ((U 1 rfl).trans f2))) rfl
      · exact Ob.g0 rfl rfl (fun _ _ _ D=>D 7 rfl) rfl (fun _ _ B U D hC hg=>(zB ((U 9 rfl).trans f5))) rfl
      · exact Ob.gd (C:=True) (g:=decide (e.day=day)) rfl rfl (fun ρ' w' U D=>⟨fun _=>(D 7 rfl),fun h=>absurd trivial h⟩) (fun _ h=>⟨fun hc=>absurd hc (yQ h),fun _=>rfl⟩) fun ρ' w' B U D hC hg=>zH rfl en95 (ce (v:=(.slice none 0 0)) (gdy (D 8 rfl) ⟨hC,hg⟩) (ce (v:=(i n)) (gdy (D 9 rfl) ⟨hC,hg⟩) cn)) (c95 n none ([]:List Int) 0 _ ((Sl.nil' rfl)) (by simp)) (fun u w2 k2 hu=>⟨k2,⟨fun _=>hu,fun n=>absurd ⟨hC,hg⟩ n⟩⟩)
      · exact Ob.g0 rfl rfl (fun _ _ _ D=>D 7 rfl) rfl (fun _ _ B U D hC hg=>(yN (gdy (D 10 rfl) ⟨hC,hg⟩))) rfl
      · exact Ob.q rfl (fun _ _ B U D=>(zQ (v:=(.bool qq13)) (D 7 rfl) (fun eP=>(gdy (D 11 rfl) ⟨trivial,eP⟩).trans (yF eP)) (fun eP=>yE eP))) rfl rfl
      · exact Ob.q rfl (fun _ _ B U D=>(zB (D 12 rfl))) rfl rfl
      · exact Ob.g0 rfl rfl (fun _ _ _ D=>D 13 rfl) rfl (fun _ _ B U D hC hg=>(zB ((U 0 rfl).trans f1))) rfl
      · exact Ob.g0 rfl rfl (fun _ _ _ D=>D 13 rfl) rfl (fun _ _ B U D hC hg=>(zB ((U 9 rfl).trans f5))) rfl
      · exact Ob.g0 rfl rfl (fun _ _ _ D=>D 13 rfl) rfl (fun _ _ B U D hC hg=>(zY ts31 (hai.ext B.keep) (gdy (D 14 rfl) ⟨hC,hg⟩) (by simp) (gdy (D 15 rfl) ⟨hC,hg⟩) (by omega) (zW he))) rfl
      · exact Ob.g0 rfl rfl (fun _ _ _ D=>D 13 rfl) rfl (fun _ _ B U D hC hg=>(zJ ta91 (gdy (D 16 rfl) ⟨hC,hg⟩) ((hai.ext B.keep).cells (zW he)) (j:=0) rfl (vs:=[i e.day,i e.zero,i e.err]) rfl rfl)) rfl
      · exact Ob.g0 rfl rfl (fun _ _ _ D=>D 13 rfl) rfl (fun _ _ B U D hC hg=>(zB ((U 3 rfl).trans f4))) rfl
      · exact Ob.gd (C:=True) (g:=qq13) rfl rfl (fun ρ' w' U D=>⟨fun _=>(D 13 rfl),fun h=>absurd trivial h⟩) (fun _ h=>⟨fun hc=>absurd hc (yQ h),fun _=>rfl⟩) fun ρ' w' B U D hC hg=>zH rfl en123 (ce (v:=(.agg #[(i e.day),(i e.zero),(i e.err)])) (gdy (D 17 rfl) ⟨hC,hg⟩) (ce (v:=(i z)) (gdy (D 18 rfl) ⟨hC,hg⟩) cn)) (c123 e.day e.zero e.err z _ (by omega)) (fun u w2 k2 hu=>⟨k2,⟨fun _=>hu,fun n=>absurd ⟨hC,hg⟩ n⟩⟩)
      · exact Ob.g0 rfl rfl (fun _ _ _ D=>D 13 rfl) rfl (fun _ _ B U D hC hg=>(yN (gdy (D 19 rfl) ⟨hC,hg⟩))) rfl
      · exact Ob.q rfl (fun _ _ B U D=>(zQ (v:=(.bool qq15)) (D 13 rfl) (fun eP=>(gdy (D 20 rfl) ⟨trivial,eP⟩).trans (yF eP)) (fun eP=>yE eP))) rfl rfl
    intro ρ16 w17 k18 U19 D20;replace H:=H.ext k18
    have f21:=(U19 0 rfl).trans f1
    have f22:=(U19 1 rfl).trans f2
    have f23:=(U19 2 rfl).trans f3
    have f24:=(U19 3 rfl).trans f4
    have f25:=(U19 9 rfl).trans f5
    have f26:ρ16 37=(.bool qq15):=D20 21 rfl
    clear U19 D20 k18
    refine Ro.nil (nT ?_)
    refine Wp.cond (t:=qq15) f26 ?_ ?_
    · intro c27
      have c27r:(((decide (e.day=day) && (!(hasB ([]:List Int) n))) && (!(decide (-e.err≤z-e.zero) && decide (z-e.zero≤e.err)))))=true:=c27
      replace c27:=c27r
      simp only [bx] at c27
      refine Wp.seq (Wp.region ?_)
      refine Ro.q (v:=(.bool false)) rfl rfl (zD rfl) rfl ?_
      refine Ro.nil (nT (Wp.ret (rB (rT (rT (rB (rT (zN ?_))))))))
      refine zI (v:=(.bool false)) Tryz.results93 rfl ⟨H.keep,?_⟩
      exact congrArg Value.bool (all_bad he (fits_no c27r rfl)).symm
    intro c27
    have c27r:(((decide (e.day=day) && (!(hasB ([]:List Int) n))) && (!(decide (-e.err≤z-e.zero) && decide (z-e.zero≤e.err)))))=false:=c27
    replace c27:=c27r
    simp only [bx] at c27
    refine Wp.skip (nB (nT (Wp.region ?_)))
    refine Ro.q (v:=(i n)) rfl rfl (zB f25) rfl ?_
    refine Ro.q rfl rfl (zU rfl rfl (by constructor <;>omega)) rfl ?_
    refine Ro.q (v:=(i (n+1))) rfl rfl (zD rfl) rfl ?_
    refine Ro.nil (nT ?_)
    exact ⟨((ices.length:Int)-(n+1)).toNat,by omega,(n+1),rfl,(by omega),rfl,f21,f22,f23,f24,rfl,H,(all_take (by omega) he hi10 (fits_ok c27r rfl))⟩
  intro c11
  have c11r:=c11
  simp only [bx] at c11
  refine Wp.exit (xT (xT (xB (nT (Wp.seq (Wp.region ?_))))))
  refine Ro.q (v:=(.bool true)) rfl rfl (zD rfl) rfl ?_
  refine Ro.nil (nT (Wp.ret (zN ?_)))
  refine zI (v:=(.bool true)) Tryz.results93 rfl ⟨H.keep,?_⟩
  exact congrArg Value.bool (all_end (by omega) hi10).symm
theorem hist_bad {h:List Rg} {n:Nat} {e:Rg} (hl : ¬ 16<((h.length:Nat):Int)) (he:h[n]? = some e) (hb:(!((decide (0≤e.lo) && decide (e.lo≤e.hi)) && decide (e.hi≤500)))=true):histE h=2:=by
  have h1:h.all heatB=false:=all_bad he (nb hb)
  unfold histE
  rw [decide_eq_false hl,h1];rfl
theorem hist_all {h:List Rg} (hl : ¬ 16<((h.length:Nat):Int)) (ha:h.all heatB=true):histE h=bif decide (((h.length:Nat):Int)=0) then 2 else 0:=by
  unfold histE
  rw [decide_eq_false hl,ha];rfl
theorem ices_bad {d:Int} {ices:List Ice} {n:Nat} {e:Ice} (hl : ¬ 8<((ices.length:Nat):Int)) (he:ices[n]? = some e) (hb:((!(decide (0≤e.day) && decide (e.day≤d-1)) || !(decide (-2000≤e.zero) && decide (e.zero≤2000))) || !(decide (0≤e.err) && decide (e.err≤20)))=true):icesE d ices=2:=by
  have h1:ices.all (iceB d)=false:=all_bad he (by unfold iceB yM;revert hb;cases (decide (0≤e.day) && decide (e.day≤d-1)) <;>cases (decide (-2000≤e.zero) && decide (e.zero≤2000)) <;>cases (decide (0≤e.err) && decide (e.err≤20)) <;>simp)
  unfold icesE
  rw [decide_eq_false hl,h1];rfl
theorem ices_ok {d:Int} {e:Ice} (hb:((!(decide (0≤e.day) && decide (e.day≤d-1)) || !(decide (-2000≤e.zero) && decide (e.zero≤2000))) || !(decide (0≤e.err) && decide (e.err≤20)))=false):iceB d e=true:=by
  unfold iceB yM;revert hb;cases (decide (0≤e.day) && decide (e.day≤d-1)) <;>cases (decide (-2000≤e.zero) && decide (e.zero≤2000)) <;>cases (decide (0≤e.err) && decide (e.err≤20)) <;>simp
theorem ices_all {d:Int} {ices:List Ice} (hl : ¬ 8<((ices.length:Nat):Int)) (ha:ices.all (iceB d)=true):icesE d ices=0:=by
  unfold icesE
  rw [decide_eq_false hl,ha];rfl
theorem c104 (ah:Option Addr) (h:List Rg) (cah:Nat) (w:World) (hah:Sl w 2 (h.map rgV) ah)  : Rv Tryz.prog 104 [(.slice ah h.length cah)] w (i (histE h)):=by
  refine Ret.body (N:=22) Tryz.func104 rfl Tryz.ntmps104 rfl ?_
  have H:=S.start Nm w
  refine Wp.seq (Wp.region ?_)
  refine Ro.q (v:=(i 0)) rfl rfl (zD rfl) rfl ?_
  refine Ro.nil (nT (Wp.seq (Wp.seq (Wp.region ?_))))
  refine Ro.q (v:=(.slice ah h.length cah)) rfl rfl (zB rfl) rfl ?_
  refine Ro.q rfl rfl (yG Tryz.underlying30 rfl (v:=h.length) rfl) rfl ?_
  refine Ro.q rfl rfl (r_gtr rfl rfl) rfl ?_
  refine Ro.nil (nT ?_)
  refine Wp.cond (t:=decide (16<((h.length:Nat):Int))) rfl ?_ ?_
  · intro c1
    have c1r:=c1
    simp only [bx] at c1
    refine Wp.seq (Wp.region ?_)
    refine Ro.q (v:=(i 3)) rfl rfl (zD rfl) rfl ?_
    refine Ro.nil (nT (Wp.ret (rT (zN ?_))))
    refine zI (v:=(i 3)) Tryz.results104 rfl ⟨H.keep,?_⟩
    refine congrArg (Value.int _) ?_
    unfold histE
    rw [c1r];rfl
  intro c1
  have c1r:=c1
  simp only [bx] at c1
  refine Wp.skip (nT (Wp.seq (Wp.seq (Wp.region ?_))))
  refine Ro.q (v:=(i 0)) rfl rfl (zD rfl) rfl ?_
  refine Ro.nil (nT (Wp.block ?_))
  refine Wp.loop (fun kM ds ρ w'=>∃ n:Int,ds=[]∧(0≤n∧n≤h.length)∧kM=((h.length:Int)-n).toNat∧ρ 0=(.slice ah h.length cah)∧ρ 3=(i n)∧S Nm w [] w'∧((h.take n.toNat).all heatB=true)) (((h.length:Int)-0).toNat) ⟨0,rfl,(by omega),rfl,rfl,rfl,H,(by simp)⟩ ?_
  clear H
  intro kρ4 dsρ4 ρ4 w5
  rintro ⟨n,rfl,hb7,hk6,f2,f3,H,hi8⟩
  refine Wp.seq (Wp.seq (Wp.region ?_))
  refine Ro.q (v:=(i n)) rfl rfl (zB f3) rfl ?_
  refine Ro.q (v:=(.slice ah h.length cah)) rfl rfl (zB f2) rfl ?_
  refine Ro.q rfl rfl (yG Tryz.underlying30 rfl (v:=h.length) rfl) rfl ?_
  refine Ro.q rfl rfl (yB rfl rfl) rfl ?_
  refine Ro.nil (nT ?_)
  refine Wp.cond (t:=decide (n<((h.length:Nat):Int))) rfl ?_ ?_
  · intro c9
    have c9r:=c9
    simp only [bx] at c9
    obtain ⟨e,he⟩:=vQ h n (by omega) (by omega)
    refine Wp.skip (nT (Wp.seq (Wp.block (Wp.seq (Wp.region ?_)))))
    refine Ro.q (v:=(.slice ah h.length cah)) rfl rfl (zB f2) rfl ?_
    refine Ro.q (v:=(i n)) rfl rfl (zB f3) rfl ?_
    refine Ro.q rfl rfl (zY ts30 (hah.ext H.keep) rfl (by simp) rfl (by omega) (zW he)) rfl ?_
    refine Ro.q rfl rfl (zJ ta25 rfl ((hah.ext H.keep).cells (zW he)) (j:=0) rfl (vs:=[i e.lo,i e.hi]) rfl rfl) rfl ?_
    refine Ro.d rfl rfl rfl (zH rfl en127 (ce (v:=(.agg #[(i e.lo),(i e.hi)])) rfl (ce (v:=(i 500)) rfl cn)) (c127 e.lo e.hi 500 _ ) ?_)
    intro u w10 k11 hu;subst hu;replace H:=H.ext k11
    clear k11
    refine Ro.q rfl rfl (yN rfl) rfl ?_
    refine Ro.nil (nT ?_)
    refine Wp.cond (t:=!((decide (0≤e.lo) && decide (e.lo≤e.hi)) && decide (e.hi≤500))) rfl ?_ ?_
    · intro c12
      have c12r:=c12
      simp only [bx] at c12
      refine Wp.seq (Wp.region ?_)
      refine Ro.q (v:=(i 2)) rfl rfl (zD rfl) rfl ?_
      refine Ro.nil (nT (Wp.ret (rB (rT (rT (rB (rT (zN ?_))))))))
      refine zI (v:=(i 2)) Tryz.results104 rfl ⟨H.keep,?_⟩
      exact congrArg (Value.int _) (hist_bad (by omega) he c12r).symm
    intro c12
    have c12r:=c12
    simp only [bx] at c12
    refine Wp.skip (nB (nT (Wp.region ?_)))
    refine Ro.q (v:=(i n)) rfl rfl (zB f3) rfl ?_
    refine Ro.q rfl rfl (zU rfl rfl (by constructor <;>omega)) rfl ?_
    refine Ro.q (v:=(i (n+1))) rfl rfl (zD rfl) rfl ?_
    refine Ro.nil (nT ?_)
    exact ⟨((h.length:Int)-(n+1)).toNat,by omega,(n+1),rfl,(by omega),rfl,f2,rfl,H,(all_take (by omega) he hi8 (by have:=c12r;revert this;unfold heatB yL;cases (decide (0≤e.lo) && decide (e.lo≤e.hi)) && decide (e.hi≤500) <;>simp))⟩
  intro c9
  have c9r:=c9
  simp only [bx] at c9
  refine Wp.exit (xT (xT (xB (nT (Wp.seq (Wp.seq (Wp.region ?_)))))))
  refine Ro.q (v:=(.slice ah h.length cah)) rfl rfl (zB f2) rfl ?_
  refine Ro.q rfl rfl (yG Tryz.underlying30 rfl (v:=h.length) rfl) rfl ?_
  refine Ro.q rfl rfl (vR rfl rfl) rfl ?_
  refine Ro.nil (nT ?_)
  refine Wp.cond (t:=decide (((h.length:Nat):Int)=0)) rfl ?_ ?_
  · intro c13
    have c13r:=c13
    simp only [bx] at c13
    refine Wp.seq (Wp.region ?_)
    refine Ro.q (v:=(i 2)) rfl rfl (zD rfl) rfl ?_
    refine Ro.nil (nT (Wp.ret (rT (zN ?_))))
    refine zI (v:=(i 2)) Tryz.results104 rfl ⟨H.keep,?_⟩
    refine congrArg (Value.int _) ?_
    rw [hist_all (by omega) (all_end (by omega) hi8),c13r];rfl
  intro c13
  have c13r:=c13
  simp only [bx] at c13
  refine Wp.skip (nT (Wp.seq (Wp.region ?_)))
  refine Ro.q (v:=(i 0)) rfl rfl (zD rfl) rfl ?_
  refine Ro.nil (nT (Wp.ret (zN ?_)))
  refine zI (v:=(i 0)) Tryz.results104 rfl ⟨H.keep,?_⟩
  refine congrArg (Value.int _) ?_
  rw [hist_all (by omega) (all_end (by omega) hi8),c13r];rfl
theorem c44 (ah:Option Addr) (h:List Rg) (cah:Nat) (ai:Option Addr) (ices:List Ice) (cai:Nat) (w:World) (hah:Sl w 2 (h.map rgV) ah) (hai:Sl w 3 (ices.map iceV) ai) (hh:h.length≤4611686018427387904):Rv Tryz.prog 44 [(.slice ah h.length cah),(.slice ai ices.length cai)] w (i (icesE ((h.length:Nat):Int) ices)):=by
  refine Ret.body (N:=43) Tryz.func44 rfl Tryz.ntmps44 rfl ?_
  have H:=S.start Nm w
  refine Wp.seq (Wp.region ?_)
  refine Ro.q (v:=(i 0)) rfl rfl (zD rfl) rfl ?_
  refine Ro.nil (nT (Wp.seq (Wp.seq (Wp.region ?_))))
  refine Ro.q (v:=(.slice ai ices.length cai)) rfl rfl (zB rfl) rfl ?_
  refine Ro.q rfl rfl (yG Tryz.underlying31 rfl (v:=ices.length) rfl) rfl ?_
  refine Ro.q rfl rfl (r_gtr rfl rfl) rfl ?_
  refine Ro.nil (nT ?_)
  refine Wp.cond (t:=decide (8<((ices.length:Nat):Int))) rfl ?_ ?_
  · intro c1
    have c1r:=c1
    simp only [bx] at c1
    refine Wp.seq (Wp.region ?_)
    refine Ro.q (v:=(i 3)) rfl rfl (zD rfl) rfl ?_
    refine Ro.nil (nT (Wp.ret (rT (zN ?_))))
    refine zI (v:=(i 3)) Tryz.results44 rfl ⟨H.keep,?_⟩
    refine congrArg (Value.int _) ?_
    unfold icesE
    rw [c1r];rfl
  intro c1
  have c1r:=c1
  simp only [bx] at c1
  refine Wp.skip (nT (Wp.seq (Wp.seq (Wp.region ?_))))
  refine Ro.q (v:=(i 0)) rfl rfl (zD rfl) rfl ?_
  refine Ro.nil (nT (Wp.block ?_))
  refine Wp.loop (fun kM ds ρ w'=>∃ n:Int,ds=[]∧(0≤n∧n≤ices.length)∧kM=((ices.length:Int)-n).toNat∧ρ 0=(.slice ah h.length cah)∧ρ 1=(.slice ai ices.length cai)∧ρ 5=(i n)∧S Nm w [] w'∧((ices.take n.toNat).all (iceB ((h.length:Nat):Int))=true)) (((ices.length:Int)-0).toNat) ⟨0,rfl,(by omega),rfl,rfl,rfl,rfl,H,(by simp)⟩ ?_
  clear H
  intro kρ5 dsρ5 ρ5 w6
  rintro ⟨n,rfl,hb8,hk7,f2,f3,f4,H,hi9⟩
  refine Wp.seq (Wp.seq (Wp.region ?_))
  refine Ro.q (v:=(i n)) rfl rfl (zB f4) rfl ?_
  refine Ro.q (v:=(.slice ai ices.length cai)) rfl rfl (zB f3) rfl ?_
  refine Ro.q rfl rfl (yG Tryz.underlying31 rfl (v:=ices.length) rfl) rfl ?_
  refine Ro.q rfl rfl (yB rfl rfl) rfl ?_
  refine Ro.nil (nT ?_)
  refine Wp.cond (t:=decide (n<((ices.length:Nat):Int))) rfl ?_ ?_
  · intro c10
    have c10r:=c10
    simp only [bx] at c10
    obtain ⟨e,he⟩:=vQ ices n (by omega) (by omega)
    refine Wp.skip (nT (Wp.seq (Wp.block (Wp.seq ?_))))
    let qq11:Bool:=decide (0≤e.day) && decide (e.day≤(((h.length:Nat):Int)-1))
    let qq12:Bool:=decide ((-2000)≤e.zero) && decide (e.zero≤2000)
    let qq13:Bool:=(!qq11 || (!qq12))
    let qq14:Bool:=decide (0≤e.err) && decide (e.err≤20)
    let qq15:Bool:=(qq13 || (!qq14))
    refine Wp.factsS 28 [is (.slice ai ices.length cai),is (i n),is (p (blk ai) (yP ai+n.toNat*3)),is (p (blk ai) (yP ai+n.toNat*3)),is (i e.day),is (.slice ah h.length cah),is (i ((h.length:Nat):Int)),is (i (((h.length:Nat):Int)-1)),is (.bool qq11),is (.bool (!qq11)),is (.bool (!qq11)),gdv (True∧(!qq11)=false) (.slice ai ices.length cai),gdv (True∧(!qq11)=false) (i n),gdv (True∧(!qq11)=false) (p (blk ai) (yP ai+n.toNat*3)),gdv (True∧(!qq11)=false) (p (blk ai) (yP ai+n.toNat*3+1)),gdv (True∧(!qq11)=false) (i e.zero),gdv (True∧(!qq11)=false) (.bool qq12),gdv (True∧(!qq11)=false) (.bool (!qq12)),is (.bool qq13),is (.bool qq13),gdv (True∧qq13=false) (.slice ai ices.length cai),gdv (True∧qq13=false) (i n),gdv (True∧qq13=false) (p (blk ai) (yP ai+n.toNat*3)),gdv (True∧qq13=false) (p (blk ai) (yP ai+n.toNat*3+2)),gdv (True∧qq13=false) (i e.err),gdv (True∧qq13=false) (.bool qq14),gdv (True∧qq13=false) (.bool (!qq14)),is (.bool qq15)] (by kernel_rfl) (Mi (Mi (Mi (Mi (Mi (Mi (Mi (Mi (Mi (Mi (Mi (Mg (Mg (Mg (Mg (Mg (Mg (Mg (Mi (Mi (Mg (Mg (Mg (Mg (Mg (Mg (Mg (Mi Mono.nil)))))))))))))))))))))))))))) (fun w' k=>H.ext k) ?_ ?_
    · refine ⟨?_,?_,?_,?_,?_,?_,?_,?_,?_,?_,?_,?_,?_,?_,?_,?_,?_,?_,?_,?_,?_,?_,?_,?_,?_,?_,?_,?_,trivial⟩
      · exact Ob.q rfl (fun _ _ B U D=>(zB ((U 1 rfl).trans f3))) rfl rfl
      · exact Ob.q rfl (fun _ _ B U D=>(zB ((U 5 rfl).trans f4))) rfl rfl
      · exact Ob.q rfl (fun _ _ B U D=>(zY ts31 (hai.ext B.keep) (D 0 rfl) (by simp) (D 1 rfl) (by omega) (zW he))) rfl rfl
      · exact Ob.q rfl (fun _ _ B U D=>(zA fo91_0 (D 2 rfl) rfl)) rfl rfl
      · exact Ob.q rfl (fun _ _ B U D=>(zE zM (D 3 rfl) ((hai.ext B.keep).cells (zW he)) (j:=0) rfl rfl)) rfl rfl
      · exact Ob.q rfl (fun _ _ B U D=>(zB ((U 0 rfl).trans f2))) rfl rfl
      · exact Ob.q rfl (fun _ _ B U D=>(yG Tryz.underlying30 (D 5 rfl) (v:=h.length) rfl)) rfl rfl
      · exact Ob.q rfl (fun _ _ B U D=>(yT (D 6 rfl) rfl (by constructor <;>omega))) rfl rfl
      · exact Ob.mk rfl fun ρ' w' B U D=>zH rfl en41 (ce (v:=(i e.day)) (D 4 rfl) (ce (v:=(i 0)) rfl (ce (v:=(i (((h.length:Nat):Int)-1))) (D 7 rfl) cn))) (c41 e.day 0 (((h.length:Nat):Int)-1) _ ) (fun u w2 k2 hu=>⟨k2,hu⟩)
      · exact Ob.q rfl (fun _ _ B U D=>(yN (D 8 rfl))) rfl rfl
      · exact Ob.q rfl (fun _ _ B U D=>(zB (D 9 rfl))) rfl rfl
      · exact Ob.g0 rfl rfl (fun _ _ _ D=>D 10 rfl) rfl (fun _ _ B U D hC hg=>(zB ((U 1 rfl).trans f3))) rfl
      · exact Ob.g0 rfl rfl (fun _ _ _ D=>D 10 rfl) rfl (fun _ _ B U D hC hg=>(zB ((U 5 rfl).trans f4))) rfl
      · exact Ob.g0 rfl rfl (fun _ _ _ D=>D 10 rfl) rfl (fun _ _ B U D hC hg=>(zY ts31 (hai.ext B.keep) (gdy (D 11 rfl) ⟨hC,hg⟩) (by simp) (gdy (D 12 rfl) ⟨hC,hg⟩) (by omega) (zW he))) rfl
      · exact Ob.g0 rfl rfl (fun _ _ _ D=>D 10 rfl) rfl (fun _ _ B U D hC hg=>(zA fo91_1 (gdy (D 13 rfl) ⟨hC,hg⟩) rfl)) rfl
      · exact Ob.g0 rfl rfl (fun _ _ _ D=>D 10 rfl) rfl (fun _ _ B U D hC hg=>(zE zM (gdy (D 14 rfl) ⟨hC,hg⟩) ((hai.ext B.keep).cells (zW he)) (j:=1) rfl rfl)) rfl
      · exact Ob.gd (C:=True) (g:=!qq11) rfl rfl (fun ρ' w' U D=>⟨fun _=>(D 10 rfl),fun h=>absurd trivial h⟩) (fun _ h=>⟨fun hc=>absurd hc (yQ h),fun _=>rfl⟩) fun ρ' w' B U D hC hg=>zH rfl en41 (ce (v:=(i e.zero)) (gdy (D 15 rfl) ⟨hC,hg⟩) (ce (v:=(i (-2000))) rfl (ce (v:=(i 2000)) rfl cn))) (c41 e.zero (-2000) 2000 _ ) (fun u w2 k2 hu=>⟨k2,⟨fun _=>hu,fun n=>absurd ⟨hC,hg⟩ n⟩⟩)
      · exact Ob.g0 rfl rfl (fun _ _ _ D=>D 10 rfl) rfl (fun _ _ B U D hC hg=>(yN (gdy (D 16 rfl) ⟨hC,hg⟩))) rfl
      · exact Ob.q rfl (fun _ _ B U D=>(zQ (v:=(.bool qq13)) (D 10 rfl) (fun eP=>or_t eP) (fun eP=>(gdy (D 17 rfl) ⟨trivial,eP⟩).trans (or_f eP)))) rfl rfl
      · exact Ob.q rfl (fun _ _ B U D=>(zB (D 18 rfl))) rfl rfl
      · exact Ob.g0 rfl rfl (fun _ _ _ D=>D 19 rfl) rfl (fun _ _ B U D hC hg=>(zB ((U 1 rfl).trans f3))) rfl
      · exact Ob.g0 rfl rfl (fun _ _ _ D=>D 19 rfl) rfl (fun _ _ B U D hC hg=>(zB ((U 5 rfl).trans f4))) rfl
      · exact Ob.g0 rfl rfl (fun _ _ _ D=>D 19 rfl) rfl (fun _ _ B U D hC hg=>(zY ts31 (hai.ext B.keep) (gdy (D 20 rfl) ⟨hC,hg⟩) (by simp) (gdy (D 21 rfl) ⟨hC,hg⟩) (by omega) (zW he))) rfl
      · exact Ob.g0 rfl rfl (fun _ _ _ D=>D 19 rfl) rfl (fun _ _ B U D hC hg=>(zA fo91_2 (gdy (D 22 rfl) ⟨hC,hg⟩) rfl)) rfl
      · exact Ob.g0 rfl rfl (fun _ _ _ D=>D 19 rfl) rfl (fun _ _ B U D hC hg=>(zE zM (gdy (D 23 rfl) ⟨hC,hg⟩) ((hai.ext B.keep).cells (zW he)) (j:=2) rfl rfl)) rfl
      · exact Ob.gd (C:=True) (g:=qq13) rfl rfl (fun ρ' w' U D=>⟨fun _=>(D 19 rfl),fun h=>absurd trivial h⟩) (fun _ h=>⟨fun hc=>absurd hc (yQ h),fun _=>rfl⟩) fun ρ' w' B U D hC hg=>zH rfl en41 (ce (v:=(i e.err)) (gdy (D 24 rfl) ⟨hC,hg⟩) (ce (v:=(i 0)) rfl (ce (v:=(i 20)) rfl cn))) (c41 e.err 0 20 _ ) (fun u w2 k2 hu=>⟨k2,⟨fun _=>hu,fun n=>absurd ⟨hC,hg⟩ n⟩⟩)
      · exact Ob.g0 rfl rfl (fun _ _ _ D=>D 19 rfl) rfl (fun _ _ B U D hC hg=>(yN (gdy (D 25 rfl) ⟨hC,hg⟩))) rfl
      · exact Ob.q rfl (fun _ _ B U D=>(zQ (v:=(.bool qq15)) (D 19 rfl) (fun eP=>or_t eP) (fun eP=>(gdy (D 26 rfl) ⟨trivial,eP⟩).trans (or_f eP)))) rfl rfl
    intro ρ16 w17 k18 U19 D20;replace H:=H.ext k18
    have f21:=(U19 0 rfl).trans f2
    have f22:=(U19 1 rfl).trans f3
    have f23:=(U19 5 rfl).trans f4
    have f24:ρ16 42=(.bool qq15):=D20 27 rfl
    clear U19 D20 k18
    refine Ro.nil (nT ?_)
    refine Wp.cond (t:=qq15) f24 ?_ ?_
    · intro c25
      have c25r:(((!(decide (0≤e.day) && decide (e.day≤(((h.length:Nat):Int)-1))) || (!(decide ((-2000)≤e.zero) && decide (e.zero≤2000)))) || (!(decide (0≤e.err) && decide (e.err≤20)))))=true:=c25
      replace c25:=c25r
      simp only [bx] at c25
      refine Wp.seq (Wp.region ?_)
      refine Ro.q (v:=(i 2)) rfl rfl (zD rfl) rfl ?_
      refine Ro.nil (nT (Wp.ret (rB (rT (rT (rB (rT (zN ?_))))))))
      refine zI (v:=(i 2)) Tryz.results44 rfl ⟨H.keep,?_⟩
      exact congrArg (Value.int _) (ices_bad (by omega) he c25r).symm
    intro c25
    have c25r:(((!(decide (0≤e.day) && decide (e.day≤(((h.length:Nat):Int)-1))) || (!(decide ((-2000)≤e.zero) && decide (e.zero≤2000)))) || (!(decide (0≤e.err) && decide (e.err≤20)))))=false:=c25
    replace c25:=c25r
    simp only [bx] at c25
    refine Wp.skip (nB (nT (Wp.region ?_)))
    refine Ro.q (v:=(i n)) rfl rfl (zB f23) rfl ?_
    refine Ro.q rfl rfl (zU rfl rfl (by constructor <;>omega)) rfl ?_
    refine Ro.q (v:=(i (n+1))) rfl rfl (zD rfl) rfl ?_
    refine Ro.nil (nT ?_)
    exact ⟨((ices.length:Int)-(n+1)).toNat,by omega,(n+1),rfl,(by omega),rfl,f21,f22,rfl,H,(all_take (by omega) he hi9 (ices_ok c25r))⟩
  intro c10
  have c10r:=c10
  simp only [bx] at c10
  refine Wp.exit (xT (xT (xB (nT (Wp.seq (Wp.region ?_))))))
  refine Ro.q (v:=(i 0)) rfl rfl (zD rfl) rfl ?_
  refine Ro.nil (nT (Wp.ret (zN ?_)))
  refine zI (v:=(i 0)) Tryz.results44 rfl ⟨H.keep,?_⟩
  exact congrArg (Value.int _) (ices_all (by omega) (all_end (by omega) hi9)).symm
theorem c72 (ah:Option Addr) (h:List Rg) (cah:Nat) (ai:Option Addr) (ices:List Ice) (cai:Nat) (w:World) (hah:Sl w 2 (h.map rgV) ah) (hai:Sl w 3 (ices.map iceV) ai) (hh:h.length≤4611686018427387904):Rv Tryz.prog 72 [(.slice ah h.length cah),(.slice ai ices.length cai)] w (i (lifeE h ices)):=by
  refine Ret.body (N:=14) Tryz.func72 rfl Tryz.ntmps72 rfl ?_
  have H:=S.start Nm w
  refine Wp.seq (Wp.region ?_)
  refine Ro.q (v:=(i 0)) rfl rfl (zD rfl) rfl ?_
  refine Ro.nil (nT (Wp.seq (Wp.seq (Wp.region ?_))))
  refine Ro.q (v:=(.slice ah h.length cah)) rfl rfl (zB rfl) rfl ?_
  refine Ro.d rfl rfl rfl (zH rfl en104 (ce (v:=(.slice ah h.length cah)) rfl cn) (c104 ah h cah _ (hah.ext H.keep)) ?_)
  intro u w1 k2 hu;subst hu;replace H:=H.ext k2
  clear k2
  refine Ro.q (v:=(i (histE h))) rfl rfl (zD rfl) rfl ?_
  refine Ro.nil (nT (Wp.seq (Wp.region ?_)))
  refine Ro.q (v:=(i (histE h))) rfl rfl (zB rfl) rfl ?_
  refine Ro.q rfl rfl (vW rfl rfl) rfl ?_
  refine Ro.nil (nT ?_)
  refine Wp.cond (t:=decide ((histE h)≠0)) rfl ?_ ?_
  · intro c3
    have c3r:=c3
    simp only [bx] at c3
    refine Wp.seq (Wp.region ?_)
    refine Ro.q (v:=(i (histE h))) rfl rfl (zB rfl) rfl ?_
    refine Ro.q (v:=(i (histE h))) rfl rfl (zD rfl) rfl ?_
    refine Ro.nil (nT (Wp.ret (rT (zN ?_))))
    refine zI (v:=(i (histE h))) Tryz.results72 rfl ⟨H.keep,?_⟩
    refine congrArg (Value.int _) ?_
    unfold lifeE
    simp only [yM,yL,c3r,cond_true,cond_false]
  intro c3
  have c3r:=c3
  simp only [bx] at c3
  refine Wp.skip (nT (Wp.seq (Wp.region ?_)))
  refine Ro.q (v:=(.slice ah h.length cah)) rfl rfl (zB rfl) rfl ?_
  refine Ro.q (v:=(.slice ai ices.length cai)) rfl rfl (zB rfl) rfl ?_
  refine Ro.d rfl rfl rfl (zH rfl en44 (ce (v:=(.slice ah h.length cah)) rfl (ce (v:=(.slice ai ices.length cai)) rfl cn)) (c44 ah h cah ai ices cai _ (hah.ext H.keep) (hai.ext H.keep) (by omega)) ?_)
  intro u w4 k5 hu;subst hu;replace H:=H.ext k5
  clear k5
  refine Ro.q (v:=(i (icesE ((h.length:Nat):Int) ices))) rfl rfl (zD rfl) rfl ?_
  refine Ro.nil (nT (Wp.ret (zN ?_)))
  refine zI (v:=(i (icesE ((h.length:Nat):Int) ices))) Tryz.results72 rfl ⟨H.keep,?_⟩
  refine congrArg (Value.int _) ?_
  unfold lifeE
  simp only [yM,yL,c3r,cond_true,cond_false]
end Go.Proofs.YthfnjppieihcfaaGreat
namespace Go.Proofs.YthfnjppieihcfaaGreat
open Go.RowKit Go.Proofs Go.Mw
theorem en122:Go.Proofs.Enters Tryz.prog 122:=Go.Proofs.enters_of Tryz.func122 (by kernel_rfl) rfl
theorem en92:Go.Proofs.Enters Tryz.prog 92:=Go.Proofs.enters_of Tryz.func92 (by kernel_rfl) rfl
theorem fo27_0:FO Tryz.prog 27 0 0:=fun _ _ _=>by kernel_rfl
theorem fo27_3:FO Tryz.prog 27 3 3:=fun _ _ _=>by kernel_rfl
theorem fo29_0:FO Tryz.prog 29 0 0:=fun _ _ _=>by kernel_rfl
theorem fo29_4:FO Tryz.prog 29 4 11:=fun _ _ _=>by kernel_rfl
theorem sz159 : ∀ w,(sizeOf 159).run Tryz.prog w = .ok 3 w:=fun _=>by kernel_rfl
theorem sz163 : ∀ w,(sizeOf 163).run Tryz.prog w = .ok 2 w:=fun _=>by kernel_rfl
theorem ta159:TA Tryz.prog 159 3:=⟨Tryz.isAgg159,fun _=>by kernel_rfl⟩
theorem ta163:TA Tryz.prog 163 2:=⟨Tryz.isAgg163,fun _=>by kernel_rfl⟩
theorem ta27:TA Tryz.prog 27 5:=⟨Tryz.isAgg27,fun _=>by kernel_rfl⟩
theorem ta29:TA Tryz.prog 29 12:=⟨Tryz.isAgg29,fun _=>by kernel_rfl⟩
theorem zv159:ZV Tryz.prog 159 (.agg #[(i 0),(i 0),(i 0)]):=Tryz.zeroValue159
theorem zv163:ZV Tryz.prog 163 (.agg #[(i 0),(i 0)]):=Tryz.zeroValue163
open Men
theorem glassE_one {base:Int} {bs:List Band} {dl:List Depth} {blo bhi:Int} (hl:(decide (3<((bs.length:Nat):Int)) || decide (4<((dl.length:Nat):Int)))=false) (h : ¬ (-1000≤base∧base≤1000)∨¬ (0≤blo∧blo≤bhi∧bhi≤5)∨bandsB bs=false∨uD dl=false):yI base bs dl blo bhi=1:=by
  unfold yI
  rw [hl]
  have:((!yM base (-1000) 1000 || !yL blo bhi 0 5) || !bandsB bs || !uD dl)=true:=by
    rcases h with h | h | h | h
    · have:yM base (-1000) 1000=false:=by unfold yM;simp;omega
      simp [this]
    · have:yL blo bhi 0 5=false:=by unfold yL;simp;omega
      simp [this]
    · simp [h]
    · simp [h]
  rw [this];rfl
theorem glassE_zero {base:Int} {bs:List Band} {dl:List Depth} {blo bhi:Int} (hl:(decide (3<((bs.length:Nat):Int)) || decide (4<((dl.length:Nat):Int)))=false) (h1:(-1000≤base∧base≤1000)) (h2:(0≤blo∧blo≤bhi∧bhi≤5)) (h3:bandsB bs=true) (h4:uD dl=true):yI base bs dl blo bhi=0:=by
  unfold yI
  have e1:yM base (-1000) 1000=true:=by unfold yM;simp;omega
  have e2:yL blo bhi 0 5=true:=by unfold yL;simp;omega
  rw [hl,e1,e2,h3,h4];rfl
theorem glassE_head {base:Int} {bs:List Band} {dl:List Depth} {blo bhi:Int} {z:Band} (hl:(decide (3<((bs.length:Nat):Int)) || decide (4<((dl.length:Nat):Int)))=false) (hz:0<(bs.length:Int)→bs[(0:Int).toNat]? = some z)
    (h:((((decide (((bs.length:Nat):Int)=0) || decide (((dl.length:Nat):Int)=0)) || !(decide (-1000≤base) && decide (base≤1000))) || !((decide (0≤blo) && decide (blo≤bhi)) && decide (bhi≤5))) || decide (z.frm≠0))=true):yI base bs dl blo bhi=1:=by
  by_cases hn:((bs.length:Nat):Int)=0
  · refine glassE_one hl (.inr (.inr (.inl (bandsB_false.2 fun hb=>?_))))
    obtain ⟨b,hb,_⟩:=hb.2
    have:=(List.getElem?_eq_some_iff.1 hb).1
    omega
  · by_cases hd:((dl.length:Nat):Int)=0
    · exact glassE_one hl (.inr (.inr (.inr (depthsB_false.2 fun hb=>by have:=hb.2;omega))))
    · by_cases hf:z.frm=0
      · simp only [Bool.or_eq_true,Bool.and_eq_true,Bool.not_eq_true',Bool.and_eq_false_iff,decide_eq_true_eq,decide_eq_false_iff_not] at h
        exact glassE_one hl (by omega)
      · refine glassE_one hl (.inr (.inr (.inl (bandsB_false.2 fun hb=>?_))))
        obtain ⟨b,hb,h0⟩:=hb.2
        have h1:bs[(0:Int).toNat]? = some b:=hb
        rw [hz (by omega)] at h1
        cases h1
        exact hf h0
theorem c122 (base:Int) (blo:Int) (bhi:Int) (ab:Option Addr) (bs:List Band) (cab:Nat) (ad:Option Addr) (dl:List Depth) (cad:Nat) (w:World) (hab:Sl w 3 (bs.map yH) ab) (had:Sl w 2 (dl.map zZ) ad)  : Rv Tryz.prog 122 [(.agg #[(i base),(.slice ab bs.length cab),(.slice ad dl.length cad),(i blo),(i bhi)])] w (i (yI base bs dl blo bhi)):=by
  obtain ⟨z,hz⟩:=ehead bs ⟨0,⟨0,0⟩⟩
  refine Ret.body (N:=135) Tryz.func122 rfl Tryz.ntmps122 rfl ?_
  have H:=S.start Nm w
  refine Wp.seq (Wp.region ?_)
  refine Ro.d rfl rfl rfl (H.box (l:=[i base,.slice ab bs.length cab,.slice ad dl.length cad,i blo,i bhi]) rfl (v:=(.agg #[(i base),(.slice ab bs.length cab),(.slice ad dl.length cad),(i blo),(i bhi)])) rfl rfl ?_)
  intro b1 w2 Hn;replace H:=Hn;clear Hn
  refine Ro.q (v:=(i 0)) rfl rfl (zD rfl) rfl ?_
  refine Ro.nil (nT (Wp.seq (Wp.seq ?_)))
  let qq3:Bool:=decide (3<((bs.length:Nat):Int))
  let qq4:Bool:=decide (4<((dl.length:Nat):Int))
  let qq5:Bool:=(qq3 || qq4)
  refine Wp.factsS 10 [is (p b1 1),is (.slice ab bs.length cab),is (i ((bs.length:Nat):Int)),is (.bool qq3),is (.bool qq3),gdv (True∧qq3=false) (p b1 2),gdv (True∧qq3=false) (.slice ad dl.length cad),gdv (True∧qq3=false) (i ((dl.length:Nat):Int)),gdv (True∧qq3=false) (.bool qq4),is (.bool qq5)] (by kernel_rfl) (Mi (Mi (Mi (Mi (Mi (Mg (Mg (Mg (Mg (Mi Mono.nil)))))))))) (fun w' k=>H.ext k) ?_ ?_
  · refine ⟨?_,?_,?_,?_,?_,?_,?_,?_,?_,?_,trivial⟩
    · exact Ob.q rfl (fun _ _ B U D=>(zA fo27_1 (show (_:Value)=(p b1 0) from U 1 rfl) rfl)) rfl rfl
    · exact Ob.q rfl (fun _ _ B U D=>(zE t1_22 (D 0 rfl) (B.cells 0 rfl) (j:=1) rfl rfl)) rfl rfl
    · exact Ob.q rfl (fun _ _ B U D=>(yG Tryz.underlying22 (D 1 rfl) (v:=bs.length) rfl)) rfl rfl
    · exact Ob.q rfl (fun _ _ B U D=>(r_gtr (D 2 rfl) rfl)) rfl rfl
    · exact Ob.q rfl (fun _ _ B U D=>(zB (D 3 rfl))) rfl rfl
    · exact Ob.g0 rfl rfl (fun _ _ _ D=>D 4 rfl) rfl (fun _ _ B U D hC hg=>(zA fo27_2 (show (_:Value)=(p b1 0) from U 1 rfl) rfl)) rfl
    · exact Ob.g0 rfl rfl (fun _ _ _ D=>D 4 rfl) rfl (fun _ _ B U D hC hg=>(zE t1_23 (gdy (D 5 rfl) ⟨hC,hg⟩) (B.cells 0 rfl) (j:=2) rfl rfl)) rfl
    · exact Ob.g0 rfl rfl (fun _ _ _ D=>D 4 rfl) rfl (fun _ _ B U D hC hg=>(yG Tryz.underlying23 (gdy (D 6 rfl) ⟨hC,hg⟩) (v:=dl.length) rfl)) rfl
    · exact Ob.g0 rfl rfl (fun _ _ _ D=>D 4 rfl) rfl (fun _ _ B U D hC hg=>(r_gtr (gdy (D 7 rfl) ⟨hC,hg⟩) rfl)) rfl
    · exact Ob.q rfl (fun _ _ B U D=>(zQ (v:=(.bool qq5)) (D 4 rfl) (fun eP=>or_t eP) (fun eP=>(gdy (D 8 rfl) ⟨trivial,eP⟩).trans (or_f eP)))) rfl rfl
  intro ρ6 w7 k8 U9 D10;replace H:=H.ext k8
  have f11:ρ6 1=(p b1 0):=U9 1 rfl
  have f13:ρ6 16=(.bool qq5):=D10 9 rfl
  clear U9 D10 k8
  refine Ro.nil (nT ?_)
  refine Wp.cond (t:=qq5) f13 ?_ ?_
  · intro c14
    have c14r:(((decide (3<((bs.length:Nat):Int))) || (decide (4<((dl.length:Nat):Int)))))=true:=c14
    replace c14:=c14r
    simp only [bx] at c14
    refine Wp.seq (Wp.region ?_)
    refine Ro.q (v:=(i 3)) rfl rfl (zD rfl) rfl ?_
    refine Ro.nil (nT (Wp.ret (rT (zN ?_))))
    refine zI (v:=(i 3)) Tryz.results122 rfl ⟨H.keep,?_⟩
    refine congrArg (Value.int _) ?_
    unfold yI
    rw [c14r];rfl
  intro c14
  have c14r:(((decide (3<((bs.length:Nat):Int))) || (decide (4<((dl.length:Nat):Int)))))=false:=c14
  replace c14:=c14r
  simp only [bx] at c14
  refine Wp.skip (nT (Wp.seq (Wp.seq ?_)))
  let qq15:Bool:=decide (((bs.length:Nat):Int)=0)
  let qq16:Bool:=decide (((dl.length:Nat):Int)=0)
  let qq17:Bool:=(qq15 || qq16)
  let qq18:Bool:=decide ((-1000)≤base) && decide (base≤1000)
  let qq19:Bool:=(qq17 || (!qq18))
  let qq20:Bool:=(decide (0≤blo) && decide (blo≤bhi)) && decide (bhi≤5)
  let qq21:Bool:=(qq19 || (!qq20))
  let qq22:Bool:=(qq21 || (decide (z.frm≠0)))
  refine Wp.factsS 30 [is (p b1 1),is (.slice ab bs.length cab),is (i ((bs.length:Nat):Int)),is (.bool qq15),is (.bool qq15),gdv (True∧qq15=false) (p b1 2),gdv (True∧qq15=false) (.slice ad dl.length cad),gdv (True∧qq15=false) (i ((dl.length:Nat):Int)),gdv (True∧qq15=false) (.bool qq16),is (.bool qq17),is (.bool qq17),gdv (True∧qq17=false) (p b1 0),gdv (True∧qq17=false) (i base),gdv (True∧qq17=false) (.bool qq18),gdv (True∧qq17=false) (.bool (!qq18)),is (.bool qq19),is (.bool qq19),gdv (True∧qq19=false) (p b1 3),gdv (True∧qq19=false) (.agg #[(i blo),(i bhi)]),gdv (True∧qq19=false) (.bool qq20),gdv (True∧qq19=false) (.bool (!qq20)),is (.bool qq21),is (.bool qq21),gdv (True∧qq21=false) (p b1 1),gdv (True∧qq21=false) (.slice ab bs.length cab),gdv (True∧qq21=false) (p (blk ab) (yP ab+((0:Int).toNat)*3)),gdv (True∧qq21=false) (p (blk ab) (yP ab+((0:Int).toNat)*3)),gdv (True∧qq21=false) (i z.frm),gdv (True∧qq21=false) (.bool (decide (z.frm≠0))),is (.bool qq22)] (by kernel_rfl) (Mi (Mi (Mi (Mi (Mi (Mg (Mg (Mg (Mg (Mi (Mi (Mg (Mg (Mg (Mg (Mi (Mi (Mg (Mg (Mg (Mg (Mi (Mi (Mg (Mg (Mg (Mg (Mg (Mg (Mi Mono.nil)))))))))))))))))))))))))))))) (fun w' k=>H.ext k) ?_ ?_
  · refine ⟨?_,?_,?_,?_,?_,?_,?_,?_,?_,?_,?_,?_,?_,?_,?_,?_,?_,?_,?_,?_,?_,?_,?_,?_,?_,?_,?_,?_,?_,?_,trivial⟩
    · exact Ob.q rfl (fun _ _ B U D=>(zA fo27_1 ((U 1 rfl).trans f11) rfl)) rfl rfl
    · exact Ob.q rfl (fun _ _ B U D=>(zE t1_22 (D 0 rfl) (B.cells 0 rfl) (j:=1) rfl rfl)) rfl rfl
    · exact Ob.q rfl (fun _ _ B U D=>(yG Tryz.underlying22 (D 1 rfl) (v:=bs.length) rfl)) rfl rfl
    · exact Ob.q rfl (fun _ _ B U D=>(vR (D 2 rfl) rfl)) rfl rfl
    · exact Ob.q rfl (fun _ _ B U D=>(zB (D 3 rfl))) rfl rfl
    · exact Ob.g0 rfl rfl (fun _ _ _ D=>D 4 rfl) rfl (fun _ _ B U D hC hg=>(zA fo27_2 ((U 1 rfl).trans f11) rfl)) rfl
    · exact Ob.g0 rfl rfl (fun _ _ _ D=>D 4 rfl) rfl (fun _ _ B U D hC hg=>(zE t1_23 (gdy (D 5 rfl) ⟨hC,hg⟩) (B.cells 0 rfl) (j:=2) rfl rfl)) rfl
    · exact Ob.g0 rfl rfl (fun _ _ _ D=>D 4 rfl) rfl (fun _ _ B U D hC hg=>(yG Tryz.underlying23 (gdy (D 6 rfl) ⟨hC,hg⟩) (v:=dl.length) rfl)) rfl
    · exact Ob.g0 rfl rfl (fun _ _ _ D=>D 4 rfl) rfl (fun _ _ B U D hC hg=>(vR (gdy (D 7 rfl) ⟨hC,hg⟩) rfl)) rfl
    · exact Ob.q rfl (fun _ _ B U D=>(zQ (v:=(.bool qq17)) (D 4 rfl) (fun eP=>or_t eP) (fun eP=>(gdy (D 8 rfl) ⟨trivial,eP⟩).trans (or_f eP)))) rfl rfl
    · exact Ob.q rfl (fun _ _ B U D=>(zB (D 9 rfl))) rfl rfl
    · exact Ob.g0 rfl rfl (fun _ _ _ D=>D 10 rfl) rfl (fun _ _ B U D hC hg=>(zA fo27_0 ((U 1 rfl).trans f11) rfl)) rfl
    · exact Ob.g0 rfl rfl (fun _ _ _ D=>D 10 rfl) rfl (fun _ _ B U D hC hg=>(zE zM (gdy (D 11 rfl) ⟨hC,hg⟩) (B.cells 0 rfl) (j:=0) rfl rfl)) rfl
    · exact Ob.gd (C:=True) (g:=qq17) rfl rfl (fun ρ' w' U D=>⟨fun _=>(D 10 rfl),fun h=>absurd trivial h⟩) (fun _ h=>⟨fun hc=>absurd hc (yQ h),fun _=>rfl⟩) fun ρ' w' B U D hC hg=>zH rfl en41 (ce (v:=(i base)) (gdy (D 12 rfl) ⟨hC,hg⟩) (ce (v:=(i (-1000))) rfl (ce (v:=(i 1000)) rfl cn))) (c41 base (-1000) 1000 _ ) (fun u w2 k2 hu=>⟨k2,⟨fun _=>hu,fun n=>absurd ⟨hC,hg⟩ n⟩⟩)
    · exact Ob.g0 rfl rfl (fun _ _ _ D=>D 10 rfl) rfl (fun _ _ B U D hC hg=>(yN (gdy (D 13 rfl) ⟨hC,hg⟩))) rfl
    · exact Ob.q rfl (fun _ _ B U D=>(zQ (v:=(.bool qq19)) (D 10 rfl) (fun eP=>or_t eP) (fun eP=>(gdy (D 14 rfl) ⟨trivial,eP⟩).trans (or_f eP)))) rfl rfl
    · exact Ob.q rfl (fun _ _ B U D=>(zB (D 15 rfl))) rfl rfl
    · exact Ob.g0 rfl rfl (fun _ _ _ D=>D 16 rfl) rfl (fun _ _ B U D hC hg=>(zA fo27_3 ((U 1 rfl).trans f11) rfl)) rfl
    · exact Ob.g0 rfl rfl (fun _ _ _ D=>D 16 rfl) rfl (fun _ _ B U D hC hg=>(zJ ta25 (gdy (D 17 rfl) ⟨hC,hg⟩) (B.cells 0 rfl) (j:=3) rfl (vs:=[i blo,i bhi]) rfl rfl)) rfl
    · exact Ob.gd (C:=True) (g:=qq19) rfl rfl (fun ρ' w' U D=>⟨fun _=>(D 16 rfl),fun h=>absurd trivial h⟩) (fun _ h=>⟨fun hc=>absurd hc (yQ h),fun _=>rfl⟩) fun ρ' w' B U D hC hg=>zH rfl en127 (ce (v:=(.agg #[(i blo),(i bhi)])) (gdy (D 18 rfl) ⟨hC,hg⟩) (ce (v:=(i 5)) rfl cn)) (c127 blo bhi 5 _ ) (fun u w2 k2 hu=>⟨k2,⟨fun _=>hu,fun n=>absurd ⟨hC,hg⟩ n⟩⟩)
    · exact Ob.g0 rfl rfl (fun _ _ _ D=>D 16 rfl) rfl (fun _ _ B U D hC hg=>(yN (gdy (D 19 rfl) ⟨hC,hg⟩))) rfl
    · exact Ob.q rfl (fun _ _ B U D=>(zQ (v:=(.bool qq21)) (D 16 rfl) (fun eP=>or_t eP) (fun eP=>(gdy (D 20 rfl) ⟨trivial,eP⟩).trans (or_f eP)))) rfl rfl
    · exact Ob.q rfl (fun _ _ B U D=>(zB (D 21 rfl))) rfl rfl
    · exact Ob.g0 rfl rfl (fun _ _ _ D=>D 22 rfl) rfl (fun _ _ B U D hC hg=>(zA fo27_1 ((U 1 rfl).trans f11) rfl)) rfl
    · exact Ob.g0 rfl rfl (fun _ _ _ D=>D 22 rfl) rfl (fun _ _ B U D hC hg=>(zE t1_22 (gdy (D 23 rfl) ⟨hC,hg⟩) (B.cells 0 rfl) (j:=1) rfl rfl)) rfl
    · exact Ob.g0 rfl rfl (fun _ _ _ D=>D 22 rfl) rfl (fun _ _ B U D hC hg=>(zY ts22 (hab.ext B.keep) (gdy (D 24 rfl) ⟨hC,hg⟩) (by simp) rfl (by omega) (zW (hz (by have hg:=(show ((((decide (((bs.length:Nat):Int)=0)) || (decide (((dl.length:Nat):Int)=0))) || (!(decide ((-1000)≤base) && decide (base≤1000)))) || (!((decide (0≤blo) && decide (blo≤bhi)) && decide (bhi≤5))))=false from hg);simp only [bx] at hg;omega))))) rfl
    · exact Ob.g0 rfl rfl (fun _ _ _ D=>D 22 rfl) rfl (fun _ _ B U D hC hg=>(zA fo159_0 (gdy (D 25 rfl) ⟨hC,hg⟩) rfl)) rfl
    · exact Ob.g0 rfl rfl (fun _ _ _ D=>D 22 rfl) rfl (fun _ _ B U D hC hg=>(zE zM (gdy (D 26 rfl) ⟨hC,hg⟩) ((hab.ext B.keep).cells (zW (hz (by have hg:=(show ((((decide (((bs.length:Nat):Int)=0)) || (decide (((dl.length:Nat):Int)=0))) || (!(decide ((-1000)≤base) && decide (base≤1000)))) || (!((decide (0≤blo) && decide (blo≤bhi)) && decide (bhi≤5))))=false from hg);simp only [bx] at hg;omega)))) (j:=0) rfl rfl)) rfl
    · exact Ob.g0 rfl rfl (fun _ _ _ D=>D 22 rfl) rfl (fun _ _ B U D hC hg=>(vW (gdy (D 27 rfl) ⟨hC,hg⟩) rfl)) rfl
    · exact Ob.q rfl (fun _ _ B U D=>(zQ (v:=(.bool qq22)) (D 22 rfl) (fun eP=>or_t eP) (fun eP=>(gdy (D 28 rfl) ⟨trivial,eP⟩).trans (or_f eP)))) rfl rfl
  intro ρ23 w24 k25 U26 D27;replace H:=H.ext k25
  have f28:=(U26 1 rfl).trans f11
  have f30:ρ23 46=(.bool qq22):=D27 29 rfl
  clear U26 D27 k25
  refine Ro.nil (nT ?_)
  refine Wp.cond (t:=qq22) f30 ?_ ?_
  · intro c31
    have c31r:((((((decide (((bs.length:Nat):Int)=0)) || (decide (((dl.length:Nat):Int)=0))) || (!(decide ((-1000)≤base) && decide (base≤1000)))) || (!((decide (0≤blo) && decide (blo≤bhi)) && decide (bhi≤5)))) || (decide (z.frm≠0))))=true:=c31
    replace c31:=c31r
    simp only [bx] at c31
    refine Wp.seq (Wp.region ?_)
    refine Ro.q (v:=(i 1)) rfl rfl (zD rfl) rfl ?_
    refine Ro.nil (nT (Wp.ret (rT (zN ?_))))
    refine zI (v:=(i 1)) Tryz.results122 rfl ⟨H.keep,?_⟩
    exact congrArg (Value.int _) (glassE_head c14r hz c31r).symm
  intro c31
  have c31r:((((((decide (((bs.length:Nat):Int)=0)) || (decide (((dl.length:Nat):Int)=0))) || (!(decide ((-1000)≤base) && decide (base≤1000)))) || (!((decide (0≤blo) && decide (blo≤bhi)) && decide (bhi≤5)))) || (decide (z.frm≠0))))=false:=c31
  replace c31:=c31r
  simp only [bx] at c31
  refine Wp.skip (nT (Wp.seq (Wp.seq (Wp.region ?_))))
  refine Ro.q (v:=(i 0)) rfl rfl (zD rfl) rfl ?_
  refine Ro.nil (nT (Wp.block ?_))
  refine Wp.loop (fun kM ds ρ w'=>∃ n:Int,ds=[]∧(0≤n∧n≤bs.length)∧kM=((bs.length:Int)-n).toNat∧ρ 1=(p b1 0)∧ρ 3=(i n)∧S Nm w [(b1,.cells [i base,.slice ab bs.length cab,.slice ad dl.length cad,i blo,i bhi].toArray 27 (0,0))] w'∧(∀ j,j<n.toNat→bandAt bs j)) (((bs.length:Int)-0).toNat) ⟨0,rfl,(by omega),rfl,f28,rfl,H,(by intro j hj;exact absurd hj (by simp))⟩ ?_
  clear H
  intro kρ34 dsρ34 ρ34 w35
  rintro ⟨n,rfl,hb37,hk36,f32,f33,H,hi38⟩
  refine Wp.seq (Wp.seq (Wp.region ?_))
  refine Ro.q (v:=(i n)) rfl rfl (zB f33) rfl ?_
  refine Ro.q (v:=(p b1 1)) rfl rfl (zA fo27_1 f32 rfl) rfl ?_
  refine Ro.q rfl rfl (zE t1_22 rfl (H.cells 0 rfl) (j:=1) rfl rfl) rfl ?_
  refine Ro.q rfl rfl (yG Tryz.underlying22 rfl (v:=bs.length) rfl) rfl ?_
  refine Ro.q rfl rfl (yB rfl rfl) rfl ?_
  refine Ro.nil (nT ?_)
  refine Wp.cond (t:=decide (n<((bs.length:Nat):Int))) rfl ?_ ?_
  · intro c39
    have c39r:=c39
    simp only [bx] at c39
    obtain ⟨e,he⟩:=vQ bs n (by omega) (by omega)
    obtain ⟨q,hq⟩:=ecell' bs n e (by omega)
    refine Wp.skip (nT (Wp.seq (Wp.block (Wp.seq (Wp.region ?_)))))
    refine Ro.q (v:=(p b1 1)) rfl rfl (zA fo27_1 f32 rfl) rfl ?_
    refine Ro.q rfl rfl (zE t1_22 rfl (H.cells 0 rfl) (j:=1) rfl rfl) rfl ?_
    refine Ro.q (v:=(i n)) rfl rfl (zB f33) rfl ?_
    refine Ro.q rfl rfl (zY ts22 (hab.ext H.keep) rfl (by simp) rfl (by omega) (zW he)) rfl ?_
    refine Ro.q rfl rfl (zJ ta159 rfl ((hab.ext H.keep).cells (zW he)) (j:=0) rfl (vs:=[i e.frm,i e.creep.lo,i e.creep.hi]) rfl rfl) rfl ?_
    refine Ro.d rfl rfl rfl (H.new (l:=[i 0,i 0,i 0]) rfl zv159 rfl ?_)
    intro b40 w41 Hn;replace H:=Hn;clear Hn
    refine Ro.d0 rfl rfl rfl (H.store (j:=0) (off:=0) (k:=3) rfl sz159 rfl (v:=(.agg #[(i e.frm),(i e.creep.lo),(i e.creep.hi)])) rfl rfl rfl rfl rfl (by simp [Value.oneCell']) (cs':=[i e.frm,i e.creep.lo,i e.creep.hi]) rfl ?_)
    intro w42 Hn;replace H:=Hn;clear Hn
    refine Ro.nil (nT (Wp.seq ?_))
    let qq43:Bool:=decide (0≤e.frm) && decide (e.frm≤16)
    let qq44:Bool:=(decide (0≤e.creep.lo) && decide (e.creep.lo≤e.creep.hi)) && decide (e.creep.hi≤3)
    let qq45:Bool:=(!qq43 || (!qq44))
    let qq46:Bool:=(decide (0<n) && (decide (e.frm≤q.frm)))
    let qq47:Bool:=(qq45 || qq46)
    refine Wp.drawnS 26 [0,1,3,7,15,31,63,127,255,511,1023,2047,4095,8191,16383,32767,16383,81919,16383,278527,999423,2047999,4145151,8388607,16777215,33554431] [is (p b40 0),is (i e.frm),is (.bool qq43),is (.bool (!qq43)),is (.bool (!qq43)),gdv (True∧(!qq43)=false) (p b40 1),gdv (True∧(!qq43)=false) (.agg #[(i e.creep.lo),(i e.creep.hi)]),gdv (True∧(!qq43)=false) (.bool qq44),gdv (True∧(!qq43)=false) (.bool (!qq44)),is (.bool qq45),is (.bool qq45),gdv (True∧qq45=false) (i n),gdv (True∧qq45=false) (.bool (decide (0<n))),gdv (True∧qq45=false) (.bool (decide (0<n))),gdv ((True∧qq45=false)∧(decide (0<n))=true) (p b40 0),gdv ((True∧qq45=false)∧(decide (0<n))=true) (i e.frm),gdv ((True∧qq45=false)∧(decide (0<n))=true) (p b1 1),gdv ((True∧qq45=false)∧(decide (0<n))=true) (.slice ab bs.length cab),gdv ((True∧qq45=false)∧(decide (0<n))=true) (i n),gdv ((True∧qq45=false)∧(decide (0<n))=true) (i (n-1)),gdv ((True∧qq45=false)∧(decide (0<n))=true) (p (blk ab) (yP ab+((n-1).toNat)*3)),gdv ((True∧qq45=false)∧(decide (0<n))=true) (p (blk ab) (yP ab+((n-1).toNat)*3)),gdv ((True∧qq45=false)∧(decide (0<n))=true) (i q.frm),gdv ((True∧qq45=false)∧(decide (0<n))=true) (.bool (decide (e.frm≤q.frm))),gdv (True∧qq45=false) (.bool qq46),is (.bool qq47)] (by kernel_rfl) (by kernel_rfl) rfl (Mi (Mi (Mi (Mi (Mi (Mg (Mg (Mg (Mg (Mi (Mi (Mg (Mg (Mg (Mg (Mg (Mg (Mg (Mg (Mg (Mg (Mg (Mg (Mg (Mg (Mi Mono.nil)))))))))))))))))))))))))) (fun w' k=>H.ext k) ?_ ?_
    · refine ⟨?_,?_,?_,?_,?_,?_,?_,?_,?_,?_,?_,?_,?_,?_,?_,?_,?_,?_,?_,?_,?_,?_,?_,?_,?_,?_,trivial⟩
      · exact Ob.q rfl (fun _ _ B U D=>(zA fo159_0 (show (_:Value)=(p b40 0) from U 4 rfl) rfl)) rfl rfl
      · exact Ob.q rfl (fun _ _ B U D=>(zE zM (D 0 rfl) (B.cells 0 rfl) (j:=0) rfl rfl)) rfl rfl
      · exact Ob.mk rfl fun ρ' w' B U D=>zH rfl en41 (ce (v:=(i e.frm)) (D 1 rfl) (ce (v:=(i 0)) rfl (ce (v:=(i 16)) rfl cn))) (c41 e.frm 0 16 _ ) (fun u w2 k2 hu=>⟨k2,hu⟩)
      · exact Ob.q rfl (fun _ _ B U D=>(yN (D 2 rfl))) rfl rfl
      · exact Ob.q rfl (fun _ _ B U D=>(zB (D 3 rfl))) rfl rfl
      · exact Ob.g0 rfl rfl (fun _ _ _ D=>D 4 rfl) rfl (fun _ _ B U D hC hg=>(zA fo159_1 (show (_:Value)=(p b40 0) from U 4 rfl) rfl)) rfl
      · exact Ob.g0 rfl rfl (fun _ _ _ D=>D 4 rfl) rfl (fun _ _ B U D hC hg=>(zJ ta25 (gdy (D 5 rfl) ⟨hC,hg⟩) (B.cells 0 rfl) (j:=1) rfl (vs:=[i e.creep.lo,i e.creep.hi]) rfl rfl)) rfl
      · exact Ob.gd (C:=True) (g:=!qq43) rfl rfl (fun ρ' w' U D=>⟨fun _=>(D 4 rfl),fun h=>absurd trivial h⟩) (fun _ h=>⟨fun hc=>absurd hc (yQ h),fun _=>rfl⟩) fun ρ' w' B U D hC hg=>zH rfl en127 (ce (v:=(.agg #[(i e.creep.lo),(i e.creep.hi)])) (gdy (D 6 rfl) ⟨hC,hg⟩) (ce (v:=(i 3)) rfl cn)) (c127 e.creep.lo e.creep.hi 3 _ ) (fun u w2 k2 hu=>⟨k2,⟨fun _=>hu,fun n=>absurd ⟨hC,hg⟩ n⟩⟩)
      · exact Ob.g0 rfl rfl (fun _ _ _ D=>D 4 rfl) rfl (fun _ _ B U D hC hg=>(yN (gdy (D 7 rfl) ⟨hC,hg⟩))) rfl
      · exact Ob.q rfl (fun _ _ B U D=>(zQ (v:=(.bool qq45)) (D 4 rfl) (fun eP=>or_t eP) (fun eP=>(gdy (D 8 rfl) ⟨trivial,eP⟩).trans (or_f eP)))) rfl rfl
      · exact Ob.q rfl (fun _ _ B U D=>(zB (D 9 rfl))) rfl rfl
      · exact Ob.g0 rfl rfl (fun _ _ _ D=>D 10 rfl) rfl (fun _ _ B U D hC hg=>(zB ((U 3 rfl).trans f33))) rfl
      · exact Ob.g0 rfl rfl (fun _ _ _ D=>D 10 rfl) rfl (fun _ _ B U D hC hg=>(r_gtr (gdy (D 11 rfl) ⟨hC,hg⟩) rfl)) rfl
      · exact Ob.g0 rfl rfl (fun _ _ _ D=>D 10 rfl) rfl (fun _ _ B U D hC hg=>(zB (gdy (D 12 rfl) ⟨hC,hg⟩))) rfl
      · exact Ob.gr rfl rfl (fun _ _ _ D=>D 13 rfl) rfl (fun _ _ B U D hC hg=>(zA fo159_0 (show (_:Value)=(p b40 0) from U 4 rfl) rfl)) rfl
      · exact Ob.gr rfl rfl (fun _ _ _ D=>D 13 rfl) rfl (fun _ _ B U D hC hg=>(zE zM (gdy (D 14 rfl) ⟨hC,hg⟩) (B.cells 0 rfl) (j:=0) rfl rfl)) rfl
      · exact Ob.gr rfl rfl (fun _ _ _ D=>D 13 rfl) rfl (fun _ _ B U D hC hg=>(zA fo27_1 ((U 1 rfl).trans f32) rfl)) rfl
      · exact Ob.gr rfl rfl (fun _ _ _ D=>D 13 rfl) rfl (fun _ _ B U D hC hg=>(zE t1_22 (gdy (D 16 rfl) ⟨hC,hg⟩) (B.cells 1 rfl) (j:=1) rfl rfl)) rfl
      · exact Ob.gr rfl rfl (fun _ _ _ D=>D 13 rfl) rfl (fun _ _ B U D hC hg=>(zB ((U 3 rfl).trans f33))) rfl
      · exact Ob.gr rfl rfl (fun _ _ _ D=>D 13 rfl) rfl (fun _ _ B U D hC hg=>(yT (gdy (D 18 rfl) ⟨hC,hg⟩) rfl (by constructor <;>omega))) rfl
      · exact Ob.gr rfl rfl (fun _ _ _ D=>D 13 rfl) rfl (fun _ _ B U D hC hg=>(zY ts22 (hab.ext B.keep) (gdy (D 17 rfl) ⟨hC,hg⟩) (by simp) (gdy (D 19 rfl) ⟨hC,hg⟩) (by first | omega | (have:=of_decide_eq_true hg;omega)) (zW (hq (of_decide_eq_true hg))))) rfl
      · exact Ob.gr rfl rfl (fun _ _ _ D=>D 13 rfl) rfl (fun _ _ B U D hC hg=>(zA fo159_0 (gdy (D 20 rfl) ⟨hC,hg⟩) rfl)) rfl
      · exact Ob.gr rfl rfl (fun _ _ _ D=>D 13 rfl) rfl (fun _ _ B U D hC hg=>(zE zM (gdy (D 21 rfl) ⟨hC,hg⟩) ((hab.ext B.keep).cells (zW (hq (of_decide_eq_true hg)))) (j:=0) rfl rfl)) rfl
      · exact Ob.gr rfl rfl (fun _ _ _ D=>D 13 rfl) rfl (fun _ _ B U D hC hg=>(vD (gdy (D 15 rfl) ⟨hC,hg⟩) (gdy (D 22 rfl) ⟨hC,hg⟩))) rfl
      · exact Ob.g0 rfl rfl (fun _ _ _ D=>D 10 rfl) rfl (fun _ _ B U D hC hg=>(zQ (v:=(.bool qq46)) (gdy (D 13 rfl) ⟨hC,hg⟩) (fun eP=>(gdy (D 23 rfl) ⟨⟨hC,hg⟩,eP⟩).trans (yF eP)) (fun eP=>yE eP))) rfl
      · exact Ob.q rfl (fun _ _ B U D=>(zQ (v:=(.bool qq47)) (D 10 rfl) (fun eP=>or_t eP) (fun eP=>(gdy (D 24 rfl) ⟨trivial,eP⟩).trans (or_f eP)))) rfl rfl
    intro ρ48 w49 k50 U51 D52;replace H:=H.ext k50
    have f53:=(U51 1 rfl).trans f32
    have f54:=(U51 3 rfl).trans f33
    have f55:ρ48 84=(.bool qq47):=D52 25 rfl
    clear U51 D52 k50
    refine Ro.nil (nT ?_)
    refine Wp.cond (t:=qq47) f55 ?_ ?_
    · intro c56
      have c56r:(((!(decide (0≤e.frm) && decide (e.frm≤16)) || (!((decide (0≤e.creep.lo) && decide (e.creep.lo≤e.creep.hi)) && decide (e.creep.hi≤3)))) || (decide (0<n) && (decide (e.frm≤q.frm)))))=true:=c56
      replace c56:=c56r
      simp only [bx] at c56
      refine Wp.seq (Wp.region ?_)
      refine Ro.q (v:=(i 1)) rfl rfl (zD rfl) rfl ?_
      refine Ro.nil (nT (Wp.ret (rB (rT (rT (rB (rT (zN ?_))))))))
      refine zI (v:=(i 1)) Tryz.results122 rfl ⟨H.keep,?_⟩
      exact congrArg (Value.int _) (glassE_one c14r (.inr (.inr (.inl (bands_bad he hq (by omega) (by omega)))))).symm
    intro c56
    have c56r:(((!(decide (0≤e.frm) && decide (e.frm≤16)) || (!((decide (0≤e.creep.lo) && decide (e.creep.lo≤e.creep.hi)) && decide (e.creep.hi≤3)))) || (decide (0<n) && (decide (e.frm≤q.frm)))))=false:=c56
    replace c56:=c56r
    simp only [bx] at c56
    refine Wp.skip (nB (nT (Wp.region ?_)))
    refine Ro.q (v:=(i n)) rfl rfl (zB f54) rfl ?_
    refine Ro.q rfl rfl (zU rfl rfl (by constructor <;>omega)) rfl ?_
    refine Ro.q (v:=(i (n+1))) rfl rfl (zD rfl) rfl ?_
    refine Ro.nil (nT ?_)
    exact ⟨((bs.length:Int)-(n+1)).toNat,by omega,(n+1),rfl,(by omega),rfl,f53,rfl,(H.drop 1),(bands_step hi38 he hq (by omega) (by omega))⟩
  intro c39
  have c39r:=c39
  simp only [bx] at c39
  refine Wp.exit (xT (xT (xB (nT (Wp.seq (Wp.seq (Wp.region ?_)))))))
  refine Ro.q (v:=(i 0)) rfl rfl (zD rfl) rfl ?_
  refine Ro.nil (nT (Wp.block ?_))
  refine Wp.loop (fun kM ds ρ w'=>∃ m:Int,ds=[]∧(0≤m∧m≤dl.length)∧kM=((dl.length:Int)-m).toNat∧ρ 1=(p b1 0)∧ρ 5=(i m)∧S Nm w [(b1,.cells [i base,.slice ab bs.length cab,.slice ad dl.length cad,i blo,i bhi].toArray 27 (0,0))] w'∧(∀ j,j<m.toNat→depthAt dl j)) (((dl.length:Int)-0).toNat) ⟨0,rfl,(by omega),rfl,f32,rfl,H,(by intro j hj;exact absurd hj (by simp))⟩ ?_
  clear H
  intro kρ59 dsρ59 ρ59 w60
  rintro ⟨m,rfl,hb62,hk61,f57,f58,H,hi63⟩
  refine Wp.seq (Wp.seq (Wp.region ?_))
  refine Ro.q (v:=(i m)) rfl rfl (zB f58) rfl ?_
  refine Ro.q (v:=(p b1 2)) rfl rfl (zA fo27_2 f57 rfl) rfl ?_
  refine Ro.q rfl rfl (zE t1_23 rfl (H.cells 0 rfl) (j:=2) rfl rfl) rfl ?_
  refine Ro.q rfl rfl (yG Tryz.underlying23 rfl (v:=dl.length) rfl) rfl ?_
  refine Ro.q rfl rfl (yB rfl rfl) rfl ?_
  refine Ro.nil (nT ?_)
  refine Wp.cond (t:=decide (m<((dl.length:Nat):Int))) rfl ?_ ?_
  · intro c64
    have c64r:=c64
    simp only [bx] at c64
    obtain ⟨e2,he2⟩:=vQ dl m (by omega) (by omega)
    obtain ⟨q2,hq2⟩:=ecell' dl m e2 (by omega)
    refine Wp.skip (nT (Wp.seq (Wp.block (Wp.seq (Wp.region ?_)))))
    refine Ro.q (v:=(p b1 2)) rfl rfl (zA fo27_2 f57 rfl) rfl ?_
    refine Ro.q rfl rfl (zE t1_23 rfl (H.cells 0 rfl) (j:=2) rfl rfl) rfl ?_
    refine Ro.q (v:=(i m)) rfl rfl (zB f58) rfl ?_
    refine Ro.q rfl rfl (zY ts23 (had.ext H.keep) rfl (by simp) rfl (by omega) (zW he2)) rfl ?_
    refine Ro.q rfl rfl (zJ ta163 rfl ((had.ext H.keep).cells (zW he2)) (j:=0) rfl (vs:=[i e2.frm,i e2.sink]) rfl rfl) rfl ?_
    refine Ro.d rfl rfl rfl (H.new (l:=[i 0,i 0]) rfl zv163 rfl ?_)
    intro b65 w66 Hn;replace H:=Hn;clear Hn
    refine Ro.d0 rfl rfl rfl (H.store (j:=0) (off:=0) (k:=2) rfl sz163 rfl (v:=(.agg #[(i e2.frm),(i e2.sink)])) rfl rfl rfl rfl rfl (by simp [Value.oneCell']) (cs':=[i e2.frm,i e2.sink]) rfl ?_)
    intro w67 Hn;replace H:=Hn;clear Hn
    refine Ro.nil (nT (Wp.seq ?_))
    let qq68:Bool:=decide (0≤e2.frm) && decide (e2.frm≤500)
    let qq69:Bool:=decide (0≤e2.sink) && decide (e2.sink≤30)
    let qq70:Bool:=(!qq68 || (!qq69))
    let qq71:Bool:=decide (e2.frm≤q2.frm)
    let qq72:Bool:=decide (e2.sink<q2.sink)
    let qq73:Bool:=(qq71 || qq72)
    let qq74:Bool:=(decide (0<m) && qq73)
    let qq75:Bool:=(qq70 || qq74)
    refine Wp.drawnS 38 [0,1,3,7,15,31,63,127,255,511,1023,2047,4095,8191,16383,32767,16383,81919,16383,278527,999423,2047999,4145151,8388607,16777215,33554431,67108863,33554431,167772159,33554431,570425343,2046820351,4194303999,8489271295,17179869183,34359738367,68719476735,137438953471] [is (p b65 0),is (i e2.frm),is (.bool qq68),is (.bool (!qq68)),is (.bool (!qq68)),gdv (True∧(!qq68)=false) (p b65 1),gdv (True∧(!qq68)=false) (i e2.sink),gdv (True∧(!qq68)=false) (.bool qq69),gdv (True∧(!qq68)=false) (.bool (!qq69)),is (.bool qq70),is (.bool qq70),gdv (True∧qq70=false) (i m),gdv (True∧qq70=false) (.bool (decide (0<m))),gdv (True∧qq70=false) (.bool (decide (0<m))),gdv ((True∧qq70=false)∧(decide (0<m))=true) (p b65 0),gdv ((True∧qq70=false)∧(decide (0<m))=true) (i e2.frm),gdv ((True∧qq70=false)∧(decide (0<m))=true) (p b1 2),gdv ((True∧qq70=false)∧(decide (0<m))=true) (.slice ad dl.length cad),gdv ((True∧qq70=false)∧(decide (0<m))=true) (i m),gdv ((True∧qq70=false)∧(decide (0<m))=true) (i (m-1)),gdv ((True∧qq70=false)∧(decide (0<m))=true) (p (blk ad) (yP ad+((m-1).toNat)*2)),gdv ((True∧qq70=false)∧(decide (0<m))=true) (p (blk ad) (yP ad+((m-1).toNat)*2)),gdv ((True∧qq70=false)∧(decide (0<m))=true) (i q2.frm),gdv ((True∧qq70=false)∧(decide (0<m))=true) (.bool qq71),gdv ((True∧qq70=false)∧(decide (0<m))=true) (.bool qq71),gdv (((True∧qq70=false)∧(decide (0<m))=true)∧qq71=false) (p b65 1),gdv (((True∧qq70=false)∧(decide (0<m))=true)∧qq71=false) (i e2.sink),gdv (((True∧qq70=false)∧(decide (0<m))=true)∧qq71=false) (p b1 2),gdv (((True∧qq70=false)∧(decide (0<m))=true)∧qq71=false) (.slice ad dl.length cad),gdv (((True∧qq70=false)∧(decide (0<m))=true)∧qq71=false) (i m),gdv (((True∧qq70=false)∧(decide (0<m))=true)∧qq71=false) (i (m-1)),gdv (((True∧qq70=false)∧(decide (0<m))=true)∧qq71=false) (p (blk ad) (yP ad+((m-1).toNat)*2)),gdv (((True∧qq70=false)∧(decide (0<m))=true)∧qq71=false) (p (blk ad) (yP ad+((m-1).toNat)*2+1)),gdv (((True∧qq70=false)∧(decide (0<m))=true)∧qq71=false) (i q2.sink),gdv (((True∧qq70=false)∧(decide (0<m))=true)∧qq71=false) (.bool qq72),gdv ((True∧qq70=false)∧(decide (0<m))=true) (.bool qq73),gdv (True∧qq70=false) (.bool qq74),is (.bool qq75)] (by kernel_rfl) (by kernel_rfl) rfl (Mi (Mi (Mi (Mi (Mi (Mg (Mg (Mg (Mg (Mi (Mi (Mg (Mg (Mg (Mg (Mg (Mg (Mg (Mg (Mg (Mg (Mg (Mg (Mg (Mg (Mg (Mg (Mg (Mg (Mg (Mg (Mg (Mg (Mg (Mg (Mg (Mg (Mi Mono.nil)))))))))))))))))))))))))))))))))))))) (fun w' k=>H.ext k) ?_ ?_
    · refine ⟨?_,?_,?_,?_,?_,?_,?_,?_,?_,?_,?_,?_,?_,?_,?_,?_,?_,?_,?_,?_,?_,?_,?_,?_,?_,?_,?_,?_,?_,?_,?_,?_,?_,?_,?_,?_,?_,?_,trivial⟩
      · exact Ob.q rfl (fun _ _ B U D=>(zA fo163_0 (show (_:Value)=(p b65 0) from U 6 rfl) rfl)) rfl rfl
      · exact Ob.q rfl (fun _ _ B U D=>(zE zM (D 0 rfl) (B.cells 0 rfl) (j:=0) rfl rfl)) rfl rfl
      · exact Ob.mk rfl fun ρ' w' B U D=>zH rfl en41 (ce (v:=(i e2.frm)) (D 1 rfl) (ce (v:=(i 0)) rfl (ce (v:=(i 500)) rfl cn))) (c41 e2.frm 0 500 _ ) (fun u w2 k2 hu=>⟨k2,hu⟩)
      · exact Ob.q rfl (fun _ _ B U D=>(yN (D 2 rfl))) rfl rfl
      · exact Ob.q rfl (fun _ _ B U D=>(zB (D 3 rfl))) rfl rfl
      · exact Ob.g0 rfl rfl (fun _ _ _ D=>D 4 rfl) rfl (fun _ _ B U D hC hg=>(zA fo163_1 (show (_:Value)=(p b65 0) from U 6 rfl) rfl)) rfl
      · exact Ob.g0 rfl rfl (fun _ _ _ D=>D 4 rfl) rfl (fun _ _ B U D hC hg=>(zE zM (gdy (D 5 rfl) ⟨hC,hg⟩) (B.cells 0 rfl) (j:=1) rfl rfl)) rfl
      · exact Ob.gd (C:=True) (g:=!qq68) rfl rfl (fun ρ' w' U D=>⟨fun _=>(D 4 rfl),fun h=>absurd trivial h⟩) (fun _ h=>⟨fun hc=>absurd hc (yQ h),fun _=>rfl⟩) fun ρ' w' B U D hC hg=>zH rfl en41 (ce (v:=(i e2.sink)) (gdy (D 6 rfl) ⟨hC,hg⟩) (ce (v:=(i 0)) rfl (ce (v:=(i 30)) rfl cn))) (c41 e2.sink 0 30 _ ) (fun u w2 k2 hu=>⟨k2,⟨fun _=>hu,fun n=>absurd ⟨hC,hg⟩ n⟩⟩)
      · exact Ob.g0 rfl rfl (fun _ _ _ D=>D 4 rfl) rfl (fun _ _ B U D hC hg=>(yN (gdy (D 7 rfl) ⟨hC,hg⟩))) rfl
      · exact Ob.q rfl (fun _ _ B U D=>(zQ (v:=(.bool qq70)) (D 4 rfl) (fun eP=>or_t eP) (fun eP=>(gdy (D 8 rfl) ⟨trivial,eP⟩).trans (or_f eP)))) rfl rfl
      · exact Ob.q rfl (fun _ _ B U D=>(zB (D 9 rfl))) rfl rfl
      · exact Ob.g0 rfl rfl (fun _ _ _ D=>D 10 rfl) rfl (fun _ _ B U D hC hg=>(zB ((U 5 rfl).trans f58))) rfl
      · exact Ob.g0 rfl rfl (fun _ _ _ D=>D 10 rfl) rfl (fun _ _ B U D hC hg=>(r_gtr (gdy (D 11 rfl) ⟨hC,hg⟩) rfl)) rfl
      · exact Ob.g0 rfl rfl (fun _ _ _ D=>D 10 rfl) rfl (fun _ _ B U D hC hg=>(zB (gdy (D 12 rfl) ⟨hC,hg⟩))) rfl
      · exact Ob.gr rfl rfl (fun _ _ _ D=>D 13 rfl) rfl (fun _ _ B U D hC hg=>(zA fo163_0 (show (_:Value)=(p b65 0) from U 6 rfl) rfl)) rfl
      · exact Ob.gr rfl rfl (fun _ _ _ D=>D 13 rfl) rfl (fun _ _ B U D hC hg=>(zE zM (gdy (D 14 rfl) ⟨hC,hg⟩) (B.cells 0 rfl) (j:=0) rfl rfl)) rfl
      · exact Ob.gr rfl rfl (fun _ _ _ D=>D 13 rfl) rfl (fun _ _ B U D hC hg=>(zA fo27_2 ((U 1 rfl).trans f57) rfl)) rfl
      · exact Ob.gr rfl rfl (fun _ _ _ D=>D 13 rfl) rfl (fun _ _ B U D hC hg=>(zE t1_23 (gdy (D 16 rfl) ⟨hC,hg⟩) (B.cells 1 rfl) (j:=2) rfl rfl)) rfl
      · exact Ob.gr rfl rfl (fun _ _ _ D=>D 13 rfl) rfl (fun _ _ B U D hC hg=>(zB ((U 5 rfl).trans f58))) rfl
      · exact Ob.gr rfl rfl (fun _ _ _ D=>D 13 rfl) rfl (fun _ _ B U D hC hg=>(yT (gdy (D 18 rfl) ⟨hC,hg⟩) rfl (by constructor <;>omega))) rfl
      · exact Ob.gr rfl rfl (fun _ _ _ D=>D 13 rfl) rfl (fun _ _ B U D hC hg=>(zY ts23 (had.ext B.keep) (gdy (D 17 rfl) ⟨hC,hg⟩) (by simp) (gdy (D 19 rfl) ⟨hC,hg⟩) (by first | omega | (have:=of_decide_eq_true hg;omega)) (zW (hq2 (of_decide_eq_true hg))))) rfl
      · exact Ob.gr rfl rfl (fun _ _ _ D=>D 13 rfl) rfl (fun _ _ B U D hC hg=>(zA fo163_0 (gdy (D 20 rfl) ⟨hC,hg⟩) rfl)) rfl
      · exact Ob.gr rfl rfl (fun _ _ _ D=>D 13 rfl) rfl (fun _ _ B U D hC hg=>(zE zM (gdy (D 21 rfl) ⟨hC,hg⟩) ((had.ext B.keep).cells (zW (hq2 (of_decide_eq_true hg)))) (j:=0) rfl rfl)) rfl
      · exact Ob.gr rfl rfl (fun _ _ _ D=>D 13 rfl) rfl (fun _ _ B U D hC hg=>(vD (gdy (D 15 rfl) ⟨hC,hg⟩) (gdy (D 22 rfl) ⟨hC,hg⟩))) rfl
      · exact Ob.gr rfl rfl (fun _ _ _ D=>D 13 rfl) rfl (fun _ _ B U D hC hg=>(zB (gdy (D 23 rfl) ⟨hC,hg⟩))) rfl
      · exact Ob.gr rfl rfl (fun _ _ _ D=>D 24 rfl) rfl (fun _ _ B U D hC hg=>(zA fo163_1 (show (_:Value)=(p b65 0) from U 6 rfl) rfl)) rfl
      · exact Ob.gr rfl rfl (fun _ _ _ D=>D 24 rfl) rfl (fun _ _ B U D hC hg=>(zE zM (gdy (D 25 rfl) ⟨hC,hg⟩) (B.cells 0 rfl) (j:=1) rfl rfl)) rfl
      · exact Ob.gr rfl rfl (fun _ _ _ D=>D 24 rfl) rfl (fun _ _ B U D hC hg=>(zA fo27_2 ((U 1 rfl).trans f57) rfl)) rfl
      · exact Ob.gr rfl rfl (fun _ _ _ D=>D 24 rfl) rfl (fun _ _ B U D hC hg=>(zE t1_23 (gdy (D 27 rfl) ⟨hC,hg⟩) (B.cells 1 rfl) (j:=2) rfl rfl)) rfl
      · exact Ob.gr rfl rfl (fun _ _ _ D=>D 24 rfl) rfl (fun _ _ B U D hC hg=>(zB ((U 5 rfl).trans f58))) rfl
      · exact Ob.gr rfl rfl (fun _ _ _ D=>D 24 rfl) rfl (fun _ _ B U D hC hg=>(yT (gdy (D 29 rfl) ⟨hC,hg⟩) rfl (by constructor <;>omega))) rfl
      · exact Ob.gr rfl rfl (fun _ _ _ D=>D 24 rfl) rfl (fun _ _ B U D hC hg=>(zY ts23 (had.ext B.keep) (gdy (D 28 rfl) ⟨hC,hg⟩) (by simp) (gdy (D 30 rfl) ⟨hC,hg⟩) (by first | omega | (have:=of_decide_eq_true hC.2;omega)) (zW (hq2 (of_decide_eq_true hC.2))))) rfl
      · exact Ob.gr rfl rfl (fun _ _ _ D=>D 24 rfl) rfl (fun _ _ B U D hC hg=>(zA fo163_1 (gdy (D 31 rfl) ⟨hC,hg⟩) rfl)) rfl
      · exact Ob.gr rfl rfl (fun _ _ _ D=>D 24 rfl) rfl (fun _ _ B U D hC hg=>(zE zM (gdy (D 32 rfl) ⟨hC,hg⟩) ((had.ext B.keep).cells (zW (hq2 (of_decide_eq_true hC.2)))) (j:=1) rfl rfl)) rfl
      · exact Ob.gr rfl rfl (fun _ _ _ D=>D 24 rfl) rfl (fun _ _ B U D hC hg=>(yB (gdy (D 26 rfl) ⟨hC,hg⟩) (gdy (D 33 rfl) ⟨hC,hg⟩))) rfl
      · exact Ob.gr rfl rfl (fun _ _ _ D=>D 13 rfl) rfl (fun _ _ B U D hC hg=>(zQ (v:=(.bool qq73)) (gdy (D 24 rfl) ⟨hC,hg⟩) (fun eP=>or_t eP) (fun eP=>(gdy (D 34 rfl) ⟨⟨hC,hg⟩,eP⟩).trans (or_f eP)))) rfl
      · exact Ob.g0 rfl rfl (fun _ _ _ D=>D 10 rfl) rfl (fun _ _ B U D hC hg=>(zQ (v:=(.bool qq74)) (gdy (D 13 rfl) ⟨hC,hg⟩) (fun eP=>(gdy (D 35 rfl) ⟨⟨hC,hg⟩,eP⟩).trans (yF eP)) (fun eP=>yE eP))) rfl
      · exact Ob.q rfl (fun _ _ B U D=>(zQ (v:=(.bool qq75)) (D 10 rfl) (fun eP=>or_t eP) (fun eP=>(gdy (D 36 rfl) ⟨trivial,eP⟩).trans (or_f eP)))) rfl rfl
    intro ρ76 w77 k78 U79 D80;replace H:=H.ext k78
    have f81:=(U79 1 rfl).trans f57
    have f82:=(U79 5 rfl).trans f58
    have f83:ρ76 134=(.bool qq75):=D80 37 rfl
    clear U79 D80 k78
    refine Ro.nil (nT ?_)
    refine Wp.cond (t:=qq75) f83 ?_ ?_
    · intro c84
      have c84r:(((!(decide (0≤e2.frm) && decide (e2.frm≤500)) || (!(decide (0≤e2.sink) && decide (e2.sink≤30)))) || (decide (0<m) && ((decide (e2.frm≤q2.frm)) || (decide (e2.sink<q2.sink))))))=true:=c84
      replace c84:=c84r
      simp only [bx] at c84
      refine Wp.seq (Wp.region ?_)
      refine Ro.q (v:=(i 1)) rfl rfl (zD rfl) rfl ?_
      refine Ro.nil (nT (Wp.ret (rB (rT (rT (rB (rT (zN ?_))))))))
      refine zI (v:=(i 1)) Tryz.results122 rfl ⟨H.keep,?_⟩
      exact congrArg (Value.int _) (glassE_one c14r (.inr (.inr (.inr (depths_bad he2 hq2 (by omega)))))).symm
    intro c84
    have c84r:(((!(decide (0≤e2.frm) && decide (e2.frm≤500)) || (!(decide (0≤e2.sink) && decide (e2.sink≤30)))) || (decide (0<m) && ((decide (e2.frm≤q2.frm)) || (decide (e2.sink<q2.sink))))))=false:=c84
    replace c84:=c84r
    simp only [bx] at c84
    refine Wp.skip (nB (nT (Wp.region ?_)))
    refine Ro.q (v:=(i m)) rfl rfl (zB f82) rfl ?_
    refine Ro.q rfl rfl (zU rfl rfl (by constructor <;>omega)) rfl ?_
    refine Ro.q (v:=(i (m+1))) rfl rfl (zD rfl) rfl ?_
    refine Ro.nil (nT ?_)
    exact ⟨((dl.length:Int)-(m+1)).toNat,by omega,(m+1),rfl,(by omega),rfl,f81,rfl,(H.drop 1),(depths_step hi63 he2 hq2 (by omega) (by omega))⟩
  intro c64
  have c64r:=c64
  simp only [bx] at c64
  refine Wp.exit (xT (xT (xB (nT (Wp.seq (Wp.region ?_))))))
  refine Ro.q (v:=(i 0)) rfl rfl (zD rfl) rfl ?_
  refine Ro.nil (nT (Wp.ret (zN ?_)))
  refine zI (v:=(i 0)) Tryz.results122 rfl ⟨H.keep,?_⟩
  have hb1:=bands_good (n:=n) (by assumption) (by omega) hz
  have hd1:=depths_good (n:=m) (by assumption) (by omega)
  rw [decide_eq_true (by omega),decide_eq_true (by omega)] at hb1
  rw [decide_eq_true (by omega)] at hd1
  exact congrArg (Value.int _) (glassE_zero c14r (by omega) (by omega) hb1 hd1).symm
theorem c92 (base:Int) (blo:Int) (bhi:Int) (klo:Int) (khi:Int) (llo:Int) (lhi:Int) (slo:Int) (shi:Int) (term:Int) (ab:Option Addr) (bs:List Band) (cab:Nat) (ad:Option Addr) (dl:List Depth) (cad:Nat) (w:World) (hab:Sl w 3 (bs.map yH) ab) (had:Sl w 2 (dl.map zZ) ad)  : Rv Tryz.prog 92 [(.agg #[(i base),(.slice ab bs.length cab),(.slice ad dl.length cad),(i blo),(i bhi),(i klo),(i khi),(i llo),(i lhi),(i slo),(i shi),(i term)])] w (i (tubeE base bs dl blo bhi klo khi llo lhi slo shi term)):=by
  refine Ret.body (N:=32) Tryz.func92 rfl Tryz.ntmps92 rfl ?_
  have H:=S.start Nm w
  refine Wp.seq (Wp.region ?_)
  refine Ro.d rfl rfl rfl (H.box (l:=[i base,.slice ab bs.length cab,.slice ad dl.length cad,i blo,i bhi,i klo,i khi,i llo,i lhi,i slo,i shi,i term]) rfl (v:=(.agg #[(i base),(.slice ab bs.length cab),(.slice ad dl.length cad),(i blo),(i bhi),(i klo),(i khi),(i llo),(i lhi),(i slo),(i shi),(i term)])) rfl rfl ?_)
  intro b1 w2 Hn;replace H:=Hn;clear Hn
  refine Ro.q (v:=(i 0)) rfl rfl (zD rfl) rfl ?_
  refine Ro.nil (nT (Wp.seq (Wp.seq (Wp.region ?_))))
  refine Ro.q (v:=(p b1 0)) rfl rfl (zA fo29_0 rfl rfl) rfl ?_
  refine Ro.q rfl rfl (zJ ta27 rfl (H.cells 0 rfl) (j:=0) rfl (vs:=[i base,.slice ab bs.length cab,.slice ad dl.length cad,i blo,i bhi]) rfl rfl) rfl ?_
  refine Ro.d rfl rfl rfl (zH rfl en122 (ce (v:=(.agg #[(i base),(.slice ab bs.length cab),(.slice ad dl.length cad),(i blo),(i bhi)])) rfl cn) (c122 base blo bhi ab bs cab ad dl cad _ (hab.ext H.keep) (had.ext H.keep)) ?_)
  intro u w3 k4 hu;subst hu;replace H:=H.ext k4
  clear k4
  refine Ro.q (v:=(i (yI base bs dl blo bhi))) rfl rfl (zD rfl) rfl ?_
  refine Ro.nil (nT (Wp.seq (Wp.region ?_)))
  refine Ro.q (v:=(i (yI base bs dl blo bhi))) rfl rfl (zB rfl) rfl ?_
  refine Ro.q rfl rfl (vW rfl rfl) rfl ?_
  refine Ro.nil (nT ?_)
  refine Wp.cond (t:=decide ((yI base bs dl blo bhi)≠0)) rfl ?_ ?_
  · intro c5
    have c5r:=c5
    simp only [bx] at c5
    refine Wp.seq (Wp.region ?_)
    refine Ro.q (v:=(i (yI base bs dl blo bhi))) rfl rfl (zB rfl) rfl ?_
    refine Ro.q (v:=(i (yI base bs dl blo bhi))) rfl rfl (zD rfl) rfl ?_
    refine Ro.nil (nT (Wp.ret (rT (zN ?_))))
    refine zI (v:=(i (yI base bs dl blo bhi))) Tryz.results92 rfl ⟨H.keep,?_⟩
    refine congrArg (Value.int _) ?_
    unfold tubeE
    simp only [yM,yL,c5r,cond_true,cond_false]
  intro c5
  have c5r:=c5
  simp only [bx] at c5
  refine Wp.skip (nT (Wp.seq (Wp.seq ?_)))
  let qq6:Bool:=(decide (0≤klo) && decide (klo≤khi)) && decide (khi≤20)
  let qq7:Bool:=(decide (0≤llo) && decide (llo≤lhi)) && decide (lhi≤5)
  let qq8:Bool:=(!qq6 || (!qq7))
  let qq9:Bool:=(decide (0≤slo) && decide (slo≤shi)) && decide (shi≤3)
  let qq10:Bool:=(qq8 || (!qq9))
  let qq11:Bool:=decide (0≤term) && decide (term≤16)
  let qq12:Bool:=(qq10 || (!qq11))
  refine Wp.factsS 22 [is (p b1 5),is (.agg #[(i klo),(i khi)]),is (.bool qq6),is (.bool (!qq6)),is (.bool (!qq6)),gdv (True∧(!qq6)=false) (p b1 7),gdv (True∧(!qq6)=false) (.agg #[(i llo),(i lhi)]),gdv (True∧(!qq6)=false) (.bool qq7),gdv (True∧(!qq6)=false) (.bool (!qq7)),is (.bool qq8),is (.bool qq8),gdv (True∧qq8=false) (p b1 9),gdv (True∧qq8=false) (.agg #[(i slo),(i shi)]),gdv (True∧qq8=false) (.bool qq9),gdv (True∧qq8=false) (.bool (!qq9)),is (.bool qq10),is (.bool qq10),gdv (True∧qq10=false) (p b1 11),gdv (True∧qq10=false) (i term),gdv (True∧qq10=false) (.bool qq11),gdv (True∧qq10=false) (.bool (!qq11)),is (.bool qq12)] (by kernel_rfl) (Mi (Mi (Mi (Mi (Mi (Mg (Mg (Mg (Mg (Mi (Mi (Mg (Mg (Mg (Mg (Mi (Mi (Mg (Mg (Mg (Mg (Mi Mono.nil)))))))))))))))))))))) (fun w' k=>H.ext k) ?_ ?_
  · refine ⟨?_,?_,?_,?_,?_,?_,?_,?_,?_,?_,?_,?_,?_,?_,?_,?_,?_,?_,?_,?_,?_,?_,trivial⟩
    · exact Ob.q rfl (fun _ _ B U D=>(zA fo29_1 (show (_:Value)=(p b1 0) from U 1 rfl) rfl)) rfl rfl
    · exact Ob.q rfl (fun _ _ B U D=>(zJ ta25 (D 0 rfl) (B.cells 0 rfl) (j:=5) rfl (vs:=[i klo,i khi]) rfl rfl)) rfl rfl
    · exact Ob.mk rfl fun ρ' w' B U D=>zH rfl en79 (ce (v:=(.agg #[(i klo),(i khi)])) (D 1 rfl) (ce (v:=(i 0)) rfl (ce (v:=(i 20)) rfl cn))) (c79 klo khi 0 20 _ ) (fun u w2 k2 hu=>⟨k2,hu⟩)
    · exact Ob.q rfl (fun _ _ B U D=>(yN (D 2 rfl))) rfl rfl
    · exact Ob.q rfl (fun _ _ B U D=>(zB (D 3 rfl))) rfl rfl
    · exact Ob.g0 rfl rfl (fun _ _ _ D=>D 4 rfl) rfl (fun _ _ B U D hC hg=>(zA fo29_2 (show (_:Value)=(p b1 0) from U 1 rfl) rfl)) rfl
    · exact Ob.g0 rfl rfl (fun _ _ _ D=>D 4 rfl) rfl (fun _ _ B U D hC hg=>(zJ ta25 (gdy (D 5 rfl) ⟨hC,hg⟩) (B.cells 0 rfl) (j:=7) rfl (vs:=[i llo,i lhi]) rfl rfl)) rfl
    · exact Ob.gd (C:=True) (g:=!qq6) rfl rfl (fun ρ' w' U D=>⟨fun _=>(D 4 rfl),fun h=>absurd trivial h⟩) (fun _ h=>⟨fun hc=>absurd hc (yQ h),fun _=>rfl⟩) fun ρ' w' B U D hC hg=>zH rfl en79 (ce (v:=(.agg #[(i llo),(i lhi)])) (gdy (D 6 rfl) ⟨hC,hg⟩) (ce (v:=(i 0)) rfl (ce (v:=(i 5)) rfl cn))) (c79 llo lhi 0 5 _ ) (fun u w2 k2 hu=>⟨k2,⟨fun _=>hu,fun n=>absurd ⟨hC,hg⟩ n⟩⟩)
    · exact Ob.g0 rfl rfl (fun _ _ _ D=>D 4 rfl) rfl (fun _ _ B U D hC hg=>(yN (gdy (D 7 rfl) ⟨hC,hg⟩))) rfl
    · exact Ob.q rfl (fun _ _ B U D=>(zQ (v:=(.bool qq8)) (D 4 rfl) (fun eP=>or_t eP) (fun eP=>(gdy (D 8 rfl) ⟨trivial,eP⟩).trans (or_f eP)))) rfl rfl
    · exact Ob.q rfl (fun _ _ B U D=>(zB (D 9 rfl))) rfl rfl
    · exact Ob.g0 rfl rfl (fun _ _ _ D=>D 10 rfl) rfl (fun _ _ B U D hC hg=>(zA fo29_3 (show (_:Value)=(p b1 0) from U 1 rfl) rfl)) rfl
    · exact Ob.g0 rfl rfl (fun _ _ _ D=>D 10 rfl) rfl (fun _ _ B U D hC hg=>(zJ ta25 (gdy (D 11 rfl) ⟨hC,hg⟩) (B.cells 0 rfl) (j:=9) rfl (vs:=[i slo,i shi]) rfl rfl)) rfl
    · exact Ob.gd (C:=True) (g:=qq8) rfl rfl (fun ρ' w' U D=>⟨fun _=>(D 10 rfl),fun h=>absurd trivial h⟩) (fun _ h=>⟨fun hc=>absurd hc (yQ h),fun _=>rfl⟩) fun ρ' w' B U D hC hg=>zH rfl en79 (ce (v:=(.agg #[(i slo),(i shi)])) (gdy (D 12 rfl) ⟨hC,hg⟩) (ce (v:=(i 0)) rfl (ce (v:=(i 3)) rfl cn))) (c79 slo shi 0 3 _ ) (fun u w2 k2 hu=>⟨k2,⟨fun _=>hu,fun n=>absurd ⟨hC,hg⟩ n⟩⟩)
    · exact Ob.g0 rfl rfl (fun _ _ _ D=>D 10 rfl) rfl (fun _ _ B U D hC hg=>(yN (gdy (D 13 rfl) ⟨hC,hg⟩))) rfl
    · exact Ob.q rfl (fun _ _ B U D=>(zQ (v:=(.bool qq10)) (D 10 rfl) (fun eP=>or_t eP) (fun eP=>(gdy (D 14 rfl) ⟨trivial,eP⟩).trans (or_f eP)))) rfl rfl
    · exact Ob.q rfl (fun _ _ B U D=>(zB (D 15 rfl))) rfl rfl
    · exact Ob.g0 rfl rfl (fun _ _ _ D=>D 16 rfl) rfl (fun _ _ B U D hC hg=>(zA fo29_4 (show (_:Value)=(p b1 0) from U 1 rfl) rfl)) rfl
    · exact Ob.g0 rfl rfl (fun _ _ _ D=>D 16 rfl) rfl (fun _ _ B U D hC hg=>(zE zM (gdy (D 17 rfl) ⟨hC,hg⟩) (B.cells 0 rfl) (j:=11) rfl rfl)) rfl
    · exact Ob.gd (C:=True) (g:=qq10) rfl rfl (fun ρ' w' U D=>⟨fun _=>(D 16 rfl),fun h=>absurd trivial h⟩) (fun _ h=>⟨fun hc=>absurd hc (yQ h),fun _=>rfl⟩) fun ρ' w' B U D hC hg=>zH rfl en41 (ce (v:=(i term)) (gdy (D 18 rfl) ⟨hC,hg⟩) (ce (v:=(i 0)) rfl (ce (v:=(i 16)) rfl cn))) (c41 term 0 16 _ ) (fun u w2 k2 hu=>⟨k2,⟨fun _=>hu,fun n=>absurd ⟨hC,hg⟩ n⟩⟩)
    · exact Ob.g0 rfl rfl (fun _ _ _ D=>D 16 rfl) rfl (fun _ _ B U D hC hg=>(yN (gdy (D 19 rfl) ⟨hC,hg⟩))) rfl
    · exact Ob.q rfl (fun _ _ B U D=>(zQ (v:=(.bool qq12)) (D 16 rfl) (fun eP=>or_t eP) (fun eP=>(gdy (D 20 rfl) ⟨trivial,eP⟩).trans (or_f eP)))) rfl rfl
  intro ρ13 w14 k15 U16 D17;replace H:=H.ext k15
  have f19:ρ13 31=(.bool qq12):=D17 21 rfl
  clear U16 D17 k15
  refine Ro.nil (nT ?_)
  refine Wp.cond (t:=qq12) f19 ?_ ?_
  · intro c20
    have c20r:((((!((decide (0≤klo) && decide (klo≤khi)) && decide (khi≤20)) || (!((decide (0≤llo) && decide (llo≤lhi)) && decide (lhi≤5)))) || (!((decide (0≤slo) && decide (slo≤shi)) && decide (shi≤3)))) || (!(decide (0≤term) && decide (term≤16)))))=true:=c20
    replace c20:=c20r
    simp only [bx] at c20
    refine Wp.seq (Wp.region ?_)
    refine Ro.q (v:=(i 1)) rfl rfl (zD rfl) rfl ?_
    refine Ro.nil (nT (Wp.ret (rT (zN ?_))))
    refine zI (v:=(i 1)) Tryz.results92 rfl ⟨H.keep,?_⟩
    refine congrArg (Value.int _) ?_
    unfold tubeE
    simp only [yM,yL,c5r,c20r,cond_true,cond_false]
  intro c20
  have c20r:((((!((decide (0≤klo) && decide (klo≤khi)) && decide (khi≤20)) || (!((decide (0≤llo) && decide (llo≤lhi)) && decide (lhi≤5)))) || (!((decide (0≤slo) && decide (slo≤shi)) && decide (shi≤3)))) || (!(decide (0≤term) && decide (term≤16)))))=false:=c20
  replace c20:=c20r
  simp only [bx] at c20
  refine Wp.skip (nT (Wp.seq (Wp.region ?_)))
  refine Ro.q (v:=(i 0)) rfl rfl (zD rfl) rfl ?_
  refine Ro.nil (nT (Wp.ret (zN ?_)))
  refine zI (v:=(i 0)) Tryz.results92 rfl ⟨H.keep,?_⟩
  refine congrArg (Value.int _) ?_
  unfold tubeE
  simp only [yM,yL,c5r,c20r,cond_true,cond_false]
theorem c51 (base:Int) (blo:Int) (bhi:Int) (klo:Int) (khi:Int) (llo:Int) (lhi:Int) (slo:Int) (shi:Int) (term:Int) (ab:Option Addr) (bs:List Band) (cab:Nat) (ad:Option Addr) (dl:List Depth) (cad:Nat) (w:World) (hab:Sl w 3 (bs.map yH) ab) (had:Sl w 2 (dl.map zZ) ad)  : Rv Tryz.prog 51 [(.agg #[(i base),(.slice ab bs.length cab),(.slice ad dl.length cad),(i blo),(i bhi),(i klo),(i khi),(i llo),(i lhi),(i slo),(i shi),(i term)])] w (i (tubeE base bs dl blo bhi klo khi llo lhi slo shi term)):=by
  refine Ret.body (N:=5) Tryz.func51 rfl Tryz.ntmps51 rfl ?_
  have H:=S.start Nm w
  refine Wp.seq (Wp.region ?_)
  refine Ro.d rfl rfl rfl (H.box (l:=[i base,.slice ab bs.length cab,.slice ad dl.length cad,i blo,i bhi,i klo,i khi,i llo,i lhi,i slo,i shi,i term]) rfl (v:=(.agg #[(i base),(.slice ab bs.length cab),(.slice ad dl.length cad),(i blo),(i bhi),(i klo),(i khi),(i llo),(i lhi),(i slo),(i shi),(i term)])) rfl rfl ?_)
  intro b1 w2 Hn;replace H:=Hn;clear Hn
  refine Ro.q (v:=(i 0)) rfl rfl (zD rfl) rfl ?_
  refine Ro.nil (nT (Wp.seq (Wp.region ?_)))
  refine Ro.q rfl rfl (zJ ta29 rfl (H.cells 0 rfl) (j:=0) rfl (vs:=[i base,.slice ab bs.length cab,.slice ad dl.length cad,i blo,i bhi,i klo,i khi,i llo,i lhi,i slo,i shi,i term]) rfl rfl) rfl ?_
  refine Ro.d rfl rfl rfl (zH rfl en92 (ce (v:=(.agg #[(i base),(.slice ab bs.length cab),(.slice ad dl.length cad),(i blo),(i bhi),(i klo),(i khi),(i llo),(i lhi),(i slo),(i shi),(i term)])) rfl cn) (c92 base blo bhi klo khi llo lhi slo shi term ab bs cab ad dl cad _ (hab.ext H.keep) (had.ext H.keep)) ?_)
  intro u w3 k4 hu;subst hu;replace H:=H.ext k4
  clear k4
  refine Ro.q (v:=(i (tubeE base bs dl blo bhi klo khi llo lhi slo shi term))) rfl rfl (zD rfl) rfl ?_
  refine Ro.nil (nT (Wp.ret (zN ?_)))
  refine zI (v:=(i (tubeE base bs dl blo bhi klo khi llo lhi slo shi term))) Tryz.results51 rfl ⟨H.keep,?_⟩
  rfl
end Go.Proofs.YthfnjppieihcfaaGreat
