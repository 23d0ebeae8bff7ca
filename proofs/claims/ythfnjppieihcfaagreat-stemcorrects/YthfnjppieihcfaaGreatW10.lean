/- Part of the proof: what the last text of this claim imports. -/
import Derived.Test.YthfnjppieihcfaaGreatW9
import Derived.Scope
set_option linter.unusedSimpArgs false
set_option linter.unusedVariables false
set_option maxRecDepth 100000
namespace Go.Mw
open Go.RowKit
variable {P : Program} {N : Nat}
def NoGoto (Q:Post):Post
  | .goto _,_,_,_=>False
  | e,ds,ρ,w=>Q e ds ρ w
section
variable {Q : Post} {ds : List Deferred} {ρ : Env} {w : World}
theorem Wp.scope {c:Code} (h:Wp P N none c (NoGoto Q) ds ρ w):Wp P N none (.scope c) Q ds ρ w:=by
  refine (wpIn_wide (n:=0)).2 (wp_scope_straight ((wpIn_wide (n:=0)).1 (wpIn_mono (F:=FW none) h ?_)))
  rintro e a w ⟨ds,ρ,rfl,q⟩
  cases e with
  | goto l=>exact q.elim
  | _=>exact ⟨ds,ρ,rfl,q⟩
theorem rG (h:Q .ret ds ρ w):NoGoto Q .ret ds ρ w:=h
end
variable {M : Nat → Prop} {w0 : World} {L : List (Nat × Obj)}
theorem S.one {w:World} {p:Nat×Obj} (h:S M w0 L w) (j:Nat) (hi:L[j]? = some p):S M w0 [p] w :=
  h.sub _ (fun q hq=>by rw [List.mem_singleton] at hq;subst hq;exact List.mem_of_getElem? hi) (by simp)
/-- a slice lies in a block that is one's own -/
def InB (b:Nat) (ob:Obj) (k:Nat) (xs:List (List Value)) (a:Option Addr):Prop:=∀ W:World,W.heap[b]? = some ob→Sl W k xs a
theorem InB.nil {b:Nat} {ob:Obj} {k:Nat} {xs:List (List Value)} (h:xs=[]):InB b ob k xs none:=by subst h;intro _ _ j x hx;simp at hx
theorem S.ne {w:World} {p q:Nat×Obj} (h:S M w0 L w) (i j:Nat) (hi:L[i]? = some p) (hj:L[j]? = some q) (hij:i≠j):p.1≠q.1:=by
  obtain ⟨h1,e1⟩:=List.getElem?_eq_some_iff.1 hi
  obtain ⟨h2,e2⟩:=List.getElem?_eq_some_iff.1 hj
  have hd:=List.pairwise_iff_getElem.1 h.dist
  rcases Nat.lt_or_gt_of_ne hij with hlt | hgt
  · have:=hd i j h1 h2 hlt;rw [e1,e2] at this;exact this
  · have:=hd j i h2 h1 hgt;rw [e1,e2] at this;exact fun e=>this e.symm
end Go.Mw
namespace Go.Proofs.YthfnjppieihcfaaGreat
open Go.RowKit Go.Proofs Go.Mw
theorem en120:Go.Proofs.Enters Tryz.prog 120:=Go.Proofs.enters_of Tryz.func120 (by kernel_rfl) rfl
theorem en121:Go.Proofs.Enters Tryz.prog 121:=Go.Proofs.enters_of Tryz.func121 (by kernel_rfl) rfl
theorem fo170_0:FO Tryz.prog 170 0 0:=fun _ _ _=>by kernel_rfl
open Men
def corners (shown err bare alo ahi deep rlo rhi klo khi llo lhi slo shi:Int):List Rg:=[vA shown err bare alo ahi deep klo llo slo rlo,vA shown err bare alo ahi deep klo llo slo rhi,vA shown err bare alo ahi deep klo llo shi rlo,vA shown err bare alo ahi deep klo llo shi rhi,vA shown err bare alo ahi deep klo lhi slo rlo,vA shown err bare alo ahi deep klo lhi slo rhi,vA shown err bare alo ahi deep klo lhi shi rlo,vA shown err bare alo ahi deep klo lhi shi rhi,vA shown err bare alo ahi deep khi llo slo rlo,vA shown err bare alo ahi deep khi llo slo rhi,vA shown err bare alo ahi deep khi llo shi rlo,vA shown err bare alo ahi deep khi llo shi rhi,vA shown err bare alo ahi deep khi lhi slo rlo,vA shown err bare alo ahi deep khi lhi slo rhi,vA shown err bare alo ahi deep khi lhi shi rlo,vA shown err bare alo ahi deep khi lhi shi rhi]
set_option maxHeartbeats 4000000 in
theorem c91 {base blo bhi klo khi llo lhi slo shi term day shown err bare alo ahi rlo rhi deep:Int} {broken:Bool} {ab ad:Option Addr} {bs:List Band} {dl:List Depth} {cab cad:Nat} (w:World) (hab:Sl w 3 (bs.map yH) ab) (had:Sl w 2 (dl.map zZ) ad) (ht:((0≤klo∧klo≤khi∧khi≤20)∧(0≤llo∧llo≤lhi∧lhi≤5)∧(0≤slo∧slo≤shi∧shi≤3))) (hr:((-5000≤shown∧shown≤5000)∧(0≤err∧err≤20)∧(0≤bare∧bare≤300)∧(-100≤alo∧alo≤ahi∧ahi≤100)∧(-20≤rlo∧rlo≤rhi∧rhi≤20)∧(0≤deep∧deep≤20))):Ret Tryz.prog 91 [(.agg #[(i base),(.slice ab bs.length cab),(.slice ad dl.length cad),(i blo),(i bhi),(i klo),(i khi),(i llo),(i lhi),(i slo),(i shi),(i term),(i day),(i shown),(i err),(i bare),(i alo),(i ahi),(i rlo),(i rhi),(i deep),(.bool broken)])] w fun v _=>∃ lo hi:Int,v = .agg #[.int .i64 lo,.int .i64 hi]∧Hull (corners shown err bare alo ahi deep rlo rhi klo khi llo lhi slo shi) lo hi:=by
  refine Ret.body (N:=83) Tryz.func91 rfl Tryz.ntmps91 rfl ?_
  have H:=S.start Nm w
  refine Wp.seq (Wp.region ?_)
  refine Ro.d rfl rfl rfl (H.box (l:=[i base,.slice ab bs.length cab,.slice ad dl.length cad,i blo,i bhi,i klo,i khi,i llo,i lhi,i slo,i shi,i term,i day,i shown,i err,i bare,i alo,i ahi,i rlo,i rhi,i deep,.bool broken]) rfl (v:=(.agg #[(i base),(.slice ab bs.length cab),(.slice ad dl.length cad),(i blo),(i bhi),(i klo),(i khi),(i llo),(i lhi),(i slo),(i shi),(i term),(i day),(i shown),(i err),(i bare),(i alo),(i ahi),(i rlo),(i rhi),(i deep),(.bool broken)])) rfl rfl ?_)
  intro b1 w2 Hn;replace H:=Hn;clear Hn
  refine Ro.d rfl rfl rfl (H.new (l:=[i 0,i 0]) rfl zv41 rfl ?_)
  intro b3 w4 Hn;replace H:=Hn;clear Hn
  refine Ro.nil (nT (Wp.seq (Wp.region ?_)))
  refine Ro.d rfl rfl rfl (H.new (l:=[.bool false]) rfl zv4 rfl ?_)
  intro b5 w6 Hn;replace H:=Hn;clear Hn
  refine Ro.d0 rfl rfl rfl (H.store (j:=0) (off:=0) (k:=1) rfl sz4 rfl (v:=(.bool true)) rfl rfl rfl rfl rfl (by simp [Value.oneCell']) (cs':=[.bool true]) rfl ?_)
  intro w7 Hn;replace H:=Hn;clear Hn
  refine Ro.nil (nT (Wp.seq (Wp.region ?_)))
  refine Ro.d rfl rfl rfl (H.new (l:=[i 0,i 0]) rfl zv41 rfl ?_)
  intro b8 w9 Hn;replace H:=Hn;clear Hn
  refine Ro.nil (nT (Wp.seq (Wp.region ?_)))
  refine Ro.q (v:=(.func (.func 120) #[] #[(p b5 0),(p b8 0)])) rfl rfl (uH cn (ce (v:=(p b5 0)) rfl (ce (v:=(p b8 0)) rfl cn))) rfl ?_
  refine Ro.q (v:=(.func (.func 120) #[] #[(p b5 0),(p b8 0)])) rfl rfl (zD rfl) rfl ?_
  refine Ro.nil (nT (Wp.seq (Wp.seq (Wp.region ?_))))
  refine Ro.q (v:=(p b1 0)) rfl rfl (zA fo170_0 rfl rfl) rfl ?_
  refine Ro.q (v:=(p b1 5)) rfl rfl (zA fo45_1 rfl rfl) rfl ?_
  refine Ro.q (v:=(p b1 5)) rfl rfl (zA yV rfl rfl) rfl ?_
  refine Ro.q rfl rfl (zE zM rfl (H.cells 3 rfl) (j:=5) rfl rfl) rfl ?_
  refine Ro.q (v:=(p b1 0)) rfl rfl (zA fo170_0 rfl rfl) rfl ?_
  refine Ro.q (v:=(p b1 5)) rfl rfl (zA fo45_1 rfl rfl) rfl ?_
  refine Ro.q (v:=(p b1 6)) rfl rfl (zA yZ rfl rfl) rfl ?_
  refine Ro.q rfl rfl (zE zM rfl (H.cells 3 rfl) (j:=6) rfl rfl) rfl ?_
  refine Ro.d rfl rfl rfl (H.row (e:=3) (cs:=[i klo,i khi]) rfl (pe (v:=(i klo)) rfl (pe (v:=(i khi)) rfl pn)) (fun w=>by kernel_rfl) ?_)
  intro b10 w11 Hn;replace H:=Hn;clear Hn
  refine Ro.q rfl rfl (yG Tryz.underlying72 rfl (v:=2) rfl) rfl ?_
  refine Ro.q (v:=(i 0)) rfl rfl (zB rfl) rfl ?_
  refine Ro.nil (nT (Wp.block ?_))
  refine Wp.rounds 3 (Rounds.next ?_)
  refine Wp.seq (Wp.region ?_)
  refine Ro.q (v:=(.bool true)) rfl rfl (Runs.to (yB rfl rfl) (by rfl)) rfl ?_
  refine Ro.nil (nT (Wp.seq ?_))
  refine Wp.condT rfl ?_
  refine Wp.skip (nT (Wp.seq (Wp.block (Wp.seq (Wp.region ?_)))))
  refine Ro.q rfl rfl (zY ts72 ((Sl.of (b:=b10) (k:=1) (xs:=[klo,khi].map yD) (by simp [yD]) (show Cells _ b10 0 _ from H.cells 0 rfl))) rfl (by simp) rfl (by omega) (show ([[i klo],[i khi]]:List (List Value))[(0:Int).toNat]? = some [i klo] from rfl)) rfl ?_
  refine Ro.q rfl rfl (zE zM rfl (((Sl.of (b:=b10) (k:=1) (xs:=[klo,khi].map yD) (by simp [yD]) (show Cells _ b10 0 _ from H.cells 0 rfl))).cells (show ([[i klo],[i khi]]:List (List Value))[(0:Int).toNat]? = some [i klo] from rfl)) (j:=0) rfl rfl) rfl ?_
  refine Ro.q (v:=(i klo)) rfl rfl (zD rfl) rfl ?_
  refine Ro.nil (nT (Wp.seq (Wp.region ?_)))
  refine Ro.q (v:=(p b1 0)) rfl rfl (zA fo170_0 rfl rfl) rfl ?_
  refine Ro.q (v:=(p b1 7)) rfl rfl (zA fo45_2 rfl rfl) rfl ?_
  refine Ro.q (v:=(p b1 7)) rfl rfl (zA yV rfl rfl) rfl ?_
  refine Ro.q rfl rfl (zE zM rfl (H.cells 4 rfl) (j:=7) rfl rfl) rfl ?_
  refine Ro.q (v:=(p b1 0)) rfl rfl (zA fo170_0 rfl rfl) rfl ?_
  refine Ro.q (v:=(p b1 7)) rfl rfl (zA fo45_2 rfl rfl) rfl ?_
  refine Ro.q (v:=(p b1 8)) rfl rfl (zA yZ rfl rfl) rfl ?_
  refine Ro.q rfl rfl (zE zM rfl (H.cells 4 rfl) (j:=8) rfl rfl) rfl ?_
  refine Ro.d rfl rfl rfl (H.row (e:=3) (cs:=[i llo,i lhi]) rfl (pe (v:=(i llo)) rfl (pe (v:=(i lhi)) rfl pn)) (fun w=>by kernel_rfl) ?_)
  intro b12 w13 Hn;replace H:=Hn;clear Hn
  refine Ro.q rfl rfl (yG Tryz.underlying72 rfl (v:=2) rfl) rfl ?_
  refine Ro.q (v:=(i 0)) rfl rfl (zB rfl) rfl ?_
  refine Ro.nil (nT (Wp.block ?_))
  refine Wp.rounds 3 (Rounds.next ?_)
  refine Wp.seq (Wp.region ?_)
  refine Ro.q (v:=(.bool true)) rfl rfl (Runs.to (yB rfl rfl) (by rfl)) rfl ?_
  refine Ro.nil (nT (Wp.seq ?_))
  refine Wp.condT rfl ?_
  refine Wp.skip (nT (Wp.seq (Wp.block (Wp.seq (Wp.region ?_)))))
  refine Ro.q rfl rfl (zY ts72 ((Sl.of (b:=b12) (k:=1) (xs:=[llo,lhi].map yD) (by simp [yD]) (show Cells _ b12 0 _ from H.cells 0 rfl))) rfl (by simp) rfl (by omega) (show ([[i llo],[i lhi]]:List (List Value))[(0:Int).toNat]? = some [i llo] from rfl)) rfl ?_
  refine Ro.q rfl rfl (zE zM rfl (((Sl.of (b:=b12) (k:=1) (xs:=[llo,lhi].map yD) (by simp [yD]) (show Cells _ b12 0 _ from H.cells 0 rfl))).cells (show ([[i llo],[i lhi]]:List (List Value))[(0:Int).toNat]? = some [i llo] from rfl)) (j:=0) rfl rfl) rfl ?_
  refine Ro.q (v:=(i llo)) rfl rfl (zD rfl) rfl ?_
  refine Ro.nil (nT (Wp.seq (Wp.region ?_)))
  refine Ro.q (v:=(p b1 0)) rfl rfl (zA fo170_0 rfl rfl) rfl ?_
  refine Ro.q (v:=(p b1 9)) rfl rfl (zA fo45_3 rfl rfl) rfl ?_
  refine Ro.q (v:=(p b1 9)) rfl rfl (zA yV rfl rfl) rfl ?_
  refine Ro.q rfl rfl (zE zM rfl (H.cells 5 rfl) (j:=9) rfl rfl) rfl ?_
  refine Ro.q (v:=(p b1 0)) rfl rfl (zA fo170_0 rfl rfl) rfl ?_
  refine Ro.q (v:=(p b1 9)) rfl rfl (zA fo45_3 rfl rfl) rfl ?_
  refine Ro.q (v:=(p b1 10)) rfl rfl (zA yZ rfl rfl) rfl ?_
  refine Ro.q rfl rfl (zE zM rfl (H.cells 5 rfl) (j:=10) rfl rfl) rfl ?_
  refine Ro.d rfl rfl rfl (H.row (e:=3) (cs:=[i slo,i shi]) rfl (pe (v:=(i slo)) rfl (pe (v:=(i shi)) rfl pn)) (fun w=>by kernel_rfl) ?_)
  intro b14 w15 Hn;replace H:=Hn;clear Hn
  refine Ro.q rfl rfl (yG Tryz.underlying72 rfl (v:=2) rfl) rfl ?_
  refine Ro.q (v:=(i 0)) rfl rfl (zB rfl) rfl ?_
  refine Ro.nil (nT (Wp.block ?_))
  refine Wp.rounds 3 (Rounds.next ?_)
  refine Wp.seq (Wp.region ?_)
  refine Ro.q (v:=(.bool true)) rfl rfl (Runs.to (yB rfl rfl) (by rfl)) rfl ?_
  refine Ro.nil (nT (Wp.seq ?_))
  refine Wp.condT rfl ?_
  refine Wp.skip (nT (Wp.seq (Wp.block (Wp.seq (Wp.region ?_)))))
  refine Ro.q rfl rfl (zY ts72 ((Sl.of (b:=b14) (k:=1) (xs:=[slo,shi].map yD) (by simp [yD]) (show Cells _ b14 0 _ from H.cells 0 rfl))) rfl (by simp) rfl (by omega) (show ([[i slo],[i shi]]:List (List Value))[(0:Int).toNat]? = some [i slo] from rfl)) rfl ?_
  refine Ro.q rfl rfl (zE zM rfl (((Sl.of (b:=b14) (k:=1) (xs:=[slo,shi].map yD) (by simp [yD]) (show Cells _ b14 0 _ from H.cells 0 rfl))).cells (show ([[i slo],[i shi]]:List (List Value))[(0:Int).toNat]? = some [i slo] from rfl)) (j:=0) rfl rfl) rfl ?_
  refine Ro.q (v:=(i slo)) rfl rfl (zD rfl) rfl ?_
  refine Ro.nil (nT (Wp.seq (Wp.region ?_)))
  refine Ro.q (v:=(.func (.func 120) #[] #[(p b5 0),(p b8 0)])) rfl rfl (zB rfl) rfl ?_
  refine Ro.q rfl rfl (zJ ta170 rfl (H.cells 6 rfl) (j:=0) rfl (vs:=[i base,.slice ab bs.length cab,.slice ad dl.length cad,i blo,i bhi,i klo,i khi,i llo,i lhi,i slo,i shi,i term,i day,i shown,i err,i bare,i alo,i ahi,i rlo,i rhi,i deep,.bool broken]) rfl rfl) rfl ?_
  refine Ro.q (v:=(i klo)) rfl rfl (zB rfl) rfl ?_
  refine Ro.q (v:=(i llo)) rfl rfl (zB rfl) rfl ?_
  refine Ro.q (v:=(i slo)) rfl rfl (zB rfl) rfl ?_
  refine Ro.q (v:=(.agg #[(i klo),(i llo),(i slo)])) rfl rfl (zP (v:=(.agg #[(i klo),(i llo),(i slo)])) (pe (v:=(i klo)) rfl (pe (v:=(i llo)) rfl (pe (v:=(i slo)) rfl pn))) (fun w=>by kernel_rfl)) rfl ?_
  refine Ro.q (v:=(p b1 12)) rfl rfl (zA vJ rfl rfl) rfl ?_
  refine Ro.q (v:=(p b1 18)) rfl rfl (zA fo52_5 rfl rfl) rfl ?_
  refine Ro.q (v:=(p b1 18)) rfl rfl (zA yV rfl rfl) rfl ?_
  refine Ro.q rfl rfl (zE zM rfl (H.cells 6 rfl) (j:=18) rfl rfl) rfl ?_
  refine Ro.d rfl rfl rfl (zH rfl en121 (ce (v:=(.agg #[(i base),(.slice ab bs.length cab),(.slice ad dl.length cad),(i blo),(i bhi),(i klo),(i khi),(i llo),(i lhi),(i slo),(i shi),(i term),(i day),(i shown),(i err),(i bare),(i alo),(i ahi),(i rlo),(i rhi),(i deep),(.bool broken)])) rfl (ce (v:=(.agg #[(i klo),(i llo),(i slo)])) rfl (ce (v:=(i rlo)) rfl cn))) (c121 base blo bhi klo khi llo lhi slo shi term day shown err bare alo ahi rlo rhi deep broken klo llo slo rlo ab bs cab ad dl cad _ (hab.ext H.keep) (had.ext H.keep) (by omega)) ?_)
  intro u w16 k17 hu;subst hu;replace H:=H.ext k17
  clear k17
  have hne:b5≠b8:=H.ne 4 3 rfl rfl (by decide)
  refine Ro.d rfl rfl rfl (vH (fv:=[]) (cv:=[p b5 0,p b8 0]) rfl rfl en120 (ce (v:=(.agg #[(i (min (zG klo llo slo shown bare deep alo rlo 0) (zG klo llo slo shown bare deep ahi rlo 0)-err)),(i (max (zG klo llo slo shown bare deep alo rlo 0) (zG klo llo slo shown bare deep ahi rlo 0)+err))])) rfl cn) (c120 (first:=true) _ (H.at 4 rfl) (H.at 3 rfl) hne) ?_)
  rintro u w18 ⟨rfl,kc19,h20,lo24,hi25,h21,e22,e23⟩
  have hull26:=hull_one (q:=(vA shown err bare alo ahi deep klo llo slo rlo)) e22 e23
  replace H:S Nm w [(b14,.cells [i slo,i shi].toArray 3 (0,0)),(b12,.cells [i llo,i lhi].toArray 3 (0,0)),(b10,.cells [i klo,i khi].toArray 3 (0,0)),(b8,.cells [i lo24,i hi25].toArray 41 (0,0)),(b5,.cells [.bool false].toArray 4 (0,0)),(b3,.cells [i 0,i 0].toArray 41 (0,0)),(b1,.cells [i base,.slice ab bs.length cab,.slice ad dl.length cad,i blo,i bhi,i klo,i khi,i llo,i lhi,i slo,i shi,i term,i day,i shown,i err,i bare,i alo,i ahi,i rlo,i rhi,i deep,.bool broken].toArray 170 (0,0))] w18:=S.turn2 (i:=4) (j:=3) H rfl rfl hne (by decide) kc19 h20 h21
  clear e22 e23 hne
  refine Ro.nil (nT (Wp.region ?_))
  refine Ro.q (v:=(.func (.func 120) #[] #[(p b5 0),(p b8 0)])) rfl rfl (zB rfl) rfl ?_
  refine Ro.q rfl rfl (zJ ta170 rfl (H.cells 6 rfl) (j:=0) rfl (vs:=[i base,.slice ab bs.length cab,.slice ad dl.length cad,i blo,i bhi,i klo,i khi,i llo,i lhi,i slo,i shi,i term,i day,i shown,i err,i bare,i alo,i ahi,i rlo,i rhi,i deep,.bool broken]) rfl rfl) rfl ?_
  refine Ro.q (v:=(i klo)) rfl rfl (zB rfl) rfl ?_
  refine Ro.q (v:=(i llo)) rfl rfl (zB rfl) rfl ?_
  refine Ro.q (v:=(i slo)) rfl rfl (zB rfl) rfl ?_
  refine Ro.q (v:=(.agg #[(i klo),(i llo),(i slo)])) rfl rfl (zP (v:=(.agg #[(i klo),(i llo),(i slo)])) (pe (v:=(i klo)) rfl (pe (v:=(i llo)) rfl (pe (v:=(i slo)) rfl pn))) (fun w=>by kernel_rfl)) rfl ?_
  refine Ro.q (v:=(p b1 12)) rfl rfl (zA vJ rfl rfl) rfl ?_
  refine Ro.q (v:=(p b1 18)) rfl rfl (zA fo52_5 rfl rfl) rfl ?_
  refine Ro.q (v:=(p b1 19)) rfl rfl (zA yZ rfl rfl) rfl ?_
  refine Ro.q rfl rfl (zE zM rfl (H.cells 6 rfl) (j:=19) rfl rfl) rfl ?_
  refine Ro.d rfl rfl rfl (zH rfl en121 (ce (v:=(.agg #[(i base),(.slice ab bs.length cab),(.slice ad dl.length cad),(i blo),(i bhi),(i klo),(i khi),(i llo),(i lhi),(i slo),(i shi),(i term),(i day),(i shown),(i err),(i bare),(i alo),(i ahi),(i rlo),(i rhi),(i deep),(.bool broken)])) rfl (ce (v:=(.agg #[(i klo),(i llo),(i slo)])) rfl (ce (v:=(i rhi)) rfl cn))) (c121 base blo bhi klo khi llo lhi slo shi term day shown err bare alo ahi rlo rhi deep broken klo llo slo rhi ab bs cab ad dl cad _ (hab.ext H.keep) (had.ext H.keep) (by omega)) ?_)
  intro u w27 k28 hu;subst hu;replace H:=H.ext k28
  clear k28
  have hne:b5≠b8:=H.ne 4 3 rfl rfl (by decide)
  refine Ro.d rfl rfl rfl (vH (fv:=[]) (cv:=[p b5 0,p b8 0]) rfl rfl en120 (ce (v:=(.agg #[(i (min (zG klo llo slo shown bare deep alo rhi 0) (zG klo llo slo shown bare deep ahi rhi 0)-err)),(i (max (zG klo llo slo shown bare deep alo rhi 0) (zG klo llo slo shown bare deep ahi rhi 0)+err))])) rfl cn) (c120 (first:=false) _ (H.at 4 rfl) (H.at 3 rfl) hne) ?_)
  rintro u w29 ⟨rfl,kc30,h31,lo35,hi36,h32,e33,e34⟩
  have hull37:=vU (q:=(vA shown err bare alo ahi deep klo llo slo rhi)) hull26 e33 e34
  replace H:S Nm w [(b14,.cells [i slo,i shi].toArray 3 (0,0)),(b12,.cells [i llo,i lhi].toArray 3 (0,0)),(b10,.cells [i klo,i khi].toArray 3 (0,0)),(b8,.cells [i lo35,i hi36].toArray 41 (0,0)),(b5,.cells [.bool false].toArray 4 (0,0)),(b3,.cells [i 0,i 0].toArray 41 (0,0)),(b1,.cells [i base,.slice ab bs.length cab,.slice ad dl.length cad,i blo,i bhi,i klo,i khi,i llo,i lhi,i slo,i shi,i term,i day,i shown,i err,i bare,i alo,i ahi,i rlo,i rhi,i deep,.bool broken].toArray 170 (0,0))] w29:=S.turn2 (i:=4) (j:=3) H rfl rfl hne (by decide) kc30 h31 h32
  clear e33 e34 hne
  refine Ro.nil (nB (nT (Wp.region ?_)))
  refine Ro.q (v:=(i 1)) rfl rfl (Runs.to (zU rfl rfl (by constructor <;>omega)) (by rfl)) rfl ?_
  refine Ro.q (v:=(i 1)) rfl rfl (zB rfl) rfl ?_
  refine Ro.nil (nT ?_)
  refine Rounds.next ?_
  refine Wp.seq (Wp.region ?_)
  refine Ro.q (v:=(.bool true)) rfl rfl (Runs.to (yB rfl rfl) (by rfl)) rfl ?_
  refine Ro.nil (nT (Wp.seq ?_))
  refine Wp.condT rfl ?_
  refine Wp.skip (nT (Wp.seq (Wp.block (Wp.seq (Wp.region ?_)))))
  refine Ro.q rfl rfl (zY ts72 ((Sl.of (b:=b14) (k:=1) (xs:=[slo,shi].map yD) (by simp [yD]) (show Cells _ b14 0 _ from H.cells 0 rfl))) rfl (by simp) rfl (by omega) (show ([[i slo],[i shi]]:List (List Value))[(1:Int).toNat]? = some [i shi] from rfl)) rfl ?_
  refine Ro.q rfl rfl (zE zM rfl (((Sl.of (b:=b14) (k:=1) (xs:=[slo,shi].map yD) (by simp [yD]) (show Cells _ b14 0 _ from H.cells 0 rfl))).cells (show ([[i slo],[i shi]]:List (List Value))[(1:Int).toNat]? = some [i shi] from rfl)) (j:=0) rfl rfl) rfl ?_
  refine Ro.q (v:=(i shi)) rfl rfl (zD rfl) rfl ?_
  refine Ro.nil (nT (Wp.seq (Wp.region ?_)))
  refine Ro.q (v:=(.func (.func 120) #[] #[(p b5 0),(p b8 0)])) rfl rfl (zB rfl) rfl ?_
  refine Ro.q rfl rfl (zJ ta170 rfl (H.cells 6 rfl) (j:=0) rfl (vs:=[i base,.slice ab bs.length cab,.slice ad dl.length cad,i blo,i bhi,i klo,i khi,i llo,i lhi,i slo,i shi,i term,i day,i shown,i err,i bare,i alo,i ahi,i rlo,i rhi,i deep,.bool broken]) rfl rfl) rfl ?_
  refine Ro.q (v:=(i klo)) rfl rfl (zB rfl) rfl ?_
  refine Ro.q (v:=(i llo)) rfl rfl (zB rfl) rfl ?_
  refine Ro.q (v:=(i shi)) rfl rfl (zB rfl) rfl ?_
  refine Ro.q (v:=(.agg #[(i klo),(i llo),(i shi)])) rfl rfl (zP (v:=(.agg #[(i klo),(i llo),(i shi)])) (pe (v:=(i klo)) rfl (pe (v:=(i llo)) rfl (pe (v:=(i shi)) rfl pn))) (fun w=>by kernel_rfl)) rfl ?_
  refine Ro.q (v:=(p b1 12)) rfl rfl (zA vJ rfl rfl) rfl ?_
  refine Ro.q (v:=(p b1 18)) rfl rfl (zA fo52_5 rfl rfl) rfl ?_
  refine Ro.q (v:=(p b1 18)) rfl rfl (zA yV rfl rfl) rfl ?_
  refine Ro.q rfl rfl (zE zM rfl (H.cells 6 rfl) (j:=18) rfl rfl) rfl ?_
  refine Ro.d rfl rfl rfl (zH rfl en121 (ce (v:=(.agg #[(i base),(.slice ab bs.length cab),(.slice ad dl.length cad),(i blo),(i bhi),(i klo),(i khi),(i llo),(i lhi),(i slo),(i shi),(i term),(i day),(i shown),(i err),(i bare),(i alo),(i ahi),(i rlo),(i rhi),(i deep),(.bool broken)])) rfl (ce (v:=(.agg #[(i klo),(i llo),(i shi)])) rfl (ce (v:=(i rlo)) rfl cn))) (c121 base blo bhi klo khi llo lhi slo shi term day shown err bare alo ahi rlo rhi deep broken klo llo shi rlo ab bs cab ad dl cad _ (hab.ext H.keep) (had.ext H.keep) (by omega)) ?_)
  intro u w38 k39 hu;subst hu;replace H:=H.ext k39
  clear k39
  have hne:b5≠b8:=H.ne 4 3 rfl rfl (by decide)
  refine Ro.d rfl rfl rfl (vH (fv:=[]) (cv:=[p b5 0,p b8 0]) rfl rfl en120 (ce (v:=(.agg #[(i (min (zG klo llo shi shown bare deep alo rlo 0) (zG klo llo shi shown bare deep ahi rlo 0)-err)),(i (max (zG klo llo shi shown bare deep alo rlo 0) (zG klo llo shi shown bare deep ahi rlo 0)+err))])) rfl cn) (c120 (first:=false) _ (H.at 4 rfl) (H.at 3 rfl) hne) ?_)
  rintro u w40 ⟨rfl,kc41,h42,lo46,hi47,h43,e44,e45⟩
  have hull48:=vU (q:=(vA shown err bare alo ahi deep klo llo shi rlo)) hull37 e44 e45
  replace H:S Nm w [(b14,.cells [i slo,i shi].toArray 3 (0,0)),(b12,.cells [i llo,i lhi].toArray 3 (0,0)),(b10,.cells [i klo,i khi].toArray 3 (0,0)),(b8,.cells [i lo46,i hi47].toArray 41 (0,0)),(b5,.cells [.bool false].toArray 4 (0,0)),(b3,.cells [i 0,i 0].toArray 41 (0,0)),(b1,.cells [i base,.slice ab bs.length cab,.slice ad dl.length cad,i blo,i bhi,i klo,i khi,i llo,i lhi,i slo,i shi,i term,i day,i shown,i err,i bare,i alo,i ahi,i rlo,i rhi,i deep,.bool broken].toArray 170 (0,0))] w40:=S.turn2 (i:=4) (j:=3) H rfl rfl hne (by decide) kc41 h42 h43
  clear e44 e45 hne
  refine Ro.nil (nT (Wp.region ?_))
  refine Ro.q (v:=(.func (.func 120) #[] #[(p b5 0),(p b8 0)])) rfl rfl (zB rfl) rfl ?_
  refine Ro.q rfl rfl (zJ ta170 rfl (H.cells 6 rfl) (j:=0) rfl (vs:=[i base,.slice ab bs.length cab,.slice ad dl.length cad,i blo,i bhi,i klo,i khi,i llo,i lhi,i slo,i shi,i term,i day,i shown,i err,i bare,i alo,i ahi,i rlo,i rhi,i deep,.bool broken]) rfl rfl) rfl ?_
  refine Ro.q (v:=(i klo)) rfl rfl (zB rfl) rfl ?_
  refine Ro.q (v:=(i llo)) rfl rfl (zB rfl) rfl ?_
  refine Ro.q (v:=(i shi)) rfl rfl (zB rfl) rfl ?_
  refine Ro.q (v:=(.agg #[(i klo),(i llo),(i shi)])) rfl rfl (zP (v:=(.agg #[(i klo),(i llo),(i shi)])) (pe (v:=(i klo)) rfl (pe (v:=(i llo)) rfl (pe (v:=(i shi)) rfl pn))) (fun w=>by kernel_rfl)) rfl ?_
  refine Ro.q (v:=(p b1 12)) rfl rfl (zA vJ rfl rfl) rfl ?_
  refine Ro.q (v:=(p b1 18)) rfl rfl (zA fo52_5 rfl rfl) rfl ?_
  refine Ro.q (v:=(p b1 19)) rfl rfl (zA yZ rfl rfl) rfl ?_
  refine Ro.q rfl rfl (zE zM rfl (H.cells 6 rfl) (j:=19) rfl rfl) rfl ?_
  refine Ro.d rfl rfl rfl (zH rfl en121 (ce (v:=(.agg #[(i base),(.slice ab bs.length cab),(.slice ad dl.length cad),(i blo),(i bhi),(i klo),(i khi),(i llo),(i lhi),(i slo),(i shi),(i term),(i day),(i shown),(i err),(i bare),(i alo),(i ahi),(i rlo),(i rhi),(i deep),(.bool broken)])) rfl (ce (v:=(.agg #[(i klo),(i llo),(i shi)])) rfl (ce (v:=(i rhi)) rfl cn))) (c121 base blo bhi klo khi llo lhi slo shi term day shown err bare alo ahi rlo rhi deep broken klo llo shi rhi ab bs cab ad dl cad _ (hab.ext H.keep) (had.ext H.keep) (by omega)) ?_)
  intro u w49 k50 hu;subst hu;replace H:=H.ext k50
  clear k50
  have hne:b5≠b8:=H.ne 4 3 rfl rfl (by decide)
  refine Ro.d rfl rfl rfl (vH (fv:=[]) (cv:=[p b5 0,p b8 0]) rfl rfl en120 (ce (v:=(.agg #[(i (min (zG klo llo shi shown bare deep alo rhi 0) (zG klo llo shi shown bare deep ahi rhi 0)-err)),(i (max (zG klo llo shi shown bare deep alo rhi 0) (zG klo llo shi shown bare deep ahi rhi 0)+err))])) rfl cn) (c120 (first:=false) _ (H.at 4 rfl) (H.at 3 rfl) hne) ?_)
  rintro u w51 ⟨rfl,kc52,h53,lo57,hi58,h54,e55,e56⟩
  have hull59:=vU (q:=(vA shown err bare alo ahi deep klo llo shi rhi)) hull48 e55 e56
  replace H:S Nm w [(b14,.cells [i slo,i shi].toArray 3 (0,0)),(b12,.cells [i llo,i lhi].toArray 3 (0,0)),(b10,.cells [i klo,i khi].toArray 3 (0,0)),(b8,.cells [i lo57,i hi58].toArray 41 (0,0)),(b5,.cells [.bool false].toArray 4 (0,0)),(b3,.cells [i 0,i 0].toArray 41 (0,0)),(b1,.cells [i base,.slice ab bs.length cab,.slice ad dl.length cad,i blo,i bhi,i klo,i khi,i llo,i lhi,i slo,i shi,i term,i day,i shown,i err,i bare,i alo,i ahi,i rlo,i rhi,i deep,.bool broken].toArray 170 (0,0))] w51:=S.turn2 (i:=4) (j:=3) H rfl rfl hne (by decide) kc52 h53 h54
  clear e55 e56 hne
  refine Ro.nil (nB (nT (Wp.region ?_)))
  refine Ro.q (v:=(i 2)) rfl rfl (Runs.to (zU rfl rfl (by constructor <;>omega)) (by rfl)) rfl ?_
  refine Ro.q (v:=(i 2)) rfl rfl (zB rfl) rfl ?_
  refine Ro.nil (nT ?_)
  refine Rounds.next ?_
  refine Wp.seq (Wp.region ?_)
  refine Ro.q (v:=(.bool false)) rfl rfl (Runs.to (yB rfl rfl) (by rfl)) rfl ?_
  refine Ro.nil (nT (Wp.seq ?_))
  refine Wp.condF rfl ?_
  refine Wp.exit (xT (xT (xB (nB (nT (Wp.region ?_))))))
  refine Ro.q (v:=(i 1)) rfl rfl (Runs.to (zU rfl rfl (by constructor <;>omega)) (by rfl)) rfl ?_
  refine Ro.q (v:=(i 1)) rfl rfl (zB rfl) rfl ?_
  refine Ro.nil (nT ?_)
  refine Rounds.next ?_
  refine Wp.seq (Wp.region ?_)
  refine Ro.q (v:=(.bool true)) rfl rfl (Runs.to (yB rfl rfl) (by rfl)) rfl ?_
  refine Ro.nil (nT (Wp.seq ?_))
  refine Wp.condT rfl ?_
  refine Wp.skip (nT (Wp.seq (Wp.block (Wp.seq (Wp.region ?_)))))
  refine Ro.q rfl rfl (zY ts72 ((Sl.of (b:=b12) (k:=1) (xs:=[llo,lhi].map yD) (by simp [yD]) (show Cells _ b12 0 _ from H.cells 1 rfl))) rfl (by simp) rfl (by omega) (show ([[i llo],[i lhi]]:List (List Value))[(1:Int).toNat]? = some [i lhi] from rfl)) rfl ?_
  refine Ro.q rfl rfl (zE zM rfl (((Sl.of (b:=b12) (k:=1) (xs:=[llo,lhi].map yD) (by simp [yD]) (show Cells _ b12 0 _ from H.cells 1 rfl))).cells (show ([[i llo],[i lhi]]:List (List Value))[(1:Int).toNat]? = some [i lhi] from rfl)) (j:=0) rfl rfl) rfl ?_
  refine Ro.q (v:=(i lhi)) rfl rfl (zD rfl) rfl ?_
  refine Ro.nil (nT (Wp.seq (Wp.region ?_)))
  refine Ro.q (v:=(p b1 0)) rfl rfl (zA fo170_0 rfl rfl) rfl ?_
  refine Ro.q (v:=(p b1 9)) rfl rfl (zA fo45_3 rfl rfl) rfl ?_
  refine Ro.q (v:=(p b1 9)) rfl rfl (zA yV rfl rfl) rfl ?_
  refine Ro.q rfl rfl (zE zM rfl (H.cells 6 rfl) (j:=9) rfl rfl) rfl ?_
  refine Ro.q (v:=(p b1 0)) rfl rfl (zA fo170_0 rfl rfl) rfl ?_
  refine Ro.q (v:=(p b1 9)) rfl rfl (zA fo45_3 rfl rfl) rfl ?_
  refine Ro.q (v:=(p b1 10)) rfl rfl (zA yZ rfl rfl) rfl ?_
  refine Ro.q rfl rfl (zE zM rfl (H.cells 6 rfl) (j:=10) rfl rfl) rfl ?_
  refine Ro.d rfl rfl rfl (H.row (e:=3) (cs:=[i slo,i shi]) rfl (pe (v:=(i slo)) rfl (pe (v:=(i shi)) rfl pn)) (fun w=>by kernel_rfl) ?_)
  intro b60 w61 Hn;replace H:=Hn;clear Hn
  refine Ro.q rfl rfl (yG Tryz.underlying72 rfl (v:=2) rfl) rfl ?_
  refine Ro.q (v:=(i 0)) rfl rfl (zB rfl) rfl ?_
  refine Ro.nil (nT (Wp.block ?_))
  refine Wp.rounds 3 (Rounds.next ?_)
  refine Wp.seq (Wp.region ?_)
  refine Ro.q (v:=(.bool true)) rfl rfl (Runs.to (yB rfl rfl) (by rfl)) rfl ?_
  refine Ro.nil (nT (Wp.seq ?_))
  refine Wp.condT rfl ?_
  refine Wp.skip (nT (Wp.seq (Wp.block (Wp.seq (Wp.region ?_)))))
  refine Ro.q rfl rfl (zY ts72 ((Sl.of (b:=b60) (k:=1) (xs:=[slo,shi].map yD) (by simp [yD]) (show Cells _ b60 0 _ from H.cells 0 rfl))) rfl (by simp) rfl (by omega) (show ([[i slo],[i shi]]:List (List Value))[(0:Int).toNat]? = some [i slo] from rfl)) rfl ?_
  refine Ro.q rfl rfl (zE zM rfl (((Sl.of (b:=b60) (k:=1) (xs:=[slo,shi].map yD) (by simp [yD]) (show Cells _ b60 0 _ from H.cells 0 rfl))).cells (show ([[i slo],[i shi]]:List (List Value))[(0:Int).toNat]? = some [i slo] from rfl)) (j:=0) rfl rfl) rfl ?_
  refine Ro.q (v:=(i slo)) rfl rfl (zD rfl) rfl ?_
  refine Ro.nil (nT (Wp.seq (Wp.region ?_)))
  refine Ro.q (v:=(.func (.func 120) #[] #[(p b5 0),(p b8 0)])) rfl rfl (zB rfl) rfl ?_
  refine Ro.q rfl rfl (zJ ta170 rfl (H.cells 7 rfl) (j:=0) rfl (vs:=[i base,.slice ab bs.length cab,.slice ad dl.length cad,i blo,i bhi,i klo,i khi,i llo,i lhi,i slo,i shi,i term,i day,i shown,i err,i bare,i alo,i ahi,i rlo,i rhi,i deep,.bool broken]) rfl rfl) rfl ?_
  refine Ro.q (v:=(i klo)) rfl rfl (zB rfl) rfl ?_
  refine Ro.q (v:=(i lhi)) rfl rfl (zB rfl) rfl ?_
  refine Ro.q (v:=(i slo)) rfl rfl (zB rfl) rfl ?_
  refine Ro.q (v:=(.agg #[(i klo),(i lhi),(i slo)])) rfl rfl (zP (v:=(.agg #[(i klo),(i lhi),(i slo)])) (pe (v:=(i klo)) rfl (pe (v:=(i lhi)) rfl (pe (v:=(i slo)) rfl pn))) (fun w=>by kernel_rfl)) rfl ?_
  refine Ro.q (v:=(p b1 12)) rfl rfl (zA vJ rfl rfl) rfl ?_
  refine Ro.q (v:=(p b1 18)) rfl rfl (zA fo52_5 rfl rfl) rfl ?_
  refine Ro.q (v:=(p b1 18)) rfl rfl (zA yV rfl rfl) rfl ?_
  refine Ro.q rfl rfl (zE zM rfl (H.cells 7 rfl) (j:=18) rfl rfl) rfl ?_
  refine Ro.d rfl rfl rfl (zH rfl en121 (ce (v:=(.agg #[(i base),(.slice ab bs.length cab),(.slice ad dl.length cad),(i blo),(i bhi),(i klo),(i khi),(i llo),(i lhi),(i slo),(i shi),(i term),(i day),(i shown),(i err),(i bare),(i alo),(i ahi),(i rlo),(i rhi),(i deep),(.bool broken)])) rfl (ce (v:=(.agg #[(i klo),(i lhi),(i slo)])) rfl (ce (v:=(i rlo)) rfl cn))) (c121 base blo bhi klo khi llo lhi slo shi term day shown err bare alo ahi rlo rhi deep broken klo lhi slo rlo ab bs cab ad dl cad _ (hab.ext H.keep) (had.ext H.keep) (by omega)) ?_)
  intro u w62 k63 hu;subst hu;replace H:=H.ext k63
  clear k63
  have hne:b5≠b8:=H.ne 5 4 rfl rfl (by decide)
  refine Ro.d rfl rfl rfl (vH (fv:=[]) (cv:=[p b5 0,p b8 0]) rfl rfl en120 (ce (v:=(.agg #[(i (min (zG klo lhi slo shown bare deep alo rlo 0) (zG klo lhi slo shown bare deep ahi rlo 0)-err)),(i (max (zG klo lhi slo shown bare deep alo rlo 0) (zG klo lhi slo shown bare deep ahi rlo 0)+err))])) rfl cn) (c120 (first:=false) _ (H.at 5 rfl) (H.at 4 rfl) hne) ?_)
  rintro u w64 ⟨rfl,kc65,h66,lo70,hi71,h67,e68,e69⟩
  have hull72:=vU (q:=(vA shown err bare alo ahi deep klo lhi slo rlo)) hull59 e68 e69
  replace H:S Nm w [(b60,.cells [i slo,i shi].toArray 3 (0,0)),(b14,.cells [i slo,i shi].toArray 3 (0,0)),(b12,.cells [i llo,i lhi].toArray 3 (0,0)),(b10,.cells [i klo,i khi].toArray 3 (0,0)),(b8,.cells [i lo70,i hi71].toArray 41 (0,0)),(b5,.cells [.bool false].toArray 4 (0,0)),(b3,.cells [i 0,i 0].toArray 41 (0,0)),(b1,.cells [i base,.slice ab bs.length cab,.slice ad dl.length cad,i blo,i bhi,i klo,i khi,i llo,i lhi,i slo,i shi,i term,i day,i shown,i err,i bare,i alo,i ahi,i rlo,i rhi,i deep,.bool broken].toArray 170 (0,0))] w64:=S.turn2 (i:=5) (j:=4) H rfl rfl hne (by decide) kc65 h66 h67
  clear e68 e69 hne
  refine Ro.nil (nT (Wp.region ?_))
  refine Ro.q (v:=(.func (.func 120) #[] #[(p b5 0),(p b8 0)])) rfl rfl (zB rfl) rfl ?_
  refine Ro.q rfl rfl (zJ ta170 rfl (H.cells 7 rfl) (j:=0) rfl (vs:=[i base,.slice ab bs.length cab,.slice ad dl.length cad,i blo,i bhi,i klo,i khi,i llo,i lhi,i slo,i shi,i term,i day,i shown,i err,i bare,i alo,i ahi,i rlo,i rhi,i deep,.bool broken]) rfl rfl) rfl ?_
  refine Ro.q (v:=(i klo)) rfl rfl (zB rfl) rfl ?_
  refine Ro.q (v:=(i lhi)) rfl rfl (zB rfl) rfl ?_
  refine Ro.q (v:=(i slo)) rfl rfl (zB rfl) rfl ?_
  refine Ro.q (v:=(.agg #[(i klo),(i lhi),(i slo)])) rfl rfl (zP (v:=(.agg #[(i klo),(i lhi),(i slo)])) (pe (v:=(i klo)) rfl (pe (v:=(i lhi)) rfl (pe (v:=(i slo)) rfl pn))) (fun w=>by kernel_rfl)) rfl ?_
  refine Ro.q (v:=(p b1 12)) rfl rfl (zA vJ rfl rfl) rfl ?_
  refine Ro.q (v:=(p b1 18)) rfl rfl (zA fo52_5 rfl rfl) rfl ?_
  refine Ro.q (v:=(p b1 19)) rfl rfl (zA yZ rfl rfl) rfl ?_
  refine Ro.q rfl rfl (zE zM rfl (H.cells 7 rfl) (j:=19) rfl rfl) rfl ?_
  refine Ro.d rfl rfl rfl (zH rfl en121 (ce (v:=(.agg #[(i base),(.slice ab bs.length cab),(.slice ad dl.length cad),(i blo),(i bhi),(i klo),(i khi),(i llo),(i lhi),(i slo),(i shi),(i term),(i day),(i shown),(i err),(i bare),(i alo),(i ahi),(i rlo),(i rhi),(i deep),(.bool broken)])) rfl (ce (v:=(.agg #[(i klo),(i lhi),(i slo)])) rfl (ce (v:=(i rhi)) rfl cn))) (c121 base blo bhi klo khi llo lhi slo shi term day shown err bare alo ahi rlo rhi deep broken klo lhi slo rhi ab bs cab ad dl cad _ (hab.ext H.keep) (had.ext H.keep) (by omega)) ?_)
  intro u w73 k74 hu;subst hu;replace H:=H.ext k74
  clear k74
  have hne:b5≠b8:=H.ne 5 4 rfl rfl (by decide)
  refine Ro.d rfl rfl rfl (vH (fv:=[]) (cv:=[p b5 0,p b8 0]) rfl rfl en120 (ce (v:=(.agg #[(i (min (zG klo lhi slo shown bare deep alo rhi 0) (zG klo lhi slo shown bare deep ahi rhi 0)-err)),(i (max (zG klo lhi slo shown bare deep alo rhi 0) (zG klo lhi slo shown bare deep ahi rhi 0)+err))])) rfl cn) (c120 (first:=false) _ (H.at 5 rfl) (H.at 4 rfl) hne) ?_)
  rintro u w75 ⟨rfl,kc76,h77,lo81,hi82,h78,e79,e80⟩
  have hull83:=vU (q:=(vA shown err bare alo ahi deep klo lhi slo rhi)) hull72 e79 e80
  replace H:S Nm w [(b60,.cells [i slo,i shi].toArray 3 (0,0)),(b14,.cells [i slo,i shi].toArray 3 (0,0)),(b12,.cells [i llo,i lhi].toArray 3 (0,0)),(b10,.cells [i klo,i khi].toArray 3 (0,0)),(b8,.cells [i lo81,i hi82].toArray 41 (0,0)),(b5,.cells [.bool false].toArray 4 (0,0)),(b3,.cells [i 0,i 0].toArray 41 (0,0)),(b1,.cells [i base,.slice ab bs.length cab,.slice ad dl.length cad,i blo,i bhi,i klo,i khi,i llo,i lhi,i slo,i shi,i term,i day,i shown,i err,i bare,i alo,i ahi,i rlo,i rhi,i deep,.bool broken].toArray 170 (0,0))] w75:=S.turn2 (i:=5) (j:=4) H rfl rfl hne (by decide) kc76 h77 h78
  clear e79 e80 hne
  refine Ro.nil (nB (nT (Wp.region ?_)))
  refine Ro.q (v:=(i 1)) rfl rfl (Runs.to (zU rfl rfl (by constructor <;>omega)) (by rfl)) rfl ?_
  refine Ro.q (v:=(i 1)) rfl rfl (zB rfl) rfl ?_
  refine Ro.nil (nT ?_)
  refine Rounds.next ?_
  refine Wp.seq (Wp.region ?_)
  refine Ro.q (v:=(.bool true)) rfl rfl (Runs.to (yB rfl rfl) (by rfl)) rfl ?_
  refine Ro.nil (nT (Wp.seq ?_))
  refine Wp.condT rfl ?_
  refine Wp.skip (nT (Wp.seq (Wp.block (Wp.seq (Wp.region ?_)))))
  refine Ro.q rfl rfl (zY ts72 ((Sl.of (b:=b60) (k:=1) (xs:=[slo,shi].map yD) (by simp [yD]) (show Cells _ b60 0 _ from H.cells 0 rfl))) rfl (by simp) rfl (by omega) (show ([[i slo],[i shi]]:List (List Value))[(1:Int).toNat]? = some [i shi] from rfl)) rfl ?_
  refine Ro.q rfl rfl (zE zM rfl (((Sl.of (b:=b60) (k:=1) (xs:=[slo,shi].map yD) (by simp [yD]) (show Cells _ b60 0 _ from H.cells 0 rfl))).cells (show ([[i slo],[i shi]]:List (List Value))[(1:Int).toNat]? = some [i shi] from rfl)) (j:=0) rfl rfl) rfl ?_
  refine Ro.q (v:=(i shi)) rfl rfl (zD rfl) rfl ?_
  refine Ro.nil (nT (Wp.seq (Wp.region ?_)))
  refine Ro.q (v:=(.func (.func 120) #[] #[(p b5 0),(p b8 0)])) rfl rfl (zB rfl) rfl ?_
  refine Ro.q rfl rfl (zJ ta170 rfl (H.cells 7 rfl) (j:=0) rfl (vs:=[i base,.slice ab bs.length cab,.slice ad dl.length cad,i blo,i bhi,i klo,i khi,i llo,i lhi,i slo,i shi,i term,i day,i shown,i err,i bare,i alo,i ahi,i rlo,i rhi,i deep,.bool broken]) rfl rfl) rfl ?_
  refine Ro.q (v:=(i klo)) rfl rfl (zB rfl) rfl ?_
  refine Ro.q (v:=(i lhi)) rfl rfl (zB rfl) rfl ?_
  refine Ro.q (v:=(i shi)) rfl rfl (zB rfl) rfl ?_
  refine Ro.q (v:=(.agg #[(i klo),(i lhi),(i shi)])) rfl rfl (zP (v:=(.agg #[(i klo),(i lhi),(i shi)])) (pe (v:=(i klo)) rfl (pe (v:=(i lhi)) rfl (pe (v:=(i shi)) rfl pn))) (fun w=>by kernel_rfl)) rfl ?_
  refine Ro.q (v:=(p b1 12)) rfl rfl (zA vJ rfl rfl) rfl ?_
  refine Ro.q (v:=(p b1 18)) rfl rfl (zA fo52_5 rfl rfl) rfl ?_
  refine Ro.q (v:=(p b1 18)) rfl rfl (zA yV rfl rfl) rfl ?_
  refine Ro.q rfl rfl (zE zM rfl (H.cells 7 rfl) (j:=18) rfl rfl) rfl ?_
  refine Ro.d rfl rfl rfl (zH rfl en121 (ce (v:=(.agg #[(i base),(.slice ab bs.length cab),(.slice ad dl.length cad),(i blo),(i bhi),(i klo),(i khi),(i llo),(i lhi),(i slo),(i shi),(i term),(i day),(i shown),(i err),(i bare),(i alo),(i ahi),(i rlo),(i rhi),(i deep),(.bool broken)])) rfl (ce (v:=(.agg #[(i klo),(i lhi),(i shi)])) rfl (ce (v:=(i rlo)) rfl cn))) (c121 base blo bhi klo khi llo lhi slo shi term day shown err bare alo ahi rlo rhi deep broken klo lhi shi rlo ab bs cab ad dl cad _ (hab.ext H.keep) (had.ext H.keep) (by omega)) ?_)
  intro u w84 k85 hu;subst hu;replace H:=H.ext k85
  clear k85
  have hne:b5≠b8:=H.ne 5 4 rfl rfl (by decide)
  refine Ro.d rfl rfl rfl (vH (fv:=[]) (cv:=[p b5 0,p b8 0]) rfl rfl en120 (ce (v:=(.agg #[(i (min (zG klo lhi shi shown bare deep alo rlo 0) (zG klo lhi shi shown bare deep ahi rlo 0)-err)),(i (max (zG klo lhi shi shown bare deep alo rlo 0) (zG klo lhi shi shown bare deep ahi rlo 0)+err))])) rfl cn) (c120 (first:=false) _ (H.at 5 rfl) (H.at 4 rfl) hne) ?_)
  rintro u w86 ⟨rfl,kc87,h88,lo92,hi93,h89,e90,e91⟩
  have hull94:=vU (q:=(vA shown err bare alo ahi deep klo lhi shi rlo)) hull83 e90 e91
  replace H:S Nm w [(b60,.cells [i slo,i shi].toArray 3 (0,0)),(b14,.cells [i slo,i shi].toArray 3 (0,0)),(b12,.cells [i llo,i lhi].toArray 3 (0,0)),(b10,.cells [i klo,i khi].toArray 3 (0,0)),(b8,.cells [i lo92,i hi93].toArray 41 (0,0)),(b5,.cells [.bool false].toArray 4 (0,0)),(b3,.cells [i 0,i 0].toArray 41 (0,0)),(b1,.cells [i base,.slice ab bs.length cab,.slice ad dl.length cad,i blo,i bhi,i klo,i khi,i llo,i lhi,i slo,i shi,i term,i day,i shown,i err,i bare,i alo,i ahi,i rlo,i rhi,i deep,.bool broken].toArray 170 (0,0))] w86:=S.turn2 (i:=5) (j:=4) H rfl rfl hne (by decide) kc87 h88 h89
  clear e90 e91 hne
  refine Ro.nil (nT (Wp.region ?_))
  refine Ro.q (v:=(.func (.func 120) #[] #[(p b5 0),(p b8 0)])) rfl rfl (zB rfl) rfl ?_
  refine Ro.q rfl rfl (zJ ta170 rfl (H.cells 7 rfl) (j:=0) rfl (vs:=[i base,.slice ab bs.length cab,.slice ad dl.length cad,i blo,i bhi,i klo,i khi,i llo,i lhi,i slo,i shi,i term,i day,i shown,i err,i bare,i alo,i ahi,i rlo,i rhi,i deep,.bool broken]) rfl rfl) rfl ?_
  refine Ro.q (v:=(i klo)) rfl rfl (zB rfl) rfl ?_
  refine Ro.q (v:=(i lhi)) rfl rfl (zB rfl) rfl ?_
  refine Ro.q (v:=(i shi)) rfl rfl (zB rfl) rfl ?_
  refine Ro.q (v:=(.agg #[(i klo),(i lhi),(i shi)])) rfl rfl (zP (v:=(.agg #[(i klo),(i lhi),(i shi)])) (pe (v:=(i klo)) rfl (pe (v:=(i lhi)) rfl (pe (v:=(i shi)) rfl pn))) (fun w=>by kernel_rfl)) rfl ?_
  refine Ro.q (v:=(p b1 12)) rfl rfl (zA vJ rfl rfl) rfl ?_
  refine Ro.q (v:=(p b1 18)) rfl rfl (zA fo52_5 rfl rfl) rfl ?_
  refine Ro.q (v:=(p b1 19)) rfl rfl (zA yZ rfl rfl) rfl ?_
  refine Ro.q rfl rfl (zE zM rfl (H.cells 7 rfl) (j:=19) rfl rfl) rfl ?_
  refine Ro.d rfl rfl rfl (zH rfl en121 (ce (v:=(.agg #[(i base),(.slice ab bs.length cab),(.slice ad dl.length cad),(i blo),(i bhi),(i klo),(i khi),(i llo),(i lhi),(i slo),(i shi),(i term),(i day),(i shown),(i err),(i bare),(i alo),(i ahi),(i rlo),(i rhi),(i deep),(.bool broken)])) rfl (ce (v:=(.agg #[(i klo),(i lhi),(i shi)])) rfl (ce (v:=(i rhi)) rfl cn))) (c121 base blo bhi klo khi llo lhi slo shi term day shown err bare alo ahi rlo rhi deep broken klo lhi shi rhi ab bs cab ad dl cad _ (hab.ext H.keep) (had.ext H.keep) (by omega)) ?_)
  intro u w95 k96 hu;subst hu;replace H:=H.ext k96
  clear k96
  have hne:b5≠b8:=H.ne 5 4 rfl rfl (by decide)
  refine Ro.d rfl rfl rfl (vH (fv:=[]) (cv:=[p b5 0,p b8 0]) rfl rfl en120 (ce (v:=(.agg #[(i (min (zG klo lhi shi shown bare deep alo rhi 0) (zG klo lhi shi shown bare deep ahi rhi 0)-err)),(i (max (zG klo lhi shi shown bare deep alo rhi 0) (zG klo lhi shi shown bare deep ahi rhi 0)+err))])) rfl cn) (c120 (first:=false) _ (H.at 5 rfl) (H.at 4 rfl) hne) ?_)
  rintro u w97 ⟨rfl,kc98,h99,lo103,hi104,h100,e101,e102⟩
  have hull105:=vU (q:=(vA shown err bare alo ahi deep klo lhi shi rhi)) hull94 e101 e102
  replace H:S Nm w [(b60,.cells [i slo,i shi].toArray 3 (0,0)),(b14,.cells [i slo,i shi].toArray 3 (0,0)),(b12,.cells [i llo,i lhi].toArray 3 (0,0)),(b10,.cells [i klo,i khi].toArray 3 (0,0)),(b8,.cells [i lo103,i hi104].toArray 41 (0,0)),(b5,.cells [.bool false].toArray 4 (0,0)),(b3,.cells [i 0,i 0].toArray 41 (0,0)),(b1,.cells [i base,.slice ab bs.length cab,.slice ad dl.length cad,i blo,i bhi,i klo,i khi,i llo,i lhi,i slo,i shi,i term,i day,i shown,i err,i bare,i alo,i ahi,i rlo,i rhi,i deep,.bool broken].toArray 170 (0,0))] w97:=S.turn2 (i:=5) (j:=4) H rfl rfl hne (by decide) kc98 h99 h100
  clear e101 e102 hne
  refine Ro.nil (nB (nT (Wp.region ?_)))
  refine Ro.q (v:=(i 2)) rfl rfl (Runs.to (zU rfl rfl (by constructor <;>omega)) (by rfl)) rfl ?_
  refine Ro.q (v:=(i 2)) rfl rfl (zB rfl) rfl ?_
  refine Ro.nil (nT ?_)
  refine Rounds.next ?_
  refine Wp.seq (Wp.region ?_)
  refine Ro.q (v:=(.bool false)) rfl rfl (Runs.to (yB rfl rfl) (by rfl)) rfl ?_
  refine Ro.nil (nT (Wp.seq ?_))
  refine Wp.condF rfl ?_
  refine Wp.exit (xT (xT (xB (nB (nT (Wp.region ?_))))))
  refine Ro.q (v:=(i 2)) rfl rfl (Runs.to (zU rfl rfl (by constructor <;>omega)) (by rfl)) rfl ?_
  refine Ro.q (v:=(i 2)) rfl rfl (zB rfl) rfl ?_
  refine Ro.nil (nT ?_)
  refine Rounds.next ?_
  refine Wp.seq (Wp.region ?_)
  refine Ro.q (v:=(.bool false)) rfl rfl (Runs.to (yB rfl rfl) (by rfl)) rfl ?_
  refine Ro.nil (nT (Wp.seq ?_))
  refine Wp.condF rfl ?_
  refine Wp.exit (xT (xT (xB (nB (nT (Wp.region ?_))))))
  refine Ro.q (v:=(i 1)) rfl rfl (Runs.to (zU rfl rfl (by constructor <;>omega)) (by rfl)) rfl ?_
  refine Ro.q (v:=(i 1)) rfl rfl (zB rfl) rfl ?_
  refine Ro.nil (nT ?_)
  refine Rounds.next ?_
  refine Wp.seq (Wp.region ?_)
  refine Ro.q (v:=(.bool true)) rfl rfl (Runs.to (yB rfl rfl) (by rfl)) rfl ?_
  refine Ro.nil (nT (Wp.seq ?_))
  refine Wp.condT rfl ?_
  refine Wp.skip (nT (Wp.seq (Wp.block (Wp.seq (Wp.region ?_)))))
  refine Ro.q rfl rfl (zY ts72 ((Sl.of (b:=b10) (k:=1) (xs:=[klo,khi].map yD) (by simp [yD]) (show Cells _ b10 0 _ from H.cells 3 rfl))) rfl (by simp) rfl (by omega) (show ([[i klo],[i khi]]:List (List Value))[(1:Int).toNat]? = some [i khi] from rfl)) rfl ?_
  refine Ro.q rfl rfl (zE zM rfl (((Sl.of (b:=b10) (k:=1) (xs:=[klo,khi].map yD) (by simp [yD]) (show Cells _ b10 0 _ from H.cells 3 rfl))).cells (show ([[i klo],[i khi]]:List (List Value))[(1:Int).toNat]? = some [i khi] from rfl)) (j:=0) rfl rfl) rfl ?_
  refine Ro.q (v:=(i khi)) rfl rfl (zD rfl) rfl ?_
  refine Ro.nil (nT (Wp.seq (Wp.region ?_)))
  refine Ro.q (v:=(p b1 0)) rfl rfl (zA fo170_0 rfl rfl) rfl ?_
  refine Ro.q (v:=(p b1 7)) rfl rfl (zA fo45_2 rfl rfl) rfl ?_
  refine Ro.q (v:=(p b1 7)) rfl rfl (zA yV rfl rfl) rfl ?_
  refine Ro.q rfl rfl (zE zM rfl (H.cells 7 rfl) (j:=7) rfl rfl) rfl ?_
  refine Ro.q (v:=(p b1 0)) rfl rfl (zA fo170_0 rfl rfl) rfl ?_
  refine Ro.q (v:=(p b1 7)) rfl rfl (zA fo45_2 rfl rfl) rfl ?_
  refine Ro.q (v:=(p b1 8)) rfl rfl (zA yZ rfl rfl) rfl ?_
  refine Ro.q rfl rfl (zE zM rfl (H.cells 7 rfl) (j:=8) rfl rfl) rfl ?_
  refine Ro.d rfl rfl rfl (H.row (e:=3) (cs:=[i llo,i lhi]) rfl (pe (v:=(i llo)) rfl (pe (v:=(i lhi)) rfl pn)) (fun w=>by kernel_rfl) ?_)
  intro b106 w107 Hn;replace H:=Hn;clear Hn
  refine Ro.q rfl rfl (yG Tryz.underlying72 rfl (v:=2) rfl) rfl ?_
  refine Ro.q (v:=(i 0)) rfl rfl (zB rfl) rfl ?_
  refine Ro.nil (nT (Wp.block ?_))
  refine Wp.rounds 3 (Rounds.next ?_)
  refine Wp.seq (Wp.region ?_)
  refine Ro.q (v:=(.bool true)) rfl rfl (Runs.to (yB rfl rfl) (by rfl)) rfl ?_
  refine Ro.nil (nT (Wp.seq ?_))
  refine Wp.condT rfl ?_
  refine Wp.skip (nT (Wp.seq (Wp.block (Wp.seq (Wp.region ?_)))))
  refine Ro.q rfl rfl (zY ts72 ((Sl.of (b:=b106) (k:=1) (xs:=[llo,lhi].map yD) (by simp [yD]) (show Cells _ b106 0 _ from H.cells 0 rfl))) rfl (by simp) rfl (by omega) (show ([[i llo],[i lhi]]:List (List Value))[(0:Int).toNat]? = some [i llo] from rfl)) rfl ?_
  refine Ro.q rfl rfl (zE zM rfl (((Sl.of (b:=b106) (k:=1) (xs:=[llo,lhi].map yD) (by simp [yD]) (show Cells _ b106 0 _ from H.cells 0 rfl))).cells (show ([[i llo],[i lhi]]:List (List Value))[(0:Int).toNat]? = some [i llo] from rfl)) (j:=0) rfl rfl) rfl ?_
  refine Ro.q (v:=(i llo)) rfl rfl (zD rfl) rfl ?_
  refine Ro.nil (nT (Wp.seq (Wp.region ?_)))
  refine Ro.q (v:=(p b1 0)) rfl rfl (zA fo170_0 rfl rfl) rfl ?_
  refine Ro.q (v:=(p b1 9)) rfl rfl (zA fo45_3 rfl rfl) rfl ?_
  refine Ro.q (v:=(p b1 9)) rfl rfl (zA yV rfl rfl) rfl ?_
  refine Ro.q rfl rfl (zE zM rfl (H.cells 8 rfl) (j:=9) rfl rfl) rfl ?_
  refine Ro.q (v:=(p b1 0)) rfl rfl (zA fo170_0 rfl rfl) rfl ?_
  refine Ro.q (v:=(p b1 9)) rfl rfl (zA fo45_3 rfl rfl) rfl ?_
  refine Ro.q (v:=(p b1 10)) rfl rfl (zA yZ rfl rfl) rfl ?_
  refine Ro.q rfl rfl (zE zM rfl (H.cells 8 rfl) (j:=10) rfl rfl) rfl ?_
  refine Ro.d rfl rfl rfl (H.row (e:=3) (cs:=[i slo,i shi]) rfl (pe (v:=(i slo)) rfl (pe (v:=(i shi)) rfl pn)) (fun w=>by kernel_rfl) ?_)
  intro b108 w109 Hn;replace H:=Hn;clear Hn
  refine Ro.q rfl rfl (yG Tryz.underlying72 rfl (v:=2) rfl) rfl ?_
  refine Ro.q (v:=(i 0)) rfl rfl (zB rfl) rfl ?_
  refine Ro.nil (nT (Wp.block ?_))
  refine Wp.rounds 3 (Rounds.next ?_)
  refine Wp.seq (Wp.region ?_)
  refine Ro.q (v:=(.bool true)) rfl rfl (Runs.to (yB rfl rfl) (by rfl)) rfl ?_
  refine Ro.nil (nT (Wp.seq ?_))
  refine Wp.condT rfl ?_
  refine Wp.skip (nT (Wp.seq (Wp.block (Wp.seq (Wp.region ?_)))))
  refine Ro.q rfl rfl (zY ts72 ((Sl.of (b:=b108) (k:=1) (xs:=[slo,shi].map yD) (by simp [yD]) (show Cells _ b108 0 _ from H.cells 0 rfl))) rfl (by simp) rfl (by omega) (show ([[i slo],[i shi]]:List (List Value))[(0:Int).toNat]? = some [i slo] from rfl)) rfl ?_
  refine Ro.q rfl rfl (zE zM rfl (((Sl.of (b:=b108) (k:=1) (xs:=[slo,shi].map yD) (by simp [yD]) (show Cells _ b108 0 _ from H.cells 0 rfl))).cells (show ([[i slo],[i shi]]:List (List Value))[(0:Int).toNat]? = some [i slo] from rfl)) (j:=0) rfl rfl) rfl ?_
  refine Ro.q (v:=(i slo)) rfl rfl (zD rfl) rfl ?_
  refine Ro.nil (nT (Wp.seq (Wp.region ?_)))
  refine Ro.q (v:=(.func (.func 120) #[] #[(p b5 0),(p b8 0)])) rfl rfl (zB rfl) rfl ?_
  refine Ro.q rfl rfl (zJ ta170 rfl (H.cells 9 rfl) (j:=0) rfl (vs:=[i base,.slice ab bs.length cab,.slice ad dl.length cad,i blo,i bhi,i klo,i khi,i llo,i lhi,i slo,i shi,i term,i day,i shown,i err,i bare,i alo,i ahi,i rlo,i rhi,i deep,.bool broken]) rfl rfl) rfl ?_
  refine Ro.q (v:=(i khi)) rfl rfl (zB rfl) rfl ?_
  refine Ro.q (v:=(i llo)) rfl rfl (zB rfl) rfl ?_
  refine Ro.q (v:=(i slo)) rfl rfl (zB rfl) rfl ?_
  refine Ro.q (v:=(.agg #[(i khi),(i llo),(i slo)])) rfl rfl (zP (v:=(.agg #[(i khi),(i llo),(i slo)])) (pe (v:=(i khi)) rfl (pe (v:=(i llo)) rfl (pe (v:=(i slo)) rfl pn))) (fun w=>by kernel_rfl)) rfl ?_
  refine Ro.q (v:=(p b1 12)) rfl rfl (zA vJ rfl rfl) rfl ?_
  refine Ro.q (v:=(p b1 18)) rfl rfl (zA fo52_5 rfl rfl) rfl ?_
  refine Ro.q (v:=(p b1 18)) rfl rfl (zA yV rfl rfl) rfl ?_
  refine Ro.q rfl rfl (zE zM rfl (H.cells 9 rfl) (j:=18) rfl rfl) rfl ?_
  refine Ro.d rfl rfl rfl (zH rfl en121 (ce (v:=(.agg #[(i base),(.slice ab bs.length cab),(.slice ad dl.length cad),(i blo),(i bhi),(i klo),(i khi),(i llo),(i lhi),(i slo),(i shi),(i term),(i day),(i shown),(i err),(i bare),(i alo),(i ahi),(i rlo),(i rhi),(i deep),(.bool broken)])) rfl (ce (v:=(.agg #[(i khi),(i llo),(i slo)])) rfl (ce (v:=(i rlo)) rfl cn))) (c121 base blo bhi klo khi llo lhi slo shi term day shown err bare alo ahi rlo rhi deep broken khi llo slo rlo ab bs cab ad dl cad _ (hab.ext H.keep) (had.ext H.keep) (by omega)) ?_)
  intro u w110 k111 hu;subst hu;replace H:=H.ext k111
  clear k111
  have hne:b5≠b8:=H.ne 7 6 rfl rfl (by decide)
  refine Ro.d rfl rfl rfl (vH (fv:=[]) (cv:=[p b5 0,p b8 0]) rfl rfl en120 (ce (v:=(.agg #[(i (min (zG khi llo slo shown bare deep alo rlo 0) (zG khi llo slo shown bare deep ahi rlo 0)-err)),(i (max (zG khi llo slo shown bare deep alo rlo 0) (zG khi llo slo shown bare deep ahi rlo 0)+err))])) rfl cn) (c120 (first:=false) _ (H.at 7 rfl) (H.at 6 rfl) hne) ?_)
  rintro u w112 ⟨rfl,kc113,h114,lo118,hi119,h115,e116,e117⟩
  have hull120:=vU (q:=(vA shown err bare alo ahi deep khi llo slo rlo)) hull105 e116 e117
  replace H:S Nm w [(b108,.cells [i slo,i shi].toArray 3 (0,0)),(b106,.cells [i llo,i lhi].toArray 3 (0,0)),(b60,.cells [i slo,i shi].toArray 3 (0,0)),(b14,.cells [i slo,i shi].toArray 3 (0,0)),(b12,.cells [i llo,i lhi].toArray 3 (0,0)),(b10,.cells [i klo,i khi].toArray 3 (0,0)),(b8,.cells [i lo118,i hi119].toArray 41 (0,0)),(b5,.cells [.bool false].toArray 4 (0,0)),(b3,.cells [i 0,i 0].toArray 41 (0,0)),(b1,.cells [i base,.slice ab bs.length cab,.slice ad dl.length cad,i blo,i bhi,i klo,i khi,i llo,i lhi,i slo,i shi,i term,i day,i shown,i err,i bare,i alo,i ahi,i rlo,i rhi,i deep,.bool broken].toArray 170 (0,0))] w112:=S.turn2 (i:=7) (j:=6) H rfl rfl hne (by decide) kc113 h114 h115
  clear e116 e117 hne
  refine Ro.nil (nT (Wp.region ?_))
  refine Ro.q (v:=(.func (.func 120) #[] #[(p b5 0),(p b8 0)])) rfl rfl (zB rfl) rfl ?_
  refine Ro.q rfl rfl (zJ ta170 rfl (H.cells 9 rfl) (j:=0) rfl (vs:=[i base,.slice ab bs.length cab,.slice ad dl.length cad,i blo,i bhi,i klo,i khi,i llo,i lhi,i slo,i shi,i term,i day,i shown,i err,i bare,i alo,i ahi,i rlo,i rhi,i deep,.bool broken]) rfl rfl) rfl ?_
  refine Ro.q (v:=(i khi)) rfl rfl (zB rfl) rfl ?_
  refine Ro.q (v:=(i llo)) rfl rfl (zB rfl) rfl ?_
  refine Ro.q (v:=(i slo)) rfl rfl (zB rfl) rfl ?_
  refine Ro.q (v:=(.agg #[(i khi),(i llo),(i slo)])) rfl rfl (zP (v:=(.agg #[(i khi),(i llo),(i slo)])) (pe (v:=(i khi)) rfl (pe (v:=(i llo)) rfl (pe (v:=(i slo)) rfl pn))) (fun w=>by kernel_rfl)) rfl ?_
  refine Ro.q (v:=(p b1 12)) rfl rfl (zA vJ rfl rfl) rfl ?_
  refine Ro.q (v:=(p b1 18)) rfl rfl (zA fo52_5 rfl rfl) rfl ?_
  refine Ro.q (v:=(p b1 19)) rfl rfl (zA yZ rfl rfl) rfl ?_
  refine Ro.q rfl rfl (zE zM rfl (H.cells 9 rfl) (j:=19) rfl rfl) rfl ?_
  refine Ro.d rfl rfl rfl (zH rfl en121 (ce (v:=(.agg #[(i base),(.slice ab bs.length cab),(.slice ad dl.length cad),(i blo),(i bhi),(i klo),(i khi),(i llo),(i lhi),(i slo),(i shi),(i term),(i day),(i shown),(i err),(i bare),(i alo),(i ahi),(i rlo),(i rhi),(i deep),(.bool broken)])) rfl (ce (v:=(.agg #[(i khi),(i llo),(i slo)])) rfl (ce (v:=(i rhi)) rfl cn))) (c121 base blo bhi klo khi llo lhi slo shi term day shown err bare alo ahi rlo rhi deep broken khi llo slo rhi ab bs cab ad dl cad _ (hab.ext H.keep) (had.ext H.keep) (by omega)) ?_)
  intro u w121 k122 hu;subst hu;replace H:=H.ext k122
  clear k122
  have hne:b5≠b8:=H.ne 7 6 rfl rfl (by decide)
  refine Ro.d rfl rfl rfl (vH (fv:=[]) (cv:=[p b5 0,p b8 0]) rfl rfl en120 (ce (v:=(.agg #[(i (min (zG khi llo slo shown bare deep alo rhi 0) (zG khi llo slo shown bare deep ahi rhi 0)-err)),(i (max (zG khi llo slo shown bare deep alo rhi 0) (zG khi llo slo shown bare deep ahi rhi 0)+err))])) rfl cn) (c120 (first:=false) _ (H.at 7 rfl) (H.at 6 rfl) hne) ?_)
  rintro u w123 ⟨rfl,kc124,h125,lo129,hi130,h126,e127,e128⟩
  have hull131:=vU (q:=(vA shown err bare alo ahi deep khi llo slo rhi)) hull120 e127 e128
  replace H:S Nm w [(b108,.cells [i slo,i shi].toArray 3 (0,0)),(b106,.cells [i llo,i lhi].toArray 3 (0,0)),(b60,.cells [i slo,i shi].toArray 3 (0,0)),(b14,.cells [i slo,i shi].toArray 3 (0,0)),(b12,.cells [i llo,i lhi].toArray 3 (0,0)),(b10,.cells [i klo,i khi].toArray 3 (0,0)),(b8,.cells [i lo129,i hi130].toArray 41 (0,0)),(b5,.cells [.bool false].toArray 4 (0,0)),(b3,.cells [i 0,i 0].toArray 41 (0,0)),(b1,.cells [i base,.slice ab bs.length cab,.slice ad dl.length cad,i blo,i bhi,i klo,i khi,i llo,i lhi,i slo,i shi,i term,i day,i shown,i err,i bare,i alo,i ahi,i rlo,i rhi,i deep,.bool broken].toArray 170 (0,0))] w123:=S.turn2 (i:=7) (j:=6) H rfl rfl hne (by decide) kc124 h125 h126
  clear e127 e128 hne
  refine Ro.nil (nB (nT (Wp.region ?_)))
  refine Ro.q (v:=(i 1)) rfl rfl (Runs.to (zU rfl rfl (by constructor <;>omega)) (by rfl)) rfl ?_
  refine Ro.q (v:=(i 1)) rfl rfl (zB rfl) rfl ?_
  refine Ro.nil (nT ?_)
  refine Rounds.next ?_
  refine Wp.seq (Wp.region ?_)
  refine Ro.q (v:=(.bool true)) rfl rfl (Runs.to (yB rfl rfl) (by rfl)) rfl ?_
  refine Ro.nil (nT (Wp.seq ?_))
  refine Wp.condT rfl ?_
  refine Wp.skip (nT (Wp.seq (Wp.block (Wp.seq (Wp.region ?_)))))
  refine Ro.q rfl rfl (zY ts72 ((Sl.of (b:=b108) (k:=1) (xs:=[slo,shi].map yD) (by simp [yD]) (show Cells _ b108 0 _ from H.cells 0 rfl))) rfl (by simp) rfl (by omega) (show ([[i slo],[i shi]]:List (List Value))[(1:Int).toNat]? = some [i shi] from rfl)) rfl ?_
  refine Ro.q rfl rfl (zE zM rfl (((Sl.of (b:=b108) (k:=1) (xs:=[slo,shi].map yD) (by simp [yD]) (show Cells _ b108 0 _ from H.cells 0 rfl))).cells (show ([[i slo],[i shi]]:List (List Value))[(1:Int).toNat]? = some [i shi] from rfl)) (j:=0) rfl rfl) rfl ?_
  refine Ro.q (v:=(i shi)) rfl rfl (zD rfl) rfl ?_
  refine Ro.nil (nT (Wp.seq (Wp.region ?_)))
  refine Ro.q (v:=(.func (.func 120) #[] #[(p b5 0),(p b8 0)])) rfl rfl (zB rfl) rfl ?_
  refine Ro.q rfl rfl (zJ ta170 rfl (H.cells 9 rfl) (j:=0) rfl (vs:=[i base,.slice ab bs.length cab,.slice ad dl.length cad,i blo,i bhi,i klo,i khi,i llo,i lhi,i slo,i shi,i term,i day,i shown,i err,i bare,i alo,i ahi,i rlo,i rhi,i deep,.bool broken]) rfl rfl) rfl ?_
  refine Ro.q (v:=(i khi)) rfl rfl (zB rfl) rfl ?_
  refine Ro.q (v:=(i llo)) rfl rfl (zB rfl) rfl ?_
  refine Ro.q (v:=(i shi)) rfl rfl (zB rfl) rfl ?_
  refine Ro.q (v:=(.agg #[(i khi),(i llo),(i shi)])) rfl rfl (zP (v:=(.agg #[(i khi),(i llo),(i shi)])) (pe (v:=(i khi)) rfl (pe (v:=(i llo)) rfl (pe (v:=(i shi)) rfl pn))) (fun w=>by kernel_rfl)) rfl ?_
  refine Ro.q (v:=(p b1 12)) rfl rfl (zA vJ rfl rfl) rfl ?_
  refine Ro.q (v:=(p b1 18)) rfl rfl (zA fo52_5 rfl rfl) rfl ?_
  refine Ro.q (v:=(p b1 18)) rfl rfl (zA yV rfl rfl) rfl ?_
  refine Ro.q rfl rfl (zE zM rfl (H.cells 9 rfl) (j:=18) rfl rfl) rfl ?_
  refine Ro.d rfl rfl rfl (zH rfl en121 (ce (v:=(.agg #[(i base),(.slice ab bs.length cab),(.slice ad dl.length cad),(i blo),(i bhi),(i klo),(i khi),(i llo),(i lhi),(i slo),(i shi),(i term),(i day),(i shown),(i err),(i bare),(i alo),(i ahi),(i rlo),(i rhi),(i deep),(.bool broken)])) rfl (ce (v:=(.agg #[(i khi),(i llo),(i shi)])) rfl (ce (v:=(i rlo)) rfl cn))) (c121 base blo bhi klo khi llo lhi slo shi term day shown err bare alo ahi rlo rhi deep broken khi llo shi rlo ab bs cab ad dl cad _ (hab.ext H.keep) (had.ext H.keep) (by omega)) ?_)
  intro u w132 k133 hu;subst hu;replace H:=H.ext k133
  clear k133
  have hne:b5≠b8:=H.ne 7 6 rfl rfl (by decide)
  refine Ro.d rfl rfl rfl (vH (fv:=[]) (cv:=[p b5 0,p b8 0]) rfl rfl en120 (ce (v:=(.agg #[(i (min (zG khi llo shi shown bare deep alo rlo 0) (zG khi llo shi shown bare deep ahi rlo 0)-err)),(i (max (zG khi llo shi shown bare deep alo rlo 0) (zG khi llo shi shown bare deep ahi rlo 0)+err))])) rfl cn) (c120 (first:=false) _ (H.at 7 rfl) (H.at 6 rfl) hne) ?_)
  rintro u w134 ⟨rfl,kc135,h136,lo140,hi141,h137,e138,e139⟩
  have hull142:=vU (q:=(vA shown err bare alo ahi deep khi llo shi rlo)) hull131 e138 e139
  replace H:S Nm w [(b108,.cells [i slo,i shi].toArray 3 (0,0)),(b106,.cells [i llo,i lhi].toArray 3 (0,0)),(b60,.cells [i slo,i shi].toArray 3 (0,0)),(b14,.cells [i slo,i shi].toArray 3 (0,0)),(b12,.cells [i llo,i lhi].toArray 3 (0,0)),(b10,.cells [i klo,i khi].toArray 3 (0,0)),(b8,.cells [i lo140,i hi141].toArray 41 (0,0)),(b5,.cells [.bool false].toArray 4 (0,0)),(b3,.cells [i 0,i 0].toArray 41 (0,0)),(b1,.cells [i base,.slice ab bs.length cab,.slice ad dl.length cad,i blo,i bhi,i klo,i khi,i llo,i lhi,i slo,i shi,i term,i day,i shown,i err,i bare,i alo,i ahi,i rlo,i rhi,i deep,.bool broken].toArray 170 (0,0))] w134:=S.turn2 (i:=7) (j:=6) H rfl rfl hne (by decide) kc135 h136 h137
  clear e138 e139 hne
  refine Ro.nil (nT (Wp.region ?_))
  refine Ro.q (v:=(.func (.func 120) #[] #[(p b5 0),(p b8 0)])) rfl rfl (zB rfl) rfl ?_
  refine Ro.q rfl rfl (zJ ta170 rfl (H.cells 9 rfl) (j:=0) rfl (vs:=[i base,.slice ab bs.length cab,.slice ad dl.length cad,i blo,i bhi,i klo,i khi,i llo,i lhi,i slo,i shi,i term,i day,i shown,i err,i bare,i alo,i ahi,i rlo,i rhi,i deep,.bool broken]) rfl rfl) rfl ?_
  refine Ro.q (v:=(i khi)) rfl rfl (zB rfl) rfl ?_
  refine Ro.q (v:=(i llo)) rfl rfl (zB rfl) rfl ?_
  refine Ro.q (v:=(i shi)) rfl rfl (zB rfl) rfl ?_
  refine Ro.q (v:=(.agg #[(i khi),(i llo),(i shi)])) rfl rfl (zP (v:=(.agg #[(i khi),(i llo),(i shi)])) (pe (v:=(i khi)) rfl (pe (v:=(i llo)) rfl (pe (v:=(i shi)) rfl pn))) (fun w=>by kernel_rfl)) rfl ?_
  refine Ro.q (v:=(p b1 12)) rfl rfl (zA vJ rfl rfl) rfl ?_
  refine Ro.q (v:=(p b1 18)) rfl rfl (zA fo52_5 rfl rfl) rfl ?_
  refine Ro.q (v:=(p b1 19)) rfl rfl (zA yZ rfl rfl) rfl ?_
  refine Ro.q rfl rfl (zE zM rfl (H.cells 9 rfl) (j:=19) rfl rfl) rfl ?_
  refine Ro.d rfl rfl rfl (zH rfl en121 (ce (v:=(.agg #[(i base),(.slice ab bs.length cab),(.slice ad dl.length cad),(i blo),(i bhi),(i klo),(i khi),(i llo),(i lhi),(i slo),(i shi),(i term),(i day),(i shown),(i err),(i bare),(i alo),(i ahi),(i rlo),(i rhi),(i deep),(.bool broken)])) rfl (ce (v:=(.agg #[(i khi),(i llo),(i shi)])) rfl (ce (v:=(i rhi)) rfl cn))) (c121 base blo bhi klo khi llo lhi slo shi term day shown err bare alo ahi rlo rhi deep broken khi llo shi rhi ab bs cab ad dl cad _ (hab.ext H.keep) (had.ext H.keep) (by omega)) ?_)
  intro u w143 k144 hu;subst hu;replace H:=H.ext k144
  clear k144
  have hne:b5≠b8:=H.ne 7 6 rfl rfl (by decide)
  refine Ro.d rfl rfl rfl (vH (fv:=[]) (cv:=[p b5 0,p b8 0]) rfl rfl en120 (ce (v:=(.agg #[(i (min (zG khi llo shi shown bare deep alo rhi 0) (zG khi llo shi shown bare deep ahi rhi 0)-err)),(i (max (zG khi llo shi shown bare deep alo rhi 0) (zG khi llo shi shown bare deep ahi rhi 0)+err))])) rfl cn) (c120 (first:=false) _ (H.at 7 rfl) (H.at 6 rfl) hne) ?_)
  rintro u w145 ⟨rfl,kc146,h147,lo151,hi152,h148,e149,e150⟩
  have hull153:=vU (q:=(vA shown err bare alo ahi deep khi llo shi rhi)) hull142 e149 e150
  replace H:S Nm w [(b108,.cells [i slo,i shi].toArray 3 (0,0)),(b106,.cells [i llo,i lhi].toArray 3 (0,0)),(b60,.cells [i slo,i shi].toArray 3 (0,0)),(b14,.cells [i slo,i shi].toArray 3 (0,0)),(b12,.cells [i llo,i lhi].toArray 3 (0,0)),(b10,.cells [i klo,i khi].toArray 3 (0,0)),(b8,.cells [i lo151,i hi152].toArray 41 (0,0)),(b5,.cells [.bool false].toArray 4 (0,0)),(b3,.cells [i 0,i 0].toArray 41 (0,0)),(b1,.cells [i base,.slice ab bs.length cab,.slice ad dl.length cad,i blo,i bhi,i klo,i khi,i llo,i lhi,i slo,i shi,i term,i day,i shown,i err,i bare,i alo,i ahi,i rlo,i rhi,i deep,.bool broken].toArray 170 (0,0))] w145:=S.turn2 (i:=7) (j:=6) H rfl rfl hne (by decide) kc146 h147 h148
  clear e149 e150 hne
  refine Ro.nil (nB (nT (Wp.region ?_)))
  refine Ro.q (v:=(i 2)) rfl rfl (Runs.to (zU rfl rfl (by constructor <;>omega)) (by rfl)) rfl ?_
  refine Ro.q (v:=(i 2)) rfl rfl (zB rfl) rfl ?_
  refine Ro.nil (nT ?_)
  refine Rounds.next ?_
  refine Wp.seq (Wp.region ?_)
  refine Ro.q (v:=(.bool false)) rfl rfl (Runs.to (yB rfl rfl) (by rfl)) rfl ?_
  refine Ro.nil (nT (Wp.seq ?_))
  refine Wp.condF rfl ?_
  refine Wp.exit (xT (xT (xB (nB (nT (Wp.region ?_))))))
  refine Ro.q (v:=(i 1)) rfl rfl (Runs.to (zU rfl rfl (by constructor <;>omega)) (by rfl)) rfl ?_
  refine Ro.q (v:=(i 1)) rfl rfl (zB rfl) rfl ?_
  refine Ro.nil (nT ?_)
  refine Rounds.next ?_
  refine Wp.seq (Wp.region ?_)
  refine Ro.q (v:=(.bool true)) rfl rfl (Runs.to (yB rfl rfl) (by rfl)) rfl ?_
  refine Ro.nil (nT (Wp.seq ?_))
  refine Wp.condT rfl ?_
  refine Wp.skip (nT (Wp.seq (Wp.block (Wp.seq (Wp.region ?_)))))
  refine Ro.q rfl rfl (zY ts72 ((Sl.of (b:=b106) (k:=1) (xs:=[llo,lhi].map yD) (by simp [yD]) (show Cells _ b106 0 _ from H.cells 1 rfl))) rfl (by simp) rfl (by omega) (show ([[i llo],[i lhi]]:List (List Value))[(1:Int).toNat]? = some [i lhi] from rfl)) rfl ?_
  refine Ro.q rfl rfl (zE zM rfl (((Sl.of (b:=b106) (k:=1) (xs:=[llo,lhi].map yD) (by simp [yD]) (show Cells _ b106 0 _ from H.cells 1 rfl))).cells (show ([[i llo],[i lhi]]:List (List Value))[(1:Int).toNat]? = some [i lhi] from rfl)) (j:=0) rfl rfl) rfl ?_
  refine Ro.q (v:=(i lhi)) rfl rfl (zD rfl) rfl ?_
  refine Ro.nil (nT (Wp.seq (Wp.region ?_)))
  refine Ro.q (v:=(p b1 0)) rfl rfl (zA fo170_0 rfl rfl) rfl ?_
  refine Ro.q (v:=(p b1 9)) rfl rfl (zA fo45_3 rfl rfl) rfl ?_
  refine Ro.q (v:=(p b1 9)) rfl rfl (zA yV rfl rfl) rfl ?_
  refine Ro.q rfl rfl (zE zM rfl (H.cells 9 rfl) (j:=9) rfl rfl) rfl ?_
  refine Ro.q (v:=(p b1 0)) rfl rfl (zA fo170_0 rfl rfl) rfl ?_
  refine Ro.q (v:=(p b1 9)) rfl rfl (zA fo45_3 rfl rfl) rfl ?_
  refine Ro.q (v:=(p b1 10)) rfl rfl (zA yZ rfl rfl) rfl ?_
  refine Ro.q rfl rfl (zE zM rfl (H.cells 9 rfl) (j:=10) rfl rfl) rfl ?_
  refine Ro.d rfl rfl rfl (H.row (e:=3) (cs:=[i slo,i shi]) rfl (pe (v:=(i slo)) rfl (pe (v:=(i shi)) rfl pn)) (fun w=>by kernel_rfl) ?_)
  intro b154 w155 Hn;replace H:=Hn;clear Hn
  refine Ro.q rfl rfl (yG Tryz.underlying72 rfl (v:=2) rfl) rfl ?_
  refine Ro.q (v:=(i 0)) rfl rfl (zB rfl) rfl ?_
  refine Ro.nil (nT (Wp.block ?_))
  refine Wp.rounds 3 (Rounds.next ?_)
  refine Wp.seq (Wp.region ?_)
  refine Ro.q (v:=(.bool true)) rfl rfl (Runs.to (yB rfl rfl) (by rfl)) rfl ?_
  refine Ro.nil (nT (Wp.seq ?_))
  refine Wp.condT rfl ?_
  refine Wp.skip (nT (Wp.seq (Wp.block (Wp.seq (Wp.region ?_)))))
  refine Ro.q rfl rfl (zY ts72 ((Sl.of (b:=b154) (k:=1) (xs:=[slo,shi].map yD) (by simp [yD]) (show Cells _ b154 0 _ from H.cells 0 rfl))) rfl (by simp) rfl (by omega) (show ([[i slo],[i shi]]:List (List Value))[(0:Int).toNat]? = some [i slo] from rfl)) rfl ?_
  refine Ro.q rfl rfl (zE zM rfl (((Sl.of (b:=b154) (k:=1) (xs:=[slo,shi].map yD) (by simp [yD]) (show Cells _ b154 0 _ from H.cells 0 rfl))).cells (show ([[i slo],[i shi]]:List (List Value))[(0:Int).toNat]? = some [i slo] from rfl)) (j:=0) rfl rfl) rfl ?_
  refine Ro.q (v:=(i slo)) rfl rfl (zD rfl) rfl ?_
  refine Ro.nil (nT (Wp.seq (Wp.region ?_)))
  refine Ro.q (v:=(.func (.func 120) #[] #[(p b5 0),(p b8 0)])) rfl rfl (zB rfl) rfl ?_
  refine Ro.q rfl rfl (zJ ta170 rfl (H.cells 10 rfl) (j:=0) rfl (vs:=[i base,.slice ab bs.length cab,.slice ad dl.length cad,i blo,i bhi,i klo,i khi,i llo,i lhi,i slo,i shi,i term,i day,i shown,i err,i bare,i alo,i ahi,i rlo,i rhi,i deep,.bool broken]) rfl rfl) rfl ?_
  refine Ro.q (v:=(i khi)) rfl rfl (zB rfl) rfl ?_
  refine Ro.q (v:=(i lhi)) rfl rfl (zB rfl) rfl ?_
  refine Ro.q (v:=(i slo)) rfl rfl (zB rfl) rfl ?_
  refine Ro.q (v:=(.agg #[(i khi),(i lhi),(i slo)])) rfl rfl (zP (v:=(.agg #[(i khi),(i lhi),(i slo)])) (pe (v:=(i khi)) rfl (pe (v:=(i lhi)) rfl (pe (v:=(i slo)) rfl pn))) (fun w=>by kernel_rfl)) rfl ?_
  refine Ro.q (v:=(p b1 12)) rfl rfl (zA vJ rfl rfl) rfl ?_
  refine Ro.q (v:=(p b1 18)) rfl rfl (zA fo52_5 rfl rfl) rfl ?_
  refine Ro.q (v:=(p b1 18)) rfl rfl (zA yV rfl rfl) rfl ?_
  refine Ro.q rfl rfl (zE zM rfl (H.cells 10 rfl) (j:=18) rfl rfl) rfl ?_
  refine Ro.d rfl rfl rfl (zH rfl en121 (ce (v:=(.agg #[(i base),(.slice ab bs.length cab),(.slice ad dl.length cad),(i blo),(i bhi),(i klo),(i khi),(i llo),(i lhi),(i slo),(i shi),(i term),(i day),(i shown),(i err),(i bare),(i alo),(i ahi),(i rlo),(i rhi),(i deep),(.bool broken)])) rfl (ce (v:=(.agg #[(i khi),(i lhi),(i slo)])) rfl (ce (v:=(i rlo)) rfl cn))) (c121 base blo bhi klo khi llo lhi slo shi term day shown err bare alo ahi rlo rhi deep broken khi lhi slo rlo ab bs cab ad dl cad _ (hab.ext H.keep) (had.ext H.keep) (by omega)) ?_)
  intro u w156 k157 hu;subst hu;replace H:=H.ext k157
  clear k157
  have hne:b5≠b8:=H.ne 8 7 rfl rfl (by decide)
  refine Ro.d rfl rfl rfl (vH (fv:=[]) (cv:=[p b5 0,p b8 0]) rfl rfl en120 (ce (v:=(.agg #[(i (min (zG khi lhi slo shown bare deep alo rlo 0) (zG khi lhi slo shown bare deep ahi rlo 0)-err)),(i (max (zG khi lhi slo shown bare deep alo rlo 0) (zG khi lhi slo shown bare deep ahi rlo 0)+err))])) rfl cn) (c120 (first:=false) _ (H.at 8 rfl) (H.at 7 rfl) hne) ?_)
  rintro u w158 ⟨rfl,kc159,h160,lo164,hi165,h161,e162,e163⟩
  have hull166:=vU (q:=(vA shown err bare alo ahi deep khi lhi slo rlo)) hull153 e162 e163
  replace H:S Nm w [(b154,.cells [i slo,i shi].toArray 3 (0,0)),(b108,.cells [i slo,i shi].toArray 3 (0,0)),(b106,.cells [i llo,i lhi].toArray 3 (0,0)),(b60,.cells [i slo,i shi].toArray 3 (0,0)),(b14,.cells [i slo,i shi].toArray 3 (0,0)),(b12,.cells [i llo,i lhi].toArray 3 (0,0)),(b10,.cells [i klo,i khi].toArray 3 (0,0)),(b8,.cells [i lo164,i hi165].toArray 41 (0,0)),(b5,.cells [.bool false].toArray 4 (0,0)),(b3,.cells [i 0,i 0].toArray 41 (0,0)),(b1,.cells [i base,.slice ab bs.length cab,.slice ad dl.length cad,i blo,i bhi,i klo,i khi,i llo,i lhi,i slo,i shi,i term,i day,i shown,i err,i bare,i alo,i ahi,i rlo,i rhi,i deep,.bool broken].toArray 170 (0,0))] w158:=S.turn2 (i:=8) (j:=7) H rfl rfl hne (by decide) kc159 h160 h161
  clear e162 e163 hne
  refine Ro.nil (nT (Wp.region ?_))
  refine Ro.q (v:=(.func (.func 120) #[] #[(p b5 0),(p b8 0)])) rfl rfl (zB rfl) rfl ?_
  refine Ro.q rfl rfl (zJ ta170 rfl (H.cells 10 rfl) (j:=0) rfl (vs:=[i base,.slice ab bs.length cab,.slice ad dl.length cad,i blo,i bhi,i klo,i khi,i llo,i lhi,i slo,i shi,i term,i day,i shown,i err,i bare,i alo,i ahi,i rlo,i rhi,i deep,.bool broken]) rfl rfl) rfl ?_
  refine Ro.q (v:=(i khi)) rfl rfl (zB rfl) rfl ?_
  refine Ro.q (v:=(i lhi)) rfl rfl (zB rfl) rfl ?_
  refine Ro.q (v:=(i slo)) rfl rfl (zB rfl) rfl ?_
  refine Ro.q (v:=(.agg #[(i khi),(i lhi),(i slo)])) rfl rfl (zP (v:=(.agg #[(i khi),(i lhi),(i slo)])) (pe (v:=(i khi)) rfl (pe (v:=(i lhi)) rfl (pe (v:=(i slo)) rfl pn))) (fun w=>by kernel_rfl)) rfl ?_
  refine Ro.q (v:=(p b1 12)) rfl rfl (zA vJ rfl rfl) rfl ?_
  refine Ro.q (v:=(p b1 18)) rfl rfl (zA fo52_5 rfl rfl) rfl ?_
  refine Ro.q (v:=(p b1 19)) rfl rfl (zA yZ rfl rfl) rfl ?_
  refine Ro.q rfl rfl (zE zM rfl (H.cells 10 rfl) (j:=19) rfl rfl) rfl ?_
  refine Ro.d rfl rfl rfl (zH rfl en121 (ce (v:=(.agg #[(i base),(.slice ab bs.length cab),(.slice ad dl.length cad),(i blo),(i bhi),(i klo),(i khi),(i llo),(i lhi),(i slo),(i shi),(i term),(i day),(i shown),(i err),(i bare),(i alo),(i ahi),(i rlo),(i rhi),(i deep),(.bool broken)])) rfl (ce (v:=(.agg #[(i khi),(i lhi),(i slo)])) rfl (ce (v:=(i rhi)) rfl cn))) (c121 base blo bhi klo khi llo lhi slo shi term day shown err bare alo ahi rlo rhi deep broken khi lhi slo rhi ab bs cab ad dl cad _ (hab.ext H.keep) (had.ext H.keep) (by omega)) ?_)
  intro u w167 k168 hu;subst hu;replace H:=H.ext k168
  clear k168
  have hne:b5≠b8:=H.ne 8 7 rfl rfl (by decide)
  refine Ro.d rfl rfl rfl (vH (fv:=[]) (cv:=[p b5 0,p b8 0]) rfl rfl en120 (ce (v:=(.agg #[(i (min (zG khi lhi slo shown bare deep alo rhi 0) (zG khi lhi slo shown bare deep ahi rhi 0)-err)),(i (max (zG khi lhi slo shown bare deep alo rhi 0) (zG khi lhi slo shown bare deep ahi rhi 0)+err))])) rfl cn) (c120 (first:=false) _ (H.at 8 rfl) (H.at 7 rfl) hne) ?_)
  rintro u w169 ⟨rfl,kc170,h171,lo175,hi176,h172,e173,e174⟩
  have hull177:=vU (q:=(vA shown err bare alo ahi deep khi lhi slo rhi)) hull166 e173 e174
  replace H:S Nm w [(b154,.cells [i slo,i shi].toArray 3 (0,0)),(b108,.cells [i slo,i shi].toArray 3 (0,0)),(b106,.cells [i llo,i lhi].toArray 3 (0,0)),(b60,.cells [i slo,i shi].toArray 3 (0,0)),(b14,.cells [i slo,i shi].toArray 3 (0,0)),(b12,.cells [i llo,i lhi].toArray 3 (0,0)),(b10,.cells [i klo,i khi].toArray 3 (0,0)),(b8,.cells [i lo175,i hi176].toArray 41 (0,0)),(b5,.cells [.bool false].toArray 4 (0,0)),(b3,.cells [i 0,i 0].toArray 41 (0,0)),(b1,.cells [i base,.slice ab bs.length cab,.slice ad dl.length cad,i blo,i bhi,i klo,i khi,i llo,i lhi,i slo,i shi,i term,i day,i shown,i err,i bare,i alo,i ahi,i rlo,i rhi,i deep,.bool broken].toArray 170 (0,0))] w169:=S.turn2 (i:=8) (j:=7) H rfl rfl hne (by decide) kc170 h171 h172
  clear e173 e174 hne
  refine Ro.nil (nB (nT (Wp.region ?_)))
  refine Ro.q (v:=(i 1)) rfl rfl (Runs.to (zU rfl rfl (by constructor <;>omega)) (by rfl)) rfl ?_
  refine Ro.q (v:=(i 1)) rfl rfl (zB rfl) rfl ?_
  refine Ro.nil (nT ?_)
  refine Rounds.next ?_
  refine Wp.seq (Wp.region ?_)
  refine Ro.q (v:=(.bool true)) rfl rfl (Runs.to (yB rfl rfl) (by rfl)) rfl ?_
  refine Ro.nil (nT (Wp.seq ?_))
  refine Wp.condT rfl ?_
  refine Wp.skip (nT (Wp.seq (Wp.block (Wp.seq (Wp.region ?_)))))
  refine Ro.q rfl rfl (zY ts72 ((Sl.of (b:=b154) (k:=1) (xs:=[slo,shi].map yD) (by simp [yD]) (show Cells _ b154 0 _ from H.cells 0 rfl))) rfl (by simp) rfl (by omega) (show ([[i slo],[i shi]]:List (List Value))[(1:Int).toNat]? = some [i shi] from rfl)) rfl ?_
  refine Ro.q rfl rfl (zE zM rfl (((Sl.of (b:=b154) (k:=1) (xs:=[slo,shi].map yD) (by simp [yD]) (show Cells _ b154 0 _ from H.cells 0 rfl))).cells (show ([[i slo],[i shi]]:List (List Value))[(1:Int).toNat]? = some [i shi] from rfl)) (j:=0) rfl rfl) rfl ?_
  refine Ro.q (v:=(i shi)) rfl rfl (zD rfl) rfl ?_
  refine Ro.nil (nT (Wp.seq (Wp.region ?_)))
  refine Ro.q (v:=(.func (.func 120) #[] #[(p b5 0),(p b8 0)])) rfl rfl (zB rfl) rfl ?_
  refine Ro.q rfl rfl (zJ ta170 rfl (H.cells 10 rfl) (j:=0) rfl (vs:=[i base,.slice ab bs.length cab,.slice ad dl.length cad,i blo,i bhi,i klo,i khi,i llo,i lhi,i slo,i shi,i term,i day,i shown,i err,i bare,i alo,i ahi,i rlo,i rhi,i deep,.bool broken]) rfl rfl) rfl ?_
  refine Ro.q (v:=(i khi)) rfl rfl (zB rfl) rfl ?_
  refine Ro.q (v:=(i lhi)) rfl rfl (zB rfl) rfl ?_
  refine Ro.q (v:=(i shi)) rfl rfl (zB rfl) rfl ?_
  refine Ro.q (v:=(.agg #[(i khi),(i lhi),(i shi)])) rfl rfl (zP (v:=(.agg #[(i khi),(i lhi),(i shi)])) (pe (v:=(i khi)) rfl (pe (v:=(i lhi)) rfl (pe (v:=(i shi)) rfl pn))) (fun w=>by kernel_rfl)) rfl ?_
  refine Ro.q (v:=(p b1 12)) rfl rfl (zA vJ rfl rfl) rfl ?_
  refine Ro.q (v:=(p b1 18)) rfl rfl (zA fo52_5 rfl rfl) rfl ?_
  refine Ro.q (v:=(p b1 18)) rfl rfl (zA yV rfl rfl) rfl ?_
  refine Ro.q rfl rfl (zE zM rfl (H.cells 10 rfl) (j:=18) rfl rfl) rfl ?_
  refine Ro.d rfl rfl rfl (zH rfl en121 (ce (v:=(.agg #[(i base),(.slice ab bs.length cab),(.slice ad dl.length cad),(i blo),(i bhi),(i klo),(i khi),(i llo),(i lhi),(i slo),(i shi),(i term),(i day),(i shown),(i err),(i bare),(i alo),(i ahi),(i rlo),(i rhi),(i deep),(.bool broken)])) rfl (ce (v:=(.agg #[(i khi),(i lhi),(i shi)])) rfl (ce (v:=(i rlo)) rfl cn))) (c121 base blo bhi klo khi llo lhi slo shi term day shown err bare alo ahi rlo rhi deep broken khi lhi shi rlo ab bs cab ad dl cad _ (hab.ext H.keep) (had.ext H.keep) (by omega)) ?_)
  intro u w178 k179 hu;subst hu;replace H:=H.ext k179
  clear k179
  have hne:b5≠b8:=H.ne 8 7 rfl rfl (by decide)
  refine Ro.d rfl rfl rfl (vH (fv:=[]) (cv:=[p b5 0,p b8 0]) rfl rfl en120 (ce (v:=(.agg #[(i (min (zG khi lhi shi shown bare deep alo rlo 0) (zG khi lhi shi shown bare deep ahi rlo 0)-err)),(i (max (zG khi lhi shi shown bare deep alo rlo 0) (zG khi lhi shi shown bare deep ahi rlo 0)+err))])) rfl cn) (c120 (first:=false) _ (H.at 8 rfl) (H.at 7 rfl) hne) ?_)
  rintro u w180 ⟨rfl,kc181,h182,lo186,hi187,h183,e184,e185⟩
  have hull188:=vU (q:=(vA shown err bare alo ahi deep khi lhi shi rlo)) hull177 e184 e185
  replace H:S Nm w [(b154,.cells [i slo,i shi].toArray 3 (0,0)),(b108,.cells [i slo,i shi].toArray 3 (0,0)),(b106,.cells [i llo,i lhi].toArray 3 (0,0)),(b60,.cells [i slo,i shi].toArray 3 (0,0)),(b14,.cells [i slo,i shi].toArray 3 (0,0)),(b12,.cells [i llo,i lhi].toArray 3 (0,0)),(b10,.cells [i klo,i khi].toArray 3 (0,0)),(b8,.cells [i lo186,i hi187].toArray 41 (0,0)),(b5,.cells [.bool false].toArray 4 (0,0)),(b3,.cells [i 0,i 0].toArray 41 (0,0)),(b1,.cells [i base,.slice ab bs.length cab,.slice ad dl.length cad,i blo,i bhi,i klo,i khi,i llo,i lhi,i slo,i shi,i term,i day,i shown,i err,i bare,i alo,i ahi,i rlo,i rhi,i deep,.bool broken].toArray 170 (0,0))] w180:=S.turn2 (i:=8) (j:=7) H rfl rfl hne (by decide) kc181 h182 h183
  clear e184 e185 hne
  refine Ro.nil (nT (Wp.region ?_))
  refine Ro.q (v:=(.func (.func 120) #[] #[(p b5 0),(p b8 0)])) rfl rfl (zB rfl) rfl ?_
  refine Ro.q rfl rfl (zJ ta170 rfl (H.cells 10 rfl) (j:=0) rfl (vs:=[i base,.slice ab bs.length cab,.slice ad dl.length cad,i blo,i bhi,i klo,i khi,i llo,i lhi,i slo,i shi,i term,i day,i shown,i err,i bare,i alo,i ahi,i rlo,i rhi,i deep,.bool broken]) rfl rfl) rfl ?_
  refine Ro.q (v:=(i khi)) rfl rfl (zB rfl) rfl ?_
  refine Ro.q (v:=(i lhi)) rfl rfl (zB rfl) rfl ?_
  refine Ro.q (v:=(i shi)) rfl rfl (zB rfl) rfl ?_
  refine Ro.q (v:=(.agg #[(i khi),(i lhi),(i shi)])) rfl rfl (zP (v:=(.agg #[(i khi),(i lhi),(i shi)])) (pe (v:=(i khi)) rfl (pe (v:=(i lhi)) rfl (pe (v:=(i shi)) rfl pn))) (fun w=>by kernel_rfl)) rfl ?_
  refine Ro.q (v:=(p b1 12)) rfl rfl (zA vJ rfl rfl) rfl ?_
  refine Ro.q (v:=(p b1 18)) rfl rfl (zA fo52_5 rfl rfl) rfl ?_
  refine Ro.q (v:=(p b1 19)) rfl rfl (zA yZ rfl rfl) rfl ?_
  refine Ro.q rfl rfl (zE zM rfl (H.cells 10 rfl) (j:=19) rfl rfl) rfl ?_
  refine Ro.d rfl rfl rfl (zH rfl en121 (ce (v:=(.agg #[(i base),(.slice ab bs.length cab),(.slice ad dl.length cad),(i blo),(i bhi),(i klo),(i khi),(i llo),(i lhi),(i slo),(i shi),(i term),(i day),(i shown),(i err),(i bare),(i alo),(i ahi),(i rlo),(i rhi),(i deep),(.bool broken)])) rfl (ce (v:=(.agg #[(i khi),(i lhi),(i shi)])) rfl (ce (v:=(i rhi)) rfl cn))) (c121 base blo bhi klo khi llo lhi slo shi term day shown err bare alo ahi rlo rhi deep broken khi lhi shi rhi ab bs cab ad dl cad _ (hab.ext H.keep) (had.ext H.keep) (by omega)) ?_)
  intro u w189 k190 hu;subst hu;replace H:=H.ext k190
  clear k190
  have hne:b5≠b8:=H.ne 8 7 rfl rfl (by decide)
  refine Ro.d rfl rfl rfl (vH (fv:=[]) (cv:=[p b5 0,p b8 0]) rfl rfl en120 (ce (v:=(.agg #[(i (min (zG khi lhi shi shown bare deep alo rhi 0) (zG khi lhi shi shown bare deep ahi rhi 0)-err)),(i (max (zG khi lhi shi shown bare deep alo rhi 0) (zG khi lhi shi shown bare deep ahi rhi 0)+err))])) rfl cn) (c120 (first:=false) _ (H.at 8 rfl) (H.at 7 rfl) hne) ?_)
  rintro u w191 ⟨rfl,kc192,h193,lo197,hi198,h194,e195,e196⟩
  have hull199:=vU (q:=(vA shown err bare alo ahi deep khi lhi shi rhi)) hull188 e195 e196
  replace H:S Nm w [(b154,.cells [i slo,i shi].toArray 3 (0,0)),(b108,.cells [i slo,i shi].toArray 3 (0,0)),(b106,.cells [i llo,i lhi].toArray 3 (0,0)),(b60,.cells [i slo,i shi].toArray 3 (0,0)),(b14,.cells [i slo,i shi].toArray 3 (0,0)),(b12,.cells [i llo,i lhi].toArray 3 (0,0)),(b10,.cells [i klo,i khi].toArray 3 (0,0)),(b8,.cells [i lo197,i hi198].toArray 41 (0,0)),(b5,.cells [.bool false].toArray 4 (0,0)),(b3,.cells [i 0,i 0].toArray 41 (0,0)),(b1,.cells [i base,.slice ab bs.length cab,.slice ad dl.length cad,i blo,i bhi,i klo,i khi,i llo,i lhi,i slo,i shi,i term,i day,i shown,i err,i bare,i alo,i ahi,i rlo,i rhi,i deep,.bool broken].toArray 170 (0,0))] w191:=S.turn2 (i:=8) (j:=7) H rfl rfl hne (by decide) kc192 h193 h194
  clear e195 e196 hne
  refine Ro.nil (nB (nT (Wp.region ?_)))
  refine Ro.q (v:=(i 2)) rfl rfl (Runs.to (zU rfl rfl (by constructor <;>omega)) (by rfl)) rfl ?_
  refine Ro.q (v:=(i 2)) rfl rfl (zB rfl) rfl ?_
  refine Ro.nil (nT ?_)
  refine Rounds.next ?_
  refine Wp.seq (Wp.region ?_)
  refine Ro.q (v:=(.bool false)) rfl rfl (Runs.to (yB rfl rfl) (by rfl)) rfl ?_
  refine Ro.nil (nT (Wp.seq ?_))
  refine Wp.condF rfl ?_
  refine Wp.exit (xT (xT (xB (nB (nT (Wp.region ?_))))))
  refine Ro.q (v:=(i 2)) rfl rfl (Runs.to (zU rfl rfl (by constructor <;>omega)) (by rfl)) rfl ?_
  refine Ro.q (v:=(i 2)) rfl rfl (zB rfl) rfl ?_
  refine Ro.nil (nT ?_)
  refine Rounds.next ?_
  refine Wp.seq (Wp.region ?_)
  refine Ro.q (v:=(.bool false)) rfl rfl (Runs.to (yB rfl rfl) (by rfl)) rfl ?_
  refine Ro.nil (nT (Wp.seq ?_))
  refine Wp.condF rfl ?_
  refine Wp.exit (xT (xT (xB (nB (nT (Wp.region ?_))))))
  refine Ro.q (v:=(i 2)) rfl rfl (Runs.to (zU rfl rfl (by constructor <;>omega)) (by rfl)) rfl ?_
  refine Ro.q (v:=(i 2)) rfl rfl (zB rfl) rfl ?_
  refine Ro.nil (nT ?_)
  refine Rounds.next ?_
  refine Wp.seq (Wp.region ?_)
  refine Ro.q (v:=(.bool false)) rfl rfl (Runs.to (yB rfl rfl) (by rfl)) rfl ?_
  refine Ro.nil (nT (Wp.seq ?_))
  refine Wp.condF rfl ?_
  refine Wp.exit (xT (xT (xB (nT (Wp.seq (Wp.region ?_))))))
  refine Ro.q rfl rfl (zJ vL rfl (H.cells 7 rfl) (j:=0) rfl (vs:=[i lo197,i hi198]) rfl rfl) rfl ?_
  refine Ro.d0 rfl rfl rfl (H.store (j:=9) (off:=0) (k:=2) rfl sz41 rfl (v:=(.agg #[(i lo197),(i hi198)])) rfl rfl rfl rfl rfl (by simp [Value.oneCell']) (cs':=[i lo197,i hi198]) rfl ?_)
  intro w200 Hn;replace H:=Hn;clear Hn
  refine Ro.nil (nT (Wp.ret (zN ?_)))
  refine yW (vs:=[i lo197,i hi198]) Tryz.results91 rfl vL (H.cells 9 rfl) rfl ⟨H.keep,?_⟩
  exact ⟨_,_,rfl,hull199⟩
end Go.Proofs.YthfnjppieihcfaaGreat
namespace Men
open Go Go.Mw
theorem R.back {g:Glass} {h:List Rg} {ices:List Ice} : ∀ (k d:Nat) (t:St),R g h ices (d+k) t→∃ s,Bk g h ices k d s
  | 0,d,t,ht=>⟨t,ht⟩
  | k+1,d,t,ht=>by
    obtain ⟨s,hs⟩:=R.back k (d+1) t (by rw [show d+1+k=d+(k+1) by omega];exact ht)
    have hr:=hs.r
    obtain ⟨q,hq,hn,_⟩:=hr
    exact ⟨q,hq,s,hn,hs⟩
theorem Agree.back {g:Glass} {h:List Rg} {ices:List Ice} (ha:Agree g h ices) {d:Nat} (hd:d≤h.length) : ∃ t,Bk g h ices (h.length-d) d t:=by
  obtain ⟨t,ht⟩:=ha
  exact R.back (h.length-d) d t (by rw [show d+(h.length-d)=h.length by omega];exact ht)
/-- the zeros of the states that have been seen -/
def SeenZ (g:Glass) (es:Array MapEntry) (seen:Array Nat) (z:Int):Prop:=∃ e∈es.toList,e.born∈seen∧∃ s,e.key=uF s∧z=g.base+s.1-s.2
theorem seenZ_push {g:Glass} {es:Array MapEntry} {seen:Array Nat} {e:MapEntry} {s:St} (hb:(es.toList.map (·.born)).Nodup) (he:e∈es.toList) (hek:e.key=uF s) (z:Int):SeenZ g es (seen.push e.born) z↔SeenZ g es seen z∨z=g.base+s.1-s.2:=by
  constructor
  · rintro ⟨e',h1,h2,s',h3,h4⟩
    rcases Array.mem_push.1 h2 with h2 | h2
    · exact .inl ⟨e',h1,h2,s',h3,h4⟩
    · have:=Mw.born_inj hb h1 he h2
      subst this
      rw [hek] at h3
      have:=encSt_inj h3
      subst this
      exact .inr h4
  · rintro (⟨e',h1,h2,h3⟩ | rfl)
    · exact ⟨e',h1,by simp [h2],h3⟩
    · exact ⟨e,he,by simp,s,hek,rfl⟩
theorem isR_first {S S':Int→Prop} {z:Int} (h : ∀ x,S' x↔S x∨x=z) (h0 : ∀ x,¬ S x):IsR S' ⟨min z z,max z z⟩:=by
  refine ⟨(h _).2 (.inr (by simp)),(h _).2 (.inr (by simp)),fun x hx=>?_⟩
  rcases (h x).1 hx with h1 | rfl
  · exact absurd h1 (h0 x)
  · simp only;omega
theorem isR_step {S S':Int→Prop} {z:Int} {r:Rg} (h : ∀ x,S' x↔S x∨x=z) (hr:IsR S r):IsR S' ⟨min r.lo z,max r.hi z⟩:=by
  obtain ⟨h1,h2,h3⟩:=hr
  refine ⟨?_,?_,fun x hx=>?_⟩
  · simp only
    by_cases hc:r.lo≤z
    · rw [show min r.lo z=r.lo by omega];exact (h _).2 (.inl h1)
    · rw [show min r.lo z=z by omega];exact (h _).2 (.inr rfl)
  · simp only
    by_cases hc:z≤r.hi
    · rw [show max r.hi z=r.hi by omega];exact (h _).2 (.inl h2)
    · rw [show max r.hi z=z by omega];exact (h _).2 (.inr rfl)
  · rcases (h x).1 hx with h4 | rfl
    · have:=h3 x h4;simp only;omega
    · simp only;omega
/-- what the maps hold when all days from d on are cleaned -/
def LV (g:Glass) (h:List Rg) (ices:List Ice) (d k:Nat) (t:St):Prop:=if k<d then R g h ices k t else Bk g h ices (h.length-k) k t
theorem LV_start {g:Glass} {h:List Rg} {ices:List Ice} {k:Nat} {t:St} (hk:k≤h.length):LV g h ices h.length k t↔R g h ices k t:=by
  unfold LV
  by_cases hc:k<h.length
  · rw [if_pos hc]
  · obtain rfl:k=h.length:=by omega
    rw [if_neg hc,Nat.sub_self];rfl
end Men
namespace Men
def Wset (shown err bare deep:Int) (A Rt K Lg Sq:Rg) (n:Int):Prop :=
  ∃ k lag sq air rate off,K.has k∧Lg.has lag∧Sq.has sq∧A.has air∧Rt.has rate∧(-err≤off∧off≤err)∧n=zG k lag sq shown bare deep air rate off
theorem stemP_air {k bare shown a b:Int} (hk:0≤k) (hb:0≤bare) (h:a≤b):yC k bare shown b≤yC k bare shown a:=by
  unfold yC
  refine Int.ediv_le_ediv (by omega) ?_
  exact Int.mul_le_mul_of_nonneg_left (by omega) (Int.mul_nonneg hk hb)
theorem stemP_k {bare shown air a b c:Int} (hb:0≤bare) (h1:a≤b) (h2:b≤c) :
    (yC a bare shown air≤yC b bare shown air∧yC b bare shown air≤yC c bare shown air)∨(yC c bare shown air≤yC b bare shown air∧yC b bare shown air≤yC a bare shown air):=by
  have key : ∀ x y:Int,x≤y→0≤shown-10*air→yC x bare shown air≤yC y bare shown air:=by
    intro x y h hs
    unfold yC
    refine Int.ediv_le_ediv (by omega) ?_
    exact Int.mul_le_mul_of_nonneg_right (Int.mul_le_mul_of_nonneg_right h hb) hs
  have key' : ∀ x y:Int,x≤y→shown-10*air≤0→yC y bare shown air≤yC x bare shown air:=by
    intro x y h hs
    unfold yC
    refine Int.ediv_le_ediv (by omega) ?_
    have:=Int.mul_le_mul_of_nonneg_right (c:=-(shown-10*air)) (Int.mul_le_mul_of_nonneg_right h hb) (by omega)
    rw [Int.mul_neg,Int.mul_neg] at this
    omega
  by_cases hs:0≤shown-10*air
  · exact .inl ⟨key _ _ h1 hs,key _ _ h2 hs⟩
  · exact .inr ⟨key' _ _ h2 (by omega),key' _ _ h1 (by omega)⟩
theorem rate_lag {r a b c:Int} (h1:a≤b) (h2:b≤c):(r*a≤r*b∧r*b≤r*c)∨(r*c≤r*b∧r*b≤r*a):=by
  by_cases h:0≤r
  · exact .inl ⟨Int.mul_le_mul_of_nonneg_left h1 h,Int.mul_le_mul_of_nonneg_left h2 h⟩
  · right
    have g1:=Int.mul_le_mul_of_nonneg_left h1 (c:=-r) (by omega)
    have g2:=Int.mul_le_mul_of_nonneg_left h2 (c:=-r) (by omega)
    rw [Int.neg_mul,Int.neg_mul] at g1 g2
    omega
theorem sq_deep {d a b:Int} (hd:0≤d) (h:a≤b) : -b*d≤-a*d:=Int.mul_le_mul_of_nonneg_right (by omega) hd
/-- the ends of what a reading says, with one kind and one rate -/
theorem span_has {shown err bare deep k lag sq rate alo ahi air off:Int} (hk:0≤k) (hb:0≤bare) (ha:alo≤air∧air≤ahi) (ho : -err≤off∧off≤err) :
    (vA shown err bare alo ahi deep k lag sq rate).has (zG k lag sq shown bare deep air rate off):=by
  have h1:=stemP_air (shown:=shown) hk hb ha.1
  have h2:=stemP_air (shown:=shown) hk hb ha.2
  unfold vA Rg.has zG
  simp only
  omega
theorem span_ends {shown err bare deep k lag sq rate alo ahi:Int} (he:0≤err) (ha:alo≤ahi) :
    (∃ air off,(alo≤air∧air≤ahi)∧(-err≤off∧off≤err)∧(vA shown err bare alo ahi deep k lag sq rate).lo=zG k lag sq shown bare deep air rate off) ∧
    ∃ air off,(alo≤air∧air≤ahi)∧(-err≤off∧off≤err)∧(vA shown err bare alo ahi deep k lag sq rate).hi=zG k lag sq shown bare deep air rate off:=by
  unfold vA
  constructor
  · by_cases h:zG k lag sq shown bare deep alo rate 0≤zG k lag sq shown bare deep ahi rate 0
    · refine ⟨alo,-err,by omega,by omega,?_⟩
      simp only;rw [Int.min_eq_left h];unfold zG;omega
    · refine ⟨ahi,-err,by omega,by omega,?_⟩
      simp only;rw [Int.min_eq_right (by omega)];unfold zG;omega
  · by_cases h:zG k lag sq shown bare deep alo rate 0≤zG k lag sq shown bare deep ahi rate 0
    · refine ⟨ahi,err,by omega,by omega,?_⟩
      simp only;rw [Int.max_eq_right h];unfold zG;omega
    · refine ⟨alo,err,by omega,by omega,?_⟩
      simp only;rw [Int.max_eq_left (by omega)];unfold zG;omega
/-- below, and above, each truth there is a corner -/
theorem corner_below {shown err bare deep klo khi llo lhi slo shi alo ahi rlo rhi k lag sq air rate off:Int} (hk0:0≤klo) (hl0:0≤llo) (hb:0≤bare) (hd:0≤deep) (hk:klo≤k∧k≤khi) (hl:llo≤lag∧lag≤lhi) (hs:slo≤sq∧sq≤shi) (ha:alo≤air∧air≤ahi) (hr:rlo≤rate∧rate≤rhi) (ho : -err≤off∧off≤err) :
    ∃ k' l',(k'=klo∨k'=khi)∧(l'=llo∨l'=lhi)∧(vA shown err bare alo ahi deep k' l' shi rlo).lo≤zG k lag sq shown bare deep air rate off:=by
  have h1:=stemP_air (shown:=shown) (k:=k) (by omega) hb ha.2
  have h3:=Int.mul_le_mul_of_nonneg_right hr.1 (c:=lag) (by omega)
  have h4:=sq_deep hd hs.2
  obtain ⟨k',hk',h5⟩ : ∃ k',(k'=klo∨k'=khi)∧yC k' bare shown ahi≤yC k bare shown ahi:=by
    rcases stemP_k (shown:=shown) (air:=ahi) hb hk.1 hk.2 with h | h
    · exact ⟨klo,.inl rfl,h.1⟩
    · exact ⟨khi,.inr rfl,h.1⟩
  obtain ⟨l',hl',h6⟩ : ∃ l',(l'=llo∨l'=lhi)∧rlo*l'≤rlo*lag:=by
    rcases rate_lag (r:=rlo) hl.1 hl.2 with h | h
    · exact ⟨llo,.inl rfl,h.1⟩
    · exact ⟨lhi,.inr rfl,h.1⟩
  refine ⟨k',l',hk',hl',?_⟩
  unfold vA zG
  simp only
  omega
theorem corner_above {shown err bare deep klo khi llo lhi slo shi alo ahi rlo rhi k lag sq air rate off:Int} (hk0:0≤klo) (hl0:0≤llo) (hb:0≤bare) (hd:0≤deep) (hk:klo≤k∧k≤khi) (hl:llo≤lag∧lag≤lhi) (hs:slo≤sq∧sq≤shi) (ha:alo≤air∧air≤ahi) (hr:rlo≤rate∧rate≤rhi) (ho : -err≤off∧off≤err) :
    ∃ k' l',(k'=klo∨k'=khi)∧(l'=llo∨l'=lhi)∧zG k lag sq shown bare deep air rate off≤(vA shown err bare alo ahi deep k' l' slo rhi).hi:=by
  have h1:=stemP_air (shown:=shown) (k:=k) (by omega) hb ha.1
  have h3:=Int.mul_le_mul_of_nonneg_right hr.2 (c:=lag) (by omega)
  have h4:=sq_deep hd hs.1
  obtain ⟨k',hk',h5⟩ : ∃ k',(k'=klo∨k'=khi)∧yC k bare shown alo≤yC k' bare shown alo:=by
    rcases stemP_k (shown:=shown) (air:=alo) hb hk.1 hk.2 with h | h
    · exact ⟨khi,.inr rfl,h.2⟩
    · exact ⟨klo,.inl rfl,h.2⟩
  obtain ⟨l',hl',h6⟩ : ∃ l',(l'=llo∨l'=lhi)∧rhi*lag≤rhi*l':=by
    rcases rate_lag (r:=rhi) hl.1 hl.2 with h | h
    · exact ⟨lhi,.inr rfl,h.2⟩
    · exact ⟨llo,.inl rfl,h.2⟩
  refine ⟨k',l',hk',hl',?_⟩
  unfold vA zG
  simp only
  omega
def sixteen (f:Int→Int→Int→Int→Rg) (klo khi llo lhi slo shi rlo rhi:Int):List Rg :=
  [klo,khi].flatMap fun k=>[llo,lhi].flatMap fun l=>[slo,shi].flatMap fun s=>[rlo,rhi].map fun r=>f k l s r
theorem mem_sixteen {f:Int→Int→Int→Int→Rg} {klo khi llo lhi slo shi rlo rhi:Int} {q:Rg}:q∈sixteen f klo khi llo lhi slo shi rlo rhi↔∃ k l s r,(k=klo∨k=khi)∧(l=llo∨l=lhi)∧(s=slo∨s=shi)∧(r=rlo∨r=rhi)∧q=f k l s r:=by
  unfold sixteen
  simp only [List.mem_flatMap,List.mem_map,List.mem_cons,List.not_mem_nil,or_false]
  constructor
  · rintro ⟨k,hk,l,hl,s,hs,r,hr,rfl⟩;exact ⟨k,l,s,r,hk,hl,hs,hr,rfl⟩
  · rintro ⟨k,l,s,r,hk,hl,hs,hr,rfl⟩;exact ⟨k,hk,l,hl,s,hs,r,hr,rfl⟩
/-- what `bounds` tells is the range of what a reading can say -/
theorem hull_isR {shown err bare deep alo ahi rlo rhi klo khi llo lhi slo shi lo hi:Int} {l:List Rg} (hl:l=sixteen (fun k g s r=>vA shown err bare alo ahi deep k g s r) klo khi llo lhi slo shi rlo rhi) (h:Hull l lo hi)
    (he:0≤err) (hb:0≤bare) (hd:0≤deep) (ha:alo≤ahi) (hr:rlo≤rhi) (hk:0≤klo∧klo≤khi) (hg:0≤llo∧llo≤lhi) (hs:slo≤shi) :
    IsR (Wset shown err bare deep ⟨alo,ahi⟩ ⟨rlo,rhi⟩ ⟨klo,khi⟩ ⟨llo,lhi⟩ ⟨slo,shi⟩) ⟨lo,hi⟩:=by
  subst hl
  obtain ⟨⟨q,hq,e1⟩,⟨q',hq',e2⟩,hall⟩:=h
  refine ⟨?_,?_,?_⟩
  · obtain ⟨k,g,s,r,h1,h2,h3,h4,rfl⟩:=mem_sixteen.1 hq
    obtain ⟨⟨air,off,g1,g2,g3⟩,_⟩:=span_ends (shown:=shown) (bare:=bare) (deep:=deep) (k:=k) (lag:=g) (sq:=s) (rate:=r) he ha
    refine ⟨k,g,s,air,r,off,?_,?_,?_,g1,?_,g2,?_⟩
    · unfold Rg.has;simp only;omega
    · unfold Rg.has;simp only;omega
    · unfold Rg.has;simp only;omega
    · unfold Rg.has;simp only;omega
    · simp only;rw [e1];exact g3
  · obtain ⟨k,g,s,r,h1,h2,h3,h4,rfl⟩:=mem_sixteen.1 hq'
    obtain ⟨_,⟨air,off,g1,g2,g3⟩⟩:=span_ends (shown:=shown) (bare:=bare) (deep:=deep) (k:=k) (lag:=g) (sq:=s) (rate:=r) he ha
    refine ⟨k,g,s,air,r,off,?_,?_,?_,g1,?_,g2,?_⟩
    · unfold Rg.has;simp only;omega
    · unfold Rg.has;simp only;omega
    · unfold Rg.has;simp only;omega
    · unfold Rg.has;simp only;omega
    · simp only;rw [e2];exact g3
  · rintro z ⟨k,g,s,air,r,off,h1,h2,h3,h4,h5,h6,rfl⟩
    obtain ⟨k1,l1,a1,a2,a3⟩:=corner_below (shown:=shown) (err:=err) hk.1 hg.1 hb hd h1 h2 h3 h4 h5 h6
    obtain ⟨k2,l2,b1,b2,b3⟩:=corner_above (shown:=shown) (err:=err) hk.1 hg.1 hb hd h1 h2 h3 h4 h5 h6
    have c1:=hall _ (mem_sixteen.2 ⟨k1,l1,shi,rlo,a1,a2,.inr rfl,.inl rfl,rfl⟩)
    have c2:=hall _ (mem_sixteen.2 ⟨k2,l2,slo,rhi,b1,b2,.inl rfl,.inr rfl,rfl⟩)
    simp only at a3 b3 c1 c2 ⊢
    omega
end Men
namespace Men
open Go Go.Mw
theorem MapIs.empty {es:Array MapEntry} {clk:Nat} {ts:List St} (h:MapIs es clk ts) (h0:((es.size:Nat):Int)=0):ts=[]:=by
  have h1:=Ents.size h
  simp only [List.length_map] at h1
  exact List.length_eq_zero_iff.1 (by omega)
theorem MapIs.some {es:Array MapEntry} {clk:Nat} {ts:List St} (h:MapIs es clk ts) (h0 : ¬ ((es.size:Nat):Int)=0) : ∃ t,t∈ts:=by
  have h1:=Ents.size h
  simp only [List.length_map] at h1
  cases ts with
  | nil=>rw [List.length_nil] at h1;omega
  | cons t ts=>exact ⟨t,by simp⟩
theorem agree_no {g:Glass} {h:List Rg} {ices:List Ice} {es:Array MapEntry} {clk:Nat} {ts:List St} (hE:MapIs es clk ts) (hT : ∀ t,t∈ts↔R g h ices h.length t) (h0:((es.size:Nat):Int)=0) : ¬ Agree g h ices:=by
  rintro ⟨t,ht⟩
  have:=(hT t).2 ht
  rw [hE.empty h0] at this
  cases this
theorem agree_yes {g:Glass} {h:List Rg} {ices:List Ice} {es:Array MapEntry} {clk:Nat} {ts:List St} (hE:MapIs es clk ts) (hT : ∀ t,t∈ts↔R g h ices h.length t) (h0 : ¬ ((es.size:Nat):Int)=0):Agree g h ices:=by
  obtain ⟨t,ht⟩:=hE.some h0
  exact ⟨t,(hT t).1 ht⟩
/-- the maps, and the ranges that are told, from the day d on -/
def Zst (g:Glass) (h:List Rg) (ices:List Ice) (d:Int) (ms:List (Nat×Array MapEntry×Nat)) (zs:List Rg):Prop :=
  (ms.length=h.length+1∧zs.length=h.length)∧(∀ (k:Nat) m,ms[k]? = some m→∃ ts,MapIs m.2.1 m.2.2 ts∧∀ t,t∈ts↔LV g h ices d.toNat k t)∧∀ j:Nat,d.toNat≤j→j<h.length→IsR (Zset g h ices j) (vN zs j)
theorem Zst.start {g:Glass} {h:List Rg} {ices:List Ice} {ms:List (Nat×Array MapEntry×Nat)} {zs:List Rg} (hl:ms.length=h.length+1) (hz:zs.length=h.length) (hm : ∀ (k:Nat) m,ms[k]? = some m→∃ ts,MapIs m.2.1 m.2.2 ts∧∀ t,t∈ts↔R g h ices k t):Zst g h ices ((h.length:Nat):Int) ms zs:=by
  refine ⟨⟨hl,hz⟩,fun k m hk=>?_,fun j h1 h2=>by omega⟩
  obtain ⟨ts,h1,h2⟩:=hm k m hk
  have hlt:=(List.getElem?_eq_some_iff.1 hk).1
  refine ⟨ts,h1,fun t=>?_⟩
  rw [h2 t,Int.toNat_natCast]
  exact (LV_start (by omega)).symm
theorem Zst.day {g:Glass} {h:List Rg} {ices:List Ice} {d:Int} {ms:List (Nat×Array MapEntry×Nat)} {zs:List Rg} (H:Zst g h ices d ms zs) (hd:0<d) (hl:d≤h.length) :
    (∃ m tm,ms[d.toNat]? = some m∧MapIs m.2.1 m.2.2 tm∧∀ t,t∈tm↔Bk g h ices (h.length-d.toNat) d.toNat t)∧∃ m tm,ms[(d-1).toNat]? = some m∧MapIs m.2.1 m.2.2 tm∧∀ t,t∈tm↔R g h ices (d-1).toNat t:=by
  have h1:d.toNat<ms.length:=by have:=H.1.1;omega
  have h2:(d-1).toNat<ms.length:=by have:=H.1.1;omega
  constructor
  · obtain ⟨ts,h3,h4⟩:=H.2.1 d.toNat ms[d.toNat] (by simp [h1])
    refine ⟨_,ts,by simp [h1],h3,fun t=>?_⟩
    rw [h4 t];unfold LV;rw [if_neg (Nat.lt_irrefl _)]
  · obtain ⟨ts,h3,h4⟩:=H.2.1 (d-1).toNat ms[(d-1).toNat] (by simp [h2])
    refine ⟨_,ts,by simp [h2],h3,fun t=>?_⟩
    rw [h4 t];unfold LV;rw [if_pos (by omega)]
/-- all of a day's zeros have been seen -/
theorem seen_all {g:Glass} {h:List Rg} {ices:List Ice} {d:Int} {es:Array MapEntry} {clk:Nat} {seen:Array Nat} {tm:List St} (hd:0<d) (hE:MapIs es clk tm) (hT : ∀ t,t∈tm↔Bk g h ices (h.length-d.toNat) d.toNat t) (hall : ∀ e∈es.toList,e.born∈seen) (z:Int) :
    SeenZ g es seen z↔Zset g h ices (d-1).toNat z:=by
  have e1:(d-1).toNat+1=d.toNat:=by omega
  unfold SeenZ Zset
  rw [e1]
  constructor
  · rintro ⟨e,he,_,s,hk,rfl⟩
    obtain ⟨s',hs',hk',_⟩:=hE.entry he
    rw [hk] at hk'
    have:=encSt_inj hk'
    subst this
    exact ⟨s,(hT s).1 hs',rfl⟩
  · rintro ⟨t,ht,rfl⟩
    obtain ⟨e,he,hk⟩:=hE.of_mem ((hT t).2 ht)
    exact ⟨e,he,hall e he,t,hk,rfl⟩
/-- a day's range while its states are gone through -/
def ZDay (g:Glass) (h:List Rg) (ices:List Ice) (d:Int) (es:Array MapEntry) (seen:Array Nat) (first:Bool) (zs:List Rg):Prop :=
  zs.length=h.length∧(∀ j:Nat,d.toNat≤j→j<h.length→IsR (Zset g h ices j) (vN zs j))∧(first=true→∀ z,¬ SeenZ g es seen z)∧(first=false→IsR (SeenZ g es seen) (vN zs (d-1).toNat))
theorem ZDay.start {g:Glass} {h:List Rg} {ices:List Ice} {d:Int} {es:Array MapEntry} {ms:List (Nat×Array MapEntry×Nat)} {zs:List Rg} (H:Zst g h ices d ms zs):ZDay g h ices d es #[] true zs :=
  ⟨H.1.2,H.2.2,fun _ z ⟨_,_,h,_⟩=>by simp at h,fun h=>by cases h⟩
theorem dayRg_set {zs:List Rg} {q j:Nat} {r:Rg} (hq:q<zs.length):vN (zs.set q r) j=if q=j then r else vN zs j:=by
  unfold vN
  by_cases e:q=j
  · subst e;simp [List.getD,hq]
  · simp [List.getD,List.getElem?_set_ne e,e]
theorem ZDay.first {g:Glass} {h:List Rg} {ices:List Ice} {d:Int} {es:Array MapEntry} {seen:Array Nat} {zs:List Rg} {e:MapEntry} {s:St} (H:ZDay g h ices d es seen true zs) (hd:0<d) (hl:d≤h.length) (hb:(es.toList.map (·.born)).Nodup) (he:e∈es.toList) (hek:e.key=uF s) :
    ZDay g h ices d es (seen.push e.born) false ((zs.set (d-1).toNat ⟨g.base+s.1-s.2,g.base+s.1-s.2⟩).set (d-1).toNat ⟨min (g.base+s.1-s.2) (g.base+s.1-s.2),max (g.base+s.1-s.2) (g.base+s.1-s.2)⟩):=by
  obtain ⟨h1,h2,h3,_⟩:=H
  have hlt:(d-1).toNat<zs.length:=by omega
  refine ⟨by simp [h1],fun j hj hjl=>?_,(fun h=>by cases h),fun _=>?_⟩
  · rw [dayRg_set (by simpa using hlt),if_neg (by omega),dayRg_set hlt,if_neg (by omega)];exact h2 j hj hjl
  · rw [dayRg_set (by simpa using hlt),if_pos rfl]
    exact isR_first (seenZ_push hb he hek) (h3 rfl)
theorem ZDay.step {g:Glass} {h:List Rg} {ices:List Ice} {d:Int} {es:Array MapEntry} {seen:Array Nat} {zs:List Rg} {e:MapEntry} {s:St} {r:Rg} (H:ZDay g h ices d es seen false zs) (hd:0<d) (hl:d≤h.length) (hr:zs[(d-1).toNat]? = some r) (hb:(es.toList.map (·.born)).Nodup) (he:e∈es.toList) (hek:e.key=uF s) :
    ZDay g h ices d es (seen.push e.born) false (zs.set (d-1).toNat ⟨min r.lo (g.base+s.1-s.2),max r.hi (g.base+s.1-s.2)⟩):=by
  obtain ⟨h1,h2,_,h3⟩:=H
  have hlt:(d-1).toNat<zs.length:=by omega
  have hrd:vN zs (d-1).toNat=r:=by unfold vN;rw [List.getD_eq_getElem?_getD,hr];rfl
  refine ⟨by simp [h1],fun j hj hjl=>?_,(fun h=>by cases h),fun _=>?_⟩
  · rw [dayRg_set hlt,if_neg (by omega)];exact h2 j hj hjl
  · rw [dayRg_set hlt,if_pos rfl]
    have:=h3 rfl
    rw [hrd] at this
    exact isR_step (seenZ_push hb he hek) this
/-- what a state leads to -/
def Led (g:Glass) (r:Rg) (n:Int) (tm:List St) (s:St):Prop:=∃ u,Gone s ⟨(zL g.bands n).lo,(zL g.bands n).hi⟩ ⟨g.back.lo,g.back.hi⟩ (vG g.depths r) u∧u∈tm
def LedIs (g:Glass) (r:Rg) (n:Int) (tm:List St) (es:Array MapEntry) (seen:Array Nat) (ts:List St):Prop:=∀ x,x∈ts↔∃ e∈es.toList,e.born∈seen∧e.key=uF x∧Led g r n tm x
theorem LedIs.start {g:Glass} {r:Rg} {n:Int} {tm:List St} {es:Array MapEntry}:LedIs g r n tm es #[] []:=fun x=>by simp
theorem LedIs.yes {g:Glass} {r:Rg} {n:Int} {tm ts ts':List St} {es:Array MapEntry} {seen:Array Nat} {e:MapEntry} {s:St} (H:LedIs g r n tm es seen ts) (hb:(es.toList.map (·.born)).Nodup) (he:e∈es.toList) (hek:e.key=uF s) (hl:Led g r n tm s) (hx : ∀ x,x∈ts'↔x∈ts∨x=s):LedIs g r n tm es (seen.push e.born) ts':=by
  intro x
  rw [hx x,H x]
  constructor
  · rintro (⟨e',h1,h2,h3⟩ | rfl)
    · exact ⟨e',h1,by simp [h2],h3⟩
    · exact ⟨e,he,by simp,hek,hl⟩
  · rintro ⟨e',h1,h2,h3,h4⟩
    rcases Array.mem_push.1 h2 with h2 | h2
    · exact .inl ⟨e',h1,h2,h3,h4⟩
    · have:=Mw.born_inj hb h1 he h2
      subst this
      rw [hek] at h3
      exact .inr (encSt_inj h3).symm
theorem LedIs.no {g:Glass} {r:Rg} {n:Int} {tm ts:List St} {es:Array MapEntry} {seen:Array Nat} {e:MapEntry} {s:St} (H:LedIs g r n tm es seen ts) (hb:(es.toList.map (·.born)).Nodup) (he:e∈es.toList) (hek:e.key=uF s) (hl : ¬ Led g r n tm s):LedIs g r n tm es (seen.push e.born) ts:=by
  intro x
  rw [H x]
  constructor
  · rintro ⟨e',h1,h2,h3⟩;exact ⟨e',h1,by simp [h2],h3⟩
  · rintro ⟨e',h1,h2,h3,h4⟩
    rcases Array.mem_push.1 h2 with h2 | h2
    · exact ⟨e',h1,h2,h3,h4⟩
    · have:=Mw.born_inj hb h1 he h2
      subst this
      rw [hek] at h3
      have:=encSt_inj h3
      subst this
      exact absurd h4 hl
/-- .. and then the day before is cleaned -/
theorem Zst.next {g:Glass} (o:GlassOk g) {h:List Rg} {ices:List Ice} {d:Int} {ms:List (Nat×Array MapEntry×Nat)} {zs zs':List Rg} {m m2 g':Nat×Array MapEntry×Nat} {tm t2 ts:List St} {r:Rg} {seen seen2:Array Nat} {first:Bool}
    (H:Zst g h ices d ms zs) (ha:Agree g h ices) (hd:0<d) (hl:d≤h.length) (hh:r.to 500) (hr:h[(d-1).toNat]? = some r) (hE:MapIs m.2.1 m.2.2 tm) (hT : ∀ t,t∈tm↔Bk g h ices (h.length-d.toNat) d.toNat t)
    (hZ:ZDay g h ices d m.2.1 seen first zs') (hall : ∀ e∈m.2.1.toList,e.born∈seen) (hE2:MapIs m2.2.1 m2.2.2 t2) (hT2 : ∀ t,t∈t2↔R g h ices (d-1).toNat t) (hL:LedIs g r (d-1) tm m2.2.1 seen2 ts) (hall2 : ∀ e∈m2.2.1.toList,e.born∈seen2) (hG:MapIs g'.2.1 g'.2.2 ts) :
    Zst g h ices (d-1) (ms.set (d-1).toNat g') zs':=by
  have hn:((d-1).toNat:Int)=d-1:=by omega
  have e1:(d-1).toNat+1=d.toNat:=by omega
  refine ⟨⟨by simp [H.1.1],hZ.1⟩,fun k q hk=>?_,fun j hj hjl=>?_⟩
  · have hkl:k<ms.length:=by have:=(List.getElem?_eq_some_iff.1 hk).1;simpa using this
    by_cases e:(d-1).toNat=k
    · subst e
      rw [List.getElem?_set_self (by omega)] at hk
      cases hk
      refine ⟨ts,hG,fun t=>?_⟩
      unfold LV
      rw [if_neg (Nat.lt_irrefl _),show h.length-(d-1).toNat=(h.length-d.toNat)+1 by omega]
      unfold Bk
      rw [hL t,e1]
      have hnx : ∀ s u,Nxt g h (d-1).toNat s u↔Gone s ⟨(zL g.bands (d-1)).lo,(zL g.bands (d-1)).hi⟩ ⟨g.back.lo,g.back.hi⟩ (vG g.depths r) u:=by
        intro s u
        have hday:vN h (d-1).toNat=r:=by unfold vN;rw [List.getD_eq_getElem?_getD,hr];rfl
        unfold Nxt Gone
        rw [hday,hn]
        have hm:=fun k=>mem_progDepths o.rising (r:=r) (by unfold Rg.to at hh;omega) k
        constructor
        · rintro ⟨c,b,k,h1,h2,h3,h4⟩;exact ⟨c,b,k,h1,h2,(hm k).2 h3,h4⟩
        · rintro ⟨c,b,k,h1,h2,h3,h4⟩;exact ⟨c,b,k,h1,h2,(hm k).1 h3,h4⟩
      constructor
      · rintro ⟨e,he,_,hk,u,hu,hut⟩
        obtain ⟨s',hs',hk',_⟩:=hE2.entry he
        rw [hk] at hk'
        have:=encSt_inj hk'
        subst this
        exact ⟨(hT2 t).1 hs',u,(hnx t u).2 hu,(hT u).1 hut⟩
      · rintro ⟨h1,u,h2,h3⟩
        obtain ⟨e,he,hk⟩:=hE2.of_mem ((hT2 t).2 h1)
        exact ⟨e,he,hall2 e he,hk,u,(hnx t u).1 h2,(hT u).2 h3⟩
    · rw [List.getElem?_set_ne e] at hk
      obtain ⟨us,h1,h2⟩:=H.2.1 k q hk
      refine ⟨us,h1,fun t=>?_⟩
      rw [h2 t]
      unfold LV
      by_cases hc:k<d.toNat
      · rw [if_pos hc,if_pos (by omega)]
      · rw [if_neg hc,if_neg (by omega)]
  · by_cases e:d.toNat≤j
    · exact hZ.2.1 j e hjl
    · obtain rfl:j=(d-1).toNat:=by omega
      have hs:=fun z=>seen_all (g:=g) hd hE hT hall z
      obtain ⟨t,ht⟩:=ha.back (d:=d.toNat) (by omega)
      have h0:SeenZ g m.2.1 seen (g.zero t):=(hs _).2 ⟨t,by rw [e1];exact ht,rfl⟩
      cases first with
      | true=>exact absurd h0 (hZ.2.2.1 rfl _)
      | false =>
        have:=hZ.2.2.2 rfl
        have e2:SeenZ g m.2.1 seen=Zset g h ices (d-1).toNat:=by funext z;exact propext (hs z)
        rwa [e2] at this
theorem Zst.done {g:Glass} {h:List Rg} {ices:List Ice} {d:Int} {ms:List (Nat×Array MapEntry×Nat)} {zs:List Rg} (H:Zst g h ices d ms zs) (hd : ¬ 0<d):ZerosAre g h ices zs :=
  ⟨H.1.2,fun j hj=>H.2.2 j (by omega) hj⟩
end Men
namespace Go.Mw
variable {M : Nat → Prop} {w0 w : World} {L : List (Nat × Obj)}
theorem S.sublist {L':List (Nat×Obj)} (h:S M w0 L w) (hs:L'.Sublist L):S M w0 L' w:=h.sub _ (fun _ hp=>hs.subset hp) (h.dist.sublist hs)
theorem S.sublT {A B T:List (Nat×Obj)} (h:S M w0 (A++T) w) (hs:B.Sublist A):S M w0 (B++T) w:=h.sublist (List.Sublist.append hs (List.Sublist.refl T))
/-- a map takes the place of another one -/
theorem S.swap {α:Type} {f:α→Nat×Obj} {X Y T:List (Nat×Obj)} {ms:List α} {q:Nat} {m g:α} (H:S M w0 ((X++(f g :: Y))++(ms.map f++T)) w) (hq:ms[q]? = some m):S M w0 ((X++Y)++((ms.set q g).map f++T)) w:=by
  obtain ⟨hlt,hm⟩:=List.getElem?_eq_some_iff.1 hq
  have e1:ms=ms.take q++m :: ms.drop (q+1):=by rw [← hm];simp
  have e2:ms.set q g=ms.take q++g :: ms.drop (q+1):=by rw [List.set_eq_take_append_cons_drop,if_pos hlt]
  rw [e2]
  rw [e1] at H
  have H1:S M w0 (f m :: ((X++Y)++((ms.take q++g :: ms.drop (q+1)).map f++T))) w:=by
    refine H.perm ?_
    simp only [List.map_append,List.map_cons]
    generalize (ms.take q).map f=A
    generalize (ms.drop (q+1)).map f=B
    have p1:(X++(f g :: Y))++(A++f m :: B++T)=(X++(f g :: Y)++A)++f m :: (B++T):=by simp
    rw [p1]
    refine List.perm_middle.trans (List.Perm.cons _ ?_)
    have p2:X++f g :: Y++A++(B++T)=X++f g :: (Y++A++(B++T)):=by simp
    have p3:X++Y++(A++f g :: B++T)=(X++Y++A)++f g :: (B++T):=by simp
    rw [p2,p3]
    refine List.perm_middle.trans (List.Perm.trans ?_ List.perm_middle.symm)
    simp
  exact H1.tail
end Go.Mw
namespace Go.Proofs.YthfnjppieihcfaaGreat
open Go.RowKit Go.Proofs Go.Mw
theorem en112:Go.Proofs.Enters Tryz.prog 112:=Go.Proofs.enters_of Tryz.func112 (by kernel_rfl) rfl
theorem en114:Go.Proofs.Enters Tryz.prog 114:=Go.Proofs.enters_of Tryz.func114 (by kernel_rfl) rfl
theorem sz193 : ∀ w,(sizeOf 193).run Tryz.prog w = .ok 1 w:=fun _=>by kernel_rfl
theorem t1_193:T1 Tryz.prog 193:=⟨Tryz.isAgg193,fun _=>by kernel_rfl⟩
theorem tr47_16:TR Tryz.prog 47 41 2 16:=⟨Tryz.underlying47,(Tryz.prog.info? 41).get!,((Tryz.prog.info? 41).get!.zero).get!,by kernel_rfl,by kernel_rfl,by kernel_rfl,by kernel_rfl,by kernel_rfl,by decide⟩
theorem zv193:ZV Tryz.prog 193 (.slice none 0 0):=Tryz.zeroValue193
open Men
theorem shape {x y:Nat×Obj} {A:List (Nat×Obj)}:((x :: A)++[y]).Perm ([x,y]++(A++([]:List Nat).map vC)):=by
  have e:[x,y]++(A++([]:List Nat).map vC)=x :: y :: A:=by simp
  rw [e]
  exact List.Perm.cons x (List.perm_append_singleton y A)
set_option maxHeartbeats 4000000 in
theorem c83 {base blo bhi:Int} {ab ad ah ai:Option Addr} {bs:List Band} {dl:List Depth} {h:List Rg} {ices:List Ice} {cab cad cah cai:Nat} (w:World) (hab:Sl w 3 (bs.map yH) ab) (had:Sl w 2 (dl.map zZ) ad) (hah:Sl w 2 (h.map rgV) ah) (hai:Sl w 3 (ices.map iceV) ai) (oG:GlassOk ⟨base,bs,dl,⟨blo,bhi⟩⟩) (oH:HistOk h) (oI:IcesOk h ices):Ret Tryz.prog 83 [(.agg #[(i base),(.slice ab bs.length cab),(.slice ad dl.length cad),(i blo),(i bhi),(.slice ah h.length cah),(.slice ai ices.length cai)])] w fun v w'=>(Agree ⟨base,bs,dl,⟨blo,bhi⟩⟩ h ices∧∃ a c zs b ob,v = .tuple #[.slice a h.length c,.bool true]∧S Nm w [(b,ob)] w'∧InB b ob 2 (zs.map rgV) a∧ZerosAre ⟨base,bs,dl,⟨blo,bhi⟩⟩ h ices zs)∨(¬ Agree ⟨base,bs,dl,⟨blo,bhi⟩⟩ h ices∧v = .tuple #[.slice none 0 0,.bool false]):=by
  have hb3:bs.length≤3:=oG.bands3
  have hd4:dl.length≤4:=oG.depths4
  have hh16:h.length≤16:=oH.len
  have hbase : -1000≤base∧base≤1000:=oG.base
  have hic:ices.length≤8:=oI.len
  refine Ret.body (N:=100) Tryz.func83 rfl Tryz.ntmps83 rfl ?_
  have H:=S.start Nm w
  refine Wp.seq (Wp.region ?_)
  refine Ro.d rfl rfl rfl (H.box (l:=[i base,.slice ab bs.length cab,.slice ad dl.length cad,i blo,i bhi,.slice ah h.length cah,.slice ai ices.length cai]) rfl (v:=(.agg #[(i base),(.slice ab bs.length cab),(.slice ad dl.length cad),(i blo),(i bhi),(.slice ah h.length cah),(.slice ai ices.length cai)])) rfl rfl ?_)
  intro b1 w2 Hn;replace H:=Hn;clear Hn
  refine Ro.q (v:=(.slice none 0 0)) rfl rfl (zD rfl) rfl ?_
  refine Ro.q (v:=(.bool false)) rfl rfl (zD rfl) rfl ?_
  refine Ro.nil (nT (Wp.seq (Wp.region ?_)))
  refine Ro.q rfl rfl (zJ ta153 rfl (H.cells 0 rfl) (j:=0) rfl (vs:=[i base,.slice ab bs.length cab,.slice ad dl.length cad,i blo,i bhi,.slice ah h.length cah,.slice ai ices.length cai]) rfl rfl) rfl ?_
  refine Ro.q (v:=(.agg #[(.bool false),(.bool false),(.bool false),(.bool false),(.bool false),(.bool false),(.bool false),(.bool false)])) rfl rfl (zP (v:=(.agg #[(.bool false),(.bool false),(.bool false),(.bool false),(.bool false),(.bool false),(.bool false),(.bool false)])) pn (fun w=>by kernel_rfl)) rfl ?_
  refine Ro.d rfl rfl rfl (zH rfl en112 (ce (v:=(.agg #[(i base),(.slice ab bs.length cab),(.slice ad dl.length cad),(i blo),(i bhi),(.slice ah h.length cah),(.slice ai ices.length cai)])) rfl (ce (v:=(.agg #[(.bool false),(.bool false),(.bool false),(.bool false),(.bool false),(.bool false),(.bool false),(.bool false)])) rfl cn)) (c112 _ (hab.ext H.keep) (had.ext H.keep) (hah.ext H.keep) (hai.ext H.keep) oG oH oI) ?_)
  rintro u w3 k4 ⟨bl,cl,ms0,tl,rfl,hS,hml,hms⟩
  replace H:S Nm w ([(bl,.cells ((ms0.map vY).flatten++tl).toArray 197 (0,0)),(b1,.cells [i base,.slice ab bs.length cab,.slice ad dl.length cad,i blo,i bhi,.slice ah h.length cah,.slice ai ices.length cai].toArray 153 (0,0))]++(ms0.map yX++([]:List Nat).map vC)) w3:=(H.join hS).perm shape;clear hS
  obtain ⟨m0,hm0⟩ : ∃ m,ms0[((h.length:Nat):Int).toNat]? = some m:=⟨ms0[h.length],by simp⟩
  obtain ⟨t0,hE0,hT0⟩:=hms _ m0 hm0
  rw [Int.toNat_natCast] at hT0
  refine Ro.d rfl rfl rfl (H.new (l:=[.slice none 0 0]) rfl zv193 rfl ?_)
  intro b5 w6 Hn;replace H:=Hn;clear Hn
  refine Ro.d0 rfl rfl rfl (H.store (j:=0) (off:=0) (k:=1) rfl sz193 rfl (v:=(.slice (some ⟨bl,0,none⟩) (h.length+1) cl)) rfl rfl rfl rfl rfl (by simp [Value.oneCell']) (cs':=[.slice (some ⟨bl,0,none⟩) (h.length+1) cl]) rfl ?_)
  intro w7 Hn;replace H:S Nm w ([(b5,.cells [.slice (some ⟨bl,0,none⟩) (h.length+1) cl].toArray 193 (0,0)),(bl,.cells ((ms0.map vY).flatten++tl).toArray 197 (0,0)),(b1,.cells [i base,.slice ab bs.length cab,.slice ad dl.length cad,i blo,i bhi,.slice ah h.length cah,.slice ai ices.length cai].toArray 153 (0,0))]++(ms0.map yX++([]:List Nat).map vC)) w7:=Hn;clear Hn
  refine Ro.nil (nT (Wp.seq (Wp.region ?_)))
  refine Ro.q (v:=(p b1 0)) rfl rfl (zA fo153_0 rfl rfl) rfl ?_
  refine Ro.q (v:=(p b1 5)) rfl rfl (zA fo151_1 rfl rfl) rfl ?_
  refine Ro.q rfl rfl (zE t1_47 rfl (H.cells 2 rfl) (j:=5) rfl rfl) rfl ?_
  refine Ro.q rfl rfl (yG Tryz.underlying47 rfl (v:=h.length) rfl) rfl ?_
  refine Ro.q (v:=(i ((h.length:Nat):Int))) rfl rfl (zD rfl) rfl ?_
  refine Ro.nil (nT (Wp.seq (Wp.seq (Wp.region ?_))))
  refine Ro.q rfl rfl (zE t1_193 rfl (H.cells 0 rfl) (j:=0) rfl rfl) rfl ?_
  refine Ro.q (v:=(i ((h.length:Nat):Int))) rfl rfl (zB rfl) rfl ?_
  refine Ro.q rfl rfl (zY ts193 ((Sl.block (enc:=vY) mval_len (H.at 1 rfl))) rfl (by first | (simp;done) | (simp;omega)) rfl (by omega) (zW hm0)) rfl ?_
  refine Ro.q rfl rfl (zE t1_197 rfl (((Sl.block (enc:=vY) mval_len (H.at 1 rfl))).cells (zW hm0)) (j:=0) rfl rfl) rfl ?_
  refine Ro.q (v:=(i ((m0.2.1.size:Nat):Int))) rfl rfl (r_lenMap Tryz.underlying197 (H.own (yX m0) (List.mem_append_right _ (List.mem_append_left _ (List.mem_map.2 ⟨m0,List.mem_of_getElem? hm0,rfl⟩)))) rfl) rfl ?_
  refine Ro.q rfl rfl (vR rfl rfl) rfl ?_
  refine Ro.nil (nT ?_)
  refine Wp.cond (t:=decide (((m0.2.1.size:Nat):Int)=0)) rfl ?_ ?_
  · intro c8
    have c8r:=c8
    simp only [bx] at c8
    refine Wp.seq (Wp.region ?_)
    refine Ro.q (v:=(.slice none 0 0)) rfl rfl (zD rfl) rfl ?_
    refine Ro.q (v:=(.bool false)) rfl rfl (zD rfl) rfl ?_
    refine Ro.nil (nT (Wp.ret (rT (zN ?_))))
    refine vT (v:=(.slice none 0 0)) (v':=(.bool false)) Tryz.results83 rfl rfl ⟨H.keep,?_⟩
    exact .inr ⟨agree_no hE0 hT0 c8,rfl⟩
  intro c8
  have c8r:=c8
  simp only [bx] at c8
  have ha:=agree_yes hE0 hT0 c8
  refine Wp.skip (nT (Wp.seq (Wp.region ?_)))
  refine Ro.q (v:=(i ((h.length:Nat):Int))) rfl rfl (zB rfl) rfl ?_
  refine Ro.d rfl rfl rfl (H.makeSlice (enc:=rgV) (z0:=⟨0,0⟩) (n:=h.length) (fun _=>rfl) tr47_16 zv41 rfl rfl rfl rfl (by omega) (by simp only [maxLen];omega) ?_)
  intro bo w9 Hn;rw [← List.append_nil (((List.replicate h.length (⟨0,0⟩:Rg)).map rgV).flatten)] at Hn
  replace H:S Nm w ([(bo,.cells (((List.replicate h.length (⟨0,0⟩:Rg)).map rgV).flatten++([]:List Value)).toArray 41 (0,0)),(b5,.cells [.slice (some ⟨bl,0,none⟩) (h.length+1) cl].toArray 193 (0,0)),(bl,.cells ((ms0.map vY).flatten++tl).toArray 197 (0,0)),(b1,.cells [i base,.slice ab bs.length cab,.slice ad dl.length cad,i blo,i bhi,.slice ah h.length cah,.slice ai ices.length cai].toArray 153 (0,0))]++(ms0.map yX++([]:List Nat).map vC)) w9:=Hn;clear Hn
  refine Ro.q (v:=(.slice (some ⟨bo,0,none⟩) h.length h.length)) rfl rfl (zD rfl) rfl ?_
  refine Ro.nil (nT (Wp.seq (Wp.seq (Wp.region ?_))))
  refine Ro.q (v:=(i ((h.length:Nat):Int))) rfl rfl (zB rfl) rfl ?_
  refine Ro.d rfl rfl rfl (H.new (l:=[i 0]) rfl zv3 rfl ?_)
  intro b10 w11 Hn;replace H:=Hn;clear Hn
  refine Ro.d0 rfl rfl rfl (H.store (j:=0) (off:=0) (k:=1) rfl sz3 rfl (v:=(i ((h.length:Nat):Int))) rfl rfl rfl rfl rfl (by simp [Value.oneCell']) (cs':=[i ((h.length:Nat):Int)]) rfl ?_)
  intro w12 Hn;replace H:S Nm w ([(b10,.cells [i ((h.length:Nat):Int)].toArray 3 (0,0)),(bo,.cells (((List.replicate h.length (⟨0,0⟩:Rg)).map rgV).flatten++([]:List Value)).toArray 41 (0,0)),(b5,.cells [.slice (some ⟨bl,0,none⟩) (h.length+1) cl].toArray 193 (0,0)),(bl,.cells ((ms0.map vY).flatten++tl).toArray 197 (0,0)),(b1,.cells [i base,.slice ab bs.length cab,.slice ad dl.length cad,i blo,i bhi,.slice ah h.length cah,.slice ai ices.length cai].toArray 153 (0,0))]++(ms0.map yX++([]:List Nat).map vC)) w12:=Hn;clear Hn
  refine Ro.nil (nT (Wp.block ?_))
  refine Wp.loop (fun kM ds ρ w'=>∃ d:Int,∃ b7:Nat,∃ ms:List (Nat×Array MapEntry×Nat),∃ zs:List Rg,∃ Ds:List Nat,ds=Ds.map mkD∧(0≤d∧d≤h.length)∧kM=d.toNat∧ρ 1=(p b1 0)∧ρ 2=(.slice none 0 0)∧ρ 3=(.bool false)∧ρ 4=(p b5 0)∧ρ 6=(.slice (some ⟨bo,0,none⟩) h.length h.length)∧ρ 7=(p b7 0)∧S Nm w ([(b7,.cells [i d].toArray 3 (0,0)),(bo,.cells ((zs.map rgV).flatten++([]:List Value)).toArray 41 (0,0)),(b5,.cells [.slice (some ⟨bl,0,none⟩) (h.length+1) cl].toArray 193 (0,0)),(bl,.cells ((ms.map vY).flatten++tl).toArray 197 (0,0)),(b1,.cells [i base,.slice ab bs.length cab,.slice ad dl.length cad,i blo,i bhi,.slice ah h.length cah,.slice ai ices.length cai].toArray 153 (0,0))]++(ms.map yX++Ds.map vC)) w'∧(Zst ⟨base,bs,dl,⟨blo,bhi⟩⟩ h ices d ms zs)) (((h.length:Nat):Int).toNat) ⟨((h.length:Nat):Int),b10,ms0,(List.replicate h.length (⟨0,0⟩:Rg)),([]),rfl,(by omega),rfl,rfl,rfl,rfl,rfl,rfl,rfl,H,Zst.start hml (by simp) hms⟩ ?_
  clear H
  intro kρ19 dsρ19 ρ19 w20
  rintro ⟨d,b7,ms,zs,Ds,rfl,hb22,hk21,f13,f14,f15,f16,f17,f18,H,hi23⟩
  refine Wp.seq (Wp.seq (Wp.region ?_))
  refine Ro.q rfl rfl (zE zM f18 (H.cells 0 rfl) (j:=0) rfl rfl) rfl ?_
  refine Ro.q rfl rfl (r_gtr rfl rfl) rfl ?_
  refine Ro.nil (nT ?_)
  refine Wp.cond (t:=decide (0<d)) rfl ?_ ?_
  · intro c24
    have c24r:=c24
    simp only [bx] at c24
    obtain ⟨⟨m,tm,hm,hEm,hTm⟩,m2,t2,hm2,hEm2,hT2⟩:=Zst.day hi23 (by omega) (by omega)
    obtain ⟨r,hr⟩:=vQ h (d-1) (by omega) (by omega)
    have hmsl:=hi23.1.1;have hzsl:=hi23.1.2
    have hrt:=oH.each r (List.mem_of_getElem? hr)
    have hdp : ∀ k,k∈vG dl r→0≤k∧k≤1000:=fun k hk=>by obtain ⟨q,_,rfl⟩:=(mem_progDepths oG.rising (r:=r) (by unfold Men.Rg.to at hrt;omega) k).1 hk;have hx:0≤zV dl q∧zV dl q≤30:=sinksOf_in oG q;show 0≤zV dl q∧zV dl q≤1000;omega
    have hsbdm : ∀ s∈tm,(0≤s.1∧s.1≤60)∧(0≤s.2∧s.2≤30):=fun s hs=>by have:=R.bounds oG ((hTm s).1 hs).r;omega
    have hsbdm2 : ∀ s∈t2,(0≤s.1∧s.1≤60)∧(0≤s.2∧s.2≤30):=fun s hs=>by have:=R.bounds oG ((hT2 s).1 hs);omega
    refine Wp.skip (nT (Wp.seq (Wp.block (Wp.seq (Wp.region ?_)))))
    refine Ro.q (v:=(.bool true)) rfl rfl (zD rfl) rfl ?_
    refine Ro.nil (nT (Wp.seq (Wp.seq (Wp.region ?_))))
    refine Ro.q rfl rfl (zE t1_193 f16 (H.cells 2 rfl) (j:=0) rfl rfl) rfl ?_
    refine Ro.q rfl rfl (zE zM f18 (H.cells 0 rfl) (j:=0) rfl rfl) rfl ?_
    refine Ro.q rfl rfl (zY ts193 ((Sl.block (enc:=vY) mval_len (H.at 3 rfl))) rfl (by first | (simp;done) | (simp;omega)) rfl (by omega) (zW hm)) rfl ?_
    refine Ro.q rfl rfl (zE t1_197 rfl (((Sl.block (enc:=vY) mval_len (H.at 3 rfl))).cells (zW hm)) (j:=0) rfl rfl) rfl ?_
    refine Ro.d rfl rfl rfl (H.range (b:=m.1) (es:=m.2.1) (clk:=m.2.2) Tryz.underlying197 rfl rfl (H.own (yX m) (List.mem_append_right _ (List.mem_append_left _ (List.mem_map.2 ⟨m,List.mem_of_getElem? hm,rfl⟩)))) ?_)
    intro bi25 w26 Hn;replace H:S Nm w ([(bi25,.mapIter (some m.1) m.2.2 #[] m.2.2),(b7,.cells [i d].toArray 3 (0,0)),(bo,.cells ((zs.map rgV).flatten++([]:List Value)).toArray 41 (0,0)),(b5,.cells [.slice (some ⟨bl,0,none⟩) (h.length+1) cl].toArray 193 (0,0)),(bl,.cells ((ms.map vY).flatten++tl).toArray 197 (0,0)),(b1,.cells [i base,.slice ab bs.length cab,.slice ad dl.length cad,i blo,i bhi,.slice ah h.length cah,.slice ai ices.length cai].toArray 153 (0,0))]++(ms.map yX++Ds.map vC)) w26:=Hn;clear Hn
    refine Ro.nil (nT (Wp.block ?_))
    refine Wp.loop (fun kM ds ρ w'=>∃ seen:Array Nat,∃ first:Bool,∃ zs1:List Rg,ds=Ds.map mkD∧(True)∧kM=(leftOf m.2.1 seen).size∧ρ 1=(p b1 0)∧ρ 2=(.slice none 0 0)∧ρ 3=(.bool false)∧ρ 4=(p b5 0)∧ρ 6=(.slice (some ⟨bo,0,none⟩) h.length h.length)∧ρ 7=(p b7 0)∧ρ 38=(p bi25 0)∧ρ 8=(.bool first)∧S Nm w ([(bi25,.mapIter (some m.1) m.2.2 seen m.2.2),(b7,.cells [i d].toArray 3 (0,0)),(bo,.cells ((zs1.map rgV).flatten++([]:List Value)).toArray 41 (0,0)),(b5,.cells [.slice (some ⟨bl,0,none⟩) (h.length+1) cl].toArray 193 (0,0)),(bl,.cells ((ms.map vY).flatten++tl).toArray 197 (0,0)),(b1,.cells [i base,.slice ab bs.length cab,.slice ad dl.length cad,i blo,i bhi,.slice ah h.length cah,.slice ai ices.length cai].toArray 153 (0,0))]++(ms.map yX++Ds.map vC)) w'∧(ZDay ⟨base,bs,dl,⟨blo,bhi⟩⟩ h ices d m.2.1 seen first zs1)) ((leftOf m.2.1 (#[])).size) ⟨(#[]),true,zs,rfl,trivial,rfl,f13,f14,f15,f16,f17,f18,rfl,rfl,H,ZDay.start hi23⟩ ?_
    clear H
    intro kρ35 dsρ35 ρ35 w36
    rintro ⟨seen,first,zs1,rfl,hb38,hk37,f27,f28,f29,f30,f31,f32,f33,f34,H,hi39⟩
    have hz1:=hi39.1
    obtain ⟨r0,hr0⟩:=vQ zs1 (d-1) (by omega) (by omega)
    refine Wp.seq (Wp.region ?_)
    refine Ro.d rfl rfl rfl (H.next (j:=0) (b:=m.1) (es:=m.2.1) (clk:=m.2.2) rfl f33 rfl (H.own (yX m) (List.mem_append_right _ (List.mem_append_left _ (List.mem_map.2 ⟨m,List.mem_of_getElem? hm,rfl⟩)))) hEm.old ?_ ?_)
    · intro hleft
      have hallm:=left_none hleft
      refine Ro.q (v:=(.bool false)) rfl rfl (zO rfl (j:=0) rfl) rfl ?_
      refine Ro.nil (nT (Wp.seq ?_))
      refine Wp.condF rfl ?_
      refine Wp.exit (xT (xT (xB (nT (Wp.seq (Wp.region ?_))))))
      refine Ro.d rfl rfl rfl (H.makeMap rfl ?_)
      intro bm40 w41 Hn;replace H:S Nm w ([(bm40,.map #[] 0),(bi25,.mapIter (some m.1) m.2.2 seen m.2.2),(b7,.cells [i d].toArray 3 (0,0)),(bo,.cells ((zs1.map rgV).flatten++([]:List Value)).toArray 41 (0,0)),(b5,.cells [.slice (some ⟨bl,0,none⟩) (h.length+1) cl].toArray 193 (0,0)),(bl,.cells ((ms.map vY).flatten++tl).toArray 197 (0,0)),(b1,.cells [i base,.slice ab bs.length cab,.slice ad dl.length cad,i blo,i bhi,.slice ah h.length cah,.slice ai ices.length cai].toArray 153 (0,0))]++(ms.map yX++Ds.map vC)) w41:=Hn;clear Hn
      refine Ro.d rfl rfl rfl (H.new (l:=[.map none]) rfl zv197 rfl ?_)
      intro b42 w43 Hn;replace H:=Hn;clear Hn
      refine Ro.d0 rfl rfl rfl (H.store (j:=0) (off:=0) (k:=1) rfl sz197 rfl (v:=(.map (some bm40))) rfl rfl rfl rfl rfl (by simp [Value.oneCell']) (cs':=[.map (some bm40)]) rfl ?_)
      intro w44 Hn;replace H:S Nm w ([(b42,.cells [.map (some bm40)].toArray 197 (0,0)),(bm40,.map #[] 0),(bi25,.mapIter (some m.1) m.2.2 seen m.2.2),(b7,.cells [i d].toArray 3 (0,0)),(bo,.cells ((zs1.map rgV).flatten++([]:List Value)).toArray 41 (0,0)),(b5,.cells [.slice (some ⟨bl,0,none⟩) (h.length+1) cl].toArray 193 (0,0)),(bl,.cells ((ms.map vY).flatten++tl).toArray 197 (0,0)),(b1,.cells [i base,.slice ab bs.length cab,.slice ad dl.length cad,i blo,i bhi,.slice ah h.length cah,.slice ai ices.length cai].toArray 153 (0,0))]++(ms.map yX++Ds.map vC)) w44:=Hn;clear Hn
      refine Ro.nil (nT (Wp.seq (Wp.seq (Wp.region ?_))))
      refine Ro.q rfl rfl (zE t1_193 f30 (H.cells 5 rfl) (j:=0) rfl rfl) rfl ?_
      refine Ro.q rfl rfl (zE zM f32 (H.cells 3 rfl) (j:=0) rfl rfl) rfl ?_
      refine Ro.q rfl rfl (yT rfl rfl (by constructor <;>omega)) rfl ?_
      refine Ro.q rfl rfl (zY ts193 ((Sl.block (enc:=vY) mval_len (H.at 6 rfl))) rfl (by first | (simp;done) | (simp;omega)) rfl (by omega) (zW hm2)) rfl ?_
      refine Ro.q rfl rfl (zE t1_197 rfl (((Sl.block (enc:=vY) mval_len (H.at 6 rfl))).cells (zW hm2)) (j:=0) rfl rfl) rfl ?_
      refine Ro.d rfl rfl rfl (H.range (b:=m2.1) (es:=m2.2.1) (clk:=m2.2.2) Tryz.underlying197 rfl rfl (H.own (yX m2) (List.mem_append_right _ (List.mem_append_left _ (List.mem_map.2 ⟨m2,List.mem_of_getElem? hm2,rfl⟩)))) ?_)
      intro bi45 w46 Hn;replace H:S Nm w ([(bi45,.mapIter (some m2.1) m2.2.2 #[] m2.2.2),(b42,.cells [.map (some bm40)].toArray 197 (0,0)),(bm40,.map #[] 0),(bi25,.mapIter (some m.1) m.2.2 seen m.2.2),(b7,.cells [i d].toArray 3 (0,0)),(bo,.cells ((zs1.map rgV).flatten++([]:List Value)).toArray 41 (0,0)),(b5,.cells [.slice (some ⟨bl,0,none⟩) (h.length+1) cl].toArray 193 (0,0)),(bl,.cells ((ms.map vY).flatten++tl).toArray 197 (0,0)),(b1,.cells [i base,.slice ab bs.length cab,.slice ad dl.length cad,i blo,i bhi,.slice ah h.length cah,.slice ai ices.length cai].toArray 153 (0,0))]++(ms.map yX++Ds.map vC)) w46:=Hn;clear Hn
      refine Ro.nil (nT (Wp.block ?_))
      refine Wp.loop (fun kM ds ρ w'=>∃ seen2:Array Nat,∃ en:Array MapEntry,∃ ck:Nat,∃ ts:List St,∃ Ds2:List Nat,ds=Ds2.map mkD∧(True)∧kM=(leftOf m2.2.1 seen2).size∧ρ 1=(p b1 0)∧ρ 2=(.slice none 0 0)∧ρ 3=(.bool false)∧ρ 4=(p b5 0)∧ρ 6=(.slice (some ⟨bo,0,none⟩) h.length h.length)∧ρ 7=(p b7 0)∧ρ 11=(p b42 0)∧ρ 73=(p bi45 0)∧S Nm w ([(bi45,.mapIter (some m2.1) m2.2.2 seen2 m2.2.2),(b42,.cells [.map (some bm40)].toArray 197 (0,0)),(bm40,.map en ck),(bi25,.mapIter (some m.1) m.2.2 seen m.2.2),(b7,.cells [i d].toArray 3 (0,0)),(bo,.cells ((zs1.map rgV).flatten++([]:List Value)).toArray 41 (0,0)),(b5,.cells [.slice (some ⟨bl,0,none⟩) (h.length+1) cl].toArray 193 (0,0)),(bl,.cells ((ms.map vY).flatten++tl).toArray 197 (0,0)),(b1,.cells [i base,.slice ab bs.length cab,.slice ad dl.length cad,i blo,i bhi,.slice ah h.length cah,.slice ai ices.length cai].toArray 153 (0,0))]++(ms.map yX++Ds2.map vC)) w'∧(MapIs en ck ts∧LedIs ⟨base,bs,dl,⟨blo,bhi⟩⟩ r (d-1) tm m2.2.1 seen2 ts)) ((leftOf m2.2.1 (#[])).size) ⟨(#[]),(#[]),0,([]:List St),Ds,rfl,trivial,rfl,f27,f28,f29,f30,f31,f32,rfl,rfl,H,⟨MapIs.nil,LedIs.start⟩⟩ ?_
      clear H
      intro kρ55 dsρ55 ρ55 w56
      rintro ⟨seen2,en,ck,ts,Ds2,rfl,hb58,hk57,f47,f48,f49,f50,f51,f52,f53,f54,H,hi59⟩
      refine Wp.seq (Wp.region ?_)
      refine Ro.d rfl rfl rfl (H.next (j:=0) (b:=m2.1) (es:=m2.2.1) (clk:=m2.2.2) rfl f54 rfl (H.own (yX m2) (List.mem_append_right _ (List.mem_append_left _ (List.mem_map.2 ⟨m2,List.mem_of_getElem? hm2,rfl⟩)))) hEm2.old ?_ ?_)
      · intro hleft
        have hallm2:=left_none hleft
        refine Ro.q (v:=(.bool false)) rfl rfl (zO rfl (j:=0) rfl) rfl ?_
        refine Ro.nil (nT (Wp.seq ?_))
        refine Wp.condF rfl ?_
        refine Wp.exit (xT (xT (xB (nT (Wp.region ?_)))))
        refine Ro.q rfl rfl (zE t1_193 f50 (H.cells 6 rfl) (j:=0) rfl rfl) rfl ?_
        refine Ro.q rfl rfl (zE zM f52 (H.cells 4 rfl) (j:=0) rfl rfl) rfl ?_
        refine Ro.q rfl rfl (yT rfl rfl (by constructor <;>omega)) rfl ?_
        refine Ro.q rfl rfl (zE t1_197 f53 (H.cells 1 rfl) (j:=0) rfl rfl) rfl ?_
        refine Ro.q rfl rfl (zY ts193 ((Sl.block (enc:=vY) mval_len (H.at 7 rfl))) rfl (by first | (simp;done) | (simp;omega)) rfl (by omega) (zW hm2)) rfl ?_
        refine Ro.d0 rfl rfl rfl (H.setE (enc:=vY) (k:=1) mval_len (g:=bl) (j:=7) (u:=197) (q:=(d-1).toNat) (xs:=ms) (tl:=tl) (z:=(bm40,en,ck)) sz197 rfl rfl (Nat.zero_add _) (v:=(.map (some bm40))) rfl rfl (by simp [Value.oneCell']) rfl (by omega) ?_)
        intro w60 Hn;replace H:S Nm w ([(bi45,.mapIter (some m2.1) m2.2.2 seen2 m2.2.2),(b42,.cells [.map (some bm40)].toArray 197 (0,0)),(bm40,.map en ck),(bi25,.mapIter (some m.1) m.2.2 seen m.2.2),(b7,.cells [i d].toArray 3 (0,0)),(bo,.cells ((zs1.map rgV).flatten++([]:List Value)).toArray 41 (0,0)),(b5,.cells [.slice (some ⟨bl,0,none⟩) (h.length+1) cl].toArray 193 (0,0)),(bl,.cells (((ms.set (d-1).toNat (bm40,en,ck)).map vY).flatten++tl).toArray 197 (0,0)),(b1,.cells [i base,.slice ab bs.length cab,.slice ad dl.length cad,i blo,i bhi,.slice ah h.length cah,.slice ai ices.length cai].toArray 153 (0,0))]++(ms.map yX++Ds2.map vC)) w60:=Hn;clear Hn
        replace H:=S.swap (f:=yX) (X:=[(bi45,.mapIter (some m2.1) m2.2.2 seen2 m2.2.2),(b42,.cells [.map (some bm40)].toArray 197 (0,0))]) (Y:=[(bi25,.mapIter (some m.1) m.2.2 seen m.2.2),(b7,.cells [i d].toArray 3 (0,0)),(bo,.cells ((zs1.map rgV).flatten++([]:List Value)).toArray 41 (0,0)),(b5,.cells [.slice (some ⟨bl,0,none⟩) (h.length+1) cl].toArray 193 (0,0)),(bl,.cells (((ms.set (d-1).toNat (bm40,en,ck)).map vY).flatten++tl).toArray 197 (0,0)),(b1,.cells [i base,.slice ab bs.length cab,.slice ad dl.length cad,i blo,i bhi,.slice ah h.length cah,.slice ai ices.length cai].toArray 153 (0,0))]) (g:=(bm40,en,ck)) H hm2
        replace H:S Nm w ([(bi45,.mapIter (some m2.1) m2.2.2 seen2 m2.2.2),(b42,.cells [.map (some bm40)].toArray 197 (0,0)),(bi25,.mapIter (some m.1) m.2.2 seen m.2.2),(b7,.cells [i d].toArray 3 (0,0)),(bo,.cells ((zs1.map rgV).flatten++([]:List Value)).toArray 41 (0,0)),(b5,.cells [.slice (some ⟨bl,0,none⟩) (h.length+1) cl].toArray 193 (0,0)),(bl,.cells (((ms.set (d-1).toNat (bm40,en,ck)).map vY).flatten++tl).toArray 197 (0,0)),(b1,.cells [i base,.slice ab bs.length cab,.slice ad dl.length cad,i blo,i bhi,.slice ah h.length cah,.slice ai ices.length cai].toArray 153 (0,0))]++((ms.set (d-1).toNat (bm40,en,ck)).map yX++Ds2.map vC)) w60:=H
        refine Ro.nil (nB (nT (Wp.seq (Wp.seq (Wp.region ?_)))))
        refine Ro.q rfl rfl (zE zM f52 (H.cells 3 rfl) (j:=0) rfl rfl) rfl ?_
        refine Ro.nil (nT (Wp.region ?_))
        refine Ro.d rfl rfl rfl (H.new (l:=[i 0]) rfl zv3 rfl ?_)
        intro b61 w62 Hn;replace H:=Hn;clear Hn
        refine Ro.d0 rfl rfl rfl (H.store (j:=0) (off:=0) (k:=1) rfl sz3 rfl (v:=(i d)) rfl rfl rfl rfl rfl (by simp [Value.oneCell']) (cs':=[i d]) rfl ?_)
        intro w63 Hn;replace H:S Nm w ([(b61,.cells [i d].toArray 3 (0,0)),(bi45,.mapIter (some m2.1) m2.2.2 seen2 m2.2.2),(b42,.cells [.map (some bm40)].toArray 197 (0,0)),(bi25,.mapIter (some m.1) m.2.2 seen m.2.2),(b7,.cells [i d].toArray 3 (0,0)),(bo,.cells ((zs1.map rgV).flatten++([]:List Value)).toArray 41 (0,0)),(b5,.cells [.slice (some ⟨bl,0,none⟩) (h.length+1) cl].toArray 193 (0,0)),(bl,.cells (((ms.set (d-1).toNat (bm40,en,ck)).map vY).flatten++tl).toArray 197 (0,0)),(b1,.cells [i base,.slice ab bs.length cab,.slice ad dl.length cad,i blo,i bhi,.slice ah h.length cah,.slice ai ices.length cai].toArray 153 (0,0))]++((ms.set (d-1).toNat (bm40,en,ck)).map yX++Ds2.map vC)) w63:=Hn;clear Hn
        refine Ro.nil (nT (Wp.region ?_))
        refine Ro.q rfl rfl (zE zM rfl (H.cells 0 rfl) (j:=0) rfl rfl) rfl ?_
        refine Ro.q rfl rfl (yT rfl rfl (by constructor <;>omega)) rfl ?_
        refine Ro.d0 rfl rfl rfl (H.store (j:=0) (off:=0) (k:=1) rfl sz3 rfl (v:=(i (d-1))) rfl rfl rfl rfl rfl (by simp [Value.oneCell']) (cs':=[i (d-1)]) rfl ?_)
        intro w64 Hn;replace H:S Nm w ([(b61,.cells [i (d-1)].toArray 3 (0,0)),(bi45,.mapIter (some m2.1) m2.2.2 seen2 m2.2.2),(b42,.cells [.map (some bm40)].toArray 197 (0,0)),(bi25,.mapIter (some m.1) m.2.2 seen m.2.2),(b7,.cells [i d].toArray 3 (0,0)),(bo,.cells ((zs1.map rgV).flatten++([]:List Value)).toArray 41 (0,0)),(b5,.cells [.slice (some ⟨bl,0,none⟩) (h.length+1) cl].toArray 193 (0,0)),(bl,.cells (((ms.set (d-1).toNat (bm40,en,ck)).map vY).flatten++tl).toArray 197 (0,0)),(b1,.cells [i base,.slice ab bs.length cab,.slice ad dl.length cad,i blo,i bhi,.slice ah h.length cah,.slice ai ices.length cai].toArray 153 (0,0))]++((ms.set (d-1).toNat (bm40,en,ck)).map yX++Ds2.map vC)) w64:=Hn;clear Hn
        refine Ro.nil (nT ?_)
        replace H:=S.sublT (B:=[(b61,.cells [i (d-1)].toArray 3 (0,0)),(bo,.cells ((zs1.map rgV).flatten++([]:List Value)).toArray 41 (0,0)),(b5,.cells [.slice (some ⟨bl,0,none⟩) (h.length+1) cl].toArray 193 (0,0)),(bl,.cells (((ms.set (d-1).toNat (bm40,en,ck)).map vY).flatten++tl).toArray 197 (0,0)),(b1,.cells [i base,.slice ab bs.length cab,.slice ad dl.length cad,i blo,i bhi,.slice ah h.length cah,.slice ai ices.length cai].toArray 153 (0,0))]) H (.cons_cons _ (.cons _ (.cons _ (.cons _ (.cons _ (.cons_cons _ (.cons_cons _ (.cons_cons _ (.cons_cons _ (List.Sublist.refl _))))))))))
        exact ⟨(d-1).toNat,by omega,(d-1),b61,(ms.set (d-1).toNat (bm40,en,ck)),zs1,Ds2,rfl,(by omega),rfl,f47,f48,f49,f50,f51,rfl,H,Zst.next oG hi23 ha (by omega) (by omega) hrt hr hEm hTm hi39 hallm hEm2 hT2 hi59.2 hallm2 hi59.1⟩
      · skip
        intro e w65 he Hn
        replace H:S Nm w ([(bi45,.mapIter (some m2.1) m2.2.2 (seen2.push e.born) m2.2.2),(b42,.cells [.map (some bm40)].toArray 197 (0,0)),(bm40,.map en ck),(bi25,.mapIter (some m.1) m.2.2 seen m.2.2),(b7,.cells [i d].toArray 3 (0,0)),(bo,.cells ((zs1.map rgV).flatten++([]:List Value)).toArray 41 (0,0)),(b5,.cells [.slice (some ⟨bl,0,none⟩) (h.length+1) cl].toArray 193 (0,0)),(bl,.cells ((ms.map vY).flatten++tl).toArray 197 (0,0)),(b1,.cells [i base,.slice ab bs.length cab,.slice ad dl.length cad,i blo,i bhi,.slice ah h.length cah,.slice ai ices.length cai].toArray 153 (0,0))]++(ms.map yX++Ds2.map vC)) w65:=Hn;clear Hn
        have hel:=left_mem.1 he
        obtain ⟨s,hs,hek,hev⟩:=hEm2.entry hel.1
        have hsb:=hsbdm2 s hs
        refine Ro.q (v:=(.bool true)) rfl rfl (zO rfl (j:=0) rfl) rfl ?_
        refine Ro.nil (nT (Wp.seq ?_))
        refine Wp.condT rfl ?_
        refine Wp.skip (nT (Wp.block (Wp.seq (Wp.region ?_))))
        refine Ro.q (v:=(.tuple #[(.agg #[(i s.1),(i s.2)]),(.bool true)])) rfl rfl (Runs.to (r_entry f54 (H.at 0 rfl) (H.own (yX m2) (List.mem_append_right _ (List.mem_append_left _ (List.mem_map.2 ⟨m2,List.mem_of_getElem? hm2,rfl⟩)))) hel.1 hEm2.born) (by rw [hek,hev];rfl)) rfl ?_
        refine Ro.q (v:=(.agg #[(i s.1),(i s.2)])) rfl rfl (zO rfl (j:=0) rfl) rfl ?_
        refine Ro.d rfl rfl rfl (H.new (l:=[i 0,i 0]) rfl zv199 rfl ?_)
        intro b66 w67 Hn;replace H:=Hn;clear Hn
        refine Ro.d0 rfl rfl rfl (H.store (j:=0) (off:=0) (k:=2) rfl sz199 rfl (v:=(.agg #[(i s.1),(i s.2)])) rfl rfl rfl rfl rfl (by simp [Value.oneCell']) (cs':=[i s.1,i s.2]) rfl ?_)
        intro w68 Hn;replace H:S Nm w ([(b66,.cells [i s.1,i s.2].toArray 199 (0,0)),(bi45,.mapIter (some m2.1) m2.2.2 (seen2.push e.born) m2.2.2),(b42,.cells [.map (some bm40)].toArray 197 (0,0)),(bm40,.map en ck),(bi25,.mapIter (some m.1) m.2.2 seen m.2.2),(b7,.cells [i d].toArray 3 (0,0)),(bo,.cells ((zs1.map rgV).flatten++([]:List Value)).toArray 41 (0,0)),(b5,.cells [.slice (some ⟨bl,0,none⟩) (h.length+1) cl].toArray 193 (0,0)),(bl,.cells ((ms.map vY).flatten++tl).toArray 197 (0,0)),(b1,.cells [i base,.slice ab bs.length cab,.slice ad dl.length cad,i blo,i bhi,.slice ah h.length cah,.slice ai ices.length cai].toArray 153 (0,0))]++(ms.map yX++Ds2.map vC)) w68:=Hn;clear Hn
        refine Ro.nil (nT (Wp.seq (Wp.region ?_)))
        refine Ro.q (v:=(p b1 0)) rfl rfl (zA fo153_0 f47 rfl) rfl ?_
        refine Ro.q rfl rfl (zJ ta151 rfl (H.cells 9 rfl) (j:=0) rfl (vs:=[i base,.slice ab bs.length cab,.slice ad dl.length cad,i blo,i bhi,.slice ah h.length cah]) rfl rfl) rfl ?_
        refine Ro.q rfl rfl (zJ ta199 rfl (H.cells 0 rfl) (j:=0) rfl (vs:=[i s.1,i s.2]) rfl rfl) rfl ?_
        refine Ro.q rfl rfl (zE zM f52 (H.cells 5 rfl) (j:=0) rfl rfl) rfl ?_
        refine Ro.q rfl rfl (yT rfl rfl (by constructor <;>omega)) rfl ?_
        refine Ro.d rfl rfl rfl (zH rfl en115 (ce (v:=(.agg #[(i base),(.slice ab bs.length cab),(.slice ad dl.length cad),(i blo),(i bhi),(.slice ah h.length cah)])) rfl (ce (v:=(.agg #[(i s.1),(i s.2)])) rfl (ce (v:=(i (d-1))) rfl cn))) (c115 _) ?_)
        rintro u w69 k70 ⟨bq1,bq2,bq3,rfl,hcs,hz1,hz2,hz3⟩
        have Hold:=H
        replace H:=H.ext k70
        refine Ro.nil (nT (Wp.block ?_))
        let LF:List (Nat×Obj):=([(b66,.cells [i s.1,i s.2].toArray 199 (0,0)),(bi45,.mapIter (some m2.1) m2.2.2 (seen2.push e.born) m2.2.2),(b42,.cells [.map (some bm40)].toArray 197 (0,0)),(bm40,.map en ck),(bi25,.mapIter (some m.1) m.2.2 seen m.2.2),(b7,.cells [i d].toArray 3 (0,0)),(bo,.cells ((zs1.map rgV).flatten++([]:List Value)).toArray 41 (0,0)),(b5,.cells [.slice (some ⟨bl,0,none⟩) (h.length+1) cl].toArray 193 (0,0)),(bl,.cells ((ms.map vY).flatten++tl).toArray 197 (0,0)),(b1,.cells [i base,.slice ab bs.length cab,.slice ad dl.length cad,i blo,i bhi,.slice ah h.length cah,.slice ai ices.length cai].toArray 153 (0,0))]++(ms.map yX++Ds2.map vC))
        refine Wp.rangeF (α:=St) (gf:=136) (cv:=[p bq1 0,p bq2 0,p bq3 0]) (enc:=uF) (Mem:=fun t=>Gone s ⟨(zL bs (d-1)).lo,(zL bs (d-1)).hi⟩ ⟨blo,bhi⟩ (vG dl r) t) rfl en136 (Of LF) H.ofBelow (fun pre W=>S Nm w LF W∧∀ x∈pre,x ∉ tm) (fun c W=>c = .exit 6∧∃ en1 ck1 ts1,S Nm w ([(b66,.cells [i s.1,i s.2].toArray 199 (0,0)),(bi45,.mapIter (some m2.1) m2.2.2 (seen2.push e.born) m2.2.2),(b42,.cells [.map (some bm40)].toArray 197 (0,0)),(bm40,.map en1 ck1),(bi25,.mapIter (some m.1) m.2.2 seen m.2.2),(b7,.cells [i d].toArray 3 (0,0)),(bo,.cells ((zs1.map rgV).flatten++([]:List Value)).toArray 41 (0,0)),(b5,.cells [.slice (some ⟨bl,0,none⟩) (h.length+1) cl].toArray 193 (0,0)),(bl,.cells ((ms.map vY).flatten++tl).toArray 197 (0,0)),(b1,.cells [i base,.slice ab bs.length cab,.slice ad dl.length cad,i blo,i bhi,.slice ah h.length cah,.slice ai ices.length cai].toArray 153 (0,0))]++(ms.map yX++Ds2.map vC)) W∧MapIs en1 ck1 ts1∧Led ⟨base,bs,dl,⟨blo,bhi⟩⟩ r (d-1) tm s∧∀ x,x∈ts1↔x∈ts∨x=s) ?_ ?_ ?_ ?_ ?_ ?_ ?_
        · rintro pre w1 w2 ⟨h1,h2⟩ k;exact ⟨h1.later (H.belowK rfl) H.keep.size k,h2⟩
        · rintro c w1 w2 ⟨hc,en1,ck1,ts1,h1,h2,h3,h4⟩ k;exact ⟨hc,en1,ck1,ts1,h1.later (H.belowK rfl) H.keep.size k,h2,h3,h4⟩
        · exact ⟨H,fun x hx=>by simp at hx⟩
        · intro w1 k1
          have m1 : ¬ (Of LF bq1∨(w69.heap.size≤bq1∧bq1<w1.heap.size)):=by
            rintro (h | h)
            · have:=Hold.ofBelow _ h;omega
            · have:=hcs.1.lt;omega
          have m2 : ¬ (Of LF bq2∨(w69.heap.size≤bq2∧bq2<w1.heap.size)):=by
            rintro (h | h)
            · have:=Hold.ofBelow _ h;omega
            · have:=hcs.2.1.lt;omega
          have m3 : ¬ (Of LF bq3∨(w69.heap.size≤bq3∧bq3<w1.heap.size)):=by
            rintro (h | h)
            · have:=Hold.ofBelow _ h;omega
            · have:=hcs.2.2.lt;omega
          exact c136 (day:=d-1) w1 ((hab.ext H.keep).ext k1) ((had.ext H.keep).ext k1) ((hah.ext H.keep).ext k1) (hcs.1.ext k1) (hcs.2.1.ext k1) (hcs.2.2.ext k1) (fun q hq=>by rcases hq with h | h;(have:=H.ofBelow _ h;have:=k1.size;omega);exact h.2) m1 m2 m3 (by omega) (by omega) hr (creepOf_to oG (d-1)) (by have:=oG.back;unfold Men.Rg.to at this;exact this) (by omega) hdp
        · rintro l pre t W hl hlW ⟨H0,hN1⟩ ht
          have htb:=Gone.bd oG hrt (n:=d-1) hsb ht
          have hkk:LF.map (·.1)=LF.map (·.1):=rfl
          have Hsz:=H.keep.size
          have Hbl : ∀ q∈LF,q.1<w69.heap.size:=H.belowK hkk
          have H:S (Of LF) W ([(b66,.cells [i s.1,i s.2].toArray 199 (0,0)),(bi45,.mapIter (some m2.1) m2.2.2 (seen2.push e.born) m2.2.2),(b42,.cells [.map (some bm40)].toArray 197 (0,0)),(bm40,.map en ck),(bi25,.mapIter (some m.1) m.2.2 seen m.2.2),(b7,.cells [i d].toArray 3 (0,0)),(bo,.cells ((zs1.map rgV).flatten++([]:List Value)).toArray 41 (0,0)),(b5,.cells [.slice (some ⟨bl,0,none⟩) (h.length+1) cl].toArray 193 (0,0)),(bl,.cells ((ms.map vY).flatten++tl).toArray 197 (0,0)),(b1,.cells [i base,.slice ab bs.length cab,.slice ad dl.length cad,i blo,i bhi,.slice ah h.length cah,.slice ai ices.length cai].toArray 153 (0,0))]++(ms.map yX++Ds2.map vC)) W:=H0.roundK hkk
          refine Wp.region ?_
          refine Ro.d rfl rfl rfl (H.new (l:=[i 0,i 0]) rfl zv199 rfl ?_)
          intro b71 w72 Hn;replace H:=Hn;clear Hn
          refine Ro.d0 rfl rfl rfl (H.store (j:=0) (off:=0) (k:=2) rfl sz199 rfl (v:=(.agg #[(i t.1),(i t.2)])) rfl rfl rfl rfl rfl (by simp [Value.oneCell']) (cs':=[i t.1,i t.2]) rfl ?_)
          intro w73 Hn;replace H:S (Of LF) W ([(b71,.cells [i t.1,i t.2].toArray 199 (0,0)),(b66,.cells [i s.1,i s.2].toArray 199 (0,0)),(bi45,.mapIter (some m2.1) m2.2.2 (seen2.push e.born) m2.2.2),(b42,.cells [.map (some bm40)].toArray 197 (0,0)),(bm40,.map en ck),(bi25,.mapIter (some m.1) m.2.2 seen m.2.2),(b7,.cells [i d].toArray 3 (0,0)),(bo,.cells ((zs1.map rgV).flatten++([]:List Value)).toArray 41 (0,0)),(b5,.cells [.slice (some ⟨bl,0,none⟩) (h.length+1) cl].toArray 193 (0,0)),(bl,.cells ((ms.map vY).flatten++tl).toArray 197 (0,0)),(b1,.cells [i base,.slice ab bs.length cab,.slice ad dl.length cad,i blo,i bhi,.slice ah h.length cah,.slice ai ices.length cai].toArray 153 (0,0))]++(ms.map yX++Ds2.map vC)) w73:=Hn;clear Hn
          refine Ro.nil ⟨rfl,H.keep,?_⟩
          intro W2 k2
          have n9 : ¬ Of LF b71:=fun h=>S.top H ((of_keys hkk).2 h)
          have z9:W.heap.size≤b71:=(H.fresh (b71,_) (List.mem_cons_self ..)).elim id (fun h=>absurd h n9)
          have hc9:Cells W2 b71 0 [i t.1,i t.2]:=(H.cells 0 rfl).keep (fun h=>by have h:b71=l:=h;omega) k2
          have H2:S Nm w LF W2:=(H0.unroundK hkk H.tail).extM k2 (fun q hq e0=>by have:=Hbl q hq;omega) (fun q hq e0=>by omega)
          clear H
          have H:S (Of LF) W2 ([(b66,.cells [i s.1,i s.2].toArray 199 (0,0)),(bi45,.mapIter (some m2.1) m2.2.2 (seen2.push e.born) m2.2.2),(b42,.cells [.map (some bm40)].toArray 197 (0,0)),(bm40,.map en ck),(bi25,.mapIter (some m.1) m.2.2 seen m.2.2),(b7,.cells [i d].toArray 3 (0,0)),(bo,.cells ((zs1.map rgV).flatten++([]:List Value)).toArray 41 (0,0)),(b5,.cells [.slice (some ⟨bl,0,none⟩) (h.length+1) cl].toArray 193 (0,0)),(bl,.cells ((ms.map vY).flatten++tl).toArray 197 (0,0)),(b1,.cells [i base,.slice ab bs.length cab,.slice ad dl.length cad,i blo,i bhi,.slice ah h.length cah,.slice ai ices.length cai].toArray 153 (0,0))]++(ms.map yX++Ds2.map vC)) W2:=H2.roundK hkk
          refine Wp.block (Wp.seq ?_)
          refine Wp.drawnS 5 [0,0,3,7,0,31] [is (.slice (some ⟨bl,0,none⟩) (h.length+1) cl),is (i d),is (p (blk (some ⟨bl,0,none⟩)) (yP (some ⟨bl,0,none⟩)+d.toNat*1)),is (.map (some m.1)),is (.agg #[(i t.1),(i t.2)])] (by kernel_rfl) (by kernel_rfl) rfl (Mi (Mi (Mi (Mi (Mi Mono.nil))))) (fun w' k=>H.ext k) ?_ ?_
          · refine ⟨?_,?_,?_,?_,?_,trivial⟩
            · exact Ob.q rfl (fun _ _ B U D=>(zE t1_193 ((U 4 rfl).trans f50) (B.cells 7 rfl) (j:=0) rfl rfl)) rfl rfl
            · exact Ob.q rfl (fun _ _ B U D=>(zE zM ((U 7 rfl).trans f52) (B.cells 5 rfl) (j:=0) rfl rfl)) rfl rfl
            · exact Ob.q rfl (fun _ _ B U D=>(zY ts193 ((Sl.block (enc:=vY) mval_len (B.at 8 rfl))) (D 0 rfl) (by first | (simp;done) | (simp;omega)) (D 1 rfl) (by omega) (zW hm))) rfl rfl
            · exact Ob.q rfl (fun _ _ B U D=>(zE t1_197 (D 2 rfl) (((Sl.block (enc:=vY) mval_len (B.at 8 rfl))).cells (zW hm)) (j:=0) rfl rfl)) rfl rfl
            · exact Ob.q rfl (fun _ _ B U D=>(zJ ta199 (show (_:Value)=(p b71 0) from U 13 rfl) (hc9.keep n9 B.keep) (j:=0) rfl (vs:=[i t.1,i t.2]) rfl rfl)) rfl rfl
          intro ρ74 w75 k76 U77 D78;replace H:=H.ext k76
          have f85:=(U77 11 rfl).trans f53
          have f86:ρ74 12=(p b66 0):=U77 12 rfl
          have f100:ρ74 88=(.map (some m.1)):=D78 3 rfl
          have f101:ρ74 89=(.agg #[(i t.1),(i t.2)]):=D78 4 rfl
          clear U77 D78 k76
          refine Ro.q (v:=(.bool (decide (t∈tm)))) rfl rfl (r_lookSt Tryz.underlying197 keySt (H.own (yX m) (List.mem_append_right _ (List.mem_append_left _ (List.mem_map.2 ⟨m,List.mem_of_getElem? hm,rfl⟩)))) hEm f100 f101 htb zv4) rfl ?_
          refine Ro.nil (nT ?_)
          refine Wp.cond (t:=decide (t∈tm)) rfl ?_ ?_
          · intro c102
            have c102r:=c102
            simp only [bx] at c102
            refine Wp.seq (Wp.region ?_)
            refine Ro.q rfl rfl (zE t1_197 f85 (H.cells 2 rfl) (j:=0) rfl rfl) rfl ?_
            refine Ro.q rfl rfl (zJ ta199 f86 (H.cells 0 rfl) (j:=0) rfl (vs:=[i s.1,i s.2]) rfl rfl) rfl ?_
            refine Ro.d0 rfl rfl rfl (H.mapSet (j:=3) (C:=IsSt) (kx:=uF (s.1,s.2)) (vy:=.bool true) Tryz.underlying197 keySt (.inl rfl) rfl rfl ⟨(s.1,s.2),rfl,(by omega)⟩ rfl rfl hi59.1 ?_)
            intro en103 ck104 kv105 w106 hE107 hp108 Hn
            obtain ⟨ts109,hM110,hx111⟩:=MapIs.put hi59.1 hE107 hp108
            replace H:S (Of LF) W2 ([(b66,.cells [i s.1,i s.2].toArray 199 (0,0)),(bi45,.mapIter (some m2.1) m2.2.2 (seen2.push e.born) m2.2.2),(b42,.cells [.map (some bm40)].toArray 197 (0,0)),(bm40,.map en103 ck104),(bi25,.mapIter (some m.1) m.2.2 seen m.2.2),(b7,.cells [i d].toArray 3 (0,0)),(bo,.cells ((zs1.map rgV).flatten++([]:List Value)).toArray 41 (0,0)),(b5,.cells [.slice (some ⟨bl,0,none⟩) (h.length+1) cl].toArray 193 (0,0)),(bl,.cells ((ms.map vY).flatten++tl).toArray 197 (0,0)),(b1,.cells [i base,.slice ab bs.length cab,.slice ad dl.length cad,i blo,i bhi,.slice ah h.length cah,.slice ai ices.length cai].toArray 153 (0,0))]++(ms.map yX++Ds2.map vC)) w106:=Hn;clear Hn
            refine Ro.nil (nT (Wp.exit (xO rfl (?_))))
            exact ⟨H.keep,rfl,en103,ck104,ts109,H2.unroundK hkk H,hM110,⟨t,ht,c102⟩,hx111⟩
          intro c102
          have c102r:=c102
          simp only [bx] at c102
          refine Wp.skip (nB (?_))
          exact ⟨H.keep,H2.unroundK hkk H,fun x hx=>(List.mem_append.1 hx).elim (hN1 x) (fun h=>by rw [List.mem_singleton] at h;rw [h];exact c102)⟩
        · rintro D xs W hD hxs ⟨H2,hN2⟩ hDo
          have HD:S Nm w ((D,.deferred (some [])) :: ([(b66,.cells [i s.1,i s.2].toArray 199 (0,0)),(bi45,.mapIter (some m2.1) m2.2.2 (seen2.push e.born) m2.2.2),(b42,.cells [.map (some bm40)].toArray 197 (0,0)),(bm40,.map en ck),(bi25,.mapIter (some m.1) m.2.2 seen m.2.2),(b7,.cells [i d].toArray 3 (0,0)),(bo,.cells ((zs1.map rgV).flatten++([]:List Value)).toArray 41 (0,0)),(b5,.cells [.slice (some ⟨bl,0,none⟩) (h.length+1) cl].toArray 193 (0,0)),(bl,.cells ((ms.map vY).flatten++tl).toArray 197 (0,0)),(b1,.cells [i base,.slice ab bs.length cab,.slice ad dl.length cad,i blo,i bhi,.slice ah h.length cah,.slice ai ices.length cai].toArray 153 (0,0))]++(ms.map yX++Ds2.map vC))) W:=H2.adopt hDo (fun p hp=>by have:=H.belowK (L':=([(b66,.cells [i s.1,i s.2].toArray 199 (0,0)),(bi45,.mapIter (some m2.1) m2.2.2 (seen2.push e.born) m2.2.2),(b42,.cells [.map (some bm40)].toArray 197 (0,0)),(bm40,.map en ck),(bi25,.mapIter (some m.1) m.2.2 seen m.2.2),(b7,.cells [i d].toArray 3 (0,0)),(bo,.cells ((zs1.map rgV).flatten++([]:List Value)).toArray 41 (0,0)),(b5,.cells [.slice (some ⟨bl,0,none⟩) (h.length+1) cl].toArray 193 (0,0)),(bl,.cells ((ms.map vY).flatten++tl).toArray 197 (0,0)),(b1,.cells [i base,.slice ab bs.length cab,.slice ad dl.length cad,i blo,i bhi,.slice ah h.length cah,.slice ai ices.length cai].toArray 153 (0,0))]++(ms.map yX++Ds2.map vC))) rfl p hp;omega) (Nat.le_trans H.keep.size hD)
          clear H
          have H:S Nm w ([(b66,.cells [i s.1,i s.2].toArray 199 (0,0)),(bi45,.mapIter (some m2.1) m2.2.2 (seen2.push e.born) m2.2.2),(b42,.cells [.map (some bm40)].toArray 197 (0,0)),(bm40,.map en ck),(bi25,.mapIter (some m.1) m.2.2 seen m.2.2),(b7,.cells [i d].toArray 3 (0,0)),(bo,.cells ((zs1.map rgV).flatten++([]:List Value)).toArray 41 (0,0)),(b5,.cells [.slice (some ⟨bl,0,none⟩) (h.length+1) cl].toArray 193 (0,0)),(bl,.cells ((ms.map vY).flatten++tl).toArray 197 (0,0)),(b1,.cells [i base,.slice ab bs.length cab,.slice ad dl.length cad,i blo,i bhi,.slice ah h.length cah,.slice ai ices.length cai].toArray 153 (0,0))]++(ms.map yX++(D :: Ds2).map vC)) W:=HD.perm (mark_perm _ _ _ _)
          refine id (nB (nB (nT ?_)))
          exact ⟨(leftOf m2.2.1 (seen2.push e.born)).size,(by rw [hk57];exact left_lt he),(seen2.push e.born),en,ck,ts,(D :: Ds2),rfl,trivial,rfl,f47,f48,f49,f50,f51,f52,f53,f54,(H.drop 1),⟨hi59.1,LedIs.no hi59.2 hEm2.born hel.1 hek (fun ⟨u,hu,hut⟩=>hN2 u ((hxs u).2 hu) hut)⟩⟩
        · rintro D _ W hD ⟨rfl,en2,ck2,ts2,H2,hE2,hLed,hx2⟩ hDo
          have HD:S Nm w ((D,.deferred (some [])) :: ([(b66,.cells [i s.1,i s.2].toArray 199 (0,0)),(bi45,.mapIter (some m2.1) m2.2.2 (seen2.push e.born) m2.2.2),(b42,.cells [.map (some bm40)].toArray 197 (0,0)),(bm40,.map en2 ck2),(bi25,.mapIter (some m.1) m.2.2 seen m.2.2),(b7,.cells [i d].toArray 3 (0,0)),(bo,.cells ((zs1.map rgV).flatten++([]:List Value)).toArray 41 (0,0)),(b5,.cells [.slice (some ⟨bl,0,none⟩) (h.length+1) cl].toArray 193 (0,0)),(bl,.cells ((ms.map vY).flatten++tl).toArray 197 (0,0)),(b1,.cells [i base,.slice ab bs.length cab,.slice ad dl.length cad,i blo,i bhi,.slice ah h.length cah,.slice ai ices.length cai].toArray 153 (0,0))]++(ms.map yX++Ds2.map vC))) W:=H2.adopt hDo (fun p hp=>by have:=H.belowK (L':=([(b66,.cells [i s.1,i s.2].toArray 199 (0,0)),(bi45,.mapIter (some m2.1) m2.2.2 (seen2.push e.born) m2.2.2),(b42,.cells [.map (some bm40)].toArray 197 (0,0)),(bm40,.map en2 ck2),(bi25,.mapIter (some m.1) m.2.2 seen m.2.2),(b7,.cells [i d].toArray 3 (0,0)),(bo,.cells ((zs1.map rgV).flatten++([]:List Value)).toArray 41 (0,0)),(b5,.cells [.slice (some ⟨bl,0,none⟩) (h.length+1) cl].toArray 193 (0,0)),(bl,.cells ((ms.map vY).flatten++tl).toArray 197 (0,0)),(b1,.cells [i base,.slice ab bs.length cab,.slice ad dl.length cad,i blo,i bhi,.slice ah h.length cah,.slice ai ices.length cai].toArray 153 (0,0))]++(ms.map yX++Ds2.map vC))) rfl p hp;omega) (Nat.le_trans H.keep.size hD)
          clear H
          have H:S Nm w ([(b66,.cells [i s.1,i s.2].toArray 199 (0,0)),(bi45,.mapIter (some m2.1) m2.2.2 (seen2.push e.born) m2.2.2),(b42,.cells [.map (some bm40)].toArray 197 (0,0)),(bm40,.map en2 ck2),(bi25,.mapIter (some m.1) m.2.2 seen m.2.2),(b7,.cells [i d].toArray 3 (0,0)),(bo,.cells ((zs1.map rgV).flatten++([]:List Value)).toArray 41 (0,0)),(b5,.cells [.slice (some ⟨bl,0,none⟩) (h.length+1) cl].toArray 193 (0,0)),(bl,.cells ((ms.map vY).flatten++tl).toArray 197 (0,0)),(b1,.cells [i base,.slice ab bs.length cab,.slice ad dl.length cad,i blo,i bhi,.slice ah h.length cah,.slice ai ices.length cai].toArray 153 (0,0))]++(ms.map yX++(D :: Ds2).map vC)) W:=HD.perm (mark_perm _ _ _ _)
          refine Wp.exit (xB (nB (nT ?_)))
          exact ⟨(leftOf m2.2.1 (seen2.push e.born)).size,(by rw [hk57];exact left_lt he),(seen2.push e.born),en2,ck2,ts2,(D :: Ds2),rfl,trivial,rfl,f47,f48,f49,f50,f51,f52,f53,f54,(H.drop 1),⟨hE2,LedIs.yes hi59.2 hEm2.born hel.1 hek hLed hx2⟩⟩
    · skip
      intro e w112 he Hn
      replace H:S Nm w ([(bi25,.mapIter (some m.1) m.2.2 (seen.push e.born) m.2.2),(b7,.cells [i d].toArray 3 (0,0)),(bo,.cells ((zs1.map rgV).flatten++([]:List Value)).toArray 41 (0,0)),(b5,.cells [.slice (some ⟨bl,0,none⟩) (h.length+1) cl].toArray 193 (0,0)),(bl,.cells ((ms.map vY).flatten++tl).toArray 197 (0,0)),(b1,.cells [i base,.slice ab bs.length cab,.slice ad dl.length cad,i blo,i bhi,.slice ah h.length cah,.slice ai ices.length cai].toArray 153 (0,0))]++(ms.map yX++Ds.map vC)) w112:=Hn;clear Hn
      have hel:=left_mem.1 he
      obtain ⟨s,hs,hek,hev⟩:=hEm.entry hel.1
      have hsb:=hsbdm s hs
      refine Ro.q (v:=(.bool true)) rfl rfl (zO rfl (j:=0) rfl) rfl ?_
      refine Ro.nil (nT (Wp.seq ?_))
      refine Wp.condT rfl ?_
      refine Wp.skip (nT (Wp.block (Wp.seq (Wp.region ?_))))
      refine Ro.q (v:=(.tuple #[(.agg #[(i s.1),(i s.2)]),(.bool true)])) rfl rfl (Runs.to (r_entry f33 (H.at 0 rfl) (H.own (yX m) (List.mem_append_right _ (List.mem_append_left _ (List.mem_map.2 ⟨m,List.mem_of_getElem? hm,rfl⟩)))) hel.1 hEm.born) (by rw [hek,hev];rfl)) rfl ?_
      refine Ro.q (v:=(.agg #[(i s.1),(i s.2)])) rfl rfl (zO rfl (j:=0) rfl) rfl ?_
      refine Ro.d rfl rfl rfl (H.new (l:=[i 0,i 0]) rfl zv199 rfl ?_)
      intro b113 w114 Hn;replace H:=Hn;clear Hn
      refine Ro.d0 rfl rfl rfl (H.store (j:=0) (off:=0) (k:=2) rfl sz199 rfl (v:=(.agg #[(i s.1),(i s.2)])) rfl rfl rfl rfl rfl (by simp [Value.oneCell']) (cs':=[i s.1,i s.2]) rfl ?_)
      intro w115 Hn;replace H:S Nm w ([(b113,.cells [i s.1,i s.2].toArray 199 (0,0)),(bi25,.mapIter (some m.1) m.2.2 (seen.push e.born) m.2.2),(b7,.cells [i d].toArray 3 (0,0)),(bo,.cells ((zs1.map rgV).flatten++([]:List Value)).toArray 41 (0,0)),(b5,.cells [.slice (some ⟨bl,0,none⟩) (h.length+1) cl].toArray 193 (0,0)),(bl,.cells ((ms.map vY).flatten++tl).toArray 197 (0,0)),(b1,.cells [i base,.slice ab bs.length cab,.slice ad dl.length cad,i blo,i bhi,.slice ah h.length cah,.slice ai ices.length cai].toArray 153 (0,0))]++(ms.map yX++Ds.map vC)) w115:=Hn;clear Hn
      refine Ro.nil (nT (Wp.seq (Wp.region ?_)))
      refine Ro.q (v:=(p b1 0)) rfl rfl (zA fo153_0 f27 rfl) rfl ?_
      refine Ro.q (v:=(p b1 0)) rfl rfl (zA fo151_0 rfl rfl) rfl ?_
      refine Ro.q rfl rfl (zJ ta43 rfl (H.cells 6 rfl) (j:=0) rfl (vs:=[i base,.slice ab bs.length cab,.slice ad dl.length cad,i blo,i bhi]) rfl rfl) rfl ?_
      refine Ro.q rfl rfl (zJ ta199 rfl (H.cells 0 rfl) (j:=0) rfl (vs:=[i s.1,i s.2]) rfl rfl) rfl ?_
      refine Ro.d rfl rfl rfl (zH rfl en113 (ce (v:=(.agg #[(i base),(.slice ab bs.length cab),(.slice ad dl.length cad),(i blo),(i bhi)])) rfl (ce (v:=(.agg #[(i s.1),(i s.2)])) rfl cn)) (c113 base blo bhi s.1 s.2 ab bs cab ad dl cad _ (hab.ext H.keep) (had.ext H.keep) (by omega)) ?_)
      intro u w116 k117 hu;subst hu;replace H:=H.ext k117
      clear k117
      refine Ro.q (v:=(i (base+s.1-s.2))) rfl rfl (zD rfl) rfl ?_
      refine Ro.nil (nT (Wp.seq (Wp.seq (Wp.region ?_))))
      refine Ro.q (v:=(.bool first)) rfl rfl (zB f34) rfl ?_
      refine Ro.nil (nT ?_)
      refine Wp.cond (t:=first) rfl ?_ ?_
      · intro c118
        have c118r:=c118
        refine Wp.region ?_
        refine Ro.q (v:=(.slice (some ⟨bo,0,none⟩) h.length h.length)) rfl rfl (zB f31) rfl ?_
        refine Ro.q rfl rfl (zE zM f32 (H.cells 2 rfl) (j:=0) rfl rfl) rfl ?_
        refine Ro.q rfl rfl (yT rfl rfl (by constructor <;>omega)) rfl ?_
        refine Ro.q (v:=(i (base+s.1-s.2))) rfl rfl (zB rfl) rfl ?_
        refine Ro.q (v:=(i (base+s.1-s.2))) rfl rfl (zB rfl) rfl ?_
        refine Ro.q (v:=(.agg #[(i (base+s.1-s.2)),(i (base+s.1-s.2))])) rfl rfl (zP (v:=(.agg #[(i (base+s.1-s.2)),(i (base+s.1-s.2))])) (pe (v:=(i (base+s.1-s.2))) rfl (pe (v:=(i (base+s.1-s.2))) rfl pn)) (fun w=>by kernel_rfl)) rfl ?_
        refine Ro.q rfl rfl (zY ts47 ((Sl.block (enc:=rgV) (fun _=>rfl) (H.at 3 rfl))) rfl (by first | (simp;done) | (simp;omega)) rfl (by omega) (zW hr0)) rfl ?_
        refine Ro.d0 rfl rfl rfl (H.setE (enc:=rgV) (k:=2) (fun _=>rfl) (g:=bo) (j:=3) (u:=41) (q:=(d-1).toNat) (xs:=zs1) (tl:=[]) (z:=⟨base+s.1-s.2,base+s.1-s.2⟩) sz41 rfl rfl (Nat.zero_add _) (v:=(.agg #[(i (base+s.1-s.2)),(i (base+s.1-s.2))])) rfl rfl (by simp [rgV,Value.oneCell']) rfl (by simp;omega) ?_)
        intro w119 Hn;replace H:S Nm w ([(b113,.cells [i s.1,i s.2].toArray 199 (0,0)),(bi25,.mapIter (some m.1) m.2.2 (seen.push e.born) m.2.2),(b7,.cells [i d].toArray 3 (0,0)),(bo,.cells (((zs1.set (d-1).toNat ⟨base+s.1-s.2,base+s.1-s.2⟩).map rgV).flatten++([]:List Value)).toArray 41 (0,0)),(b5,.cells [.slice (some ⟨bl,0,none⟩) (h.length+1) cl].toArray 193 (0,0)),(bl,.cells ((ms.map vY).flatten++tl).toArray 197 (0,0)),(b1,.cells [i base,.slice ab bs.length cab,.slice ad dl.length cad,i blo,i bhi,.slice ah h.length cah,.slice ai ices.length cai].toArray 153 (0,0))]++(ms.map yX++Ds.map vC)) w119:=Hn;clear Hn
        have hr1:(zs1.set (d-1).toNat ⟨base+s.1-s.2,base+s.1-s.2⟩)[(d-1).toNat]? = some (⟨base+s.1-s.2,base+s.1-s.2⟩:Rg):=List.getElem?_set_self (by omega)
        refine Ro.q (v:=(.bool false)) rfl rfl (zD rfl) rfl ?_
        refine Ro.nil (nT ?_)
        refine Wp.drawnS 11 [0,0,2,0,0,16,56,120,0,504,1023,2047] [is (.slice (some ⟨bo,0,none⟩) h.length h.length),is (i d),is (i (d-1)),is (.slice (some ⟨bo,0,none⟩) h.length h.length),is (i d),is (i (d-1)),is (p (blk (some ⟨bo,0,none⟩)) (yP (some ⟨bo,0,none⟩)+((d-1).toNat)*2)),is (.agg #[(i (base+s.1-s.2)),(i (base+s.1-s.2))]),is (i (base+s.1-s.2)),is (.agg #[(i (min (base+s.1-s.2) (base+s.1-s.2))),(i (max (base+s.1-s.2) (base+s.1-s.2)))]),is (p (blk (some ⟨bo,0,none⟩)) (yP (some ⟨bo,0,none⟩)+((d-1).toNat)*2))] (by kernel_rfl) (by kernel_rfl) rfl (Mi (Mi (Mi (Mi (Mi (Mi (Mi (Mi (Mi (Mi (Mi Mono.nil))))))))))) (fun w' k=>H.ext k) ?_ ?_
        · refine ⟨?_,?_,?_,?_,?_,?_,?_,?_,?_,?_,?_,trivial⟩
          · exact Ob.q rfl (fun _ _ B U D=>(zB ((U 6 rfl).trans f31))) rfl rfl
          · exact Ob.q rfl (fun _ _ B U D=>(zE zM ((U 7 rfl).trans f32) (B.cells 2 rfl) (j:=0) rfl rfl)) rfl rfl
          · exact Ob.q rfl (fun _ _ B U D=>(yT (D 1 rfl) rfl (by constructor <;>omega))) rfl rfl
          · exact Ob.q rfl (fun _ _ B U D=>(zB ((U 6 rfl).trans f31))) rfl rfl
          · exact Ob.q rfl (fun _ _ B U D=>(zE zM ((U 7 rfl).trans f32) (B.cells 2 rfl) (j:=0) rfl rfl)) rfl rfl
          · exact Ob.q rfl (fun _ _ B U D=>(yT (D 4 rfl) rfl (by constructor <;>omega))) rfl rfl
          · exact Ob.q rfl (fun _ _ B U D=>(zY ts47 ((Sl.block (enc:=rgV) (fun _=>rfl) (B.at 3 rfl))) (D 3 rfl) (by first | (simp;done) | (simp;omega)) (D 5 rfl) (by omega) (zW hr1))) rfl rfl
          · exact Ob.q rfl (fun _ _ B U D=>(zJ vL (D 6 rfl) (((Sl.block (enc:=rgV) (fun _=>rfl) (B.at 3 rfl))).cells (zW hr1)) (j:=0) rfl (vs:=[i (base+s.1-s.2),i (base+s.1-s.2)]) rfl rfl)) rfl rfl
          · exact Ob.q rfl (fun _ _ B U D=>(zB (show (_:Value)=(i (base+s.1-s.2)) from U 10 rfl))) rfl rfl
          · exact Ob.mk rfl fun ρ' w' B U D=>zH rfl en114 (ce (v:=(.agg #[(i (base+s.1-s.2)),(i (base+s.1-s.2))])) (D 7 rfl) (ce (v:=(i (base+s.1-s.2))) (D 8 rfl) cn)) (c114 (base+s.1-s.2) (base+s.1-s.2) (base+s.1-s.2) _ ) (fun u w2 k2 hu=>⟨k2,hu⟩)
          · exact Ob.q rfl (fun _ _ B U D=>(zY ts47 ((Sl.block (enc:=rgV) (fun _=>rfl) (B.at 3 rfl))) (D 0 rfl) (by first | (simp;done) | (simp;omega)) (D 2 rfl) (by omega) (zW hr1))) rfl rfl
        intro ρ120 w121 k122 U123 D124;replace H:=H.ext k122
        have f125:=(U123 1 rfl).trans f27
        have f126:=(U123 2 rfl).trans f28
        have f127:=(U123 3 rfl).trans f29
        have f128:=(U123 4 rfl).trans f30
        have f129:=(U123 6 rfl).trans f31
        have f130:=(U123 7 rfl).trans f32
        have f131:ρ120 8=(.bool false):=U123 8 rfl
        have f132:=(U123 38 rfl).trans f33
        have f133:ρ120 65=(.agg #[(i (min (base+s.1-s.2) (base+s.1-s.2))),(i (max (base+s.1-s.2) (base+s.1-s.2)))]):=D124 9 rfl
        have f134:ρ120 66=(p (blk (some ⟨bo,0,none⟩)) (yP (some ⟨bo,0,none⟩)+((d-1).toNat)*2)):=D124 10 rfl
        clear U123 D124 k122
        refine Ro.d0 rfl rfl rfl (H.setE (enc:=rgV) (k:=2) (fun _=>rfl) (g:=bo) (j:=3) (u:=41) (q:=(d-1).toNat) (xs:=(zs1.set (d-1).toNat ⟨base+s.1-s.2,base+s.1-s.2⟩)) (tl:=[]) (z:=⟨min (base+s.1-s.2) (base+s.1-s.2),max (base+s.1-s.2) (base+s.1-s.2)⟩) sz41 rfl f134 (Nat.zero_add _) (v:=(.agg #[(i (min (base+s.1-s.2) (base+s.1-s.2))),(i (max (base+s.1-s.2) (base+s.1-s.2)))])) f133 rfl (by simp [rgV,Value.oneCell']) rfl (by simp;omega) ?_)
        intro w135 Hn;replace H:S Nm w ([(b113,.cells [i s.1,i s.2].toArray 199 (0,0)),(bi25,.mapIter (some m.1) m.2.2 (seen.push e.born) m.2.2),(b7,.cells [i d].toArray 3 (0,0)),(bo,.cells ((((zs1.set (d-1).toNat ⟨base+s.1-s.2,base+s.1-s.2⟩).set (d-1).toNat ⟨min (base+s.1-s.2) (base+s.1-s.2),max (base+s.1-s.2) (base+s.1-s.2)⟩).map rgV).flatten++([]:List Value)).toArray 41 (0,0)),(b5,.cells [.slice (some ⟨bl,0,none⟩) (h.length+1) cl].toArray 193 (0,0)),(bl,.cells ((ms.map vY).flatten++tl).toArray 197 (0,0)),(b1,.cells [i base,.slice ab bs.length cab,.slice ad dl.length cad,i blo,i bhi,.slice ah h.length cah,.slice ai ices.length cai].toArray 153 (0,0))]++(ms.map yX++Ds.map vC)) w135:=Hn;clear Hn
        refine Ro.nil (nB (nT ?_))
        exact ⟨(leftOf m.2.1 (seen.push e.born)).size,(by rw [hk37];exact left_lt he),(seen.push e.born),false,((zs1.set (d-1).toNat ⟨base+s.1-s.2,base+s.1-s.2⟩).set (d-1).toNat ⟨min (base+s.1-s.2) (base+s.1-s.2),max (base+s.1-s.2) (base+s.1-s.2)⟩),rfl,trivial,rfl,f125,f126,f127,f128,f129,f130,f132,f131,(H.drop 1),(by have h:=hi39;rw [c118r] at h;exact ZDay.first h (by omega) (by omega) hEm.born hel.1 hek)⟩
      intro c118
      have c118r:=c118
      refine Wp.skip (nT ?_)
      refine Wp.drawnS 11 [0,0,2,0,0,16,56,120,0,504,1023,2047] [is (.slice (some ⟨bo,0,none⟩) h.length h.length),is (i d),is (i (d-1)),is (.slice (some ⟨bo,0,none⟩) h.length h.length),is (i d),is (i (d-1)),is (p (blk (some ⟨bo,0,none⟩)) (yP (some ⟨bo,0,none⟩)+((d-1).toNat)*2)),is (.agg #[(i r0.lo),(i r0.hi)]),is (i (base+s.1-s.2)),is (.agg #[(i (min r0.lo (base+s.1-s.2))),(i (max r0.hi (base+s.1-s.2)))]),is (p (blk (some ⟨bo,0,none⟩)) (yP (some ⟨bo,0,none⟩)+((d-1).toNat)*2))] (by kernel_rfl) (by kernel_rfl) rfl (Mi (Mi (Mi (Mi (Mi (Mi (Mi (Mi (Mi (Mi (Mi Mono.nil))))))))))) (fun w' k=>H.ext k) ?_ ?_
      · refine ⟨?_,?_,?_,?_,?_,?_,?_,?_,?_,?_,?_,trivial⟩
        · exact Ob.q rfl (fun _ _ B U D=>(zB ((U 6 rfl).trans f31))) rfl rfl
        · exact Ob.q rfl (fun _ _ B U D=>(zE zM ((U 7 rfl).trans f32) (B.cells 2 rfl) (j:=0) rfl rfl)) rfl rfl
        · exact Ob.q rfl (fun _ _ B U D=>(yT (D 1 rfl) rfl (by constructor <;>omega))) rfl rfl
        · exact Ob.q rfl (fun _ _ B U D=>(zB ((U 6 rfl).trans f31))) rfl rfl
        · exact Ob.q rfl (fun _ _ B U D=>(zE zM ((U 7 rfl).trans f32) (B.cells 2 rfl) (j:=0) rfl rfl)) rfl rfl
        · exact Ob.q rfl (fun _ _ B U D=>(yT (D 4 rfl) rfl (by constructor <;>omega))) rfl rfl
        · exact Ob.q rfl (fun _ _ B U D=>(zY ts47 ((Sl.block (enc:=rgV) (fun _=>rfl) (B.at 3 rfl))) (D 3 rfl) (by first | (simp;done) | (simp;omega)) (D 5 rfl) (by omega) (zW hr0))) rfl rfl
        · exact Ob.q rfl (fun _ _ B U D=>(zJ vL (D 6 rfl) (((Sl.block (enc:=rgV) (fun _=>rfl) (B.at 3 rfl))).cells (zW hr0)) (j:=0) rfl (vs:=[i r0.lo,i r0.hi]) rfl rfl)) rfl rfl
        · exact Ob.q rfl (fun _ _ B U D=>(zB (show (_:Value)=(i (base+s.1-s.2)) from U 10 rfl))) rfl rfl
        · exact Ob.mk rfl fun ρ' w' B U D=>zH rfl en114 (ce (v:=(.agg #[(i r0.lo),(i r0.hi)])) (D 7 rfl) (ce (v:=(i (base+s.1-s.2))) (D 8 rfl) cn)) (c114 r0.lo r0.hi (base+s.1-s.2) _ ) (fun u w2 k2 hu=>⟨k2,hu⟩)
        · exact Ob.q rfl (fun _ _ B U D=>(zY ts47 ((Sl.block (enc:=rgV) (fun _=>rfl) (B.at 3 rfl))) (D 0 rfl) (by first | (simp;done) | (simp;omega)) (D 2 rfl) (by omega) (zW hr0))) rfl rfl
      intro ρ136 w137 k138 U139 D140;replace H:=H.ext k138
      have f141:=(U139 1 rfl).trans f27
      have f142:=(U139 2 rfl).trans f28
      have f143:=(U139 3 rfl).trans f29
      have f144:=(U139 4 rfl).trans f30
      have f145:=(U139 6 rfl).trans f31
      have f146:=(U139 7 rfl).trans f32
      have f147:=(U139 8 rfl).trans f34
      have f148:=(U139 38 rfl).trans f33
      have f149:ρ136 65=(.agg #[(i (min r0.lo (base+s.1-s.2))),(i (max r0.hi (base+s.1-s.2)))]):=D140 9 rfl
      have f150:ρ136 66=(p (blk (some ⟨bo,0,none⟩)) (yP (some ⟨bo,0,none⟩)+((d-1).toNat)*2)):=D140 10 rfl
      clear U139 D140 k138
      refine Ro.d0 rfl rfl rfl (H.setE (enc:=rgV) (k:=2) (fun _=>rfl) (g:=bo) (j:=3) (u:=41) (q:=(d-1).toNat) (xs:=zs1) (tl:=[]) (z:=⟨min r0.lo (base+s.1-s.2),max r0.hi (base+s.1-s.2)⟩) sz41 rfl f150 (Nat.zero_add _) (v:=(.agg #[(i (min r0.lo (base+s.1-s.2))),(i (max r0.hi (base+s.1-s.2)))])) f149 rfl (by simp [rgV,Value.oneCell']) rfl (by simp;omega) ?_)
      intro w151 Hn;replace H:S Nm w ([(b113,.cells [i s.1,i s.2].toArray 199 (0,0)),(bi25,.mapIter (some m.1) m.2.2 (seen.push e.born) m.2.2),(b7,.cells [i d].toArray 3 (0,0)),(bo,.cells (((zs1.set (d-1).toNat ⟨min r0.lo (base+s.1-s.2),max r0.hi (base+s.1-s.2)⟩).map rgV).flatten++([]:List Value)).toArray 41 (0,0)),(b5,.cells [.slice (some ⟨bl,0,none⟩) (h.length+1) cl].toArray 193 (0,0)),(bl,.cells ((ms.map vY).flatten++tl).toArray 197 (0,0)),(b1,.cells [i base,.slice ab bs.length cab,.slice ad dl.length cad,i blo,i bhi,.slice ah h.length cah,.slice ai ices.length cai].toArray 153 (0,0))]++(ms.map yX++Ds.map vC)) w151:=Hn;clear Hn
      refine Ro.nil (nB (nT ?_))
      exact ⟨(leftOf m.2.1 (seen.push e.born)).size,(by rw [hk37];exact left_lt he),(seen.push e.born),first,(zs1.set (d-1).toNat ⟨min r0.lo (base+s.1-s.2),max r0.hi (base+s.1-s.2)⟩),rfl,trivial,rfl,f141,f142,f143,f144,f145,f146,f148,f147,(H.drop 1),(by have h:=hi39;rw [c118r] at h ⊢;exact ZDay.step h (by omega) (by omega) hr0 hEm.born hel.1 hek)⟩
  intro c24
  have c24r:=c24
  simp only [bx] at c24
  refine Wp.exit (xT (xT (xB (nT (Wp.seq (Wp.region ?_))))))
  refine Ro.q (v:=(.slice (some ⟨bo,0,none⟩) h.length h.length)) rfl rfl (zB f17) rfl ?_
  refine Ro.q (v:=(.slice (some ⟨bo,0,none⟩) h.length h.length)) rfl rfl (zD rfl) rfl ?_
  refine Ro.q (v:=(.bool true)) rfl rfl (zD rfl) rfl ?_
  refine Ro.nil (nT (Wp.ret (zN ?_)))
  have Hm:S Nm w (Ds.map vC++([(b7,.cells [i d].toArray 3 (0,0)),(bo,.cells ((zs.map rgV).flatten++([]:List Value)).toArray 41 (0,0)),(b5,.cells [.slice (some ⟨bl,0,none⟩) (h.length+1) cl].toArray 193 (0,0)),(bl,.cells ((ms.map vY).flatten++tl).toArray 197 (0,0)),(b1,.cells [i base,.slice ab bs.length cab,.slice ad dl.length cad,i blo,i bhi,.slice ah h.length cah,.slice ai ices.length cai].toArray 153 (0,0))]++ms.map yX)) _:=H.perm (by first | exact List.perm_append_comm | exact marks3 _ _ _ _ | (rw [← List.append_assoc];exact List.perm_append_comm))
  refine Leave.marksS Hm ?_
  intro w152 Hn;replace H:=Hn;clear Hn
  refine vT (v:=(.slice (some ⟨bo,0,none⟩) h.length h.length)) (v':=(.bool true)) Tryz.results83 rfl rfl ⟨H.keep,?_⟩
  exact .inl ⟨ha,_,_,zs,bo,_,rfl,H.one 1 rfl,fun W hW=>Sl.block (enc:=rgV) (fun _=>rfl) hW,hi23.done c24⟩
end Go.Proofs.YthfnjppieihcfaaGreat
namespace Men
open Go Go.Mw
structure Tb where
  base:Int
  bs:List Band
  dl:List Depth
  blo:Int
  bhi:Int
  klo:Int
  khi:Int
  llo:Int
  lhi:Int
  slo:Int
  shi:Int
  term:Int
abbrev Tb.glass (t:Tb):Glass:=⟨t.base,t.bs,t.dl,⟨t.blo,t.bhi⟩⟩
noncomputable abbrev uA (t:Tb):Int:=tubeE t.base t.bs t.dl t.blo t.bhi t.klo t.khi t.llo t.lhi t.slo t.shi t.term
abbrev TbR (t:Tb):Prop:=(0≤t.klo∧t.klo≤t.khi∧t.khi≤20)∧(0≤t.llo∧t.llo≤t.lhi∧t.lhi≤5)∧(0≤t.slo∧t.slo≤t.shi∧t.shi≤3)
abbrev RdR (x:Rdg):Prop:=(-5000≤x.shown∧x.shown≤5000)∧(0≤x.err∧x.err≤20)∧(0≤x.bare∧x.bare≤300)∧(-100≤x.alo∧x.alo≤x.ahi∧x.ahi≤100)∧(-20≤x.rlo∧x.rlo≤x.rhi∧x.rhi≤20)∧(0≤x.deep∧x.deep≤20)
abbrev vX (days:Int) (x:Rdg):Bool:=readB days x.day x.shown x.err x.bare x.alo x.ahi x.rlo x.rhi x.deep
theorem readBx_iff {days:Int} {x:Rdg}:vX days x=true↔(0≤x.day∧x.day≤days-1)∧RdR x:=by
  simp only [vX,readB,yM,yL,Bool.and_eq_true,decide_eq_true_eq]
  constructor <;>(intro h;unfold RdR at *;omega)
theorem pairwise_adj {α:Type} {R:α→α→Prop} (htr : ∀ a b c,R a b→R b c→R a c) : ∀ l:List α,(∀ j a b,l[j]? = some a→l[j+1]? = some b→R a b)→l.Pairwise R
  | [],_=>.nil
  | [a],_=>by simp
  | a :: b :: l,h=>by
    have ih:=pairwise_adj htr (b :: l) (fun j x y h1 h2=>h (j+1) x y (by simpa using h1) (by simpa using h2))
    have hab:R a b:=h 0 a b rfl rfl
    refine List.pairwise_cons.2 ⟨fun x hx=>?_,ih⟩
    rcases List.mem_cons.1 hx with rfl | hx
    · exact hab
    · exact htr _ _ _ hab ((List.pairwise_cons.1 ih).1 x hx)
theorem mem_at {α:Type} {l:List α} {a:α} (h:a∈l) : ∃ j:Nat,l[j]? = some a:=by
  obtain ⟨j,hj,e⟩:=List.getElem_of_mem h
  exact ⟨j,by rw [← e];simp [hj]⟩
theorem glassE_ok {base:Int} {bs:List Band} {dl:List Depth} {blo bhi:Int} (h:yI base bs dl blo bhi=0):GlassOk ⟨base,bs,dl,⟨blo,bhi⟩⟩:=by
  unfold yI at h
  cases h1:(decide (3<((bs.length:Nat):Int)) || decide (4<((dl.length:Nat):Int)))
  · rw [h1] at h
    cases h2:(((!yM base (-1000) 1000 || !yL blo bhi 0 5) || !bandsB bs) || !uD dl)
    · simp only [Bool.or_eq_false_iff,Bool.not_eq_false',decide_eq_false_iff_not] at h1 h2
      obtain ⟨⟨⟨hb,hk⟩,hB⟩,hD⟩:=h2
      unfold yM at hb
      unfold yL at hk
      simp only [Bool.and_eq_true,decide_eq_true_eq] at hb hk
      obtain ⟨hB1,b0,hb0,hf0⟩:=bandsB_true.1 hB
      obtain ⟨hD1,hD0⟩:=depthsB_true.1 hD
      refine ⟨by simp only;omega,by simp only;omega,hb,by unfold Rg.to;simp only;omega,?_,fun b hm=>?_,?_,?_,fun d hm=>?_,?_⟩
      · cases bs with
        | nil=>simp at hb0
        | cons b bs=>simp at hb0;subst hb0;exact ⟨b,bs,rfl,hf0⟩
      · obtain ⟨j,hj⟩:=mem_at hm
        have:=hB1 j b hj
        exact ⟨this.1,this.2.1⟩
      · refine pairwise_adj (fun a b c h1 h2=>by omega) _ fun j a b ha hb=>?_
        exact (hB1 (j+1) b hb).2.2 (by omega) a (by simpa using ha)
      · intro e;simp only at e;subst e;simp at hD0
      · obtain ⟨j,hj⟩:=mem_at hm
        exact (hD1 j d hj).1
      · refine pairwise_adj (fun a b c h1 h2=>by omega) _ fun j a b ha hb=>?_
        exact (hD1 (j+1) b hb).2 (by omega) a (by simpa using ha)
    · rw [h2] at h;simp at h
  · rw [h1] at h;simp at h
theorem histE_ok {h:List Rg} (he:histE h=0):HistOk h:=by
  unfold histE at he
  cases h1:decide (16<((h.length:Nat):Int))
  · rw [h1] at he
    cases h2:(!h.all heatB || decide (((h.length:Nat):Int)=0))
    · simp only [Bool.or_eq_false_iff,Bool.not_eq_false',decide_eq_false_iff_not] at h1 h2
      refine ⟨by omega,by omega,fun r hr=>?_⟩
      have:=List.all_eq_true.1 h2.1 r hr
      simp only [heatB,yL,Bool.and_eq_true,decide_eq_true_eq] at this
      unfold Rg.to;omega
    · rw [h2] at he;simp at he
  · rw [h1] at he;simp at he
theorem icesE_ok {h:List Rg} {ices:List Ice} (he:icesE ((h.length:Nat):Int) ices=0):IcesOk h ices:=by
  unfold icesE at he
  cases h1:decide (8<((ices.length:Nat):Int))
  · rw [h1] at he
    cases h2 : !ices.all (iceB ((h.length:Nat):Int))
    · simp only [Bool.not_eq_false',decide_eq_false_iff_not] at h1 h2
      refine ⟨by omega,fun r hr=>?_⟩
      have:=List.all_eq_true.1 h2 r hr
      simp only [iceB,yM,Bool.and_eq_true,decide_eq_true_eq] at this
      omega
    · rw [h2] at he;simp at he
  · rw [h1] at he;simp at he
theorem livedE_zero {base:Int} {bs:List Band} {dl:List Depth} {blo bhi:Int} {h:List Rg} (he:vI base bs dl blo bhi h=0):yI base bs dl blo bhi=0∧histE h=0:=by
  unfold vI at he
  by_cases hg:yI base bs dl blo bhi=0
  · rw [decide_eq_false (by simpa using hg)] at he;exact ⟨hg,he⟩
  · rw [decide_eq_true hg] at he;exact absurd he hg
theorem icedE_zero {base:Int} {bs:List Band} {dl:List Depth} {blo bhi:Int} {h:List Rg} {ices:List Ice} (he:icedE base bs dl blo bhi h ices=0):GlassOk ⟨base,bs,dl,⟨blo,bhi⟩⟩∧HistOk h∧IcesOk h ices:=by
  unfold icedE at he
  by_cases hg:vI base bs dl blo bhi h=0
  · rw [decide_eq_false (by simpa using hg)] at he
    have:=livedE_zero hg
    exact ⟨glassE_ok this.1,histE_ok this.2,icesE_ok he⟩
  · rw [decide_eq_true hg] at he;exact absurd he hg
theorem icedE_life {base:Int} {bs:List Band} {dl:List Depth} {blo bhi:Int} {h:List Rg} {ices:List Ice} (hg:yI base bs dl blo bhi=0):icedE base bs dl blo bhi h ices=lifeE h ices:=by
  have e:vI base bs dl blo bhi h=histE h:=by unfold vI;rw [decide_eq_false (fun h=>h hg)];rfl
  unfold icedE lifeE
  rw [e]
theorem histE_vals (h:List Rg):histE h=0∨histE h=2∨histE h=3:=by
  unfold histE;cases decide (16<((h.length:Nat):Int)) <;>cases (!h.all heatB || decide (((h.length:Nat):Int)=0)) <;>simp
theorem icesE_vals (n:Int) (ices:List Ice):icesE n ices=0∨icesE n ices=2∨icesE n ices=3:=by
  unfold icesE;cases decide (8<((ices.length:Nat):Int)) <;>cases (!ices.all (iceB n)) <;>simp
theorem glassE_vals (base:Int) (bs:List Band) (dl:List Depth) (blo bhi:Int):yI base bs dl blo bhi=0∨yI base bs dl blo bhi=1∨yI base bs dl blo bhi=3:=by
  unfold yI;cases (decide (3<((bs.length:Nat):Int)) || decide (4<((dl.length:Nat):Int))) <;>cases (((!yM base (-1000) 1000 || !yL blo bhi 0 5) || !bandsB bs) || !uD dl) <;>simp
theorem livedE_vals (base:Int) (bs:List Band) (dl:List Depth) (blo bhi:Int) (h:List Rg):vI base bs dl blo bhi h=0∨vI base bs dl blo bhi h=1∨vI base bs dl blo bhi h=2∨vI base bs dl blo bhi h=3:=by
  have h1:=glassE_vals base bs dl blo bhi
  have h2:=histE_vals h
  unfold vI
  cases decide (yI base bs dl blo bhi≠0) <;>simp only [cond_true,cond_false] <;>omega
theorem icedE_vals (base:Int) (bs:List Band) (dl:List Depth) (blo bhi:Int) (h:List Rg) (ices:List Ice):icedE base bs dl blo bhi h ices=0∨icedE base bs dl blo bhi h ices=1∨icedE base bs dl blo bhi h ices=2∨icedE base bs dl blo bhi h ices=3:=by
  have h1:=livedE_vals base bs dl blo bhi h
  have h2:=icesE_vals h.length ices
  unfold icedE
  cases decide (vI base bs dl blo bhi h≠0) <;>simp only [cond_true,cond_false] <;>omega
theorem tubeEt_zero {t:Tb} (h:uA t=0):yI t.base t.bs t.dl t.blo t.bhi=0∧GlassOk t.glass∧TbR t∧0≤t.term∧t.term≤16:=by
  unfold uA tubeE at h
  by_cases hg:yI t.base t.bs t.dl t.blo t.bhi=0
  · rw [decide_eq_false (by simpa using hg)] at h
    simp only [cond_false] at h
    refine ⟨hg,glassE_ok hg,?_⟩
    cases hb:(((!yL t.klo t.khi 0 20 || !yL t.llo t.lhi 0 5) || !yL t.slo t.shi 0 3) || !yM t.term 0 16)
    · simp only [yM,yL,Bool.or_eq_false_iff,Bool.not_eq_false',Bool.and_eq_true,decide_eq_true_eq] at hb
      unfold TbR;omega
    · rw [hb] at h;simp at h
  · rw [decide_eq_true hg] at h
    simp only [cond_true] at h
    exact absurd h hg
open Classical in
noncomputable def rangeOf (S:Int→Prop):Rg:=if h : ∃ r,IsR S r then Classical.choose h else ⟨0,0⟩
theorem rangeOf_is {S:Int→Prop} {r:Rg} (h:IsR S r):rangeOf S=r:=by
  have hex : ∃ r,IsR S r:=⟨r,h⟩
  unfold rangeOf
  rw [dif_pos hex]
  exact (Classical.choose_spec hex).unique h
theorem rangeOf_spec {S:Int→Prop} {r:Rg} (h:IsR S r):IsR S (rangeOf S):=by rw [rangeOf_is h];exact h
open Classical in
noncomputable def zl (g:Glass) (h:List Rg) (ices:List Ice):List Rg:=if Agree g h ices then (List.range h.length).map fun d=>rangeOf (Zset g h ices d) else []
theorem zl_of {g:Glass} {h:List Rg} {ices:List Ice} {zs:List Rg} (ha:Agree g h ices) (hz:ZerosAre g h ices zs):zl g h ices=zs:=by
  unfold zl
  rw [if_pos ha]
  apply List.ext_getElem
  · simp [hz.1]
  · intro j h1 h2
    have hj:j<h.length:=by simpa using h1
    have:=hz.2 j hj
    rw [List.getElem_map,List.getElem_range,rangeOf_is this]
    unfold vN
    simp [List.getD,h2]
theorem zl_no {g:Glass} {h:List Rg} {ices:List Ice} (ha : ¬ Agree g h ices):zl g h ices=[]:=by unfold zl;rw [if_neg ha]
theorem zl_len {g:Glass} {h:List Rg} {ices:List Ice} (ha:Agree g h ices):(zl g h ices).length=h.length:=by unfold zl;rw [if_pos ha];simp
theorem zl_zero {g:Glass} {h:List Rg} {ices:List Ice} (h0:0<h.length):(zl g h ices).length=0↔¬ Agree g h ices:=by
  by_cases ha:Agree g h ices
  · rw [zl_len ha];exact ⟨fun e=>by omega,fun h=>absurd ha h⟩
  · rw [zl_no ha];simp [ha]
open Classical in
noncomputable def agrB (g:Glass) (h:List Rg) (ices:List Ice):Bool:=decide (Agree g h ices)
theorem agrB_true {g:Glass} {h:List Rg} {ices:List Ice}:agrB g h ices=true↔Agree g h ices:=by unfold agrB;simp
theorem agrB_false {g:Glass} {h:List Rg} {ices:List Ice}:agrB g h ices=false↔¬ Agree g h ices:=by unfold agrB;simp
/-- what a reading says but for the zero -/
def WS (t:Tb) (x:Rdg):Int→Prop:=Wset x.shown x.err x.bare x.deep ⟨x.alo,x.ahi⟩ ⟨x.rlo,x.rhi⟩ ⟨t.klo,t.khi⟩ ⟨t.llo,t.lhi⟩ ⟨t.slo,t.shi⟩
noncomputable def wr (t:Tb) (x:Rdg):Rg:=rangeOf (WS t x)
/-- the last day of an ice by then -/
def lastOf (ices:List Ice) (day:Int):Int:=ices.foldl (fun m x=>bif decide (x.day≤day) then max m x.day else m) 0
def staleB (term:Int) (ices:List Ice) (day:Int):Bool:=decide (term<day-lastOf ices day)
noncomputable def vP (t:Tb) (h:List Rg) (ices:List Ice):Int:=bif decide (uA t≠0) then uA t else lifeE h ices
noncomputable def yY (t:Tb) (h:List Rg) (ices:List Ice) (x:Rdg):Int:=bif decide (vP t h ices≠0) then vP t h ices else bif !vX ((h.length:Nat):Int) x then 2 else 0
noncomputable def vE (t:Tb) (h:List Rg) (ices:List Ice) (x:Rdg):Int:=bif x.broken then 8 else bif staleB t.term ices x.day then 11 else bif !agrB t.glass h ices then 9 else 0
noncomputable def yR (t:Tb) (h:List Rg) (ices:List Ice) (x:Rdg):Rg:=⟨(wr t x).lo-(vN (zl t.glass h ices) x.day.toNat).hi,(wr t x).hi-(vN (zl t.glass h ices) x.day.toNat).lo⟩
theorem useE_zero {t:Tb} {h:List Rg} {ices:List Ice} (e:vP t h ices=0):uA t=0∧lifeE h ices=0:=by
  unfold vP at e
  by_cases hg:uA t=0
  · rw [decide_eq_false (by simpa using hg)] at e;exact ⟨hg,e⟩
  · rw [decide_eq_true hg] at e;exact absurd e hg
theorem lifeE_zero {h:List Rg} {ices:List Ice} (e:lifeE h ices=0):HistOk h∧IcesOk h ices:=by
  unfold lifeE at e
  by_cases hg:histE h=0
  · rw [decide_eq_false (by simpa using hg)] at e;exact ⟨histE_ok hg,icesE_ok e⟩
  · rw [decide_eq_true hg] at e;exact absurd e hg
theorem askE_zero {t:Tb} {h:List Rg} {ices:List Ice} {x:Rdg} (e:yY t h ices x=0):vP t h ices=0∧vX ((h.length:Nat):Int) x=true:=by
  unfold yY at e
  by_cases hg:vP t h ices=0
  · rw [decide_eq_false (by simpa using hg)] at e
    cases hb:vX ((h.length:Nat):Int) x
    · rw [hb] at e;simp at e
    · exact ⟨hg,rfl⟩
  · rw [decide_eq_true hg] at e;exact absurd e hg
theorem WS_is {t:Tb} {x:Rdg} {lo hi:Int} {l:List Rg} (hl:l=sixteen (fun k g s r=>vA x.shown x.err x.bare x.alo x.ahi x.deep k g s r) t.klo t.khi t.llo t.lhi t.slo t.shi x.rlo x.rhi) (h:Hull l lo hi) (ht:TbR t) (hx:RdR x):wr t x=⟨lo,hi⟩:=by
  unfold TbR RdR at *
  exact rangeOf_is (hull_isR hl h (by omega) (by omega) (by omega) (by omega) (by omega) (by omega) (by omega) (by omega))
theorem hull_ex : ∀ l:List Rg,l≠[]→∃ lo hi,Hull l lo hi
  | [],h=>absurd rfl h
  | [q],_=>⟨q.lo,q.hi,hull_one rfl rfl⟩
  | q :: q' :: l,_=>by
    obtain ⟨lo,hi,⟨⟨a,ha,ea⟩,⟨b,hb,eb⟩,hall⟩⟩:=hull_ex (q' :: l) (by simp)
    refine ⟨min q.lo lo,max q.hi hi,?_,?_,?_⟩
    · by_cases hc:q.lo≤lo
      · exact ⟨q,by simp,by omega⟩
      · exact ⟨a,List.mem_cons_of_mem _ ha,by omega⟩
    · by_cases hc:hi≤q.hi
      · exact ⟨q,by simp,by omega⟩
      · exact ⟨b,List.mem_cons_of_mem _ hb,by omega⟩
    · intro x hx
      rcases List.mem_cons.1 hx with rfl | hx
      · omega
      · have:=hall x hx;omega
theorem wr_is {t:Tb} {x:Rdg} (ht:TbR t) (hx:RdR x):IsR (WS t x) (wr t x):=by
  obtain ⟨lo,hi,hh⟩:=hull_ex (sixteen (fun k g s r=>vA x.shown x.err x.bare x.alo x.ahi x.deep k g s r) t.klo t.khi t.llo t.lhi t.slo t.shi x.rlo x.rhi) (by simp [sixteen])
  unfold TbR RdR at *
  exact rangeOf_spec (hull_isR rfl hh (by omega) (by omega) (by omega) (by omega) (by omega) (by omega) (by omega) (by omega))
end Men
namespace Men
open Go Go.Mw
theorem wP_in {k lag sq shown bare deep air rate off:Int} (h:((0≤k∧k≤20)∧(0≤lag∧lag≤5)∧(0≤sq∧sq≤3))∧((-5000≤shown∧shown≤5000)∧(0≤bare∧bare≤300)∧(0≤deep∧deep≤20))∧(-100≤air∧air≤100)∧(-20≤rate∧rate≤20)∧(-20≤off∧off≤20)) : -37000000≤zG k lag sq shown bare deep air rate off∧zG k lag sq shown bare deep air rate off≤37000000:=by
  have ml:=mulin (a:=rate) (b:=lag) (A:=20) (B:=5) (by omega) (by omega)
  have ms:=mulin (a:=-sq) (b:=deep) (A:=3) (B:=20) (by omega) (by omega)
  have m1:=mulin (a:=k) (b:=bare) (A:=20) (B:=300) (by omega) (by omega)
  have m2:=mulin (a:=k*bare) (b:=shown-10*air) (A:=6000) (B:=6000) (by omega) (by omega)
  have sp : -36000000≤yC k bare shown air∧yC k bare shown air≤36000000:=ediv_in (by omega) (by omega)
  unfold zG
  omega
theorem WS_in {t:Tb} {x:Rdg} (ht:TbR t) (hx:RdR x) {n:Int} (h:WS t x n) : -37000000≤n∧n≤37000000:=by
  obtain ⟨k,lag,sq,air,rate,off,h1,h2,h3,h4,h5,h6,rfl⟩:=h
  unfold Rg.has at *
  simp only at h1 h2 h3 h4 h5
  unfold TbR RdR at *
  exact wP_in (by omega)
theorem wr_in {t:Tb} {x:Rdg} (ht:TbR t) (hx:RdR x):(-37000000≤(wr t x).lo∧(wr t x).lo≤(wr t x).hi∧(wr t x).hi≤37000000):=by
  obtain ⟨h1,h2,h3⟩:=wr_is ht hx
  have g1:=WS_in ht hx h1
  have g2:=WS_in ht hx h2
  have:=h3 _ h1
  omega
theorem least_ex {S:Int→Prop} {B:Int} (hb : ∀ z,S z→B≤z) {z:Int} (hz:S z) : ∃ m,S m∧∀ y,S y→m≤y:=by
  have key : ∀ n:Nat,∀ z,S z→(z-B).toNat=n→∃ m,S m∧∀ y,S y→m≤y:=by
    intro n
    induction n using Nat.strongRecOn with
    | _ n ih =>
      intro z hz hn
      by_cases h : ∃ y,S y∧y<z
      · obtain ⟨y,hy,hlt⟩:=h
        exact ih (y-B).toNat (by have:=hb y hy;have:=hb z hz;omega) y hy rfl
      · exact ⟨z,hz,fun y hy=>by
          rcases Int.lt_or_le y z with hlt | hge
          · exact absurd ⟨y,hy,hlt⟩ h
          · exact hge⟩
  exact key _ z hz rfl
theorem isR_ex {S:Int→Prop} {A B:Int} (hb : ∀ z,S z→A≤z∧z≤B) {z:Int} (hz:S z) : ∃ r,IsR S r:=by
  obtain ⟨lo,h1,h2⟩:=least_ex (fun z hz=>(hb z hz).1) hz
  obtain ⟨hi,h3,h4⟩:=least_ex (S:=fun z=>S (-z)) (B:=-B) (fun z hz=>by have:=(hb _ hz).2;omega) (z:=-z) (by rw [Int.neg_neg];exact hz)
  exact ⟨⟨lo,-hi⟩,h1,h3,fun y hy=>⟨h2 y hy,by have:=h4 (-y) (by rw [Int.neg_neg];exact hy);simp only;omega⟩⟩
theorem Zset_in {g:Glass} (o:GlassOk g) {h:List Rg} (hl:h.length≤16) {ices:List Ice} {d:Nat} (hd:d<h.length) {z:Int} (hz:Zset g h ices d z) : -1030≤z∧z≤1048:=by
  obtain ⟨t,ht,rfl⟩:=hz
  have h1:=R.bounds o ht.r
  have h2:=o.base
  unfold Glass.zero
  omega
theorem zeros_ex {g:Glass} (o:GlassOk g) {h:List Rg} (hl:h.length≤16) {ices:List Ice} (ha:Agree g h ices):ZerosAre g h ices (zl g h ices):=by
  refine ⟨zl_len ha,fun d hd=>?_⟩
  obtain ⟨t,ht⟩:=ha.back (d:=d+1) (by omega)
  obtain ⟨r,hr⟩:=isR_ex (S:=Zset g h ices d) (fun z hz=>Zset_in o hl hd hz) (z:=g.zero t) ⟨t,ht,rfl⟩
  have:vN (zl g h ices) d=r:=by
    unfold zl vN
    rw [if_pos ha]
    simp [List.getD,hd,rangeOf_is hr]
  rw [this];exact hr
theorem zl_at {g:Glass} (o:GlassOk g) {h:List Rg} (hl:h.length≤16) {ices:List Ice} (ha:Agree g h ices) {d:Int} (h0:0≤d) (hd:d<h.length) : ∃ z,(zl g h ices)[d.toNat]? = some z∧vN (zl g h ices) d.toNat=z∧IsR (Zset g h ices d.toNat) z∧(-1030≤z.lo∧z.lo≤z.hi∧z.hi≤1048):=by
  have hlen:=zl_len ha
  have hz:=(zeros_ex o hl ha).2 d.toNat (by omega)
  have hlt:d.toNat<(zl g h ices).length:=by omega
  have e:vN (zl g h ices) d.toNat=(zl g h ices)[d.toNat]:=by unfold vN;simp [List.getD,hlt]
  refine ⟨(zl g h ices)[d.toNat],by simp [hlt],e,e ▸ hz,?_⟩
  rw [e] at hz
  have h1:=Zset_in o hl (by omega) hz.1
  have h2:=Zset_in o hl (by omega) hz.2.1
  have h3:=hz.2.2 _ hz.1
  omega
noncomputable abbrev icedEt (t:Tb) (h:List Rg) (ices:List Ice):Int:=icedE t.base t.bs t.dl t.blo t.bhi h ices
open Classical in
noncomputable def zsE (t:Tb) (h:List Rg) (ices:List Ice):List Rg:=if icedEt t h ices=0 then zl t.glass h ices else []
noncomputable def zerE (t:Tb) (h:List Rg) (ices:List Ice):Int:=bif decide (icedEt t h ices≠0) then icedEt t h ices else bif agrB t.glass h ices then 0 else 9
theorem zsE_no {t:Tb} {h:List Rg} {ices:List Ice} (e:icedEt t h ices≠0):zsE t h ices=[]∧zerE t h ices=icedEt t h ices:=by
  unfold zsE zerE
  rw [if_neg e,decide_eq_true e];exact ⟨rfl,rfl⟩
theorem zsE_dis {t:Tb} {h:List Rg} {ices:List Ice} (e:icedEt t h ices=0) (ha : ¬ Agree t.glass h ices):zsE t h ices=[]∧zerE t h ices=9:=by
  unfold zsE zerE
  rw [if_pos e,decide_eq_false (fun h=>h e),zl_no ha,agrB_false.2 ha];exact ⟨rfl,rfl⟩
theorem zsE_yes {t:Tb} {h:List Rg} {ices:List Ice} {zs:List Rg} (e:icedEt t h ices=0) (ha:Agree t.glass h ices) (hz:ZerosAre t.glass h ices zs):zsE t h ices=zs∧zerE t h ices=0:=by
  unfold zsE zerE
  rw [if_pos e,decide_eq_false (fun h=>h e),zl_of ha hz,agrB_true.2 ha];exact ⟨rfl,rfl⟩
theorem use_bad {t:Tb} {h:List Rg} {ices:List Ice} (ht:uA t=0) (h0:zerE t h ices≠0) (h9:zerE t h ices≠9):vP t h ices=zerE t h ices∧vP t h ices≠0:=by
  have hl:=icedE_life (h:=h) (ices:=ices) (tubeEt_zero ht).1
  have hu:vP t h ices=lifeE h ices:=by unfold vP;rw [decide_eq_false (fun h=>h ht)];rfl
  by_cases e:icedEt t h ices=0
  · unfold zerE at h0 h9
    rw [decide_eq_false (fun h=>h e)] at h0 h9
    cases hb:agrB t.glass h ices <;>rw [hb] at h0 h9 <;>simp at h0 h9
  · have:=(zsE_no e).2
    rw [hu,this]
    exact ⟨hl.symm,by rw [← hl];exact e⟩
theorem use_good {t:Tb} {h:List Rg} {ices:List Ice} (ht:uA t=0) (h0:zerE t h ices=0∨zerE t h ices=9):vP t h ices=0∧zsE t h ices=zl t.glass h ices:=by
  have hl:=icedE_life (h:=h) (ices:=ices) (tubeEt_zero ht).1
  have hu:vP t h ices=lifeE h ices:=by unfold vP;rw [decide_eq_false (fun h=>h ht)];rfl
  by_cases e:icedEt t h ices=0
  · rw [hu,← hl]
    exact ⟨e,by unfold zsE;rw [if_pos e]⟩
  · have h1:=(zsE_no e).2
    have h2:=icedE_vals t.base t.bs t.dl t.blo t.bhi h ices
    unfold icedEt at e h1
    omega
theorem use_tube {t:Tb} {h:List Rg} {ices:List Ice} (ht:uA t≠0):vP t h ices=uA t:=by unfold vP;rw [decide_eq_true ht];rfl
theorem ask_use {t:Tb} {h:List Rg} {ices:List Ice} {x:Rdg} (hu:vP t h ices≠0):yY t h ices x=vP t h ices:=by unfold yY;rw [decide_eq_true hu];rfl
theorem ask_bad {t:Tb} {h:List Rg} {ices:List Ice} {x:Rdg} (hu:vP t h ices=0) (hb:vX ((h.length:Nat):Int) x=false):yY t h ices x=2:=by unfold yY;rw [decide_eq_false (fun h=>h hu),hb];rfl
theorem ask_good {t:Tb} {h:List Rg} {ices:List Ice} {x:Rdg} (hu:vP t h ices=0) (hb:vX ((h.length:Nat):Int) x=true):yY t h ices x=0:=by unfold yY;rw [decide_eq_false (fun h=>h hu),hb];rfl
theorem last_yes {ices:List Ice} {day n m:Int} {e:Ice} (h0:0≤n) (he:ices[n.toNat]? = some e) (hm:m=lastOf (ices.take n.toNat) day) (hd:e.day≤day):vB [m,e.day]=lastOf (ices.take (n+1).toNat) day:=by
  unfold lastOf at *
  rw [fold_take h0 he,← hm,decide_eq_true hd];rfl
theorem last_no {ices:List Ice} {day n m:Int} {e:Ice} (h0:0≤n) (he:ices[n.toNat]? = some e) (hm:m=lastOf (ices.take n.toNat) day) (hd : ¬ e.day≤day):m=lastOf (ices.take (n+1).toNat) day:=by
  unfold lastOf at *
  rw [fold_take h0 he,← hm,decide_eq_false hd];rfl
theorem last_end {ices:List Ice} {day n m:Int} (hn:(ices.length:Int)≤n) (hm:m=lastOf (ices.take n.toNat) day):m=lastOf ices day:=by rw [List.take_of_length_le (by omega)] at hm;exact hm
theorem last_in {ices:List Ice} (hi : ∀ i∈ices,0≤i.day∧i.day≤100) (day:Int) : ∀ n:Nat,0≤lastOf (ices.take n) day∧lastOf (ices.take n) day≤100:=by
  intro n
  have key : ∀ (l:List Ice) (m:Int),(∀ i∈l,0≤i.day∧i.day≤100)→0≤m∧m≤100→0≤l.foldl (fun m x=>bif decide (x.day≤day) then max m x.day else m) m∧l.foldl (fun m x=>bif decide (x.day≤day) then max m x.day else m) m≤100:=by
    intro l
    induction l with
    | nil=>intro m _ h;exact h
    | cons x l ih =>
      intro m hl hm
      rw [List.foldl_cons]
      refine ih _ (fun i h=>hl i (List.mem_cons_of_mem _ h)) ?_
      have:=hl x (by simp)
      cases decide (x.day≤day) <;>simp only [cond_true,cond_false] <;>omega
  exact key _ 0 (fun i h=>hi i (List.mem_of_mem_take h)) (by omega)
noncomputable def corE (t:Tb) (h:List Rg) (ices:List Ice) (x:Rdg):Int:=bif decide (yY t h ices x≠0) then yY t h ices x else vE t h ices x
noncomputable def yK (t:Tb) (h:List Rg) (ices:List Ice) (x:Rdg):Rg:=bif decide (corE t h ices x≠0) then ⟨0,0⟩ else yR t h ices x
noncomputable def vV (t:Tb) (h:List Rg) (ices:List Ice) (x:Rdg) (most:Int):Int:=bif decide (yY t h ices x≠0) then yY t h ices x else bif decide (most<0) then 2 else vE t h ices x
theorem refE_zero {t:Tb} {h:List Rg} {ices:List Ice} {x:Rdg} (e:vE t h ices x=0):x.broken=false∧staleB t.term ices x.day=false∧Agree t.glass h ices:=by
  unfold vE at e
  cases h1:x.broken <;>rw [h1] at e <;>simp only [cond_true,cond_false] at e
  · cases h2:staleB t.term ices x.day <;>rw [h2] at e <;>simp only [cond_true,cond_false] at e
    · cases h3:agrB t.glass h ices <;>rw [h3] at e <;>simp at e
      exact ⟨rfl,rfl,agrB_true.1 h3⟩
    · omega
  · omega
/-- of a reading that is accepted -/
structure Vld (t:Tb) (h:List Rg) (ices:List Ice) (x:Rdg):Prop where
  g:GlassOk t.glass
  tb:TbR t
  tm:0≤t.term∧t.term≤16
  hi:HistOk h
  ic:IcesOk h ices
  day:0≤x.day∧x.day<h.length
  rd:RdR x
theorem ask_Good {t:Tb} {h:List Rg} {ices:List Ice} {x:Rdg} (e:yY t h ices x=0):Vld t h ices x:=by
  obtain ⟨hu,hb⟩:=askE_zero e
  obtain ⟨ht,hl⟩:=useE_zero hu
  have h1:=tubeEt_zero ht
  have h2:=lifeE_zero hl
  have h3:=readBx_iff.1 hb
  exact ⟨h1.2.1,h1.2.2.1,h1.2.2.2,h2.1,h2.2,by omega,h3.2⟩
theorem corR_is {t:Tb} {h:List Rg} {ices:List Ice} {x:Rdg} {z:Rg} (hz:vN (zl t.glass h ices) x.day.toNat=z):yR t h ices x=⟨(wr t x).lo-z.hi,(wr t x).hi-z.lo⟩:=by unfold yR;rw [hz]
theorem corR_in {t:Tb} {h:List Rg} {ices:List Ice} {x:Rdg} (G:Vld t h ices x) (ha:Agree t.glass h ices) : -40000000≤(yR t h ices x).lo∧(yR t h ices x).lo≤(yR t h ices x).hi∧(yR t h ices x).hi≤40000000:=by
  obtain ⟨z,_,h2,_,h4⟩:=zl_at G.g G.hi.len ha G.day.1 G.day.2
  have:=wr_in G.tb G.rd
  rw [corR_is h2]
  simp only
  omega
/-- the greatest number up to some, of a kind -/
def lastN (P:Int→Bool):Nat→Int
  | 0=>bif P 0 then 0 else -1
  | n+1=>bif P ((n+1:Nat):Int) then ((n+1:Nat):Int) else lastN P n
abbrev Rdg.bared (x:Rdg) (n:Int):Rdg:={ x with bare:=n }
noncomputable def sureB (t:Tb) (h:List Rg) (ices:List Ice) (x:Rdg) (most n:Int):Bool:=decide ((yR t h ices (x.bared n)).hi-(yR t h ices (x.bared n)).lo≤most)
noncomputable def bareN (t:Tb) (h:List Rg) (ices:List Ice) (x:Rdg) (most:Int):Int:=lastN (sureB t h ices x most) 300
theorem lastN_no {P:Int→Bool} {n:Nat} (h:P ((n+1:Nat):Int)=false):lastN P (n+1)=lastN P n:=by unfold lastN;rw [h];simp only [cond_false];cases n <;>rfl
theorem lastN_yes {P:Int→Bool} {n:Nat} (h:P (n:Int)=true):lastN P n=n:=by
  cases n with
  | zero=>unfold lastN;rw [show ((0:Nat):Int)=0 from rfl] at h;rw [h];rfl
  | succ n=>unfold lastN;rw [h];rfl
theorem lastN_zero {P:Int→Bool} (h:P 0=false):lastN P 0 = -1:=by unfold lastN;rw [h];rfl
end Men
namespace Go.Proofs.YthfnjppieihcfaaGreat
open Go.RowKit Go.Proofs Go.Mw
theorem en36:Go.Proofs.Enters Tryz.prog 36:=Go.Proofs.enters_of Tryz.func36 (by kernel_rfl) rfl
theorem en67:Go.Proofs.Enters Tryz.prog 67:=Go.Proofs.enters_of Tryz.func67 (by kernel_rfl) rfl
theorem en82:Go.Proofs.Enters Tryz.prog 82:=Go.Proofs.enters_of Tryz.func82 (by kernel_rfl) rfl
theorem en83:Go.Proofs.Enters Tryz.prog 83:=Go.Proofs.enters_of Tryz.func83 (by kernel_rfl) rfl
theorem sz116 : ∀ w,(sizeOf 116).run Tryz.prog w = .ok 15 w:=fun _=>by kernel_rfl
theorem ta116:TA Tryz.prog 116 15:=⟨Tryz.isAgg116,fun _=>by kernel_rfl⟩
theorem zv116:ZV Tryz.prog 116 (.agg #[(i 0),(.slice none 0 0),(.slice none 0 0),(i 0),(i 0),(i 0),(i 0),(i 0),(i 0),(i 0),(i 0),(i 0),(.slice none 0 0),(.slice none 0 0),(.slice none 0 0)]):=Tryz.zeroValue116
open Men
abbrev tbC (t:Tb) (ab:Option Addr) (cab:Nat) (ad:Option Addr) (cad:Nat):List Value:=[ i t.base,.slice ab t.bs.length cab,.slice ad t.dl.length cad,i t.blo,i t.bhi,i t.klo,i t.khi,i t.llo,i t.lhi,i t.slo,i t.shi,i t.term]
noncomputable abbrev zX (t:Tb) (h:List Rg) (ices:List Ice) (ab:Option Addr) (cab:Nat) (ad:Option Addr) (cad:Nat) (ah:Option Addr) (cah:Nat) (ai:Option Addr) (cai:Nat) (az:Option Addr) (caz:Nat):List Value:=[ i t.base,.slice ab t.bs.length cab,.slice ad t.dl.length cad,i t.blo,i t.bhi,i t.klo,i t.khi,i t.llo,i t.lhi,i t.slo,i t.shi,i t.term,.slice ah h.length cah,.slice ai ices.length cai,.slice az ((zl t.glass h ices).length) caz]
abbrev rdC (x:Rdg):List Value:=[ i x.day,i x.shown,i x.err,i x.bare,i x.alo,i x.ahi,i x.rlo,i x.rhi,i x.deep,.bool x.broken]
abbrev lkC (t:Tb) (x:Rdg) (ab:Option Addr) (cab:Nat) (ad:Option Addr) (cad:Nat):List Value:=[ i t.base,.slice ab t.bs.length cab,.slice ad t.dl.length cad,i t.blo,i t.bhi,i t.klo,i t.khi,i t.llo,i t.lhi,i t.slo,i t.shi,i t.term,i x.day,i x.shown,i x.err,i x.bare,i x.alo,i x.ahi,i x.rlo,i x.rhi,i x.deep,.bool x.broken]
abbrev zuC:List Value:=[ i 0,.slice none 0 0,.slice none 0 0,i 0,i 0,i 0,i 0,i 0,i 0,i 0,i 0,i 0,.slice none 0 0,.slice none 0 0,.slice none 0 0]
theorem c36 {t:Tb} {ab ad ah ai:Option Addr} {h:List Rg} {ices:List Ice} {cab cad cah cai:Nat} (w:World) (hab:Sl w 3 (t.bs.map yH) ab) (had:Sl w 2 (t.dl.map zZ) ad) (hah:Sl w 2 (h.map rgV) ah) (hai:Sl w 3 (ices.map iceV) ai) (hhl:h.length≤4611686018427387904) (hil:ices.length≤4611686018427387904):Ret Tryz.prog 36 [(.agg #[(i t.base),(.slice ab t.bs.length cab),(.slice ad t.dl.length cad),(i t.blo),(i t.bhi)]),(.slice ah h.length cah),(.slice ai ices.length cai)] w fun v w'=>∃ a c b ob,v = .tuple #[.slice a (zsE t h ices).length c,i (zerE t h ices)]∧S Nm w [(b,ob)] w'∧InB b ob 2 ((zsE t h ices).map rgV) a:=by
  refine Ret.body (N:=30) Tryz.func36 rfl Tryz.ntmps36 rfl ?_
  have H:=S.start Nm w
  refine Wp.seq (Wp.region ?_)
  refine Ro.d rfl rfl rfl (H.box (l:=[i t.base,.slice ab t.bs.length cab,.slice ad t.dl.length cad,i t.blo,i t.bhi]) rfl (v:=(.agg #[(i t.base),(.slice ab t.bs.length cab),(.slice ad t.dl.length cad),(i t.blo),(i t.bhi)])) rfl rfl ?_)
  intro b1 w2 Hn;replace H:=Hn;clear Hn
  refine Ro.q (v:=(.slice none 0 0)) rfl rfl (zD rfl) rfl ?_
  refine Ro.q (v:=(i 0)) rfl rfl (zD rfl) rfl ?_
  refine Ro.nil (nT (Wp.seq (Wp.region ?_)))
  refine Ro.q rfl rfl (zJ ta43 rfl (H.cells 0 rfl) (j:=0) rfl (vs:=[i t.base,.slice ab t.bs.length cab,.slice ad t.dl.length cad,i t.blo,i t.bhi]) rfl rfl) rfl ?_
  refine Ro.q (v:=(.slice ah h.length cah)) rfl rfl (zB rfl) rfl ?_
  refine Ro.q (v:=(.slice ai ices.length cai)) rfl rfl (zB rfl) rfl ?_
  refine Ro.d rfl rfl rfl (zH rfl en82 (ce (v:=(.agg #[(i t.base),(.slice ab t.bs.length cab),(.slice ad t.dl.length cad),(i t.blo),(i t.bhi)])) rfl (ce (v:=(.slice ah h.length cah)) rfl (ce (v:=(.slice ai ices.length cai)) rfl cn))) (c82 _ (hab.ext H.keep) (had.ext H.keep) (hah.ext H.keep) (hai.ext H.keep) hhl hil) ?_)
  rintro u w3 k4 (⟨h0,rfl⟩ | ⟨h0,rfl⟩)
  · skip
    replace H:=H.ext k4
    obtain ⟨oG,oH,oI⟩:=icedE_zero h0
    refine Ro.q (v:=(.tuple #[(.agg #[(i t.base),(.slice ab t.bs.length cab),(.slice ad t.dl.length cad),(i t.blo),(i t.bhi),(.slice ah h.length cah),(.slice ai ices.length cai)]),(i 0)])) rfl rfl (zB rfl) rfl ?_
    refine Ro.q (v:=(.agg #[(i t.base),(.slice ab t.bs.length cab),(.slice ad t.dl.length cad),(i t.blo),(i t.bhi),(.slice ah h.length cah),(.slice ai ices.length cai)])) rfl rfl (zO rfl (j:=0) rfl) rfl ?_
    refine Ro.q (v:=(i 0)) rfl rfl (zO rfl (j:=1) rfl) rfl ?_
    refine Ro.d rfl rfl rfl (H.new (l:=[i 0,.slice none 0 0,.slice none 0 0,i 0,i 0,.slice none 0 0,.slice none 0 0]) rfl zv153 rfl ?_)
    intro b6 w7 Hn;replace H:=Hn;clear Hn
    refine Ro.d0 rfl rfl rfl (H.store (j:=0) (off:=0) (k:=7) rfl sz153 rfl (v:=(.agg #[(i t.base),(.slice ab t.bs.length cab),(.slice ad t.dl.length cad),(i t.blo),(i t.bhi),(.slice ah h.length cah),(.slice ai ices.length cai)])) rfl rfl rfl rfl rfl (by simp [Value.oneCell']) (cs':=[i t.base,.slice ab t.bs.length cab,.slice ad t.dl.length cad,i t.blo,i t.bhi,.slice ah h.length cah,.slice ai ices.length cai]) rfl ?_)
    intro w8 Hn;replace H:=Hn;clear Hn
    refine Ro.q (v:=(i 0)) rfl rfl (zD rfl) rfl ?_
    refine Ro.nil (nT (Wp.seq (Wp.seq (Wp.region ?_))))
    refine Ro.q (v:=(i 0)) rfl rfl (zB rfl) rfl ?_
    refine Ro.q (v:=(.bool false)) rfl rfl (Runs.to (vW rfl rfl) (by rfl)) rfl ?_
    refine Ro.nil (nT ?_)
    refine Wp.condF rfl ?_
    refine Wp.skip (nT (Wp.seq (Wp.region ?_)))
    refine Ro.q rfl rfl (zJ ta153 rfl (H.cells 0 rfl) (j:=0) rfl (vs:=[i t.base,.slice ab t.bs.length cab,.slice ad t.dl.length cad,i t.blo,i t.bhi,.slice ah h.length cah,.slice ai ices.length cai]) rfl rfl) rfl ?_
    refine Ro.d rfl rfl rfl (zH rfl en83 (ce (v:=(.agg #[(i t.base),(.slice ab t.bs.length cab),(.slice ad t.dl.length cad),(i t.blo),(i t.bhi),(.slice ah h.length cah),(.slice ai ices.length cai)])) rfl cn) (c83 _ (hab.ext H.keep) (had.ext H.keep) (hah.ext H.keep) (hai.ext H.keep) oG oH oI) ?_)
    have Hc11:=H
    rintro u w9 k10 (⟨ha,a,c,zs,b,ob,rfl,hS,hz,hZ⟩ | ⟨ha,rfl⟩)
    · skip
      replace H:=H.ext k10
      replace H:S Nm w [(b,ob),(b6,.cells [i t.base,.slice ab t.bs.length cab,.slice ad t.dl.length cad,i t.blo,i t.bhi,.slice ah h.length cah,.slice ai ices.length cai].toArray 153 (0,0)),(b1,.cells [i t.base,.slice ab t.bs.length cab,.slice ad t.dl.length cad,i t.blo,i t.bhi].toArray 43 (0,0))] w9:=Hc11.join hS
      refine Ro.q (v:=(.tuple #[(.slice a h.length c),(.bool true)])) rfl rfl (zB rfl) rfl ?_
      refine Ro.q (v:=(.slice a h.length c)) rfl rfl (zO rfl (j:=0) rfl) rfl ?_
      refine Ro.q (v:=(.bool true)) rfl rfl (zO rfl (j:=1) rfl) rfl ?_
      refine Ro.q (v:=(.slice a h.length c)) rfl rfl (zD rfl) rfl ?_
      refine Ro.q (v:=(.bool true)) rfl rfl (zD rfl) rfl ?_
      refine Ro.nil (nT (Wp.seq (Wp.seq (Wp.region ?_))))
      refine Ro.q (v:=(.bool true)) rfl rfl (zB rfl) rfl ?_
      refine Ro.q (v:=(.bool false)) rfl rfl (Runs.to (yN rfl) (by rfl)) rfl ?_
      refine Ro.nil (nT ?_)
      refine Wp.condF rfl ?_
      refine Wp.skip (nT (Wp.seq (Wp.region ?_)))
      refine Ro.q (v:=(.slice a h.length c)) rfl rfl (zB rfl) rfl ?_
      refine Ro.q (v:=(.slice a h.length c)) rfl rfl (zD rfl) rfl ?_
      refine Ro.q (v:=(i 0)) rfl rfl (zD rfl) rfl ?_
      refine Ro.nil (nT (Wp.ret (zN ?_)))
      refine vT (v:=(.slice a h.length c)) (v':=(i 0)) Tryz.results36 rfl rfl ⟨H.keep,?_⟩
      have e:=zsE_yes (t:=t) h0 ha hZ
      exact ⟨a,c,b,ob,by rw [e.1,e.2,hZ.1],H.one 0 rfl,by rw [e.1];exact hz⟩
    · skip
      replace H:=H.ext k10
      refine Ro.q (v:=(.tuple #[(.slice none 0 0),(.bool false)])) rfl rfl (zB rfl) rfl ?_
      refine Ro.q (v:=(.slice none 0 0)) rfl rfl (zO rfl (j:=0) rfl) rfl ?_
      refine Ro.q (v:=(.bool false)) rfl rfl (zO rfl (j:=1) rfl) rfl ?_
      refine Ro.q (v:=(.slice none 0 0)) rfl rfl (zD rfl) rfl ?_
      refine Ro.q (v:=(.bool false)) rfl rfl (zD rfl) rfl ?_
      refine Ro.nil (nT (Wp.seq (Wp.seq (Wp.region ?_))))
      refine Ro.q (v:=(.bool false)) rfl rfl (zB rfl) rfl ?_
      refine Ro.q (v:=(.bool true)) rfl rfl (Runs.to (yN rfl) (by rfl)) rfl ?_
      refine Ro.nil (nT ?_)
      refine Wp.condT rfl ?_
      refine Wp.seq (Wp.region ?_)
      refine Ro.q (v:=(.slice none 0 0)) rfl rfl (zD rfl) rfl ?_
      refine Ro.q (v:=(i 9)) rfl rfl (zD rfl) rfl ?_
      refine Ro.nil (nT (Wp.ret (rT (zN ?_))))
      refine vT (v:=(.slice none 0 0)) (v':=(i 9)) Tryz.results36 rfl rfl ⟨H.keep,?_⟩
      have e:=zsE_dis (t:=t) h0 ha
      exact ⟨none,0,_,_,by rw [e.1,e.2];rfl,H.one 0 rfl,by rw [e.1];exact InB.nil rfl⟩
  · skip
    replace H:=H.ext k4
    refine Ro.q (v:=(.tuple #[(.agg #[(i 0),(.slice none 0 0),(.slice none 0 0),(i 0),(i 0),(.slice none 0 0),(.slice none 0 0)]),(i (icedEt t h ices))])) rfl rfl (zB rfl) rfl ?_
    refine Ro.q (v:=(.agg #[(i 0),(.slice none 0 0),(.slice none 0 0),(i 0),(i 0),(.slice none 0 0),(.slice none 0 0)])) rfl rfl (zO rfl (j:=0) rfl) rfl ?_
    refine Ro.q (v:=(i (icedEt t h ices))) rfl rfl (zO rfl (j:=1) rfl) rfl ?_
    refine Ro.d rfl rfl rfl (H.new (l:=[i 0,.slice none 0 0,.slice none 0 0,i 0,i 0,.slice none 0 0,.slice none 0 0]) rfl zv153 rfl ?_)
    intro b12 w13 Hn;replace H:=Hn;clear Hn
    refine Ro.d0 rfl rfl rfl (H.store (j:=0) (off:=0) (k:=7) rfl sz153 rfl (v:=(.agg #[(i 0),(.slice none 0 0),(.slice none 0 0),(i 0),(i 0),(.slice none 0 0),(.slice none 0 0)])) rfl rfl rfl rfl rfl (by simp [Value.oneCell']) (cs':=[i 0,.slice none 0 0,.slice none 0 0,i 0,i 0,.slice none 0 0,.slice none 0 0]) rfl ?_)
    intro w14 Hn;replace H:=Hn;clear Hn
    refine Ro.q (v:=(i (icedEt t h ices))) rfl rfl (zD rfl) rfl ?_
    refine Ro.nil (nT (Wp.seq (Wp.seq (Wp.region ?_))))
    refine Ro.q (v:=(i (icedEt t h ices))) rfl rfl (zB rfl) rfl ?_
    refine Ro.q rfl rfl (vW rfl rfl) rfl ?_
    refine Ro.nil (nT ?_)
    refine Wp.condT (show ev _ _ _=_ from congrArg Value.bool (show decide ((icedEt t h ices)≠0)=true by exact decide_eq_true h0)) ?_
    refine Wp.seq (Wp.region ?_)
    refine Ro.q (v:=(i (icedEt t h ices))) rfl rfl (zB rfl) rfl ?_
    refine Ro.q (v:=(.slice none 0 0)) rfl rfl (zD rfl) rfl ?_
    refine Ro.q (v:=(i (icedEt t h ices))) rfl rfl (zD rfl) rfl ?_
    refine Ro.nil (nT (Wp.ret (rT (zN ?_))))
    refine vT (v:=(.slice none 0 0)) (v':=(i (icedEt t h ices))) Tryz.results36 rfl rfl ⟨H.keep,?_⟩
    have e:=zsE_no (t:=t) h0
    exact ⟨none,0,_,_,by rw [e.1,e.2];rfl,H.one 0 rfl,by rw [e.1];exact InB.nil rfl⟩
theorem c91w {t:Tb} {x:Rdg} {ab ad:Option Addr} {cab cad:Nat} (w:World) (hab:Sl w 3 (t.bs.map yH) ab) (had:Sl w 2 (t.dl.map zZ) ad) (ht:TbR t) (hx:RdR x):Rv Tryz.prog 91 [(.agg (lkC t x ab cab ad cad).toArray)] w (.agg #[i (wr t x).lo,i (wr t x).hi]) :=
  (c91 w hab had ht hx).mono fun v w' k ⟨lo,hi,e,hh⟩=>by
    subst e
    rw [WS_is (t:=t) (x:=x) (by rfl) hh ht hx]
theorem c67 {t:Tb} {ab ad ah ai:Option Addr} {h:List Rg} {ices:List Ice} {cab cad cah cai:Nat} (w:World) (hab:Sl w 3 (t.bs.map yH) ab) (had:Sl w 2 (t.dl.map zZ) ad) (hah:Sl w 2 (h.map rgV) ah) (hai:Sl w 3 (ices.map iceV) ai) (hhl:h.length≤4611686018427387904) (hil:ices.length≤4611686018427387904):Ret Tryz.prog 67 [(.agg (tbC t ab cab ad cad).toArray),(.slice ah h.length cah),(.slice ai ices.length cai)] w fun v w'=>((vP t h ices)=0∧∃ az caz b ob,v=(.tuple #[(.agg (zX t h ices ab cab ad cad ah cah ai cai az caz).toArray),(i 0)])∧S Nm w [(b,ob)] w'∧InB b ob 2 ((zl t.glass h ices).map rgV) az)∨((vP t h ices)≠0∧v=(.tuple #[(.agg (zuC).toArray),(i (vP t h ices))])):=by
  refine Ret.body (N:=38) Tryz.func67 rfl Tryz.ntmps67 rfl ?_
  have H:=S.start Nm w
  refine Wp.seq (Wp.region ?_)
  refine Ro.d rfl rfl rfl (H.box (l:=(tbC t ab cab ad cad)) rfl (v:=(.agg (tbC t ab cab ad cad).toArray)) rfl rfl ?_)
  intro b1 w2 Hn;replace H:=Hn;clear Hn
  refine Ro.d rfl rfl rfl (H.new (l:=zuC) rfl zv116 rfl ?_)
  intro b3 w4 Hn;replace H:=Hn;clear Hn
  refine Ro.q (v:=(i 0)) rfl rfl (zD rfl) rfl ?_
  refine Ro.nil (nT (Wp.seq (Wp.seq (Wp.region ?_))))
  refine Ro.q rfl rfl (zJ ta45 rfl (H.cells 1 rfl) (j:=0) rfl (vs:=(tbC t ab cab ad cad)) rfl rfl) rfl ?_
  refine Ro.d rfl rfl rfl (zH rfl en84 (ce (v:=(.agg (tbC t ab cab ad cad).toArray)) rfl cn) (c84 t.base t.blo t.bhi t.klo t.khi t.llo t.lhi t.slo t.shi t.term _ t.bs _ _ t.dl _ _ (hab.ext H.keep) (had.ext H.keep)) ?_)
  intro u w5 k6 hu;subst hu;replace H:=H.ext k6
  clear k6
  refine Ro.q (v:=(i (uA t))) rfl rfl (zD rfl) rfl ?_
  refine Ro.nil (nT (Wp.seq (Wp.region ?_)))
  refine Ro.q (v:=(i (uA t))) rfl rfl (zB rfl) rfl ?_
  refine Ro.q rfl rfl (vW rfl rfl) rfl ?_
  refine Ro.nil (nT ?_)
  refine Wp.cond (t:=decide ((uA t)≠0)) rfl ?_ ?_
  · intro c7
    have c7r:=c7
    simp only [bx] at c7
    refine Wp.seq (Wp.region ?_)
    refine Ro.q (v:=(.agg (zuC).toArray)) rfl rfl (zP (v:=(.agg (zuC).toArray)) pn (fun w=>by kernel_rfl)) rfl ?_
    refine Ro.q (v:=(i (uA t))) rfl rfl (zB rfl) rfl ?_
    refine Ro.d0 rfl rfl rfl (H.store (j:=0) (off:=0) (k:=15) rfl sz116 rfl (v:=(.agg (zuC).toArray)) rfl rfl rfl rfl rfl (by simp [Value.oneCell']) (cs':=zuC) rfl ?_)
    intro w8 Hn;replace H:=Hn;clear Hn
    refine Ro.q (v:=(i (uA t))) rfl rfl (zD rfl) rfl ?_
    refine Ro.nil (nT (Wp.ret (rT (zN ?_))))
    refine zT (vs:=zuC) (v:=(i (uA t))) Tryz.results67 rfl ta116 (H.cells 0 rfl) rfl rfl ⟨H.keep,?_⟩
    exact .inr ⟨by rw [use_tube c7];exact c7,by rw [use_tube c7]⟩
  intro c7
  have c7r:=c7
  simp only [bx] at c7
  refine Wp.skip (nT (Wp.seq (Wp.region ?_)))
  refine Ro.q (v:=(p b1 0)) rfl rfl (zA fo45_0 rfl rfl) rfl ?_
  refine Ro.q rfl rfl (zJ ta43 rfl (H.cells 1 rfl) (j:=0) rfl (vs:=[i t.base,.slice ab t.bs.length cab,.slice ad t.dl.length cad,i t.blo,i t.bhi]) rfl rfl) rfl ?_
  refine Ro.q (v:=(.slice ah h.length cah)) rfl rfl (zB rfl) rfl ?_
  refine Ro.q (v:=(.slice ai ices.length cai)) rfl rfl (zB rfl) rfl ?_
  refine Ro.d rfl rfl rfl (zH rfl en36 (ce (v:=(.agg #[(i t.base),(.slice ab t.bs.length cab),(.slice ad t.dl.length cad),(i t.blo),(i t.bhi)])) rfl (ce (v:=(.slice ah h.length cah)) rfl (ce (v:=(.slice ai ices.length cai)) rfl cn))) (c36 _ (hab.ext H.keep) (had.ext H.keep) (hah.ext H.keep) (hai.ext H.keep) hhl hil) ?_)
  have Hc11:=H
  rintro u w9 k10 ⟨a,c,b,ob,rfl,hS,hz⟩
  replace H:=H.ext k10
  replace H:S Nm w [(b,ob),(b3,.cells zuC.toArray 116 (0,0)),(b1,.cells (tbC t ab cab ad cad).toArray 45 (0,0))] w9:=Hc11.join hS
  refine Ro.q (v:=(.tuple #[(.slice a ((zsE t h ices).length) c),(i (zerE t h ices))])) rfl rfl (zB rfl) rfl ?_
  refine Ro.q (v:=(.slice a ((zsE t h ices).length) c)) rfl rfl (zO rfl (j:=0) rfl) rfl ?_
  refine Ro.q (v:=(i (zerE t h ices))) rfl rfl (zO rfl (j:=1) rfl) rfl ?_
  refine Ro.q (v:=(.slice a ((zsE t h ices).length) c)) rfl rfl (zD rfl) rfl ?_
  refine Ro.q (v:=(i (zerE t h ices))) rfl rfl (zD rfl) rfl ?_
  refine Ro.nil (nT (Wp.seq (Wp.seq ?_)))
  let qq12:Bool:=decide ((zerE t h ices)≠0)
  let qq13:Bool:=decide ((zerE t h ices)≠9)
  let qq14:Bool:=(qq12 && qq13)
  refine Wp.factsS 6 [is (i (zerE t h ices)),is (.bool qq12),is (.bool qq12),gdv (True∧qq12=true) (i (zerE t h ices)),gdv (True∧qq12=true) (.bool qq13),is (.bool qq14)] (by kernel_rfl) (Mi (Mi (Mi (Mg (Mg (Mi Mono.nil)))))) (fun w' k=>H.ext k) ?_ ?_
  · refine ⟨?_,?_,?_,?_,?_,?_,trivial⟩
    · exact Ob.q rfl (fun _ _ B U D=>(zB (show (_:Value)=(i (zerE t h ices)) from U 10 rfl))) rfl rfl
    · exact Ob.q rfl (fun _ _ B U D=>(vW (D 0 rfl) rfl)) rfl rfl
    · exact Ob.q rfl (fun _ _ B U D=>(zB (D 1 rfl))) rfl rfl
    · exact Ob.g0 rfl rfl (fun _ _ _ D=>D 2 rfl) rfl (fun _ _ B U D hC hg=>(zB (show (_:Value)=(i (zerE t h ices)) from U 10 rfl))) rfl
    · exact Ob.g0 rfl rfl (fun _ _ _ D=>D 2 rfl) rfl (fun _ _ B U D hC hg=>(vW (gdy (D 3 rfl) ⟨hC,hg⟩) rfl)) rfl
    · exact Ob.q rfl (fun _ _ B U D=>(zQ (v:=(.bool qq14)) (D 2 rfl) (fun eP=>(gdy (D 4 rfl) ⟨trivial,eP⟩).trans (yF eP)) (fun eP=>yE eP))) rfl rfl
  intro ρ15 w16 k17 U18 D19;replace H:=H.ext k17
  have f20:ρ15 1=(.slice ah h.length cah):=U18 1 rfl
  have f21:ρ15 2=(.slice ai ices.length cai):=U18 2 rfl
  have f22:ρ15 3=(p b1 0):=U18 3 rfl
  have f23:ρ15 6=(p b3 0):=U18 6 rfl
  have f25:ρ15 9=(.slice a ((zsE t h ices).length) c):=U18 9 rfl
  have f26:ρ15 10=(i (zerE t h ices)):=U18 10 rfl
  have f27:ρ15 30=(.bool qq14):=D19 5 rfl
  clear U18 D19 k17
  refine Ro.nil (nT ?_)
  refine Wp.cond (t:=qq14) f27 ?_ ?_
  · intro c28
    have c28r:(((decide ((zerE t h ices)≠0)) && (decide ((zerE t h ices)≠9))))=true:=c28
    replace c28:=c28r
    simp only [bx] at c28
    refine Wp.seq (Wp.region ?_)
    refine Ro.q (v:=(.agg (zuC).toArray)) rfl rfl (zP (v:=(.agg (zuC).toArray)) pn (fun w=>by kernel_rfl)) rfl ?_
    refine Ro.q (v:=(i (zerE t h ices))) rfl rfl (zB f26) rfl ?_
    refine Ro.d0 rfl rfl rfl (H.store (j:=1) (off:=0) (k:=15) rfl sz116 f23 (v:=(.agg (zuC).toArray)) rfl rfl rfl rfl rfl (by simp [Value.oneCell']) (cs':=zuC) rfl ?_)
    intro w29 Hn;replace H:=Hn;clear Hn
    refine Ro.q (v:=(i (zerE t h ices))) rfl rfl (zD rfl) rfl ?_
    refine Ro.nil (nT (Wp.ret (rT (zN ?_))))
    refine zT (vs:=zuC) (v:=(i (zerE t h ices))) Tryz.results67 f23 ta116 (H.cells 1 rfl) rfl rfl ⟨H.keep,?_⟩
    have ht0:uA t=0:=by omega
    have e:=use_bad (h:=h) (ices:=ices) ht0 c28.1 c28.2
    exact .inr ⟨e.2,by rw [e.1]⟩
  intro c28
  have c28r:(((decide ((zerE t h ices)≠0)) && (decide ((zerE t h ices)≠9))))=false:=c28
  replace c28:=c28r
  simp only [bx] at c28
  refine Wp.skip (nT (Wp.seq (Wp.region ?_)))
  refine Ro.q rfl rfl (zJ ta45 f22 (H.cells 2 rfl) (j:=0) rfl (vs:=(tbC t ab cab ad cad)) rfl rfl) rfl ?_
  refine Ro.q (v:=(.slice ah h.length cah)) rfl rfl (zB f20) rfl ?_
  refine Ro.q (v:=(.slice ai ices.length cai)) rfl rfl (zB f21) rfl ?_
  refine Ro.q (v:=(.slice a ((zsE t h ices).length) c)) rfl rfl (zB f25) rfl ?_
  refine Ro.q (v:=(.agg #[(i t.base),(.slice ab t.bs.length cab),(.slice ad t.dl.length cad),(i t.blo),(i t.bhi),(i t.klo),(i t.khi),(i t.llo),(i t.lhi),(i t.slo),(i t.shi),(i t.term),(.slice ah h.length cah),(.slice ai ices.length cai),(.slice a ((zsE t h ices).length) c)])) rfl rfl (zP (v:=(.agg #[(i t.base),(.slice ab t.bs.length cab),(.slice ad t.dl.length cad),(i t.blo),(i t.bhi),(i t.klo),(i t.khi),(i t.llo),(i t.lhi),(i t.slo),(i t.shi),(i t.term),(.slice ah h.length cah),(.slice ai ices.length cai),(.slice a ((zsE t h ices).length) c)])) (pe (v:=(.agg (tbC t ab cab ad cad).toArray)) rfl (pe (v:=(.slice ah h.length cah)) rfl (pe (v:=(.slice ai ices.length cai)) rfl (pe (v:=(.slice a ((zsE t h ices).length) c)) rfl pn)))) (fun w=>by kernel_rfl)) rfl ?_
  refine Ro.d0 rfl rfl rfl (H.store (j:=1) (off:=0) (k:=15) rfl sz116 f23 (v:=(.agg #[(i t.base),(.slice ab t.bs.length cab),(.slice ad t.dl.length cad),(i t.blo),(i t.bhi),(i t.klo),(i t.khi),(i t.llo),(i t.lhi),(i t.slo),(i t.shi),(i t.term),(.slice ah h.length cah),(.slice ai ices.length cai),(.slice a ((zsE t h ices).length) c)])) rfl rfl rfl rfl rfl (by simp [Value.oneCell']) (cs':=[i t.base,.slice ab t.bs.length cab,.slice ad t.dl.length cad,i t.blo,i t.bhi,i t.klo,i t.khi,i t.llo,i t.lhi,i t.slo,i t.shi,i t.term,.slice ah h.length cah,.slice ai ices.length cai,.slice a ((zsE t h ices).length) c]) rfl ?_)
  intro w30 Hn;replace H:=Hn;clear Hn
  refine Ro.q (v:=(i 0)) rfl rfl (zD rfl) rfl ?_
  refine Ro.nil (nT (Wp.ret (zN ?_)))
  refine zT (vs:=[i t.base,.slice ab t.bs.length cab,.slice ad t.dl.length cad,i t.blo,i t.bhi,i t.klo,i t.khi,i t.llo,i t.lhi,i t.slo,i t.shi,i t.term,.slice ah h.length cah,.slice ai ices.length cai,.slice a ((zsE t h ices).length) c]) (v:=(i 0)) Tryz.results67 f23 ta116 (H.cells 1 rfl) rfl rfl ⟨H.keep,?_⟩
  have ht0:uA t=0:=by omega
  have e:=use_good (h:=h) (ices:=ices) ht0 (by omega)
  exact .inl ⟨e.1,a,c,b,ob,by rw [e.2],H.one 0 rfl,by rw [← e.2];exact hz⟩
theorem c80 {t:Tb} {ab ad ah ai:Option Addr} {h:List Rg} {ices:List Ice} {cab cad cah cai:Nat} {x:Rdg} (w:World) (hab:Sl w 3 (t.bs.map yH) ab) (had:Sl w 2 (t.dl.map zZ) ad) (hah:Sl w 2 (h.map rgV) ah) (hai:Sl w 3 (ices.map iceV) ai) (hhl:h.length≤4611686018427387904) (hil:ices.length≤4611686018427387904):Ret Tryz.prog 80 [(.agg (tbC t ab cab ad cad).toArray),(.slice ah h.length cah),(.slice ai ices.length cai),(.agg (rdC x).toArray)] w fun v w'=>((yY t h ices x)=0∧∃ az caz b ob,v=(.tuple #[(.agg (zX t h ices ab cab ad cad ah cah ai cai az caz).toArray),(i 0)])∧S Nm w [(b,ob)] w'∧InB b ob 2 ((zl t.glass h ices).map rgV) az)∨((yY t h ices x)≠0∧(v=(.tuple #[(.agg (zuC).toArray),(i (yY t h ices x))])∨∃ az caz,v=(.tuple #[(.agg (zX t h ices ab cab ad cad ah cah ai cai az caz).toArray),(i (yY t h ices x))]))):=by
  refine Ret.body (N:=30) Tryz.func80 rfl Tryz.ntmps80 rfl ?_
  have H:=S.start Nm w
  refine Wp.seq (Wp.region ?_)
  refine Ro.d rfl rfl rfl (H.box (l:=(tbC t ab cab ad cad)) rfl (v:=(.agg (tbC t ab cab ad cad).toArray)) rfl rfl ?_)
  intro b1 w2 Hn;replace H:=Hn;clear Hn
  refine Ro.d rfl rfl rfl (H.box (l:=(rdC x)) rfl (v:=(.agg (rdC x).toArray)) rfl rfl ?_)
  intro b3 w4 Hn;replace H:=Hn;clear Hn
  refine Ro.d rfl rfl rfl (H.new (l:=zuC) rfl zv116 rfl ?_)
  intro b5 w6 Hn;replace H:=Hn;clear Hn
  refine Ro.q (v:=(i 0)) rfl rfl (zD rfl) rfl ?_
  refine Ro.nil (nT (Wp.seq (Wp.region ?_)))
  refine Ro.q rfl rfl (zJ ta45 rfl (H.cells 2 rfl) (j:=0) rfl (vs:=(tbC t ab cab ad cad)) rfl rfl) rfl ?_
  refine Ro.q (v:=(.slice ah h.length cah)) rfl rfl (zB rfl) rfl ?_
  refine Ro.q (v:=(.slice ai ices.length cai)) rfl rfl (zB rfl) rfl ?_
  refine Ro.d rfl rfl rfl (zH rfl en67 (ce (v:=(.agg (tbC t ab cab ad cad).toArray)) rfl (ce (v:=(.slice ah h.length cah)) rfl (ce (v:=(.slice ai ices.length cai)) rfl cn))) (c67 _ (hab.ext H.keep) (had.ext H.keep) (hah.ext H.keep) (hai.ext H.keep) hhl hil) ?_)
  have Hc9:=H
  rintro u w7 k8 (⟨hu,az,caz,b,ob,rfl,hS,hz⟩ | ⟨hu,rfl⟩)
  · skip
    replace H:=H.ext k8
    replace H:S Nm w [(b,ob),(b5,.cells zuC.toArray 116 (0,0)),(b3,.cells (rdC x).toArray 52 (0,0)),(b1,.cells (tbC t ab cab ad cad).toArray 45 (0,0))] w7:=Hc9.join hS
    refine Ro.q (v:=(.tuple #[(.agg (zX t h ices ab cab ad cad ah cah ai cai az caz).toArray),(i 0)])) rfl rfl (zB rfl) rfl ?_
    refine Ro.q (v:=(.agg (zX t h ices ab cab ad cad ah cah ai cai az caz).toArray)) rfl rfl (zO rfl (j:=0) rfl) rfl ?_
    refine Ro.q (v:=(i 0)) rfl rfl (zO rfl (j:=1) rfl) rfl ?_
    refine Ro.d rfl rfl rfl (H.new (l:=zuC) rfl zv116 rfl ?_)
    intro b10 w11 Hn;replace H:=Hn;clear Hn
    refine Ro.d0 rfl rfl rfl (H.store (j:=0) (off:=0) (k:=15) rfl sz116 rfl (v:=(.agg (zX t h ices ab cab ad cad ah cah ai cai az caz).toArray)) rfl rfl rfl rfl rfl (by simp [Value.oneCell']) (cs':=(zX t h ices ab cab ad cad ah cah ai cai az caz)) rfl ?_)
    intro w12 Hn;replace H:=Hn;clear Hn
    refine Ro.q (v:=(i 0)) rfl rfl (zD rfl) rfl ?_
    refine Ro.nil (nT (Wp.seq (Wp.seq ?_)))
    let qq13:Bool:=(vX ((h.length:Nat):Int) x)
    refine Wp.factsS 9 [is (i 0),is (.bool true),is (.bool true),gdv (True∧true=true) (.slice ah h.length cah),gdv (True∧true=true) (i ((h.length:Nat):Int)),gdv (True∧true=true) (.agg (rdC x).toArray),gdv (True∧true=true) (.bool qq13),gdv (True∧true=true) (.bool (!qq13)),is (.bool (!qq13))] (by kernel_rfl) (Mi (Mi (Mi (Mg (Mg (Mg (Mg (Mg (Mi Mono.nil))))))))) (fun w' k=>H.ext k) ?_ ?_
    · refine ⟨?_,?_,?_,?_,?_,?_,?_,?_,?_,trivial⟩
      · exact Ob.q rfl (fun _ _ B U D=>(zB (show (_:Value)=(i 0) from U 11 rfl))) rfl rfl
      · exact Ob.q rfl (fun _ _ B U D=>(Runs.to (vR (D 0 rfl) rfl) (by rfl))) rfl rfl
      · exact Ob.q rfl (fun _ _ B U D=>(zB (D 1 rfl))) rfl rfl
      · exact Ob.g0 rfl rfl (fun _ _ _ D=>D 2 rfl) rfl (fun _ _ B U D hC hg=>(zB (show (_:Value)=(.slice ah h.length cah) from U 1 rfl))) rfl
      · exact Ob.g0 rfl rfl (fun _ _ _ D=>D 2 rfl) rfl (fun _ _ B U D hC hg=>(yG Tryz.underlying47 (gdy (D 3 rfl) ⟨hC,hg⟩) (v:=h.length) rfl)) rfl
      · exact Ob.g0 rfl rfl (fun _ _ _ D=>D 2 rfl) rfl (fun _ _ B U D hC hg=>(zJ ta52 (show (_:Value)=(p b3 0) from U 7 rfl) (B.cells 3 rfl) (j:=0) rfl (vs:=(rdC x)) rfl rfl)) rfl
      · exact Ob.gd (C:=True) (g:=true) rfl rfl (fun ρ' w' U D=>⟨fun _=>(D 2 rfl),fun h=>absurd trivial h⟩) (fun _ h=>⟨fun hc=>absurd hc (yQ h),fun _=>rfl⟩) fun ρ' w' B U D hC hg=>zH rfl en85 (ce (v:=(i ((h.length:Nat):Int))) (gdy (D 4 rfl) ⟨hC,hg⟩) (ce (v:=(.agg (rdC x).toArray)) (gdy (D 5 rfl) ⟨hC,hg⟩) cn)) (c85 ((h.length:Nat):Int) x.day x.shown x.err x.bare x.alo x.ahi x.rlo x.rhi x.deep x.broken _ (by omega)) (fun u w2 k2 hu=>⟨k2,⟨fun _=>hu,fun n=>absurd ⟨hC,hg⟩ n⟩⟩)
      · exact Ob.g0 rfl rfl (fun _ _ _ D=>D 2 rfl) rfl (fun _ _ B U D hC hg=>(yN (gdy (D 6 rfl) ⟨hC,hg⟩))) rfl
      · exact Ob.q rfl (fun _ _ B U D=>(Runs.to (zQ (v:=.bool (true && (!qq13))) (D 2 rfl) (fun eP=>(gdy (D 7 rfl) ⟨trivial,eP⟩).trans (yF eP)) (fun eP=>yE eP)) (by rfl))) rfl rfl
    intro ρ14 w15 k16 U17 D18;replace H:=H.ext k16
    have f19:ρ14 8=(p b5 0):=U17 8 rfl
    have f21:ρ14 10=(p b10 0):=U17 10 rfl
    have f22:ρ14 11=(i 0):=U17 11 rfl
    have f23:ρ14 27=(.bool (!qq13)):=D18 8 rfl
    clear U17 D18 k16
    refine Ro.nil (nT ?_)
    refine Wp.cond (t:=!qq13) f23 ?_ ?_
    · intro c24
      have c24r:(!(vX ((h.length:Nat):Int) x))=true:=c24
      replace c24:=c24r
      simp only [bx] at c24
      refine Wp.region ?_
      refine Ro.q (v:=(i 2)) rfl rfl (zD rfl) rfl ?_
      refine Ro.nil (nT (Wp.seq (Wp.region ?_)))
      refine Ro.q rfl rfl (zJ ta116 f21 (H.cells 0 rfl) (j:=0) rfl (vs:=(zX t h ices ab cab ad cad ah cah ai cai az caz)) rfl rfl) rfl ?_
      refine Ro.q (v:=(i 2)) rfl rfl (zB rfl) rfl ?_
      refine Ro.d0 rfl rfl rfl (H.store (j:=2) (off:=0) (k:=15) rfl sz116 f19 (v:=(.agg (zX t h ices ab cab ad cad ah cah ai cai az caz).toArray)) rfl rfl rfl rfl rfl (by simp [Value.oneCell']) (cs':=(zX t h ices ab cab ad cad ah cah ai cai az caz)) rfl ?_)
      intro w25 Hn;replace H:=Hn;clear Hn
      refine Ro.q (v:=(i 2)) rfl rfl (zD rfl) rfl ?_
      refine Ro.nil (nT (Wp.ret (zN ?_)))
      refine zT (vs:=(zX t h ices ab cab ad cad ah cah ai cai az caz)) (v:=(i 2)) Tryz.results80 f19 ta116 (H.cells 2 rfl) rfl rfl ⟨H.keep,?_⟩
      have e:=ask_bad (x:=x) hu c24
      exact .inr ⟨by rw [e];decide,.inr ⟨az,caz,by rw [e]⟩⟩
    intro c24
    have c24r:(!(vX ((h.length:Nat):Int) x))=false:=c24
    replace c24:=c24r
    simp only [bx] at c24
    refine Wp.skip (nT (Wp.seq (Wp.region ?_)))
    refine Ro.q rfl rfl (zJ ta116 f21 (H.cells 0 rfl) (j:=0) rfl (vs:=(zX t h ices ab cab ad cad ah cah ai cai az caz)) rfl rfl) rfl ?_
    refine Ro.q (v:=(i 0)) rfl rfl (zB f22) rfl ?_
    refine Ro.d0 rfl rfl rfl (H.store (j:=2) (off:=0) (k:=15) rfl sz116 f19 (v:=(.agg (zX t h ices ab cab ad cad ah cah ai cai az caz).toArray)) rfl rfl rfl rfl rfl (by simp [Value.oneCell']) (cs':=(zX t h ices ab cab ad cad ah cah ai cai az caz)) rfl ?_)
    intro w26 Hn;replace H:=Hn;clear Hn
    refine Ro.q (v:=(i 0)) rfl rfl (zD rfl) rfl ?_
    refine Ro.nil (nT (Wp.ret (zN ?_)))
    refine zT (vs:=(zX t h ices ab cab ad cad ah cah ai cai az caz)) (v:=(i 0)) Tryz.results80 f19 ta116 (H.cells 2 rfl) rfl rfl ⟨H.keep,?_⟩
    exact .inl ⟨ask_good hu c24,az,caz,b,ob,rfl,H.one 1 rfl,hz⟩
  · skip
    replace H:=H.ext k8
    refine Ro.q (v:=(.tuple #[(.agg (zuC).toArray),(i (vP t h ices))])) rfl rfl (zB rfl) rfl ?_
    refine Ro.q (v:=(.agg (zuC).toArray)) rfl rfl (zO rfl (j:=0) rfl) rfl ?_
    refine Ro.q (v:=(i (vP t h ices))) rfl rfl (zO rfl (j:=1) rfl) rfl ?_
    refine Ro.d rfl rfl rfl (H.new (l:=zuC) rfl zv116 rfl ?_)
    intro b27 w28 Hn;replace H:=Hn;clear Hn
    refine Ro.d0 rfl rfl rfl (H.store (j:=0) (off:=0) (k:=15) rfl sz116 rfl (v:=(.agg (zuC).toArray)) rfl rfl rfl rfl rfl (by simp [Value.oneCell']) (cs':=zuC) rfl ?_)
    intro w29 Hn;replace H:=Hn;clear Hn
    refine Ro.q (v:=(i (vP t h ices))) rfl rfl (zD rfl) rfl ?_
    refine Ro.nil (nT (Wp.seq (Wp.seq ?_)))
    let qq30:Bool:=decide ((vP t h ices)=0)
    let qq31:Bool:=(vX ((h.length:Nat):Int) x)
    let qq32:Bool:=(qq30 && (!qq31))
    refine Wp.factsS 9 [is (i (vP t h ices)),is (.bool qq30),is (.bool qq30),gdv (True∧qq30=true) (.slice ah h.length cah),gdv (True∧qq30=true) (i ((h.length:Nat):Int)),gdv (True∧qq30=true) (.agg (rdC x).toArray),gdv (True∧qq30=true) (.bool qq31),gdv (True∧qq30=true) (.bool (!qq31)),is (.bool qq32)] (by kernel_rfl) (Mi (Mi (Mi (Mg (Mg (Mg (Mg (Mg (Mi Mono.nil))))))))) (fun w' k=>H.ext k) ?_ ?_
    · refine ⟨?_,?_,?_,?_,?_,?_,?_,?_,?_,trivial⟩
      · exact Ob.q rfl (fun _ _ B U D=>(zB (show (_:Value)=(i (vP t h ices)) from U 11 rfl))) rfl rfl
      · exact Ob.q rfl (fun _ _ B U D=>(vR (D 0 rfl) rfl)) rfl rfl
      · exact Ob.q rfl (fun _ _ B U D=>(zB (D 1 rfl))) rfl rfl
      · exact Ob.g0 rfl rfl (fun _ _ _ D=>D 2 rfl) rfl (fun _ _ B U D hC hg=>(zB (show (_:Value)=(.slice ah h.length cah) from U 1 rfl))) rfl
      · exact Ob.g0 rfl rfl (fun _ _ _ D=>D 2 rfl) rfl (fun _ _ B U D hC hg=>(yG Tryz.underlying47 (gdy (D 3 rfl) ⟨hC,hg⟩) (v:=h.length) rfl)) rfl
      · exact Ob.g0 rfl rfl (fun _ _ _ D=>D 2 rfl) rfl (fun _ _ B U D hC hg=>(zJ ta52 (show (_:Value)=(p b3 0) from U 7 rfl) (B.cells 2 rfl) (j:=0) rfl (vs:=(rdC x)) rfl rfl)) rfl
      · exact Ob.gd (C:=True) (g:=qq30) rfl rfl (fun ρ' w' U D=>⟨fun _=>(D 2 rfl),fun h=>absurd trivial h⟩) (fun _ h=>⟨fun hc=>absurd hc (yQ h),fun _=>rfl⟩) fun ρ' w' B U D hC hg=>zH rfl en85 (ce (v:=(i ((h.length:Nat):Int))) (gdy (D 4 rfl) ⟨hC,hg⟩) (ce (v:=(.agg (rdC x).toArray)) (gdy (D 5 rfl) ⟨hC,hg⟩) cn)) (c85 ((h.length:Nat):Int) x.day x.shown x.err x.bare x.alo x.ahi x.rlo x.rhi x.deep x.broken _ (by omega)) (fun u w2 k2 hu=>⟨k2,⟨fun _=>hu,fun n=>absurd ⟨hC,hg⟩ n⟩⟩)
      · exact Ob.g0 rfl rfl (fun _ _ _ D=>D 2 rfl) rfl (fun _ _ B U D hC hg=>(yN (gdy (D 6 rfl) ⟨hC,hg⟩))) rfl
      · exact Ob.q rfl (fun _ _ B U D=>(zQ (v:=(.bool qq32)) (D 2 rfl) (fun eP=>(gdy (D 7 rfl) ⟨trivial,eP⟩).trans (yF eP)) (fun eP=>yE eP))) rfl rfl
    intro ρ33 w34 k35 U36 D37;replace H:=H.ext k35
    have f38:ρ33 8=(p b5 0):=U36 8 rfl
    have f40:ρ33 10=(p b27 0):=U36 10 rfl
    have f41:ρ33 11=(i (vP t h ices)):=U36 11 rfl
    have f42:ρ33 27=(.bool qq32):=D37 8 rfl
    clear U36 D37 k35
    refine Ro.nil (nT ?_)
    refine Wp.condF (f42.trans (congrArg Value.bool (show qq32=false by show ((decide ((vP t h ices)=0)) && (!(vX ((h.length:Nat):Int) x)))=false;rw [decide_eq_false hu];rfl))) ?_
    refine Wp.skip (nT (Wp.seq (Wp.region ?_)))
    refine Ro.q rfl rfl (zJ ta116 f40 (H.cells 0 rfl) (j:=0) rfl (vs:=zuC) rfl rfl) rfl ?_
    refine Ro.q (v:=(i (vP t h ices))) rfl rfl (zB f41) rfl ?_
    refine Ro.d0 rfl rfl rfl (H.store (j:=1) (off:=0) (k:=15) rfl sz116 f38 (v:=(.agg (zuC).toArray)) rfl rfl rfl rfl rfl (by simp [Value.oneCell']) (cs':=zuC) rfl ?_)
    intro w44 Hn;replace H:=Hn;clear Hn
    refine Ro.q (v:=(i (vP t h ices))) rfl rfl (zD rfl) rfl ?_
    refine Ro.nil (nT (Wp.ret (zN ?_)))
    refine zT (vs:=zuC) (v:=(i (vP t h ices))) Tryz.results80 f38 ta116 (H.cells 1 rfl) rfl rfl ⟨H.keep,?_⟩
    have e:=ask_use (x:=x) hu
    exact .inr ⟨by rw [e];exact hu,.inl (by rw [e])⟩
end Go.Proofs.YthfnjppieihcfaaGreat
namespace Men
open Go Go.Mw
theorem zl_agr {g:Glass} {h:List Rg} {ices:List Ice} (h0:0<h.length):(((zl g h ices).length:Nat):Int)=0↔agrB g h ices=false:=by
  have:=zl_zero (g:=g) (ices:=ices) h0
  rw [agrB_false,← this];omega
theorem cor_ref {t:Tb} {h:List Rg} {ices:List Ice} {x:Rdg} (hk:yY t h ices x=0):corE t h ices x=vE t h ices x:=by unfold corE;rw [decide_eq_false (fun h=>h hk)];rfl
theorem cor_ask {t:Tb} {h:List Rg} {ices:List Ice} {x:Rdg} (hk:yY t h ices x≠0):corE t h ices x=yY t h ices x:=by unfold corE;rw [decide_eq_true hk];rfl
theorem corQ_bad {t:Tb} {h:List Rg} {ices:List Ice} {x:Rdg} (hk:corE t h ices x≠0):yK t h ices x=⟨0,0⟩:=by unfold yK;rw [decide_eq_true hk];rfl
theorem corQ_good {t:Tb} {h:List Rg} {ices:List Ice} {x:Rdg} (hk:corE t h ices x=0):yK t h ices x=yR t h ices x:=by unfold yK;rw [decide_eq_false (fun h=>h hk)];rfl
theorem acc_ask {t:Tb} {h:List Rg} {ices:List Ice} {x:Rdg} {most:Int} (hk:yY t h ices x≠0):vV t h ices x most=yY t h ices x:=by unfold vV;rw [decide_eq_true hk];rfl
theorem acc_neg {t:Tb} {h:List Rg} {ices:List Ice} {x:Rdg} {most:Int} (hk:yY t h ices x=0) (hm:most<0):vV t h ices x most=2:=by unfold vV;rw [decide_eq_false (fun h=>h hk),decide_eq_true hm];rfl
theorem acc_ref {t:Tb} {h:List Rg} {ices:List Ice} {x:Rdg} {most:Int} (hk:yY t h ices x=0) (hm:0≤most):vV t h ices x most=vE t h ices x:=by unfold vV;rw [decide_eq_false (fun h=>h hk),decide_eq_false (show ¬ most<0 by omega)];rfl
noncomputable def uC (t:Tb) (h:List Rg) (ices:List Ice) (x:Rdg) (most:Int):Int:=bif decide (vV t h ices x most≠0) then vV t h ices x most else bif decide ((yR t h ices x).hi-(yR t h ices x).lo≤most) then 0 else 10
noncomputable def yA (t:Tb) (h:List Rg) (ices:List Ice) (x:Rdg) (most:Int):Rg:=bif decide (uC t h ices x most≠0) then ⟨0,0⟩ else yR t h ices x
theorem acp_bad {t:Tb} {h:List Rg} {ices:List Ice} {x:Rdg} {most:Int} (ha:vV t h ices x most≠0):uC t h ices x most=vV t h ices x most∧yA t h ices x most=⟨0,0⟩:=by
  have e:uC t h ices x most=vV t h ices x most:=by unfold uC;rw [decide_eq_true ha];rfl
  exact ⟨e,by unfold yA;rw [e,decide_eq_true ha];rfl⟩
theorem acp_wide {t:Tb} {h:List Rg} {ices:List Ice} {x:Rdg} {most:Int} (ha:vV t h ices x most=0) (hw : ¬ (yR t h ices x).hi-(yR t h ices x).lo≤most):uC t h ices x most=10∧yA t h ices x most=⟨0,0⟩:=by
  have e:uC t h ices x most=10:=by unfold uC;rw [decide_eq_false (fun h=>h ha),decide_eq_false hw];rfl
  exact ⟨e,by unfold yA;rw [e];rfl⟩
theorem acp_good {t:Tb} {h:List Rg} {ices:List Ice} {x:Rdg} {most:Int} (ha:vV t h ices x most=0) (hw:(yR t h ices x).hi-(yR t h ices x).lo≤most):uC t h ices x most=0∧yA t h ices x most=yR t h ices x:=by
  have e:uC t h ices x most=0:=by unfold uC;rw [decide_eq_false (fun h=>h ha),decide_eq_true hw];rfl
  exact ⟨e,by unfold yA;rw [e];rfl⟩
noncomputable def braE (t:Tb) (h:List Rg) (ices:List Ice) (x:Rdg) (most:Int):Int:=bif decide (vV t h ices x most≠0) then vV t h ices x most else bif decide (bareN t h ices x most<0) then 7 else 0
noncomputable def braN (t:Tb) (h:List Rg) (ices:List Ice) (x:Rdg) (most:Int):Int:=bif decide (braE t h ices x most≠0) then 0 else bareN t h ices x most
theorem bra_bad {t:Tb} {h:List Rg} {ices:List Ice} {x:Rdg} {most:Int} (ha:vV t h ices x most≠0):braE t h ices x most=vV t h ices x most∧braN t h ices x most=0:=by
  have e:braE t h ices x most=vV t h ices x most:=by unfold braE;rw [decide_eq_true ha];rfl
  exact ⟨e,by unfold braN;rw [e,decide_eq_true ha];rfl⟩
theorem bra_none {t:Tb} {h:List Rg} {ices:List Ice} {x:Rdg} {most:Int} (ha:vV t h ices x most=0) (hn:bareN t h ices x most = -1):braE t h ices x most=7∧braN t h ices x most=0:=by
  have e:braE t h ices x most=7:=by unfold braE;rw [decide_eq_false (fun h=>h ha),hn];rfl
  exact ⟨e,by unfold braN;rw [e];rfl⟩
theorem bra_some {t:Tb} {h:List Rg} {ices:List Ice} {x:Rdg} {most n:Int} (ha:vV t h ices x most=0) (hn:bareN t h ices x most=n) (h0:0≤n):braE t h ices x most=0∧braN t h ices x most=n:=by
  have e:braE t h ices x most=0:=by unfold braE;rw [decide_eq_false (fun h=>h ha),hn,decide_eq_false (by omega)];rfl
  exact ⟨e,by unfold braN;rw [e,hn];rfl⟩
theorem Vld.bared {t:Tb} {h:List Rg} {ices:List Ice} {x:Rdg} (G:Vld t h ices x) {n:Int} (hn:0≤n∧n≤300):Vld t h ices (x.bared n) :=
  ⟨G.g,G.tb,G.tm,G.hi,G.ic,G.day,⟨G.rd.1,G.rd.2.1,hn,G.rd.2.2.2⟩⟩
/-- while Bare looks for it -/
def BareAt (N:Int) (P:Int→Bool) (n:Int):Prop:=N=bif decide (0≤n) then lastN P n.toNat else -1
theorem BareAt.start {P:Int→Bool}:BareAt (lastN P 300) P 300:=rfl
theorem BareAt.next {N:Int} {P:Int→Bool} {n:Int} (h:BareAt N P n) (h0:0≤n) (hp:P n=false):BareAt N P (n-1):=by
  unfold BareAt at *
  rw [decide_eq_true h0] at h
  by_cases e:n=0
  · subst e
    rw [h]
    show lastN P 0 = -1
    exact lastN_zero hp
  · rw [decide_eq_true (show 0≤n-1 by omega),h]
    simp only [cond_true]
    obtain ⟨k,hk⟩ : ∃ k:Nat,n.toNat=k+1:=⟨n.toNat-1,by omega⟩
    rw [hk,show (n-1).toNat=k by omega]
    exact lastN_no (by rw [show ((k+1:Nat):Int)=n by omega];exact hp)
theorem BareAt.found {N:Int} {P:Int→Bool} {n:Int} (h:BareAt N P n) (h0:0≤n) (hp:P n=true):N=n:=by
  unfold BareAt at *
  rw [decide_eq_true h0] at h
  rw [h]
  simp only [cond_true]
  rw [lastN_yes (by rw [show ((n.toNat:Nat):Int)=n by omega];exact hp)];omega
theorem BareAt.over {N:Int} {P:Int→Bool} {n:Int} (h:BareAt N P n) (h0 : ¬ 0≤n):N = -1:=by
  unfold BareAt at *
  rw [decide_eq_false h0] at h
  exact h
end Men
