/- Part of the proof: what the last text of this claim imports. -/
import Derived.Test.YthfnjppieihcfaaGreatW3
import Derived.Test.YthfnjppieihcfaaGreatProg
set_option linter.unusedSimpArgs false
set_option linter.unusedVariables false
set_option maxRecDepth 100000
namespace Go.Proofs.YthfnjppieihcfaaGreat
open Go.RowKit Go.Proofs Go.Mw
theorem en41:Go.Proofs.Enters Tryz.prog 41:=Go.Proofs.enters_of Tryz.func41 (by kernel_rfl) rfl
theorem en87:Go.Proofs.Enters Tryz.prog 87:=Go.Proofs.enters_of Tryz.func87 (by kernel_rfl) rfl
theorem uI:FO Tryz.prog 25 0 0:=fun _ _ _=>by kernel_rfl
theorem uB:FO Tryz.prog 25 1 1:=fun _ _ _=>by kernel_rfl
theorem yV:FO Tryz.prog 41 0 0:=fun _ _ _=>by kernel_rfl
theorem yZ:FO Tryz.prog 41 1 1:=fun _ _ _=>by kernel_rfl
theorem sz25 : ∀ w,(sizeOf 25).run Tryz.prog w = .ok 2 w:=fun _=>by kernel_rfl
theorem sz41 : ∀ w,(sizeOf 41).run Tryz.prog w = .ok 2 w:=fun _=>by kernel_rfl
theorem zM:T1 Tryz.prog 3:=⟨Tryz.isAgg3,fun _=>by kernel_rfl⟩
theorem ta25:TA Tryz.prog 25 2:=⟨Tryz.isAgg25,fun _=>by kernel_rfl⟩
theorem vL:TA Tryz.prog 41 2:=⟨Tryz.isAgg41,fun _=>by kernel_rfl⟩
theorem zv25:ZV Tryz.prog 25 (.agg #[(i 0),(i 0)]):=Tryz.zeroValue25
theorem zv41:ZV Tryz.prog 41 (.agg #[(i 0),(i 0)]):=Tryz.zeroValue41
theorem c87 (a:Int) (b:Int) (c:Int) (w:World)   : Rv Tryz.prog 87 [(i a),(i b),(i c)] w (.bool (decide (b≤a) && decide (a≤c))):=by
  refine Ret.body (N:=15) Tryz.func87 rfl Tryz.ntmps87 rfl ?_
  have H:=S.start Nm w
  refine Wp.seq (Wp.region ?_)
  refine Ro.q (v:=(.bool false)) rfl rfl (zD rfl) rfl ?_
  refine Ro.nil (nT (Wp.seq ?_))
  let qq1:Bool:=(decide (b≤a) && (decide (a≤c)))
  refine Wp.factsS 9 [is (i b),is (i a),is (.bool (decide (b≤a))),is (.bool (decide (b≤a))),gdv (True∧(decide (b≤a))=true) (i a),gdv (True∧(decide (b≤a))=true) (i c),gdv (True∧(decide (b≤a))=true) (.bool (decide (a≤c))),is (.bool qq1),is (.bool qq1)] (by kernel_rfl) (Mi (Mi (Mi (Mi (Mg (Mg (Mg (Mi (Mi Mono.nil))))))))) (fun w' k=>H.ext k) ?_ ?_
  · refine ⟨?_,?_,?_,?_,?_,?_,?_,?_,?_,trivial⟩
    · exact Ob.q rfl (fun _ _ B U D=>(zB (show (_:Value)=(i b) from U 1 rfl))) rfl rfl
    · exact Ob.q rfl (fun _ _ B U D=>(zB (show (_:Value)=(i a) from U 0 rfl))) rfl rfl
    · exact Ob.q rfl (fun _ _ B U D=>(vD (D 0 rfl) (D 1 rfl))) rfl rfl
    · exact Ob.q rfl (fun _ _ B U D=>(zB (D 2 rfl))) rfl rfl
    · exact Ob.g0 rfl rfl (fun _ _ _ D=>D 3 rfl) rfl (fun _ _ B U D hC hg=>(zB (show (_:Value)=(i a) from U 0 rfl))) rfl
    · exact Ob.g0 rfl rfl (fun _ _ _ D=>D 3 rfl) rfl (fun _ _ B U D hC hg=>(zB (show (_:Value)=(i c) from U 2 rfl))) rfl
    · exact Ob.g0 rfl rfl (fun _ _ _ D=>D 3 rfl) rfl (fun _ _ B U D hC hg=>(vD (gdy (D 4 rfl) ⟨hC,hg⟩) (gdy (D 5 rfl) ⟨hC,hg⟩))) rfl
    · exact Ob.q rfl (fun _ _ B U D=>(zQ (v:=(.bool qq1)) (D 3 rfl) (fun eP=>(gdy (D 6 rfl) ⟨trivial,eP⟩).trans (yF eP)) (fun eP=>yE eP))) rfl rfl
    · exact Ob.q rfl (fun _ _ B U D=>(zD (D 7 rfl))) rfl rfl
  intro ρ2 w3 k4 U5 D6;replace H:=H.ext k4
  have f7:ρ2 6=(.bool qq1):=D6 8 rfl
  clear U5 D6 k4
  refine Ro.nil (nT (Wp.ret (zN ?_)))
  refine zI (v:=(.bool (decide (b≤a) && (decide (a≤c))))) Tryz.results87 f7 ⟨H.keep,?_⟩
  rfl
theorem c110 (a:Int) (b:Int) (c:Int) (w:World)   : Rv Tryz.prog 110 [(i a),(i b),(i c)] w (.bool (decide (b≤a) && decide (a≤c))):=by
  refine Ret.body (N:=15) Tryz.func110 rfl Tryz.ntmps110 rfl ?_
  have H:=S.start Nm w
  refine Wp.seq (Wp.region ?_)
  refine Ro.q (v:=(.bool false)) rfl rfl (zD rfl) rfl ?_
  refine Ro.nil (nT (Wp.seq ?_))
  let qq1:Bool:=(decide (b≤a) && (decide (a≤c)))
  refine Wp.factsS 9 [is (i b),is (i a),is (.bool (decide (b≤a))),is (.bool (decide (b≤a))),gdv (True∧(decide (b≤a))=true) (i a),gdv (True∧(decide (b≤a))=true) (i c),gdv (True∧(decide (b≤a))=true) (.bool (decide (a≤c))),is (.bool qq1),is (.bool qq1)] (by kernel_rfl) (Mi (Mi (Mi (Mi (Mg (Mg (Mg (Mi (Mi Mono.nil))))))))) (fun w' k=>H.ext k) ?_ ?_
  · refine ⟨?_,?_,?_,?_,?_,?_,?_,?_,?_,trivial⟩
    · exact Ob.q rfl (fun _ _ B U D=>(zB (show (_:Value)=(i b) from U 1 rfl))) rfl rfl
    · exact Ob.q rfl (fun _ _ B U D=>(zB (show (_:Value)=(i a) from U 0 rfl))) rfl rfl
    · exact Ob.q rfl (fun _ _ B U D=>(vD (D 0 rfl) (D 1 rfl))) rfl rfl
    · exact Ob.q rfl (fun _ _ B U D=>(zB (D 2 rfl))) rfl rfl
    · exact Ob.g0 rfl rfl (fun _ _ _ D=>D 3 rfl) rfl (fun _ _ B U D hC hg=>(zB (show (_:Value)=(i a) from U 0 rfl))) rfl
    · exact Ob.g0 rfl rfl (fun _ _ _ D=>D 3 rfl) rfl (fun _ _ B U D hC hg=>(zB (show (_:Value)=(i c) from U 2 rfl))) rfl
    · exact Ob.g0 rfl rfl (fun _ _ _ D=>D 3 rfl) rfl (fun _ _ B U D hC hg=>(vD (gdy (D 4 rfl) ⟨hC,hg⟩) (gdy (D 5 rfl) ⟨hC,hg⟩))) rfl
    · exact Ob.q rfl (fun _ _ B U D=>(zQ (v:=(.bool qq1)) (D 3 rfl) (fun eP=>(gdy (D 6 rfl) ⟨trivial,eP⟩).trans (yF eP)) (fun eP=>yE eP))) rfl rfl
    · exact Ob.q rfl (fun _ _ B U D=>(zD (D 7 rfl))) rfl rfl
  intro ρ2 w3 k4 U5 D6;replace H:=H.ext k4
  have f7:ρ2 6=(.bool qq1):=D6 8 rfl
  clear U5 D6 k4
  refine Ro.nil (nT (Wp.ret (zN ?_)))
  refine zI (v:=(.bool (decide (b≤a) && (decide (a≤c))))) Tryz.results110 f7 ⟨H.keep,?_⟩
  rfl
theorem c41 (a:Int) (b:Int) (c:Int) (w:World)   : Rv Tryz.prog 41 [(i a),(i b),(i c)] w (.bool (decide (b≤a) && decide (a≤c))):=by
  refine Ret.body (N:=15) Tryz.func41 rfl Tryz.ntmps41 rfl ?_
  have H:=S.start Nm w
  refine Wp.seq (Wp.region ?_)
  refine Ro.q (v:=(.bool false)) rfl rfl (zD rfl) rfl ?_
  refine Ro.nil (nT (Wp.seq ?_))
  let qq1:Bool:=(decide (b≤a) && (decide (a≤c)))
  refine Wp.factsS 9 [is (i a),is (i b),is (.bool (decide (b≤a))),is (.bool (decide (b≤a))),gdv (True∧(decide (b≤a))=true) (i a),gdv (True∧(decide (b≤a))=true) (i c),gdv (True∧(decide (b≤a))=true) (.bool (decide (a≤c))),is (.bool qq1),is (.bool qq1)] (by kernel_rfl) (Mi (Mi (Mi (Mi (Mg (Mg (Mg (Mi (Mi Mono.nil))))))))) (fun w' k=>H.ext k) ?_ ?_
  · refine ⟨?_,?_,?_,?_,?_,?_,?_,?_,?_,trivial⟩
    · exact Ob.q rfl (fun _ _ B U D=>(zB (show (_:Value)=(i a) from U 0 rfl))) rfl rfl
    · exact Ob.q rfl (fun _ _ B U D=>(zB (show (_:Value)=(i b) from U 1 rfl))) rfl rfl
    · exact Ob.q rfl (fun _ _ B U D=>(r_geq (D 0 rfl) (D 1 rfl))) rfl rfl
    · exact Ob.q rfl (fun _ _ B U D=>(zB (D 2 rfl))) rfl rfl
    · exact Ob.g0 rfl rfl (fun _ _ _ D=>D 3 rfl) rfl (fun _ _ B U D hC hg=>(zB (show (_:Value)=(i a) from U 0 rfl))) rfl
    · exact Ob.g0 rfl rfl (fun _ _ _ D=>D 3 rfl) rfl (fun _ _ B U D hC hg=>(zB (show (_:Value)=(i c) from U 2 rfl))) rfl
    · exact Ob.g0 rfl rfl (fun _ _ _ D=>D 3 rfl) rfl (fun _ _ B U D hC hg=>(vD (gdy (D 4 rfl) ⟨hC,hg⟩) (gdy (D 5 rfl) ⟨hC,hg⟩))) rfl
    · exact Ob.q rfl (fun _ _ B U D=>(zQ (v:=(.bool qq1)) (D 3 rfl) (fun eP=>(gdy (D 6 rfl) ⟨trivial,eP⟩).trans (yF eP)) (fun eP=>yE eP))) rfl rfl
    · exact Ob.q rfl (fun _ _ B U D=>(zD (D 7 rfl))) rfl rfl
  intro ρ2 w3 k4 U5 D6;replace H:=H.ext k4
  have f7:ρ2 6=(.bool qq1):=D6 8 rfl
  clear U5 D6 k4
  refine Ro.nil (nT (Wp.ret (zN ?_)))
  refine zI (v:=(.bool (decide (b≤a) && (decide (a≤c))))) Tryz.results41 f7 ⟨H.keep,?_⟩
  rfl
theorem c117 (lo:Int) (hi:Int) (b:Int) (c:Int) (w:World)   : Rv Tryz.prog 117 [(.agg #[(i lo),(i hi)]),(i b),(i c)] w (.bool ((decide (b≤lo) && decide (lo≤hi)) && decide (hi≤c))):=by
  refine Ret.body (N:=24) Tryz.func117 rfl Tryz.ntmps117 rfl ?_
  have H:=S.start Nm w
  refine Wp.seq (Wp.region ?_)
  refine Ro.d rfl rfl rfl (H.box (l:=[i lo,i hi]) rfl (v:=(.agg #[(i lo),(i hi)])) rfl rfl ?_)
  intro b1 w2 Hn;replace H:=Hn;clear Hn
  refine Ro.q (v:=(.bool false)) rfl rfl (zD rfl) rfl ?_
  refine Ro.nil (nT (Wp.seq ?_))
  let qq3:Bool:=(decide (b≤lo) && (decide (lo≤hi)))
  let qq4:Bool:=(qq3 && (decide (hi≤c)))
  refine Wp.factsS 18 [is (i b),is (p b1 0),is (i lo),is (.bool (decide (b≤lo))),is (.bool (decide (b≤lo))),gdv (True∧(decide (b≤lo))=true) (p b1 0),gdv (True∧(decide (b≤lo))=true) (i lo),gdv (True∧(decide (b≤lo))=true) (p b1 1),gdv (True∧(decide (b≤lo))=true) (i hi),gdv (True∧(decide (b≤lo))=true) (.bool (decide (lo≤hi))),is (.bool qq3),is (.bool qq3),gdv (True∧qq3=true) (p b1 1),gdv (True∧qq3=true) (i hi),gdv (True∧qq3=true) (i c),gdv (True∧qq3=true) (.bool (decide (hi≤c))),is (.bool qq4),is (.bool qq4)] (by kernel_rfl) (Mi (Mi (Mi (Mi (Mi (Mg (Mg (Mg (Mg (Mg (Mi (Mi (Mg (Mg (Mg (Mg (Mi (Mi Mono.nil)))))))))))))))))) (fun w' k=>H.ext k) ?_ ?_
  · refine ⟨?_,?_,?_,?_,?_,?_,?_,?_,?_,?_,?_,?_,?_,?_,?_,?_,?_,?_,trivial⟩
    · exact Ob.q rfl (fun _ _ B U D=>(zB (show (_:Value)=(i b) from U 1 rfl))) rfl rfl
    · exact Ob.q rfl (fun _ _ B U D=>(zA yV (show (_:Value)=(p b1 0) from U 3 rfl) rfl)) rfl rfl
    · exact Ob.q rfl (fun _ _ B U D=>(zE zM (D 1 rfl) (B.cells 0 rfl) (j:=0) rfl rfl)) rfl rfl
    · exact Ob.q rfl (fun _ _ B U D=>(vD (D 0 rfl) (D 2 rfl))) rfl rfl
    · exact Ob.q rfl (fun _ _ B U D=>(zB (D 3 rfl))) rfl rfl
    · exact Ob.g0 rfl rfl (fun _ _ _ D=>D 4 rfl) rfl (fun _ _ B U D hC hg=>(zA yV (show (_:Value)=(p b1 0) from U 3 rfl) rfl)) rfl
    · exact Ob.g0 rfl rfl (fun _ _ _ D=>D 4 rfl) rfl (fun _ _ B U D hC hg=>(zE zM (gdy (D 5 rfl) ⟨hC,hg⟩) (B.cells 0 rfl) (j:=0) rfl rfl)) rfl
    · exact Ob.g0 rfl rfl (fun _ _ _ D=>D 4 rfl) rfl (fun _ _ B U D hC hg=>(zA yZ (show (_:Value)=(p b1 0) from U 3 rfl) rfl)) rfl
    · exact Ob.g0 rfl rfl (fun _ _ _ D=>D 4 rfl) rfl (fun _ _ B U D hC hg=>(zE zM (gdy (D 7 rfl) ⟨hC,hg⟩) (B.cells 0 rfl) (j:=1) rfl rfl)) rfl
    · exact Ob.g0 rfl rfl (fun _ _ _ D=>D 4 rfl) rfl (fun _ _ B U D hC hg=>(vD (gdy (D 6 rfl) ⟨hC,hg⟩) (gdy (D 8 rfl) ⟨hC,hg⟩))) rfl
    · exact Ob.q rfl (fun _ _ B U D=>(zQ (v:=(.bool qq3)) (D 4 rfl) (fun eP=>(gdy (D 9 rfl) ⟨trivial,eP⟩).trans (yF eP)) (fun eP=>yE eP))) rfl rfl
    · exact Ob.q rfl (fun _ _ B U D=>(zB (D 10 rfl))) rfl rfl
    · exact Ob.g0 rfl rfl (fun _ _ _ D=>D 11 rfl) rfl (fun _ _ B U D hC hg=>(zA yZ (show (_:Value)=(p b1 0) from U 3 rfl) rfl)) rfl
    · exact Ob.g0 rfl rfl (fun _ _ _ D=>D 11 rfl) rfl (fun _ _ B U D hC hg=>(zE zM (gdy (D 12 rfl) ⟨hC,hg⟩) (B.cells 0 rfl) (j:=1) rfl rfl)) rfl
    · exact Ob.g0 rfl rfl (fun _ _ _ D=>D 11 rfl) rfl (fun _ _ B U D hC hg=>(zB (show (_:Value)=(i c) from U 2 rfl))) rfl
    · exact Ob.g0 rfl rfl (fun _ _ _ D=>D 11 rfl) rfl (fun _ _ B U D hC hg=>(vD (gdy (D 13 rfl) ⟨hC,hg⟩) (gdy (D 14 rfl) ⟨hC,hg⟩))) rfl
    · exact Ob.q rfl (fun _ _ B U D=>(zQ (v:=(.bool qq4)) (D 11 rfl) (fun eP=>(gdy (D 15 rfl) ⟨trivial,eP⟩).trans (yF eP)) (fun eP=>yE eP))) rfl rfl
    · exact Ob.q rfl (fun _ _ B U D=>(zD (D 16 rfl))) rfl rfl
  intro ρ5 w6 k7 U8 D9;replace H:=H.ext k7
  have f10:ρ5 6=(.bool qq4):=D9 17 rfl
  clear U8 D9 k7
  refine Ro.nil (nT (Wp.ret (zN ?_)))
  refine zI (v:=(.bool ((decide (b≤lo) && (decide (lo≤hi))) && (decide (hi≤c))))) Tryz.results117 f10 ⟨H.keep,?_⟩
  rfl
theorem c129 (lo:Int) (hi:Int) (c:Int) (w:World)   : Rv Tryz.prog 129 [(.agg #[(i lo),(i hi)]),(i c)] w (.bool ((decide (0≤lo) && decide (lo≤hi)) && decide (hi≤c))):=by
  refine Ret.body (N:=21) Tryz.func129 rfl Tryz.ntmps129 rfl ?_
  have H:=S.start Nm w
  refine Wp.seq (Wp.region ?_)
  refine Ro.d rfl rfl rfl (H.box (l:=[i lo,i hi]) rfl (v:=(.agg #[(i lo),(i hi)])) rfl rfl ?_)
  intro b1 w2 Hn;replace H:=Hn;clear Hn
  refine Ro.q (v:=(.bool false)) rfl rfl (zD rfl) rfl ?_
  refine Ro.nil (nT (Wp.seq ?_))
  let qq3:Bool:=(decide (0≤lo) && (decide (lo≤hi)))
  let qq4:Bool:=(qq3 && (decide (hi≤c)))
  refine Wp.factsS 17 [is (p b1 0),is (i lo),is (.bool (decide (0≤lo))),is (.bool (decide (0≤lo))),gdv (True∧(decide (0≤lo))=true) (p b1 0),gdv (True∧(decide (0≤lo))=true) (i lo),gdv (True∧(decide (0≤lo))=true) (p b1 1),gdv (True∧(decide (0≤lo))=true) (i hi),gdv (True∧(decide (0≤lo))=true) (.bool (decide (lo≤hi))),is (.bool qq3),is (.bool qq3),gdv (True∧qq3=true) (p b1 1),gdv (True∧qq3=true) (i hi),gdv (True∧qq3=true) (i c),gdv (True∧qq3=true) (.bool (decide (hi≤c))),is (.bool qq4),is (.bool qq4)] (by kernel_rfl) (Mi (Mi (Mi (Mi (Mg (Mg (Mg (Mg (Mg (Mi (Mi (Mg (Mg (Mg (Mg (Mi (Mi Mono.nil))))))))))))))))) (fun w' k=>H.ext k) ?_ ?_
  · refine ⟨?_,?_,?_,?_,?_,?_,?_,?_,?_,?_,?_,?_,?_,?_,?_,?_,?_,trivial⟩
    · exact Ob.q rfl (fun _ _ B U D=>(zA yV (show (_:Value)=(p b1 0) from U 2 rfl) rfl)) rfl rfl
    · exact Ob.q rfl (fun _ _ B U D=>(zE zM (D 0 rfl) (B.cells 0 rfl) (j:=0) rfl rfl)) rfl rfl
    · exact Ob.q rfl (fun _ _ B U D=>(vD rfl (D 1 rfl))) rfl rfl
    · exact Ob.q rfl (fun _ _ B U D=>(zB (D 2 rfl))) rfl rfl
    · exact Ob.g0 rfl rfl (fun _ _ _ D=>D 3 rfl) rfl (fun _ _ B U D hC hg=>(zA yV (show (_:Value)=(p b1 0) from U 2 rfl) rfl)) rfl
    · exact Ob.g0 rfl rfl (fun _ _ _ D=>D 3 rfl) rfl (fun _ _ B U D hC hg=>(zE zM (gdy (D 4 rfl) ⟨hC,hg⟩) (B.cells 0 rfl) (j:=0) rfl rfl)) rfl
    · exact Ob.g0 rfl rfl (fun _ _ _ D=>D 3 rfl) rfl (fun _ _ B U D hC hg=>(zA yZ (show (_:Value)=(p b1 0) from U 2 rfl) rfl)) rfl
    · exact Ob.g0 rfl rfl (fun _ _ _ D=>D 3 rfl) rfl (fun _ _ B U D hC hg=>(zE zM (gdy (D 6 rfl) ⟨hC,hg⟩) (B.cells 0 rfl) (j:=1) rfl rfl)) rfl
    · exact Ob.g0 rfl rfl (fun _ _ _ D=>D 3 rfl) rfl (fun _ _ B U D hC hg=>(vD (gdy (D 5 rfl) ⟨hC,hg⟩) (gdy (D 7 rfl) ⟨hC,hg⟩))) rfl
    · exact Ob.q rfl (fun _ _ B U D=>(zQ (v:=(.bool qq3)) (D 3 rfl) (fun eP=>(gdy (D 8 rfl) ⟨trivial,eP⟩).trans (yF eP)) (fun eP=>yE eP))) rfl rfl
    · exact Ob.q rfl (fun _ _ B U D=>(zB (D 9 rfl))) rfl rfl
    · exact Ob.g0 rfl rfl (fun _ _ _ D=>D 10 rfl) rfl (fun _ _ B U D hC hg=>(zA yZ (show (_:Value)=(p b1 0) from U 2 rfl) rfl)) rfl
    · exact Ob.g0 rfl rfl (fun _ _ _ D=>D 10 rfl) rfl (fun _ _ B U D hC hg=>(zE zM (gdy (D 11 rfl) ⟨hC,hg⟩) (B.cells 0 rfl) (j:=1) rfl rfl)) rfl
    · exact Ob.g0 rfl rfl (fun _ _ _ D=>D 10 rfl) rfl (fun _ _ B U D hC hg=>(zB (show (_:Value)=(i c) from U 1 rfl))) rfl
    · exact Ob.g0 rfl rfl (fun _ _ _ D=>D 10 rfl) rfl (fun _ _ B U D hC hg=>(vD (gdy (D 12 rfl) ⟨hC,hg⟩) (gdy (D 13 rfl) ⟨hC,hg⟩))) rfl
    · exact Ob.q rfl (fun _ _ B U D=>(zQ (v:=(.bool qq4)) (D 10 rfl) (fun eP=>(gdy (D 14 rfl) ⟨trivial,eP⟩).trans (yF eP)) (fun eP=>yE eP))) rfl rfl
    · exact Ob.q rfl (fun _ _ B U D=>(zD (D 15 rfl))) rfl rfl
  intro ρ5 w6 k7 U8 D9;replace H:=H.ext k7
  have f10:ρ5 4=(.bool qq4):=D9 16 rfl
  clear U8 D9 k7
  refine Ro.nil (nT (Wp.ret (zN ?_)))
  refine zI (v:=(.bool ((decide (0≤lo) && (decide (lo≤hi))) && (decide (hi≤c))))) Tryz.results129 f10 ⟨H.keep,?_⟩
  rfl
theorem c86 (lo:Int) (hi:Int) (n:Int) (w:World)   : Rv Tryz.prog 86 [(.agg #[(i lo),(i hi)]),(i n)] w (.bool (decide (lo≤n) && decide (n≤hi))):=by
  refine Ret.body (N:=11) Tryz.func86 rfl Tryz.ntmps86 rfl ?_
  have H:=S.start Nm w
  refine Wp.seq (Wp.region ?_)
  refine Ro.d rfl rfl rfl (H.box (l:=[i lo,i hi]) rfl (v:=(.agg #[(i lo),(i hi)])) rfl rfl ?_)
  intro b1 w2 Hn;replace H:=Hn;clear Hn
  refine Ro.q (v:=(.bool false)) rfl rfl (zD rfl) rfl ?_
  refine Ro.nil (nT (Wp.seq (Wp.region ?_)))
  refine Ro.q (v:=(i n)) rfl rfl (zB rfl) rfl ?_
  refine Ro.q (v:=(p b1 0)) rfl rfl (zA yV rfl rfl) rfl ?_
  refine Ro.q rfl rfl (zE zM rfl (H.cells 0 rfl) (j:=0) rfl rfl) rfl ?_
  refine Ro.q (v:=(p b1 1)) rfl rfl (zA yZ rfl rfl) rfl ?_
  refine Ro.q rfl rfl (zE zM rfl (H.cells 0 rfl) (j:=1) rfl rfl) rfl ?_
  refine Ro.d rfl rfl rfl (zH rfl en87 (ce (v:=(i n)) rfl (ce (v:=(i lo)) rfl (ce (v:=(i hi)) rfl cn))) (c87 n lo hi _ ) ?_)
  intro u w3 k4 hu;subst hu;replace H:=H.ext k4
  clear k4
  refine Ro.q (v:=(.bool (decide (lo≤n) && decide (n≤hi)))) rfl rfl (zD rfl) rfl ?_
  refine Ro.nil (nT (Wp.ret (zN ?_)))
  refine zI (v:=(.bool (decide (lo≤n) && decide (n≤hi)))) Tryz.results86 rfl ⟨H.keep,?_⟩
  rfl
theorem c127 (lo:Int) (hi:Int) (c:Int) (w:World)   : Rv Tryz.prog 127 [(.agg #[(i lo),(i hi)]),(i c)] w (.bool ((decide (0≤lo) && decide (lo≤hi)) && decide (hi≤c))):=by
  refine Ret.body (N:=16) Tryz.func127 rfl Tryz.ntmps127 rfl ?_
  have H:=S.start Nm w
  refine Wp.seq (Wp.region ?_)
  refine Ro.d rfl rfl rfl (H.box (l:=[i lo,i hi]) rfl (v:=(.agg #[(i lo),(i hi)])) rfl rfl ?_)
  intro b1 w2 Hn;replace H:=Hn;clear Hn
  refine Ro.q (v:=(.bool false)) rfl rfl (zD rfl) rfl ?_
  refine Ro.nil (nT (Wp.seq ?_))
  let qq3:Bool:=decide (0≤lo) && decide (lo≤hi)
  let qq4:Bool:=(qq3 && (decide (hi≤c)))
  refine Wp.factsS 12 [is (p b1 0),is (i lo),is (p b1 1),is (i hi),is (.bool qq3),is (.bool qq3),gdv (True∧qq3=true) (p b1 1),gdv (True∧qq3=true) (i hi),gdv (True∧qq3=true) (i c),gdv (True∧qq3=true) (.bool (decide (hi≤c))),is (.bool qq4),is (.bool qq4)] (by kernel_rfl) (Mi (Mi (Mi (Mi (Mi (Mi (Mg (Mg (Mg (Mg (Mi (Mi Mono.nil)))))))))))) (fun w' k=>H.ext k) ?_ ?_
  · refine ⟨?_,?_,?_,?_,?_,?_,?_,?_,?_,?_,?_,?_,trivial⟩
    · exact Ob.q rfl (fun _ _ B U D=>(zA uI (show (_:Value)=(p b1 0) from U 2 rfl) rfl)) rfl rfl
    · exact Ob.q rfl (fun _ _ B U D=>(zE zM (D 0 rfl) (B.cells 0 rfl) (j:=0) rfl rfl)) rfl rfl
    · exact Ob.q rfl (fun _ _ B U D=>(zA uB (show (_:Value)=(p b1 0) from U 2 rfl) rfl)) rfl rfl
    · exact Ob.q rfl (fun _ _ B U D=>(zE zM (D 2 rfl) (B.cells 0 rfl) (j:=1) rfl rfl)) rfl rfl
    · exact Ob.mk rfl fun ρ' w' B U D=>zH rfl en41 (ce (v:=(i lo)) (D 1 rfl) (ce (v:=(i 0)) rfl (ce (v:=(i hi)) (D 3 rfl) cn))) (c41 lo 0 hi _ ) (fun u w2 k2 hu=>⟨k2,hu⟩)
    · exact Ob.q rfl (fun _ _ B U D=>(zB (D 4 rfl))) rfl rfl
    · exact Ob.g0 rfl rfl (fun _ _ _ D=>D 5 rfl) rfl (fun _ _ B U D hC hg=>(zA uB (show (_:Value)=(p b1 0) from U 2 rfl) rfl)) rfl
    · exact Ob.g0 rfl rfl (fun _ _ _ D=>D 5 rfl) rfl (fun _ _ B U D hC hg=>(zE zM (gdy (D 6 rfl) ⟨hC,hg⟩) (B.cells 0 rfl) (j:=1) rfl rfl)) rfl
    · exact Ob.g0 rfl rfl (fun _ _ _ D=>D 5 rfl) rfl (fun _ _ B U D hC hg=>(zB (show (_:Value)=(i c) from U 1 rfl))) rfl
    · exact Ob.g0 rfl rfl (fun _ _ _ D=>D 5 rfl) rfl (fun _ _ B U D hC hg=>(vD (gdy (D 7 rfl) ⟨hC,hg⟩) (gdy (D 8 rfl) ⟨hC,hg⟩))) rfl
    · exact Ob.q rfl (fun _ _ B U D=>(zQ (v:=(.bool qq4)) (D 5 rfl) (fun eP=>(gdy (D 9 rfl) ⟨trivial,eP⟩).trans (yF eP)) (fun eP=>yE eP))) rfl rfl
    · exact Ob.q rfl (fun _ _ B U D=>(zD (D 10 rfl))) rfl rfl
  intro ρ5 w6 k7 U8 D9;replace H:=H.ext k7
  have f10:ρ5 4=(.bool qq4):=D9 11 rfl
  clear U8 D9 k7
  refine Ro.nil (nT (Wp.ret (zN ?_)))
  refine zI (v:=(.bool ((decide (0≤lo) && decide (lo≤hi)) && (decide (hi≤c))))) Tryz.results127 f10 ⟨H.keep,?_⟩
  rfl
theorem c79 (lo:Int) (hi:Int) (b:Int) (c:Int) (w:World)   : Rv Tryz.prog 79 [(.agg #[(i lo),(i hi)]),(i b),(i c)] w (.bool ((decide (b≤lo) && decide (lo≤hi)) && decide (hi≤c))):=by
  refine Ret.body (N:=19) Tryz.func79 rfl Tryz.ntmps79 rfl ?_
  have H:=S.start Nm w
  refine Wp.seq (Wp.region ?_)
  refine Ro.d rfl rfl rfl (H.box (l:=[i lo,i hi]) rfl (v:=(.agg #[(i lo),(i hi)])) rfl rfl ?_)
  intro b1 w2 Hn;replace H:=Hn;clear Hn
  refine Ro.q (v:=(.bool false)) rfl rfl (zD rfl) rfl ?_
  refine Ro.nil (nT (Wp.seq ?_))
  let qq3:Bool:=decide (b≤lo) && decide (lo≤hi)
  let qq4:Bool:=(qq3 && (decide (hi≤c)))
  refine Wp.factsS 13 [is (p b1 0),is (i lo),is (i b),is (p b1 1),is (i hi),is (.bool qq3),is (.bool qq3),gdv (True∧qq3=true) (p b1 1),gdv (True∧qq3=true) (i hi),gdv (True∧qq3=true) (i c),gdv (True∧qq3=true) (.bool (decide (hi≤c))),is (.bool qq4),is (.bool qq4)] (by kernel_rfl) (Mi (Mi (Mi (Mi (Mi (Mi (Mi (Mg (Mg (Mg (Mg (Mi (Mi Mono.nil))))))))))))) (fun w' k=>H.ext k) ?_ ?_
  · refine ⟨?_,?_,?_,?_,?_,?_,?_,?_,?_,?_,?_,?_,?_,trivial⟩
    · exact Ob.q rfl (fun _ _ B U D=>(zA uI (show (_:Value)=(p b1 0) from U 3 rfl) rfl)) rfl rfl
    · exact Ob.q rfl (fun _ _ B U D=>(zE zM (D 0 rfl) (B.cells 0 rfl) (j:=0) rfl rfl)) rfl rfl
    · exact Ob.q rfl (fun _ _ B U D=>(zB (show (_:Value)=(i b) from U 1 rfl))) rfl rfl
    · exact Ob.q rfl (fun _ _ B U D=>(zA uB (show (_:Value)=(p b1 0) from U 3 rfl) rfl)) rfl rfl
    · exact Ob.q rfl (fun _ _ B U D=>(zE zM (D 3 rfl) (B.cells 0 rfl) (j:=1) rfl rfl)) rfl rfl
    · exact Ob.mk rfl fun ρ' w' B U D=>zH rfl en41 (ce (v:=(i lo)) (D 1 rfl) (ce (v:=(i b)) (D 2 rfl) (ce (v:=(i hi)) (D 4 rfl) cn))) (c41 lo b hi _ ) (fun u w2 k2 hu=>⟨k2,hu⟩)
    · exact Ob.q rfl (fun _ _ B U D=>(zB (D 5 rfl))) rfl rfl
    · exact Ob.g0 rfl rfl (fun _ _ _ D=>D 6 rfl) rfl (fun _ _ B U D hC hg=>(zA uB (show (_:Value)=(p b1 0) from U 3 rfl) rfl)) rfl
    · exact Ob.g0 rfl rfl (fun _ _ _ D=>D 6 rfl) rfl (fun _ _ B U D hC hg=>(zE zM (gdy (D 7 rfl) ⟨hC,hg⟩) (B.cells 0 rfl) (j:=1) rfl rfl)) rfl
    · exact Ob.g0 rfl rfl (fun _ _ _ D=>D 6 rfl) rfl (fun _ _ B U D hC hg=>(zB (show (_:Value)=(i c) from U 2 rfl))) rfl
    · exact Ob.g0 rfl rfl (fun _ _ _ D=>D 6 rfl) rfl (fun _ _ B U D hC hg=>(vD (gdy (D 8 rfl) ⟨hC,hg⟩) (gdy (D 9 rfl) ⟨hC,hg⟩))) rfl
    · exact Ob.q rfl (fun _ _ B U D=>(zQ (v:=(.bool qq4)) (D 6 rfl) (fun eP=>(gdy (D 10 rfl) ⟨trivial,eP⟩).trans (yF eP)) (fun eP=>yE eP))) rfl rfl
    · exact Ob.q rfl (fun _ _ B U D=>(zD (D 11 rfl))) rfl rfl
  intro ρ5 w6 k7 U8 D9;replace H:=H.ext k7
  have f10:ρ5 6=(.bool qq4):=D9 12 rfl
  clear U8 D9 k7
  refine Ro.nil (nT (Wp.ret (zN ?_)))
  refine zI (v:=(.bool ((decide (b≤lo) && decide (lo≤hi)) && (decide (hi≤c))))) Tryz.results79 f10 ⟨H.keep,?_⟩
  rfl
theorem c31 (lo:Int) (hi:Int) (w:World)   : Rv Tryz.prog 31 [(.agg #[(i lo),(i hi)])] w (.agg #[(i lo),(i hi)]):=by
  refine Ret.body (N:=8) Tryz.func31 rfl Tryz.ntmps31 rfl ?_
  have H:=S.start Nm w
  refine Wp.seq (Wp.region ?_)
  refine Ro.d rfl rfl rfl (H.box (l:=[i lo,i hi]) rfl (v:=(.agg #[(i lo),(i hi)])) rfl rfl ?_)
  intro b1 w2 Hn;replace H:=Hn;clear Hn
  refine Ro.d rfl rfl rfl (H.new (l:=[i 0,i 0]) rfl zv41 rfl ?_)
  intro b3 w4 Hn;replace H:=Hn;clear Hn
  refine Ro.nil (nT (Wp.seq (Wp.region ?_)))
  refine Ro.q (v:=(p b1 0)) rfl rfl (zA uI rfl rfl) rfl ?_
  refine Ro.q rfl rfl (zE zM rfl (H.cells 1 rfl) (j:=0) rfl rfl) rfl ?_
  refine Ro.q (v:=(p b1 1)) rfl rfl (zA uB rfl rfl) rfl ?_
  refine Ro.q rfl rfl (zE zM rfl (H.cells 1 rfl) (j:=1) rfl rfl) rfl ?_
  refine Ro.q (v:=(.agg #[(i lo),(i hi)])) rfl rfl (zP (v:=(.agg #[(i lo),(i hi)])) (pe (v:=(i lo)) rfl (pe (v:=(i hi)) rfl pn)) (fun w=>by kernel_rfl)) rfl ?_
  refine Ro.d0 rfl rfl rfl (H.store (j:=0) (off:=0) (k:=2) rfl sz41 rfl (v:=(.agg #[(i lo),(i hi)])) rfl rfl rfl rfl rfl (by simp [Value.oneCell']) (cs':=[i lo,i hi]) rfl ?_)
  intro w5 Hn;replace H:=Hn;clear Hn
  refine Ro.nil (nT (Wp.ret (zN ?_)))
  refine yW (vs:=[i lo,i hi]) Tryz.results31 rfl vL (H.cells 0 rfl) rfl ⟨H.keep,?_⟩
  rfl
theorem c61 (lo:Int) (hi:Int) (w:World)   : Rv Tryz.prog 61 [(.agg #[(i lo),(i hi)])] w (.agg #[(i lo),(i hi)]):=by
  refine Ret.body (N:=8) Tryz.func61 rfl Tryz.ntmps61 rfl ?_
  have H:=S.start Nm w
  refine Wp.seq (Wp.region ?_)
  refine Ro.d rfl rfl rfl (H.box (l:=[i lo,i hi]) rfl (v:=(.agg #[(i lo),(i hi)])) rfl rfl ?_)
  intro b1 w2 Hn;replace H:=Hn;clear Hn
  refine Ro.d rfl rfl rfl (H.new (l:=[i 0,i 0]) rfl zv41 rfl ?_)
  intro b3 w4 Hn;replace H:=Hn;clear Hn
  refine Ro.nil (nT (Wp.seq (Wp.region ?_)))
  refine Ro.q (v:=(p b1 0)) rfl rfl (zA uI rfl rfl) rfl ?_
  refine Ro.q rfl rfl (zE zM rfl (H.cells 1 rfl) (j:=0) rfl rfl) rfl ?_
  refine Ro.q (v:=(p b1 1)) rfl rfl (zA uB rfl rfl) rfl ?_
  refine Ro.q rfl rfl (zE zM rfl (H.cells 1 rfl) (j:=1) rfl rfl) rfl ?_
  refine Ro.q (v:=(.agg #[(i lo),(i hi)])) rfl rfl (zP (v:=(.agg #[(i lo),(i hi)])) (pe (v:=(i lo)) rfl (pe (v:=(i hi)) rfl pn)) (fun w=>by kernel_rfl)) rfl ?_
  refine Ro.d0 rfl rfl rfl (H.store (j:=0) (off:=0) (k:=2) rfl sz41 rfl (v:=(.agg #[(i lo),(i hi)])) rfl rfl rfl rfl rfl (by simp [Value.oneCell']) (cs':=[i lo,i hi]) rfl ?_)
  intro w5 Hn;replace H:=Hn;clear Hn
  refine Ro.nil (nT (Wp.ret (zN ?_)))
  refine yW (vs:=[i lo,i hi]) Tryz.results61 rfl vL (H.cells 0 rfl) rfl ⟨H.keep,?_⟩
  rfl
theorem c42 (a:Int) (b:Int) (w:World)   : Rv Tryz.prog 42 [(i a),(i b)] w (.agg #[(i a),(i b)]):=by
  refine Ret.body (N:=8) Tryz.func42 rfl Tryz.ntmps42 rfl ?_
  have H:=S.start Nm w
  refine Wp.seq (Wp.region ?_)
  refine Ro.d rfl rfl rfl (H.new (l:=[i 0,i 0]) rfl zv41 rfl ?_)
  intro b1 w2 Hn;replace H:=Hn;clear Hn
  refine Ro.nil (nT (Wp.seq (Wp.region ?_)))
  refine Ro.q (v:=(i a)) rfl rfl (zB rfl) rfl ?_
  refine Ro.q (v:=(i b)) rfl rfl (zB rfl) rfl ?_
  refine Ro.q (v:=(.agg #[(i a),(i b)])) rfl rfl (zP (v:=(.agg #[(i a),(i b)])) (pe (v:=(i a)) rfl (pe (v:=(i b)) rfl pn)) (fun w=>by kernel_rfl)) rfl ?_
  refine Ro.d0 rfl rfl rfl (H.store (j:=0) (off:=0) (k:=2) rfl sz41 rfl (v:=(.agg #[(i a),(i b)])) rfl rfl rfl rfl rfl (by simp [Value.oneCell']) (cs':=[i a,i b]) rfl ?_)
  intro w3 Hn;replace H:=Hn;clear Hn
  refine Ro.nil (nT (Wp.ret (zN ?_)))
  refine yW (vs:=[i a,i b]) Tryz.results42 rfl vL (H.cells 0 rfl) rfl ⟨H.keep,?_⟩
  rfl
theorem c59 (s:Int) (a:Int) (b:Int) (w:World)  (h:I64 (b-a)):Rv Tryz.prog 59 [(i s),(.agg #[(i a),(i b)])] w (.bool (decide (b-a≤s))):=by
  refine Ret.body (N:=12) Tryz.func59 rfl Tryz.ntmps59 rfl ?_
  have H:=S.start Nm w
  refine Wp.seq (Wp.region ?_)
  refine Ro.d rfl rfl rfl (H.box (l:=[i a,i b]) rfl (v:=(.agg #[(i a),(i b)])) rfl rfl ?_)
  intro b1 w2 Hn;replace H:=Hn;clear Hn
  refine Ro.q (v:=(.bool false)) rfl rfl (zD rfl) rfl ?_
  refine Ro.nil (nT (Wp.seq (Wp.region ?_)))
  refine Ro.q (v:=(p b1 1)) rfl rfl (zA yZ rfl rfl) rfl ?_
  refine Ro.q rfl rfl (zE zM rfl (H.cells 0 rfl) (j:=1) rfl rfl) rfl ?_
  refine Ro.q (v:=(p b1 0)) rfl rfl (zA yV rfl rfl) rfl ?_
  refine Ro.q rfl rfl (zE zM rfl (H.cells 0 rfl) (j:=0) rfl rfl) rfl ?_
  refine Ro.q rfl rfl (yT rfl rfl h) rfl ?_
  refine Ro.q (v:=(i s)) rfl rfl (zB rfl) rfl ?_
  refine Ro.q rfl rfl (vD rfl rfl) rfl ?_
  refine Ro.q (v:=(.bool (decide ((b-a)≤s)))) rfl rfl (zD rfl) rfl ?_
  refine Ro.nil (nT (Wp.ret (zN ?_)))
  refine zI (v:=(.bool (decide ((b-a)≤s)))) Tryz.results59 rfl ⟨H.keep,?_⟩
  rfl
theorem c75 (a:Int) (b:Int) (n:Int) (w:World)   : Rv Tryz.prog 75 [(.agg #[(i a),(i b)]),(i n)] w (.agg #[(i (min a n)),(i (max b n))]):=by
  refine Ret.body (N:=14) Tryz.func75 rfl Tryz.ntmps75 rfl ?_
  have H:=S.start Nm w
  refine Wp.seq (Wp.region ?_)
  refine Ro.d rfl rfl rfl (H.box (l:=[i a,i b]) rfl (v:=(.agg #[(i a),(i b)])) rfl rfl ?_)
  intro b1 w2 Hn;replace H:=Hn;clear Hn
  refine Ro.d rfl rfl rfl (H.new (l:=[i 0,i 0]) rfl zv25 rfl ?_)
  intro b3 w4 Hn;replace H:=Hn;clear Hn
  refine Ro.nil (nT (Wp.seq (Wp.region ?_)))
  refine Ro.q (v:=(p b1 0)) rfl rfl (zA uI rfl rfl) rfl ?_
  refine Ro.q rfl rfl (zE zM rfl (H.cells 1 rfl) (j:=0) rfl rfl) rfl ?_
  refine Ro.q (v:=(i n)) rfl rfl (zB rfl) rfl ?_
  refine Ro.q rfl rfl (r_min2 rfl rfl) rfl ?_
  refine Ro.q (v:=(p b1 1)) rfl rfl (zA uB rfl rfl) rfl ?_
  refine Ro.q rfl rfl (zE zM rfl (H.cells 1 rfl) (j:=1) rfl rfl) rfl ?_
  refine Ro.q (v:=(i n)) rfl rfl (zB rfl) rfl ?_
  refine Ro.q rfl rfl (r_max2 rfl rfl) rfl ?_
  refine Ro.q (v:=(.agg #[(i (min a n)),(i (max b n))])) rfl rfl (zP (v:=(.agg #[(i (min a n)),(i (max b n))])) (pe (v:=(i (min a n))) rfl (pe (v:=(i (max b n))) rfl pn)) (fun w=>by kernel_rfl)) rfl ?_
  refine Ro.d0 rfl rfl rfl (H.store (j:=0) (off:=0) (k:=2) rfl sz25 rfl (v:=(.agg #[(i (min a n)),(i (max b n))])) rfl rfl rfl rfl rfl (by simp [Value.oneCell']) (cs':=[i (min a n),i (max b n)]) rfl ?_)
  intro w5 Hn;replace H:=Hn;clear Hn
  refine Ro.nil (nT (Wp.ret (zN ?_)))
  refine yW (vs:=[i (min a n),i (max b n)]) Tryz.results75 rfl ta25 (H.cells 0 rfl) rfl ⟨H.keep,?_⟩
  rfl
theorem c134 (a:Int) (b:Int) (n:Int) (w:World)   : Rv Tryz.prog 134 [(.agg #[(i a),(i b)]),(i n)] w (i (min a n)):=by
  refine Ret.body (N:=9) Tryz.func134 rfl Tryz.ntmps134 rfl ?_
  have H:=S.start Nm w
  refine Wp.seq (Wp.region ?_)
  refine Ro.d rfl rfl rfl (H.box (l:=[i a,i b]) rfl (v:=(.agg #[(i a),(i b)])) rfl rfl ?_)
  intro b1 w2 Hn;replace H:=Hn;clear Hn
  refine Ro.q (v:=(i 0)) rfl rfl (zD rfl) rfl ?_
  refine Ro.nil (nT (Wp.seq (Wp.region ?_)))
  refine Ro.q (v:=(p b1 0)) rfl rfl (zA yV rfl rfl) rfl ?_
  refine Ro.q rfl rfl (zE zM rfl (H.cells 0 rfl) (j:=0) rfl rfl) rfl ?_
  refine Ro.q (v:=(i n)) rfl rfl (zB rfl) rfl ?_
  refine Ro.q rfl rfl (r_min2 rfl rfl) rfl ?_
  refine Ro.q (v:=(i (min a n))) rfl rfl (zD rfl) rfl ?_
  refine Ro.nil (nT (Wp.ret (zN ?_)))
  refine zI (v:=(i (min a n))) Tryz.results134 rfl ⟨H.keep,?_⟩
  rfl
theorem c135 (a:Int) (b:Int) (n:Int) (w:World)   : Rv Tryz.prog 135 [(.agg #[(i a),(i b)]),(i n)] w (i (max b n)):=by
  refine Ret.body (N:=9) Tryz.func135 rfl Tryz.ntmps135 rfl ?_
  have H:=S.start Nm w
  refine Wp.seq (Wp.region ?_)
  refine Ro.d rfl rfl rfl (H.box (l:=[i a,i b]) rfl (v:=(.agg #[(i a),(i b)])) rfl rfl ?_)
  intro b1 w2 Hn;replace H:=Hn;clear Hn
  refine Ro.q (v:=(i 0)) rfl rfl (zD rfl) rfl ?_
  refine Ro.nil (nT (Wp.seq (Wp.region ?_)))
  refine Ro.q (v:=(p b1 1)) rfl rfl (zA yZ rfl rfl) rfl ?_
  refine Ro.q rfl rfl (zE zM rfl (H.cells 0 rfl) (j:=1) rfl rfl) rfl ?_
  refine Ro.q (v:=(i n)) rfl rfl (zB rfl) rfl ?_
  refine Ro.q rfl rfl (r_max2 rfl rfl) rfl ?_
  refine Ro.q (v:=(i (max b n))) rfl rfl (zD rfl) rfl ?_
  refine Ro.nil (nT (Wp.ret (zN ?_)))
  refine zI (v:=(i (max b n))) Tryz.results135 rfl ⟨H.keep,?_⟩
  rfl
end Go.Proofs.YthfnjppieihcfaaGreat
namespace Men
structure Rg where
  lo:Int
  hi:Int
  deriving DecidableEq
structure Band where
  frm:Int
  creep:Rg
structure Depth where
  frm:Int
  sink:Int
structure Glass where
  base:Int
  bands:List Band
  depths:List Depth
  back:Rg
structure Ice where
  day:Int
  zero:Int
  err:Int
def Rg.has (r:Rg) (n:Int):Prop:=r.lo≤n∧n≤r.hi
instance (r:Rg) (n:Int):Decidable (r.has n):=inferInstanceAs (Decidable (_∧_))
def Rg.to (r:Rg) (high:Int):Prop:=0≤r.lo∧r.lo≤r.hi∧r.hi≤high
instance (r:Rg) (n:Int):Decidable (r.to n):=inferInstanceAs (Decidable (_∧_∧_))
/-- rise and sink of a day -/
abbrev St:=Int×Int
def zL (bs:List Band) (day:Int):Rg:=bs.foldl (fun r b=>if b.frm≤day then b.creep else r) ⟨0,0⟩
def zV (ds:List Depth) (heat:Int):Int:=ds.foldl (fun n d=>if d.frm≤heat then d.sink else n) 0
def after (s:St) (c b k:Int):St:=(s.1+c,max (max (s.2-b) 0) k)
def Glass.zero (g:Glass) (s:St):Int:=g.base+s.1-s.2
def sinkSet (ds:List Depth) (r:Rg) (k:Int):Prop:=∃ heat,r.has heat∧k=zV ds heat
def vG (ds:List Depth) (r:Rg):List Int :=
  zV ds r.lo :: (ds.filter (fun d=>decide (r.lo<d.frm) && decide (d.frm≤r.hi))).map (·.sink)
def Rising (ds:List Depth):Prop:=ds.Pairwise (fun a b=>a.frm<b.frm)
theorem sinksOf_spec_aux (heat:Int) : ∀ (ds:List Depth) (n:Int),Rising ds →
    (ds.foldl (fun n d=>if d.frm≤heat then d.sink else n) n=n∧∀ d∈ds,heat<d.frm) ∨
    ∃ d∈ds,d.frm≤heat∧ds.foldl (fun n d=>if d.frm≤heat then d.sink else n) n=d.sink∧∀ d'∈ds,d'.frm≤heat→d'.frm≤d.frm
  | [],n,_=>.inl ⟨rfl,by simp⟩
  | d :: ds,n,hs=>by
    obtain ⟨h1,h2⟩:=List.pairwise_cons.1 hs
    rw [List.foldl_cons]
    rcases sinksOf_spec_aux heat ds (if d.frm≤heat then d.sink else n) h2 with ⟨he,hn⟩ | ⟨e,he,hle,heq,hmax⟩
    · by_cases hd:d.frm≤heat
      · refine .inr ⟨d,by simp,hd,by rw [he,if_pos hd],?_⟩
        intro d' hd' hle
        rcases List.mem_cons.1 hd' with rfl | hd'
        · exact Int.le_refl _
        · have:=hn d' hd';omega
      · refine .inl ⟨by rw [he,if_neg hd],?_⟩
        intro d' hd'
        rcases List.mem_cons.1 hd' with rfl | hd'
        · omega
        · exact hn d' hd'
    · refine .inr ⟨e,by simp [he],hle,heq,?_⟩
      intro d' hd' hle'
      rcases List.mem_cons.1 hd' with rfl | hd'
      · have:=h1 e he;omega
      · exact hmax d' hd' hle'
/-- what a heat sinks: the sink of the last depth that is not beyond it -/
theorem sinksOf_spec (ds:List Depth) (hs:Rising ds) (heat:Int) :
    (zV ds heat=0∧∀ d∈ds,heat<d.frm) ∨
    ∃ d∈ds,d.frm≤heat∧zV ds heat=d.sink∧∀ d'∈ds,d'.frm≤heat→d'.frm≤d.frm :=
  sinksOf_spec_aux heat ds 0 hs
theorem rising_inj {ds:List Depth} (hs:Rising ds) {a b:Depth} (ha:a∈ds) (hb:b∈ds) (h:a.frm=b.frm):a=b:=by
  induction ds with
  | nil=>cases ha
  | cons x ds ih =>
    obtain ⟨h1,h2⟩:=List.pairwise_cons.1 hs
    rcases List.mem_cons.1 ha with ea | ha' <;>rcases List.mem_cons.1 hb with eb | hb'
    · rw [ea,eb]
    · have:=h1 b hb';rw [ea] at h;omega
    · have:=h1 a ha';rw [eb] at h;omega
    · exact ih h2 ha' hb'
theorem mem_progDepths {ds:List Depth} (hs:Rising ds) {r:Rg} (hr:r.lo≤r.hi) (k:Int) :
    k∈vG ds r↔sinkSet ds r k:=by
  unfold vG sinkSet Rg.has
  simp only [List.mem_cons,List.mem_map,List.mem_filter,Bool.and_eq_true,decide_eq_true_eq]
  constructor
  · rintro (rfl | ⟨d,⟨hd,hlo,hhi⟩,rfl⟩)
    · exact ⟨r.lo,⟨by omega,hr⟩,rfl⟩
    · refine ⟨d.frm,⟨by omega,hhi⟩,?_⟩
      rcases sinksOf_spec ds hs d.frm with ⟨_,hn⟩ | ⟨e,he,hle,heq,hmax⟩
      · have:=hn d hd;omega
      · rw [heq,rising_inj hs he hd (by have:=hmax d hd (by omega);omega)]
  · rintro ⟨heat,⟨hlo,hhi⟩,rfl⟩
    rcases sinksOf_spec ds hs heat with ⟨h0,hn⟩ | ⟨e,he,hle,heq,hmax⟩
    · left
      rcases sinksOf_spec ds hs r.lo with ⟨h0',_⟩ | ⟨e,he,hle,_,_⟩
      · rw [h0,h0']
      · have:=hn e he;omega
    · by_cases hel:e.frm≤r.lo
      · left
        rcases sinksOf_spec ds hs r.lo with ⟨_,hn⟩ | ⟨e',he',hle',heq',hmax'⟩
        · have:=hn e he;omega
        · rw [heq,heq',rising_inj hs he he' (by have:=hmax' e he hel;have:=hmax e' he' (by omega);omega)]
      · right
        exact ⟨e,⟨he,by omega,by omega⟩,heq.symm⟩
end Men
namespace Men
def vN (h:List Rg) (d:Nat):Rg:=h.getD d ⟨0,0⟩
/-- from one day's state to the next one's -/
def Nxt (g:Glass) (h:List Rg) (d:Nat) (s t:St):Prop :=
  ∃ c b k,(zL g.bands d).has c∧g.back.has b∧sinkSet g.depths (vN h d) k∧t=after s c b k
def Ice.agrees (i:Ice) (z:Int):Prop:=-i.err≤z-i.zero∧z-i.zero≤i.err
def fitsI (ices:List Ice) (d:Int) (z:Int):Prop:=∀ i∈ices,i.day=d→i.agrees z
/-- what can be behind so many days -/
def R (g:Glass) (h:List Rg) (ices:List Ice):Nat→St→Prop
  | 0,s=>s=(0,0)
  | d+1,t=>∃ s,R g h ices d s∧Nxt g h d s t∧fitsI ices d (g.zero t)
/-- .. and leads on for k days -/
def Bk (g:Glass) (h:List Rg) (ices:List Ice):Nat→Nat→St→Prop
  | 0,d,t=>R g h ices d t
  | k+1,d,t=>R g h ices d t∧∃ u,Nxt g h d t u∧Bk g h ices k (d+1) u
theorem Bk.r {g h ices} : ∀ {k d t},Bk g h ices k d t→R g h ices d t
  | 0,_,_,hb=>hb
  | _+1,_,_,hb=>hb.1
/-- a zero of the day d that can be -/
def Zset (g:Glass) (h:List Rg) (ices:List Ice) (d:Nat) (z:Int):Prop :=
  ∃ t,Bk g h ices (h.length-(d+1)) (d+1) t∧z=g.zero t
def IsR (S:Int→Prop) (r:Rg):Prop:=S r.lo∧S r.hi∧∀ z,S z→r.lo≤z∧z≤r.hi
theorem IsR.unique {S:Int→Prop} {r r':Rg} (a:IsR S r) (b:IsR S r'):r=r':=by
  obtain ⟨a1,a2,a3⟩:=a
  obtain ⟨b1,b2,b3⟩:=b
  have h1:=a3 _ b1
  have h2:=a3 _ b2
  have h3:=b3 _ a1
  have h4:=b3 _ a2
  cases r;cases r'
  simp only [Rg.mk.injEq] at *
  omega
def ZerosAre (g:Glass) (h:List Rg) (ices:List Ice) (zs:List Rg):Prop :=
  zs.length=h.length∧∀ d,d<h.length→IsR (Zset g h ices d) (vN zs d)
def Agree (g:Glass) (h:List Rg) (ices:List Ice):Prop:=∃ t,R g h ices h.length t
theorem ZerosAre.unique {g h ices} {zs zs':List Rg} (a:ZerosAre g h ices zs) (b:ZerosAre g h ices zs'):zs=zs':=by
  refine List.ext_getElem (a.1.trans b.1.symm) fun i h1 h2=>?_
  have:=(a.2 i (a.1 ▸ h1)).unique (b.2 i (a.1 ▸ h1))
  simpa [vN,List.getD,h1,h2] using this
theorem fitsI.mono {ices ices':List Ice} (hs : ∀ i∈ices,i∈ices') {d z:Int} (h:fitsI ices' d z):fitsI ices d z :=
  fun i hi hd=>h i (hs i hi) hd
theorem R.mono {g h} {ices ices':List Ice} (hs : ∀ i∈ices,i∈ices') : ∀ {d t},R g h ices' d t→R g h ices d t
  | 0,_,hr=>hr
  | _+1,_,⟨s,hr,hn,hf⟩=>⟨s,R.mono hs hr,hn,hf.mono hs⟩
theorem Bk.mono {g h} {ices ices':List Ice} (hs : ∀ i∈ices,i∈ices') : ∀ {k d t},Bk g h ices' k d t→Bk g h ices k d t
  | 0,_,_,hr=>R.mono hs hr
  | _+1,_,_,⟨hr,u,hn,hb⟩=>⟨R.mono hs hr,u,hn,Bk.mono hs hb⟩
theorem Zset.mono {g h} {ices ices':List Ice} (hs : ∀ i∈ices,i∈ices') {d z} (hz:Zset g h ices' d z):Zset g h ices d z :=
  let ⟨t,ht,e⟩:=hz;⟨t,ht.mono hs,e⟩
structure GlassOk (g:Glass):Prop where
  bands3:g.bands.length≤3
  depths4:g.depths.length≤4
  base : -1000≤g.base∧g.base≤1000
  back:g.back.to 5
  bands0 : ∃ b bs,g.bands=b :: bs∧b.frm=0
  bandsIn : ∀ b∈g.bands,(0≤b.frm∧b.frm≤16)∧b.creep.to 3
  bandsUp:g.bands.Pairwise (fun a b=>a.frm<b.frm)
  depths0:g.depths≠[]
  depthsIn : ∀ d∈g.depths,(0≤d.frm∧d.frm≤500)∧(0≤d.sink∧d.sink≤30)
  depthsUp:g.depths.Pairwise (fun a b=>a.frm<b.frm∧a.sink≤b.sink)
structure HistOk (h:List Rg):Prop where
  pos:0<h.length
  len:h.length≤16
  each : ∀ r∈h,r.to 500
structure IcesOk (h:List Rg) (ices:List Ice):Prop where
  len:ices.length≤8
  each : ∀ i∈ices,(0≤i.day∧i.day<h.length)∧(-2000≤i.zero∧i.zero≤2000)∧(0≤i.err∧i.err≤20)
theorem GlassOk.rising {g:Glass} (o:GlassOk g):Rising g.depths:=o.depthsUp.imp fun h=>h.1
theorem creepOf_to_aux (bs:List Band) (hb : ∀ b∈bs,b.creep.to 3) (day:Int) : ∀ r:Rg,r.to 3→(bs.foldl (fun r b=>if b.frm≤day then b.creep else r) r).to 3:=by
  induction bs with
  | nil=>exact fun r hr=>hr
  | cons b bs ih =>
    intro r hr
    rw [List.foldl_cons]
    refine ih (fun x hx=>hb x (by simp [hx])) _ ?_
    split
    · exact hb b (by simp)
    · exact hr
theorem creepOf_to {g:Glass} (o:GlassOk g) (day:Int):(zL g.bands day).to 3 :=
  creepOf_to_aux _ (fun b hb=>(o.bandsIn b hb).2) day _ (by unfold Rg.to;decide)
theorem sinksOf_in_aux (ds:List Depth) (hb : ∀ d∈ds,0≤d.sink∧d.sink≤30) (heat:Int) : ∀ n:Int,0≤n∧n≤30 →
    0≤ds.foldl (fun n d=>if d.frm≤heat then d.sink else n) n∧ds.foldl (fun n d=>if d.frm≤heat then d.sink else n) n≤30:=by
  induction ds with
  | nil=>exact fun n hn=>hn
  | cons b bs ih =>
    intro r hr
    rw [List.foldl_cons]
    refine ih (fun x hx=>hb x (by simp [hx])) _ ?_
    split
    · exact hb b (by simp)
    · exact hr
theorem sinksOf_in {g:Glass} (o:GlassOk g) (heat:Int):0≤zV g.depths heat∧zV g.depths heat≤30 :=
  sinksOf_in_aux _ (fun d hd=>(o.depthsIn d hd).2) heat 0 (by decide)
theorem Nxt.bounds {g:Glass} (o:GlassOk g) {h:List Rg} {d:Nat} {s t:St} (hs:0≤s.1∧0≤s.2∧s.2≤30) (hn:Nxt g h d s t) :
    s.1≤t.1∧t.1≤s.1+3∧0≤t.2∧t.2≤30:=by
  obtain ⟨c,b,k,hc,hb,⟨heat,_,rfl⟩,rfl⟩:=hn
  have h1:=creepOf_to o d
  have h2:=o.back
  have h3:=sinksOf_in o heat
  unfold Rg.has Rg.to at *
  simp only [after]
  omega
theorem R.bounds {g:Glass} (o:GlassOk g) {h ices} : ∀ {d t},R g h ices d t→0≤t.1∧t.1≤3*(d:Int)∧0≤t.2∧t.2≤30
  | 0,t,hr=>by cases hr;decide
  | d+1,t,⟨s,hr,hn,_⟩=>by
    have hb:=R.bounds o hr
    have:=hn.bounds o ⟨hb.1,hb.2.2⟩
    omega
end Men
namespace Men
open Go
abbrev iv (n:Int):Value:=.int .i64 n
abbrev yD (n:Int):List Value:=[iv n]
def yH (b:Band):List Value:=[iv b.frm,iv b.creep.lo,iv b.creep.hi]
def zZ (d:Depth):List Value:=[iv d.frm,iv d.sink]
def rgV (r:Rg):List Value:=[iv r.lo,iv r.hi]
def iceV (x:Ice):List Value:=[iv x.day,iv x.zero,iv x.err]
/-- the band j is right, by itself and behind the one before it -/
def bandAt (bs:List Band) (j:Nat):Prop:=∀ b,bs[j]? = some b→(0≤b.frm∧b.frm≤16)∧(b.creep.to 3)∧(0<j→∀ a,bs[j-1]? = some a→a.frm<b.frm)
def BandsOk (bs:List Band):Prop:=(∀ j,bandAt bs j)∧∃ b,bs[0]? = some b∧b.frm=0
def depthAt (ds:List Depth) (j:Nat):Prop:=∀ d,ds[j]? = some d→((0≤d.frm∧d.frm≤500)∧(0≤d.sink∧d.sink≤30))∧(0<j→∀ a,ds[j-1]? = some a→a.frm<d.frm∧a.sink≤d.sink)
def DepthsOk (ds:List Depth):Prop:=(∀ j,depthAt ds j)∧0<ds.length
open Classical in
noncomputable def bandsB (bs:List Band):Bool:=decide (BandsOk bs)
open Classical in
noncomputable def uD (ds:List Depth):Bool:=decide (DepthsOk ds)
theorem bandsB_true {bs:List Band}:bandsB bs=true↔BandsOk bs:=by unfold bandsB;simp
theorem bandsB_false {bs:List Band}:bandsB bs=false↔¬ BandsOk bs:=by unfold bandsB;simp
theorem depthsB_true {ds:List Depth}:uD ds=true↔DepthsOk ds:=by unfold uD;simp
theorem depthsB_false {ds:List Depth}:uD ds=false↔¬ DepthsOk ds:=by unfold uD;simp
def vB:List Int→Int
  | []=>0
  | x :: xs=>xs.foldl max x
def vS:List Int→Int
  | []=>0
  | x :: xs=>xs.foldl min x
theorem maxL_take {l:List Int} {n:Nat} {e:Int} (h0:0<n) (h:l[n]? = some e):vB (l.take (n+1))=max (vB (l.take n)) e:=by
  have hn:=(List.getElem?_eq_some_iff.1 h).1
  have:l.take (n+1)=l.take n++[e]:=by rw [List.take_add_one,h];rfl
  rw [this]
  cases l with
  | nil=>simp at hn
  | cons x xs =>
    obtain ⟨m,rfl⟩ : ∃ m,n=m+1:=⟨n-1,by omega⟩
    simp [vB,List.foldl_append]
theorem minL_take {l:List Int} {n:Nat} {e:Int} (h0:0<n) (h:l[n]? = some e):vS (l.take (n+1))=min (vS (l.take n)) e:=by
  have hn:=(List.getElem?_eq_some_iff.1 h).1
  have:l.take (n+1)=l.take n++[e]:=by rw [List.take_add_one,h];rfl
  rw [this]
  cases l with
  | nil=>simp at hn
  | cons x xs =>
    obtain ⟨m,rfl⟩ : ∃ m,n=m+1:=⟨n-1,by omega⟩
    simp [vS,List.foldl_append]
def yM (n low high:Int):Bool:=decide (low≤n) && decide (n≤high)
def yL (lo hi low high:Int):Bool:=(decide (low≤lo) && decide (lo≤hi)) && decide (hi≤high)
noncomputable def yI (base:Int) (bs:List Band) (dl:List Depth) (blo bhi:Int):Int :=
  bif decide (3<((bs.length:Nat):Int)) || decide (4<((dl.length:Nat):Int)) then 3 else bif ((!yM base (-1000) 1000 || !yL blo bhi 0 5) || !bandsB bs) || !uD dl then 1 else 0
noncomputable def tubeE (base:Int) (bs:List Band) (dl:List Depth) (blo bhi klo khi llo lhi slo shi term:Int):Int :=
  bif decide (yI base bs dl blo bhi≠0) then yI base bs dl blo bhi else bif ((!yL klo khi 0 20 || !yL llo lhi 0 5) || !yL slo shi 0 3) || !yM term 0 16 then 1 else 0
def readB (days day shown err bare alo ahi rlo rhi deep:Int):Bool :=
  (((((yM day 0 (days-1) && yM shown (-5000) 5000) && yM err 0 20) && yM bare 0 300) && yL alo ahi (-100) 100) && yL rlo rhi (-20) 20) && yM deep 0 20
def yC (k bare shown air:Int):Int:=k*bare*(shown-10*air) / 100000
def zG (k lag sq shown bare deep air rate off:Int):Int:=shown+off+yC k bare shown air+rate*lag + -sq*deep
theorem take_succ' {α:Type} {l:List α} {n:Int} {e:α} (h0:0≤n) (h:l[n.toNat]? = some e):l.take (n+1).toNat=l.take n.toNat++[e]:=by
  rw [show (n+1).toNat=n.toNat+1 by omega,List.take_add_one,h];rfl
theorem fold_take {α β:Type} {l:List α} {n:Int} {e:α} {f:β→α→β} {z:β} (h0:0≤n) (h:l[n.toNat]? = some e):(l.take (n+1).toNat).foldl f z=f ((l.take n.toNat).foldl f z) e:=by
  rw [take_succ' h0 h,List.foldl_append];rfl
theorem all_take {α:Type} {l:List α} {n:Int} {e:α} {f:α→Bool} (h0:0≤n) (h:l[n.toNat]? = some e) (ha:(l.take n.toNat).all f=true) (he:f e=true):(l.take (n+1).toNat).all f=true:=by
  rw [take_succ' h0 h,List.all_append,ha];simp [he]
theorem all_bad {α:Type} {l:List α} {n:Nat} {e:α} {f:α→Bool} (h:l[n]? = some e) (he:f e=false):l.all f=false:=by
  rw [List.all_eq_false];exact ⟨e,List.mem_of_getElem? h,by simp [he]⟩
theorem all_end {α:Type} {l:List α} {n:Int} {f:α→Bool} (hn:l.length≤n) (ha:(l.take n.toNat).all f=true):l.all f=true:=by
  rwa [List.take_of_length_le (by omega)] at ha
theorem any_end {α:Type} {l:List α} {n:Int} {f:α→Bool} (hn:l.length≤n) (ha:(l.take n.toNat).any f=false):l.any f=false:=by
  rwa [List.take_of_length_le (by omega)] at ha
theorem any_take {α:Type} {l:List α} {n:Int} {e:α} {f:α→Bool} (h0:0≤n) (h:l[n.toNat]? = some e) (ha:(l.take n.toNat).any f=false) (he:f e=false):(l.take (n+1).toNat).any f=false:=by
  rw [take_succ' h0 h,List.any_append,ha];simp [he]
theorem any_good {α:Type} {l:List α} {n:Nat} {e:α} {f:α→Bool} (h:l[n]? = some e) (he:f e=true):l.any f=true:=by
  rw [List.any_eq_true];exact ⟨e,List.mem_of_getElem? h,he⟩
theorem fold_end {α β:Type} {l:List α} {n:Int} {f:β→α→β} {z:β} (hn:l.length≤n):(l.take n.toNat).foldl f z=l.foldl f z:=by
  rw [List.take_of_length_le (by omega)]
def heatB (r:Rg):Bool:=yL r.lo r.hi 0 500
def histE (h:List Rg):Int:=bif decide (16<((h.length:Nat):Int)) then 3 else bif !h.all heatB || decide (((h.length:Nat):Int)=0) then 2 else 0
def iceB (days:Int) (x:Ice):Bool:=(yM x.day 0 (days-1) && yM x.zero (-2000) 2000) && yM x.err 0 20
def icesE (days:Int) (ices:List Ice):Int:=bif decide (8<((ices.length:Nat):Int)) then 3 else bif !ices.all (iceB days) then 2 else 0
def hasB (l:List Int) (n:Int):Bool:=l.any fun x=>decide (x=n)
def agreesB (x:Ice) (z:Int):Bool:=decide (-x.err≤z-x.zero) && decide (z-x.zero≤x.err)
def fitsB (ices:List Ice) (day z:Int):Bool:=ices.all fun x=>!(decide (x.day=day) && !agreesB x z)
def lifeE (h:List Rg) (ices:List Ice):Int:=bif decide (histE h≠0) then histE h else icesE ((h.length:Nat):Int) ices
def uF (s:St):Value:=.agg #[iv s.1,iv s.2]
/-- what has come by then: of a state, with these creeps, backs and sinks -/
def Gone (s:St) (cr back:Rg) (xs:List Int) (t:St):Prop:=∃ c b k,cr.has c∧back.has b∧k∈xs∧t=after s c b k
theorem Gone.none_k {s:St} {cr back:Rg} {t:St} : ¬ Gone s cr back [] t:=fun ⟨_,_,_,_,_,h,_⟩=>by cases h
theorem Gone.none_b {s:St} {cr:Rg} {lo:Int} {xs:List Int} {t:St} : ¬ Gone s cr ⟨lo,lo-1⟩ xs t:=fun ⟨_,_,_,_,h,_,_⟩=>by unfold Rg.has at h;simp only at h;omega
theorem Gone.none_c {s:St} {back:Rg} {lo:Int} {xs:List Int} {t:St} : ¬ Gone s ⟨lo,lo-1⟩ back xs t:=fun ⟨_,_,_,h,_,_,_⟩=>by unfold Rg.has at h;simp only at h;omega
theorem Gone.step_k {s:St} {cr back:Rg} {xs:List Int} {k:Int} {t:St}:Gone s cr back (xs++[k]) t↔Gone s cr back xs t∨Gone s cr back [k] t:=by
  constructor
  · rintro ⟨c,b,q,h1,h2,h3,h4⟩
    rcases List.mem_append.1 h3 with h | h
    · exact .inl ⟨c,b,q,h1,h2,h,h4⟩
    · exact .inr ⟨c,b,q,h1,h2,h,h4⟩
  · rintro (⟨c,b,q,h1,h2,h3,h4⟩ | ⟨c,b,q,h1,h2,h3,h4⟩)
    · exact ⟨c,b,q,h1,h2,List.mem_append_left _ h3,h4⟩
    · exact ⟨c,b,q,h1,h2,List.mem_append_right _ h3,h4⟩
theorem Gone.step_b {s:St} {cr:Rg} {lo n:Int} {xs:List Int} {t:St} (h:lo≤n):Gone s cr ⟨lo,n⟩ xs t↔Gone s cr ⟨lo,n-1⟩ xs t∨Gone s cr ⟨n,n⟩ xs t:=by
  unfold Gone Rg.has
  constructor
  · rintro ⟨c,b,q,h1,h2,h3,h4⟩
    by_cases e:b≤n-1
    · exact .inl ⟨c,b,q,h1,⟨h2.1,e⟩,h3,h4⟩
    · exact .inr ⟨c,b,q,h1,⟨by simp only at *;omega,h2.2⟩,h3,h4⟩
  · rintro (⟨c,b,q,h1,h2,h3,h4⟩ | ⟨c,b,q,h1,h2,h3,h4⟩)
    · exact ⟨c,b,q,h1,by simp only at *;omega,h3,h4⟩
    · exact ⟨c,b,q,h1,by simp only at *;omega,h3,h4⟩
theorem Gone.step_c {s:St} {lo n b k:Int} {t:St} (h:lo≤n):Gone s ⟨lo,n⟩ ⟨b,b⟩ [k] t↔Gone s ⟨lo,n-1⟩ ⟨b,b⟩ [k] t∨t=after s n b k:=by
  unfold Gone Rg.has
  constructor
  · rintro ⟨c,b',q,h1,h2,h3,h4⟩
    simp only [List.mem_singleton] at h3
    subst h3
    have hb:b'=b:=by simp only at h2;omega
    subst hb
    by_cases e:c≤n-1
    · exact .inl ⟨c,b',q,⟨h1.1,e⟩,h2,by simp,h4⟩
    · have:c=n:=by simp only at h1;omega
      subst this;exact .inr h4
  · rintro (⟨c,b',q,h1,h2,h3,h4⟩ | rfl)
    · exact ⟨c,b',q,by simp only at *;omega,h2,h3,h4⟩
    · exact ⟨n,b,k,by simp only;omega,by simp,by simp,rfl⟩
noncomputable def vI (base:Int) (bs:List Band) (dl:List Depth) (blo bhi:Int) (h:List Rg):Int:=bif decide (yI base bs dl blo bhi≠0) then yI base bs dl blo bhi else histE h
noncomputable def icedE (base:Int) (bs:List Band) (dl:List Depth) (blo bhi:Int) (h:List Rg) (ices:List Ice):Int:=bif decide (vI base bs dl blo bhi h≠0) then vI base bs dl blo bhi h else icesE ((h.length:Nat):Int) ices
structure Rdg where
  day:Int
  shown:Int
  err:Int
  bare:Int
  alo:Int
  ahi:Int
  rlo:Int
  rhi:Int
  deep:Int
  broken:Bool
def rdV (x:Rdg):List Value:=[iv x.day,iv x.shown,iv x.err,iv x.bare,iv x.alo,iv x.ahi,iv x.rlo,iv x.rhi,iv x.deep,.bool x.broken]
/-- the range of some ranges -/
def Hull (l:List Rg) (lo hi:Int):Prop:=(∃ q∈l,lo=q.lo)∧(∃ q∈l,hi=q.hi)∧∀ q∈l,lo≤q.lo∧q.hi≤hi
def vA (shown err bare alo ahi deep k lag sq rate:Int):Rg :=
  ⟨min (zG k lag sq shown bare deep alo rate 0) (zG k lag sq shown bare deep ahi rate 0)-err,max (zG k lag sq shown bare deep alo rate 0) (zG k lag sq shown bare deep ahi rate 0)+err⟩
theorem hull_one {q:Rg} {lo hi:Int} (h1:lo=q.lo) (h2:hi=q.hi):Hull [q] lo hi :=
  ⟨⟨q,by simp,h1⟩,⟨q,by simp,h2⟩,by intro x hx;simp at hx;subst hx;omega⟩
theorem vU {l:List Rg} {q:Rg} {lo hi lo' hi':Int} (h:Hull l lo hi) (h1:lo'=min lo q.lo) (h2:hi'=max hi q.hi):Hull (l++[q]) lo' hi':=by
  obtain ⟨⟨a,ha,ea⟩,⟨b,hb,eb⟩,hall⟩:=h
  refine ⟨?_,?_,?_⟩
  · by_cases hc:lo≤q.lo
    · exact ⟨a,by simp [ha],by omega⟩
    · exact ⟨q,by simp,by omega⟩
  · by_cases hc:q.hi≤hi
    · exact ⟨b,by simp [hb],by omega⟩
    · exact ⟨q,by simp,by omega⟩
  · intro x hx
    rcases List.mem_append.1 hx with hx | hx
    · have:=hall x hx;omega
    · simp at hx;subst hx;omega
end Men
