/- Part of the proof: what the last text of this claim imports. -/
import Derived.Test.YthfnjppieihcfaaGreatW12
set_option linter.unusedSimpArgs false
set_option linter.unusedVariables false
set_option maxRecDepth 100000
namespace Go.Proofs.YthfnjppieihcfaaGreat
open Go.RowKit Go.Proofs Go.Mw
theorem en24:Go.Proofs.Enters Tryz.prog 24:=Go.Proofs.enters_of Tryz.func24 (by kernel_rfl) rfl
open Men
theorem c49 {t:Tb} {ab ad ah ai:Option Addr} {h:List Rg} {ices:List Ice} {cab cad cah cai:Nat} {x:Rdg} (w:World) (hab:Sl w 3 (t.bs.map yH) ab) (had:Sl w 2 (t.dl.map zZ) ad) (hah:Sl w 2 (h.map rgV) ah) (hai:Sl w 3 (ices.map iceV) ai) (G:Vld t h ices x) (ha:Agree t.glass h ices):Rv Tryz.prog 49 [(.agg (tbC t ab cab ad cad).toArray),(.slice ah h.length cah),(.slice ai ices.length cai),(.agg (rdC x).toArray)] w (.agg #[i (yR t h ices x).lo,i (yR t h ices x).hi]):=by
  have oG:=G.g
  have oH:=G.hi
  have oI:=G.ic
  have hhl:=oH.len
  have hil:=oI.len
  have hday:=G.day
  have hdy:0≤x.day∧x.day≤100:=by omega
  have hic : ∀ i∈ices,0≤i.day∧i.day≤100:=fun i hi=>by have:=(oI.each i hi).1;omega
  have htb:=G.tb
  have hrd:=G.rd
  have hwi:=wr_in htb hrd
  refine Ret.body (N:=40) Tryz.func49 rfl Tryz.ntmps49 rfl ?_
  have H:=S.start Nm w
  refine Wp.seq (Wp.region ?_)
  refine Ro.d rfl rfl rfl (H.box (l:=(tbC t ab cab ad cad)) rfl (v:=(.agg (tbC t ab cab ad cad).toArray)) rfl rfl ?_)
  intro b1 w2 Hn;replace H:=Hn;clear Hn
  refine Ro.d rfl rfl rfl (H.box (l:=(rdC x)) rfl (v:=(.agg (rdC x).toArray)) rfl rfl ?_)
  intro b3 w4 Hn;replace H:=Hn;clear Hn
  refine Ro.d rfl rfl rfl (H.new (l:=[i 0,i 0]) rfl zv25 rfl ?_)
  intro b5 w6 Hn;replace H:=Hn;clear Hn
  refine Ro.nil (nT (Wp.seq (Wp.region ?_)))
  refine Ro.q (v:=(p b1 0)) rfl rfl (zA fo29_0 rfl rfl) rfl ?_
  refine Ro.q rfl rfl (zJ ta27 rfl (H.cells 2 rfl) (j:=0) rfl (vs:=[i t.base,.slice ab t.bs.length cab,.slice ad t.dl.length cad,i t.blo,i t.bhi]) rfl rfl) rfl ?_
  refine Ro.q (v:=(.slice ah h.length cah)) rfl rfl (zB rfl) rfl ?_
  refine Ro.q (v:=(.slice ai ices.length cai)) rfl rfl (zB rfl) rfl ?_
  refine Ro.d rfl rfl rfl (zH rfl en24 (ce (v:=(.agg #[(i t.base),(.slice ab t.bs.length cab),(.slice ad t.dl.length cad),(i t.blo),(i t.bhi)])) rfl (ce (v:=(.slice ah h.length cah)) rfl (ce (v:=(.slice ai ices.length cai)) rfl (ce (v:=(.slice none 0 0)) rfl cn)))) (c24 _ (hab.ext H.keep) (had.ext H.keep) (hah.ext H.keep) (hai.ext H.keep) oG oH oI ha) ?_)
  have Hc9:=H
  rintro u w7 k8 ⟨a,c,zs,b,ob,rfl,hS,hz,hZ⟩
  replace H:=H.ext k8
  replace H:S Nm w [(b,ob),(b5,.cells [i 0,i 0].toArray 25 (0,0)),(b3,.cells (rdC x).toArray 33 (0,0)),(b1,.cells (tbC t ab cab ad cad).toArray 29 (0,0))] w7:=Hc9.join hS
  obtain rfl:=hZ.unique (zeros_ex oG hhl ha)
  have hzl:=hZ.1
  obtain ⟨z,hz0,hz1,_,hzb⟩:=zl_at oG hhl ha G.day.1 G.day.2
  refine Ro.q (v:=(.tuple #[(.slice a h.length c),(.bool true)])) rfl rfl (zB rfl) rfl ?_
  refine Ro.q (v:=(.slice a h.length c)) rfl rfl (zO rfl (j:=0) rfl) rfl ?_
  refine Ro.q (v:=(.bool true)) rfl rfl (zO rfl (j:=1) rfl) rfl ?_
  refine Ro.q (v:=(.slice a h.length c)) rfl rfl (zD rfl) rfl ?_
  refine Ro.q (v:=(.bool true)) rfl rfl (zD rfl) rfl ?_
  refine Ro.nil (nT (Wp.seq ?_))
  have hMo:Mono [is (.slice a h.length c),is (p b3 0),is (i x.day),is (p (blk a) (yP a+x.day.toNat*2)),is (.agg #[(i z.lo),(i z.hi)]),is (.agg (tbC t ab cab ad cad).toArray),is (.agg (rdC x).toArray),is (.agg #[(i ((wr t x).lo)),(i ((wr t x).hi))]),fun _ _=>True,fun _ _=>True]:=(Mi (Mi (Mi (Mi (Mi (Mi (Mi (Mi (Mono.c (Mono.c Mono.nil))))))))))
  have hBB : ∀ (done:Nat→Bool) (ρ':Env) (w':World),(∃ bA8 bA9:Nat,(done 8=true→ρ' 11=p bA8 0)∧(done 9=true→ρ' 12=p bA9 0)∧S Nm w ((bif done 8 then [(bA8,(.cells [i 0,i 0].toArray 25 (0,0):Obj))] else [])++((bif done 9 then [(bA9,(.cells [i 0,i 0].toArray 25 (0,0):Obj))] else [])++[(b,ob),(b5,.cells [i 0,i 0].toArray 25 (0,0)),(b3,.cells (rdC x).toArray 33 (0,0)),(b1,.cells (tbC t ab cab ad cad).toArray 29 (0,0))])) w')→S Nm w [(b,ob),(b5,.cells [i 0,i 0].toArray 25 (0,0)),(b3,.cells (rdC x).toArray 33 (0,0)),(b1,.cells (tbC t ab cab ad cad).toArray 29 (0,0))] w':=fun done ρ' w' ⟨bA8,bA9,eA8,eA9,Hn⟩=>Hn.part.part
  refine Wp.drawnG 10 [0,0,2,7,15,0,0,96,0,0,1023,2047] [is (.slice a h.length c),is (p b3 0),is (i x.day),is (p (blk a) (yP a+x.day.toNat*2)),is (.agg #[(i z.lo),(i z.hi)]),is (.agg (tbC t ab cab ad cad).toArray),is (.agg (rdC x).toArray),is (.agg #[(i ((wr t x).lo)),(i ((wr t x).hi))]),fun _ _=>True,fun _ _=>True] (fun done ρ' w'=>∃ bA8 bA9:Nat,(done 8=true→ρ' 11=p bA8 0)∧(done 9=true→ρ' 12=p bA9 0)∧S Nm w ((bif done 8 then [(bA8,(.cells [i 0,i 0].toArray 25 (0,0):Obj))] else [])++((bif done 9 then [(bA9,(.cells [i 0,i 0].toArray 25 (0,0):Obj))] else [])++[(b,ob),(b5,.cells [i 0,i 0].toArray 25 (0,0)),(b3,.cells (rdC x).toArray 33 (0,0)),(b1,.cells (tbC t ab cab ad cad).toArray 29 (0,0))])) w') (by kernel_rfl) (by kernel_rfl) rfl (fun w' k=>⟨0,0,(fun h=>by cases h),(fun h=>by cases h),H.ext k⟩) ?_ ?_
  · refine ⟨?_,?_,?_,?_,?_,?_,?_,?_,?_,?_,trivial⟩
    · exact ObG.to hBB hMo (fun _ _ _ _ _ ⟨bA8,bA9,eA8,eA9,Hn⟩ k=>⟨bA8,bA9,eA8,eA9,Hn.ext k⟩) (Ob.q rfl (fun _ _ B U D=>(zB (show (_:Value)=(.slice a h.length c) from U 9 rfl))) rfl rfl)
    · exact ObG.to hBB hMo (fun _ _ _ _ _ ⟨bA8,bA9,eA8,eA9,Hn⟩ k=>⟨bA8,bA9,eA8,eA9,Hn.ext k⟩) (Ob.q rfl (fun _ _ B U D=>(zA fo33_0 (show (_:Value)=(p b3 0) from U 7 rfl) rfl)) rfl rfl)
    · exact ObG.to hBB hMo (fun _ _ _ _ _ ⟨bA8,bA9,eA8,eA9,Hn⟩ k=>⟨bA8,bA9,eA8,eA9,Hn.ext k⟩) (Ob.q rfl (fun _ _ B U D=>(zE zM (D 1 rfl) (B.cells 2 rfl) (j:=0) rfl rfl)) rfl rfl)
    · exact ObG.to hBB hMo (fun _ _ _ _ _ ⟨bA8,bA9,eA8,eA9,Hn⟩ k=>⟨bA8,bA9,eA8,eA9,Hn.ext k⟩) (Ob.q rfl (fun _ _ B U D=>(zY ts30 ((hz _ (B.at 0 rfl))) (D 0 rfl) (by first | (simp;done) | omega | (simp;omega)) (D 2 rfl) (by omega) (zW hz0))) rfl rfl)
    · exact ObG.to hBB hMo (fun _ _ _ _ _ ⟨bA8,bA9,eA8,eA9,Hn⟩ k=>⟨bA8,bA9,eA8,eA9,Hn.ext k⟩) (Ob.q rfl (fun _ _ B U D=>(zJ ta25 (D 3 rfl) (((hz _ (B.at 0 rfl))).cells (zW hz0)) (j:=0) rfl (vs:=[i z.lo,i z.hi]) rfl rfl)) rfl rfl)
    · exact ObG.to hBB hMo (fun _ _ _ _ _ ⟨bA8,bA9,eA8,eA9,Hn⟩ k=>⟨bA8,bA9,eA8,eA9,Hn.ext k⟩) (Ob.q rfl (fun _ _ B U D=>(zJ ta29 (show (_:Value)=(p b1 0) from U 4 rfl) (B.cells 3 rfl) (j:=0) rfl (vs:=(tbC t ab cab ad cad)) rfl rfl)) rfl rfl)
    · exact ObG.to hBB hMo (fun _ _ _ _ _ ⟨bA8,bA9,eA8,eA9,Hn⟩ k=>⟨bA8,bA9,eA8,eA9,Hn.ext k⟩) (Ob.q rfl (fun _ _ B U D=>(zJ ta33 (show (_:Value)=(p b3 0) from U 7 rfl) (B.cells 2 rfl) (j:=0) rfl (vs:=(rdC x)) rfl rfl)) rfl rfl)
    · exact ObG.to hBB hMo (fun _ _ _ _ _ ⟨bA8,bA9,eA8,eA9,Hn⟩ k=>⟨bA8,bA9,eA8,eA9,Hn.ext k⟩) (Ob.mk rfl fun ρ' w' B U D=>zH rfl en90 (ce (v:=(.agg (tbC t ab cab ad cad).toArray)) (D 5 rfl) (ce (v:=(.agg (rdC x).toArray)) (D 6 rfl) cn)) (c90 (t:=t) (x:=x) _ htb hrd) (fun u w2 k2 hu=>⟨k2,hu⟩))
    · refine ObG.sp rfl fun done ρ' w' hW U hcl hnd hwt D=>?_
      obtain ⟨bA8,bA9,eA8,eA9,Hn⟩:=hW
      simp only [hnd,cond_false,List.nil_append] at Hn
      refine Hn.newK (l:=[i 0,i 0]) rfl zv25 rfl ?_
      intro bN w2 k Hm
      refine ⟨(fun q u hq=>hMo q u _ _ k hq),trivial,bN,bA9,(fun _=>rfl),eA9,?_⟩
      show S Nm w ([(bN,(.cells [i 0,i 0].toArray 25 (0,0):Obj))]++((bif done 9 then [(bA9,(.cells [i 0,i 0].toArray 25 (0,0):Obj))] else [])++[(b,ob),(b5,.cells [i 0,i 0].toArray 25 (0,0)),(b3,.cells (rdC x).toArray 33 (0,0)),(b1,.cells (tbC t ab cab ad cad).toArray 29 (0,0))])) w2
      exact Hm
    · refine ObG.sp rfl fun done ρ' w' hW U hcl hnd hwt D=>?_
      obtain ⟨bA8,bA9,eA8,eA9,Hn⟩:=hW
      simp only [hnd,cond_false,List.nil_append] at Hn
      refine Hn.newK (l:=[i 0,i 0]) rfl zv25 rfl ?_
      intro bN w2 k Hm
      refine ⟨(fun q u hq=>hMo q u _ _ k hq),trivial,bA8,bN,eA8,(fun _=>rfl),?_⟩
      show S Nm w ((bif done 8 then [(bA8,(.cells [i 0,i 0].toArray 25 (0,0):Obj))] else [])++([(bN,(.cells [i 0,i 0].toArray 25 (0,0):Obj))]++[(b,ob),(b5,.cells [i 0,i 0].toArray 25 (0,0)),(b3,.cells (rdC x).toArray 33 (0,0)),(b1,.cells (tbC t ab cab ad cad).toArray 29 (0,0))])) w2
      exact Hm.mid
  rintro ρ10 w11 ⟨b15,b16,eA8,eA9,Hn⟩ U13 D14
  replace H:S Nm w [(b15,.cells [i 0,i 0].toArray 25 (0,0)),(b16,.cells [i 0,i 0].toArray 25 (0,0)),(b,ob),(b5,.cells [i 0,i 0].toArray 25 (0,0)),(b3,.cells (rdC x).toArray 33 (0,0)),(b1,.cells (tbC t ab cab ad cad).toArray 29 (0,0))] w11:=Hn;clear Hn hMo hBB
  have f17:ρ10 8=(p b5 0):=U13 8 rfl
  have f18:ρ10 11=p b15 0:=eA8 rfl
  have f19:ρ10 12=p b16 0:=eA9 rfl
  have f20:ρ10 25=(.agg #[(i z.lo),(i z.hi)]):=D14 4 rfl
  have f21:ρ10 28=(.agg #[(i ((wr t x).lo)),(i ((wr t x).hi))]):=D14 7 rfl
  clear U13 D14
  clear eA8
  clear eA9
  refine Ro.d0 rfl rfl rfl (H.store (j:=0) (off:=0) (k:=2) rfl sz25 f18 (v:=(.agg #[(i z.lo),(i z.hi)])) f20 rfl rfl rfl rfl (by simp [Value.oneCell']) (cs':=[i z.lo,i z.hi]) rfl ?_)
  intro w22 Hn;replace H:=Hn;clear Hn
  refine Ro.d0 rfl rfl rfl (H.store (j:=1) (off:=0) (k:=2) rfl sz25 f19 (v:=(.agg #[(i ((wr t x).lo)),(i ((wr t x).hi))])) f21 rfl rfl rfl rfl (by simp [Value.oneCell']) (cs':=[i ((wr t x).lo),i ((wr t x).hi)]) rfl ?_)
  intro w23 Hn;replace H:=Hn;clear Hn
  refine Ro.nil (nT (Wp.seq (Wp.region ?_)))
  refine Ro.q (v:=(p b16 0)) rfl rfl (zA uI f19 rfl) rfl ?_
  refine Ro.q rfl rfl (zE zM rfl (H.cells 1 rfl) (j:=0) rfl rfl) rfl ?_
  refine Ro.q (v:=(p b15 1)) rfl rfl (zA uB f18 rfl) rfl ?_
  refine Ro.q rfl rfl (zE zM rfl (H.cells 0 rfl) (j:=1) rfl rfl) rfl ?_
  refine Ro.q rfl rfl (yT rfl rfl (by constructor <;>omega)) rfl ?_
  refine Ro.q (v:=(p b16 1)) rfl rfl (zA uB f19 rfl) rfl ?_
  refine Ro.q rfl rfl (zE zM rfl (H.cells 1 rfl) (j:=1) rfl rfl) rfl ?_
  refine Ro.q (v:=(p b15 0)) rfl rfl (zA uI f18 rfl) rfl ?_
  refine Ro.q rfl rfl (zE zM rfl (H.cells 0 rfl) (j:=0) rfl rfl) rfl ?_
  refine Ro.q rfl rfl (yT rfl rfl (by constructor <;>omega)) rfl ?_
  refine Ro.q (v:=(.agg #[(i (((wr t x).lo)-z.hi)),(i (((wr t x).hi)-z.lo))])) rfl rfl (zP (v:=(.agg #[(i (((wr t x).lo)-z.hi)),(i (((wr t x).hi)-z.lo))])) (pe (v:=(i (((wr t x).lo)-z.hi))) rfl (pe (v:=(i (((wr t x).hi)-z.lo))) rfl pn)) (fun w=>by kernel_rfl)) rfl ?_
  refine Ro.d0 rfl rfl rfl (H.store (j:=3) (off:=0) (k:=2) rfl sz25 f17 (v:=(.agg #[(i (((wr t x).lo)-z.hi)),(i (((wr t x).hi)-z.lo))])) rfl rfl rfl rfl rfl (by simp [Value.oneCell']) (cs':=[i (((wr t x).lo)-z.hi),i (((wr t x).hi)-z.lo)]) rfl ?_)
  intro w24 Hn;replace H:S Nm w [(b15,.cells [i z.lo,i z.hi].toArray 25 (0,0)),(b16,.cells [i ((wr t x).lo),i ((wr t x).hi)].toArray 25 (0,0)),(b,ob),(b5,.cells [i (((wr t x).lo)-z.hi),i (((wr t x).hi)-z.lo)].toArray 25 (0,0)),(b3,.cells (rdC x).toArray 33 (0,0)),(b1,.cells (tbC t ab cab ad cad).toArray 29 (0,0))] w24:=Hn;clear Hn
  refine Ro.nil (nT (Wp.ret (zN ?_)))
  refine yW (vs:=[i (((wr t x).lo)-z.hi),i (((wr t x).hi)-z.lo)]) Tryz.results49 f17 ta25 (H.cells 3 rfl) rfl ⟨H.keep,?_⟩
  have e:=corR_is (t:=t) (h:=h) (ices:=ices) (x:=x) hz1
  rw [e]
end Go.Proofs.YthfnjppieihcfaaGreat
namespace Go.Proofs.YthfnjppieihcfaaGreat
open Go.RowKit Go.Proofs Go.Mw
theorem en19:Go.Proofs.Enters Tryz.prog 19:=Go.Proofs.enters_of Tryz.func19 (by kernel_rfl) rfl
theorem en20:Go.Proofs.Enters Tryz.prog 20:=Go.Proofs.enters_of Tryz.func20 (by kernel_rfl) rfl
theorem en22:Go.Proofs.Enters Tryz.prog 22:=Go.Proofs.enters_of Tryz.func22 (by kernel_rfl) rfl
theorem en23:Go.Proofs.Enters Tryz.prog 23:=Go.Proofs.enters_of Tryz.func23 (by kernel_rfl) rfl
theorem en48:Go.Proofs.Enters Tryz.prog 48:=Go.Proofs.enters_of Tryz.func48 (by kernel_rfl) rfl
theorem en49:Go.Proofs.Enters Tryz.prog 49:=Go.Proofs.enters_of Tryz.func49 (by kernel_rfl) rfl
open Men
theorem c10 {t:Tb} {ab ad ah ai:Option Addr} {h:List Rg} {ices:List Ice} {cab cad cah cai:Nat} {x:Rdg} {most:Int} (w:World) (hab:Sl w 3 (t.bs.map yH) ab) (had:Sl w 2 (t.dl.map zZ) ad) (hah:Sl w 2 (h.map rgV) ah) (hai:Sl w 3 (ices.map iceV) ai):Rv Tryz.prog 10 [(.agg (tbC t ab cab ad cad).toArray),(.slice ah h.length cah),(.slice ai ices.length cai),(.agg (rdC x).toArray),i most] w (.bool true):=by
  refine Ret.body (N:=136) Tryz.func10 rfl Tryz.ntmps10 rfl ?_
  have H:=S.start Nm w
  refine Wp.seq (Wp.region ?_)
  refine Ro.d rfl rfl rfl (H.box (l:=(tbC t ab cab ad cad)) rfl (v:=(.agg (tbC t ab cab ad cad).toArray)) rfl rfl ?_)
  intro b1 w2 Hn;replace H:=Hn;clear Hn
  refine Ro.d rfl rfl rfl (H.box (l:=(rdC x)) rfl (v:=(.agg (rdC x).toArray)) rfl rfl ?_)
  intro b3 w4 Hn;replace H:=Hn;clear Hn
  refine Ro.q (v:=(.bool false)) rfl rfl (zD rfl) rfl ?_
  refine Ro.nil (nT (Wp.seq (Wp.seq (Wp.region ?_))))
  refine Ro.q rfl rfl (zJ ta29 rfl (H.cells 1 rfl) (j:=0) rfl (vs:=(tbC t ab cab ad cad)) rfl rfl) rfl ?_
  refine Ro.q (v:=(.slice ah h.length cah)) rfl rfl (zB rfl) rfl ?_
  refine Ro.q (v:=(.slice ai ices.length cai)) rfl rfl (zB rfl) rfl ?_
  refine Ro.d rfl rfl rfl (zH rfl en15 (ce (v:=(.agg (tbC t ab cab ad cad).toArray)) rfl (ce (v:=(.slice ah h.length cah)) rfl (ce (v:=(.slice ai ices.length cai)) rfl cn))) (c15 (t:=t) (h:=h) (ices:=ices) _) ?_)
  intro u w5 k6 hu;subst hu;replace H:=H.ext k6
  clear k6
  refine Ro.q rfl rfl (yN rfl) rfl ?_
  refine Ro.nil (nT ?_)
  refine Wp.cond (t:=!(thinB t h ices)) rfl ?_ ?_
  · intro c7
    have c7r:=c7
    simp only [bx] at c7
    refine Wp.seq (Wp.region ?_)
    refine Ro.d rfl rfl rfl (zH rfl en16 cn (c16 _) ?_)
    intro u w8 k9 hu;subst hu;replace H:=H.ext k9
    clear k9
    refine Ro.q (v:=(.bool true)) rfl rfl (zD rfl) rfl ?_
    refine Ro.nil (nT (Wp.ret (rT (zN ?_))))
    refine zI (v:=(.bool true)) Tryz.results10 rfl ⟨H.keep,?_⟩
    rfl
  intro c7
  have c7r:=c7
  simp only [bx] at c7
  obtain ⟨hb5,hd6,hh20,hi11⟩:=thinB_iff.1 c7
  refine Wp.skip (nT (Wp.seq ?_))
  obtain ⟨nB10,hB10,hL10,hW10⟩:=H.bound
  have hMo:Mono (liftV [fun v=>v=(.agg (tbC t ab cab ad cad).toArray),fun _=>True,fun v=>v=(.slice ah h.length cah),fun _=>True,fun v=>v=(.slice ai ices.length cai),fun _=>True,fun v=>v=(.agg (rdC x).toArray),fun v=>v=(.agg (rdC x).toArray),fun v=>v=(.tuple #[(.agg #[(i ((yK t h ices x).lo)),(i ((yK t h ices x).hi))]),(i (corE t h ices x))]),fun v=>v=(.tuple #[(.agg #[(i ((yK t h ices x).lo)),(i ((yK t h ices x).hi))]),(i (corE t h ices x))]),fun v=>v=(.agg #[(i ((yK t h ices x).lo)),(i ((yK t h ices x).hi))]),fun v=>v=(i (corE t h ices x)),fun _=>True,fun _=>True]):=fun _ _ _ _ _ h=>fix_v _ _ h
  have hBB : ∀ (done:Nat→Bool) (ρ':Env) (w':World),(∃ bA12:Nat,(done 12=true→ρ' 11=p bA12 0)∧(done 1=true→done 8=false→TubeAt t nB10 (ρ' 26) w')∧(done 3=true→done 8=false→RowAt 2 (h.length) (h.map rgV) nB10 (ρ' 28) w')∧(done 5=true→done 8=false→RowAt 3 (ices.length) (ices.map iceV) nB10 (ρ' 30) w')∧S Nm w ((bif done 12 then [(bA12,bif done 13 then (.cells [i ((yK t h ices x).lo),i ((yK t h ices x).hi)].toArray 41 (0,0):Obj) else (.cells [i 0,i 0].toArray 41 (0,0):Obj))] else [])++[(b3,.cells (rdC x).toArray 33 (0,0)),(b1,.cells (tbC t ab cab ad cad).toArray 29 (0,0))]) w'∧nB10≤w'.heap.size)→S Nm w [(b3,.cells (rdC x).toArray 33 (0,0)),(b1,.cells (tbC t ab cab ad cad).toArray 29 (0,0))] w'∧nB10≤w'.heap.size:=fun done ρ' w' ⟨bA12,eA12,eT1,eT3,eT5,Hn,hzz⟩=>⟨Hn.part,hzz⟩
  refine Wp.drawnG 14 [0,1,0,7,0,31,0,127,255,511,1023,1023,0,6143,16383] (liftV [fun v=>v=(.agg (tbC t ab cab ad cad).toArray),fun _=>True,fun v=>v=(.slice ah h.length cah),fun _=>True,fun v=>v=(.slice ai ices.length cai),fun _=>True,fun v=>v=(.agg (rdC x).toArray),fun v=>v=(.agg (rdC x).toArray),fun v=>v=(.tuple #[(.agg #[(i ((yK t h ices x).lo)),(i ((yK t h ices x).hi))]),(i (corE t h ices x))]),fun v=>v=(.tuple #[(.agg #[(i ((yK t h ices x).lo)),(i ((yK t h ices x).hi))]),(i (corE t h ices x))]),fun v=>v=(.agg #[(i ((yK t h ices x).lo)),(i ((yK t h ices x).hi))]),fun v=>v=(i (corE t h ices x)),fun _=>True,fun _=>True]) (fun done ρ' w'=>∃ bA12:Nat,(done 12=true→ρ' 11=p bA12 0)∧(done 1=true→done 8=false→TubeAt t nB10 (ρ' 26) w')∧(done 3=true→done 8=false→RowAt 2 (h.length) (h.map rgV) nB10 (ρ' 28) w')∧(done 5=true→done 8=false→RowAt 3 (ices.length) (ices.map iceV) nB10 (ρ' 30) w')∧S Nm w ((bif done 12 then [(bA12,bif done 13 then (.cells [i ((yK t h ices x).lo),i ((yK t h ices x).hi)].toArray 41 (0,0):Obj) else (.cells [i 0,i 0].toArray 41 (0,0):Obj))] else [])++[(b3,.cells (rdC x).toArray 33 (0,0)),(b1,.cells (tbC t ab cab ad cad).toArray 29 (0,0))]) w'∧nB10≤w'.heap.size) (by kernel_rfl) (by kernel_rfl) rfl (fun w' k=>⟨0,(fun h=>by cases h),(fun h=>by cases h),(fun h=>by cases h),(fun h=>by cases h),H.ext k,Nat.le_trans hB10 k.size⟩) ?_ ?_
  · refine ⟨?_,?_,?_,?_,?_,?_,?_,?_,?_,?_,?_,?_,?_,?_,trivial⟩
    · exact ObG.to hBB hMo (fun _ _ _ _ _ ⟨bA12,eA12,eT1,eT3,eT5,Hn,hzz⟩ k=>⟨bA12,eA12,(fun h1 h2=>TubeAt.ext (eT1 h1 h2) k),(fun h1 h2=>RowAt.ext (eT3 h1 h2) k),(fun h1 h2=>RowAt.ext (eT5 h1 h2) k),Hn.ext k,Nat.le_trans hzz k.size⟩) (Ob.q rfl (fun _ _ B U D=>(zJ ta29 (show (_:Value)=(p b1 0) from U 5 rfl) (B.1.cells 1 rfl) (j:=0) rfl (vs:=(tbC t ab cab ad cad)) rfl rfl)) rfl rfl)
    · refine ObG.sp rfl fun done ρ' w' hW U hcl hnd hwt D=>?_
      have B:=hBB done ρ' w' hW
      obtain ⟨bA12,eA12,eT1,eT3,eT5,Hn,hzz⟩:=hW
      refine zH rfl en18 (ce (v:=(.agg (tbC t ab cab ad cad).toArray)) (D 0 rfl) cn) (c18 _ (hab.ext B.1.keep) (had.ext B.1.keep) hb5 hd6) (fun u w2 k hu=>?_)
      exact ⟨fix_v,trivial,bA12,eA12,(fun _ _=>TubeAt.le hu B.2),(fun h1 h2=>RowAt.ext (eT3 h1 h2) k),(fun h1 h2=>RowAt.ext (eT5 h1 h2) k),Hn.ext k,Nat.le_trans hzz k.size⟩
    · exact ObG.to hBB hMo (fun _ _ _ _ _ ⟨bA12,eA12,eT1,eT3,eT5,Hn,hzz⟩ k=>⟨bA12,eA12,(fun h1 h2=>TubeAt.ext (eT1 h1 h2) k),(fun h1 h2=>RowAt.ext (eT3 h1 h2) k),(fun h1 h2=>RowAt.ext (eT5 h1 h2) k),Hn.ext k,Nat.le_trans hzz k.size⟩) (Ob.q rfl (fun _ _ B U D=>(zB (show (_:Value)=(.slice ah h.length cah) from U 1 rfl))) rfl rfl)
    · refine ObG.sp rfl fun done ρ' w' hW U hcl hnd hwt D=>?_
      have B:=hBB done ρ' w' hW
      obtain ⟨bA12,eA12,eT1,eT3,eT5,Hn,hzz⟩:=hW
      refine zH rfl en19 (ce (v:=(.slice ah h.length cah)) (D 2 rfl) cn) (c19 (h:=h) _ (hah.ext B.1.keep) (by omega)) (fun u w2 k hu=>?_)
      exact ⟨fix_v,trivial,bA12,eA12,(fun h1 h2=>TubeAt.ext (eT1 h1 h2) k),(fun _ _=>RowAt.le hu B.2),(fun h1 h2=>RowAt.ext (eT5 h1 h2) k),Hn.ext k,Nat.le_trans hzz k.size⟩
    · exact ObG.to hBB hMo (fun _ _ _ _ _ ⟨bA12,eA12,eT1,eT3,eT5,Hn,hzz⟩ k=>⟨bA12,eA12,(fun h1 h2=>TubeAt.ext (eT1 h1 h2) k),(fun h1 h2=>RowAt.ext (eT3 h1 h2) k),(fun h1 h2=>RowAt.ext (eT5 h1 h2) k),Hn.ext k,Nat.le_trans hzz k.size⟩) (Ob.q rfl (fun _ _ B U D=>(zB (show (_:Value)=(.slice ai ices.length cai) from U 2 rfl))) rfl rfl)
    · refine ObG.sp rfl fun done ρ' w' hW U hcl hnd hwt D=>?_
      have B:=hBB done ρ' w' hW
      obtain ⟨bA12,eA12,eT1,eT3,eT5,Hn,hzz⟩:=hW
      refine zH rfl en20 (ce (v:=(.slice ai ices.length cai)) (D 4 rfl) cn) (c20 (ices:=ices) _ (hai.ext B.1.keep) (by omega)) (fun u w2 k hu=>?_)
      exact ⟨fix_v,trivial,bA12,eA12,(fun h1 h2=>TubeAt.ext (eT1 h1 h2) k),(fun h1 h2=>RowAt.ext (eT3 h1 h2) k),(fun _ _=>RowAt.le hu B.2),Hn.ext k,Nat.le_trans hzz k.size⟩
    · exact ObG.to hBB hMo (fun _ _ _ _ _ ⟨bA12,eA12,eT1,eT3,eT5,Hn,hzz⟩ k=>⟨bA12,eA12,(fun h1 h2=>TubeAt.ext (eT1 h1 h2) k),(fun h1 h2=>RowAt.ext (eT3 h1 h2) k),(fun h1 h2=>RowAt.ext (eT5 h1 h2) k),Hn.ext k,Nat.le_trans hzz k.size⟩) (Ob.q rfl (fun _ _ B U D=>(zJ ta33 (show (_:Value)=(p b3 0) from U 8 rfl) (B.1.cells 0 rfl) (j:=0) rfl (vs:=(rdC x)) rfl rfl)) rfl rfl)
    · exact ObG.to hBB hMo (fun _ _ _ _ _ ⟨bA12,eA12,eT1,eT3,eT5,Hn,hzz⟩ k=>⟨bA12,eA12,(fun h1 h2=>TubeAt.ext (eT1 h1 h2) k),(fun h1 h2=>RowAt.ext (eT3 h1 h2) k),(fun h1 h2=>RowAt.ext (eT5 h1 h2) k),Hn.ext k,Nat.le_trans hzz k.size⟩) (Ob.mk rfl fun ρ' w' B U D=>zH rfl en21 (ce (v:=(.agg (rdC x).toArray)) (D 6 rfl) cn) (c21 (x:=x) _) (fun u w2 k2 hu=>⟨k2,hu⟩))
    · refine ObG.sp rfl fun done ρ' w' hW U hcl hnd hwt D=>?_
      have B:=hBB done ρ' w' hW
      obtain ⟨bA12,eA12,eT1,eT3,eT5,Hn,hzz⟩:=hW
      obtain ⟨a11,c11,a21,c21,hR1,h11,h21⟩:=eT1 (hwt 1 rfl) hnd
      obtain ⟨a3,c3,hR3,h3⟩:=eT3 (hwt 3 rfl) hnd
      obtain ⟨a5,c5,hR5,h5⟩:=eT5 (hwt 5 rfl) hnd
      refine zH rfl en35 (ce (v:=(.agg #[(i t.base),(.slice a11 t.bs.length c11),(.slice a21 t.dl.length c21),(i t.blo),(i t.bhi),(i t.klo),(i t.khi),(i t.llo),(i t.lhi),(i t.slo),(i t.shi),(i t.term)])) hR1 (ce (v:=(.slice a3 h.length c3)) hR3 (ce (v:=(.slice a5 ices.length c5)) hR5 (ce (v:=(.agg (rdC x).toArray)) (D 7 rfl) cn)))) (c35 (x:=x) _ (h11.1) (h21.1) (h3.1) (h5.1) (by omega) (by omega)) (fun u w2 k hu=>?_)
      exact ⟨fix_v,hu,bA12,eA12,(fun _ h2=>Bool.noConfusion (show true=false from h2)),(fun _ h2=>Bool.noConfusion (show true=false from h2)),(fun _ h2=>Bool.noConfusion (show true=false from h2)),Hn.ext k,Nat.le_trans hzz k.size⟩
    · exact ObG.to hBB hMo (fun _ _ _ _ _ ⟨bA12,eA12,eT1,eT3,eT5,Hn,hzz⟩ k=>⟨bA12,eA12,(fun h1 h2=>TubeAt.ext (eT1 h1 h2) k),(fun h1 h2=>RowAt.ext (eT3 h1 h2) k),(fun h1 h2=>RowAt.ext (eT5 h1 h2) k),Hn.ext k,Nat.le_trans hzz k.size⟩) (Ob.q rfl (fun _ _ B U D=>(zB (D 8 rfl))) rfl rfl)
    · exact ObG.to hBB hMo (fun _ _ _ _ _ ⟨bA12,eA12,eT1,eT3,eT5,Hn,hzz⟩ k=>⟨bA12,eA12,(fun h1 h2=>TubeAt.ext (eT1 h1 h2) k),(fun h1 h2=>RowAt.ext (eT3 h1 h2) k),(fun h1 h2=>RowAt.ext (eT5 h1 h2) k),Hn.ext k,Nat.le_trans hzz k.size⟩) (Ob.q rfl (fun _ _ B U D=>(zO (D 9 rfl) (j:=0) rfl)) rfl rfl)
    · exact ObG.to hBB hMo (fun _ _ _ _ _ ⟨bA12,eA12,eT1,eT3,eT5,Hn,hzz⟩ k=>⟨bA12,eA12,(fun h1 h2=>TubeAt.ext (eT1 h1 h2) k),(fun h1 h2=>RowAt.ext (eT3 h1 h2) k),(fun h1 h2=>RowAt.ext (eT5 h1 h2) k),Hn.ext k,Nat.le_trans hzz k.size⟩) (Ob.q rfl (fun _ _ B U D=>(zO (D 9 rfl) (j:=1) rfl)) rfl rfl)
    · refine ObG.sp rfl fun done ρ' w' hW U hcl hnd hwt D=>?_
      obtain ⟨bA12,eA12,eT1,eT3,eT5,Hn,hzz⟩:=hW
      have hs:=nd hcl (q:=13) rfl rfl hnd
      simp only [hnd,cond_false,List.nil_append] at Hn
      refine Hn.newK (l:=[i 0,i 0]) rfl zv41 rfl ?_
      intro bN w2 k Hm
      refine ⟨fix_v,trivial,bN,(fun _=>rfl),(fun h1 h2=>TubeAt.ext (eT1 h1 h2) k),(fun h1 h2=>RowAt.ext (eT3 h1 h2) k),(fun h1 h2=>RowAt.ext (eT5 h1 h2) k),?_,Nat.le_trans hzz k.size⟩
      show S Nm w ([(bN,bif done 13 then (.cells [i ((yK t h ices x).lo),i ((yK t h ices x).hi)].toArray 41 (0,0):Obj) else (.cells [i 0,i 0].toArray 41 (0,0):Obj))]++[(b3,.cells (rdC x).toArray 33 (0,0)),(b1,.cells (tbC t ab cab ad cad).toArray 29 (0,0))]) w2
      rw [hs]
      exact Hm
    · refine ObG.sp rfl fun done ρ' w' hW U hcl hnd hwt D=>?_
      obtain ⟨bA12,eA12,eT1,eT3,eT5,Hn,hzz⟩:=hW
      have ha:done 12=true:=hwt 12 rfl
      simp only [ha,hnd,cond_true,cond_false] at Hn
      refine Hn.storeK (j:=0) (off:=0) (k:=2) (cs:=[i 0,i 0]) (u:=41) rfl sz41 (eA12 ha) (v:=(.agg #[(i ((yK t h ices x).lo)),(i ((yK t h ices x).hi))])) (D 10 rfl) rfl (vs:=[i ((yK t h ices x).lo),i ((yK t h ices x).hi)]) rfl rfl rfl (by simp [Value.oneCell']) (cs':=[i ((yK t h ices x).lo),i ((yK t h ices x).hi)]) rfl ?_
      intro w2 kS Hm
      refine ⟨fix_v,trivial,bA12,(fun _=>eA12 ha),(fun _ h2=>Bool.noConfusion ((show done 8=false from h2).symm.trans (hwt 8 rfl))),(fun _ h2=>Bool.noConfusion ((show done 8=false from h2).symm.trans (hwt 8 rfl))),(fun _ h2=>Bool.noConfusion ((show done 8=false from h2).symm.trans (hwt 8 rfl))),?_,Nat.le_trans hzz kS.size⟩
      show S Nm w ((bif done 12 then [(bA12,(.cells [i ((yK t h ices x).lo),i ((yK t h ices x).hi)].toArray 41 (0,0):Obj))] else [])++[(b3,.cells (rdC x).toArray 33 (0,0)),(b1,.cells (tbC t ab cab ad cad).toArray 29 (0,0))]) w2
      rw [ha]
      exact Hm
  rintro ρ11 w12 ⟨b16,eA12,_,_,_,Hn,_⟩ U14 D15
  replace H:S Nm w [(b16,.cells [i ((yK t h ices x).lo),i ((yK t h ices x).hi)].toArray 41 (0,0)),(b3,.cells (rdC x).toArray 33 (0,0)),(b1,.cells (tbC t ab cab ad cad).toArray 29 (0,0))] w12:=Hn;clear Hn hMo hBB
  have f17:ρ11 1=(.slice ah h.length cah):=U14 1 rfl
  have f18:ρ11 2=(.slice ai ices.length cai):=U14 2 rfl
  have f19:ρ11 4=(i most):=U14 4 rfl
  have f20:ρ11 5=(p b1 0):=U14 5 rfl
  have f21:ρ11 8=(p b3 0):=U14 8 rfl
  have f23:ρ11 11=p b16 0:=eA12 rfl
  have f24:ρ11 35=(i (corE t h ices x)):=D15 11 rfl
  clear U14 D15
  clear eA12
  refine Ro.q (v:=(i (corE t h ices x))) rfl rfl (zD f24) rfl ?_
  refine Ro.nil (nT (Wp.seq ?_))
  obtain ⟨nB25,hB25,hL25,hW25⟩:=H.bound
  have hMo:Mono (liftV [fun v=>v=(.agg (tbC t ab cab ad cad).toArray),fun _=>True,fun v=>v=(.slice ah h.length cah),fun _=>True,fun v=>v=(.slice ai ices.length cai),fun _=>True,fun v=>v=(.agg (rdC x).toArray),fun v=>v=(.agg (rdC x).toArray),fun v=>v=(i most),fun v=>v=(.tuple #[(.agg #[(i ((yA t h ices x most).lo)),(i ((yA t h ices x most).hi))]),(i (uC t h ices x most))]),fun v=>v=(.tuple #[(.agg #[(i ((yA t h ices x most).lo)),(i ((yA t h ices x most).hi))]),(i (uC t h ices x most))]),fun v=>v=(.agg #[(i ((yA t h ices x most).lo)),(i ((yA t h ices x most).hi))]),fun v=>v=(i (uC t h ices x most)),fun _=>True,fun _=>True]):=fun _ _ _ _ _ h=>fix_v _ _ h
  have hBB : ∀ (done:Nat→Bool) (ρ':Env) (w':World),(∃ bA13:Nat,(done 13=true→ρ' 13=p bA13 0)∧(done 1=true→done 9=false→TubeAt t nB25 (ρ' 38) w')∧(done 3=true→done 9=false→RowAt 2 (h.length) (h.map rgV) nB25 (ρ' 40) w')∧(done 5=true→done 9=false→RowAt 3 (ices.length) (ices.map iceV) nB25 (ρ' 42) w')∧S Nm w ((bif done 13 then [(bA13,bif done 14 then (.cells [i ((yA t h ices x most).lo),i ((yA t h ices x most).hi)].toArray 41 (0,0):Obj) else (.cells [i 0,i 0].toArray 41 (0,0):Obj))] else [])++[(b16,.cells [i ((yK t h ices x).lo),i ((yK t h ices x).hi)].toArray 41 (0,0)),(b3,.cells (rdC x).toArray 33 (0,0)),(b1,.cells (tbC t ab cab ad cad).toArray 29 (0,0))]) w'∧nB25≤w'.heap.size)→S Nm w [(b16,.cells [i ((yK t h ices x).lo),i ((yK t h ices x).hi)].toArray 41 (0,0)),(b3,.cells (rdC x).toArray 33 (0,0)),(b1,.cells (tbC t ab cab ad cad).toArray 29 (0,0))] w'∧nB25≤w'.heap.size:=fun done ρ' w' ⟨bA13,eA13,eT1,eT3,eT5,Hn,hzz⟩=>⟨Hn.part,hzz⟩
  refine Wp.drawnG 15 [0,1,0,7,0,31,0,127,0,511,1023,2047,2047,0,12287,32767] (liftV [fun v=>v=(.agg (tbC t ab cab ad cad).toArray),fun _=>True,fun v=>v=(.slice ah h.length cah),fun _=>True,fun v=>v=(.slice ai ices.length cai),fun _=>True,fun v=>v=(.agg (rdC x).toArray),fun v=>v=(.agg (rdC x).toArray),fun v=>v=(i most),fun v=>v=(.tuple #[(.agg #[(i ((yA t h ices x most).lo)),(i ((yA t h ices x most).hi))]),(i (uC t h ices x most))]),fun v=>v=(.tuple #[(.agg #[(i ((yA t h ices x most).lo)),(i ((yA t h ices x most).hi))]),(i (uC t h ices x most))]),fun v=>v=(.agg #[(i ((yA t h ices x most).lo)),(i ((yA t h ices x most).hi))]),fun v=>v=(i (uC t h ices x most)),fun _=>True,fun _=>True]) (fun done ρ' w'=>∃ bA13:Nat,(done 13=true→ρ' 13=p bA13 0)∧(done 1=true→done 9=false→TubeAt t nB25 (ρ' 38) w')∧(done 3=true→done 9=false→RowAt 2 (h.length) (h.map rgV) nB25 (ρ' 40) w')∧(done 5=true→done 9=false→RowAt 3 (ices.length) (ices.map iceV) nB25 (ρ' 42) w')∧S Nm w ((bif done 13 then [(bA13,bif done 14 then (.cells [i ((yA t h ices x most).lo),i ((yA t h ices x most).hi)].toArray 41 (0,0):Obj) else (.cells [i 0,i 0].toArray 41 (0,0):Obj))] else [])++[(b16,.cells [i ((yK t h ices x).lo),i ((yK t h ices x).hi)].toArray 41 (0,0)),(b3,.cells (rdC x).toArray 33 (0,0)),(b1,.cells (tbC t ab cab ad cad).toArray 29 (0,0))]) w'∧nB25≤w'.heap.size) (by kernel_rfl) (by kernel_rfl) rfl (fun w' k=>⟨0,(fun h=>by cases h),(fun h=>by cases h),(fun h=>by cases h),(fun h=>by cases h),H.ext k,Nat.le_trans hB25 k.size⟩) ?_ ?_
  · refine ⟨?_,?_,?_,?_,?_,?_,?_,?_,?_,?_,?_,?_,?_,?_,?_,trivial⟩
    · exact ObG.to hBB hMo (fun _ _ _ _ _ ⟨bA13,eA13,eT1,eT3,eT5,Hn,hzz⟩ k=>⟨bA13,eA13,(fun h1 h2=>TubeAt.ext (eT1 h1 h2) k),(fun h1 h2=>RowAt.ext (eT3 h1 h2) k),(fun h1 h2=>RowAt.ext (eT5 h1 h2) k),Hn.ext k,Nat.le_trans hzz k.size⟩) (Ob.q rfl (fun _ _ B U D=>(zJ ta29 ((U 5 rfl).trans f20) (B.1.cells 2 rfl) (j:=0) rfl (vs:=(tbC t ab cab ad cad)) rfl rfl)) rfl rfl)
    · refine ObG.sp rfl fun done ρ' w' hW U hcl hnd hwt D=>?_
      have B:=hBB done ρ' w' hW
      obtain ⟨bA13,eA13,eT1,eT3,eT5,Hn,hzz⟩:=hW
      refine zH rfl en18 (ce (v:=(.agg (tbC t ab cab ad cad).toArray)) (D 0 rfl) cn) (c18 _ (hab.ext B.1.keep) (had.ext B.1.keep) hb5 hd6) (fun u w2 k hu=>?_)
      exact ⟨fix_v,trivial,bA13,eA13,(fun _ _=>TubeAt.le hu B.2),(fun h1 h2=>RowAt.ext (eT3 h1 h2) k),(fun h1 h2=>RowAt.ext (eT5 h1 h2) k),Hn.ext k,Nat.le_trans hzz k.size⟩
    · exact ObG.to hBB hMo (fun _ _ _ _ _ ⟨bA13,eA13,eT1,eT3,eT5,Hn,hzz⟩ k=>⟨bA13,eA13,(fun h1 h2=>TubeAt.ext (eT1 h1 h2) k),(fun h1 h2=>RowAt.ext (eT3 h1 h2) k),(fun h1 h2=>RowAt.ext (eT5 h1 h2) k),Hn.ext k,Nat.le_trans hzz k.size⟩) (Ob.q rfl (fun _ _ B U D=>(zB ((U 1 rfl).trans f17))) rfl rfl)
    · refine ObG.sp rfl fun done ρ' w' hW U hcl hnd hwt D=>?_
      have B:=hBB done ρ' w' hW
      obtain ⟨bA13,eA13,eT1,eT3,eT5,Hn,hzz⟩:=hW
      refine zH rfl en19 (ce (v:=(.slice ah h.length cah)) (D 2 rfl) cn) (c19 (h:=h) _ (hah.ext B.1.keep) (by omega)) (fun u w2 k hu=>?_)
      exact ⟨fix_v,trivial,bA13,eA13,(fun h1 h2=>TubeAt.ext (eT1 h1 h2) k),(fun _ _=>RowAt.le hu B.2),(fun h1 h2=>RowAt.ext (eT5 h1 h2) k),Hn.ext k,Nat.le_trans hzz k.size⟩
    · exact ObG.to hBB hMo (fun _ _ _ _ _ ⟨bA13,eA13,eT1,eT3,eT5,Hn,hzz⟩ k=>⟨bA13,eA13,(fun h1 h2=>TubeAt.ext (eT1 h1 h2) k),(fun h1 h2=>RowAt.ext (eT3 h1 h2) k),(fun h1 h2=>RowAt.ext (eT5 h1 h2) k),Hn.ext k,Nat.le_trans hzz k.size⟩) (Ob.q rfl (fun _ _ B U D=>(zB ((U 2 rfl).trans f18))) rfl rfl)
    · refine ObG.sp rfl fun done ρ' w' hW U hcl hnd hwt D=>?_
      have B:=hBB done ρ' w' hW
      obtain ⟨bA13,eA13,eT1,eT3,eT5,Hn,hzz⟩:=hW
      refine zH rfl en20 (ce (v:=(.slice ai ices.length cai)) (D 4 rfl) cn) (c20 (ices:=ices) _ (hai.ext B.1.keep) (by omega)) (fun u w2 k hu=>?_)
      exact ⟨fix_v,trivial,bA13,eA13,(fun h1 h2=>TubeAt.ext (eT1 h1 h2) k),(fun h1 h2=>RowAt.ext (eT3 h1 h2) k),(fun _ _=>RowAt.le hu B.2),Hn.ext k,Nat.le_trans hzz k.size⟩
    · exact ObG.to hBB hMo (fun _ _ _ _ _ ⟨bA13,eA13,eT1,eT3,eT5,Hn,hzz⟩ k=>⟨bA13,eA13,(fun h1 h2=>TubeAt.ext (eT1 h1 h2) k),(fun h1 h2=>RowAt.ext (eT3 h1 h2) k),(fun h1 h2=>RowAt.ext (eT5 h1 h2) k),Hn.ext k,Nat.le_trans hzz k.size⟩) (Ob.q rfl (fun _ _ B U D=>(zJ ta33 ((U 8 rfl).trans f21) (B.1.cells 1 rfl) (j:=0) rfl (vs:=(rdC x)) rfl rfl)) rfl rfl)
    · exact ObG.to hBB hMo (fun _ _ _ _ _ ⟨bA13,eA13,eT1,eT3,eT5,Hn,hzz⟩ k=>⟨bA13,eA13,(fun h1 h2=>TubeAt.ext (eT1 h1 h2) k),(fun h1 h2=>RowAt.ext (eT3 h1 h2) k),(fun h1 h2=>RowAt.ext (eT5 h1 h2) k),Hn.ext k,Nat.le_trans hzz k.size⟩) (Ob.mk rfl fun ρ' w' B U D=>zH rfl en21 (ce (v:=(.agg (rdC x).toArray)) (D 6 rfl) cn) (c21 (x:=x) _) (fun u w2 k2 hu=>⟨k2,hu⟩))
    · exact ObG.to hBB hMo (fun _ _ _ _ _ ⟨bA13,eA13,eT1,eT3,eT5,Hn,hzz⟩ k=>⟨bA13,eA13,(fun h1 h2=>TubeAt.ext (eT1 h1 h2) k),(fun h1 h2=>RowAt.ext (eT3 h1 h2) k),(fun h1 h2=>RowAt.ext (eT5 h1 h2) k),Hn.ext k,Nat.le_trans hzz k.size⟩) (Ob.q rfl (fun _ _ B U D=>(zB ((U 4 rfl).trans f19))) rfl rfl)
    · refine ObG.sp rfl fun done ρ' w' hW U hcl hnd hwt D=>?_
      have B:=hBB done ρ' w' hW
      obtain ⟨bA13,eA13,eT1,eT3,eT5,Hn,hzz⟩:=hW
      obtain ⟨a11,c11,a21,c21,hR1,h11,h21⟩:=eT1 (hwt 1 rfl) hnd
      obtain ⟨a3,c3,hR3,h3⟩:=eT3 (hwt 3 rfl) hnd
      obtain ⟨a5,c5,hR5,h5⟩:=eT5 (hwt 5 rfl) hnd
      refine zH rfl en48 (ce (v:=(.agg #[(i t.base),(.slice a11 t.bs.length c11),(.slice a21 t.dl.length c21),(i t.blo),(i t.bhi),(i t.klo),(i t.khi),(i t.llo),(i t.lhi),(i t.slo),(i t.shi),(i t.term)])) hR1 (ce (v:=(.slice a3 h.length c3)) hR3 (ce (v:=(.slice a5 ices.length c5)) hR5 (ce (v:=(.agg (rdC x).toArray)) (D 7 rfl) (ce (v:=(i most)) (D 8 rfl) cn))))) (c48 (x:=x) (most:=most) _ (h11.1) (h21.1) (h3.1) (h5.1) (by omega) (by omega)) (fun u w2 k hu=>?_)
      exact ⟨fix_v,hu,bA13,eA13,(fun _ h2=>Bool.noConfusion (show true=false from h2)),(fun _ h2=>Bool.noConfusion (show true=false from h2)),(fun _ h2=>Bool.noConfusion (show true=false from h2)),Hn.ext k,Nat.le_trans hzz k.size⟩
    · exact ObG.to hBB hMo (fun _ _ _ _ _ ⟨bA13,eA13,eT1,eT3,eT5,Hn,hzz⟩ k=>⟨bA13,eA13,(fun h1 h2=>TubeAt.ext (eT1 h1 h2) k),(fun h1 h2=>RowAt.ext (eT3 h1 h2) k),(fun h1 h2=>RowAt.ext (eT5 h1 h2) k),Hn.ext k,Nat.le_trans hzz k.size⟩) (Ob.q rfl (fun _ _ B U D=>(zB (D 9 rfl))) rfl rfl)
    · exact ObG.to hBB hMo (fun _ _ _ _ _ ⟨bA13,eA13,eT1,eT3,eT5,Hn,hzz⟩ k=>⟨bA13,eA13,(fun h1 h2=>TubeAt.ext (eT1 h1 h2) k),(fun h1 h2=>RowAt.ext (eT3 h1 h2) k),(fun h1 h2=>RowAt.ext (eT5 h1 h2) k),Hn.ext k,Nat.le_trans hzz k.size⟩) (Ob.q rfl (fun _ _ B U D=>(zO (D 10 rfl) (j:=0) rfl)) rfl rfl)
    · exact ObG.to hBB hMo (fun _ _ _ _ _ ⟨bA13,eA13,eT1,eT3,eT5,Hn,hzz⟩ k=>⟨bA13,eA13,(fun h1 h2=>TubeAt.ext (eT1 h1 h2) k),(fun h1 h2=>RowAt.ext (eT3 h1 h2) k),(fun h1 h2=>RowAt.ext (eT5 h1 h2) k),Hn.ext k,Nat.le_trans hzz k.size⟩) (Ob.q rfl (fun _ _ B U D=>(zO (D 10 rfl) (j:=1) rfl)) rfl rfl)
    · refine ObG.sp rfl fun done ρ' w' hW U hcl hnd hwt D=>?_
      obtain ⟨bA13,eA13,eT1,eT3,eT5,Hn,hzz⟩:=hW
      have hs:=nd hcl (q:=14) rfl rfl hnd
      simp only [hnd,cond_false,List.nil_append] at Hn
      refine Hn.newK (l:=[i 0,i 0]) rfl zv41 rfl ?_
      intro bN w2 k Hm
      refine ⟨fix_v,trivial,bN,(fun _=>rfl),(fun h1 h2=>TubeAt.ext (eT1 h1 h2) k),(fun h1 h2=>RowAt.ext (eT3 h1 h2) k),(fun h1 h2=>RowAt.ext (eT5 h1 h2) k),?_,Nat.le_trans hzz k.size⟩
      show S Nm w ([(bN,bif done 14 then (.cells [i ((yA t h ices x most).lo),i ((yA t h ices x most).hi)].toArray 41 (0,0):Obj) else (.cells [i 0,i 0].toArray 41 (0,0):Obj))]++[(b16,.cells [i ((yK t h ices x).lo),i ((yK t h ices x).hi)].toArray 41 (0,0)),(b3,.cells (rdC x).toArray 33 (0,0)),(b1,.cells (tbC t ab cab ad cad).toArray 29 (0,0))]) w2
      rw [hs]
      exact Hm
    · refine ObG.sp rfl fun done ρ' w' hW U hcl hnd hwt D=>?_
      obtain ⟨bA13,eA13,eT1,eT3,eT5,Hn,hzz⟩:=hW
      have ha:done 13=true:=hwt 13 rfl
      simp only [ha,hnd,cond_true,cond_false] at Hn
      refine Hn.storeK (j:=0) (off:=0) (k:=2) (cs:=[i 0,i 0]) (u:=41) rfl sz41 (eA13 ha) (v:=(.agg #[(i ((yA t h ices x most).lo)),(i ((yA t h ices x most).hi))])) (D 11 rfl) rfl (vs:=[i ((yA t h ices x most).lo),i ((yA t h ices x most).hi)]) rfl rfl rfl (by simp [Value.oneCell']) (cs':=[i ((yA t h ices x most).lo),i ((yA t h ices x most).hi)]) rfl ?_
      intro w2 kS Hm
      refine ⟨fix_v,trivial,bA13,(fun _=>eA13 ha),(fun _ h2=>Bool.noConfusion ((show done 9=false from h2).symm.trans (hwt 9 rfl))),(fun _ h2=>Bool.noConfusion ((show done 9=false from h2).symm.trans (hwt 9 rfl))),(fun _ h2=>Bool.noConfusion ((show done 9=false from h2).symm.trans (hwt 9 rfl))),?_,Nat.le_trans hzz kS.size⟩
      show S Nm w ((bif done 13 then [(bA13,(.cells [i ((yA t h ices x most).lo),i ((yA t h ices x most).hi)].toArray 41 (0,0):Obj))] else [])++[(b16,.cells [i ((yK t h ices x).lo),i ((yK t h ices x).hi)].toArray 41 (0,0)),(b3,.cells (rdC x).toArray 33 (0,0)),(b1,.cells (tbC t ab cab ad cad).toArray 29 (0,0))]) w2
      rw [ha]
      exact Hm
  rintro ρ26 w27 ⟨b31,eA13,_,_,_,Hn,_⟩ U29 D30
  replace H:S Nm w [(b31,.cells [i ((yA t h ices x most).lo),i ((yA t h ices x most).hi)].toArray 41 (0,0)),(b16,.cells [i ((yK t h ices x).lo),i ((yK t h ices x).hi)].toArray 41 (0,0)),(b3,.cells (rdC x).toArray 33 (0,0)),(b1,.cells (tbC t ab cab ad cad).toArray 29 (0,0))] w27:=Hn;clear Hn hMo hBB
  have f32:=(U29 1 rfl).trans f17
  have f33:=(U29 2 rfl).trans f18
  have f34:=(U29 4 rfl).trans f19
  have f35:=(U29 5 rfl).trans f20
  have f36:=(U29 8 rfl).trans f21
  have f38:=(U29 11 rfl).trans f23
  have f39:ρ26 12=(i (corE t h ices x)):=U29 12 rfl
  have f40:ρ26 13=p b31 0:=eA13 rfl
  have f41:ρ26 48=(i (uC t h ices x most)):=D30 12 rfl
  clear U29 D30
  clear eA13
  refine Ro.q (v:=(i (uC t h ices x most))) rfl rfl (zD f41) rfl ?_
  refine Ro.nil (nT (Wp.seq (Wp.region ?_)))
  refine Ro.q rfl rfl (zJ ta29 f35 (H.cells 3 rfl) (j:=0) rfl (vs:=(tbC t ab cab ad cad)) rfl rfl) rfl ?_
  refine Ro.q (v:=(.slice ah h.length cah)) rfl rfl (zB f32) rfl ?_
  refine Ro.q (v:=(.slice ai ices.length cai)) rfl rfl (zB f33) rfl ?_
  refine Ro.q rfl rfl (zJ ta33 f36 (H.cells 2 rfl) (j:=0) rfl (vs:=(rdC x)) rfl rfl) rfl ?_
  refine Ro.d rfl rfl rfl (zH rfl en22 (ce (v:=(.agg (tbC t ab cab ad cad).toArray)) rfl (ce (v:=(.slice ah h.length cah)) rfl (ce (v:=(.slice ai ices.length cai)) rfl (ce (v:=(.agg (rdC x).toArray)) rfl cn)))) (c22 (t:=t) (h:=h) (ices:=ices) (x:=x) _ (hab.ext H.keep) (had.ext H.keep) (hah.ext H.keep) (hai.ext H.keep) (by omega) (by omega)) ?_)
  intro u w42 k43 hu;subst hu;replace H:=H.ext k43
  clear k43
  refine Ro.q (v:=(i (yY t h ices x))) rfl rfl (zD rfl) rfl ?_
  refine Ro.nil (nT (Wp.seq (Wp.seq (Wp.region ?_))))
  refine Ro.q (v:=(i (yY t h ices x))) rfl rfl (zB rfl) rfl ?_
  refine Ro.q rfl rfl (vW rfl rfl) rfl ?_
  refine Ro.nil (nT ?_)
  refine Wp.cond (t:=decide ((yY t h ices x)≠0)) rfl ?_ ?_
  · intro c44
    have c44r:=c44
    simp only [bx] at c44
    have hk:yY t h ices x≠0:=c44
    have e1:=cor_ask hk
    have e2:=corQ_bad (by rw [e1];exact hk)
    have e3:=acp_bad (most:=most) (by rw [acc_ask hk];exact hk)
    have e4:=acc_ask (most:=most) hk
    refine Wp.seq ?_
    let qq45:Bool:=decide ((corE t h ices x)=(yY t h ices x))
    let qq46:Bool:=decide ((uC t h ices x most)=(yY t h ices x))
    let qq47:Bool:=(qq45 && qq46)
    let qq48:Bool:=(decide (((yK t h ices x).lo)=0) && decide (((yK t h ices x).hi)=0))
    let qq49:Bool:=(qq47 && qq48)
    let qq50:Bool:=(decide (((yA t h ices x most).lo)=0) && decide (((yA t h ices x most).hi)=0))
    let qq51:Bool:=(qq49 && qq50)
    let qq52:Bool:=(qq51 && true)
    refine Wp.factsS 22 [is (i (corE t h ices x)),is (i (yY t h ices x)),is (.bool qq45),is (.bool qq45),gdv (True∧qq45=true) (i (uC t h ices x most)),gdv (True∧qq45=true) (i (yY t h ices x)),gdv (True∧qq45=true) (.bool qq46),is (.bool qq47),is (.bool qq47),gdv (True∧qq47=true) (.agg #[(i ((yK t h ices x).lo)),(i ((yK t h ices x).hi))]),gdv (True∧qq47=true) (.agg #[(i 0),(i 0)]),gdv (True∧qq47=true) (.bool qq48),is (.bool qq49),is (.bool qq49),gdv (True∧qq49=true) (.agg #[(i ((yA t h ices x most).lo)),(i ((yA t h ices x most).hi))]),gdv (True∧qq49=true) (.agg #[(i 0),(i 0)]),gdv (True∧qq49=true) (.bool qq50),is (.bool qq51),is (.bool qq51),gdv (True∧qq51=true) (.bool true),is (.bool qq52),is (.bool qq52)] (by kernel_rfl) (Mi (Mi (Mi (Mi (Mg (Mg (Mg (Mi (Mi (Mg (Mg (Mg (Mi (Mi (Mg (Mg (Mg (Mi (Mi (Mg (Mi (Mi Mono.nil)))))))))))))))))))))) (fun w' k=>H.ext k) ?_ ?_
    · refine ⟨?_,?_,?_,?_,?_,?_,?_,?_,?_,?_,?_,?_,?_,?_,?_,?_,?_,?_,?_,?_,?_,?_,trivial⟩
      · exact Ob.q rfl (fun _ _ B U D=>(zB ((U 12 rfl).trans f39))) rfl rfl
      · exact Ob.q rfl (fun _ _ B U D=>(zB (show (_:Value)=(i (yY t h ices x)) from U 15 rfl))) rfl rfl
      · exact Ob.q rfl (fun _ _ B U D=>(vR (D 0 rfl) (D 1 rfl))) rfl rfl
      · exact Ob.q rfl (fun _ _ B U D=>(zB (D 2 rfl))) rfl rfl
      · exact Ob.g0 rfl rfl (fun _ _ _ D=>D 3 rfl) rfl (fun _ _ B U D hC hg=>(zB (show (_:Value)=(i (uC t h ices x most)) from U 14 rfl))) rfl
      · exact Ob.g0 rfl rfl (fun _ _ _ D=>D 3 rfl) rfl (fun _ _ B U D hC hg=>(zB (show (_:Value)=(i (yY t h ices x)) from U 15 rfl))) rfl
      · exact Ob.g0 rfl rfl (fun _ _ _ D=>D 3 rfl) rfl (fun _ _ B U D hC hg=>(vR (gdy (D 4 rfl) ⟨hC,hg⟩) (gdy (D 5 rfl) ⟨hC,hg⟩))) rfl
      · exact Ob.q rfl (fun _ _ B U D=>(zQ (v:=(.bool qq47)) (D 3 rfl) (fun eP=>(gdy (D 6 rfl) ⟨trivial,eP⟩).trans (yF eP)) (fun eP=>yE eP))) rfl rfl
      · exact Ob.q rfl (fun _ _ B U D=>(zB (D 7 rfl))) rfl rfl
      · exact Ob.g0 rfl rfl (fun _ _ _ D=>D 8 rfl) rfl (fun _ _ B U D hC hg=>(zJ vL ((U 11 rfl).trans f38) (B.cells 1 rfl) (j:=0) rfl (vs:=[i ((yK t h ices x).lo),i ((yK t h ices x).hi)]) rfl rfl)) rfl
      · exact Ob.g0 rfl rfl (fun _ _ _ D=>D 8 rfl) rfl (fun _ _ B U D hC hg=>(zP (v:=(.agg #[(i 0),(i 0)])) pn (fun w=>by kernel_rfl))) rfl
      · exact Ob.g0 rfl rfl (fun _ _ _ D=>D 8 rfl) rfl (fun _ _ B U D hC hg=>(r_eqS (eq41 ((yK t h ices x).lo) ((yK t h ices x).hi) 0 0) (gdy (D 9 rfl) ⟨hC,hg⟩) (gdy (D 10 rfl) ⟨hC,hg⟩))) rfl
      · exact Ob.q rfl (fun _ _ B U D=>(zQ (v:=(.bool qq49)) (D 8 rfl) (fun eP=>(gdy (D 11 rfl) ⟨trivial,eP⟩).trans (yF eP)) (fun eP=>yE eP))) rfl rfl
      · exact Ob.q rfl (fun _ _ B U D=>(zB (D 12 rfl))) rfl rfl
      · exact Ob.g0 rfl rfl (fun _ _ _ D=>D 13 rfl) rfl (fun _ _ B U D hC hg=>(zJ vL ((U 13 rfl).trans f40) (B.cells 0 rfl) (j:=0) rfl (vs:=[i ((yA t h ices x most).lo),i ((yA t h ices x most).hi)]) rfl rfl)) rfl
      · exact Ob.g0 rfl rfl (fun _ _ _ D=>D 13 rfl) rfl (fun _ _ B U D hC hg=>(zP (v:=(.agg #[(i 0),(i 0)])) pn (fun w=>by kernel_rfl))) rfl
      · exact Ob.g0 rfl rfl (fun _ _ _ D=>D 13 rfl) rfl (fun _ _ B U D hC hg=>(r_eqS (eq41 ((yA t h ices x most).lo) ((yA t h ices x most).hi) 0 0) (gdy (D 14 rfl) ⟨hC,hg⟩) (gdy (D 15 rfl) ⟨hC,hg⟩))) rfl
      · exact Ob.q rfl (fun _ _ B U D=>(zQ (v:=(.bool qq51)) (D 13 rfl) (fun eP=>(gdy (D 16 rfl) ⟨trivial,eP⟩).trans (yF eP)) (fun eP=>yE eP))) rfl rfl
      · exact Ob.q rfl (fun _ _ B U D=>(zB (D 17 rfl))) rfl rfl
      · exact Ob.gd (C:=True) (g:=qq51) rfl rfl (fun ρ' w' U D=>⟨fun _=>(D 18 rfl),fun h=>absurd trivial h⟩) (fun _ h=>⟨fun hc=>absurd hc (yQ h),fun _=>rfl⟩) fun ρ' w' B U D hC hg=>zH rfl en16 cn (c16 _) (fun u w2 k2 hu=>⟨k2,⟨fun _=>hu,fun n=>absurd ⟨hC,hg⟩ n⟩⟩)
      · exact Ob.q rfl (fun _ _ B U D=>(zQ (v:=(.bool qq52)) (D 18 rfl) (fun eP=>(gdy (D 19 rfl) ⟨trivial,eP⟩).trans (yF eP)) (fun eP=>yE eP))) rfl rfl
      · exact Ob.q rfl (fun _ _ B U D=>(zD (D 20 rfl))) rfl rfl
    intro ρ53 w54 k55 U56 D57;replace H:=H.ext k55
    have f67:ρ53 10=(.bool qq52):=D57 21 rfl
    clear U56 D57 k55
    refine Ro.nil (nT (Wp.ret (rT (zN ?_))))
    refine zI (v:=(.bool (((((decide ((corE t h ices x)=(yY t h ices x))) && (decide ((uC t h ices x most)=(yY t h ices x)))) && (decide (((yK t h ices x).lo)=0) && decide (((yK t h ices x).hi)=0))) && (decide (((yA t h ices x most).lo)=0) && decide (((yA t h ices x most).hi)=0))) && true))) Tryz.results10 f67 ⟨H.keep,?_⟩
    refine congrArg Value.bool ?_
    rw [e1,e2,e3.1,e3.2,e4];simp
  intro c44
  have c44r:=c44
  simp only [bx] at c44
  have hk:yY t h ices x=0:=by omega
  have G:=ask_Good hk
  have e1:=cor_ref hk
  refine Wp.skip (nT (Wp.seq (Wp.region ?_)))
  refine Ro.q rfl rfl (zJ ta29 f35 (H.cells 3 rfl) (j:=0) rfl (vs:=(tbC t ab cab ad cad)) rfl rfl) rfl ?_
  refine Ro.q (v:=(.slice ah h.length cah)) rfl rfl (zB f32) rfl ?_
  refine Ro.q (v:=(.slice ai ices.length cai)) rfl rfl (zB f33) rfl ?_
  refine Ro.q rfl rfl (zJ ta33 f36 (H.cells 2 rfl) (j:=0) rfl (vs:=(rdC x)) rfl rfl) rfl ?_
  refine Ro.d rfl rfl rfl (zH rfl en23 (ce (v:=(.agg (tbC t ab cab ad cad).toArray)) rfl (ce (v:=(.slice ah h.length cah)) rfl (ce (v:=(.slice ai ices.length cai)) rfl (ce (v:=(.agg (rdC x).toArray)) rfl cn)))) (c23 (x:=x) _ (hab.ext H.keep) (had.ext H.keep) (hah.ext H.keep) (hai.ext H.keep) G) ?_)
  intro u w68 k69 hu;subst hu;replace H:=H.ext k69
  clear k69
  refine Ro.q (v:=(i (vE t h ices x))) rfl rfl (zD rfl) rfl ?_
  refine Ro.nil (nT (Wp.seq (Wp.region ?_)))
  refine Ro.d rfl rfl rfl (H.new (l:=[i 0,i 0]) rfl zv25 rfl ?_)
  intro b70 w71 Hn;replace H:=Hn;clear Hn
  refine Ro.nil (nT (Wp.seq (Wp.seq (Wp.region ?_))))
  refine Ro.q (v:=(i (vE t h ices x))) rfl rfl (zB rfl) rfl ?_
  refine Ro.q rfl rfl (vR rfl rfl) rfl ?_
  refine Ro.nil (nT ?_)
  refine Wp.cond (t:=decide ((vE t h ices x)=0)) rfl ?_ ?_
  · intro c72
    have c72r:=c72
    simp only [bx] at c72
    have hr:vE t h ices x=0:=c72
    have ha:=(refE_zero hr).2.2
    have e2:=corQ_good (show corE t h ices x=0 by rw [e1];exact hr)
    have hci:=corR_in G ha
    refine Wp.region ?_
    refine Ro.q rfl rfl (zJ ta29 f35 (H.cells 4 rfl) (j:=0) rfl (vs:=(tbC t ab cab ad cad)) rfl rfl) rfl ?_
    refine Ro.q (v:=(.slice ah h.length cah)) rfl rfl (zB f32) rfl ?_
    refine Ro.q (v:=(.slice ai ices.length cai)) rfl rfl (zB f33) rfl ?_
    refine Ro.q rfl rfl (zJ ta33 f36 (H.cells 3 rfl) (j:=0) rfl (vs:=(rdC x)) rfl rfl) rfl ?_
    refine Ro.d rfl rfl rfl (zH rfl en49 (ce (v:=(.agg (tbC t ab cab ad cad).toArray)) rfl (ce (v:=(.slice ah h.length cah)) rfl (ce (v:=(.slice ai ices.length cai)) rfl (ce (v:=(.agg (rdC x).toArray)) rfl cn)))) (c49 (x:=x) _ (hab.ext H.keep) (had.ext H.keep) (hah.ext H.keep) (hai.ext H.keep) G ha) ?_)
    intro u w73 k74 hu;subst hu;replace H:=H.ext k74
    clear k74
    refine Ro.d0 rfl rfl rfl (H.store (j:=0) (off:=0) (k:=2) rfl sz25 rfl (v:=(.agg #[(i ((yR t h ices x).lo)),(i ((yR t h ices x).hi))])) rfl rfl rfl rfl rfl (by simp [Value.oneCell']) (cs':=[i ((yR t h ices x).lo),i ((yR t h ices x).hi)]) rfl ?_)
    intro w75 Hn;replace H:=Hn;clear Hn
    refine Ro.nil (nT (Wp.seq (Wp.seq ?_)))
    let qq76:Bool:=decide ((corE t h ices x)≠(vE t h ices x))
    let qq77:Bool:=!(decide (((yK t h ices x).lo)=((yR t h ices x).lo)) && decide (((yK t h ices x).hi)=((yR t h ices x).hi)))
    let qq78:Bool:=(qq76 || qq77)
    refine Wp.drawnS 9 [0,0,3,7,15,15,47,127,255] [is (i (corE t h ices x)),is (i (vE t h ices x)),is (.bool qq76),is (.bool qq76),gdv (True∧qq76=false) (.agg #[(i ((yK t h ices x).lo)),(i ((yK t h ices x).hi))]),gdv (True∧qq76=false) (.agg #[(i ((yR t h ices x).lo)),(i ((yR t h ices x).hi))]),gdv (True∧qq76=false) (.agg #[(i ((yR t h ices x).lo)),(i ((yR t h ices x).hi))]),gdv (True∧qq76=false) (.bool qq77),is (.bool qq78)] (by kernel_rfl) (by kernel_rfl) rfl (Mi (Mi (Mi (Mi (Mg (Mg (Mg (Mg (Mi Mono.nil))))))))) (fun w' k=>H.ext k) ?_ ?_
    · refine ⟨?_,?_,?_,?_,?_,?_,?_,?_,?_,trivial⟩
      · exact Ob.q rfl (fun _ _ B U D=>(zB ((U 12 rfl).trans f39))) rfl rfl
      · exact Ob.q rfl (fun _ _ B U D=>(zB (show (_:Value)=(i (vE t h ices x)) from U 16 rfl))) rfl rfl
      · exact Ob.q rfl (fun _ _ B U D=>(vW (D 0 rfl) (D 1 rfl))) rfl rfl
      · exact Ob.q rfl (fun _ _ B U D=>(zB (D 2 rfl))) rfl rfl
      · exact Ob.g0 rfl rfl (fun _ _ _ D=>D 3 rfl) rfl (fun _ _ B U D hC hg=>(zJ vL ((U 11 rfl).trans f38) (B.cells 2 rfl) (j:=0) rfl (vs:=[i ((yK t h ices x).lo),i ((yK t h ices x).hi)]) rfl rfl)) rfl
      · exact Ob.g0 rfl rfl (fun _ _ _ D=>D 3 rfl) rfl (fun _ _ B U D hC hg=>(zJ ta25 (show (_:Value)=(p b70 0) from U 17 rfl) (B.cells 0 rfl) (j:=0) rfl (vs:=[i ((yR t h ices x).lo),i ((yR t h ices x).hi)]) rfl rfl)) rfl
      · exact Ob.gd (C:=True) (g:=qq76) rfl rfl (fun ρ' w' U D=>⟨fun _=>(D 3 rfl),fun h=>absurd trivial h⟩) (fun _ h=>⟨fun hc=>absurd hc (yQ h),fun _=>rfl⟩) fun ρ' w' B U D hC hg=>zH rfl en31 (ce (v:=(.agg #[(i ((yR t h ices x).lo)),(i ((yR t h ices x).hi))])) (gdy (D 5 rfl) ⟨hC,hg⟩) cn) (c31 ((yR t h ices x).lo) ((yR t h ices x).hi) _ ) (fun u w2 k2 hu=>⟨k2,⟨fun _=>hu,fun n=>absurd ⟨hC,hg⟩ n⟩⟩)
      · exact Ob.g0 rfl rfl (fun _ _ _ D=>D 3 rfl) rfl (fun _ _ B U D hC hg=>(r_neS (eq41 ((yK t h ices x).lo) ((yK t h ices x).hi) ((yR t h ices x).lo) ((yR t h ices x).hi)) (gdy (D 4 rfl) ⟨hC,hg⟩) (gdy (D 6 rfl) ⟨hC,hg⟩))) rfl
      · exact Ob.q rfl (fun _ _ B U D=>(zQ (v:=(.bool qq78)) (D 3 rfl) (fun eP=>or_t eP) (fun eP=>(gdy (D 7 rfl) ⟨trivial,eP⟩).trans (or_f eP)))) rfl rfl
    intro ρ79 w80 k81 U82 D83;replace H:=H.ext k81
    have f84:=(U82 4 rfl).trans f34
    have f86:=(U82 11 rfl).trans f38
    have f87:=(U82 13 rfl).trans f40
    have f88:ρ79 14=(i (uC t h ices x most)):=U82 14 rfl
    have f89:ρ79 16=(i (vE t h ices x)):=U82 16 rfl
    have f90:ρ79 17=(p b70 0):=U82 17 rfl
    have f91:ρ79 97=(.bool qq78):=D83 8 rfl
    clear U82 D83 k81
    refine Ro.nil (nT ?_)
    refine Wp.condF (f91.trans (congrArg Value.bool (show qq78=false by show (((decide ((corE t h ices x)≠(vE t h ices x))) || (!(decide (((yK t h ices x).lo)=((yR t h ices x).lo)) && decide (((yK t h ices x).hi)=((yR t h ices x).hi))))))=false;rw [e1,e2];simp))) ?_
    refine Wp.skip (nT (Wp.seq (Wp.block (Wp.seq (Wp.region ?_)))))
    refine Ro.q (v:=(i most)) rfl rfl (zB f84) rfl ?_
    refine Ro.q rfl rfl (yB rfl rfl) rfl ?_
    refine Ro.q (v:=(.bool (decide (most<0)))) rfl rfl (zD rfl) rfl ?_
    refine Ro.nil (nT ?_)
    refine Wp.cond (t:=decide (most<0)) rfl ?_ ?_
    · intro c93
      have c93r:=c93
      simp only [bx] at c93
      refine Wp.region ?_
      refine Ro.q (v:=(i 2)) rfl rfl (zD rfl) rfl ?_
      refine Ro.nil (nB (nT (Wp.seq (Wp.seq (Wp.region ?_)))))
      refine Ro.q (v:=(i 2)) rfl rfl (zB rfl) rfl ?_
      refine Ro.q (v:=(.bool true)) rfl rfl (Runs.to (vW rfl rfl) (by rfl)) rfl ?_
      refine Ro.nil (nT ?_)
      refine Wp.condT rfl ?_
      refine Wp.seq ?_
      let qq94:Bool:=decide ((uC t h ices x most)=2)
      let qq95:Bool:=(decide (((yA t h ices x most).lo)=0) && decide (((yA t h ices x most).hi)=0))
      let qq96:Bool:=(qq94 && qq95)
      let qq97:Bool:=(qq96 && true)
      refine Wp.factsS 12 [is (i (uC t h ices x most)),is (i 2),is (.bool qq94),is (.bool qq94),gdv (True∧qq94=true) (.agg #[(i ((yA t h ices x most).lo)),(i ((yA t h ices x most).hi))]),gdv (True∧qq94=true) (.agg #[(i 0),(i 0)]),gdv (True∧qq94=true) (.bool qq95),is (.bool qq96),is (.bool qq96),gdv (True∧qq96=true) (.bool true),is (.bool qq97),is (.bool qq97)] (by kernel_rfl) (Mi (Mi (Mi (Mi (Mg (Mg (Mg (Mi (Mi (Mg (Mi (Mi Mono.nil)))))))))))) (fun w' k=>H.ext k) ?_ ?_
      · refine ⟨?_,?_,?_,?_,?_,?_,?_,?_,?_,?_,?_,?_,trivial⟩
        · exact Ob.q rfl (fun _ _ B U D=>(zB ((U 14 rfl).trans f88))) rfl rfl
        · exact Ob.q rfl (fun _ _ B U D=>(zB (show (_:Value)=(i 2) from U 16 rfl))) rfl rfl
        · exact Ob.q rfl (fun _ _ B U D=>(vR (D 0 rfl) (D 1 rfl))) rfl rfl
        · exact Ob.q rfl (fun _ _ B U D=>(zB (D 2 rfl))) rfl rfl
        · exact Ob.g0 rfl rfl (fun _ _ _ D=>D 3 rfl) rfl (fun _ _ B U D hC hg=>(zJ vL ((U 13 rfl).trans f87) (B.cells 1 rfl) (j:=0) rfl (vs:=[i ((yA t h ices x most).lo),i ((yA t h ices x most).hi)]) rfl rfl)) rfl
        · exact Ob.g0 rfl rfl (fun _ _ _ D=>D 3 rfl) rfl (fun _ _ B U D hC hg=>(zP (v:=(.agg #[(i 0),(i 0)])) pn (fun w=>by kernel_rfl))) rfl
        · exact Ob.g0 rfl rfl (fun _ _ _ D=>D 3 rfl) rfl (fun _ _ B U D hC hg=>(r_eqS (eq41 ((yA t h ices x most).lo) ((yA t h ices x most).hi) 0 0) (gdy (D 4 rfl) ⟨hC,hg⟩) (gdy (D 5 rfl) ⟨hC,hg⟩))) rfl
        · exact Ob.q rfl (fun _ _ B U D=>(zQ (v:=(.bool qq96)) (D 3 rfl) (fun eP=>(gdy (D 6 rfl) ⟨trivial,eP⟩).trans (yF eP)) (fun eP=>yE eP))) rfl rfl
        · exact Ob.q rfl (fun _ _ B U D=>(zB (D 7 rfl))) rfl rfl
        · exact Ob.gd (C:=True) (g:=qq96) rfl rfl (fun ρ' w' U D=>⟨fun _=>(D 8 rfl),fun h=>absurd trivial h⟩) (fun _ h=>⟨fun hc=>absurd hc (yQ h),fun _=>rfl⟩) fun ρ' w' B U D hC hg=>zH rfl en16 cn (c16 _) (fun u w2 k2 hu=>⟨k2,⟨fun _=>hu,fun n=>absurd ⟨hC,hg⟩ n⟩⟩)
        · exact Ob.q rfl (fun _ _ B U D=>(zQ (v:=(.bool qq97)) (D 8 rfl) (fun eP=>(gdy (D 9 rfl) ⟨trivial,eP⟩).trans (yF eP)) (fun eP=>yE eP))) rfl rfl
        · exact Ob.q rfl (fun _ _ B U D=>(zD (D 10 rfl))) rfl rfl
      intro ρ98 w99 k100 U101 D102;replace H:=H.ext k100
      have f106:ρ98 10=(.bool qq97):=D102 11 rfl
      clear U101 D102 k100
      refine Ro.nil (nT (Wp.ret (rT (zN ?_))))
      refine zI (v:=(.bool (((decide ((uC t h ices x most)=2)) && (decide (((yA t h ices x most).lo)=0) && decide (((yA t h ices x most).hi)=0))) && true))) Tryz.results10 f106 ⟨H.keep,?_⟩
      have a1:=acc_neg hk c93
      have a2:=acp_bad (most:=most) (by rw [a1];decide)
      refine congrArg Value.bool ?_
      rw [a2.1,a2.2,a1];simp
    intro c93
    have c93r:=c93
    simp only [bx] at c93
    refine Wp.seq ?_
    let qq107:Bool:=decide ((vE t h ices x)=0)
    let qq108:Bool:=decide (most<(((yR t h ices x).hi)-((yR t h ices x).lo)))
    let qq109:Bool:=(qq107 && qq108)
    refine Wp.factsS 12 [is (i (vE t h ices x)),is (.bool qq107),is (.bool qq107),gdv (True∧qq107=true) (p b70 1),gdv (True∧qq107=true) (i ((yR t h ices x).hi)),gdv (True∧qq107=true) (p b70 0),gdv (True∧qq107=true) (i ((yR t h ices x).lo)),gdv (True∧qq107=true) (i (((yR t h ices x).hi)-((yR t h ices x).lo))),gdv (True∧qq107=true) (i most),gdv (True∧qq107=true) (.bool qq108),is (.bool qq109),is (.bool qq109)] (by kernel_rfl) (Mi (Mi (Mi (Mg (Mg (Mg (Mg (Mg (Mg (Mg (Mi (Mi Mono.nil)))))))))))) (fun w' k=>H.ext k) ?_ ?_
    · refine ⟨?_,?_,?_,?_,?_,?_,?_,?_,?_,?_,?_,?_,trivial⟩
      · exact Ob.q rfl (fun _ _ B U D=>(zB ((U 16 rfl).trans f89))) rfl rfl
      · exact Ob.q rfl (fun _ _ B U D=>(vR (D 0 rfl) rfl)) rfl rfl
      · exact Ob.q rfl (fun _ _ B U D=>(zB (D 1 rfl))) rfl rfl
      · exact Ob.g0 rfl rfl (fun _ _ _ D=>D 2 rfl) rfl (fun _ _ B U D hC hg=>(zA uB ((U 17 rfl).trans f90) rfl)) rfl
      · exact Ob.g0 rfl rfl (fun _ _ _ D=>D 2 rfl) rfl (fun _ _ B U D hC hg=>(zE zM (gdy (D 3 rfl) ⟨hC,hg⟩) (B.cells 0 rfl) (j:=1) rfl rfl)) rfl
      · exact Ob.g0 rfl rfl (fun _ _ _ D=>D 2 rfl) rfl (fun _ _ B U D hC hg=>(zA uI ((U 17 rfl).trans f90) rfl)) rfl
      · exact Ob.g0 rfl rfl (fun _ _ _ D=>D 2 rfl) rfl (fun _ _ B U D hC hg=>(zE zM (gdy (D 5 rfl) ⟨hC,hg⟩) (B.cells 0 rfl) (j:=0) rfl rfl)) rfl
      · exact Ob.g0 rfl rfl (fun _ _ _ D=>D 2 rfl) rfl (fun _ _ B U D hC hg=>(yT (gdy (D 4 rfl) ⟨hC,hg⟩) (gdy (D 6 rfl) ⟨hC,hg⟩) (by constructor <;>omega))) rfl
      · exact Ob.g0 rfl rfl (fun _ _ _ D=>D 2 rfl) rfl (fun _ _ B U D hC hg=>(zB ((U 4 rfl).trans f84))) rfl
      · exact Ob.g0 rfl rfl (fun _ _ _ D=>D 2 rfl) rfl (fun _ _ B U D hC hg=>(r_gtr (gdy (D 7 rfl) ⟨hC,hg⟩) (gdy (D 8 rfl) ⟨hC,hg⟩))) rfl
      · exact Ob.q rfl (fun _ _ B U D=>(zQ (v:=(.bool qq109)) (D 2 rfl) (fun eP=>(gdy (D 9 rfl) ⟨trivial,eP⟩).trans (yF eP)) (fun eP=>yE eP))) rfl rfl
      · exact Ob.q rfl (fun _ _ B U D=>(zD (D 10 rfl))) rfl rfl
    intro ρ110 w111 k112 U113 D114;replace H:=H.ext k112
    have f116:=(U113 11 rfl).trans f86
    have f117:=(U113 13 rfl).trans f87
    have f118:=(U113 14 rfl).trans f88
    have f119:=(U113 16 rfl).trans f89
    have f120:ρ110 101=(.bool qq109):=D114 11 rfl
    clear U113 D114 k112
    refine Ro.nil (nT ?_)
    refine Wp.cond (t:=qq109) f120 ?_ ?_
    · intro c121
      have c121r:(((decide ((vE t h ices x)=0)) && (decide (most<(((yR t h ices x).hi)-((yR t h ices x).lo))))))=true:=c121
      replace c121:=c121r
      simp only [bx] at c121
      refine Wp.region ?_
      refine Ro.q (v:=(i 10)) rfl rfl (zD rfl) rfl ?_
      refine Ro.nil (nB (nT (Wp.seq (Wp.seq (Wp.region ?_)))))
      refine Ro.q (v:=(i 10)) rfl rfl (zB rfl) rfl ?_
      refine Ro.q (v:=(.bool true)) rfl rfl (Runs.to (vW rfl rfl) (by rfl)) rfl ?_
      refine Ro.nil (nT ?_)
      refine Wp.condT rfl ?_
      refine Wp.seq ?_
      let qq122:Bool:=decide ((uC t h ices x most)=10)
      let qq123:Bool:=(decide (((yA t h ices x most).lo)=0) && decide (((yA t h ices x most).hi)=0))
      let qq124:Bool:=(qq122 && qq123)
      let qq125:Bool:=(qq124 && true)
      refine Wp.factsS 12 [is (i (uC t h ices x most)),is (i 10),is (.bool qq122),is (.bool qq122),gdv (True∧qq122=true) (.agg #[(i ((yA t h ices x most).lo)),(i ((yA t h ices x most).hi))]),gdv (True∧qq122=true) (.agg #[(i 0),(i 0)]),gdv (True∧qq122=true) (.bool qq123),is (.bool qq124),is (.bool qq124),gdv (True∧qq124=true) (.bool true),is (.bool qq125),is (.bool qq125)] (by kernel_rfl) (Mi (Mi (Mi (Mi (Mg (Mg (Mg (Mi (Mi (Mg (Mi (Mi Mono.nil)))))))))))) (fun w' k=>H.ext k) ?_ ?_
      · refine ⟨?_,?_,?_,?_,?_,?_,?_,?_,?_,?_,?_,?_,trivial⟩
        · exact Ob.q rfl (fun _ _ B U D=>(zB ((U 14 rfl).trans f118))) rfl rfl
        · exact Ob.q rfl (fun _ _ B U D=>(zB (show (_:Value)=(i 10) from U 16 rfl))) rfl rfl
        · exact Ob.q rfl (fun _ _ B U D=>(vR (D 0 rfl) (D 1 rfl))) rfl rfl
        · exact Ob.q rfl (fun _ _ B U D=>(zB (D 2 rfl))) rfl rfl
        · exact Ob.g0 rfl rfl (fun _ _ _ D=>D 3 rfl) rfl (fun _ _ B U D hC hg=>(zJ vL ((U 13 rfl).trans f117) (B.cells 1 rfl) (j:=0) rfl (vs:=[i ((yA t h ices x most).lo),i ((yA t h ices x most).hi)]) rfl rfl)) rfl
        · exact Ob.g0 rfl rfl (fun _ _ _ D=>D 3 rfl) rfl (fun _ _ B U D hC hg=>(zP (v:=(.agg #[(i 0),(i 0)])) pn (fun w=>by kernel_rfl))) rfl
        · exact Ob.g0 rfl rfl (fun _ _ _ D=>D 3 rfl) rfl (fun _ _ B U D hC hg=>(r_eqS (eq41 ((yA t h ices x most).lo) ((yA t h ices x most).hi) 0 0) (gdy (D 4 rfl) ⟨hC,hg⟩) (gdy (D 5 rfl) ⟨hC,hg⟩))) rfl
        · exact Ob.q rfl (fun _ _ B U D=>(zQ (v:=(.bool qq124)) (D 3 rfl) (fun eP=>(gdy (D 6 rfl) ⟨trivial,eP⟩).trans (yF eP)) (fun eP=>yE eP))) rfl rfl
        · exact Ob.q rfl (fun _ _ B U D=>(zB (D 7 rfl))) rfl rfl
        · exact Ob.gd (C:=True) (g:=qq124) rfl rfl (fun ρ' w' U D=>⟨fun _=>(D 8 rfl),fun h=>absurd trivial h⟩) (fun _ h=>⟨fun hc=>absurd hc (yQ h),fun _=>rfl⟩) fun ρ' w' B U D hC hg=>zH rfl en16 cn (c16 _) (fun u w2 k2 hu=>⟨k2,⟨fun _=>hu,fun n=>absurd ⟨hC,hg⟩ n⟩⟩)
        · exact Ob.q rfl (fun _ _ B U D=>(zQ (v:=(.bool qq125)) (D 8 rfl) (fun eP=>(gdy (D 9 rfl) ⟨trivial,eP⟩).trans (yF eP)) (fun eP=>yE eP))) rfl rfl
        · exact Ob.q rfl (fun _ _ B U D=>(zD (D 10 rfl))) rfl rfl
      intro ρ126 w127 k128 U129 D130;replace H:=H.ext k128
      have f134:ρ126 10=(.bool qq125):=D130 11 rfl
      clear U129 D130 k128
      refine Ro.nil (nT (Wp.ret (rT (zN ?_))))
      refine zI (v:=(.bool (((decide ((uC t h ices x most)=10)) && (decide (((yA t h ices x most).lo)=0) && decide (((yA t h ices x most).hi)=0))) && true))) Tryz.results10 f134 ⟨H.keep,?_⟩
      have a1:=acc_ref (h:=h) (ices:=ices) (x:=x) (t:=t) (most:=most) hk (by omega)
      have a2:=acp_wide (a1.trans hr) (by have:=c121.2;omega)
      refine congrArg Value.bool ?_
      rw [a2.1,a2.2];simp
    intro c121
    have c121r:(((decide ((vE t h ices x)=0)) && (decide (most<(((yR t h ices x).hi)-((yR t h ices x).lo))))))=false:=c121
    replace c121:=c121r
    simp only [bx] at c121
    refine Wp.skip (nB (nT (Wp.seq (Wp.seq (Wp.region ?_)))))
    refine Ro.q (v:=(i (vE t h ices x))) rfl rfl (zB f119) rfl ?_
    refine Ro.q rfl rfl (vW rfl rfl) rfl ?_
    refine Ro.nil (nT ?_)
    refine Wp.cond (t:=decide ((vE t h ices x)≠0)) rfl ?_ ?_
    · intro c135
      have c135r:=c135
      simp only [bx] at c135
      refine Wp.seq ?_
      let qq136:Bool:=decide ((uC t h ices x most)=(vE t h ices x))
      let qq137:Bool:=(decide (((yA t h ices x most).lo)=0) && decide (((yA t h ices x most).hi)=0))
      let qq138:Bool:=(qq136 && qq137)
      let qq139:Bool:=(qq138 && true)
      refine Wp.factsS 12 [is (i (uC t h ices x most)),is (i (vE t h ices x)),is (.bool qq136),is (.bool qq136),gdv (True∧qq136=true) (.agg #[(i ((yA t h ices x most).lo)),(i ((yA t h ices x most).hi))]),gdv (True∧qq136=true) (.agg #[(i 0),(i 0)]),gdv (True∧qq136=true) (.bool qq137),is (.bool qq138),is (.bool qq138),gdv (True∧qq138=true) (.bool true),is (.bool qq139),is (.bool qq139)] (by kernel_rfl) (Mi (Mi (Mi (Mi (Mg (Mg (Mg (Mi (Mi (Mg (Mi (Mi Mono.nil)))))))))))) (fun w' k=>H.ext k) ?_ ?_
      · refine ⟨?_,?_,?_,?_,?_,?_,?_,?_,?_,?_,?_,?_,trivial⟩
        · exact Ob.q rfl (fun _ _ B U D=>(zB ((U 14 rfl).trans f118))) rfl rfl
        · exact Ob.q rfl (fun _ _ B U D=>(zB ((U 16 rfl).trans f119))) rfl rfl
        · exact Ob.q rfl (fun _ _ B U D=>(vR (D 0 rfl) (D 1 rfl))) rfl rfl
        · exact Ob.q rfl (fun _ _ B U D=>(zB (D 2 rfl))) rfl rfl
        · exact Ob.g0 rfl rfl (fun _ _ _ D=>D 3 rfl) rfl (fun _ _ B U D hC hg=>(zJ vL ((U 13 rfl).trans f117) (B.cells 1 rfl) (j:=0) rfl (vs:=[i ((yA t h ices x most).lo),i ((yA t h ices x most).hi)]) rfl rfl)) rfl
        · exact Ob.g0 rfl rfl (fun _ _ _ D=>D 3 rfl) rfl (fun _ _ B U D hC hg=>(zP (v:=(.agg #[(i 0),(i 0)])) pn (fun w=>by kernel_rfl))) rfl
        · exact Ob.g0 rfl rfl (fun _ _ _ D=>D 3 rfl) rfl (fun _ _ B U D hC hg=>(r_eqS (eq41 ((yA t h ices x most).lo) ((yA t h ices x most).hi) 0 0) (gdy (D 4 rfl) ⟨hC,hg⟩) (gdy (D 5 rfl) ⟨hC,hg⟩))) rfl
        · exact Ob.q rfl (fun _ _ B U D=>(zQ (v:=(.bool qq138)) (D 3 rfl) (fun eP=>(gdy (D 6 rfl) ⟨trivial,eP⟩).trans (yF eP)) (fun eP=>yE eP))) rfl rfl
        · exact Ob.q rfl (fun _ _ B U D=>(zB (D 7 rfl))) rfl rfl
        · exact Ob.gd (C:=True) (g:=qq138) rfl rfl (fun ρ' w' U D=>⟨fun _=>(D 8 rfl),fun h=>absurd trivial h⟩) (fun _ h=>⟨fun hc=>absurd hc (yQ h),fun _=>rfl⟩) fun ρ' w' B U D hC hg=>zH rfl en16 cn (c16 _) (fun u w2 k2 hu=>⟨k2,⟨fun _=>hu,fun n=>absurd ⟨hC,hg⟩ n⟩⟩)
        · exact Ob.q rfl (fun _ _ B U D=>(zQ (v:=(.bool qq139)) (D 8 rfl) (fun eP=>(gdy (D 9 rfl) ⟨trivial,eP⟩).trans (yF eP)) (fun eP=>yE eP))) rfl rfl
        · exact Ob.q rfl (fun _ _ B U D=>(zD (D 10 rfl))) rfl rfl
      intro ρ140 w141 k142 U143 D144;replace H:=H.ext k142
      have f148:ρ140 10=(.bool qq139):=D144 11 rfl
      clear U143 D144 k142
      refine Ro.nil (nT (Wp.ret (rT (zN ?_))))
      refine zI (v:=(.bool (((decide ((uC t h ices x most)=(vE t h ices x))) && (decide (((yA t h ices x most).lo)=0) && decide (((yA t h ices x most).hi)=0))) && true))) Tryz.results10 f148 ⟨H.keep,?_⟩
      have a1:=acc_ref (h:=h) (ices:=ices) (x:=x) (t:=t) (most:=most) hk (by omega)
      exact absurd hr c135
    intro c135
    have c135r:=c135
    simp only [bx] at c135
    refine Wp.skip (nT (Wp.seq ?_))
    let qq149:Bool:=decide ((uC t h ices x most)=0)
    let qq150:Bool:=(decide (((yA t h ices x most).lo)=((yK t h ices x).lo)) && decide (((yA t h ices x most).hi)=((yK t h ices x).hi)))
    let qq151:Bool:=(qq149 && qq150)
    let qq152:Bool:=(qq151 && true)
    refine Wp.factsS 11 [is (i (uC t h ices x most)),is (.bool qq149),is (.bool qq149),gdv (True∧qq149=true) (.agg #[(i ((yA t h ices x most).lo)),(i ((yA t h ices x most).hi))]),gdv (True∧qq149=true) (.agg #[(i ((yK t h ices x).lo)),(i ((yK t h ices x).hi))]),gdv (True∧qq149=true) (.bool qq150),is (.bool qq151),is (.bool qq151),gdv (True∧qq151=true) (.bool true),is (.bool qq152),is (.bool qq152)] (by kernel_rfl) (Mi (Mi (Mi (Mg (Mg (Mg (Mi (Mi (Mg (Mi (Mi Mono.nil))))))))))) (fun w' k=>H.ext k) ?_ ?_
    · refine ⟨?_,?_,?_,?_,?_,?_,?_,?_,?_,?_,?_,trivial⟩
      · exact Ob.q rfl (fun _ _ B U D=>(zB ((U 14 rfl).trans f118))) rfl rfl
      · exact Ob.q rfl (fun _ _ B U D=>(vR (D 0 rfl) rfl)) rfl rfl
      · exact Ob.q rfl (fun _ _ B U D=>(zB (D 1 rfl))) rfl rfl
      · exact Ob.g0 rfl rfl (fun _ _ _ D=>D 2 rfl) rfl (fun _ _ B U D hC hg=>(zJ vL ((U 13 rfl).trans f117) (B.cells 1 rfl) (j:=0) rfl (vs:=[i ((yA t h ices x most).lo),i ((yA t h ices x most).hi)]) rfl rfl)) rfl
      · exact Ob.g0 rfl rfl (fun _ _ _ D=>D 2 rfl) rfl (fun _ _ B U D hC hg=>(zJ vL ((U 11 rfl).trans f116) (B.cells 2 rfl) (j:=0) rfl (vs:=[i ((yK t h ices x).lo),i ((yK t h ices x).hi)]) rfl rfl)) rfl
      · exact Ob.g0 rfl rfl (fun _ _ _ D=>D 2 rfl) rfl (fun _ _ B U D hC hg=>(r_eqS (eq41 ((yA t h ices x most).lo) ((yA t h ices x most).hi) ((yK t h ices x).lo) ((yK t h ices x).hi)) (gdy (D 3 rfl) ⟨hC,hg⟩) (gdy (D 4 rfl) ⟨hC,hg⟩))) rfl
      · exact Ob.q rfl (fun _ _ B U D=>(zQ (v:=(.bool qq151)) (D 2 rfl) (fun eP=>(gdy (D 5 rfl) ⟨trivial,eP⟩).trans (yF eP)) (fun eP=>yE eP))) rfl rfl
      · exact Ob.q rfl (fun _ _ B U D=>(zB (D 6 rfl))) rfl rfl
      · exact Ob.gd (C:=True) (g:=qq151) rfl rfl (fun ρ' w' U D=>⟨fun _=>(D 7 rfl),fun h=>absurd trivial h⟩) (fun _ h=>⟨fun hc=>absurd hc (yQ h),fun _=>rfl⟩) fun ρ' w' B U D hC hg=>zH rfl en16 cn (c16 _) (fun u w2 k2 hu=>⟨k2,⟨fun _=>hu,fun n=>absurd ⟨hC,hg⟩ n⟩⟩)
      · exact Ob.q rfl (fun _ _ B U D=>(zQ (v:=(.bool qq152)) (D 7 rfl) (fun eP=>(gdy (D 8 rfl) ⟨trivial,eP⟩).trans (yF eP)) (fun eP=>yE eP))) rfl rfl
      · exact Ob.q rfl (fun _ _ B U D=>(zD (D 9 rfl))) rfl rfl
    intro ρ153 w154 k155 U156 D157;replace H:=H.ext k155
    have f158:ρ153 10=(.bool qq152):=D157 10 rfl
    clear U156 D157 k155
    refine Ro.nil (nT (Wp.ret (zN ?_)))
    refine zI (v:=(.bool (((decide ((uC t h ices x most)=0)) && (decide (((yA t h ices x most).lo)=((yK t h ices x).lo)) && decide (((yA t h ices x most).hi)=((yK t h ices x).hi)))) && true))) Tryz.results10 f158 ⟨H.keep,?_⟩
    have a1:=acc_ref (h:=h) (ices:=ices) (x:=x) (t:=t) (most:=most) hk (by omega)
    have a2:=acp_good (a1.trans hr) (by rcases c121 with h1 | h1;(exact absurd hr h1);omega)
    refine congrArg Value.bool ?_
    rw [a2.1,a2.2,e2];simp
  intro c72
  have c72r:=c72
  simp only [bx] at c72
  have hr:vE t h ices x≠0:=c72
  have e2:=corQ_bad (show corE t h ices x≠0 by rw [e1];exact hr)
  refine Wp.skip (nT (Wp.seq (Wp.seq ?_)))
  let qq159:Bool:=decide ((corE t h ices x)≠(vE t h ices x))
  let qq160:Bool:=!(decide (((yK t h ices x).lo)=0) && decide (((yK t h ices x).hi)=0))
  let qq161:Bool:=(qq159 || qq160)
  refine Wp.drawnS 9 [0,0,3,7,15,15,47,127,255] [is (i (corE t h ices x)),is (i (vE t h ices x)),is (.bool qq159),is (.bool qq159),gdv (True∧qq159=false) (.agg #[(i ((yK t h ices x).lo)),(i ((yK t h ices x).hi))]),gdv (True∧qq159=false) (.agg #[(i 0),(i 0)]),gdv (True∧qq159=false) (.agg #[(i 0),(i 0)]),gdv (True∧qq159=false) (.bool qq160),is (.bool qq161)] (by kernel_rfl) (by kernel_rfl) rfl (Mi (Mi (Mi (Mi (Mg (Mg (Mg (Mg (Mi Mono.nil))))))))) (fun w' k=>H.ext k) ?_ ?_
  · refine ⟨?_,?_,?_,?_,?_,?_,?_,?_,?_,trivial⟩
    · exact Ob.q rfl (fun _ _ B U D=>(zB ((U 12 rfl).trans f39))) rfl rfl
    · exact Ob.q rfl (fun _ _ B U D=>(zB (show (_:Value)=(i (vE t h ices x)) from U 16 rfl))) rfl rfl
    · exact Ob.q rfl (fun _ _ B U D=>(vW (D 0 rfl) (D 1 rfl))) rfl rfl
    · exact Ob.q rfl (fun _ _ B U D=>(zB (D 2 rfl))) rfl rfl
    · exact Ob.g0 rfl rfl (fun _ _ _ D=>D 3 rfl) rfl (fun _ _ B U D hC hg=>(zJ vL ((U 11 rfl).trans f38) (B.cells 2 rfl) (j:=0) rfl (vs:=[i ((yK t h ices x).lo),i ((yK t h ices x).hi)]) rfl rfl)) rfl
    · exact Ob.g0 rfl rfl (fun _ _ _ D=>D 3 rfl) rfl (fun _ _ B U D hC hg=>(zJ ta25 (show (_:Value)=(p b70 0) from U 17 rfl) (B.cells 0 rfl) (j:=0) rfl (vs:=[i 0,i 0]) rfl rfl)) rfl
    · exact Ob.gd (C:=True) (g:=qq159) rfl rfl (fun ρ' w' U D=>⟨fun _=>(D 3 rfl),fun h=>absurd trivial h⟩) (fun _ h=>⟨fun hc=>absurd hc (yQ h),fun _=>rfl⟩) fun ρ' w' B U D hC hg=>zH rfl en31 (ce (v:=(.agg #[(i 0),(i 0)])) (gdy (D 5 rfl) ⟨hC,hg⟩) cn) (c31 0 0 _ ) (fun u w2 k2 hu=>⟨k2,⟨fun _=>hu,fun n=>absurd ⟨hC,hg⟩ n⟩⟩)
    · exact Ob.g0 rfl rfl (fun _ _ _ D=>D 3 rfl) rfl (fun _ _ B U D hC hg=>(r_neS (eq41 ((yK t h ices x).lo) ((yK t h ices x).hi) 0 0) (gdy (D 4 rfl) ⟨hC,hg⟩) (gdy (D 6 rfl) ⟨hC,hg⟩))) rfl
    · exact Ob.q rfl (fun _ _ B U D=>(zQ (v:=(.bool qq161)) (D 3 rfl) (fun eP=>or_t eP) (fun eP=>(gdy (D 7 rfl) ⟨trivial,eP⟩).trans (or_f eP)))) rfl rfl
  intro ρ162 w163 k164 U165 D166;replace H:=H.ext k164
  have f167:=(U165 4 rfl).trans f34
  have f169:=(U165 11 rfl).trans f38
  have f170:=(U165 13 rfl).trans f40
  have f171:ρ162 14=(i (uC t h ices x most)):=U165 14 rfl
  have f172:ρ162 16=(i (vE t h ices x)):=U165 16 rfl
  have f173:ρ162 17=(p b70 0):=U165 17 rfl
  have f174:ρ162 97=(.bool qq161):=D166 8 rfl
  clear U165 D166 k164
  refine Ro.nil (nT ?_)
  refine Wp.condF (f174.trans (congrArg Value.bool (show qq161=false by show (((decide ((corE t h ices x)≠(vE t h ices x))) || (!(decide (((yK t h ices x).lo)=0) && decide (((yK t h ices x).hi)=0)))))=false;rw [e1,e2];simp))) ?_
  refine Wp.skip (nT (Wp.seq (Wp.block (Wp.seq (Wp.region ?_)))))
  refine Ro.q (v:=(i most)) rfl rfl (zB f167) rfl ?_
  refine Ro.q rfl rfl (yB rfl rfl) rfl ?_
  refine Ro.q (v:=(.bool (decide (most<0)))) rfl rfl (zD rfl) rfl ?_
  refine Ro.nil (nT ?_)
  refine Wp.cond (t:=decide (most<0)) rfl ?_ ?_
  · intro c176
    have c176r:=c176
    simp only [bx] at c176
    refine Wp.region ?_
    refine Ro.q (v:=(i 2)) rfl rfl (zD rfl) rfl ?_
    refine Ro.nil (nB (nT (Wp.seq (Wp.seq (Wp.region ?_)))))
    refine Ro.q (v:=(i 2)) rfl rfl (zB rfl) rfl ?_
    refine Ro.q (v:=(.bool true)) rfl rfl (Runs.to (vW rfl rfl) (by rfl)) rfl ?_
    refine Ro.nil (nT ?_)
    refine Wp.condT rfl ?_
    refine Wp.seq ?_
    let qq177:Bool:=decide ((uC t h ices x most)=2)
    let qq178:Bool:=(decide (((yA t h ices x most).lo)=0) && decide (((yA t h ices x most).hi)=0))
    let qq179:Bool:=(qq177 && qq178)
    let qq180:Bool:=(qq179 && true)
    refine Wp.factsS 12 [is (i (uC t h ices x most)),is (i 2),is (.bool qq177),is (.bool qq177),gdv (True∧qq177=true) (.agg #[(i ((yA t h ices x most).lo)),(i ((yA t h ices x most).hi))]),gdv (True∧qq177=true) (.agg #[(i 0),(i 0)]),gdv (True∧qq177=true) (.bool qq178),is (.bool qq179),is (.bool qq179),gdv (True∧qq179=true) (.bool true),is (.bool qq180),is (.bool qq180)] (by kernel_rfl) (Mi (Mi (Mi (Mi (Mg (Mg (Mg (Mi (Mi (Mg (Mi (Mi Mono.nil)))))))))))) (fun w' k=>H.ext k) ?_ ?_
    · refine ⟨?_,?_,?_,?_,?_,?_,?_,?_,?_,?_,?_,?_,trivial⟩
      · exact Ob.q rfl (fun _ _ B U D=>(zB ((U 14 rfl).trans f171))) rfl rfl
      · exact Ob.q rfl (fun _ _ B U D=>(zB (show (_:Value)=(i 2) from U 16 rfl))) rfl rfl
      · exact Ob.q rfl (fun _ _ B U D=>(vR (D 0 rfl) (D 1 rfl))) rfl rfl
      · exact Ob.q rfl (fun _ _ B U D=>(zB (D 2 rfl))) rfl rfl
      · exact Ob.g0 rfl rfl (fun _ _ _ D=>D 3 rfl) rfl (fun _ _ B U D hC hg=>(zJ vL ((U 13 rfl).trans f170) (B.cells 1 rfl) (j:=0) rfl (vs:=[i ((yA t h ices x most).lo),i ((yA t h ices x most).hi)]) rfl rfl)) rfl
      · exact Ob.g0 rfl rfl (fun _ _ _ D=>D 3 rfl) rfl (fun _ _ B U D hC hg=>(zP (v:=(.agg #[(i 0),(i 0)])) pn (fun w=>by kernel_rfl))) rfl
      · exact Ob.g0 rfl rfl (fun _ _ _ D=>D 3 rfl) rfl (fun _ _ B U D hC hg=>(r_eqS (eq41 ((yA t h ices x most).lo) ((yA t h ices x most).hi) 0 0) (gdy (D 4 rfl) ⟨hC,hg⟩) (gdy (D 5 rfl) ⟨hC,hg⟩))) rfl
      · exact Ob.q rfl (fun _ _ B U D=>(zQ (v:=(.bool qq179)) (D 3 rfl) (fun eP=>(gdy (D 6 rfl) ⟨trivial,eP⟩).trans (yF eP)) (fun eP=>yE eP))) rfl rfl
      · exact Ob.q rfl (fun _ _ B U D=>(zB (D 7 rfl))) rfl rfl
      · exact Ob.gd (C:=True) (g:=qq179) rfl rfl (fun ρ' w' U D=>⟨fun _=>(D 8 rfl),fun h=>absurd trivial h⟩) (fun _ h=>⟨fun hc=>absurd hc (yQ h),fun _=>rfl⟩) fun ρ' w' B U D hC hg=>zH rfl en16 cn (c16 _) (fun u w2 k2 hu=>⟨k2,⟨fun _=>hu,fun n=>absurd ⟨hC,hg⟩ n⟩⟩)
      · exact Ob.q rfl (fun _ _ B U D=>(zQ (v:=(.bool qq180)) (D 8 rfl) (fun eP=>(gdy (D 9 rfl) ⟨trivial,eP⟩).trans (yF eP)) (fun eP=>yE eP))) rfl rfl
      · exact Ob.q rfl (fun _ _ B U D=>(zD (D 10 rfl))) rfl rfl
    intro ρ181 w182 k183 U184 D185;replace H:=H.ext k183
    have f189:ρ181 10=(.bool qq180):=D185 11 rfl
    clear U184 D185 k183
    refine Ro.nil (nT (Wp.ret (rT (zN ?_))))
    refine zI (v:=(.bool (((decide ((uC t h ices x most)=2)) && (decide (((yA t h ices x most).lo)=0) && decide (((yA t h ices x most).hi)=0))) && true))) Tryz.results10 f189 ⟨H.keep,?_⟩
    have a1:=acc_neg hk c176
    have a2:=acp_bad (most:=most) (by rw [a1];decide)
    refine congrArg Value.bool ?_
    rw [a2.1,a2.2,a1];simp
  intro c176
  have c176r:=c176
  simp only [bx] at c176
  refine Wp.seq ?_
  let qq190:Bool:=decide ((vE t h ices x)=0)
  let qq191:Bool:=(qq190 && (decide (most<0)))
  refine Wp.factsS 12 [is (i (vE t h ices x)),is (.bool qq190),is (.bool qq190),gdv (True∧qq190=true) (p b70 1),gdv (True∧qq190=true) (i 0),gdv (True∧qq190=true) (p b70 0),gdv (True∧qq190=true) (i 0),gdv (True∧qq190=true) (i 0),gdv (True∧qq190=true) (i most),gdv (True∧qq190=true) (.bool (decide (most<0))),is (.bool qq191),is (.bool qq191)] (by kernel_rfl) (Mi (Mi (Mi (Mg (Mg (Mg (Mg (Mg (Mg (Mg (Mi (Mi Mono.nil)))))))))))) (fun w' k=>H.ext k) ?_ ?_
  · refine ⟨?_,?_,?_,?_,?_,?_,?_,?_,?_,?_,?_,?_,trivial⟩
    · exact Ob.q rfl (fun _ _ B U D=>(zB ((U 16 rfl).trans f172))) rfl rfl
    · exact Ob.q rfl (fun _ _ B U D=>(vR (D 0 rfl) rfl)) rfl rfl
    · exact Ob.q rfl (fun _ _ B U D=>(zB (D 1 rfl))) rfl rfl
    · exact Ob.g0 rfl rfl (fun _ _ _ D=>D 2 rfl) rfl (fun _ _ B U D hC hg=>(zA uB ((U 17 rfl).trans f173) rfl)) rfl
    · exact Ob.g0 rfl rfl (fun _ _ _ D=>D 2 rfl) rfl (fun _ _ B U D hC hg=>(zE zM (gdy (D 3 rfl) ⟨hC,hg⟩) (B.cells 0 rfl) (j:=1) rfl rfl)) rfl
    · exact Ob.g0 rfl rfl (fun _ _ _ D=>D 2 rfl) rfl (fun _ _ B U D hC hg=>(zA uI ((U 17 rfl).trans f173) rfl)) rfl
    · exact Ob.g0 rfl rfl (fun _ _ _ D=>D 2 rfl) rfl (fun _ _ B U D hC hg=>(zE zM (gdy (D 5 rfl) ⟨hC,hg⟩) (B.cells 0 rfl) (j:=0) rfl rfl)) rfl
    · exact Ob.g0 rfl rfl (fun _ _ _ D=>D 2 rfl) rfl (fun _ _ B U D hC hg=>(Runs.to (yT (gdy (D 4 rfl) ⟨hC,hg⟩) (gdy (D 6 rfl) ⟨hC,hg⟩) (by constructor <;>omega)) (by rfl))) rfl
    · exact Ob.g0 rfl rfl (fun _ _ _ D=>D 2 rfl) rfl (fun _ _ B U D hC hg=>(zB ((U 4 rfl).trans f167))) rfl
    · exact Ob.g0 rfl rfl (fun _ _ _ D=>D 2 rfl) rfl (fun _ _ B U D hC hg=>(r_gtr (gdy (D 7 rfl) ⟨hC,hg⟩) (gdy (D 8 rfl) ⟨hC,hg⟩))) rfl
    · exact Ob.q rfl (fun _ _ B U D=>(zQ (v:=(.bool qq191)) (D 2 rfl) (fun eP=>(gdy (D 9 rfl) ⟨trivial,eP⟩).trans (yF eP)) (fun eP=>yE eP))) rfl rfl
    · exact Ob.q rfl (fun _ _ B U D=>(zD (D 10 rfl))) rfl rfl
  intro ρ192 w193 k194 U195 D196;replace H:=H.ext k194
  have f198:=(U195 11 rfl).trans f169
  have f199:=(U195 13 rfl).trans f170
  have f200:=(U195 14 rfl).trans f171
  have f201:=(U195 16 rfl).trans f172
  have f202:ρ192 101=(.bool qq191):=D196 11 rfl
  clear U195 D196 k194
  refine Ro.nil (nT ?_)
  refine Wp.cond (t:=qq191) f202 ?_ ?_
  · intro c203
    have c203r:(((decide ((vE t h ices x)=0)) && (decide (most<0))))=true:=c203
    replace c203:=c203r
    simp only [bx] at c203
    refine Wp.region ?_
    refine Ro.q (v:=(i 10)) rfl rfl (zD rfl) rfl ?_
    refine Ro.nil (nB (nT (Wp.seq (Wp.seq (Wp.region ?_)))))
    refine Ro.q (v:=(i 10)) rfl rfl (zB rfl) rfl ?_
    refine Ro.q (v:=(.bool true)) rfl rfl (Runs.to (vW rfl rfl) (by rfl)) rfl ?_
    refine Ro.nil (nT ?_)
    refine Wp.condT rfl ?_
    refine Wp.seq ?_
    let qq204:Bool:=decide ((uC t h ices x most)=10)
    let qq205:Bool:=(decide (((yA t h ices x most).lo)=0) && decide (((yA t h ices x most).hi)=0))
    let qq206:Bool:=(qq204 && qq205)
    let qq207:Bool:=(qq206 && true)
    refine Wp.factsS 12 [is (i (uC t h ices x most)),is (i 10),is (.bool qq204),is (.bool qq204),gdv (True∧qq204=true) (.agg #[(i ((yA t h ices x most).lo)),(i ((yA t h ices x most).hi))]),gdv (True∧qq204=true) (.agg #[(i 0),(i 0)]),gdv (True∧qq204=true) (.bool qq205),is (.bool qq206),is (.bool qq206),gdv (True∧qq206=true) (.bool true),is (.bool qq207),is (.bool qq207)] (by kernel_rfl) (Mi (Mi (Mi (Mi (Mg (Mg (Mg (Mi (Mi (Mg (Mi (Mi Mono.nil)))))))))))) (fun w' k=>H.ext k) ?_ ?_
    · refine ⟨?_,?_,?_,?_,?_,?_,?_,?_,?_,?_,?_,?_,trivial⟩
      · exact Ob.q rfl (fun _ _ B U D=>(zB ((U 14 rfl).trans f200))) rfl rfl
      · exact Ob.q rfl (fun _ _ B U D=>(zB (show (_:Value)=(i 10) from U 16 rfl))) rfl rfl
      · exact Ob.q rfl (fun _ _ B U D=>(vR (D 0 rfl) (D 1 rfl))) rfl rfl
      · exact Ob.q rfl (fun _ _ B U D=>(zB (D 2 rfl))) rfl rfl
      · exact Ob.g0 rfl rfl (fun _ _ _ D=>D 3 rfl) rfl (fun _ _ B U D hC hg=>(zJ vL ((U 13 rfl).trans f199) (B.cells 1 rfl) (j:=0) rfl (vs:=[i ((yA t h ices x most).lo),i ((yA t h ices x most).hi)]) rfl rfl)) rfl
      · exact Ob.g0 rfl rfl (fun _ _ _ D=>D 3 rfl) rfl (fun _ _ B U D hC hg=>(zP (v:=(.agg #[(i 0),(i 0)])) pn (fun w=>by kernel_rfl))) rfl
      · exact Ob.g0 rfl rfl (fun _ _ _ D=>D 3 rfl) rfl (fun _ _ B U D hC hg=>(r_eqS (eq41 ((yA t h ices x most).lo) ((yA t h ices x most).hi) 0 0) (gdy (D 4 rfl) ⟨hC,hg⟩) (gdy (D 5 rfl) ⟨hC,hg⟩))) rfl
      · exact Ob.q rfl (fun _ _ B U D=>(zQ (v:=(.bool qq206)) (D 3 rfl) (fun eP=>(gdy (D 6 rfl) ⟨trivial,eP⟩).trans (yF eP)) (fun eP=>yE eP))) rfl rfl
      · exact Ob.q rfl (fun _ _ B U D=>(zB (D 7 rfl))) rfl rfl
      · exact Ob.gd (C:=True) (g:=qq206) rfl rfl (fun ρ' w' U D=>⟨fun _=>(D 8 rfl),fun h=>absurd trivial h⟩) (fun _ h=>⟨fun hc=>absurd hc (yQ h),fun _=>rfl⟩) fun ρ' w' B U D hC hg=>zH rfl en16 cn (c16 _) (fun u w2 k2 hu=>⟨k2,⟨fun _=>hu,fun n=>absurd ⟨hC,hg⟩ n⟩⟩)
      · exact Ob.q rfl (fun _ _ B U D=>(zQ (v:=(.bool qq207)) (D 8 rfl) (fun eP=>(gdy (D 9 rfl) ⟨trivial,eP⟩).trans (yF eP)) (fun eP=>yE eP))) rfl rfl
      · exact Ob.q rfl (fun _ _ B U D=>(zD (D 10 rfl))) rfl rfl
    intro ρ208 w209 k210 U211 D212;replace H:=H.ext k210
    have f216:ρ208 10=(.bool qq207):=D212 11 rfl
    clear U211 D212 k210
    refine Ro.nil (nT (Wp.ret (rT (zN ?_))))
    refine zI (v:=(.bool (((decide ((uC t h ices x most)=10)) && (decide (((yA t h ices x most).lo)=0) && decide (((yA t h ices x most).hi)=0))) && true))) Tryz.results10 f216 ⟨H.keep,?_⟩
    have a1:=acc_ref (h:=h) (ices:=ices) (x:=x) (t:=t) (most:=most) hk (by omega)
    exact absurd c203.1 hr
  intro c203
  have c203r:(((decide ((vE t h ices x)=0)) && (decide (most<0))))=false:=c203
  replace c203:=c203r
  simp only [bx] at c203
  refine Wp.skip (nB (nT (Wp.seq (Wp.seq (Wp.region ?_)))))
  refine Ro.q (v:=(i (vE t h ices x))) rfl rfl (zB f201) rfl ?_
  refine Ro.q rfl rfl (vW rfl rfl) rfl ?_
  refine Ro.nil (nT ?_)
  refine Wp.cond (t:=decide ((vE t h ices x)≠0)) rfl ?_ ?_
  · intro c217
    have c217r:=c217
    simp only [bx] at c217
    refine Wp.seq ?_
    let qq218:Bool:=decide ((uC t h ices x most)=(vE t h ices x))
    let qq219:Bool:=(decide (((yA t h ices x most).lo)=0) && decide (((yA t h ices x most).hi)=0))
    let qq220:Bool:=(qq218 && qq219)
    let qq221:Bool:=(qq220 && true)
    refine Wp.factsS 12 [is (i (uC t h ices x most)),is (i (vE t h ices x)),is (.bool qq218),is (.bool qq218),gdv (True∧qq218=true) (.agg #[(i ((yA t h ices x most).lo)),(i ((yA t h ices x most).hi))]),gdv (True∧qq218=true) (.agg #[(i 0),(i 0)]),gdv (True∧qq218=true) (.bool qq219),is (.bool qq220),is (.bool qq220),gdv (True∧qq220=true) (.bool true),is (.bool qq221),is (.bool qq221)] (by kernel_rfl) (Mi (Mi (Mi (Mi (Mg (Mg (Mg (Mi (Mi (Mg (Mi (Mi Mono.nil)))))))))))) (fun w' k=>H.ext k) ?_ ?_
    · refine ⟨?_,?_,?_,?_,?_,?_,?_,?_,?_,?_,?_,?_,trivial⟩
      · exact Ob.q rfl (fun _ _ B U D=>(zB ((U 14 rfl).trans f200))) rfl rfl
      · exact Ob.q rfl (fun _ _ B U D=>(zB ((U 16 rfl).trans f201))) rfl rfl
      · exact Ob.q rfl (fun _ _ B U D=>(vR (D 0 rfl) (D 1 rfl))) rfl rfl
      · exact Ob.q rfl (fun _ _ B U D=>(zB (D 2 rfl))) rfl rfl
      · exact Ob.g0 rfl rfl (fun _ _ _ D=>D 3 rfl) rfl (fun _ _ B U D hC hg=>(zJ vL ((U 13 rfl).trans f199) (B.cells 1 rfl) (j:=0) rfl (vs:=[i ((yA t h ices x most).lo),i ((yA t h ices x most).hi)]) rfl rfl)) rfl
      · exact Ob.g0 rfl rfl (fun _ _ _ D=>D 3 rfl) rfl (fun _ _ B U D hC hg=>(zP (v:=(.agg #[(i 0),(i 0)])) pn (fun w=>by kernel_rfl))) rfl
      · exact Ob.g0 rfl rfl (fun _ _ _ D=>D 3 rfl) rfl (fun _ _ B U D hC hg=>(r_eqS (eq41 ((yA t h ices x most).lo) ((yA t h ices x most).hi) 0 0) (gdy (D 4 rfl) ⟨hC,hg⟩) (gdy (D 5 rfl) ⟨hC,hg⟩))) rfl
      · exact Ob.q rfl (fun _ _ B U D=>(zQ (v:=(.bool qq220)) (D 3 rfl) (fun eP=>(gdy (D 6 rfl) ⟨trivial,eP⟩).trans (yF eP)) (fun eP=>yE eP))) rfl rfl
      · exact Ob.q rfl (fun _ _ B U D=>(zB (D 7 rfl))) rfl rfl
      · exact Ob.gd (C:=True) (g:=qq220) rfl rfl (fun ρ' w' U D=>⟨fun _=>(D 8 rfl),fun h=>absurd trivial h⟩) (fun _ h=>⟨fun hc=>absurd hc (yQ h),fun _=>rfl⟩) fun ρ' w' B U D hC hg=>zH rfl en16 cn (c16 _) (fun u w2 k2 hu=>⟨k2,⟨fun _=>hu,fun n=>absurd ⟨hC,hg⟩ n⟩⟩)
      · exact Ob.q rfl (fun _ _ B U D=>(zQ (v:=(.bool qq221)) (D 8 rfl) (fun eP=>(gdy (D 9 rfl) ⟨trivial,eP⟩).trans (yF eP)) (fun eP=>yE eP))) rfl rfl
      · exact Ob.q rfl (fun _ _ B U D=>(zD (D 10 rfl))) rfl rfl
    intro ρ222 w223 k224 U225 D226;replace H:=H.ext k224
    have f230:ρ222 10=(.bool qq221):=D226 11 rfl
    clear U225 D226 k224
    refine Ro.nil (nT (Wp.ret (rT (zN ?_))))
    refine zI (v:=(.bool (((decide ((uC t h ices x most)=(vE t h ices x))) && (decide (((yA t h ices x most).lo)=0) && decide (((yA t h ices x most).hi)=0))) && true))) Tryz.results10 f230 ⟨H.keep,?_⟩
    have a1:=acc_ref (h:=h) (ices:=ices) (x:=x) (t:=t) (most:=most) hk (by omega)
    have a2:=acp_bad (most:=most) (by rw [a1];exact hr)
    refine congrArg Value.bool ?_
    rw [a2.1,a2.2,a1];simp
  intro c217
  have c217r:=c217
  simp only [bx] at c217
  refine Wp.skip (nT (Wp.seq ?_))
  let qq231:Bool:=decide ((uC t h ices x most)=0)
  let qq232:Bool:=(decide (((yA t h ices x most).lo)=((yK t h ices x).lo)) && decide (((yA t h ices x most).hi)=((yK t h ices x).hi)))
  let qq233:Bool:=(qq231 && qq232)
  let qq234:Bool:=(qq233 && true)
  refine Wp.factsS 11 [is (i (uC t h ices x most)),is (.bool qq231),is (.bool qq231),gdv (True∧qq231=true) (.agg #[(i ((yA t h ices x most).lo)),(i ((yA t h ices x most).hi))]),gdv (True∧qq231=true) (.agg #[(i ((yK t h ices x).lo)),(i ((yK t h ices x).hi))]),gdv (True∧qq231=true) (.bool qq232),is (.bool qq233),is (.bool qq233),gdv (True∧qq233=true) (.bool true),is (.bool qq234),is (.bool qq234)] (by kernel_rfl) (Mi (Mi (Mi (Mg (Mg (Mg (Mi (Mi (Mg (Mi (Mi Mono.nil))))))))))) (fun w' k=>H.ext k) ?_ ?_
  · refine ⟨?_,?_,?_,?_,?_,?_,?_,?_,?_,?_,?_,trivial⟩
    · exact Ob.q rfl (fun _ _ B U D=>(zB ((U 14 rfl).trans f200))) rfl rfl
    · exact Ob.q rfl (fun _ _ B U D=>(vR (D 0 rfl) rfl)) rfl rfl
    · exact Ob.q rfl (fun _ _ B U D=>(zB (D 1 rfl))) rfl rfl
    · exact Ob.g0 rfl rfl (fun _ _ _ D=>D 2 rfl) rfl (fun _ _ B U D hC hg=>(zJ vL ((U 13 rfl).trans f199) (B.cells 1 rfl) (j:=0) rfl (vs:=[i ((yA t h ices x most).lo),i ((yA t h ices x most).hi)]) rfl rfl)) rfl
    · exact Ob.g0 rfl rfl (fun _ _ _ D=>D 2 rfl) rfl (fun _ _ B U D hC hg=>(zJ vL ((U 11 rfl).trans f198) (B.cells 2 rfl) (j:=0) rfl (vs:=[i ((yK t h ices x).lo),i ((yK t h ices x).hi)]) rfl rfl)) rfl
    · exact Ob.g0 rfl rfl (fun _ _ _ D=>D 2 rfl) rfl (fun _ _ B U D hC hg=>(r_eqS (eq41 ((yA t h ices x most).lo) ((yA t h ices x most).hi) ((yK t h ices x).lo) ((yK t h ices x).hi)) (gdy (D 3 rfl) ⟨hC,hg⟩) (gdy (D 4 rfl) ⟨hC,hg⟩))) rfl
    · exact Ob.q rfl (fun _ _ B U D=>(zQ (v:=(.bool qq233)) (D 2 rfl) (fun eP=>(gdy (D 5 rfl) ⟨trivial,eP⟩).trans (yF eP)) (fun eP=>yE eP))) rfl rfl
    · exact Ob.q rfl (fun _ _ B U D=>(zB (D 6 rfl))) rfl rfl
    · exact Ob.gd (C:=True) (g:=qq233) rfl rfl (fun ρ' w' U D=>⟨fun _=>(D 7 rfl),fun h=>absurd trivial h⟩) (fun _ h=>⟨fun hc=>absurd hc (yQ h),fun _=>rfl⟩) fun ρ' w' B U D hC hg=>zH rfl en16 cn (c16 _) (fun u w2 k2 hu=>⟨k2,⟨fun _=>hu,fun n=>absurd ⟨hC,hg⟩ n⟩⟩)
    · exact Ob.q rfl (fun _ _ B U D=>(zQ (v:=(.bool qq234)) (D 7 rfl) (fun eP=>(gdy (D 8 rfl) ⟨trivial,eP⟩).trans (yF eP)) (fun eP=>yE eP))) rfl rfl
    · exact Ob.q rfl (fun _ _ B U D=>(zD (D 9 rfl))) rfl rfl
  intro ρ235 w236 k237 U238 D239;replace H:=H.ext k237
  have f240:ρ235 10=(.bool qq234):=D239 10 rfl
  clear U238 D239 k237
  refine Ro.nil (nT (Wp.ret (zN ?_)))
  refine zI (v:=(.bool (((decide ((uC t h ices x most)=0)) && (decide (((yA t h ices x most).lo)=((yK t h ices x).lo)) && decide (((yA t h ices x most).hi)=((yK t h ices x).hi)))) && true))) Tryz.results10 f240 ⟨H.keep,?_⟩
  have a1:=acc_ref (h:=h) (ices:=ices) (x:=x) (t:=t) (most:=most) hk (by omega)
  exact absurd (by omega) hr
end Go.Proofs.YthfnjppieihcfaaGreat
