/- Part of the proof: what the last text of this claim imports. -/
import Derived.Test.YthfnjppieihcfaaGreatW10
set_option linter.unusedSimpArgs false
set_option linter.unusedVariables false
set_option maxRecDepth 100000
namespace Go.Proofs.YthfnjppieihcfaaGreat
open Go.RowKit Go.Proofs Go.Mw
theorem en107:Go.Proofs.Enters Tryz.prog 107:=Go.Proofs.enters_of Tryz.func107 (by kernel_rfl) rfl
theorem en58:Go.Proofs.Enters Tryz.prog 58:=Go.Proofs.enters_of Tryz.func58 (by kernel_rfl) rfl
theorem en59:Go.Proofs.Enters Tryz.prog 59:=Go.Proofs.enters_of Tryz.func59 (by kernel_rfl) rfl
theorem en60:Go.Proofs.Enters Tryz.prog 60:=Go.Proofs.enters_of Tryz.func60 (by kernel_rfl) rfl
theorem en80:Go.Proofs.Enters Tryz.prog 80:=Go.Proofs.enters_of Tryz.func80 (by kernel_rfl) rfl
theorem en81:Go.Proofs.Enters Tryz.prog 81:=Go.Proofs.enters_of Tryz.func81 (by kernel_rfl) rfl
theorem en91:Go.Proofs.Enters Tryz.prog 91:=Go.Proofs.enters_of Tryz.func91 (by kernel_rfl) rfl
theorem fo116_0:FO Tryz.prog 116 0 0:=fun _ _ _=>by kernel_rfl
theorem fo116_2:FO Tryz.prog 116 2 13:=fun _ _ _=>by kernel_rfl
theorem fo116_3:FO Tryz.prog 116 3 14:=fun _ _ _=>by kernel_rfl
theorem fo52_7:FO Tryz.prog 52 7 9:=fun _ _ _=>by kernel_rfl
open Men
theorem c107 {t:Tb} {ab ad ah ai:Option Addr} {h:List Rg} {ices:List Ice} {cab cad cah cai:Nat} {az:Option Addr} {caz:Nat} {day:Int} (w:World) (hab:Sl w 3 (t.bs.map yH) ab) (had:Sl w 2 (t.dl.map zZ) ad) (hah:Sl w 2 (h.map rgV) ah) (hai:Sl w 3 (ices.map iceV) ai) (haz:Sl w 2 ((zl t.glass h ices).map rgV) az) (hic : ∀ i∈ices,0≤i.day∧i.day≤100) (hil:ices.length≤4611686018427387904) (hdy:0≤day∧day≤100):Rv Tryz.prog 107 [(.agg (zX t h ices ab cab ad cad ah cah ai cai az caz).toArray),(i day)] w (.bool (staleB t.term ices day)):=by
  refine Ret.body (N:=32) Tryz.func107 rfl Tryz.ntmps107 rfl ?_
  have H:=S.start Nm w
  refine Wp.seq (Wp.region ?_)
  refine Ro.d rfl rfl rfl (H.box (l:=(zX t h ices ab cab ad cad ah cah ai cai az caz)) rfl (v:=(.agg (zX t h ices ab cab ad cad ah cah ai cai az caz).toArray)) rfl rfl ?_)
  intro b1 w2 Hn;replace H:=Hn;clear Hn
  refine Ro.q (v:=(.bool false)) rfl rfl (zD rfl) rfl ?_
  refine Ro.nil (nT (Wp.seq (Wp.region ?_)))
  refine Ro.q (v:=(i 0)) rfl rfl (zD rfl) rfl ?_
  refine Ro.nil (nT (Wp.seq (Wp.seq (Wp.region ?_))))
  refine Ro.q (v:=(p b1 13)) rfl rfl (zA fo116_2 rfl rfl) rfl ?_
  refine Ro.q rfl rfl (zE t1_49 rfl (H.cells 0 rfl) (j:=13) rfl rfl) rfl ?_
  refine Ro.q rfl rfl (yG Tryz.underlying49 rfl (v:=ices.length) rfl) rfl ?_
  refine Ro.q (v:=(i 0)) rfl rfl (zB rfl) rfl ?_
  refine Ro.nil (nT (Wp.block ?_))
  refine Wp.loop (fun kM ds ρ w'=>∃ n:Int,∃ m:Int,ds=[]∧(0≤n∧n≤ices.length)∧kM=((ices.length:Int)-n).toNat∧ρ 1=(i day)∧ρ 2=(p b1 0)∧ρ 4=(.bool false)∧ρ 9=(.slice ai ices.length cai)∧ρ 10=(i ((ices.length:Nat):Int))∧ρ 11=(i n)∧ρ 5=(i m)∧S Nm w [(b1,.cells (zX t h ices ab cab ad cad ah cah ai cai az caz).toArray 116 (0,0))] w'∧(m=lastOf (ices.take n.toNat) day)) (((ices.length:Int)-0).toNat) ⟨0,0,rfl,(by omega),rfl,rfl,rfl,rfl,rfl,rfl,rfl,rfl,H,rfl⟩ ?_
  clear H
  intro kρ10 dsρ10 ρ10 w11
  rintro ⟨n,m,rfl,hb13,hk12,f3,f4,f5,f6,f7,f8,f9,H,hi14⟩
  refine Wp.seq (Wp.region ?_)
  refine Ro.q rfl rfl (yB f8 f7) rfl ?_
  refine Ro.nil (nT (Wp.seq ?_))
  refine Wp.cond (t:=decide (n<((ices.length:Nat):Int))) rfl ?_ ?_
  · intro c15
    have c15r:=c15
    simp only [bx] at c15
    obtain ⟨e,he⟩:=vQ ices n (by omega) (by omega)
    refine Wp.skip (nT (Wp.seq (Wp.block (Wp.seq (Wp.region ?_)))))
    refine Ro.q rfl rfl (zY ts49 (hai.ext H.keep) f6 (by simp) f8 (by omega) (zW he)) rfl ?_
    refine Ro.q rfl rfl (zJ ta103 rfl ((hai.ext H.keep).cells (zW he)) (j:=0) rfl (vs:=[i e.day,i e.zero,i e.err]) rfl rfl) rfl ?_
    refine Ro.d rfl rfl rfl (H.new (l:=[i 0,i 0,i 0]) rfl zv103 rfl ?_)
    intro b16 w17 Hn;replace H:=Hn;clear Hn
    refine Ro.d0 rfl rfl rfl (H.store (j:=0) (off:=0) (k:=3) rfl sz103 rfl (v:=(.agg #[(i e.day),(i e.zero),(i e.err)])) rfl rfl rfl rfl rfl (by simp [Value.oneCell']) (cs':=[i e.day,i e.zero,i e.err]) rfl ?_)
    intro w18 Hn;replace H:=Hn;clear Hn
    refine Ro.nil (nT (Wp.seq (Wp.region ?_)))
    refine Ro.q (v:=(p b16 0)) rfl rfl (zA fo103_0 rfl rfl) rfl ?_
    refine Ro.q rfl rfl (zE zM rfl (H.cells 0 rfl) (j:=0) rfl rfl) rfl ?_
    refine Ro.q (v:=(i day)) rfl rfl (zB f3) rfl ?_
    refine Ro.q rfl rfl (vD rfl rfl) rfl ?_
    refine Ro.nil (nT ?_)
    refine Wp.cond (t:=decide (e.day≤day)) rfl ?_ ?_
    · intro c19
      have c19r:=c19
      simp only [bx] at c19
      refine Wp.region ?_
      refine Ro.q (v:=(i m)) rfl rfl (zB f9) rfl ?_
      refine Ro.q (v:=(p b16 0)) rfl rfl (zA fo103_0 rfl rfl) rfl ?_
      refine Ro.q rfl rfl (zE zM rfl (H.cells 0 rfl) (j:=0) rfl rfl) rfl ?_
      refine Ro.d rfl rfl rfl (H.row (e:=3) (cs:=[i m,i e.day]) rfl (pe (v:=(i m)) rfl (pe (v:=(i e.day)) rfl pn)) (fun w=>by kernel_rfl) ?_)
      intro b20 w21 Hn;replace H:=Hn;clear Hn
      refine Ro.d rfl rfl rfl (zH rfl en71 (ce (v:=(.slice (some ⟨b20,0,none⟩) 2 2)) rfl cn) (c71 (some ⟨b20,0,none⟩) ([m,e.day]) 2 _ ((Sl.of (b:=b20) (k:=1) (xs:=[m,e.day].map yD) (by simp [yD]) (show Cells _ b20 0 _ from H.cells 0 rfl))) (by simp)) ?_)
      intro u w22 k23 hu;subst hu;replace H:=H.ext k23
      clear k23
      refine Ro.q (v:=(i (vB ([m,e.day])))) rfl rfl (zD rfl) rfl ?_
      refine Ro.nil (nB (nT (Wp.region ?_)))
      refine Ro.q rfl rfl (zU f8 rfl (by constructor <;>omega)) rfl ?_
      refine Ro.q (v:=(i (n+1))) rfl rfl (zB rfl) rfl ?_
      refine Ro.nil (nT ?_)
      exact ⟨((ices.length:Int)-(n+1)).toNat,by omega,(n+1),(vB [m,e.day]),rfl,(by omega),rfl,f3,f4,f5,f6,f7,rfl,rfl,(H.drop 2),(last_yes (by omega) he hi14 c19)⟩
    intro c19
    have c19r:=c19
    simp only [bx] at c19
    refine Wp.skip (nB (nT (Wp.region ?_)))
    refine Ro.q rfl rfl (zU f8 rfl (by constructor <;>omega)) rfl ?_
    refine Ro.q (v:=(i (n+1))) rfl rfl (zB rfl) rfl ?_
    refine Ro.nil (nT ?_)
    exact ⟨((ices.length:Int)-(n+1)).toNat,by omega,(n+1),m,rfl,(by omega),rfl,f3,f4,f5,f6,f7,rfl,f9,(H.drop 1),(last_no (by omega) he hi14 c19)⟩
  intro c15
  have c15r:=c15
  simp only [bx] at c15
  refine Wp.exit (xT (xT (xB (nT (Wp.seq (Wp.region ?_))))))
  refine Ro.q (v:=(i day)) rfl rfl (zB f3) rfl ?_
  refine Ro.q (v:=(i m)) rfl rfl (zB f9) rfl ?_
  refine Ro.q rfl rfl (yT rfl rfl (by have:=last_in hic day n.toNat;rw [← hi14] at this;constructor <;>omega)) rfl ?_
  refine Ro.q (v:=(p b1 0)) rfl rfl (zA fo116_0 f4 rfl) rfl ?_
  refine Ro.q (v:=(p b1 11)) rfl rfl (zA fo45_4 rfl rfl) rfl ?_
  refine Ro.q rfl rfl (zE zM rfl (H.cells 0 rfl) (j:=11) rfl rfl) rfl ?_
  refine Ro.q rfl rfl (r_gtr rfl rfl) rfl ?_
  refine Ro.q (v:=(.bool (decide (t.term<(day-m))))) rfl rfl (zD rfl) rfl ?_
  refine Ro.nil (nT (Wp.ret (zN ?_)))
  refine zI (v:=(.bool (decide (t.term<(day-m))))) Tryz.results107 rfl ⟨H.keep,?_⟩
  have e:=last_end (by omega) hi14
  rw [e];rfl
theorem c81 {t:Tb} {ab ad ah ai:Option Addr} {h:List Rg} {ices:List Ice} {cab cad cah cai:Nat} {az:Option Addr} {caz:Nat} {x:Rdg} (w:World) (hab:Sl w 3 (t.bs.map yH) ab) (had:Sl w 2 (t.dl.map zZ) ad) (hah:Sl w 2 (h.map rgV) ah) (hai:Sl w 3 (ices.map iceV) ai) (haz:Sl w 2 ((zl t.glass h ices).map rgV) az) (hh0:0<h.length) (hic : ∀ i∈ices,0≤i.day∧i.day≤100) (hil:ices.length≤4611686018427387904) (hdy:0≤x.day∧x.day≤100):Rv Tryz.prog 81 [(.agg (zX t h ices ab cab ad cad ah cah ai cai az caz).toArray),(.agg (rdC x).toArray)] w (i (vE t h ices x)):=by
  refine Ret.body (N:=18) Tryz.func81 rfl Tryz.ntmps81 rfl ?_
  have H:=S.start Nm w
  refine Wp.seq (Wp.region ?_)
  refine Ro.d rfl rfl rfl (H.box (l:=(zX t h ices ab cab ad cad ah cah ai cai az caz)) rfl (v:=(.agg (zX t h ices ab cab ad cad ah cah ai cai az caz).toArray)) rfl rfl ?_)
  intro b1 w2 Hn;replace H:=Hn;clear Hn
  refine Ro.d rfl rfl rfl (H.box (l:=(rdC x)) rfl (v:=(.agg (rdC x).toArray)) rfl rfl ?_)
  intro b3 w4 Hn;replace H:=Hn;clear Hn
  refine Ro.q (v:=(i 0)) rfl rfl (zD rfl) rfl ?_
  refine Ro.nil (nT (Wp.seq (Wp.block (Wp.seq (Wp.region ?_)))))
  refine Ro.q (v:=(p b3 9)) rfl rfl (zA fo52_7 rfl rfl) rfl ?_
  refine Ro.q rfl rfl (zE t1_4 rfl (H.cells 0 rfl) (j:=9) rfl rfl) rfl ?_
  refine Ro.q (v:=(.bool x.broken)) rfl rfl (zD rfl) rfl ?_
  refine Ro.nil (nT ?_)
  refine Wp.cond (t:=x.broken) rfl ?_ ?_
  · intro c5
    have c5r:=c5
    refine Wp.seq (Wp.region ?_)
    refine Ro.q (v:=(i 8)) rfl rfl (zD rfl) rfl ?_
    refine Ro.nil (nT (Wp.ret (rB (rT (zN ?_)))))
    refine zI (v:=(i 8)) Tryz.results81 rfl ⟨H.keep,?_⟩
    unfold vE;rw [c5r];rfl
  intro c5
  have c5r:=c5
  refine Wp.seq (Wp.region ?_)
  refine Ro.q rfl rfl (zJ ta116 rfl (H.cells 1 rfl) (j:=0) rfl (vs:=(zX t h ices ab cab ad cad ah cah ai cai az caz)) rfl rfl) rfl ?_
  refine Ro.q (v:=(p b3 0)) rfl rfl (zA fo52_0 rfl rfl) rfl ?_
  refine Ro.q rfl rfl (zE zM rfl (H.cells 0 rfl) (j:=0) rfl rfl) rfl ?_
  refine Ro.d rfl rfl rfl (zH rfl en107 (ce (v:=(.agg (zX t h ices ab cab ad cad ah cah ai cai az caz).toArray)) rfl (ce (v:=(i x.day)) rfl cn)) (c107 (day:=x.day) _ (hab.ext H.keep) (had.ext H.keep) (hah.ext H.keep) (hai.ext H.keep) (haz.ext H.keep) hic (by omega) (by omega)) ?_)
  intro u w6 k7 hu;subst hu;replace H:=H.ext k7
  clear k7
  refine Ro.q (v:=(.bool (staleB t.term ices x.day))) rfl rfl (zD rfl) rfl ?_
  refine Ro.nil (nT ?_)
  refine Wp.cond (t:=(staleB t.term ices x.day)) rfl ?_ ?_
  · intro c8
    have c8r:=c8
    refine Wp.seq (Wp.region ?_)
    refine Ro.q (v:=(i 11)) rfl rfl (zD rfl) rfl ?_
    refine Ro.nil (nT (Wp.ret (rB (rT (zN ?_)))))
    refine zI (v:=(i 11)) Tryz.results81 rfl ⟨H.keep,?_⟩
    unfold vE;rw [c5r,c8r];rfl
  intro c8
  have c8r:=c8
  refine Wp.seq (Wp.region ?_)
  refine Ro.q (v:=(p b1 14)) rfl rfl (zA fo116_3 rfl rfl) rfl ?_
  refine Ro.q rfl rfl (zE t1_47 rfl (H.cells 1 rfl) (j:=14) rfl rfl) rfl ?_
  refine Ro.q rfl rfl (yG Tryz.underlying47 rfl (v:=(zl t.glass h ices).length) rfl) rfl ?_
  refine Ro.q rfl rfl (vR rfl rfl) rfl ?_
  refine Ro.q (v:=(.bool (decide ((((zl t.glass h ices).length:Nat):Int)=0)))) rfl rfl (zD rfl) rfl ?_
  refine Ro.nil (nT ?_)
  refine Wp.cond (t:=decide ((((zl t.glass h ices).length:Nat):Int)=0)) rfl ?_ ?_
  · intro c9
    have c9r:=c9
    simp only [bx] at c9
    refine Wp.seq (Wp.region ?_)
    refine Ro.q (v:=(i 9)) rfl rfl (zD rfl) rfl ?_
    refine Ro.nil (nT (Wp.ret (rB (rT (zN ?_)))))
    refine zI (v:=(i 9)) Tryz.results81 rfl ⟨H.keep,?_⟩
    unfold vE;rw [c5r,c8r,(zl_agr hh0).1 c9];rfl
  intro c9
  have c9r:=c9
  simp only [bx] at c9
  refine Wp.skip (nB (nT (Wp.seq (Wp.region ?_))))
  refine Ro.q (v:=(i 0)) rfl rfl (zD rfl) rfl ?_
  refine Ro.nil (nT (Wp.ret (zN ?_)))
  refine zI (v:=(i 0)) Tryz.results81 rfl ⟨H.keep,?_⟩
  have e:agrB t.glass h ices=true:=by
    cases e:agrB t.glass h ices
    · exact absurd ((zl_agr hh0).2 e) c9
    · rfl
  unfold vE;rw [c5r,c8r,e];rfl
theorem c60 {t:Tb} {ab ad ah ai:Option Addr} {h:List Rg} {ices:List Ice} {cab cad cah cai:Nat} {az:Option Addr} {caz:Nat} {x:Rdg} (w:World) (hab:Sl w 3 (t.bs.map yH) ab) (had:Sl w 2 (t.dl.map zZ) ad) (hah:Sl w 2 (h.map rgV) ah) (hai:Sl w 3 (ices.map iceV) ai) (haz:Sl w 2 ((zl t.glass h ices).map rgV) az) (G:Vld t h ices x) (ha:Agree t.glass h ices):Rv Tryz.prog 60 [(.agg (zX t h ices ab cab ad cad ah cah ai cai az caz).toArray),(.agg (rdC x).toArray)] w (.agg #[i (yR t h ices x).lo,i (yR t h ices x).hi]):=by
  have hrd:=G.rd
  have htb:=G.tb
  have hhl:=G.hi.len
  have hh0:=G.hi.pos
  have hdy:=G.day
  have hic : ∀ i∈ices,0≤i.day∧i.day≤100:=fun i hi=>by have:=(G.ic.each i hi).1;omega
  have hil:=G.ic.len
  have hwi:=wr_in htb hrd
  obtain ⟨z,hz,hzd,_,hzi⟩:=zl_at G.g hhl ha hdy.1 hdy.2
  have hzl:=zl_len ha
  refine Ret.body (N:=29) Tryz.func60 rfl Tryz.ntmps60 rfl ?_
  have H:=S.start Nm w
  refine Wp.seq (Wp.region ?_)
  refine Ro.d rfl rfl rfl (H.box (l:=(zX t h ices ab cab ad cad ah cah ai cai az caz)) rfl (v:=(.agg (zX t h ices ab cab ad cad ah cah ai cai az caz).toArray)) rfl rfl ?_)
  intro b1 w2 Hn;replace H:=Hn;clear Hn
  refine Ro.d rfl rfl rfl (H.box (l:=(rdC x)) rfl (v:=(.agg (rdC x).toArray)) rfl rfl ?_)
  intro b3 w4 Hn;replace H:=Hn;clear Hn
  refine Ro.d rfl rfl rfl (H.new (l:=[i 0,i 0]) rfl zv41 rfl ?_)
  intro b5 w6 Hn;replace H:=Hn;clear Hn
  refine Ro.nil (nT (Wp.seq ?_))
  have hMo:Mono (liftV [fun v=>v=(p b1 0),fun v=>v=(.agg (tbC t ab cab ad cad).toArray),fun v=>v=(.agg (rdC x).toArray),fun v=>v=(.agg (lkC t x ab cab ad cad).toArray),fun v=>v=(.agg #[(i ((wr t x).lo)),(i ((wr t x).hi))]),fun v=>v=(p b1 14),fun v=>v=(.slice az ((zl t.glass h ices).length) caz),fun v=>v=(p b3 0),fun v=>v=(i x.day),fun v=>v=(p (blk az) (yP az+x.day.toNat*2)),fun v=>v=(.agg #[(i z.lo),(i z.hi)]),fun _=>True,fun _=>True,fun _=>True]):=fun _ _ _ _ _ h=>fix_v _ _ h
  have hBB : ∀ (done:Nat→Bool) (ρ':Env) (w':World),(∃ bA11 bA12:Nat,(done 11=true→ρ' 5=p bA11 0)∧(done 12=true→ρ' 6=p bA12 0)∧S Nm w ((bif done 11 then [(bA11,bif done 13 then (.cells [i ((wr t x).lo),i ((wr t x).hi)].toArray 41 (0,0):Obj) else (.cells [i 0,i 0].toArray 41 (0,0):Obj))] else [])++((bif done 12 then [(bA12,(.cells [i 0,i 0].toArray 41 (0,0):Obj))] else [])++[(b5,.cells [i 0,i 0].toArray 41 (0,0)),(b3,.cells (rdC x).toArray 52 (0,0)),(b1,.cells (zX t h ices ab cab ad cad ah cah ai cai az caz).toArray 116 (0,0))])) w')→S Nm w [(b5,.cells [i 0,i 0].toArray 41 (0,0)),(b3,.cells (rdC x).toArray 52 (0,0)),(b1,.cells (zX t h ices ab cab ad cad ah cah ai cai az caz).toArray 116 (0,0))] w':=fun done ρ' w' ⟨bA11,bA12,eA11,eA12,Hn⟩=>Hn.part.part
  refine Wp.drawnG 14 [0,1,0,7,15,0,32,0,128,480,992,0,0,6175,16383] (liftV [fun v=>v=(p b1 0),fun v=>v=(.agg (tbC t ab cab ad cad).toArray),fun v=>v=(.agg (rdC x).toArray),fun v=>v=(.agg (lkC t x ab cab ad cad).toArray),fun v=>v=(.agg #[(i ((wr t x).lo)),(i ((wr t x).hi))]),fun v=>v=(p b1 14),fun v=>v=(.slice az ((zl t.glass h ices).length) caz),fun v=>v=(p b3 0),fun v=>v=(i x.day),fun v=>v=(p (blk az) (yP az+x.day.toNat*2)),fun v=>v=(.agg #[(i z.lo),(i z.hi)]),fun _=>True,fun _=>True,fun _=>True]) (fun done ρ' w'=>∃ bA11 bA12:Nat,(done 11=true→ρ' 5=p bA11 0)∧(done 12=true→ρ' 6=p bA12 0)∧S Nm w ((bif done 11 then [(bA11,bif done 13 then (.cells [i ((wr t x).lo),i ((wr t x).hi)].toArray 41 (0,0):Obj) else (.cells [i 0,i 0].toArray 41 (0,0):Obj))] else [])++((bif done 12 then [(bA12,(.cells [i 0,i 0].toArray 41 (0,0):Obj))] else [])++[(b5,.cells [i 0,i 0].toArray 41 (0,0)),(b3,.cells (rdC x).toArray 52 (0,0)),(b1,.cells (zX t h ices ab cab ad cad ah cah ai cai az caz).toArray 116 (0,0))])) w') (by kernel_rfl) (by kernel_rfl) rfl (fun w' k=>⟨0,0,(fun h=>by cases h),(fun h=>by cases h),H.ext k⟩) ?_ ?_
  · refine ⟨?_,?_,?_,?_,?_,?_,?_,?_,?_,?_,?_,?_,?_,?_,trivial⟩
    · exact ObG.to hBB hMo (fun _ _ _ _ _ ⟨bA11,bA12,eA11,eA12,Hn⟩ k=>⟨bA11,bA12,eA11,eA12,Hn.ext k⟩) (Ob.q rfl (fun _ _ B U D=>(zA fo116_0 (show (_:Value)=(p b1 0) from U 2 rfl) rfl)) rfl rfl)
    · exact ObG.to hBB hMo (fun _ _ _ _ _ ⟨bA11,bA12,eA11,eA12,Hn⟩ k=>⟨bA11,bA12,eA11,eA12,Hn.ext k⟩) (Ob.q rfl (fun _ _ B U D=>(zJ ta45 (D 0 rfl) (B.cells 2 rfl) (j:=0) rfl (vs:=(tbC t ab cab ad cad)) rfl rfl)) rfl rfl)
    · exact ObG.to hBB hMo (fun _ _ _ _ _ ⟨bA11,bA12,eA11,eA12,Hn⟩ k=>⟨bA11,bA12,eA11,eA12,Hn.ext k⟩) (Ob.q rfl (fun _ _ B U D=>(zJ ta52 (show (_:Value)=(p b3 0) from U 3 rfl) (B.cells 1 rfl) (j:=0) rfl (vs:=(rdC x)) rfl rfl)) rfl rfl)
    · exact ObG.to hBB hMo (fun _ _ _ _ _ ⟨bA11,bA12,eA11,eA12,Hn⟩ k=>⟨bA11,bA12,eA11,eA12,Hn.ext k⟩) (Ob.q rfl (fun _ _ B U D=>(zP (v:=(.agg (lkC t x ab cab ad cad).toArray)) (pe (v:=(.agg (tbC t ab cab ad cad).toArray)) (D 1 rfl) (pe (v:=(.agg (rdC x).toArray)) (D 2 rfl) pn)) (fun w=>by kernel_rfl))) rfl rfl)
    · exact ObG.to hBB hMo (fun _ _ _ _ _ ⟨bA11,bA12,eA11,eA12,Hn⟩ k=>⟨bA11,bA12,eA11,eA12,Hn.ext k⟩) (Ob.mk rfl fun ρ' w' B U D=>zH rfl en91 (ce (v:=(.agg (lkC t x ab cab ad cad).toArray)) (D 3 rfl) cn) (c91w (x:=x) _ (hab.ext B.keep) (had.ext B.keep) htb hrd) (fun u w2 k2 hu=>⟨k2,hu⟩))
    · exact ObG.to hBB hMo (fun _ _ _ _ _ ⟨bA11,bA12,eA11,eA12,Hn⟩ k=>⟨bA11,bA12,eA11,eA12,Hn.ext k⟩) (Ob.q rfl (fun _ _ B U D=>(zA fo116_3 (show (_:Value)=(p b1 0) from U 2 rfl) rfl)) rfl rfl)
    · exact ObG.to hBB hMo (fun _ _ _ _ _ ⟨bA11,bA12,eA11,eA12,Hn⟩ k=>⟨bA11,bA12,eA11,eA12,Hn.ext k⟩) (Ob.q rfl (fun _ _ B U D=>(zE t1_47 (D 5 rfl) (B.cells 2 rfl) (j:=14) rfl rfl)) rfl rfl)
    · exact ObG.to hBB hMo (fun _ _ _ _ _ ⟨bA11,bA12,eA11,eA12,Hn⟩ k=>⟨bA11,bA12,eA11,eA12,Hn.ext k⟩) (Ob.q rfl (fun _ _ B U D=>(zA fo52_0 (show (_:Value)=(p b3 0) from U 3 rfl) rfl)) rfl rfl)
    · exact ObG.to hBB hMo (fun _ _ _ _ _ ⟨bA11,bA12,eA11,eA12,Hn⟩ k=>⟨bA11,bA12,eA11,eA12,Hn.ext k⟩) (Ob.q rfl (fun _ _ B U D=>(zE zM (D 7 rfl) (B.cells 1 rfl) (j:=0) rfl rfl)) rfl rfl)
    · exact ObG.to hBB hMo (fun _ _ _ _ _ ⟨bA11,bA12,eA11,eA12,Hn⟩ k=>⟨bA11,bA12,eA11,eA12,Hn.ext k⟩) (Ob.q rfl (fun _ _ B U D=>(zY ts47 (haz.ext B.keep) (D 6 rfl) (by first | (simp;done) | (simp;omega)) (D 8 rfl) (by omega) (zW hz))) rfl rfl)
    · exact ObG.to hBB hMo (fun _ _ _ _ _ ⟨bA11,bA12,eA11,eA12,Hn⟩ k=>⟨bA11,bA12,eA11,eA12,Hn.ext k⟩) (Ob.q rfl (fun _ _ B U D=>(zJ vL (D 9 rfl) ((haz.ext B.keep).cells (zW hz)) (j:=0) rfl (vs:=[i z.lo,i z.hi]) rfl rfl)) rfl rfl)
    · refine ObG.sp rfl fun done ρ' w' hW U hcl hnd hwt D=>?_
      obtain ⟨bA11,bA12,eA11,eA12,Hn⟩:=hW
      have hs:=nd hcl (q:=13) rfl rfl hnd
      simp only [hnd,cond_false,List.nil_append] at Hn
      refine Hn.newK (l:=[i 0,i 0]) rfl zv41 rfl ?_
      intro bN w2 k Hm
      refine ⟨fix_v,trivial,bN,bA12,(fun _=>rfl),eA12,?_⟩
      show S Nm w ([(bN,bif done 13 then (.cells [i ((wr t x).lo),i ((wr t x).hi)].toArray 41 (0,0):Obj) else (.cells [i 0,i 0].toArray 41 (0,0):Obj))]++((bif done 12 then [(bA12,(.cells [i 0,i 0].toArray 41 (0,0):Obj))] else [])++[(b5,.cells [i 0,i 0].toArray 41 (0,0)),(b3,.cells (rdC x).toArray 52 (0,0)),(b1,.cells (zX t h ices ab cab ad cad ah cah ai cai az caz).toArray 116 (0,0))])) w2
      rw [hs]
      exact Hm
    · refine ObG.sp rfl fun done ρ' w' hW U hcl hnd hwt D=>?_
      obtain ⟨bA11,bA12,eA11,eA12,Hn⟩:=hW
      simp only [hnd,cond_false,List.nil_append] at Hn
      refine Hn.newK (l:=[i 0,i 0]) rfl zv41 rfl ?_
      intro bN w2 k Hm
      refine ⟨fix_v,trivial,bA11,bN,eA11,(fun _=>rfl),?_⟩
      show S Nm w ((bif done 11 then [(bA11,bif done 13 then (.cells [i ((wr t x).lo),i ((wr t x).hi)].toArray 41 (0,0):Obj) else (.cells [i 0,i 0].toArray 41 (0,0):Obj))] else [])++([(bN,(.cells [i 0,i 0].toArray 41 (0,0):Obj))]++[(b5,.cells [i 0,i 0].toArray 41 (0,0)),(b3,.cells (rdC x).toArray 52 (0,0)),(b1,.cells (zX t h ices ab cab ad cad ah cah ai cai az caz).toArray 116 (0,0))])) w2
      exact Hm.mid
    · refine ObG.sp rfl fun done ρ' w' hW U hcl hnd hwt D=>?_
      obtain ⟨bA11,bA12,eA11,eA12,Hn⟩:=hW
      have ha:done 11=true:=hwt 11 rfl
      simp only [ha,hnd,cond_true,cond_false] at Hn
      refine Hn.store (j:=0) (off:=0) (k:=2) (cs:=[i 0,i 0]) (u:=41) rfl sz41 (eA11 ha) (v:=(.agg #[(i ((wr t x).lo)),(i ((wr t x).hi))])) (D 4 rfl) rfl (vs:=[i ((wr t x).lo),i ((wr t x).hi)]) rfl rfl rfl (by simp [Value.oneCell']) (cs':=[i ((wr t x).lo),i ((wr t x).hi)]) rfl ?_
      intro w2 Hm
      refine ⟨fix_v,trivial,bA11,bA12,(fun _=>eA11 ha),eA12,?_⟩
      show S Nm w ((bif done 11 then [(bA11,(.cells [i ((wr t x).lo),i ((wr t x).hi)].toArray 41 (0,0):Obj))] else [])++((bif done 12 then [(bA12,(.cells [i 0,i 0].toArray 41 (0,0):Obj))] else [])++[(b5,.cells [i 0,i 0].toArray 41 (0,0)),(b3,.cells (rdC x).toArray 52 (0,0)),(b1,.cells (zX t h ices ab cab ad cad ah cah ai cai az caz).toArray 116 (0,0))])) w2
      rw [ha]
      exact Hm
  rintro ρ7 w8 ⟨b12,b13,eA11,eA12,Hn⟩ U10 D11
  replace H:S Nm w [(b12,.cells [i ((wr t x).lo),i ((wr t x).hi)].toArray 41 (0,0)),(b13,.cells [i 0,i 0].toArray 41 (0,0)),(b5,.cells [i 0,i 0].toArray 41 (0,0)),(b3,.cells (rdC x).toArray 52 (0,0)),(b1,.cells (zX t h ices ab cab ad cad ah cah ai cai az caz).toArray 116 (0,0))] w8:=Hn;clear Hn hMo hBB
  have f14:ρ7 4=(p b5 0):=U10 4 rfl
  have f15:ρ7 5=p b12 0:=eA11 rfl
  have f16:ρ7 6=p b13 0:=eA12 rfl
  have f17:ρ7 17=(.agg #[(i z.lo),(i z.hi)]):=D11 10 rfl
  clear U10 D11
  clear eA11
  clear eA12
  refine Ro.d0 rfl rfl rfl (H.store (j:=1) (off:=0) (k:=2) rfl sz41 f16 (v:=(.agg #[(i z.lo),(i z.hi)])) f17 rfl rfl rfl rfl (by simp [Value.oneCell']) (cs':=[i z.lo,i z.hi]) rfl ?_)
  intro w18 Hn;replace H:=Hn;clear Hn
  refine Ro.nil (nT (Wp.seq (Wp.region ?_)))
  refine Ro.q (v:=(p b12 0)) rfl rfl (zA yV f15 rfl) rfl ?_
  refine Ro.q rfl rfl (zE zM rfl (H.cells 0 rfl) (j:=0) rfl rfl) rfl ?_
  refine Ro.q (v:=(p b13 1)) rfl rfl (zA yZ f16 rfl) rfl ?_
  refine Ro.q rfl rfl (zE zM rfl (H.cells 1 rfl) (j:=1) rfl rfl) rfl ?_
  refine Ro.q rfl rfl (yT rfl rfl (by constructor <;>omega)) rfl ?_
  refine Ro.q (v:=(p b12 1)) rfl rfl (zA yZ f15 rfl) rfl ?_
  refine Ro.q rfl rfl (zE zM rfl (H.cells 0 rfl) (j:=1) rfl rfl) rfl ?_
  refine Ro.q (v:=(p b13 0)) rfl rfl (zA yV f16 rfl) rfl ?_
  refine Ro.q rfl rfl (zE zM rfl (H.cells 1 rfl) (j:=0) rfl rfl) rfl ?_
  refine Ro.q rfl rfl (yT rfl rfl (by constructor <;>omega)) rfl ?_
  refine Ro.q (v:=(.agg #[(i (((wr t x).lo)-z.hi)),(i (((wr t x).hi)-z.lo))])) rfl rfl (zP (v:=(.agg #[(i (((wr t x).lo)-z.hi)),(i (((wr t x).hi)-z.lo))])) (pe (v:=(i (((wr t x).lo)-z.hi))) rfl (pe (v:=(i (((wr t x).hi)-z.lo))) rfl pn)) (fun w=>by kernel_rfl)) rfl ?_
  refine Ro.d0 rfl rfl rfl (H.store (j:=2) (off:=0) (k:=2) rfl sz41 f14 (v:=(.agg #[(i (((wr t x).lo)-z.hi)),(i (((wr t x).hi)-z.lo))])) rfl rfl rfl rfl rfl (by simp [Value.oneCell']) (cs':=[i (((wr t x).lo)-z.hi),i (((wr t x).hi)-z.lo)]) rfl ?_)
  intro w19 Hn;replace H:=Hn;clear Hn
  refine Ro.nil (nT (Wp.ret (zN ?_)))
  refine yW (vs:=[i (((wr t x).lo)-z.hi),i (((wr t x).hi)-z.lo)]) Tryz.results60 f14 vL (H.cells 2 rfl) rfl ⟨H.keep,?_⟩
  rw [corR_is hzd]
theorem c35 {t:Tb} {ab ad ah ai:Option Addr} {h:List Rg} {ices:List Ice} {cab cad cah cai:Nat} {x:Rdg} (w:World) (hab:Sl w 3 (t.bs.map yH) ab) (had:Sl w 2 (t.dl.map zZ) ad) (hah:Sl w 2 (h.map rgV) ah) (hai:Sl w 3 (ices.map iceV) ai) (hhl:h.length≤4611686018427387904) (hil:ices.length≤4611686018427387904):Rv Tryz.prog 35 [(.agg (tbC t ab cab ad cad).toArray),(.slice ah h.length cah),(.slice ai ices.length cai),(.agg (rdC x).toArray)] w (.tuple #[.agg #[i (yK t h ices x).lo,i (yK t h ices x).hi],i (corE t h ices x)]):=by
  refine Ret.body (N:=32) Tryz.func35 rfl Tryz.ntmps35 rfl ?_
  have H:=S.start Nm w
  refine Wp.seq (Wp.region ?_)
  refine Ro.d rfl rfl rfl (H.box (l:=(tbC t ab cab ad cad)) rfl (v:=(.agg (tbC t ab cab ad cad).toArray)) rfl rfl ?_)
  intro b1 w2 Hn;replace H:=Hn;clear Hn
  refine Ro.d rfl rfl rfl (H.box (l:=(rdC x)) rfl (v:=(.agg (rdC x).toArray)) rfl rfl ?_)
  intro b3 w4 Hn;replace H:=Hn;clear Hn
  refine Ro.d rfl rfl rfl (H.new (l:=[i 0,i 0]) rfl zv41 rfl ?_)
  intro b5 w6 Hn;replace H:=Hn;clear Hn
  refine Ro.q (v:=(i 0)) rfl rfl (zD rfl) rfl ?_
  refine Ro.nil (nT (Wp.seq (Wp.region ?_)))
  refine Ro.q rfl rfl (zJ ta45 rfl (H.cells 2 rfl) (j:=0) rfl (vs:=(tbC t ab cab ad cad)) rfl rfl) rfl ?_
  refine Ro.q (v:=(.slice ah h.length cah)) rfl rfl (zB rfl) rfl ?_
  refine Ro.q (v:=(.slice ai ices.length cai)) rfl rfl (zB rfl) rfl ?_
  refine Ro.q rfl rfl (zJ ta52 rfl (H.cells 1 rfl) (j:=0) rfl (vs:=(rdC x)) rfl rfl) rfl ?_
  refine Ro.d rfl rfl rfl (zH rfl en80 (ce (v:=(.agg (tbC t ab cab ad cad).toArray)) rfl (ce (v:=(.slice ah h.length cah)) rfl (ce (v:=(.slice ai ices.length cai)) rfl (ce (v:=(.agg (rdC x).toArray)) rfl cn)))) (c80 _ (hab.ext H.keep) (had.ext H.keep) (hah.ext H.keep) (hai.ext H.keep) hhl hil) ?_)
  have Hc9:=H
  rintro u w7 k8 (⟨hk,az,caz,b,ob,rfl,hS,hz⟩ | ⟨hk,rfl | ⟨az,caz,rfl⟩⟩)
  · skip
    replace H:=H.ext k8
    replace H:S Nm w [(b,ob),(b5,.cells [i 0,i 0].toArray 41 (0,0)),(b3,.cells (rdC x).toArray 52 (0,0)),(b1,.cells (tbC t ab cab ad cad).toArray 45 (0,0))] w7:=Hc9.join hS
    have G:=ask_Good hk
    have hrd:=G.rd
    have htb:=G.tb
    have hhl16:=G.hi.len
    have hh0:=G.hi.pos
    have hdy:=G.day
    have hic : ∀ i∈ices,0≤i.day∧i.day≤100:=fun i hi=>by have:=(G.ic.each i hi).1;omega
    have hil8:=G.ic.len
    refine Ro.q (v:=(.tuple #[(.agg (zX t h ices ab cab ad cad ah cah ai cai az caz).toArray),(i 0)])) rfl rfl (zB rfl) rfl ?_
    refine Ro.q (v:=(.agg (zX t h ices ab cab ad cad ah cah ai cai az caz).toArray)) rfl rfl (zO rfl (j:=0) rfl) rfl ?_
    refine Ro.q (v:=(i 0)) rfl rfl (zO rfl (j:=1) rfl) rfl ?_
    refine Ro.d rfl rfl rfl (H.new (l:=zuC) rfl zv116 rfl ?_)
    intro b10 w11 Hn;replace H:=Hn;clear Hn
    refine Ro.d0 rfl rfl rfl (H.store (j:=0) (off:=0) (k:=15) rfl sz116 rfl (v:=(.agg (zX t h ices ab cab ad cad ah cah ai cai az caz).toArray)) rfl rfl rfl rfl rfl (by simp [Value.oneCell']) (cs':=(zX t h ices ab cab ad cad ah cah ai cai az caz)) rfl ?_)
    intro w12 Hn;replace H:=Hn;clear Hn
    refine Ro.q (v:=(i 0)) rfl rfl (zD rfl) rfl ?_
    refine Ro.nil (nT (Wp.seq (Wp.seq (Wp.region ?_))))
    refine Ro.q (v:=(i 0)) rfl rfl (zB rfl) rfl ?_
    refine Ro.q (v:=(.bool true)) rfl rfl (Runs.to (vR rfl rfl) (by rfl)) rfl ?_
    refine Ro.nil (nT ?_)
    refine Wp.condT rfl ?_
    refine Wp.region ?_
    refine Ro.q rfl rfl (zJ ta116 rfl (H.cells 0 rfl) (j:=0) rfl (vs:=(zX t h ices ab cab ad cad ah cah ai cai az caz)) rfl rfl) rfl ?_
    refine Ro.q rfl rfl (zJ ta52 rfl (H.cells 3 rfl) (j:=0) rfl (vs:=(rdC x)) rfl rfl) rfl ?_
    refine Ro.d rfl rfl rfl (zH rfl en81 (ce (v:=(.agg (zX t h ices ab cab ad cad ah cah ai cai az caz).toArray)) rfl (ce (v:=(.agg (rdC x).toArray)) rfl cn)) (c81 (x:=x) _ (hab.ext H.keep) (had.ext H.keep) (hah.ext H.keep) (hai.ext H.keep) ((hz _ (H.at 1 rfl))) (by omega) hic (by omega) (by omega)) ?_)
    intro u w13 k14 hu;subst hu;replace H:=H.ext k14
    clear k14
    refine Ro.q (v:=(i (vE t h ices x))) rfl rfl (zD rfl) rfl ?_
    refine Ro.nil (nT (Wp.seq (Wp.seq (Wp.region ?_))))
    refine Ro.q (v:=(i (vE t h ices x))) rfl rfl (zB rfl) rfl ?_
    refine Ro.q rfl rfl (vW rfl rfl) rfl ?_
    refine Ro.nil (nT ?_)
    refine Wp.cond (t:=decide ((vE t h ices x)≠0)) rfl ?_ ?_
    · intro c15
      have c15r:=c15
      simp only [bx] at c15
      refine Wp.seq (Wp.region ?_)
      refine Ro.q (v:=(.agg #[(i 0),(i 0)])) rfl rfl (zP (v:=(.agg #[(i 0),(i 0)])) pn (fun w=>by kernel_rfl)) rfl ?_
      refine Ro.q (v:=(i (vE t h ices x))) rfl rfl (zB rfl) rfl ?_
      refine Ro.d0 rfl rfl rfl (H.store (j:=2) (off:=0) (k:=2) rfl sz41 rfl (v:=(.agg #[(i 0),(i 0)])) rfl rfl rfl rfl rfl (by simp [Value.oneCell']) (cs':=[i 0,i 0]) rfl ?_)
      intro w16 Hn;replace H:=Hn;clear Hn
      refine Ro.q (v:=(i (vE t h ices x))) rfl rfl (zD rfl) rfl ?_
      refine Ro.nil (nT (Wp.ret (rT (zN ?_))))
      refine zT (vs:=[i 0,i 0]) (v:=(i (vE t h ices x))) Tryz.results35 rfl vL (H.cells 2 rfl) rfl rfl ⟨H.keep,?_⟩
      have e:=cor_ref hk
      have q:=corQ_bad (by rw [e];exact c15)
      rw [q,e]
    intro c15
    have c15r:=c15
    simp only [bx] at c15
    have ha:=(refE_zero (show vE t h ices x=0 by omega)).2.2
    refine Wp.skip (nT (Wp.seq (Wp.region ?_)))
    refine Ro.q rfl rfl (zJ ta116 rfl (H.cells 0 rfl) (j:=0) rfl (vs:=(zX t h ices ab cab ad cad ah cah ai cai az caz)) rfl rfl) rfl ?_
    refine Ro.q rfl rfl (zJ ta52 rfl (H.cells 3 rfl) (j:=0) rfl (vs:=(rdC x)) rfl rfl) rfl ?_
    refine Ro.d rfl rfl rfl (zH rfl en60 (ce (v:=(.agg (zX t h ices ab cab ad cad ah cah ai cai az caz).toArray)) rfl (ce (v:=(.agg (rdC x).toArray)) rfl cn)) (c60 (x:=x) _ (hab.ext H.keep) (had.ext H.keep) (hah.ext H.keep) (hai.ext H.keep) ((hz _ (H.at 1 rfl))) G ha) ?_)
    intro u w17 k18 hu;subst hu;replace H:=H.ext k18
    clear k18
    refine Ro.d0 rfl rfl rfl (H.store (j:=2) (off:=0) (k:=2) rfl sz41 rfl (v:=(.agg #[(i ((yR t h ices x).lo)),(i ((yR t h ices x).hi))])) rfl rfl rfl rfl rfl (by simp [Value.oneCell']) (cs':=[i ((yR t h ices x).lo),i ((yR t h ices x).hi)]) rfl ?_)
    intro w19 Hn;replace H:=Hn;clear Hn
    refine Ro.q (v:=(i 0)) rfl rfl (zD rfl) rfl ?_
    refine Ro.nil (nT (Wp.ret (zN ?_)))
    refine zT (vs:=[i ((yR t h ices x).lo),i ((yR t h ices x).hi)]) (v:=(i 0)) Tryz.results35 rfl vL (H.cells 2 rfl) rfl rfl ⟨H.keep,?_⟩
    have c0:vE t h ices x=0:=by omega
    have e:=cor_ref hk
    have q:=corQ_good (by rw [e];exact c0)
    rw [q,e,c0]
  · skip
    replace H:=H.ext k8
    refine Ro.q (v:=(.tuple #[(.agg (zuC).toArray),(i (yY t h ices x))])) rfl rfl (zB rfl) rfl ?_
    refine Ro.q (v:=(.agg (zuC).toArray)) rfl rfl (zO rfl (j:=0) rfl) rfl ?_
    refine Ro.q (v:=(i (yY t h ices x))) rfl rfl (zO rfl (j:=1) rfl) rfl ?_
    refine Ro.d rfl rfl rfl (H.new (l:=zuC) rfl zv116 rfl ?_)
    intro b20 w21 Hn;replace H:=Hn;clear Hn
    refine Ro.d0 rfl rfl rfl (H.store (j:=0) (off:=0) (k:=15) rfl sz116 rfl (v:=(.agg (zuC).toArray)) rfl rfl rfl rfl rfl (by simp [Value.oneCell']) (cs':=zuC) rfl ?_)
    intro w22 Hn;replace H:=Hn;clear Hn
    refine Ro.q (v:=(i (yY t h ices x))) rfl rfl (zD rfl) rfl ?_
    refine Ro.nil (nT (Wp.seq (Wp.seq (Wp.region ?_))))
    refine Ro.q (v:=(i (yY t h ices x))) rfl rfl (zB rfl) rfl ?_
    refine Ro.q rfl rfl (vR rfl rfl) rfl ?_
    refine Ro.nil (nT ?_)
    refine Wp.condF (show ev _ _ _=_ from congrArg Value.bool (show decide ((yY t h ices x)=0)=false by exact decide_eq_false hk)) ?_
    refine Wp.skip (nT (Wp.seq (Wp.seq (Wp.region ?_))))
    refine Ro.q (v:=(i (yY t h ices x))) rfl rfl (zB rfl) rfl ?_
    refine Ro.q rfl rfl (vW rfl rfl) rfl ?_
    refine Ro.nil (nT ?_)
    refine Wp.condT (show ev _ _ _=_ from congrArg Value.bool (show decide ((yY t h ices x)≠0)=true by exact decide_eq_true hk)) ?_
    refine Wp.seq (Wp.region ?_)
    refine Ro.q (v:=(.agg #[(i 0),(i 0)])) rfl rfl (zP (v:=(.agg #[(i 0),(i 0)])) pn (fun w=>by kernel_rfl)) rfl ?_
    refine Ro.q (v:=(i (yY t h ices x))) rfl rfl (zB rfl) rfl ?_
    refine Ro.d0 rfl rfl rfl (H.store (j:=1) (off:=0) (k:=2) rfl sz41 rfl (v:=(.agg #[(i 0),(i 0)])) rfl rfl rfl rfl rfl (by simp [Value.oneCell']) (cs':=[i 0,i 0]) rfl ?_)
    intro w25 Hn;replace H:=Hn;clear Hn
    refine Ro.q (v:=(i (yY t h ices x))) rfl rfl (zD rfl) rfl ?_
    refine Ro.nil (nT (Wp.ret (rT (zN ?_))))
    refine zT (vs:=[i 0,i 0]) (v:=(i (yY t h ices x))) Tryz.results35 rfl vL (H.cells 1 rfl) rfl rfl ⟨H.keep,?_⟩
    have e:=cor_ask hk
    have q:=corQ_bad (by rw [e];exact hk)
    rw [q,e]
  · skip
    replace H:=H.ext k8
    refine Ro.q (v:=(.tuple #[(.agg (zX t h ices ab cab ad cad ah cah ai cai az caz).toArray),(i (yY t h ices x))])) rfl rfl (zB rfl) rfl ?_
    refine Ro.q (v:=(.agg (zX t h ices ab cab ad cad ah cah ai cai az caz).toArray)) rfl rfl (zO rfl (j:=0) rfl) rfl ?_
    refine Ro.q (v:=(i (yY t h ices x))) rfl rfl (zO rfl (j:=1) rfl) rfl ?_
    refine Ro.d rfl rfl rfl (H.new (l:=zuC) rfl zv116 rfl ?_)
    intro b26 w27 Hn;replace H:=Hn;clear Hn
    refine Ro.d0 rfl rfl rfl (H.store (j:=0) (off:=0) (k:=15) rfl sz116 rfl (v:=(.agg (zX t h ices ab cab ad cad ah cah ai cai az caz).toArray)) rfl rfl rfl rfl rfl (by simp [Value.oneCell']) (cs':=(zX t h ices ab cab ad cad ah cah ai cai az caz)) rfl ?_)
    intro w28 Hn;replace H:=Hn;clear Hn
    refine Ro.q (v:=(i (yY t h ices x))) rfl rfl (zD rfl) rfl ?_
    refine Ro.nil (nT (Wp.seq (Wp.seq (Wp.region ?_))))
    refine Ro.q (v:=(i (yY t h ices x))) rfl rfl (zB rfl) rfl ?_
    refine Ro.q rfl rfl (vR rfl rfl) rfl ?_
    refine Ro.nil (nT ?_)
    refine Wp.condF (show ev _ _ _=_ from congrArg Value.bool (show decide ((yY t h ices x)=0)=false by exact decide_eq_false hk)) ?_
    refine Wp.skip (nT (Wp.seq (Wp.seq (Wp.region ?_))))
    refine Ro.q (v:=(i (yY t h ices x))) rfl rfl (zB rfl) rfl ?_
    refine Ro.q rfl rfl (vW rfl rfl) rfl ?_
    refine Ro.nil (nT ?_)
    refine Wp.condT (show ev _ _ _=_ from congrArg Value.bool (show decide ((yY t h ices x)≠0)=true by exact decide_eq_true hk)) ?_
    refine Wp.seq (Wp.region ?_)
    refine Ro.q (v:=(.agg #[(i 0),(i 0)])) rfl rfl (zP (v:=(.agg #[(i 0),(i 0)])) pn (fun w=>by kernel_rfl)) rfl ?_
    refine Ro.q (v:=(i (yY t h ices x))) rfl rfl (zB rfl) rfl ?_
    refine Ro.d0 rfl rfl rfl (H.store (j:=1) (off:=0) (k:=2) rfl sz41 rfl (v:=(.agg #[(i 0),(i 0)])) rfl rfl rfl rfl rfl (by simp [Value.oneCell']) (cs':=[i 0,i 0]) rfl ?_)
    intro w31 Hn;replace H:=Hn;clear Hn
    refine Ro.q (v:=(i (yY t h ices x))) rfl rfl (zD rfl) rfl ?_
    refine Ro.nil (nT (Wp.ret (rT (zN ?_))))
    refine zT (vs:=[i 0,i 0]) (v:=(i (yY t h ices x))) Tryz.results35 rfl vL (H.cells 1 rfl) rfl rfl ⟨H.keep,?_⟩
    have e:=cor_ask hk
    have q:=corQ_bad (by rw [e];exact hk)
    rw [q,e]
theorem c58 {t:Tb} {ab ad ah ai:Option Addr} {h:List Rg} {ices:List Ice} {cab cad cah cai:Nat} {x:Rdg} {most:Int} (w:World) (hab:Sl w 3 (t.bs.map yH) ab) (had:Sl w 2 (t.dl.map zZ) ad) (hah:Sl w 2 (h.map rgV) ah) (hai:Sl w 3 (ices.map iceV) ai) (hhl:h.length≤4611686018427387904) (hil:ices.length≤4611686018427387904):Ret Tryz.prog 58 [(.agg (tbC t ab cab ad cad).toArray),(.slice ah h.length cah),(.slice ai ices.length cai),(.agg (rdC x).toArray),(i most)] w fun v w'=>(((yY t h ices x)=0∧0≤most)∧∃ az caz b ob,v=(.tuple #[(.agg (zX t h ices ab cab ad cad ah cah ai cai az caz).toArray),(i (vV t h ices x most))])∧S Nm w [(b,ob)] w'∧InB b ob 2 ((zl t.glass h ices).map rgV) az)∨((vV t h ices x most)≠0∧v=(.tuple #[(.agg (zuC).toArray),(i (vV t h ices x most))])):=by
  refine Ret.body (N:=35) Tryz.func58 rfl Tryz.ntmps58 rfl ?_
  have H:=S.start Nm w
  refine Wp.seq (Wp.region ?_)
  refine Ro.d rfl rfl rfl (H.box (l:=(tbC t ab cab ad cad)) rfl (v:=(.agg (tbC t ab cab ad cad).toArray)) rfl rfl ?_)
  intro b1 w2 Hn;replace H:=Hn;clear Hn
  refine Ro.d rfl rfl rfl (H.box (l:=(rdC x)) rfl (v:=(.agg (rdC x).toArray)) rfl rfl ?_)
  intro b3 w4 Hn;replace H:=Hn;clear Hn
  refine Ro.d rfl rfl rfl (H.new (l:=zuC) rfl zv116 rfl ?_)
  intro b5 w6 Hn;replace H:=Hn;clear Hn
  refine Ro.q (v:=(i 0)) rfl rfl (zD rfl) rfl ?_
  refine Ro.nil (nT (Wp.seq (Wp.region ?_)))
  refine Ro.q rfl rfl (zJ ta45 rfl (H.cells 2 rfl) (j:=0) rfl (vs:=(tbC t ab cab ad cad)) rfl rfl) rfl ?_
  refine Ro.q (v:=(.slice ah h.length cah)) rfl rfl (zB rfl) rfl ?_
  refine Ro.q (v:=(.slice ai ices.length cai)) rfl rfl (zB rfl) rfl ?_
  refine Ro.q rfl rfl (zJ ta52 rfl (H.cells 1 rfl) (j:=0) rfl (vs:=(rdC x)) rfl rfl) rfl ?_
  refine Ro.d rfl rfl rfl (zH rfl en80 (ce (v:=(.agg (tbC t ab cab ad cad).toArray)) rfl (ce (v:=(.slice ah h.length cah)) rfl (ce (v:=(.slice ai ices.length cai)) rfl (ce (v:=(.agg (rdC x).toArray)) rfl cn)))) (c80 _ (hab.ext H.keep) (had.ext H.keep) (hah.ext H.keep) (hai.ext H.keep) hhl hil) ?_)
  have Hc9:=H
  rintro u w7 k8 (⟨hk,az,caz,b,ob,rfl,hS,hz⟩ | ⟨hk,rfl | ⟨az,caz,rfl⟩⟩)
  · skip
    replace H:=H.ext k8
    replace H:S Nm w [(b,ob),(b5,.cells zuC.toArray 116 (0,0)),(b3,.cells (rdC x).toArray 52 (0,0)),(b1,.cells (tbC t ab cab ad cad).toArray 45 (0,0))] w7:=Hc9.join hS
    have G:=ask_Good hk
    have hrd:=G.rd
    have htb:=G.tb
    have hhl16:=G.hi.len
    have hh0:=G.hi.pos
    have hdy:=G.day
    have hic : ∀ i∈ices,0≤i.day∧i.day≤100:=fun i hi=>by have:=(G.ic.each i hi).1;omega
    have hil8:=G.ic.len
    refine Ro.q (v:=(.tuple #[(.agg (zX t h ices ab cab ad cad ah cah ai cai az caz).toArray),(i 0)])) rfl rfl (zB rfl) rfl ?_
    refine Ro.q (v:=(.agg (zX t h ices ab cab ad cad ah cah ai cai az caz).toArray)) rfl rfl (zO rfl (j:=0) rfl) rfl ?_
    refine Ro.q (v:=(i 0)) rfl rfl (zO rfl (j:=1) rfl) rfl ?_
    refine Ro.d rfl rfl rfl (H.new (l:=zuC) rfl zv116 rfl ?_)
    intro b10 w11 Hn;replace H:=Hn;clear Hn
    refine Ro.d0 rfl rfl rfl (H.store (j:=0) (off:=0) (k:=15) rfl sz116 rfl (v:=(.agg (zX t h ices ab cab ad cad ah cah ai cai az caz).toArray)) rfl rfl rfl rfl rfl (by simp [Value.oneCell']) (cs':=(zX t h ices ab cab ad cad ah cah ai cai az caz)) rfl ?_)
    intro w12 Hn;replace H:=Hn;clear Hn
    refine Ro.q (v:=(i 0)) rfl rfl (zD rfl) rfl ?_
    refine Ro.nil (nT (Wp.seq (Wp.block (Wp.seq (Wp.region ?_)))))
    refine Ro.q (v:=(i 0)) rfl rfl (zB rfl) rfl ?_
    refine Ro.q (v:=(.bool false)) rfl rfl (Runs.to (vW rfl rfl) (by rfl)) rfl ?_
    refine Ro.q (v:=(.bool false)) rfl rfl (zD rfl) rfl ?_
    refine Ro.nil (nT ?_)
    refine Wp.condF rfl ?_
    refine Wp.seq (Wp.region ?_)
    refine Ro.q (v:=(i most)) rfl rfl (zB rfl) rfl ?_
    refine Ro.q rfl rfl (yB rfl rfl) rfl ?_
    refine Ro.q (v:=(.bool (decide (most<0)))) rfl rfl (zD rfl) rfl ?_
    refine Ro.nil (nT ?_)
    refine Wp.cond (t:=decide (most<0)) rfl ?_ ?_
    · intro c13
      have c13r:=c13
      simp only [bx] at c13
      refine Wp.seq (Wp.region ?_)
      refine Ro.q (v:=(.agg (zuC).toArray)) rfl rfl (zP (v:=(.agg (zuC).toArray)) pn (fun w=>by kernel_rfl)) rfl ?_
      refine Ro.d0 rfl rfl rfl (H.store (j:=2) (off:=0) (k:=15) rfl sz116 rfl (v:=(.agg (zuC).toArray)) rfl rfl rfl rfl rfl (by simp [Value.oneCell']) (cs':=zuC) rfl ?_)
      intro w14 Hn;replace H:=Hn;clear Hn
      refine Ro.q (v:=(i 2)) rfl rfl (zD rfl) rfl ?_
      refine Ro.nil (nT (Wp.ret (rB (rT (zN ?_)))))
      refine zT (vs:=zuC) (v:=(i 2)) Tryz.results58 rfl ta116 (H.cells 2 rfl) rfl rfl ⟨H.keep,?_⟩
      have e:=acc_neg hk c13
      exact .inr ⟨by rw [e];decide,by rw [e]⟩
    intro c13
    have c13r:=c13
    simp only [bx] at c13
    refine Wp.skip (nB (nT (Wp.seq ?_)))
    refine Wp.drawnS 4 [0,0,0,6,15,31] [is (.agg (zX t h ices ab cab ad cad ah cah ai cai az caz).toArray),is (.agg (zX t h ices ab cab ad cad ah cah ai cai az caz).toArray),is (.agg (rdC x).toArray),is (i (vE t h ices x))] (by kernel_rfl) (by kernel_rfl) rfl (Mi (Mi (Mi (Mi Mono.nil)))) (fun w' k=>H.ext k) ?_ ?_
    · refine ⟨?_,?_,?_,?_,trivial⟩
      · exact Ob.q rfl (fun _ _ B U D=>(zJ ta116 (show (_:Value)=(p b10 0) from U 12 rfl) (B.cells 0 rfl) (j:=0) rfl (vs:=(zX t h ices ab cab ad cad ah cah ai cai az caz)) rfl rfl)) rfl rfl
      · exact Ob.q rfl (fun _ _ B U D=>(zJ ta116 (show (_:Value)=(p b10 0) from U 12 rfl) (B.cells 0 rfl) (j:=0) rfl (vs:=(zX t h ices ab cab ad cad ah cah ai cai az caz)) rfl rfl)) rfl rfl
      · exact Ob.q rfl (fun _ _ B U D=>(zJ ta52 (show (_:Value)=(p b3 0) from U 8 rfl) (B.cells 3 rfl) (j:=0) rfl (vs:=(rdC x)) rfl rfl)) rfl rfl
      · exact Ob.mk rfl fun ρ' w' B U D=>zH rfl en81 (ce (v:=(.agg (zX t h ices ab cab ad cad ah cah ai cai az caz).toArray)) (D 1 rfl) (ce (v:=(.agg (rdC x).toArray)) (D 2 rfl) cn)) (c81 (x:=x) _ (hab.ext B.keep) (had.ext B.keep) (hah.ext B.keep) (hai.ext B.keep) ((hz _ (B.at 1 rfl))) (by omega) hic (by omega) (by omega)) (fun u w2 k2 hu=>⟨k2,hu⟩)
    intro ρ15 w16 k17 U18 D19;replace H:=H.ext k17
    have f20:ρ15 10=(p b5 0):=U18 10 rfl
    have f22:ρ15 31=(.agg (zX t h ices ab cab ad cad ah cah ai cai az caz).toArray):=D19 0 rfl
    have f23:ρ15 34=(i (vE t h ices x)):=D19 3 rfl
    clear U18 D19 k17
    refine Ro.d0 rfl rfl rfl (H.store (j:=2) (off:=0) (k:=15) rfl sz116 f20 (v:=(.agg (zX t h ices ab cab ad cad ah cah ai cai az caz).toArray)) f22 rfl rfl rfl rfl (by simp [Value.oneCell']) (cs':=(zX t h ices ab cab ad cad ah cah ai cai az caz)) rfl ?_)
    intro w24 Hn;replace H:=Hn;clear Hn
    refine Ro.q (v:=(i (vE t h ices x))) rfl rfl (zD f23) rfl ?_
    refine Ro.nil (nT (Wp.ret (zN ?_)))
    refine zT (vs:=(zX t h ices ab cab ad cad ah cah ai cai az caz)) (v:=(i (vE t h ices x))) Tryz.results58 f20 ta116 (H.cells 2 rfl) rfl rfl ⟨H.keep,?_⟩
    have e:=acc_ref hk (most:=most) (by omega)
    exact .inl ⟨⟨hk,by omega⟩,az,caz,b,ob,by rw [e],H.one 1 rfl,hz⟩
  · skip
    replace H:=H.ext k8
    refine Ro.q (v:=(.tuple #[(.agg (zuC).toArray),(i (yY t h ices x))])) rfl rfl (zB rfl) rfl ?_
    refine Ro.q (v:=(.agg (zuC).toArray)) rfl rfl (zO rfl (j:=0) rfl) rfl ?_
    refine Ro.q (v:=(i (yY t h ices x))) rfl rfl (zO rfl (j:=1) rfl) rfl ?_
    refine Ro.d rfl rfl rfl (H.new (l:=zuC) rfl zv116 rfl ?_)
    intro b25 w26 Hn;replace H:=Hn;clear Hn
    refine Ro.d0 rfl rfl rfl (H.store (j:=0) (off:=0) (k:=15) rfl sz116 rfl (v:=(.agg (zuC).toArray)) rfl rfl rfl rfl rfl (by simp [Value.oneCell']) (cs':=zuC) rfl ?_)
    intro w27 Hn;replace H:=Hn;clear Hn
    refine Ro.q (v:=(i (yY t h ices x))) rfl rfl (zD rfl) rfl ?_
    refine Ro.nil (nT (Wp.seq (Wp.block (Wp.seq (Wp.region ?_)))))
    refine Ro.q (v:=(i (yY t h ices x))) rfl rfl (zB rfl) rfl ?_
    refine Ro.q rfl rfl (vW rfl rfl) rfl ?_
    refine Ro.q (v:=(.bool (decide ((yY t h ices x)≠0)))) rfl rfl (zD rfl) rfl ?_
    refine Ro.nil (nT ?_)
    refine Wp.condT (show ev _ _ _=_ from congrArg Value.bool (show decide ((yY t h ices x)≠0)=true by exact decide_eq_true hk)) ?_
    refine Wp.seq (Wp.region ?_)
    refine Ro.q (v:=(.agg (zuC).toArray)) rfl rfl (zP (v:=(.agg (zuC).toArray)) pn (fun w=>by kernel_rfl)) rfl ?_
    refine Ro.q (v:=(i (yY t h ices x))) rfl rfl (zB rfl) rfl ?_
    refine Ro.d0 rfl rfl rfl (H.store (j:=1) (off:=0) (k:=15) rfl sz116 rfl (v:=(.agg (zuC).toArray)) rfl rfl rfl rfl rfl (by simp [Value.oneCell']) (cs':=zuC) rfl ?_)
    intro w29 Hn;replace H:=Hn;clear Hn
    refine Ro.q (v:=(i (yY t h ices x))) rfl rfl (zD rfl) rfl ?_
    refine Ro.nil (nT (Wp.ret (rB (rT (zN ?_)))))
    refine zT (vs:=zuC) (v:=(i (yY t h ices x))) Tryz.results58 rfl ta116 (H.cells 1 rfl) rfl rfl ⟨H.keep,?_⟩
    have e:=acc_ask (most:=most) hk
    exact .inr ⟨by rw [e];exact hk,by rw [e]⟩
  · skip
    replace H:=H.ext k8
    refine Ro.q (v:=(.tuple #[(.agg (zX t h ices ab cab ad cad ah cah ai cai az caz).toArray),(i (yY t h ices x))])) rfl rfl (zB rfl) rfl ?_
    refine Ro.q (v:=(.agg (zX t h ices ab cab ad cad ah cah ai cai az caz).toArray)) rfl rfl (zO rfl (j:=0) rfl) rfl ?_
    refine Ro.q (v:=(i (yY t h ices x))) rfl rfl (zO rfl (j:=1) rfl) rfl ?_
    refine Ro.d rfl rfl rfl (H.new (l:=zuC) rfl zv116 rfl ?_)
    intro b30 w31 Hn;replace H:=Hn;clear Hn
    refine Ro.d0 rfl rfl rfl (H.store (j:=0) (off:=0) (k:=15) rfl sz116 rfl (v:=(.agg (zX t h ices ab cab ad cad ah cah ai cai az caz).toArray)) rfl rfl rfl rfl rfl (by simp [Value.oneCell']) (cs':=(zX t h ices ab cab ad cad ah cah ai cai az caz)) rfl ?_)
    intro w32 Hn;replace H:=Hn;clear Hn
    refine Ro.q (v:=(i (yY t h ices x))) rfl rfl (zD rfl) rfl ?_
    refine Ro.nil (nT (Wp.seq (Wp.block (Wp.seq (Wp.region ?_)))))
    refine Ro.q (v:=(i (yY t h ices x))) rfl rfl (zB rfl) rfl ?_
    refine Ro.q rfl rfl (vW rfl rfl) rfl ?_
    refine Ro.q (v:=(.bool (decide ((yY t h ices x)≠0)))) rfl rfl (zD rfl) rfl ?_
    refine Ro.nil (nT ?_)
    refine Wp.condT (show ev _ _ _=_ from congrArg Value.bool (show decide ((yY t h ices x)≠0)=true by exact decide_eq_true hk)) ?_
    refine Wp.seq (Wp.region ?_)
    refine Ro.q (v:=(.agg (zuC).toArray)) rfl rfl (zP (v:=(.agg (zuC).toArray)) pn (fun w=>by kernel_rfl)) rfl ?_
    refine Ro.q (v:=(i (yY t h ices x))) rfl rfl (zB rfl) rfl ?_
    refine Ro.d0 rfl rfl rfl (H.store (j:=1) (off:=0) (k:=15) rfl sz116 rfl (v:=(.agg (zuC).toArray)) rfl rfl rfl rfl rfl (by simp [Value.oneCell']) (cs':=zuC) rfl ?_)
    intro w34 Hn;replace H:=Hn;clear Hn
    refine Ro.q (v:=(i (yY t h ices x))) rfl rfl (zD rfl) rfl ?_
    refine Ro.nil (nT (Wp.ret (rB (rT (zN ?_)))))
    refine zT (vs:=zuC) (v:=(i (yY t h ices x))) Tryz.results58 rfl ta116 (H.cells 1 rfl) rfl rfl ⟨H.keep,?_⟩
    have e:=acc_ask (most:=most) hk
    exact .inr ⟨by rw [e];exact hk,by rw [e]⟩
theorem c48 {t:Tb} {ab ad ah ai:Option Addr} {h:List Rg} {ices:List Ice} {cab cad cah cai:Nat} {x:Rdg} {most:Int} (w:World) (hab:Sl w 3 (t.bs.map yH) ab) (had:Sl w 2 (t.dl.map zZ) ad) (hah:Sl w 2 (h.map rgV) ah) (hai:Sl w 3 (ices.map iceV) ai) (hhl:h.length≤4611686018427387904) (hil:ices.length≤4611686018427387904):Rv Tryz.prog 48 [(.agg (tbC t ab cab ad cad).toArray),(.slice ah h.length cah),(.slice ai ices.length cai),(.agg (rdC x).toArray),(i most)] w (.tuple #[.agg #[i (yA t h ices x most).lo,i (yA t h ices x most).hi],i (uC t h ices x most)]):=by
  refine Ret.body (N:=37) Tryz.func48 rfl Tryz.ntmps48 rfl ?_
  have H:=S.start Nm w
  refine Wp.seq (Wp.region ?_)
  refine Ro.d rfl rfl rfl (H.box (l:=(tbC t ab cab ad cad)) rfl (v:=(.agg (tbC t ab cab ad cad).toArray)) rfl rfl ?_)
  intro b1 w2 Hn;replace H:=Hn;clear Hn
  refine Ro.d rfl rfl rfl (H.box (l:=(rdC x)) rfl (v:=(.agg (rdC x).toArray)) rfl rfl ?_)
  intro b3 w4 Hn;replace H:=Hn;clear Hn
  refine Ro.d rfl rfl rfl (H.new (l:=[i 0,i 0]) rfl zv41 rfl ?_)
  intro b5 w6 Hn;replace H:=Hn;clear Hn
  refine Ro.q (v:=(i 0)) rfl rfl (zD rfl) rfl ?_
  refine Ro.nil (nT (Wp.seq (Wp.region ?_)))
  refine Ro.q rfl rfl (zJ ta45 rfl (H.cells 2 rfl) (j:=0) rfl (vs:=(tbC t ab cab ad cad)) rfl rfl) rfl ?_
  refine Ro.q (v:=(.slice ah h.length cah)) rfl rfl (zB rfl) rfl ?_
  refine Ro.q (v:=(.slice ai ices.length cai)) rfl rfl (zB rfl) rfl ?_
  refine Ro.q rfl rfl (zJ ta52 rfl (H.cells 1 rfl) (j:=0) rfl (vs:=(rdC x)) rfl rfl) rfl ?_
  refine Ro.q (v:=(i most)) rfl rfl (zB rfl) rfl ?_
  refine Ro.d rfl rfl rfl (zH rfl en58 (ce (v:=(.agg (tbC t ab cab ad cad).toArray)) rfl (ce (v:=(.slice ah h.length cah)) rfl (ce (v:=(.slice ai ices.length cai)) rfl (ce (v:=(.agg (rdC x).toArray)) rfl (ce (v:=(i most)) rfl cn))))) (c58 _ (hab.ext H.keep) (had.ext H.keep) (hah.ext H.keep) (hai.ext H.keep) hhl hil) ?_)
  have Hc9:=H
  rintro u w7 k8 (⟨hk2,az,caz,b,ob,rfl,hS,hz⟩ | ⟨hn,rfl⟩)
  · skip
    replace H:=H.ext k8
    replace H:S Nm w [(b,ob),(b5,.cells [i 0,i 0].toArray 41 (0,0)),(b3,.cells (rdC x).toArray 52 (0,0)),(b1,.cells (tbC t ab cab ad cad).toArray 45 (0,0))] w7:=Hc9.join hS
    have hk:=hk2.1
    have G:=ask_Good hk
    have hrd:=G.rd
    have htb:=G.tb
    have hhl16:=G.hi.len
    have hh0:=G.hi.pos
    have hdy:=G.day
    have hic : ∀ i∈ices,0≤i.day∧i.day≤100:=fun i hi=>by have:=(G.ic.each i hi).1;omega
    have hil8:=G.ic.len
    refine Ro.q (v:=(.tuple #[(.agg (zX t h ices ab cab ad cad ah cah ai cai az caz).toArray),(i (vV t h ices x most))])) rfl rfl (zB rfl) rfl ?_
    refine Ro.q (v:=(.agg (zX t h ices ab cab ad cad ah cah ai cai az caz).toArray)) rfl rfl (zO rfl (j:=0) rfl) rfl ?_
    refine Ro.q (v:=(i (vV t h ices x most))) rfl rfl (zO rfl (j:=1) rfl) rfl ?_
    refine Ro.d rfl rfl rfl (H.new (l:=zuC) rfl zv116 rfl ?_)
    intro b10 w11 Hn;replace H:=Hn;clear Hn
    refine Ro.d0 rfl rfl rfl (H.store (j:=0) (off:=0) (k:=15) rfl sz116 rfl (v:=(.agg (zX t h ices ab cab ad cad ah cah ai cai az caz).toArray)) rfl rfl rfl rfl rfl (by simp [Value.oneCell']) (cs':=(zX t h ices ab cab ad cad ah cah ai cai az caz)) rfl ?_)
    intro w12 Hn;replace H:=Hn;clear Hn
    refine Ro.q (v:=(i (vV t h ices x most))) rfl rfl (zD rfl) rfl ?_
    refine Ro.nil (nT (Wp.seq (Wp.seq (Wp.region ?_))))
    refine Ro.q (v:=(i (vV t h ices x most))) rfl rfl (zB rfl) rfl ?_
    refine Ro.q rfl rfl (vW rfl rfl) rfl ?_
    refine Ro.nil (nT ?_)
    refine Wp.cond (t:=decide ((vV t h ices x most)≠0)) rfl ?_ ?_
    · intro c13
      have c13r:=c13
      simp only [bx] at c13
      refine Wp.seq (Wp.region ?_)
      refine Ro.q (v:=(.agg #[(i 0),(i 0)])) rfl rfl (zP (v:=(.agg #[(i 0),(i 0)])) pn (fun w=>by kernel_rfl)) rfl ?_
      refine Ro.q (v:=(i (vV t h ices x most))) rfl rfl (zB rfl) rfl ?_
      refine Ro.d0 rfl rfl rfl (H.store (j:=2) (off:=0) (k:=2) rfl sz41 rfl (v:=(.agg #[(i 0),(i 0)])) rfl rfl rfl rfl rfl (by simp [Value.oneCell']) (cs':=[i 0,i 0]) rfl ?_)
      intro w14 Hn;replace H:=Hn;clear Hn
      refine Ro.q (v:=(i (vV t h ices x most))) rfl rfl (zD rfl) rfl ?_
      refine Ro.nil (nT (Wp.ret (rT (zN ?_))))
      refine zT (vs:=[i 0,i 0]) (v:=(i (vV t h ices x most))) Tryz.results48 rfl vL (H.cells 2 rfl) rfl rfl ⟨H.keep,?_⟩
      have e:=acp_bad c13
      rw [e.1,e.2]
    intro c13
    have c13r:=c13
    simp only [bx] at c13
    have h0:(vV t h ices x most)=0:=by omega
    have ha:=(refE_zero ((acc_ref hk hk2.2).symm.trans h0)).2.2
    have hci:=corR_in G ha
    refine Wp.skip (nT (Wp.seq (Wp.region ?_)))
    refine Ro.q rfl rfl (zJ ta116 rfl (H.cells 0 rfl) (j:=0) rfl (vs:=(zX t h ices ab cab ad cad ah cah ai cai az caz)) rfl rfl) rfl ?_
    refine Ro.q rfl rfl (zJ ta52 rfl (H.cells 3 rfl) (j:=0) rfl (vs:=(rdC x)) rfl rfl) rfl ?_
    refine Ro.d rfl rfl rfl (zH rfl en60 (ce (v:=(.agg (zX t h ices ab cab ad cad ah cah ai cai az caz).toArray)) rfl (ce (v:=(.agg (rdC x).toArray)) rfl cn)) (c60 (x:=x) _ (hab.ext H.keep) (had.ext H.keep) (hah.ext H.keep) (hai.ext H.keep) ((hz _ (H.at 1 rfl))) G ha) ?_)
    intro u w15 k16 hu;subst hu;replace H:=H.ext k16
    clear k16
    refine Ro.d rfl rfl rfl (H.new (l:=[i 0,i 0]) rfl zv41 rfl ?_)
    intro b17 w18 Hn;replace H:=Hn;clear Hn
    refine Ro.d0 rfl rfl rfl (H.store (j:=0) (off:=0) (k:=2) rfl sz41 rfl (v:=(.agg #[(i ((yR t h ices x).lo)),(i ((yR t h ices x).hi))])) rfl rfl rfl rfl rfl (by simp [Value.oneCell']) (cs':=[i ((yR t h ices x).lo),i ((yR t h ices x).hi)]) rfl ?_)
    intro w19 Hn;replace H:=Hn;clear Hn
    refine Ro.nil (nT (Wp.seq (Wp.seq (Wp.region ?_))))
    refine Ro.q (v:=(i most)) rfl rfl (zB rfl) rfl ?_
    refine Ro.q rfl rfl (zJ vL rfl (H.cells 0 rfl) (j:=0) rfl (vs:=[i ((yR t h ices x).lo),i ((yR t h ices x).hi)]) rfl rfl) rfl ?_
    refine Ro.d rfl rfl rfl (zH rfl en59 (ce (v:=(i most)) rfl (ce (v:=(.agg #[(i ((yR t h ices x).lo)),(i ((yR t h ices x).hi))])) rfl cn)) (c59 most ((yR t h ices x).lo) ((yR t h ices x).hi) _ (by omega)) ?_)
    intro u w20 k21 hu;subst hu;replace H:=H.ext k21
    clear k21
    refine Ro.q rfl rfl (yN rfl) rfl ?_
    refine Ro.nil (nT ?_)
    refine Wp.cond (t:=!(decide (((yR t h ices x).hi)-((yR t h ices x).lo)≤most))) rfl ?_ ?_
    · intro c22
      have c22r:=c22
      simp only [bx] at c22
      refine Wp.seq (Wp.region ?_)
      refine Ro.q (v:=(.agg #[(i 0),(i 0)])) rfl rfl (zP (v:=(.agg #[(i 0),(i 0)])) pn (fun w=>by kernel_rfl)) rfl ?_
      refine Ro.d0 rfl rfl rfl (H.store (j:=3) (off:=0) (k:=2) rfl sz41 rfl (v:=(.agg #[(i 0),(i 0)])) rfl rfl rfl rfl rfl (by simp [Value.oneCell']) (cs':=[i 0,i 0]) rfl ?_)
      intro w23 Hn;replace H:S Nm w [(b17,.cells [i ((yR t h ices x).lo),i ((yR t h ices x).hi)].toArray 41 (0,0)),(b10,.cells (zX t h ices ab cab ad cad ah cah ai cai az caz).toArray 116 (0,0)),(b,ob),(b5,.cells [i 0,i 0].toArray 41 (0,0)),(b3,.cells (rdC x).toArray 52 (0,0)),(b1,.cells (tbC t ab cab ad cad).toArray 45 (0,0))] w23:=Hn;clear Hn
      refine Ro.q (v:=(i 10)) rfl rfl (zD rfl) rfl ?_
      refine Ro.nil (nT (Wp.ret (rT (zN ?_))))
      refine zT (vs:=[i 0,i 0]) (v:=(i 10)) Tryz.results48 rfl vL (H.cells 3 rfl) rfl rfl ⟨H.keep,?_⟩
      have e:=acp_wide h0 c22
      rw [e.1,e.2]
    intro c22
    have c22r:=c22
    simp only [bx] at c22
    refine Wp.skip (nT (Wp.seq (Wp.region ?_)))
    refine Ro.q rfl rfl (zJ vL rfl (H.cells 0 rfl) (j:=0) rfl (vs:=[i ((yR t h ices x).lo),i ((yR t h ices x).hi)]) rfl rfl) rfl ?_
    refine Ro.d0 rfl rfl rfl (H.store (j:=3) (off:=0) (k:=2) rfl sz41 rfl (v:=(.agg #[(i ((yR t h ices x).lo)),(i ((yR t h ices x).hi))])) rfl rfl rfl rfl rfl (by simp [Value.oneCell']) (cs':=[i ((yR t h ices x).lo),i ((yR t h ices x).hi)]) rfl ?_)
    intro w24 Hn;replace H:S Nm w [(b17,.cells [i ((yR t h ices x).lo),i ((yR t h ices x).hi)].toArray 41 (0,0)),(b10,.cells (zX t h ices ab cab ad cad ah cah ai cai az caz).toArray 116 (0,0)),(b,ob),(b5,.cells [i ((yR t h ices x).lo),i ((yR t h ices x).hi)].toArray 41 (0,0)),(b3,.cells (rdC x).toArray 52 (0,0)),(b1,.cells (tbC t ab cab ad cad).toArray 45 (0,0))] w24:=Hn;clear Hn
    refine Ro.q (v:=(i 0)) rfl rfl (zD rfl) rfl ?_
    refine Ro.nil (nT (Wp.ret (zN ?_)))
    refine zT (vs:=[i ((yR t h ices x).lo),i ((yR t h ices x).hi)]) (v:=(i 0)) Tryz.results48 rfl vL (H.cells 3 rfl) rfl rfl ⟨H.keep,?_⟩
    have e:=acp_good h0 c22
    rw [e.1,e.2]
  · skip
    replace H:=H.ext k8
    refine Ro.q (v:=(.tuple #[(.agg (zuC).toArray),(i (vV t h ices x most))])) rfl rfl (zB rfl) rfl ?_
    refine Ro.q (v:=(.agg (zuC).toArray)) rfl rfl (zO rfl (j:=0) rfl) rfl ?_
    refine Ro.q (v:=(i (vV t h ices x most))) rfl rfl (zO rfl (j:=1) rfl) rfl ?_
    refine Ro.d rfl rfl rfl (H.new (l:=zuC) rfl zv116 rfl ?_)
    intro b25 w26 Hn;replace H:=Hn;clear Hn
    refine Ro.d0 rfl rfl rfl (H.store (j:=0) (off:=0) (k:=15) rfl sz116 rfl (v:=(.agg (zuC).toArray)) rfl rfl rfl rfl rfl (by simp [Value.oneCell']) (cs':=zuC) rfl ?_)
    intro w27 Hn;replace H:=Hn;clear Hn
    refine Ro.q (v:=(i (vV t h ices x most))) rfl rfl (zD rfl) rfl ?_
    refine Ro.nil (nT (Wp.seq (Wp.seq (Wp.region ?_))))
    refine Ro.q (v:=(i (vV t h ices x most))) rfl rfl (zB rfl) rfl ?_
    refine Ro.q rfl rfl (vW rfl rfl) rfl ?_
    refine Ro.nil (nT ?_)
    refine Wp.condT (show ev _ _ _=_ from congrArg Value.bool (show decide ((vV t h ices x most)≠0)=true by exact decide_eq_true hn)) ?_
    refine Wp.seq (Wp.region ?_)
    refine Ro.q (v:=(.agg #[(i 0),(i 0)])) rfl rfl (zP (v:=(.agg #[(i 0),(i 0)])) pn (fun w=>by kernel_rfl)) rfl ?_
    refine Ro.q (v:=(i (vV t h ices x most))) rfl rfl (zB rfl) rfl ?_
    refine Ro.d0 rfl rfl rfl (H.store (j:=1) (off:=0) (k:=2) rfl sz41 rfl (v:=(.agg #[(i 0),(i 0)])) rfl rfl rfl rfl rfl (by simp [Value.oneCell']) (cs':=[i 0,i 0]) rfl ?_)
    intro w29 Hn;replace H:=Hn;clear Hn
    refine Ro.q (v:=(i (vV t h ices x most))) rfl rfl (zD rfl) rfl ?_
    refine Ro.nil (nT (Wp.ret (rT (zN ?_))))
    refine zT (vs:=[i 0,i 0]) (v:=(i (vV t h ices x most))) Tryz.results48 rfl vL (H.cells 1 rfl) rfl rfl ⟨H.keep,?_⟩
    have e:=acp_bad hn
    rw [e.1,e.2]
theorem c17 {t:Tb} {ab ad ah ai:Option Addr} {h:List Rg} {ices:List Ice} {cab cad cah cai:Nat} {x:Rdg} {most:Int} (w:World) (hab:Sl w 3 (t.bs.map yH) ab) (had:Sl w 2 (t.dl.map zZ) ad) (hah:Sl w 2 (h.map rgV) ah) (hai:Sl w 3 (ices.map iceV) ai) (hhl:h.length≤4611686018427387904) (hil:ices.length≤4611686018427387904):Rv Tryz.prog 17 [(.agg (tbC t ab cab ad cad).toArray),(.slice ah h.length cah),(.slice ai ices.length cai),(.agg (rdC x).toArray),(i most)] w (.tuple #[i (braN t h ices x most),i (braE t h ices x most)]):=by
  refine Ret.body (N:=46) Tryz.func17 rfl Tryz.ntmps17 rfl ?_
  have H:=S.start Nm w
  refine Wp.seq (Wp.region ?_)
  refine Ro.d rfl rfl rfl (H.box (l:=(tbC t ab cab ad cad)) rfl (v:=(.agg (tbC t ab cab ad cad).toArray)) rfl rfl ?_)
  intro b1 w2 Hn;replace H:=Hn;clear Hn
  refine Ro.d rfl rfl rfl (H.box (l:=(rdC x)) rfl (v:=(.agg (rdC x).toArray)) rfl rfl ?_)
  intro b3 w4 Hn;replace H:=Hn;clear Hn
  refine Ro.q (v:=(i 0)) rfl rfl (zD rfl) rfl ?_
  refine Ro.q (v:=(i 0)) rfl rfl (zD rfl) rfl ?_
  refine Ro.nil (nT (Wp.scope (Wp.seq (Wp.region ?_))))
  refine Ro.q rfl rfl (zJ ta45 rfl (H.cells 1 rfl) (j:=0) rfl (vs:=(tbC t ab cab ad cad)) rfl rfl) rfl ?_
  refine Ro.q (v:=(.slice ah h.length cah)) rfl rfl (zB rfl) rfl ?_
  refine Ro.q (v:=(.slice ai ices.length cai)) rfl rfl (zB rfl) rfl ?_
  refine Ro.q rfl rfl (zJ ta52 rfl (H.cells 0 rfl) (j:=0) rfl (vs:=(rdC x)) rfl rfl) rfl ?_
  refine Ro.q (v:=(i most)) rfl rfl (zB rfl) rfl ?_
  refine Ro.d rfl rfl rfl (zH rfl en58 (ce (v:=(.agg (tbC t ab cab ad cad).toArray)) rfl (ce (v:=(.slice ah h.length cah)) rfl (ce (v:=(.slice ai ices.length cai)) rfl (ce (v:=(.agg (rdC x).toArray)) rfl (ce (v:=(i most)) rfl cn))))) (c58 _ (hab.ext H.keep) (had.ext H.keep) (hah.ext H.keep) (hai.ext H.keep) hhl hil) ?_)
  have Hc7:=H
  rintro u w5 k6 (⟨hk2,az,caz,b,ob,rfl,hS,hz⟩ | ⟨hn,rfl⟩)
  · skip
    replace H:=H.ext k6
    replace H:S Nm w [(b,ob),(b3,.cells (rdC x).toArray 52 (0,0)),(b1,.cells (tbC t ab cab ad cad).toArray 45 (0,0))] w5:=Hc7.join hS
    have hk:=hk2.1
    have G:=ask_Good hk
    have hrd:=G.rd
    have htb:=G.tb
    have hhl16:=G.hi.len
    have hh0:=G.hi.pos
    have hdy:=G.day
    have hic : ∀ i∈ices,0≤i.day∧i.day≤100:=fun i hi=>by have:=(G.ic.each i hi).1;omega
    have hil8:=G.ic.len
    refine Ro.q (v:=(.tuple #[(.agg (zX t h ices ab cab ad cad ah cah ai cai az caz).toArray),(i (vV t h ices x most))])) rfl rfl (zB rfl) rfl ?_
    refine Ro.q (v:=(.agg (zX t h ices ab cab ad cad ah cah ai cai az caz).toArray)) rfl rfl (zO rfl (j:=0) rfl) rfl ?_
    refine Ro.q (v:=(i (vV t h ices x most))) rfl rfl (zO rfl (j:=1) rfl) rfl ?_
    refine Ro.d rfl rfl rfl (H.new (l:=zuC) rfl zv116 rfl ?_)
    intro b8 w9 Hn;replace H:=Hn;clear Hn
    refine Ro.d0 rfl rfl rfl (H.store (j:=0) (off:=0) (k:=15) rfl sz116 rfl (v:=(.agg (zX t h ices ab cab ad cad ah cah ai cai az caz).toArray)) rfl rfl rfl rfl rfl (by simp [Value.oneCell']) (cs':=(zX t h ices ab cab ad cad ah cah ai cai az caz)) rfl ?_)
    intro w10 Hn;replace H:=Hn;clear Hn
    refine Ro.q (v:=(i (vV t h ices x most))) rfl rfl (zD rfl) rfl ?_
    refine Ro.nil (nT (Wp.seq (Wp.seq (Wp.region ?_))))
    refine Ro.q (v:=(i (vV t h ices x most))) rfl rfl (zB rfl) rfl ?_
    refine Ro.q rfl rfl (vW rfl rfl) rfl ?_
    refine Ro.nil (nT ?_)
    refine Wp.cond (t:=decide ((vV t h ices x most)≠0)) rfl ?_ ?_
    · intro c11
      have c11r:=c11
      simp only [bx] at c11
      refine Wp.seq (Wp.region ?_)
      refine Ro.q (v:=(i (vV t h ices x most))) rfl rfl (zB rfl) rfl ?_
      refine Ro.q (v:=(i 0)) rfl rfl (zD rfl) rfl ?_
      refine Ro.q (v:=(i (vV t h ices x most))) rfl rfl (zD rfl) rfl ?_
      refine Ro.nil (nT (Wp.ret (rT (rG (zN ?_)))))
      refine vT (v:=(i 0)) (v':=(i (vV t h ices x most))) Tryz.results17 rfl rfl ⟨H.keep,?_⟩
      have e:=bra_bad c11
      rw [e.1,e.2]
    intro c11
    have c11r:=c11
    simp only [bx] at c11
    have h0:(vV t h ices x most)=0:=by omega
    have ha:=(refE_zero ((acc_ref hk hk2.2).symm.trans h0)).2.2
    have hci:=corR_in G ha
    refine Wp.skip (nT (Wp.seq (Wp.region ?_)))
    refine Ro.q (v:=(i most)) rfl rfl (zB rfl) rfl ?_
    refine Ro.q (v:=(.func (.func 59) #[(i most)] #[])) rfl rfl (uH (ce (v:=(i most)) rfl cn) cn) rfl ?_
    refine Ro.q (v:=(.func (.func 59) #[(i most)] #[])) rfl rfl (zD rfl) rfl ?_
    refine Ro.nil (nT (Wp.seq (Wp.region ?_)))
    refine Ro.q (v:=(i (-1))) rfl rfl (zD rfl) rfl ?_
    refine Ro.nil (nT (Wp.seq (Wp.label (nT (Wp.seq (Wp.seq (Wp.region ?_)))))))
    refine Ro.q (v:=(i 300)) rfl rfl (zD rfl) rfl ?_
    refine Ro.nil (nT (Wp.block ?_))
    refine Wp.loop (fun kM ds ρ w'=>∃ n:Int,∃ bz:Int,ds=[]∧(-1≤n∧n≤300)∧kM=(n+1:Int).toNat∧ρ 8=(p b3 0)∧ρ 10=(i 0)∧ρ 11=(i 0)∧ρ 12=(p b8 0)∧ρ 14=(.func (.func 59) #[(i most)] #[])∧ρ 16=(i n)∧ρ 15=(i (-1))∧S Nm w [(b8,.cells (zX t h ices ab cab ad cad ah cah ai cai az caz).toArray 116 (0,0)),(b,ob),(b3,.cells [i x.day,i x.shown,i x.err,i bz,i x.alo,i x.ahi,i x.rlo,i x.rhi,i x.deep,.bool x.broken].toArray 52 (0,0)),(b1,.cells (tbC t ab cab ad cad).toArray 45 (0,0))] w'∧(BareAt (bareN t h ices x most) (sureB t h ices x most) n)) ((300+1:Int).toNat) ⟨300,x.bare,rfl,(by omega),rfl,rfl,rfl,rfl,rfl,rfl,rfl,rfl,H,BareAt.start⟩ ?_
    clear H
    intro kρ19 dsρ19 ρ19 w20
    rintro ⟨n,bz,rfl,hb22,hk21,f12,f13,f14,f15,f16,f17,f18,H,hi23⟩
    refine Wp.seq (Wp.seq (Wp.region ?_))
    refine Ro.q (v:=(i n)) rfl rfl (zB f17) rfl ?_
    refine Ro.q rfl rfl (r_geq rfl rfl) rfl ?_
    refine Ro.nil (nT ?_)
    refine Wp.cond (t:=decide (0≤n)) rfl ?_ ?_
    · intro c24
      have c24r:=c24
      simp only [bx] at c24
      have Gn:=G.bared (n:=n) (by omega)
      have hcn:=corR_in Gn ha
      refine Wp.skip (nT (Wp.seq (Wp.block (Wp.seq (Wp.region ?_)))))
      refine Ro.q (v:=(i n)) rfl rfl (zB f17) rfl ?_
      refine Ro.q (v:=(p b3 3)) rfl rfl (zA fo52_3 f12 rfl) rfl ?_
      refine Ro.d0 rfl rfl rfl (H.store (j:=2) (off:=3) (k:=1) rfl sz3 rfl (v:=(i n)) rfl rfl rfl rfl rfl (by simp [Value.oneCell']) (cs':=[i x.day,i x.shown,i x.err,i n,i x.alo,i x.ahi,i x.rlo,i x.rhi,i x.deep,.bool x.broken]) rfl ?_)
      intro w25 Hn;replace H:=Hn;clear Hn
      refine Ro.nil (nT (Wp.seq (Wp.region ?_)))
      refine Ro.q (v:=(.func (.func 59) #[(i most)] #[])) rfl rfl (zB f16) rfl ?_
      refine Ro.q rfl rfl (zJ ta116 f15 (H.cells 0 rfl) (j:=0) rfl (vs:=(zX t h ices ab cab ad cad ah cah ai cai az caz)) rfl rfl) rfl ?_
      refine Ro.q rfl rfl (zJ ta52 f12 (H.cells 2 rfl) (j:=0) rfl (vs:=[i x.day,i x.shown,i x.err,i n,i x.alo,i x.ahi,i x.rlo,i x.rhi,i x.deep,.bool x.broken]) rfl rfl) rfl ?_
      refine Ro.d rfl rfl rfl (zH rfl en60 (ce (v:=(.agg (zX t h ices ab cab ad cad ah cah ai cai az caz).toArray)) rfl (ce (v:=(.agg #[(i x.day),(i x.shown),(i x.err),(i n),(i x.alo),(i x.ahi),(i x.rlo),(i x.rhi),(i x.deep),(.bool x.broken)])) rfl cn)) (c60 (x:=(x.bared n)) _ (hab.ext H.keep) (had.ext H.keep) (hah.ext H.keep) (hai.ext H.keep) ((hz _ (H.at 1 rfl))) Gn ha) ?_)
      intro u w26 k27 hu;subst hu;replace H:=H.ext k27
      clear k27
      refine Ro.d rfl rfl rfl (uG (fv:=[i most]) (cv:=[]) rfl rfl en59 (ce (v:=(.agg #[(i ((yR t h ices (x.bared n)).lo)),(i ((yR t h ices (x.bared n)).hi))])) rfl cn) (c59 most ((yR t h ices (x.bared n)).lo) ((yR t h ices (x.bared n)).hi) _ (by omega)) ?_)
      intro u w28 k29 hu;subst hu;replace H:=H.ext k29
      clear k29
      refine Ro.nil (nT ?_)
      refine Wp.cond (t:=decide (((yR t h ices (x.bared n)).hi)-((yR t h ices (x.bared n)).lo)≤most)) rfl ?_ ?_
      · intro c30
        have c30r:=c30
        simp only [bx] at c30
        refine Wp.seq (Wp.region ?_)
        refine Ro.q (v:=(i n)) rfl rfl (zB f17) rfl ?_
        refine Ro.q (v:=(i n)) rfl rfl (zD rfl) rfl ?_
        refine Ro.nil (nT (Wp.exit (xO rfl (xT (xT (xB (nT (Wp.seq (Wp.seq (Wp.region ?_))))))))))
        refine Ro.q (v:=(i n)) rfl rfl (zB rfl) rfl ?_
        refine Ro.q rfl rfl (yB rfl rfl) rfl ?_
        refine Ro.nil (nT ?_)
        refine Wp.cond (t:=decide (n<0)) rfl ?_ ?_
        · intro c31
          have c31r:=c31
          simp only [bx] at c31
          refine Wp.seq (Wp.region ?_)
          refine Ro.q (v:=(i 0)) rfl rfl (zD rfl) rfl ?_
          refine Ro.q (v:=(i 7)) rfl rfl (zD rfl) rfl ?_
          refine Ro.nil (nT (Wp.ret (rT (rG (zN ?_)))))
          refine vT (v:=(i 0)) (v':=(i 7)) Tryz.results17 rfl rfl ⟨H.keep,?_⟩
          exfalso;omega
        intro c31
        have c31r:=c31
        simp only [bx] at c31
        refine Wp.skip (nT (Wp.seq (Wp.region ?_)))
        refine Ro.q (v:=(i n)) rfl rfl (zB rfl) rfl ?_
        refine Ro.q (v:=(i n)) rfl rfl (zD rfl) rfl ?_
        refine Ro.q (v:=(i 0)) rfl rfl (zD rfl) rfl ?_
        refine Ro.nil (nT (Wp.ret (rG (zN ?_))))
        refine vT (v:=(i n)) (v':=(i 0)) Tryz.results17 rfl rfl ⟨H.keep,?_⟩
        have e:=bra_some h0 (BareAt.found hi23 c24 (by unfold sureB;exact c30r)) c24
        rw [e.1,e.2]
      intro c30
      have c30r:=c30
      simp only [bx] at c30
      refine Wp.skip (nB (nT (Wp.region ?_)))
      refine Ro.q (v:=(i n)) rfl rfl (zB f17) rfl ?_
      refine Ro.q rfl rfl (yT rfl rfl (by constructor <;>omega)) rfl ?_
      refine Ro.q (v:=(i (n-1))) rfl rfl (zD rfl) rfl ?_
      refine Ro.nil (nT ?_)
      exact ⟨((n-1)+1:Int).toNat,by omega,(n-1),n,rfl,(by omega),rfl,f12,f13,f14,f15,f16,rfl,f18,H,(BareAt.next hi23 (by omega) (by unfold sureB;exact c30r))⟩
    intro c24
    have c24r:=c24
    simp only [bx] at c24
    refine Wp.exit (xT (xT (xB (nT (Wp.seq (Wp.seq (Wp.region ?_)))))))
    refine Ro.q (v:=(i (-1))) rfl rfl (zB f18) rfl ?_
    refine Ro.q (v:=(.bool true)) rfl rfl (Runs.to (yB rfl rfl) (by rfl)) rfl ?_
    refine Ro.nil (nT ?_)
    refine Wp.condT rfl ?_
    refine Wp.seq (Wp.region ?_)
    refine Ro.q (v:=(i 0)) rfl rfl (zD rfl) rfl ?_
    refine Ro.q (v:=(i 7)) rfl rfl (zD rfl) rfl ?_
    refine Ro.nil (nT (Wp.ret (rT (rG (zN ?_)))))
    refine vT (v:=(i 0)) (v':=(i 7)) Tryz.results17 rfl rfl ⟨H.keep,?_⟩
    have e:=bra_none h0 (BareAt.over hi23 c24)
    rw [e.1,e.2]
  · skip
    replace H:=H.ext k6
    refine Ro.q (v:=(.tuple #[(.agg (zuC).toArray),(i (vV t h ices x most))])) rfl rfl (zB rfl) rfl ?_
    refine Ro.q (v:=(.agg (zuC).toArray)) rfl rfl (zO rfl (j:=0) rfl) rfl ?_
    refine Ro.q (v:=(i (vV t h ices x most))) rfl rfl (zO rfl (j:=1) rfl) rfl ?_
    refine Ro.d rfl rfl rfl (H.new (l:=zuC) rfl zv116 rfl ?_)
    intro b32 w33 Hn;replace H:=Hn;clear Hn
    refine Ro.d0 rfl rfl rfl (H.store (j:=0) (off:=0) (k:=15) rfl sz116 rfl (v:=(.agg (zuC).toArray)) rfl rfl rfl rfl rfl (by simp [Value.oneCell']) (cs':=zuC) rfl ?_)
    intro w34 Hn;replace H:=Hn;clear Hn
    refine Ro.q (v:=(i (vV t h ices x most))) rfl rfl (zD rfl) rfl ?_
    refine Ro.nil (nT (Wp.seq (Wp.seq (Wp.region ?_))))
    refine Ro.q (v:=(i (vV t h ices x most))) rfl rfl (zB rfl) rfl ?_
    refine Ro.q rfl rfl (vW rfl rfl) rfl ?_
    refine Ro.nil (nT ?_)
    refine Wp.condT (show ev _ _ _=_ from congrArg Value.bool (show decide ((vV t h ices x most)≠0)=true by exact decide_eq_true hn)) ?_
    refine Wp.seq (Wp.region ?_)
    refine Ro.q (v:=(i (vV t h ices x most))) rfl rfl (zB rfl) rfl ?_
    refine Ro.q (v:=(i 0)) rfl rfl (zD rfl) rfl ?_
    refine Ro.q (v:=(i (vV t h ices x most))) rfl rfl (zD rfl) rfl ?_
    refine Ro.nil (nT (Wp.ret (rT (rG (zN ?_)))))
    refine vT (v:=(i 0)) (v':=(i (vV t h ices x most))) Tryz.results17 rfl rfl ⟨H.keep,?_⟩
    have e:=bra_bad hn
    rw [e.1,e.2]
end Go.Proofs.YthfnjppieihcfaaGreat
namespace Men
open Go Go.Mw
structure Kd where
  k:Int
  lag:Int
  sq:Int
def uE (d:Kd):Value:=.agg #[iv d.k,iv d.lag,iv d.sq]
theorem encKd_inj {s t:Kd} (h:uE s=uE t):s=t:=by
  unfold uE at h
  simp only [Value.agg.injEq,Array.mk.injEq,List.cons.injEq,Value.int.injEq,and_true,true_and] at h
  cases s;cases t;simp only [Kd.mk.injEq];exact h
def KdIn (t:Tb) (d:Kd):Prop:=(t.klo≤d.k∧d.k≤t.khi)∧(t.llo≤d.lag∧d.lag≤t.lhi)∧(t.slo≤d.sq∧d.sq≤t.shi)
def IsKd (v:Value):Prop:=∃ d:Kd,v=uE d∧(0≤d.k∧d.k≤1000)∧(0≤d.lag∧d.lag≤1000)∧(0≤d.sq∧d.sq≤1000)
abbrev spanX (x:Rdg) (d:Kd) (rate:Int):Rg:=vA x.shown x.err x.bare x.alo x.ahi x.deep d.k d.lag d.sq rate
def Says (x:Rdg) (d:Kd) (n:Int):Prop:=∃ rate,(x.rlo≤rate∧rate≤x.rhi)∧(spanX x d rate).has n
open Classical in
noncomputable def saysB (x:Rdg) (d:Kd) (n:Int):Bool:=decide (Says x d n)
theorem saysB_true {x:Rdg} {d:Kd} {n:Int}:saysB x d n=true↔Says x d n:=by unfold saysB;simp
theorem saysB_false {x:Rdg} {d:Kd} {n:Int}:saysB x d n=false↔¬ Says x d n:=by unfold saysB;simp
theorem Says.ws {t:Tb} {x:Rdg} {d:Kd} {n:Int} (ht:TbR t) (hx:RdR x) (hd:KdIn t d) (h:Says x d n):(wr t x).has n:=by
  obtain ⟨rate,hr,hs⟩:=h
  have hw:=wr_is ht hx
  unfold TbR RdR KdIn at *
  obtain ⟨⟨a1,o1,ha1,ho1,e1⟩,a2,o2,ha2,ho2,e2⟩:=span_ends (shown:=x.shown) (err:=x.err) (bare:=x.bare) (deep:=x.deep) (k:=d.k) (lag:=d.lag) (sq:=d.sq) (rate:=rate) (alo:=x.alo) (ahi:=x.ahi) (by omega) (by omega)
  have w1:WS t x (spanX x d rate).lo:=⟨d.k,d.lag,d.sq,a1,rate,o1,hd.1,hd.2.1,hd.2.2,ha1,hr,ho1,e1⟩
  have w2:WS t x (spanX x d rate).hi:=⟨d.k,d.lag,d.sq,a2,rate,o2,hd.1,hd.2.1,hd.2.2,ha2,hr,ho2,e2⟩
  have h1:=hw.2.2 _ w1
  have h2:=hw.2.2 _ w2
  unfold Rg.has at *
  omega
/-- what readings of one bath can say together, with one kind -/
def AllS (l:List Rdg) (d:Kd) (n:Int):Prop:=∀ x∈l,Says x d n
theorem all_says {l:List Rdg} {d:Kd} {n:Int}:(l.all fun x=>saysB x d n)=true↔AllS l d n:=by
  rw [List.all_eq_true]
  exact ⟨fun h x hx=>saysB_true.1 (h x hx),fun h x hx=>saysB_true.2 (h x hx)⟩
theorem all_says_no {l:List Rdg} {d:Kd} {n:Int}:(l.all fun x=>saysB x d n)=false↔¬ AllS l d n:=by
  rw [← all_says];simp
/-- .. with some kind -/
def SSet (t:Tb) (l:List Rdg) (n:Int):Prop:=∃ d,KdIn t d∧AllS l d n
open Classical in
noncomputable def sameB (t:Tb) (l:List Rdg):Bool:=decide (∃ n,SSet t l n)
def kvOf (p:Kd×Rg):Value×Value:=(uE p.1,.agg #[iv p.2.lo,iv p.2.hi])
def KMap (es:Array MapEntry) (clk:Nat) (ps:List (Kd×Rg)):Prop:=Ents IsKd es clk (ps.map kvOf)
theorem KMap.nil:KMap #[] 0 []:=Ents.nil _
theorem KMap.entry {es:Array MapEntry} {clk:Nat} {ps:List (Kd×Rg)} (h:KMap es clk ps) {e:MapEntry} (he:e∈es.toList) : ∃ q∈ps,e.key=uE q.1∧e.val = .agg #[iv q.2.lo,iv q.2.hi]:=by
  have:(e.key,e.val)∈ps.map kvOf:=by rw [← h.all];exact List.mem_map.2 ⟨e,he,rfl⟩
  obtain ⟨q,hq,e1⟩:=List.mem_map.1 this
  unfold kvOf at e1
  simp only [Prod.mk.injEq] at e1
  exact ⟨q,hq,e1.1.symm,e1.2.symm⟩
theorem KMap.of_mem {es:Array MapEntry} {clk:Nat} {ps:List (Kd×Rg)} (h:KMap es clk ps) {q:Kd×Rg} (hq:q∈ps) : ∃ e∈es.toList,e.key=uE q.1∧e.val = .agg #[iv q.2.lo,iv q.2.hi]:=by
  have:kvOf q∈es.toList.map (fun e=>(e.key,e.val)):=by rw [h.all];exact List.mem_map.2 ⟨q,hq,rfl⟩
  obtain ⟨e,he,h1⟩:=List.mem_map.1 this
  unfold kvOf at h1
  simp only [Prod.mk.injEq] at h1
  exact ⟨e,he,h1.1,h1.2⟩
theorem KMap.key_mem {es:Array MapEntry} {clk:Nat} {ps:List (Kd×Rg)} (_:KMap es clk ps) {d:Kd}:uE d∈(ps.map kvOf).map (·.1)↔∃ r,(d,r)∈ps:=by
  simp only [List.map_map,List.mem_map,Function.comp]
  constructor
  · rintro ⟨⟨d',r⟩,hq,e⟩
    have:=encKd_inj (s:=d') (t:=d) e
    subst this
    exact ⟨r,hq⟩
  · rintro ⟨r,h⟩;exact ⟨(d,r),h,rfl⟩
theorem KMap.one {es:Array MapEntry} {clk:Nat} {ps:List (Kd×Rg)} (h:KMap es clk ps) {d:Kd} {r r':Rg} (h1:(d,r)∈ps) (h2:(d,r')∈ps):r=r':=by
  have e1:((uE d,.agg #[iv r.lo,iv r.hi]):Value×Value)∈ps.map kvOf:=List.mem_map.2 ⟨_,h1,rfl⟩
  have e2:((uE d,.agg #[iv r'.lo,iv r'.hi]):Value×Value)∈ps.map kvOf:=List.mem_map.2 ⟨_,h2,rfl⟩
  have:=nodup_keys h.apart e1 e2
  simp only [Value.agg.injEq,Array.mk.injEq,List.cons.injEq,Value.int.injEq,and_true,true_and] at this
  cases r;cases r';simp only [Rg.mk.injEq];exact this
theorem KMap.put {es:Array MapEntry} {clk:Nat} {ps:List (Kd×Rg)} (h:KMap es clk ps) {es':Array MapEntry} {clk':Nat} {kv':List (Value×Value)} {d:Kd} {r:Rg} (hE:Ents IsKd es' clk' kv') (hp:PutKV (ps.map kvOf) (uE d) (.agg #[iv r.lo,iv r.hi]) kv') : ∃ ps',KMap es' clk' ps'∧∀ q:Kd×Rg,q∈ps'↔(q∈ps∧q.1≠d)∨q=(d,r):=by
  rcases hp with ⟨hn,rfl⟩ | ⟨l1,l2,old,h1,rfl⟩
  · refine ⟨ps++[(d,r)],?_,fun q=>?_⟩
    · unfold KMap;rw [List.map_append];exact hE
    · rw [List.mem_append,List.mem_singleton]
      constructor
      · rintro (hq | rfl)
        · refine .inl ⟨hq,fun e=>hn (h.key_mem.2 ⟨q.2,?_⟩)⟩
          rw [← e];exact hq
        · exact .inr rfl
      · rintro (⟨hq,_⟩ | rfl)
        · exact .inl hq
        · exact .inr rfl
  · obtain ⟨t1,t2,rfl,ht1,ht2⟩:=List.map_eq_append_iff.1 h1
    obtain ⟨q0,t3,rfl,hq0,ht3⟩:=List.map_eq_cons_iff.1 ht2
    obtain ⟨d0,r0⟩:=q0
    have hd:d0=d:=by unfold kvOf at hq0;simp only [Prod.mk.injEq] at hq0;exact encKd_inj hq0.1
    subst hd
    have hap:=h.apart
    simp only [List.map_append,List.map_cons,List.map_map] at hap
    have hnd:=List.nodup_append.1 hap
    have hnd2:=List.nodup_cons.1 hnd.2.1
    refine ⟨t1++(d0,r) :: t3,?_,fun q=>?_⟩
    · unfold KMap
      rw [List.map_append,List.map_cons,ht1,ht3];exact hE
    · simp only [List.mem_append,List.mem_cons]
      constructor
      · rintro (hq | rfl | hq)
        · refine .inl ⟨.inl hq,fun e=>?_⟩
          refine hnd.2.2 (uE q.1) (List.mem_map.2 ⟨q,hq,rfl⟩) (uE d0) (by simp [kvOf]) ?_
          rw [e]
        · exact .inr rfl
        · refine .inl ⟨.inr (.inr hq),fun e=>hnd2.1 (List.mem_map.2 ⟨q,hq,?_⟩)⟩
          simp only [Function.comp,kvOf];rw [e]
      · rintro (⟨hq | rfl | hq,hne⟩ | rfl)
        · exact .inl hq
        · exact absurd rfl hne
        · exact .inr (.inr hq)
        · exact .inr (.inl rfl)
theorem r_lookKd {P:Program} {N:Nat} {ρ:Env} {w:World} {t e k b:Nat} {es:Array MapEntry} {clk:Nat} {ps:List (Kd×Rg)} {x y:Operand} {d:Kd} (ht:P.underlying t=some (.map k e)) (hK:KeyT P k IsKd) (hb:w.heap[b]? = some (.map es clk)) (hE:KMap es clk ps)
    (hx:ev N ρ x = .map (some b)) (hy:ev N ρ y=uE d) (hd:IsKd (uE d)) (hz:ZV P e (.agg #[iv 0,iv 0])) : ∃ (r:Rg) (is:Bool),Runs P N (.lookup t x y true) ρ w (.tuple #[.agg #[iv r.lo,iv r.hi],.bool is])∧((is=true∧(d,r)∈ps)∨(is=false∧r=⟨0,0⟩∧∀ r',(d,r') ∉ ps)):=by
  obtain ⟨v,h | h⟩:=r_lookup ht hK hb hE hx hy hd hz
  · obtain ⟨q,hq,e1⟩:=List.mem_map.1 h.2.2
    unfold kvOf at e1
    simp only [Prod.mk.injEq] at e1
    have:=encKd_inj e1.1
    refine ⟨q.2,true,?_,.inl ⟨rfl,?_⟩⟩
    · have:=h.2.1;rw [← e1.2] at this;exact this
    · rw [← this];exact hq
  · refine ⟨⟨0,0⟩,false,?_,.inr ⟨rfl,rfl,fun r' hr=>h.2.2.1 (hE.key_mem.2 ⟨r',hr⟩)⟩⟩
    have:=h.2.1;rw [h.2.2.2] at this;exact this
/-- what the map holds: of the kinds that are done, all that can be said; of one all up to a number -/
def LeftIs (l:List Rdg) (lo hi:Int) (pre:List Kd) (ps:List (Kd×Rg)):Prop:=∀ q:Kd×Rg,q∈ps↔q.1∈pre∧IsR (fun n=>(lo≤n∧n≤hi)∧AllS l q.1 n) q.2
def LeftAt (l:List Rdg) (lo hi:Int) (pre:List Kd) (d:Kd) (n:Int) (ps:List (Kd×Rg)):Prop:=∀ q:Kd×Rg,q∈ps↔(q.1∈pre∧q.1≠d∧IsR (fun n=>(lo≤n∧n≤hi)∧AllS l q.1 n) q.2)∨(q.1=d∧IsR (fun m=>(lo≤m∧m<n)∧AllS l d m) q.2)
theorem LeftIs.start {l:List Rdg} {lo hi:Int}:LeftIs l lo hi [] []:=fun q=>by simp
theorem LeftAt.start {l:List Rdg} {lo hi:Int} {pre:List Kd} {ps:List (Kd×Rg)} {d:Kd} (h:LeftIs l lo hi pre ps) (hd:d ∉ pre):LeftAt l lo hi pre d lo ps:=by
  intro q
  rw [h q]
  constructor
  · rintro ⟨h1,h2⟩;exact .inl ⟨h1,fun e=>hd (e ▸ h1),h2⟩
  · rintro (⟨h1,_,h2⟩ | ⟨_,h2⟩)
    · exact ⟨h1,h2⟩
    · have:=h2.1.1;omega
theorem LeftAt.no {l:List Rdg} {lo hi n:Int} {pre:List Kd} {ps:List (Kd×Rg)} {d:Kd} (h:LeftAt l lo hi pre d n ps) (hn : ¬ AllS l d n):LeftAt l lo hi pre d (n+1) ps:=by
  intro q
  rw [h q]
  have e:(fun m=>(lo≤m∧m<n)∧AllS l d m)=fun m=>(lo≤m∧m<n+1)∧AllS l d m:=by
    funext m
    refine propext ⟨fun ⟨h1,h2⟩=>⟨by omega,h2⟩,fun ⟨h1,h2⟩=>⟨?_,h2⟩⟩
    have:m≠n:=fun e=>hn (e ▸ h2)
    omega
  rw [e]
theorem LeftAt.yes {l:List Rdg} {lo hi n:Int} {pre:List Kd} {ps ps':List (Kd×Rg)} {d:Kd} {r r':Rg} {is:Bool} (h:LeftAt l lo hi pre d n ps) (hn:AllS l d n) (hlo:lo≤n) (hlk:(is=true∧(d,r)∈ps)∨(is=false∧r=⟨0,0⟩∧∀ r',(d,r') ∉ ps))
    (hr':r'=⟨bif is then r.lo else n,n⟩) (hp : ∀ q:Kd×Rg,q∈ps'↔(q∈ps∧q.1≠d)∨q=(d,r')):LeftAt l lo hi pre d (n+1) ps':=by
  have hir:IsR (fun m=>(lo≤m∧m<n+1)∧AllS l d m) r':=by
    rcases hlk with ⟨rfl,hm⟩ | ⟨rfl,_,hm⟩
    · rcases (h _).1 hm with ⟨_,h2,_⟩ | ⟨_,h2⟩
      · exact absurd rfl h2
      · obtain ⟨g1,g2,g3⟩:=h2
        simp only at g1 g2 g3
        subst hr'
        refine ⟨⟨by simp only [cond_true];omega,g1.2⟩,⟨by simp only;omega,hn⟩,fun z hz=>?_⟩
        simp only [cond_true]
        by_cases e:z=n
        · have:=g1.1;omega
        · have:=g3 z ⟨by omega,hz.2⟩;omega
    · subst hr'
      refine ⟨⟨by simp only [cond_false];omega,hn⟩,⟨by simp only;omega,hn⟩,fun z hz=>?_⟩
      simp only [cond_false]
      by_cases e:z=n
      · omega
      · exfalso
        have hex : ∃ r0,IsR (fun m=>(lo≤m∧m<n)∧AllS l d m) r0:=isR_ex (A:=lo) (B:=n) (fun y hy=>by have:=hy.1;omega) (z:=z) ⟨by omega,hz.2⟩
        obtain ⟨r0,hr0⟩:=hex
        exact hm r0 ((h _).2 (.inr ⟨rfl,hr0⟩))
  intro q
  rw [hp q,h q]
  constructor
  · rintro (⟨h1 | h1,h2⟩ | rfl)
    · exact .inl h1
    · exact absurd h1.1 h2
    · exact .inr ⟨rfl,hir⟩
  · rintro (h1 | ⟨h1,h2⟩)
    · exact .inl ⟨.inl h1,h1.2.1⟩
    · refine .inr ?_
      have:=h2.unique hir
      obtain ⟨q1,q2⟩:=q
      simp only at h1 this
      rw [h1,this]
theorem LeftAt.done {l:List Rdg} {lo hi n:Int} {pre:List Kd} {ps:List (Kd×Rg)} {d:Kd} (h:LeftAt l lo hi pre d n ps) (hd:d ∉ pre) (hn:n=hi+1):LeftIs l lo hi (pre++[d]) ps:=by
  intro q
  rw [h q,List.mem_append,List.mem_singleton]
  have e:(fun m=>(lo≤m∧m<n)∧AllS l d m)=fun m=>(lo≤m∧m≤hi)∧AllS l d m:=by
    funext m
    exact propext ⟨fun ⟨h1,h2⟩=>⟨by omega,h2⟩,fun ⟨h1,h2⟩=>⟨by omega,h2⟩⟩
  rw [e]
  constructor
  · rintro (⟨h1,_,h2⟩ | ⟨h1,h2⟩)
    · exact ⟨.inl h1,h2⟩
    · exact ⟨.inr h1,by rw [h1];exact h2⟩
  · rintro ⟨h1 | h1,h2⟩
    · exact .inl ⟨h1,fun e=>hd (e ▸ h1),h2⟩
    · exact .inr ⟨h1,by rw [h1] at h2;exact h2⟩
/-- so many entries have been seen -/
def SeenIs (ps:List (Kd×Rg)) (es:Array MapEntry) (seen:Array Nat) (lows highs:List Int):Prop :=
  lows.length=highs.length∧(∀ n,n∈lows↔∃ e∈es.toList,e.born∈seen∧∃ q:Kd×Rg,e.key=uE q.1∧q∈ps∧n=q.2.lo)∧∀ n,n∈highs↔∃ e∈es.toList,e.born∈seen∧∃ q:Kd×Rg,e.key=uE q.1∧q∈ps∧n=q.2.hi
theorem SeenIs.start {ps:List (Kd×Rg)} {es:Array MapEntry}:SeenIs ps es #[] [] []:=⟨rfl,fun n=>by simp,fun n=>by simp⟩
theorem SeenIs.push {ps:List (Kd×Rg)} {es:Array MapEntry} {clk:Nat} {seen:Array Nat} {lows highs:List Int} {e:MapEntry} {q:Kd×Rg} (h:SeenIs ps es seen lows highs) (hE:KMap es clk ps) (he:e∈es.toList) (hk:e.key=uE q.1) (hq:q∈ps):SeenIs ps es (seen.push e.born) (lows++[q.2.lo]) (highs++[q.2.hi]):=by
  have key : ∀ (f:Rg→Int) (l:List Int),(∀ n,n∈l↔∃ e∈es.toList,e.born∈seen∧∃ q:Kd×Rg,e.key=uE q.1∧q∈ps∧n=f q.2)→∀ n,n∈l++[f q.2]↔∃ e'∈es.toList,e'.born∈seen.push e.born∧∃ q:Kd×Rg,e'.key=uE q.1∧q∈ps∧n=f q.2:=by
    intro f l hl n
    rw [List.mem_append,List.mem_singleton,hl n]
    constructor
    · rintro (⟨e',h1,h2,h3⟩ | rfl)
      · exact ⟨e',h1,by simp [h2],h3⟩
      · exact ⟨e,he,by simp,q,hk,hq,rfl⟩
    · rintro ⟨e',h1,h2,q',h3,h4,rfl⟩
      rcases Array.mem_push.1 h2 with h2 | h2
      · exact .inl ⟨e',h1,h2,q',h3,h4,rfl⟩
      · have:=Mw.born_inj hE.born h1 he h2
        subst this
        rw [hk] at h3
        have e3:=encKd_inj h3
        have:q'=q:=by
          obtain ⟨q1,q2⟩:=q
          obtain ⟨q1',q2'⟩:=q'
          simp only at e3
          subst e3
          rw [hE.one h4 hq]
        subst this
        exact .inr rfl
  exact ⟨by simp [h.1],key (·.lo) lows h.2.1,key (·.hi) highs h.2.2⟩
theorem minL_spec : ∀ (l:List Int),l≠[]→vS l∈l∧∀ n∈l,vS l≤n:=by
  intro l hl
  cases l with
  | nil=>exact absurd rfl hl
  | cons x xs =>
    clear hl
    induction xs generalizing x with
    | nil=>simp [vS]
    | cons y ys ih =>
      rw [show vS (x :: y :: ys)=vS (min x y :: ys) from rfl]
      obtain ⟨h1,h2⟩:=ih (min x y)
      constructor
      · rcases List.mem_cons.1 h1 with h | h
        · rw [h]
          by_cases hc:x≤y
          · rw [Int.min_eq_left hc];simp
          · rw [Int.min_eq_right (by omega)];simp
        · exact List.mem_cons_of_mem _ (List.mem_cons_of_mem _ h)
      · intro n hn
        have h0:=h2 (min x y) (by simp)
        rcases List.mem_cons.1 hn with rfl | hn
        · omega
        · rcases List.mem_cons.1 hn with rfl | hn
          · omega
          · exact h2 n (List.mem_cons_of_mem _ hn)
theorem maxL_spec : ∀ (l:List Int),l≠[]→vB l∈l∧∀ n∈l,n≤vB l:=by
  intro l hl
  cases l with
  | nil=>exact absurd rfl hl
  | cons x xs =>
    clear hl
    induction xs generalizing x with
    | nil=>simp [vB]
    | cons y ys ih =>
      rw [show vB (x :: y :: ys)=vB (max x y :: ys) from rfl]
      obtain ⟨h1,h2⟩:=ih (max x y)
      constructor
      · rcases List.mem_cons.1 h1 with h | h
        · rw [h]
          by_cases hc:x≤y
          · rw [Int.max_eq_right hc];simp
          · rw [Int.max_eq_left (by omega)];simp
        · exact List.mem_cons_of_mem _ (List.mem_cons_of_mem _ h)
      · intro n hn
        have h0:=h2 (max x y) (by simp)
        rcases List.mem_cons.1 hn with rfl | hn
        · omega
        · rcases List.mem_cons.1 hn with rfl | hn
          · omega
          · exact h2 n (List.mem_cons_of_mem _ hn)
/-- what the map of all kinds tells -/
theorem left_all {t:Tb} {l:List Rdg} {x0:Rdg} {pre:List Kd} {ps:List (Kd×Rg)} {es:Array MapEntry} {clk:Nat} {seen:Array Nat} {lows highs:List Int} (ht:TbR t) (hx0:RdR x0) (hx:x0∈l) (hpre : ∀ d,d∈pre↔KdIn t d) (hL:LeftIs l (wr t x0).lo (wr t x0).hi pre ps) (hE:KMap es clk ps)
    (hS:SeenIs ps es seen lows highs) (hall : ∀ e∈es.toList,e.born∈seen):(lows=[]→¬ ∃ n,SSet t l n)∧(lows≠[]→IsR (SSet t l) ⟨vS lows,vB highs⟩):=by
  have hmem : ∀ (f:Rg→Int) (xs:List Int),(∀ n,n∈xs↔∃ e∈es.toList,e.born∈seen∧∃ q:Kd×Rg,e.key=uE q.1∧q∈ps∧n=f q.2)→∀ n,n∈xs↔∃ q∈ps,n=f q.2:=by
    intro f xs h n
    rw [h n]
    constructor
    · rintro ⟨_,_,_,q,_,h1,h2⟩;exact ⟨q,h1,h2⟩
    · rintro ⟨q,h1,h2⟩
      obtain ⟨e,he,hk,_⟩:=hE.of_mem h1
      exact ⟨e,he,hall e he,q,hk,h1,h2⟩
  have hlow:=hmem (·.lo) lows hS.2.1
  have hhigh:=hmem (·.hi) highs hS.2.2
  have hreach : ∀ n,SSet t l n→∃ q∈ps,q.2.lo≤n∧n≤q.2.hi:=by
    rintro n ⟨d,hd,ha⟩
    have hw:=(ha x0 hx).ws ht hx0 hd
    have hex : ∃ r0,IsR (fun n=>((wr t x0).lo≤n∧n≤(wr t x0).hi)∧AllS l d n) r0:=isR_ex (fun y hy=>hy.1) (z:=n) ⟨hw,ha⟩
    obtain ⟨r0,hr0⟩:=hex
    have hq:(d,r0)∈ps:=(hL _).2 ⟨(hpre d).2 hd,hr0⟩
    exact ⟨_,hq,hr0.2.2 n ⟨hw,ha⟩⟩
  constructor
  · rintro he ⟨n,hn⟩
    obtain ⟨q,hq,_⟩:=hreach n hn
    have:=(hlow q.2.lo).2 ⟨q,hq,rfl⟩
    rw [he] at this
    cases this
  · intro hne
    have hne2:highs≠[]:=by
      intro e
      have:=hS.1
      rw [e] at this
      exact hne (List.length_eq_zero_iff.1 this)
    have h1:=minL_spec lows hne
    have h2:=maxL_spec highs hne2
    refine ⟨?_,?_,fun n hn=>?_⟩
    · obtain ⟨q,hq,e⟩:=(hlow _).1 h1.1
      obtain ⟨g1,g2⟩:=(hL q).1 hq
      simp only;rw [e]
      exact ⟨q.1,(hpre _).1 g1,g2.1.2⟩
    · obtain ⟨q,hq,e⟩:=(hhigh _).1 h2.1
      obtain ⟨g1,g2⟩:=(hL q).1 hq
      simp only;rw [e]
      exact ⟨q.1,(hpre _).1 g1,g2.2.1.2⟩
    · obtain ⟨q,hq,g1,g2⟩:=hreach n hn
      have a1:=h1.2 _ ((hlow _).2 ⟨q,hq,rfl⟩)
      have a2:=h2.2 _ ((hhigh _).2 ⟨q,hq,rfl⟩)
      simp only;omega
end Men
namespace Go.Proofs.YthfnjppieihcfaaGreat
open Go.RowKit Go.Proofs Go.Mw
theorem en101:Go.Proofs.Enters Tryz.prog 101:=Go.Proofs.enters_of Tryz.func101 (by kernel_rfl) rfl
theorem en96:Go.Proofs.Enters Tryz.prog 96:=Go.Proofs.enters_of Tryz.func96 (by kernel_rfl) rfl
theorem en97:Go.Proofs.Enters Tryz.prog 97:=Go.Proofs.enters_of Tryz.func97 (by kernel_rfl) rfl
theorem en98:Go.Proofs.Enters Tryz.prog 98:=Go.Proofs.enters_of Tryz.func98 (by kernel_rfl) rfl
theorem fo116_1:FO Tryz.prog 116 1 12:=fun _ _ _=>by kernel_rfl
theorem t1_63:T1 Tryz.prog 63:=⟨Tryz.isAgg63,fun _=>by kernel_rfl⟩
open Men
theorem c101 {t:Tb} {ab ad:Option Addr} {cab cad:Nat} {x:Rdg} {d:Kd} {n:Int} (w:World) (hab:Sl w 3 (t.bs.map yH) ab) (had:Sl w 2 (t.dl.map zZ) ad) (hrd:RdR x) (hd:((0≤d.k∧d.k≤20)∧(0≤d.lag∧d.lag≤5)∧(0≤d.sq∧d.sq≤3))):Rv Tryz.prog 101 [(.agg (lkC t x ab cab ad cad).toArray),(.agg #[(i d.k),(i d.lag),(i d.sq)]),(i n)] w (.bool (saysB x d n)):=by
  refine Ret.body (N:=26) Tryz.func101 rfl Tryz.ntmps101 rfl ?_
  have H:=S.start Nm w
  refine Wp.seq (Wp.region ?_)
  refine Ro.d rfl rfl rfl (H.box (l:=(lkC t x ab cab ad cad)) rfl (v:=(.agg (lkC t x ab cab ad cad).toArray)) rfl rfl ?_)
  intro b1 w2 Hn;replace H:=Hn;clear Hn
  refine Ro.d rfl rfl rfl (H.box (l:=[i d.k,i d.lag,i d.sq]) rfl (v:=(.agg #[(i d.k),(i d.lag),(i d.sq)])) rfl rfl ?_)
  intro b3 w4 Hn;replace H:=Hn;clear Hn
  refine Ro.q (v:=(.bool false)) rfl rfl (zD rfl) rfl ?_
  refine Ro.nil (nT (Wp.seq (Wp.seq (Wp.region ?_))))
  refine Ro.q (v:=(p b1 12)) rfl rfl (zA vJ rfl rfl) rfl ?_
  refine Ro.q (v:=(p b1 18)) rfl rfl (zA fo52_5 rfl rfl) rfl ?_
  refine Ro.q (v:=(p b1 18)) rfl rfl (zA yV rfl rfl) rfl ?_
  refine Ro.q rfl rfl (zE zM rfl (H.cells 1 rfl) (j:=18) rfl rfl) rfl ?_
  refine Ro.q (v:=(i x.rlo)) rfl rfl (zD rfl) rfl ?_
  refine Ro.nil (nT (Wp.block ?_))
  refine Wp.loop (fun kM ds ρ w'=>∃ r:Int,ds=[]∧(x.rlo≤r∧r≤x.rhi+1)∧kM=(x.rhi+1-r:Int).toNat∧ρ 2=(i n)∧ρ 3=(p b1 0)∧ρ 4=(p b3 0)∧ρ 7=(i r)∧S Nm w [(b3,.cells [i d.k,i d.lag,i d.sq].toArray 137 (0,0)),(b1,.cells (lkC t x ab cab ad cad).toArray 170 (0,0))] w'∧(∀ q,x.rlo≤q→q<r→¬ (spanX x d q).has n)) ((x.rhi+1-x.rlo:Int).toNat) ⟨x.rlo,rfl,(by omega),rfl,rfl,rfl,rfl,rfl,H,(fun q h1 h2=>by omega)⟩ ?_
  clear H
  intro kρ9 dsρ9 ρ9 w10
  rintro ⟨r,rfl,hb12,hk11,f5,f6,f7,f8,H,hi13⟩
  refine Wp.seq (Wp.seq (Wp.region ?_))
  refine Ro.q (v:=(i r)) rfl rfl (zB f8) rfl ?_
  refine Ro.q (v:=(p b1 12)) rfl rfl (zA vJ f6 rfl) rfl ?_
  refine Ro.q (v:=(p b1 18)) rfl rfl (zA fo52_5 rfl rfl) rfl ?_
  refine Ro.q (v:=(p b1 19)) rfl rfl (zA yZ rfl rfl) rfl ?_
  refine Ro.q rfl rfl (zE zM rfl (H.cells 1 rfl) (j:=19) rfl rfl) rfl ?_
  refine Ro.q rfl rfl (vD rfl rfl) rfl ?_
  refine Ro.nil (nT ?_)
  refine Wp.cond (t:=decide (r≤x.rhi)) rfl ?_ ?_
  · intro c14
    have c14r:=c14
    simp only [bx] at c14
    refine Wp.skip (nT (Wp.seq (Wp.block (Wp.seq (Wp.region ?_)))))
    refine Ro.q rfl rfl (zJ ta170 f6 (H.cells 1 rfl) (j:=0) rfl (vs:=(lkC t x ab cab ad cad)) rfl rfl) rfl ?_
    refine Ro.q rfl rfl (zJ ta137 f7 (H.cells 0 rfl) (j:=0) rfl (vs:=[i d.k,i d.lag,i d.sq]) rfl rfl) rfl ?_
    refine Ro.q (v:=(i r)) rfl rfl (zB f8) rfl ?_
    refine Ro.d rfl rfl rfl (zH rfl en121 (ce (v:=(.agg (lkC t x ab cab ad cad).toArray)) rfl (ce (v:=(.agg #[(i d.k),(i d.lag),(i d.sq)])) rfl (ce (v:=(i r)) rfl cn))) (c121 t.base t.blo t.bhi t.klo t.khi t.llo t.lhi t.slo t.shi t.term x.day x.shown x.err x.bare x.alo x.ahi x.rlo x.rhi x.deep x.broken d.k d.lag d.sq r ab t.bs cab ad t.dl cad _ (hab.ext H.keep) (had.ext H.keep) (by omega)) ?_)
    intro u w15 k16 hu;subst hu;replace H:=H.ext k16
    clear k16
    refine Ro.q (v:=(i n)) rfl rfl (zB f5) rfl ?_
    refine Ro.d rfl rfl rfl (zH rfl en86 (ce (v:=(.agg #[(i (min (zG d.k d.lag d.sq x.shown x.bare x.deep x.alo r 0) (zG d.k d.lag d.sq x.shown x.bare x.deep x.ahi r 0)-x.err)),(i (max (zG d.k d.lag d.sq x.shown x.bare x.deep x.alo r 0) (zG d.k d.lag d.sq x.shown x.bare x.deep x.ahi r 0)+x.err))])) rfl (ce (v:=(i n)) rfl cn)) (c86 (min (zG d.k d.lag d.sq x.shown x.bare x.deep x.alo r 0) (zG d.k d.lag d.sq x.shown x.bare x.deep x.ahi r 0)-x.err) (max (zG d.k d.lag d.sq x.shown x.bare x.deep x.alo r 0) (zG d.k d.lag d.sq x.shown x.bare x.deep x.ahi r 0)+x.err) n _ ) ?_)
    intro u w17 k18 hu;subst hu;replace H:=H.ext k18
    clear k18
    refine Ro.nil (nT ?_)
    refine Wp.cond (t:=decide ((min (zG d.k d.lag d.sq x.shown x.bare x.deep x.alo r 0) (zG d.k d.lag d.sq x.shown x.bare x.deep x.ahi r 0)-x.err)≤n) && decide (n≤(max (zG d.k d.lag d.sq x.shown x.bare x.deep x.alo r 0) (zG d.k d.lag d.sq x.shown x.bare x.deep x.ahi r 0)+x.err))) rfl ?_ ?_
    · intro c19
      have c19r:=c19
      simp only [bx] at c19
      refine Wp.seq (Wp.region ?_)
      refine Ro.q (v:=(.bool true)) rfl rfl (zD rfl) rfl ?_
      refine Ro.nil (nT (Wp.ret (rB (rT (rT (rB (rT (zN ?_))))))))
      refine zI (v:=(.bool true)) Tryz.results101 rfl ⟨H.keep,?_⟩
      exact congrArg Value.bool (saysB_true.2 ⟨r,by omega,c19⟩).symm
    intro c19
    have c19r:=c19
    simp only [bx] at c19
    refine Wp.skip (nB (nT (Wp.region ?_)))
    refine Ro.q (v:=(i r)) rfl rfl (zB f8) rfl ?_
    refine Ro.q rfl rfl (zU rfl rfl (by constructor <;>omega)) rfl ?_
    refine Ro.q (v:=(i (r+1))) rfl rfl (zD rfl) rfl ?_
    refine Ro.nil (nT ?_)
    exact ⟨(x.rhi+1-(r+1):Int).toNat,by omega,(r+1),rfl,(by omega),rfl,f5,f6,f7,rfl,H,(fun q h1 h2 hs=>by by_cases e:q=r;(subst e;exact (by have c:=c19;unfold Men.Rg.has spanX vA at hs;simp only at hs;omega));exact hi13 q h1 (by omega) hs)⟩
  intro c14
  have c14r:=c14
  simp only [bx] at c14
  refine Wp.exit (xT (xT (xB (nT (Wp.seq (Wp.region ?_))))))
  refine Ro.q (v:=(.bool false)) rfl rfl (zD rfl) rfl ?_
  refine Ro.nil (nT (Wp.ret (zN ?_)))
  refine zI (v:=(.bool false)) Tryz.results101 rfl ⟨H.keep,?_⟩
  exact congrArg Value.bool (saysB_false.2 fun ⟨q,hq,hs⟩=>hi13 q (by omega) (by omega) hs).symm
theorem c100 {t:Tb} {ab ad ah ai:Option Addr} {h:List Rg} {ices:List Ice} {cab cad cah cai:Nat} {az:Option Addr} {caz:Nat} {x:Rdg} {d:Kd} {n:Int} {bu bk bn:Nat} (w:World) (hab:Sl w 3 (t.bs.map yH) ab) (had:Sl w 2 (t.dl.map zZ) ad) (hc1:Cells w bu 0 (zX t h ices ab cab ad cad ah cah ai cai az caz)) (hc2:Cells w bk 0 [i d.k,i d.lag,i d.sq]) (hc3:Cells w bn 0 [i n]) (hrd:RdR x) (hd:((0≤d.k∧d.k≤20)∧(0≤d.lag∧d.lag≤5)∧(0≤d.sq∧d.sq≤3))):Rv Tryz.prog 100 [(.agg (rdC x).toArray),p bu 0,p bk 0,p bn 0] w (.bool (saysB x d n)):=by
  refine Ret.body (N:=13) Tryz.func100 rfl Tryz.ntmps100 rfl ?_
  have H:=S.start Nm w
  refine Wp.seq (Wp.region ?_)
  refine Ro.d rfl rfl rfl (H.box (l:=(rdC x)) rfl (v:=(.agg (rdC x).toArray)) rfl rfl ?_)
  intro b1 w2 Hn;replace H:=Hn;clear Hn
  refine Ro.q (v:=(.bool false)) rfl rfl (zD rfl) rfl ?_
  refine Ro.nil (nT (Wp.seq (Wp.region ?_)))
  refine Ro.q (v:=(p bu 0)) rfl rfl (zA fo116_0 rfl rfl) rfl ?_
  refine Ro.q rfl rfl (zJ ta45 rfl (hc1.ext H.keep) (j:=0) rfl (vs:=(tbC t ab cab ad cad)) rfl rfl) rfl ?_
  refine Ro.q rfl rfl (zJ ta52 rfl (H.cells 0 rfl) (j:=0) rfl (vs:=(rdC x)) rfl rfl) rfl ?_
  refine Ro.q (v:=(.agg (lkC t x ab cab ad cad).toArray)) rfl rfl (zP (v:=(.agg (lkC t x ab cab ad cad).toArray)) (pe (v:=(.agg (tbC t ab cab ad cad).toArray)) rfl (pe (v:=(.agg (rdC x).toArray)) rfl pn)) (fun w=>by kernel_rfl)) rfl ?_
  refine Ro.q rfl rfl (zJ ta137 rfl (hc2.ext H.keep) (j:=0) rfl (vs:=[i d.k,i d.lag,i d.sq]) rfl rfl) rfl ?_
  refine Ro.q rfl rfl (zE zM rfl (hc3.ext H.keep) (j:=0) rfl rfl) rfl ?_
  refine Ro.d rfl rfl rfl (zH rfl en101 (ce (v:=(.agg (lkC t x ab cab ad cad).toArray)) rfl (ce (v:=(.agg #[(i d.k),(i d.lag),(i d.sq)])) rfl (ce (v:=(i n)) rfl cn))) (c101 (x:=x) (d:=d) _ (hab.ext H.keep) (had.ext H.keep) hrd hd) ?_)
  intro u w3 k4 hu;subst hu;replace H:=H.ext k4
  clear k4
  refine Ro.q (v:=(.bool (saysB x d n))) rfl rfl (zD rfl) rfl ?_
  refine Ro.nil (nT (Wp.ret (zN ?_)))
  refine zI (v:=(.bool (saysB x d n))) Tryz.results100 rfl ⟨H.keep,?_⟩
  rfl
theorem c98 {x:Rdg} (w:World):Rv Tryz.prog 98 [(.agg (rdC x).toArray)] w (.bool !x.broken):=by
  refine Ret.body (N:=6) Tryz.func98 rfl Tryz.ntmps98 rfl ?_
  have H:=S.start Nm w
  refine Wp.seq (Wp.region ?_)
  refine Ro.d rfl rfl rfl (H.box (l:=(rdC x)) rfl (v:=(.agg (rdC x).toArray)) rfl rfl ?_)
  intro b1 w2 Hn;replace H:=Hn;clear Hn
  refine Ro.q (v:=(.bool false)) rfl rfl (zD rfl) rfl ?_
  refine Ro.nil (nT (Wp.seq (Wp.region ?_)))
  refine Ro.q (v:=(p b1 9)) rfl rfl (zA fo52_7 rfl rfl) rfl ?_
  refine Ro.q rfl rfl (zE t1_4 rfl (H.cells 0 rfl) (j:=9) rfl rfl) rfl ?_
  refine Ro.q rfl rfl (yN rfl) rfl ?_
  refine Ro.q (v:=(.bool (!x.broken))) rfl rfl (zD rfl) rfl ?_
  refine Ro.nil (nT (Wp.ret (zN ?_)))
  refine zI (v:=(.bool (!x.broken))) Tryz.results98 rfl ⟨H.keep,?_⟩
  rfl
theorem c96 {t:Tb} {ab ad ah ai:Option Addr} {h:List Rg} {ices:List Ice} {cab cad cah cai:Nat} {az:Option Addr} {caz:Nat} {x x0:Rdg} {l:List Rdg} {al:Option Addr} {cal:Nat} {bu bl:Nat} (w:World) (hal:Sl w 10 (l.map rdV) al) (hl0:l[(0:Int).toNat]? = some x0) (hll:0<(l.length:Int)) (hhl:h.length≤4611686018427387904) (hc1:Cells w bu 0 (zX t h ices ab cab ad cad ah cah ai cai az caz)) (hc2:Cells w bl 0 [.slice al l.length cal]):Rv Tryz.prog 96 [(.agg (rdC x).toArray),p bu 0,p bl 0] w (.bool (vX ((h.length:Nat):Int) x && decide (x.day=x0.day))):=by
  refine Ret.body (N:=19) Tryz.func96 rfl Tryz.ntmps96 rfl ?_
  have H:=S.start Nm w
  refine Wp.seq (Wp.region ?_)
  refine Ro.d rfl rfl rfl (H.box (l:=(rdC x)) rfl (v:=(.agg (rdC x).toArray)) rfl rfl ?_)
  intro b1 w2 Hn;replace H:=Hn;clear Hn
  refine Ro.q (v:=(.bool false)) rfl rfl (zD rfl) rfl ?_
  refine Ro.nil (nT (Wp.seq ?_))
  let qq3:Bool:=(vX ((h.length:Nat):Int) x)
  let qq4:Bool:=decide (x.day=x0.day)
  let qq5:Bool:=(qq3 && qq4)
  refine Wp.drawnS 14 [0,1,3,0,15,31,63,127,63,319,831,1855,4095,8191,16383] [is (p bu 12),is (.slice ah h.length cah),is (i ((h.length:Nat):Int)),is (.agg (rdC x).toArray),is (.bool qq3),is (.bool qq3),gdv (True∧qq3=true) (p b1 0),gdv (True∧qq3=true) (i x.day),gdv (True∧qq3=true) (.slice al l.length cal),gdv (True∧qq3=true) (p (blk al) (yP al+((0:Int).toNat)*10)),gdv (True∧qq3=true) (p (blk al) (yP al+((0:Int).toNat)*10)),gdv (True∧qq3=true) (i x0.day),gdv (True∧qq3=true) (.bool qq4),is (.bool qq5)] (by kernel_rfl) (by kernel_rfl) rfl (Mi (Mi (Mi (Mi (Mi (Mi (Mg (Mg (Mg (Mg (Mg (Mg (Mg (Mi Mono.nil)))))))))))))) (fun w' k=>H.ext k) ?_ ?_
  · refine ⟨?_,?_,?_,?_,?_,?_,?_,?_,?_,?_,?_,?_,?_,?_,trivial⟩
    · exact Ob.q rfl (fun _ _ B U D=>(zA fo116_1 (show (_:Value)=(p bu 0) from U 1 rfl) rfl)) rfl rfl
    · exact Ob.q rfl (fun _ _ B U D=>(zE t1_47 (D 0 rfl) (hc1.ext B.keep) (j:=12) rfl rfl)) rfl rfl
    · exact Ob.q rfl (fun _ _ B U D=>(yG Tryz.underlying47 (D 1 rfl) (v:=h.length) rfl)) rfl rfl
    · exact Ob.q rfl (fun _ _ B U D=>(zJ ta52 (show (_:Value)=(p b1 0) from U 3 rfl) (B.cells 0 rfl) (j:=0) rfl (vs:=(rdC x)) rfl rfl)) rfl rfl
    · exact Ob.mk rfl fun ρ' w' B U D=>zH rfl en85 (ce (v:=(i ((h.length:Nat):Int))) (D 2 rfl) (ce (v:=(.agg (rdC x).toArray)) (D 3 rfl) cn)) (c85 ((h.length:Nat):Int) x.day x.shown x.err x.bare x.alo x.ahi x.rlo x.rhi x.deep x.broken _ (by omega)) (fun u w2 k2 hu=>⟨k2,hu⟩)
    · exact Ob.q rfl (fun _ _ B U D=>(zB (D 4 rfl))) rfl rfl
    · exact Ob.g0 rfl rfl (fun _ _ _ D=>D 5 rfl) rfl (fun _ _ B U D hC hg=>(zA fo52_0 (show (_:Value)=(p b1 0) from U 3 rfl) rfl)) rfl
    · exact Ob.g0 rfl rfl (fun _ _ _ D=>D 5 rfl) rfl (fun _ _ B U D hC hg=>(zE zM (gdy (D 6 rfl) ⟨hC,hg⟩) (B.cells 0 rfl) (j:=0) rfl rfl)) rfl
    · exact Ob.g0 rfl rfl (fun _ _ _ D=>D 5 rfl) rfl (fun _ _ B U D hC hg=>(zE t1_63 (show (_:Value)=(p bl 0) from U 2 rfl) (hc2.ext B.keep) (j:=0) rfl rfl)) rfl
    · exact Ob.g0 rfl rfl (fun _ _ _ D=>D 5 rfl) rfl (fun _ _ B U D hC hg=>(zY ts63 (hal.ext B.keep) (gdy (D 8 rfl) ⟨hC,hg⟩) (by simp) rfl (by omega) (zW hl0))) rfl
    · exact Ob.g0 rfl rfl (fun _ _ _ D=>D 5 rfl) rfl (fun _ _ B U D hC hg=>(zA fo52_0 (gdy (D 9 rfl) ⟨hC,hg⟩) rfl)) rfl
    · exact Ob.g0 rfl rfl (fun _ _ _ D=>D 5 rfl) rfl (fun _ _ B U D hC hg=>(zE zM (gdy (D 10 rfl) ⟨hC,hg⟩) ((hal.ext B.keep).cells (zW hl0)) (j:=0) rfl rfl)) rfl
    · exact Ob.g0 rfl rfl (fun _ _ _ D=>D 5 rfl) rfl (fun _ _ B U D hC hg=>(vR (gdy (D 7 rfl) ⟨hC,hg⟩) (gdy (D 11 rfl) ⟨hC,hg⟩))) rfl
    · exact Ob.q rfl (fun _ _ B U D=>(zQ (v:=(.bool qq5)) (D 5 rfl) (fun eP=>(gdy (D 12 rfl) ⟨trivial,eP⟩).trans (yF eP)) (fun eP=>yE eP))) rfl rfl
  intro ρ6 w7 k8 U9 D10;replace H:=H.ext k8
  have f12:ρ6 18=(.bool qq5):=D10 13 rfl
  clear U9 D10 k8
  refine Ro.q (v:=(.bool qq5)) rfl rfl (zD f12) rfl ?_
  refine Ro.nil (nT (Wp.ret (zN ?_)))
  refine zI (v:=(.bool ((vX ((h.length:Nat):Int) x) && (decide (x.day=x0.day))))) Tryz.results96 rfl ⟨H.keep,?_⟩
  rfl
/-- why readings of one bath are refused -/
noncomputable def bathE (t:Tb) (h:List Rg) (ices:List Ice) (l:List Rdg):Int :=
  bif decide (5<((l.length:Nat):Int)) then 3 else match l with
  | []=>2
  | x0 :: _=>bif !(l.all fun x=>vX ((h.length:Nat):Int) x && decide (x.day=x0.day)) then 2 else bif !(l.all fun x=>!x.broken) then 8 else vE t h ices x0
theorem head_of {α:Type} {l:List α} {x0:α} (h:l[(0:Int).toNat]? = some x0) : ∃ q,l=x0 :: q:=by
  cases l with
  | nil=>simp at h
  | cons x q=>simp at h;exact ⟨q,by rw [h]⟩
theorem bath_many {t:Tb} {h:List Rg} {ices:List Ice} {l:List Rdg} (hn:5<((l.length:Nat):Int)):bathE t h ices l=3:=by unfold bathE;rw [decide_eq_true hn];rfl
theorem bath_none {t:Tb} {h:List Rg} {ices:List Ice} {l:List Rdg} (hn : ¬ 5<((l.length:Nat):Int)) (h0:((l.length:Nat):Int)=0):bathE t h ices l=2:=by
  have:l=[]:=List.length_eq_zero_iff.1 (by omega)
  subst this;rfl
theorem bath_one {t:Tb} {h:List Rg} {ices:List Ice} {l:List Rdg} {x0:Rdg} (hn : ¬ 5<((l.length:Nat):Int)) (h0:l[(0:Int).toNat]? = some x0):bathE t h ices l=bif !(l.all fun x=>vX ((h.length:Nat):Int) x && decide (x.day=x0.day)) then 2 else bif !(l.all fun x=>!x.broken) then 8 else vE t h ices x0:=by
  obtain ⟨q,rfl⟩:=head_of h0
  unfold bathE;rw [decide_eq_false hn];rfl
theorem c68 {t:Tb} {ab ad ah ai:Option Addr} {h:List Rg} {ices:List Ice} {cab cad cah cai:Nat} {az:Option Addr} {caz:Nat} {l:List Rdg} {al:Option Addr} {cal:Nat} (w:World) (hab:Sl w 3 (t.bs.map yH) ab) (had:Sl w 2 (t.dl.map zZ) ad) (hah:Sl w 2 (h.map rgV) ah) (hai:Sl w 3 (ices.map iceV) ai) (haz:Sl w 2 ((zl t.glass h ices).map rgV) az) (hal:Sl w 10 (l.map rdV) al) (hH:HistOk h) (hI:IcesOk h ices):Rv Tryz.prog 68 [(.agg (zX t h ices ab cab ad cad ah cah ai cai az caz).toArray),(.slice al l.length cal)] w (i (bathE t h ices l)):=by
  have hhl:=hH.len
  have hhl2:h.length≤4611686018427387904:=by omega
  have hh0:=hH.pos
  have hil:=hI.len
  have hic : ∀ i∈ices,0≤i.day∧i.day≤100:=fun i hi=>by have:=(hI.each i hi).1;omega
  obtain ⟨x0,hx0⟩:=ehead l ⟨0,0,0,0,0,0,0,0,0,false⟩
  refine Ret.body (N:=27) Tryz.func68 rfl Tryz.ntmps68 rfl ?_
  have H:=S.start Nm w
  refine Wp.seq (Wp.region ?_)
  refine Ro.d rfl rfl rfl (H.box (l:=(zX t h ices ab cab ad cad ah cah ai cai az caz)) rfl (v:=(.agg (zX t h ices ab cab ad cad ah cah ai cai az caz).toArray)) rfl rfl ?_)
  intro b1 w2 Hn;replace H:=Hn;clear Hn
  refine Ro.d rfl rfl rfl (H.box (l:=[.slice al l.length cal]) rfl (v:=(.slice al l.length cal)) rfl rfl ?_)
  intro b3 w4 Hn;replace H:=Hn;clear Hn
  refine Ro.q (v:=(i 0)) rfl rfl (zD rfl) rfl ?_
  refine Ro.nil (nT (Wp.seq (Wp.seq (Wp.region ?_))))
  refine Ro.q rfl rfl (zE t1_63 rfl (H.cells 0 rfl) (j:=0) rfl rfl) rfl ?_
  refine Ro.q rfl rfl (yG Tryz.underlying63 rfl (v:=l.length) rfl) rfl ?_
  refine Ro.q rfl rfl (r_gtr rfl rfl) rfl ?_
  refine Ro.nil (nT ?_)
  refine Wp.cond (t:=decide (5<((l.length:Nat):Int))) rfl ?_ ?_
  · intro c5
    have c5r:=c5
    simp only [bx] at c5
    refine Wp.seq (Wp.region ?_)
    refine Ro.q (v:=(i 3)) rfl rfl (zD rfl) rfl ?_
    refine Ro.nil (nT (Wp.ret (rT (zN ?_))))
    refine zI (v:=(i 3)) Tryz.results68 rfl ⟨H.keep,?_⟩
    rw [bath_many c5]
  intro c5
  have c5r:=c5
  simp only [bx] at c5
  refine Wp.skip (nT (Wp.seq (Wp.region ?_)))
  refine Ro.q (v:=(.func (.func 96) #[] #[(p b1 0),(p b3 0)])) rfl rfl (uH cn (ce (v:=(p b1 0)) rfl (ce (v:=(p b3 0)) rfl cn))) rfl ?_
  refine Ro.q (v:=(.func (.func 96) #[] #[(p b1 0),(p b3 0)])) rfl rfl (zD rfl) rfl ?_
  refine Ro.nil (nT (Wp.seq (Wp.seq ?_)))
  let qq6:Bool:=decide (((l.length:Nat):Int)=0)
  let qq7:Bool:=(l.all fun x=>(vX ((h.length:Nat):Int) x && decide (x.day=x0.day)))
  let qq8:Bool:=(qq6 || (!qq7))
  refine Wp.factsS 9 [is (.slice al l.length cal),is (i ((l.length:Nat):Int)),is (.bool qq6),is (.bool qq6),gdv (True∧qq6=false) (.slice al l.length cal),gdv (True∧qq6=false) (.func (.func 96) #[] #[(p b1 0),(p b3 0)]),gdv (True∧qq6=false) (.bool qq7),gdv (True∧qq6=false) (.bool (!qq7)),is (.bool qq8)] (by kernel_rfl) (Mi (Mi (Mi (Mi (Mg (Mg (Mg (Mg (Mi Mono.nil))))))))) (fun w' k=>H.ext k) ?_ ?_
  · refine ⟨?_,?_,?_,?_,?_,?_,?_,?_,?_,trivial⟩
    · exact Ob.q rfl (fun _ _ B U D=>(zE t1_63 (show (_:Value)=(p b3 0) from U 3 rfl) (B.cells 0 rfl) (j:=0) rfl rfl)) rfl rfl
    · exact Ob.q rfl (fun _ _ B U D=>(yG Tryz.underlying63 (D 0 rfl) (v:=l.length) rfl)) rfl rfl
    · exact Ob.q rfl (fun _ _ B U D=>(vR (D 1 rfl) rfl)) rfl rfl
    · exact Ob.q rfl (fun _ _ B U D=>(zB (D 2 rfl))) rfl rfl
    · exact Ob.g0 rfl rfl (fun _ _ _ D=>D 3 rfl) rfl (fun _ _ B U D hC hg=>(zE t1_63 (show (_:Value)=(p b3 0) from U 3 rfl) (B.cells 0 rfl) (j:=0) rfl rfl)) rfl
    · exact Ob.g0 rfl rfl (fun _ _ _ D=>D 3 rfl) rfl (fun _ _ B U D hC hg=>(zB (show (_:Value)=(.func (.func 96) #[] #[(p b1 0),(p b3 0)]) from U 5 rfl))) rfl
    · exact Ob.gd (C:=True) (g:=qq6) rfl rfl (fun ρ' w' U D=>⟨fun _=>(D 3 rfl),fun h=>absurd trivial h⟩) (fun _ h=>⟨fun hc=>absurd hc (yQ h),fun _=>rfl⟩) fun ρ' w' B U D hC hg=>zH rfl en97 (ce (v:=(.slice al l.length cal)) (gdy (D 4 rfl) ⟨hC,hg⟩) (ce (v:=(.func (.func 96) #[] #[(p b1 0),(p b3 0)])) (gdy (D 5 rfl) ⟨hC,hg⟩) cn)) (c97 (fi:=96) (cv:=[p b1 0,p b3 0]) (φ:=fun x=>(vX ((h.length:Nat):Int) x && decide (x.day=x0.day))) _ (hal.ext B.keep) (by omega) en96 (fun e _ w2 k=>c96 (x:=e) _ ((hal.ext B.keep).ext k) (hx0 (by have hg:=(show decide (((l.length:Nat):Int)=0)=false from hg);simp only [bx] at hg;omega)) (by have hg:=(show decide (((l.length:Nat):Int)=0)=false from hg);simp only [bx] at hg;omega) hhl2 ((B.cells 1 rfl).ext k) ((B.cells 0 rfl).ext k))) (fun u w2 k2 hu=>⟨k2,⟨fun _=>hu,fun n=>absurd ⟨hC,hg⟩ n⟩⟩)
    · exact Ob.g0 rfl rfl (fun _ _ _ D=>D 3 rfl) rfl (fun _ _ B U D hC hg=>(yN (gdy (D 6 rfl) ⟨hC,hg⟩))) rfl
    · exact Ob.q rfl (fun _ _ B U D=>(zQ (v:=(.bool qq8)) (D 3 rfl) (fun eP=>or_t eP) (fun eP=>(gdy (D 7 rfl) ⟨trivial,eP⟩).trans (or_f eP)))) rfl rfl
  intro ρ9 w10 k11 U12 D13;replace H:=H.ext k11
  have f14:ρ9 2=(p b1 0):=U12 2 rfl
  have f15:ρ9 3=(p b3 0):=U12 3 rfl
  have f17:ρ9 18=(.bool qq8):=D13 8 rfl
  clear U12 D13 k11
  refine Ro.nil (nT ?_)
  refine Wp.cond (t:=qq8) f17 ?_ ?_
  · intro c18
    have c18r:(((decide (((l.length:Nat):Int)=0)) || (!(l.all fun x=>(vX ((h.length:Nat):Int) x && decide (x.day=x0.day))))))=true:=c18
    replace c18:=c18r
    simp only [bx] at c18
    refine Wp.seq (Wp.region ?_)
    refine Ro.q (v:=(i 2)) rfl rfl (zD rfl) rfl ?_
    refine Ro.nil (nT (Wp.ret (rT (zN ?_))))
    refine zI (v:=(i 2)) Tryz.results68 rfl ⟨H.keep,?_⟩
    by_cases h0:((l.length:Nat):Int)=0
    · rw [bath_none c5 h0]
    · have hf:=c18.resolve_left h0
      rw [bath_one c5 (hx0 (by omega)),hf];rfl
  intro c18
  have c18r:(((decide (((l.length:Nat):Int)=0)) || (!(l.all fun x=>(vX ((h.length:Nat):Int) x && decide (x.day=x0.day))))))=false:=c18
  replace c18:=c18r
  simp only [bx] at c18
  have hx1:=hx0 (by omega)
  have hr0:vX ((h.length:Nat):Int) x0=true:=by
    have h1:=List.all_eq_true.1 c18.2 x0 (List.mem_of_getElem? hx1)
    simp only [Bool.and_eq_true] at h1
    exact h1.1
  have hdy:=(readBx_iff.1 hr0).1
  refine Wp.skip (nT (Wp.seq (Wp.seq (Wp.region ?_))))
  refine Ro.q rfl rfl (zE t1_63 f15 (H.cells 0 rfl) (j:=0) rfl rfl) rfl ?_
  refine Ro.d rfl rfl rfl (zH rfl en97 (ce (v:=(.slice al l.length cal)) rfl (ce (v:=(.func (.func 98) #[] #[])) rfl cn)) (c97 (fi:=98) (cv:=[]) (φ:=fun x=>!x.broken) _ (hal.ext H.keep) (by omega) en98 (fun e _ w2 _=>c98 (x:=e) w2)) ?_)
  intro u w19 k20 hu;subst hu;replace H:=H.ext k20
  clear k20
  refine Ro.q rfl rfl (yN rfl) rfl ?_
  refine Ro.nil (nT ?_)
  refine Wp.cond (t:=!(l.all fun x=>!x.broken)) rfl ?_ ?_
  · intro c21
    have c21r:=c21
    simp only [bx] at c21
    refine Wp.seq (Wp.region ?_)
    refine Ro.q (v:=(i 8)) rfl rfl (zD rfl) rfl ?_
    refine Ro.nil (nT (Wp.ret (rT (zN ?_))))
    refine zI (v:=(i 8)) Tryz.results68 rfl ⟨H.keep,?_⟩
    rw [bath_one c5 hx1,c18.2,c21];rfl
  intro c21
  have c21r:=c21
  simp only [bx] at c21
  refine Wp.skip (nT (Wp.seq ?_))
  refine Wp.drawnS 4 [0,0,2,6,15,31] [is (.agg (zX t h ices ab cab ad cad ah cah ai cai az caz).toArray),is (.slice al l.length cal),is (p (blk al) (yP al+((0:Int).toNat)*10)),is (.agg #[(i x0.day),(i x0.shown),(i x0.err),(i x0.bare),(i x0.alo),(i x0.ahi),(i x0.rlo),(i x0.rhi),(i x0.deep),(.bool x0.broken)])] (by kernel_rfl) (by kernel_rfl) rfl (Mi (Mi (Mi (Mi Mono.nil)))) (fun w' k=>H.ext k) ?_ ?_
  · refine ⟨?_,?_,?_,?_,trivial⟩
    · exact Ob.q rfl (fun _ _ B U D=>(zJ ta116 ((U 2 rfl).trans f14) (B.cells 1 rfl) (j:=0) rfl (vs:=(zX t h ices ab cab ad cad ah cah ai cai az caz)) rfl rfl)) rfl rfl
    · exact Ob.q rfl (fun _ _ B U D=>(zE t1_63 ((U 3 rfl).trans f15) (B.cells 0 rfl) (j:=0) rfl rfl)) rfl rfl
    · exact Ob.q rfl (fun _ _ B U D=>(zY ts63 (hal.ext B.keep) (D 1 rfl) (by simp) rfl (by omega) (zW hx1))) rfl rfl
    · exact Ob.q rfl (fun _ _ B U D=>(zJ ta52 (D 2 rfl) ((hal.ext B.keep).cells (zW hx1)) (j:=0) rfl (vs:=[i x0.day,i x0.shown,i x0.err,i x0.bare,i x0.alo,i x0.ahi,i x0.rlo,i x0.rhi,i x0.deep,.bool x0.broken]) rfl rfl)) rfl rfl
  intro ρ22 w23 k24 U25 D26;replace H:=H.ext k24
  have f28:ρ22 22=(.agg (zX t h ices ab cab ad cad ah cah ai cai az caz).toArray):=D26 0 rfl
  have f29:ρ22 25=(.agg #[(i x0.day),(i x0.shown),(i x0.err),(i x0.bare),(i x0.alo),(i x0.ahi),(i x0.rlo),(i x0.rhi),(i x0.deep),(.bool x0.broken)]):=D26 3 rfl
  clear U25 D26 k24
  refine Ro.d rfl rfl rfl (zH rfl en81 (ce (v:=(.agg (zX t h ices ab cab ad cad ah cah ai cai az caz).toArray)) f28 (ce (v:=(.agg #[(i x0.day),(i x0.shown),(i x0.err),(i x0.bare),(i x0.alo),(i x0.ahi),(i x0.rlo),(i x0.rhi),(i x0.deep),(.bool x0.broken)])) f29 cn)) (c81 (x:=x0) _ (hab.ext H.keep) (had.ext H.keep) (hah.ext H.keep) (hai.ext H.keep) (haz.ext H.keep) (by omega) hic (by omega) (by omega)) ?_)
  intro u w30 k31 hu;subst hu;replace H:=H.ext k31
  clear k31
  refine Ro.q (v:=(i (vE t h ices x0))) rfl rfl (zD rfl) rfl ?_
  refine Ro.nil (nT (Wp.ret (zN ?_)))
  refine zI (v:=(i (vE t h ices x0))) Tryz.results68 rfl ⟨H.keep,?_⟩
  rw [bath_one c5 hx1,c18.2,c21];rfl
theorem c99 {t:Tb} {ab ad:Option Addr} {cab cad:Nat} (w:World):Ret Tryz.prog 99 [(.agg (tbC t ab cab ad cad).toArray)] w fun v w'=>∃ b1,v = .func (.func 126) #[] #[p b1 0]∧Cells w' b1 0 (tbC t ab cab ad cad)∧w.heap.size≤b1:=by
  refine Ret.body (N:=4) Tryz.func99 rfl Tryz.ntmps99 rfl ?_
  have H:=S.start Nm w
  refine Wp.seq (Wp.region ?_)
  refine Ro.d rfl rfl rfl (H.box (l:=(tbC t ab cab ad cad)) rfl (v:=(.agg (tbC t ab cab ad cad).toArray)) rfl rfl ?_)
  intro b1 w2 Hn;replace H:=Hn;clear Hn
  refine Ro.q (v:=.nilFunc) rfl rfl (zD rfl) rfl ?_
  refine Ro.nil (nT (Wp.seq (Wp.region ?_)))
  refine Ro.q (v:=(.func (.func 126) #[] #[(p b1 0)])) rfl rfl (uH cn (ce (v:=(p b1 0)) rfl cn)) rfl ?_
  refine Ro.q (v:=(.func (.func 126) #[] #[(p b1 0)])) rfl rfl (zD rfl) rfl ?_
  refine Ro.nil (nT (Wp.ret (zN ?_)))
  refine zI (v:=(.func (.func 126) #[] #[(p b1 0)])) Tryz.results99 rfl ⟨H.keep,?_⟩
  exact ⟨_,rfl,H.cells 0 rfl,(H.fresh _ (List.mem_of_getElem? (i:=0) rfl)).elim id False.elim⟩
structure F126 (t:Tb) (ab:Option Addr) (cab:Nat) (ad:Option Addr) (cad:Nat) (b1 n0:Nat) (wb:World):Prop where
  c1:Cells wb b1 0 (tbC t ab cab ad cad)
  sz:n0≤wb.heap.size
theorem kd_eq {d:Kd} {a b c:Int}:d=⟨a,b,c⟩↔d.k=a∧d.lag=b∧d.sq=c:=by cases d;simp
theorem c126 {t:Tb} {ab ad:Option Addr} {cab cad:Nat} {b1:Nat} {Mc:Nat→Prop} (w:World) (hc1:Cells w b1 0 (tbC t ab cab ad cad)) (m1 : ¬ Mc b1) (htb:TbR t):SeqG Tryz.prog 126 [p b1 0] uE (KdIn t) (fun pre d=>d ∉ pre) Mc w:=by
  intro l J Jx hJ hJx hy h0
  refine Calls.body' (N:=43) Tryz.func126 rfl Tryz.ntmps126 rfl ?_
  have H:=S.start Nm w
  refine Wp.seq (Wp.region ?_)
  refine Ro.q (v:=(p b1 5)) rfl rfl (zA fo45_1 rfl rfl) rfl ?_
  refine Ro.q (v:=(p b1 5)) rfl rfl (zA yV rfl rfl) rfl ?_
  refine Ro.q rfl rfl (zE zM rfl (hc1.ext H.keep) (j:=5) rfl rfl) rfl ?_
  refine Ro.q (v:=(i t.klo)) rfl rfl (zD rfl) rfl ?_
  refine Ro.nil (nT (Wp.block ?_))
  refine Wp.loop (fun kM ds ρ w'=>∃ wb:World,∃ pre:List Kd,∃ k:Int,ds=[]∧(t.klo≤k∧k≤t.khi+1)∧kM=(t.khi+1-k:Int).toNat∧ρ 0=(.func (.yield l) #[] #[])∧ρ 1=(p b1 0)∧ρ 3=(i k)∧S Nm wb [] w'∧(F126 t ab cab ad cad b1 w.heap.size wb∧J pre wb∧(∀ d:Kd,d∈pre↔KdIn t d∧d.k<k))) ((t.khi+1-t.klo:Int).toNat) ⟨w,([]),t.klo,rfl,(by omega),rfl,rfl,rfl,rfl,H,⟨⟨hc1,Nat.le_refl _⟩,h0,fun d=>⟨(fun h=>by cases h),(fun h=>by have:=h.2;have:=h.1;unfold KdIn at this;omega)⟩⟩⟩ ?_
  clear H
  intro kρ4 dsρ4 ρ4 w5
  rintro ⟨wb,pre,k,rfl,hb7,hk6,f1,f2,f3,H,hi8⟩
  refine Wp.seq (Wp.seq (Wp.region ?_))
  refine Ro.q (v:=(i k)) rfl rfl (zB f3) rfl ?_
  refine Ro.q (v:=(p b1 5)) rfl rfl (zA fo45_1 f2 rfl) rfl ?_
  refine Ro.q (v:=(p b1 6)) rfl rfl (zA yZ rfl rfl) rfl ?_
  refine Ro.q rfl rfl (zE zM rfl ((hi8.1.c1).ext H.keep) (j:=6) rfl rfl) rfl ?_
  refine Ro.q rfl rfl (vD rfl rfl) rfl ?_
  refine Ro.nil (nT ?_)
  refine Wp.cond (t:=decide (k≤t.khi)) rfl ?_ ?_
  · intro c9
    have c9r:=c9
    simp only [bx] at c9
    refine Wp.skip (nT (Wp.seq (Wp.block (Wp.seq (Wp.region ?_)))))
    refine Ro.q (v:=(p b1 7)) rfl rfl (zA fo45_2 f2 rfl) rfl ?_
    refine Ro.q (v:=(p b1 7)) rfl rfl (zA yV rfl rfl) rfl ?_
    refine Ro.q rfl rfl (zE zM rfl ((hi8.1.c1).ext H.keep) (j:=7) rfl rfl) rfl ?_
    refine Ro.q (v:=(i t.llo)) rfl rfl (zD rfl) rfl ?_
    refine Ro.nil (nT (Wp.block ?_))
    refine Wp.loop (fun kM ds ρ w'=>∃ wb:World,∃ pre:List Kd,∃ g:Int,ds=[]∧(t.llo≤g∧g≤t.lhi+1)∧kM=(t.lhi+1-g:Int).toNat∧ρ 0=(.func (.yield l) #[] #[])∧ρ 1=(p b1 0)∧ρ 3=(i k)∧ρ 4=(i g)∧S Nm wb [] w'∧(F126 t ab cab ad cad b1 w.heap.size wb∧J pre wb∧(∀ d:Kd,d∈pre↔KdIn t d∧(d.k<k∨(d.k=k∧d.lag<g))))) ((t.lhi+1-t.llo:Int).toNat) ⟨wb,pre,t.llo,rfl,(by omega),rfl,f1,f2,f3,rfl,H,⟨hi8.1,hi8.2.1,fun d=>by rw [hi8.2.2 d];unfold KdIn;omega⟩⟩ ?_
    clear H
    intro kρ14 dsρ14 ρ14 w15
    rintro ⟨wb,pre,g,rfl,hb17,hk16,f10,f11,f12,f13,H,hi18⟩
    refine Wp.seq (Wp.seq (Wp.region ?_))
    refine Ro.q (v:=(i g)) rfl rfl (zB f13) rfl ?_
    refine Ro.q (v:=(p b1 7)) rfl rfl (zA fo45_2 f11 rfl) rfl ?_
    refine Ro.q (v:=(p b1 8)) rfl rfl (zA yZ rfl rfl) rfl ?_
    refine Ro.q rfl rfl (zE zM rfl ((hi18.1.c1).ext H.keep) (j:=8) rfl rfl) rfl ?_
    refine Ro.q rfl rfl (vD rfl rfl) rfl ?_
    refine Ro.nil (nT ?_)
    refine Wp.cond (t:=decide (g≤t.lhi)) rfl ?_ ?_
    · intro c19
      have c19r:=c19
      simp only [bx] at c19
      refine Wp.skip (nT (Wp.seq (Wp.block (Wp.seq (Wp.region ?_)))))
      refine Ro.q (v:=(p b1 9)) rfl rfl (zA fo45_3 f11 rfl) rfl ?_
      refine Ro.q (v:=(p b1 9)) rfl rfl (zA yV rfl rfl) rfl ?_
      refine Ro.q rfl rfl (zE zM rfl ((hi18.1.c1).ext H.keep) (j:=9) rfl rfl) rfl ?_
      refine Ro.q (v:=(i t.slo)) rfl rfl (zD rfl) rfl ?_
      refine Ro.nil (nT (Wp.block ?_))
      refine Wp.loop (fun kM ds ρ w'=>∃ wb:World,∃ pre:List Kd,∃ q:Int,ds=[]∧(t.slo≤q∧q≤t.shi+1)∧kM=(t.shi+1-q:Int).toNat∧ρ 0=(.func (.yield l) #[] #[])∧ρ 1=(p b1 0)∧ρ 3=(i k)∧ρ 4=(i g)∧ρ 5=(i q)∧S Nm wb [] w'∧(F126 t ab cab ad cad b1 w.heap.size wb∧J pre wb∧(∀ d:Kd,d∈pre↔KdIn t d∧(d.k<k∨(d.k=k∧(d.lag<g∨(d.lag=g∧d.sq<q))))))) ((t.shi+1-t.slo:Int).toNat) ⟨wb,pre,t.slo,rfl,(by omega),rfl,f10,f11,f12,f13,rfl,H,⟨hi18.1,hi18.2.1,fun d=>by rw [hi18.2.2 d];unfold KdIn;omega⟩⟩ ?_
      clear H
      intro kρ25 dsρ25 ρ25 w26
      rintro ⟨wb,pre,q,rfl,hb28,hk27,f20,f21,f22,f23,f24,H,hi29⟩
      refine Wp.seq (Wp.seq (Wp.region ?_))
      refine Ro.q (v:=(i q)) rfl rfl (zB f24) rfl ?_
      refine Ro.q (v:=(p b1 9)) rfl rfl (zA fo45_3 f21 rfl) rfl ?_
      refine Ro.q (v:=(p b1 10)) rfl rfl (zA yZ rfl rfl) rfl ?_
      refine Ro.q rfl rfl (zE zM rfl ((hi29.1.c1).ext H.keep) (j:=10) rfl rfl) rfl ?_
      refine Ro.q rfl rfl (vD rfl rfl) rfl ?_
      refine Ro.nil (nT ?_)
      refine Wp.cond (t:=decide (q≤t.shi)) rfl ?_ ?_
      · intro c30
        have c30r:=c30
        simp only [bx] at c30
        refine Wp.skip (nT (Wp.seq (Wp.block (Wp.seq (Wp.region ?_)))))
        refine Ro.q (v:=(.func (.yield l) #[] #[])) rfl rfl (zB f20) rfl ?_
        refine Ro.q (v:=(i k)) rfl rfl (zB f22) rfl ?_
        refine Ro.q (v:=(i g)) rfl rfl (zB f23) rfl ?_
        refine Ro.q (v:=(i q)) rfl rfl (zB f24) rfl ?_
        refine Ro.q (v:=(.agg #[(i k),(i g),(i q)])) rfl rfl (zP (v:=(.agg #[(i k),(i g),(i q)])) (pe (v:=(i k)) rfl (pe (v:=(i g)) rfl (pe (v:=(i q)) rfl pn))) (fun w=>by kernel_rfl)) rfl ?_
        have hmem:KdIn t ⟨k,g,q⟩:=by unfold KdIn;simp only;omega
        have hnin:(⟨k,g,q⟩:Kd) ∉ pre:=fun h=>by have:=((hi29.2.2 _).1 h).2;simp only at this;omega
        have hJ2:J pre _:=hJ _ _ _ hi29.2.1 H.keep.any
        refine Ro.d rfl rfl rfl (d_yield (vs:=[uE ⟨k,g,q⟩]) rfl rfl (ce (v:=uE ⟨k,g,q⟩) rfl cn) (hy pre _ _ hJ2 hmem hnin) ?_)
        rintro u w31 ⟨kc,hv⟩
        obtain ⟨bv,rfl,hjt,hjf⟩:=yv hv
        have HF3:F126 t ab cab ad cad b1 w.heap.size w31:=⟨(hi29.1.c1.ext H.keep).keep m1 kc,Nat.le_trans hi29.1.sz (Nat.le_trans H.keep.size kc.size)⟩
        replace H:=S.start Nm w31
        refine Ro.q rfl rfl (yN rfl) rfl ?_
        refine Ro.nil (nT ?_)
        refine Wp.cond (t:=!bv) rfl ?_ ?_
        · intro c32
          have c32r:=c32
          simp only [bx] at c32
          refine Wp.ret (rB (rT (rT (rB (rB (rT (rT (rB (rB (rT (rT (rB (zN ?_)))))))))))))
          refine leave_none Tryz.results126 ?_
          exact .inr (hjf (by simpa using c32))
        intro c32
        have c32r:=c32
        simp only [bx] at c32
        refine Wp.skip (nB (nT (Wp.region ?_)))
        refine Ro.q (v:=(i q)) rfl rfl (zB f24) rfl ?_
        refine Ro.q rfl rfl (zU rfl rfl (by constructor <;>omega)) rfl ?_
        refine Ro.q (v:=(i (q+1))) rfl rfl (zD rfl) rfl ?_
        refine Ro.nil (nT ?_)
        exact ⟨(t.shi+1-(q+1):Int).toNat,by omega,w31,(pre++[⟨k,g,q⟩]),(q+1),rfl,(by omega),rfl,f20,f21,f22,f23,rfl,H,⟨HF3,hjt (by simpa using c32),fun d=>by rw [List.mem_append,List.mem_singleton,kd_eq,hi29.2.2 d];unfold KdIn;omega⟩⟩
      intro c30
      have c30r:=c30
      simp only [bx] at c30
      refine Wp.exit (xT (xT (xB (nB (nT (Wp.region ?_))))))
      refine Ro.q (v:=(i g)) rfl rfl (zB f23) rfl ?_
      refine Ro.q rfl rfl (zU rfl rfl (by constructor <;>omega)) rfl ?_
      refine Ro.q (v:=(i (g+1))) rfl rfl (zD rfl) rfl ?_
      refine Ro.nil (nT ?_)
      exact ⟨(t.lhi+1-(g+1):Int).toNat,by omega,wb,pre,(g+1),rfl,(by omega),rfl,f20,f21,f22,rfl,H,⟨hi29.1,hi29.2.1,fun d=>by rw [hi29.2.2 d];unfold KdIn;omega⟩⟩
    intro c19
    have c19r:=c19
    simp only [bx] at c19
    refine Wp.exit (xT (xT (xB (nB (nT (Wp.region ?_))))))
    refine Ro.q (v:=(i k)) rfl rfl (zB f12) rfl ?_
    refine Ro.q rfl rfl (zU rfl rfl (by constructor <;>omega)) rfl ?_
    refine Ro.q (v:=(i (k+1))) rfl rfl (zD rfl) rfl ?_
    refine Ro.nil (nT ?_)
    exact ⟨(t.khi+1-(k+1):Int).toNat,by omega,wb,pre,(k+1),rfl,(by omega),rfl,f10,f11,rfl,H,⟨hi18.1,hi18.2.1,fun d=>by rw [hi18.2.2 d];unfold KdIn;omega⟩⟩
  intro c9
  have c9r:=c9
  simp only [bx] at c9
  refine Wp.exit (xT (xT (xB (bodyN ?_))))
  refine leave_none Tryz.results126 ?_
  refine .inl ⟨pre,fun d=>?_,hJ _ _ _ hi8.2.1 H.keep.any⟩
  rw [hi8.2.2 d];unfold KdIn;omega
end Go.Proofs.YthfnjppieihcfaaGreat
namespace Men
open Go Go.Mw
theorem nodup_len : ∀ (N:Nat) (l:List Nat),l.Nodup→(∀ x∈l,x<N)→l.length≤N
  | 0,l,_,h=>by
    cases l with
    | nil=>simp
    | cons x l=>exact absurd (h x (by simp)) (by omega)
  | N+1,l,hd,h=>by
    by_cases hm:N∈l
    · have h1:=nodup_len N (l.erase N) (hd.erase N) (fun x hx=>by
        have:=(List.Nodup.mem_erase_iff hd).1 hx
        have:=h x this.2
        omega)
      have:=List.length_erase_of_mem hm
      omega
    · have:=nodup_len N l hd (fun x hx=>by
        have h1:=h x hx
        have:x≠N:=fun e=>hm (e ▸ hx)
        omega)
      omega
def kdNo (d:Kd):Nat:=(d.k.toNat*6+d.lag.toNat)*4+d.sq.toNat
theorem left_len {t:Tb} (ht:TbR t) {es:Array MapEntry} {clk:Nat} {ps:List (Kd×Rg)} (h:KMap es clk ps) (hk : ∀ q∈ps,KdIn t q.1):es.size≤504:=by
  rw [Ents.size h,List.length_map]
  have hn:(ps.map fun q=>kdNo q.1).Nodup:=by
    have hap:=h.apart
    simp only [List.map_map] at hap
    refine List.pairwise_map.2 ((List.pairwise_map.1 hap).imp_of_mem fun {a b} ha hb hne e=>hne ?_)
    have h1:=hk a ha
    have h2:=hk b hb
    unfold KdIn TbR kdNo at *
    simp only [Function.comp,kvOf]
    have:a.1=b.1:=by
      obtain ⟨⟨ak,al,aq⟩,_⟩:=a
      obtain ⟨⟨bk,bl,bq⟩,_⟩:=b
      simp only [Kd.mk.injEq] at *
      omega
    rw [this]
  have:=nodup_len 504 _ hn (fun x hx=>by
    obtain ⟨q,hq,rfl⟩:=List.mem_map.1 hx
    have h1:=hk q hq
    unfold KdIn TbR kdNo at *
    omega)
  simpa using this
end Men
namespace Go.Mw
open Men
theorem perm5c {A B C D E:List (Nat×Obj)}:(A++(B++(C++(D++E)))).Perm ((A++(B++(D++E)))++C):=by
  simp only [List.append_assoc]
  refine List.Perm.append_left A (List.Perm.append_left B ?_)
  rw [← List.append_assoc D E C]
  exact List.perm_append_comm
theorem perm5d {A B C D E:List (Nat×Obj)}:(A++(B++(C++(D++E)))).Perm ((A++(B++(C++E)))++D):=by
  simp only [List.append_assoc]
  exact List.Perm.append_left A (List.Perm.append_left B (List.Perm.append_left C List.perm_append_comm))
theorem perm_rows {L A B:List (Nat×Obj)}:(L++(A++B)).Perm (A++(B++L)):=by
  rw [← List.append_assoc A B L];exact List.perm_append_comm
theorem perm_r1 {L A B:List (Nat×Obj)}:(L++(A++B)).Perm ((L++B)++A):=by
  rw [List.append_assoc];exact List.Perm.append_left L List.perm_append_comm
theorem perm_r2 {L A B:List (Nat×Obj)}:(L++(A++B)).Perm ((L++A)++B):=by
  rw [List.append_assoc]
variable {P : Program} {N : Nat} {o : Oper} {ρ : Env} {w : World} {K : Value → World → Prop}
theorem Does.lookKd {t e k b:Nat} {es:Array MapEntry} {clk:Nat} {ps:List (Kd×Rg)} {x y:Operand} {d:Kd} (ho:o.op = .lookup t x y true) (ht:P.underlying t=some (.map k e)) (hK:KeyT P k IsKd) (hb:w.heap[b]? = some (.map es clk)) (hE:KMap es clk ps)
    (hx:ev N ρ x = .map (some b)) (hy:ev N ρ y=uE d) (hd:IsKd (uE d)) (hz:ZV P e (.agg #[iv 0,iv 0]))
    (hk : ∀ (r:Rg) (is:Bool),((is=true∧(d,r)∈ps)∨(is=false∧r=⟨0,0⟩∧∀ r',(d,r') ∉ ps))→K (.tuple #[.agg #[iv r.lo,iv r.hi],.bool is]) w):Does P N o ρ w K:=by
  obtain ⟨r,is,h1,h2⟩:=r_lookKd (ρ:=ρ) (N:=N) ht hK hb hE hx hy hd hz
  exact Runs.does (by rw [ho];exact h1) (hk r is h2)
end Go.Mw
namespace Go.Proofs.YthfnjppieihcfaaGreat
open Go.RowKit Go.Proofs Go.Mw
theorem en100:Go.Proofs.Enters Tryz.prog 100:=Go.Proofs.enters_of Tryz.func100 (by kernel_rfl) rfl
theorem en126:Go.Proofs.Enters Tryz.prog 126:=Go.Proofs.enters_of Tryz.func126 (by kernel_rfl) rfl
theorem en99:Go.Proofs.Enters Tryz.prog 99:=Go.Proofs.enters_of Tryz.func99 (by kernel_rfl) rfl
theorem sz134 : ∀ w,(sizeOf 134).run Tryz.prog w = .ok 1 w:=fun _=>by kernel_rfl
theorem sz137 : ∀ w,(sizeOf 137).run Tryz.prog w = .ok 3 w:=fun _=>by kernel_rfl
theorem t1_134:T1 Tryz.prog 134:=⟨Tryz.isAgg134,fun _=>by kernel_rfl⟩
theorem zv134:ZV Tryz.prog 134 (.map none):=Tryz.zeroValue134
theorem zv137:ZV Tryz.prog 137 (.agg #[(i 0),(i 0),(i 0)]):=Tryz.zeroValue137
open Men
theorem law137:WideMaps.KeyLaw Tryz.prog 137:=deep_law_laid laid (m:=3) (by omega) (of_decide_eq_true (by kernel_rfl)) (by kernel_rfl) (by rw [Tryz.underlying137])
theorem kt137:Tryz.prog.keyType 137=true:=by kernel_rfl
theorem co137:Tryz.prog.cellsOf 137=3:=by kernel_rfl
theorem key137 {v:Value} (h:IsKd v) : ∃ l,keyOf Tryz.prog 137 v=some l:=by
  obtain ⟨⟨a,b,c⟩,rfl,ha,hb,hc⟩:=h
  have h1:=wf_int ha
  have h2:=wf_int hb
  have h3:=wf_int hc
  refine ⟨.string (keyBytes [.int .i64 a,.int .i64 b,.int .i64 c]),?_⟩
  unfold keyOf
  obtain ⟨n,hn⟩:=types_size
  rw [Tryz.underlying137,hn]
  simp only [kt137,Value.formed,Tryz.underlying137,co137,uE,Value.cells]
  simp only [Program.keyLits,Tryz.underlying137,Tryz.underlying3,co137,co3]
  simp [h1,h2,h3,co3,Tryz.underlying3]
theorem keyKd:KeyT Tryz.prog 137 IsKd:=KeyT.of law137 fun _ h=>key137 h
set_option maxHeartbeats 4000000 in
theorem c69 {t:Tb} {ab ad ah ai:Option Addr} {h:List Rg} {ices:List Ice} {cab cad cah cai:Nat} {az:Option Addr} {caz:Nat} {l:List Rdg} {al:Option Addr} {cal:Nat} {x0:Rdg} (w:World) (hab:Sl w 3 (t.bs.map yH) ab) (had:Sl w 2 (t.dl.map zZ) ad) (hal:Sl w 10 (l.map rdV) al) (htb:TbR t) (hrdl : ∀ x∈l,RdR x) (hl5:l.length≤5) (hx1:l[(0:Int).toNat]? = some x0):Ret Tryz.prog 69 [(.agg (zX t h ices ab cab ad cad ah cah ai cai az caz).toArray),(.slice al l.length cal)] w fun v w'=>∃ b es ck ps pre,v = .map (some b)∧S Nm w [(b,.map es ck)] w'∧KMap es ck ps∧(∀ d,d∈pre↔KdIn t d)∧LeftIs l (wr t x0).lo (wr t x0).hi pre ps:=by
  have hrd:RdR x0:=hrdl x0 (List.mem_of_getElem? hx1)
  have hwi:=wr_in htb hrd
  have hll:0<(l.length:Int):=by have:=(List.getElem?_eq_some_iff.1 hx1).1;omega
  refine Ret.body (N:=54) Tryz.func69 rfl Tryz.ntmps69 rfl ?_
  have H:=S.start Nm w
  refine Wp.seq (Wp.region ?_)
  refine Ro.d rfl rfl rfl (H.box (l:=(zX t h ices ab cab ad cad ah cah ai cai az caz)) rfl (v:=(.agg (zX t h ices ab cab ad cad ah cah ai cai az caz).toArray)) rfl rfl ?_)
  intro b1 w2 Hn;replace H:=Hn;clear Hn
  refine Ro.d rfl rfl rfl (H.box (l:=[.slice al l.length cal]) rfl (v:=(.slice al l.length cal)) rfl rfl ?_)
  intro b3 w4 Hn;replace H:=Hn;clear Hn
  refine Ro.q (v:=(.map none)) rfl rfl (zD rfl) rfl ?_
  refine Ro.nil (nT (Wp.seq (Wp.region ?_)))
  refine Ro.d rfl rfl rfl (H.makeMap rfl ?_)
  intro bm5 w6 Hn;replace H:S Nm w [(bm5,.map #[] 0),(b3,.cells [.slice al l.length cal].toArray 63 (0,0)),(b1,.cells (zX t h ices ab cab ad cad ah cah ai cai az caz).toArray 116 (0,0))] w6:=Hn;clear Hn
  refine Ro.d rfl rfl rfl (H.new (l:=[.map none]) rfl zv134 rfl ?_)
  intro b7 w8 Hn;replace H:=Hn;clear Hn
  refine Ro.d0 rfl rfl rfl (H.store (j:=0) (off:=0) (k:=1) rfl sz134 rfl (v:=(.map (some bm5))) rfl rfl rfl rfl rfl (by simp [Value.oneCell']) (cs':=[.map (some bm5)]) rfl ?_)
  intro w9 Hn;replace H:=Hn;clear Hn
  refine Ro.nil (nT (Wp.seq (Wp.seq (Wp.region ?_))))
  refine Ro.q (v:=(p b1 0)) rfl rfl (zA fo116_0 rfl rfl) rfl ?_
  refine Ro.q rfl rfl (zJ ta45 rfl (H.cells 3 rfl) (j:=0) rfl (vs:=(tbC t ab cab ad cad)) rfl rfl) rfl ?_
  refine Ro.d rfl rfl rfl (zH rfl en99 (ce (v:=(.agg (tbC t ab cab ad cad).toArray)) rfl cn) (c99 _) ?_)
  rintro u w10 k11 ⟨bk,rfl,hck,hbk⟩
  have Hold:=H
  replace H:=H.ext k11
  refine Ro.nil (nT (Wp.block ?_))
  let LF:List (Nat×Obj):=[(b7,.cells [.map (some bm5)].toArray 134 (0,0)),(bm5,.map #[] 0),(b3,.cells [.slice al l.length cal].toArray 63 (0,0)),(b1,.cells (zX t h ices ab cab ad cad ah cah ai cai az caz).toArray 116 (0,0))]
  refine Wp.rangeG (α:=Kd) (Ok:=fun pre d=>d ∉ pre) (gf:=126) (cv:=[p bk 0]) (enc:=uE) (Mem:=KdIn t) rfl en126 (Of LF) H.ofBelow (fun pre W=>∃ en1 ck1 ps1,S Nm w [(b7,.cells [.map (some bm5)].toArray 134 (0,0)),(bm5,.map en1 ck1),(b3,.cells [.slice al l.length cal].toArray 63 (0,0)),(b1,.cells (zX t h ices ab cab ad cad ah cah ai cai az caz).toArray 116 (0,0))] W∧KMap en1 ck1 ps1∧LeftIs l (wr t x0).lo (wr t x0).hi pre ps1) (fun _ _=>False) ?_ ?_ ?_ ?_ ?_ ?_ ?_
  · rintro pre w1 w2 ⟨en1,ck1,ps1,h1,h2,h3⟩ k;exact ⟨en1,ck1,ps1,h1.later (H.belowK rfl) H.keep.size k,h2,h3⟩
  · rintro _ _ _ h;exact h.elim
  · exact ⟨#[],0,([]:List (Kd×Rg)),H,KMap.nil,LeftIs.start⟩
  · intro w1 k1
    have m1 : ¬ (Of LF bk∨(w10.heap.size≤bk∧bk<w1.heap.size)):=by
      rintro (h | h)
      · have:=Hold.ofBelow _ h;omega
      · have:=hck.lt;omega
    exact c126 w1 (hck.ext k1) m1 htb
  · rintro lb pre d W hl hlW ⟨en1,ck1,ps1,H0,hE1,hL1⟩ hd0 hnin
    have hd:((0≤d.k∧d.k≤20)∧(0≤d.lag∧d.lag≤5)∧(0≤d.sq∧d.sq≤3)):=by unfold KdIn at hd0;unfold TbR at htb;omega
    have hdk:IsKd (uE d):=⟨d,rfl,by omega,by omega,by omega⟩
    have hkk:([(b7,.cells [.map (some bm5)].toArray 134 (0,0)),(bm5,.map en1 ck1),(b3,.cells [.slice al l.length cal].toArray 63 (0,0)),(b1,.cells (zX t h ices ab cab ad cad ah cah ai cai az caz).toArray 116 (0,0))]:List (Nat×Obj)).map (·.1)=LF.map (·.1):=rfl
    have Hsz:=H.keep.size
    have Hbl : ∀ q∈([(b7,.cells [.map (some bm5)].toArray 134 (0,0)),(bm5,.map en1 ck1),(b3,.cells [.slice al l.length cal].toArray 63 (0,0)),(b1,.cells (zX t h ices ab cab ad cad ah cah ai cai az caz).toArray 116 (0,0))]:List (Nat×Obj)),q.1<w10.heap.size:=H.belowK hkk
    have H:S (Of LF) W [(b7,.cells [.map (some bm5)].toArray 134 (0,0)),(bm5,.map en1 ck1),(b3,.cells [.slice al l.length cal].toArray 63 (0,0)),(b1,.cells (zX t h ices ab cab ad cad ah cah ai cai az caz).toArray 116 (0,0))] W:=H0.roundK hkk
    refine Wp.region ?_
    refine Ro.d rfl rfl rfl (H.new (l:=[i 0,i 0,i 0]) rfl zv137 rfl ?_)
    intro b12 w13 Hn;replace H:=Hn;clear Hn
    refine Ro.d0 rfl rfl rfl (H.store (j:=0) (off:=0) (k:=3) rfl sz137 rfl (v:=(.agg #[(i d.k),(i d.lag),(i d.sq)])) rfl rfl rfl rfl rfl (by simp [Value.oneCell']) (cs':=[i d.k,i d.lag,i d.sq]) rfl ?_)
    intro w14 Hn;replace H:=Hn;clear Hn
    refine Ro.nil ⟨rfl,H.keep,?_⟩
    intro W2 k2
    have n9 : ¬ Of LF b12:=fun h=>S.top H ((of_keys hkk).2 h)
    have z9:W.heap.size≤b12:=(H.fresh (b12,_) (List.mem_cons_self ..)).elim id (fun h=>absurd h n9)
    have hc9:Cells W2 b12 0 [i d.k,i d.lag,i d.sq]:=(H.cells 0 rfl).keep (fun h=>by have h:b12=lb:=h;omega) k2
    have H2:S Nm w [(b7,.cells [.map (some bm5)].toArray 134 (0,0)),(bm5,.map en1 ck1),(b3,.cells [.slice al l.length cal].toArray 63 (0,0)),(b1,.cells (zX t h ices ab cab ad cad ah cah ai cai az caz).toArray 116 (0,0))] W2:=(H0.unroundK hkk H.tail).extM k2 (fun q hq e0=>by have:=Hbl q hq;omega) (fun q hq e0=>by omega)
    clear H
    have H:S (Of LF) W2 [(b7,.cells [.map (some bm5)].toArray 134 (0,0)),(bm5,.map en1 ck1),(b3,.cells [.slice al l.length cal].toArray 63 (0,0)),(b1,.cells (zX t h ices ab cab ad cad ah cah ai cai az caz).toArray 116 (0,0))] W2:=H2.roundK hkk
    refine Wp.block (Wp.seq ?_)
    have hMo:Mono [is (p b1 0),is (.agg (tbC t ab cab ad cad).toArray),is (.slice al l.length cal),is (p (blk al) (yP al+((0:Int).toNat)*10)),is (.agg #[(i x0.day),(i x0.shown),(i x0.err),(i x0.bare),(i x0.alo),(i x0.ahi),(i x0.rlo),(i x0.rhi),(i x0.deep),(.bool x0.broken)]),is (.agg #[(i t.base),(.slice ab t.bs.length cab),(.slice ad t.dl.length cad),(i t.blo),(i t.bhi),(i t.klo),(i t.khi),(i t.llo),(i t.lhi),(i t.slo),(i t.shi),(i t.term),(i x0.day),(i x0.shown),(i x0.err),(i x0.bare),(i x0.alo),(i x0.ahi),(i x0.rlo),(i x0.rhi),(i x0.deep),(.bool x0.broken)]),is (.agg #[(i ((wr t x0).lo)),(i ((wr t x0).hi))]),fun _ _=>True]:=(Mi (Mi (Mi (Mi (Mi (Mi (Mi (Mono.c Mono.nil))))))))
    have hBB : ∀ (done:Nat→Bool) (ρ':Env) (w':World),(∃ bA7:Nat,(done 7=true→ρ' 7=p bA7 0)∧S (Of LF) W2 ((bif done 7 then [(bA7,(.cells [i 0,i 0].toArray 41 (0,0):Obj))] else [])++[(b7,.cells [.map (some bm5)].toArray 134 (0,0)),(bm5,.map en1 ck1),(b3,.cells [.slice al l.length cal].toArray 63 (0,0)),(b1,.cells (zX t h ices ab cab ad cad ah cah ai cai az caz).toArray 116 (0,0))]) w')→S (Of LF) W2 [(b7,.cells [.map (some bm5)].toArray 134 (0,0)),(bm5,.map en1 ck1),(b3,.cells [.slice al l.length cal].toArray 63 (0,0)),(b1,.cells (zX t h ices ab cab ad cad ah cah ai cai az caz).toArray 116 (0,0))] w':=fun done ρ' w' ⟨bA7,eA7,Hn⟩=>Hn.part
    refine Wp.drawnG 8 [0,1,0,4,12,31,63,0,255] [is (p b1 0),is (.agg (tbC t ab cab ad cad).toArray),is (.slice al l.length cal),is (p (blk al) (yP al+((0:Int).toNat)*10)),is (.agg #[(i x0.day),(i x0.shown),(i x0.err),(i x0.bare),(i x0.alo),(i x0.ahi),(i x0.rlo),(i x0.rhi),(i x0.deep),(.bool x0.broken)]),is (.agg #[(i t.base),(.slice ab t.bs.length cab),(.slice ad t.dl.length cad),(i t.blo),(i t.bhi),(i t.klo),(i t.khi),(i t.llo),(i t.lhi),(i t.slo),(i t.shi),(i t.term),(i x0.day),(i x0.shown),(i x0.err),(i x0.bare),(i x0.alo),(i x0.ahi),(i x0.rlo),(i x0.rhi),(i x0.deep),(.bool x0.broken)]),is (.agg #[(i ((wr t x0).lo)),(i ((wr t x0).hi))]),fun _ _=>True] (fun done ρ' w'=>∃ bA7:Nat,(done 7=true→ρ' 7=p bA7 0)∧S (Of LF) W2 ((bif done 7 then [(bA7,(.cells [i 0,i 0].toArray 41 (0,0):Obj))] else [])++[(b7,.cells [.map (some bm5)].toArray 134 (0,0)),(bm5,.map en1 ck1),(b3,.cells [.slice al l.length cal].toArray 63 (0,0)),(b1,.cells (zX t h ices ab cab ad cad ah cah ai cai az caz).toArray 116 (0,0))]) w') (by kernel_rfl) (by kernel_rfl) rfl (fun w' k=>⟨0,(fun h=>by cases h),H.ext k⟩) ?_ ?_
    · refine ⟨?_,?_,?_,?_,?_,?_,?_,?_,trivial⟩
      · exact ObG.to hBB hMo (fun _ _ _ _ _ ⟨bA7,eA7,Hn⟩ k=>⟨bA7,eA7,Hn.ext k⟩) (Ob.q rfl (fun _ _ B U D=>(zA fo116_0 (show (_:Value)=(p b1 0) from U 2 rfl) rfl)) rfl rfl)
      · exact ObG.to hBB hMo (fun _ _ _ _ _ ⟨bA7,eA7,Hn⟩ k=>⟨bA7,eA7,Hn.ext k⟩) (Ob.q rfl (fun _ _ B U D=>(zJ ta45 (D 0 rfl) (B.cells 3 rfl) (j:=0) rfl (vs:=(tbC t ab cab ad cad)) rfl rfl)) rfl rfl)
      · exact ObG.to hBB hMo (fun _ _ _ _ _ ⟨bA7,eA7,Hn⟩ k=>⟨bA7,eA7,Hn.ext k⟩) (Ob.q rfl (fun _ _ B U D=>(zE t1_63 (show (_:Value)=(p b3 0) from U 3 rfl) (B.cells 2 rfl) (j:=0) rfl rfl)) rfl rfl)
      · exact ObG.to hBB hMo (fun _ _ _ _ _ ⟨bA7,eA7,Hn⟩ k=>⟨bA7,eA7,Hn.ext k⟩) (Ob.q rfl (fun _ _ B U D=>(zY ts63 (hal.oldK H2 hkk B.keep) (D 2 rfl) (by first | (simp;done) | (simp;omega)) rfl (by omega) (zW hx1))) rfl rfl)
      · exact ObG.to hBB hMo (fun _ _ _ _ _ ⟨bA7,eA7,Hn⟩ k=>⟨bA7,eA7,Hn.ext k⟩) (Ob.q rfl (fun _ _ B U D=>(zJ ta52 (D 3 rfl) ((hal.oldK H2 hkk B.keep).cells (zW hx1)) (j:=0) rfl (vs:=[i x0.day,i x0.shown,i x0.err,i x0.bare,i x0.alo,i x0.ahi,i x0.rlo,i x0.rhi,i x0.deep,.bool x0.broken]) rfl rfl)) rfl rfl)
      · exact ObG.to hBB hMo (fun _ _ _ _ _ ⟨bA7,eA7,Hn⟩ k=>⟨bA7,eA7,Hn.ext k⟩) (Ob.q rfl (fun _ _ B U D=>(zP (v:=(.agg #[(i t.base),(.slice ab t.bs.length cab),(.slice ad t.dl.length cad),(i t.blo),(i t.bhi),(i t.klo),(i t.khi),(i t.llo),(i t.lhi),(i t.slo),(i t.shi),(i t.term),(i x0.day),(i x0.shown),(i x0.err),(i x0.bare),(i x0.alo),(i x0.ahi),(i x0.rlo),(i x0.rhi),(i x0.deep),(.bool x0.broken)])) (pe (v:=(.agg (tbC t ab cab ad cad).toArray)) (D 1 rfl) (pe (v:=(.agg #[(i x0.day),(i x0.shown),(i x0.err),(i x0.bare),(i x0.alo),(i x0.ahi),(i x0.rlo),(i x0.rhi),(i x0.deep),(.bool x0.broken)])) (D 4 rfl) pn)) (fun w=>by kernel_rfl))) rfl rfl)
      · exact ObG.to hBB hMo (fun _ _ _ _ _ ⟨bA7,eA7,Hn⟩ k=>⟨bA7,eA7,Hn.ext k⟩) (Ob.mk rfl fun ρ' w' B U D=>zH rfl en91 (ce (v:=(.agg #[(i t.base),(.slice ab t.bs.length cab),(.slice ad t.dl.length cad),(i t.blo),(i t.bhi),(i t.klo),(i t.khi),(i t.llo),(i t.lhi),(i t.slo),(i t.shi),(i t.term),(i x0.day),(i x0.shown),(i x0.err),(i x0.bare),(i x0.alo),(i x0.ahi),(i x0.rlo),(i x0.rhi),(i x0.deep),(.bool x0.broken)])) (D 5 rfl) cn) (c91w (x:=x0) _ (hab.oldK H2 hkk B.keep) (had.oldK H2 hkk B.keep) htb hrd) (fun u w2 k2 hu=>⟨k2,hu⟩))
      · refine ObG.sp rfl fun done ρ' w' hW U hcl hnd hwt D=>?_
        obtain ⟨bA7,eA7,Hn⟩:=hW
        simp only [hnd,cond_false,List.nil_append] at Hn
        refine Hn.newK (l:=[i 0,i 0]) rfl zv41 rfl ?_
        intro bN w2 k Hm
        refine ⟨(fun q u hq=>hMo q u _ _ k hq),trivial,bN,(fun _=>rfl),?_⟩
        show S (Of LF) W2 ([(bN,(.cells [i 0,i 0].toArray 41 (0,0):Obj))]++[(b7,.cells [.map (some bm5)].toArray 134 (0,0)),(bm5,.map en1 ck1),(b3,.cells [.slice al l.length cal].toArray 63 (0,0)),(b1,.cells (zX t h ices ab cab ad cad ah cah ai cai az caz).toArray 116 (0,0))]) w2
        exact Hm
    rintro ρ15 w16 ⟨b20,eA7,Hn⟩ U18 D19
    replace H:S (Of LF) W2 [(b20,.cells [i 0,i 0].toArray 41 (0,0)),(b7,.cells [.map (some bm5)].toArray 134 (0,0)),(bm5,.map en1 ck1),(b3,.cells [.slice al l.length cal].toArray 63 (0,0)),(b1,.cells (zX t h ices ab cab ad cad ah cah ai cai az caz).toArray 116 (0,0))] w16:=Hn;clear Hn hMo hBB
    have f21:ρ15 0=(.agg (zX t h ices ab cab ad cad ah cah ai cai az caz).toArray):=U18 0 rfl
    have f22:ρ15 1=(.slice al l.length cal):=U18 1 rfl
    have f23:ρ15 2=(p b1 0):=U18 2 rfl
    have f24:ρ15 3=(p b3 0):=U18 3 rfl
    have f25:ρ15 4=(.map none):=U18 4 rfl
    have f26:ρ15 5=(p b7 0):=U18 5 rfl
    have f27:ρ15 6=(p b12 0):=U18 6 rfl
    have f28:ρ15 11=(.map (some bm5)):=U18 11 rfl
    have f29:ρ15 12=(p b1 0):=U18 12 rfl
    have f30:ρ15 13=(.agg (tbC t ab cab ad cad).toArray):=U18 13 rfl
    have f31:ρ15 14=(.func (.func 126) #[] #[(p bk 0)]):=U18 14 rfl
    have f32:ρ15 15=(.agg #[(i d.k),(i d.lag),(i d.sq)]):=U18 15 rfl
    have f33:ρ15 7=p b20 0:=eA7 rfl
    have f34:ρ15 22=(.agg #[(i ((wr t x0).lo)),(i ((wr t x0).hi))]):=D19 6 rfl
    clear U18 D19
    clear eA7
    refine Ro.d0 rfl rfl rfl (H.store (j:=0) (off:=0) (k:=2) rfl sz41 f33 (v:=(.agg #[(i ((wr t x0).lo)),(i ((wr t x0).hi))])) f34 rfl rfl rfl rfl (by simp [Value.oneCell']) (cs':=[i ((wr t x0).lo),i ((wr t x0).hi)]) rfl ?_)
    intro w35 Hn;replace H:S (Of LF) W2 [(b20,.cells [i ((wr t x0).lo),i ((wr t x0).hi)].toArray 41 (0,0)),(b7,.cells [.map (some bm5)].toArray 134 (0,0)),(bm5,.map en1 ck1),(b3,.cells [.slice al l.length cal].toArray 63 (0,0)),(b1,.cells (zX t h ices ab cab ad cad ah cah ai cai az caz).toArray 116 (0,0))] w35:=Hn;clear Hn
    refine Ro.nil (nT (Wp.seq (Wp.region ?_)))
    refine Ro.q (v:=(p b20 0)) rfl rfl (zA yV f33 rfl) rfl ?_
    refine Ro.q rfl rfl (zE zM rfl (H.cells 0 rfl) (j:=0) rfl rfl) rfl ?_
    refine Ro.d rfl rfl rfl (H.new (l:=[i 0]) rfl zv3 rfl ?_)
    intro b36 w37 Hn;replace H:=Hn;clear Hn
    refine Ro.d0 rfl rfl rfl (H.store (j:=0) (off:=0) (k:=1) rfl sz3 rfl (v:=(i ((wr t x0).lo))) rfl rfl rfl rfl rfl (by simp [Value.oneCell']) (cs':=[i ((wr t x0).lo)]) rfl ?_)
    intro w38 Hn;replace H:=Hn;clear Hn
    refine Ro.nil (nT (Wp.block ?_))
    refine Wp.loop (fun kM ds ρ w'=>∃ n:Int,∃ b8:Nat,∃ en:Array MapEntry,∃ ck:Nat,∃ ps:List (Kd×Rg),ds=[]∧((wr t x0).lo≤n∧n≤(wr t x0).hi+1)∧kM=((wr t x0).hi+1-n:Int).toNat∧ρ 0=(.agg (zX t h ices ab cab ad cad ah cah ai cai az caz).toArray)∧ρ 1=(.slice al l.length cal)∧ρ 2=(p b1 0)∧ρ 3=(p b3 0)∧ρ 4=(.map none)∧ρ 5=(p b7 0)∧ρ 6=(p b12 0)∧ρ 7=(p b20 0)∧ρ 11=(.map (some bm5))∧ρ 12=(p b1 0)∧ρ 13=(.agg (tbC t ab cab ad cad).toArray)∧ρ 14=(.func (.func 126) #[] #[(p bk 0)])∧ρ 15=(.agg #[(i d.k),(i d.lag),(i d.sq)])∧ρ 22=(.agg #[(i ((wr t x0).lo)),(i ((wr t x0).hi))])∧ρ 23=(p b20 0)∧ρ 24=(i ((wr t x0).lo))∧ρ 8=(p b8 0)∧S (Of LF) W2 [(b8,.cells [i n].toArray 3 (0,0)),(b20,.cells [i ((wr t x0).lo),i ((wr t x0).hi)].toArray 41 (0,0)),(b7,.cells [.map (some bm5)].toArray 134 (0,0)),(bm5,.map en ck),(b3,.cells [.slice al l.length cal].toArray 63 (0,0)),(b1,.cells (zX t h ices ab cab ad cad ah cah ai cai az caz).toArray 116 (0,0))] w'∧(KMap en ck ps∧LeftAt l (wr t x0).lo (wr t x0).hi pre d n ps)) (((wr t x0).hi+1-((wr t x0).lo):Int).toNat) ⟨((wr t x0).lo),b36,en1,ck1,ps1,rfl,(by omega),rfl,f21,f22,f23,f24,f25,f26,f27,f33,f28,f29,f30,f31,f32,f34,rfl,rfl,rfl,H,⟨hE1,LeftAt.start hL1 hnin⟩⟩ ?_
    clear H
    intro kρ56 dsρ56 ρ56 w57
    rintro ⟨n,b8,en,ck,ps,rfl,hb59,hk58,f39,f40,f41,f42,f43,f44,f45,f46,f47,f48,f49,f50,f51,f52,f53,f54,f55,H,hi60⟩
    refine Wp.seq (Wp.seq (Wp.region ?_))
    refine Ro.q rfl rfl (zE zM f55 (H.cells 0 rfl) (j:=0) rfl rfl) rfl ?_
    refine Ro.q (v:=(p b20 1)) rfl rfl (zA yZ f46 rfl) rfl ?_
    refine Ro.q rfl rfl (zE zM rfl (H.cells 1 rfl) (j:=1) rfl rfl) rfl ?_
    refine Ro.q rfl rfl (vD rfl rfl) rfl ?_
    refine Ro.nil (nT ?_)
    refine Wp.cond (t:=decide (n≤((wr t x0).hi))) rfl ?_ ?_
    · intro c61
      have c61r:=c61
      simp only [bx] at c61
      refine Wp.skip (nT (Wp.seq (Wp.block (Wp.seq (Wp.seq (Wp.region ?_))))))
      refine Ro.q rfl rfl (zE t1_63 f42 (H.cells 4 rfl) (j:=0) rfl rfl) rfl ?_
      refine Ro.q (v:=(.func (.func 100) #[] #[(p b1 0),(p b12 0),(p b8 0)])) rfl rfl (uH cn (ce (v:=(p b1 0)) f41 (ce (v:=(p b12 0)) f45 (ce (v:=(p b8 0)) f55 cn)))) rfl ?_
      refine Ro.d rfl rfl rfl (zH rfl en97 (ce (v:=(.slice al l.length cal)) rfl (ce (v:=(.func (.func 100) #[] #[(p b1 0),(p b12 0),(p b8 0)])) rfl cn)) (c97 (fi:=100) (cv:=[p b1 0,p b12 0,p b8 0]) (φ:=fun x=>saysB x d n) _ (hal.oldK H2 hkk H.keep) (by omega) en100 (fun e he w2 k=>c100 (x:=e) (d:=d) (n:=n) _ ((hab.oldK H2 hkk H.keep).ext k) ((had.oldK H2 hkk H.keep).ext k) ((H.cells 5 rfl).ext k) ((hc9.keep n9 H.keep).ext k) ((H.cells 0 rfl).ext k) (hrdl e he) hd)) ?_)
      intro u w62 k63 hu;subst hu;replace H:=H.ext k63
      clear k63
      refine Ro.q rfl rfl (yN rfl) rfl ?_
      refine Ro.nil (nT ?_)
      refine Wp.cond (t:=!(l.all fun x=>saysB x d n)) rfl ?_ ?_
      · intro c64
        have c64r:=c64
        simp only [bx] at c64
        refine Wp.exit (xT (xB (nT (Wp.seq (Wp.seq (Wp.region ?_))))))
        refine Ro.q rfl rfl (zE zM f55 (H.cells 0 rfl) (j:=0) rfl rfl) rfl ?_
        refine Ro.nil (nT (Wp.region ?_))
        refine Ro.d rfl rfl rfl (H.new (l:=[i 0]) rfl zv3 rfl ?_)
        intro b65 w66 Hn;replace H:=Hn;clear Hn
        refine Ro.d0 rfl rfl rfl (H.store (j:=0) (off:=0) (k:=1) rfl sz3 rfl (v:=(i n)) rfl rfl rfl rfl rfl (by simp [Value.oneCell']) (cs':=[i n]) rfl ?_)
        intro w67 Hn;replace H:=Hn;clear Hn
        refine Ro.nil (nT (Wp.region ?_))
        refine Ro.q rfl rfl (zE zM rfl (H.cells 0 rfl) (j:=0) rfl rfl) rfl ?_
        refine Ro.q rfl rfl (zU rfl rfl (by constructor <;>omega)) rfl ?_
        refine Ro.d0 rfl rfl rfl (H.store (j:=0) (off:=0) (k:=1) rfl sz3 rfl (v:=(i (n+1))) rfl rfl rfl rfl rfl (by simp [Value.oneCell']) (cs':=[i (n+1)]) rfl ?_)
        intro w68 Hn;replace H:S (Of LF) W2 [(b65,.cells [i (n+1)].toArray 3 (0,0)),(b8,.cells [i n].toArray 3 (0,0)),(b20,.cells [i ((wr t x0).lo),i ((wr t x0).hi)].toArray 41 (0,0)),(b7,.cells [.map (some bm5)].toArray 134 (0,0)),(bm5,.map en ck),(b3,.cells [.slice al l.length cal].toArray 63 (0,0)),(b1,.cells (zX t h ices ab cab ad cad ah cah ai cai az caz).toArray 116 (0,0))] w68:=Hn;clear Hn
        refine Ro.nil (nT ?_)
        replace H:=S.sublist (L':=[(b65,.cells [i (n+1)].toArray 3 (0,0)),(b20,.cells [i ((wr t x0).lo),i ((wr t x0).hi)].toArray 41 (0,0)),(b7,.cells [.map (some bm5)].toArray 134 (0,0)),(bm5,.map en ck),(b3,.cells [.slice al l.length cal].toArray 63 (0,0)),(b1,.cells (zX t h ices ab cab ad cad ah cah ai cai az caz).toArray 116 (0,0))]) H (.cons_cons _ (.cons _ (.cons_cons _ (.cons_cons _ (.cons_cons _ (.cons_cons _ (.cons_cons _ (List.Sublist.refl _))))))))
        exact ⟨((wr t x0).hi+1-(n+1):Int).toNat,by omega,(n+1),b65,en,ck,ps,rfl,(by omega),rfl,f39,f40,f41,f42,f43,f44,f45,f46,f47,f48,f49,f50,f51,f52,f53,f54,rfl,H,⟨hi60.1,LeftAt.no hi60.2 (all_says_no.1 c64)⟩⟩
      intro c64
      have c64r:=c64
      simp only [bx] at c64
      refine Wp.skip (nT (Wp.seq (Wp.region ?_)))
      refine Ro.q rfl rfl (zE t1_134 f44 (H.cells 2 rfl) (j:=0) rfl rfl) rfl ?_
      refine Ro.q rfl rfl (zJ ta137 f45 (hc9.keep n9 H.keep) (j:=0) rfl (vs:=[i d.k,i d.lag,i d.sq]) rfl rfl) rfl ?_
      refine Ro.d rfl rfl rfl (Does.lookKd (d:=d) rfl Tryz.underlying134 keyKd (H.at 3 rfl) hi60.1 rfl rfl hdk zv41 ?_)
      intro r0 is0 hlk
      refine Ro.q (v:=(.tuple #[(.agg #[(i r0.lo),(i r0.hi)]),(.bool is0)])) rfl rfl (zB rfl) rfl ?_
      refine Ro.q (v:=(.agg #[(i r0.lo),(i r0.hi)])) rfl rfl (zO rfl (j:=0) rfl) rfl ?_
      refine Ro.q (v:=(.bool is0)) rfl rfl (zO rfl (j:=1) rfl) rfl ?_
      refine Ro.d rfl rfl rfl (H.new (l:=[i 0,i 0]) rfl zv41 rfl ?_)
      intro b69 w70 Hn;replace H:=Hn;clear Hn
      refine Ro.d0 rfl rfl rfl (H.store (j:=0) (off:=0) (k:=2) rfl sz41 rfl (v:=(.agg #[(i r0.lo),(i r0.hi)])) rfl rfl rfl rfl rfl (by simp [Value.oneCell']) (cs':=[i r0.lo,i r0.hi]) rfl ?_)
      intro w71 Hn;replace H:=Hn;clear Hn
      refine Ro.q (v:=(.bool is0)) rfl rfl (zD rfl) rfl ?_
      refine Ro.nil (nT (Wp.seq (Wp.seq (Wp.region ?_))))
      refine Ro.q (v:=(.bool is0)) rfl rfl (zB rfl) rfl ?_
      refine Ro.q rfl rfl (yN rfl) rfl ?_
      refine Ro.nil (nT ?_)
      refine Wp.cond (t:=!is0) rfl ?_ ?_
      · intro c72
        have c72r:=c72
        simp only [bx] at c72
        refine Wp.region ?_
        refine Ro.q rfl rfl (zE zM f55 (H.cells 1 rfl) (j:=0) rfl rfl) rfl ?_
        refine Ro.q rfl rfl (zE zM f55 (H.cells 1 rfl) (j:=0) rfl rfl) rfl ?_
        refine Ro.q (v:=(.agg #[(i n),(i n)])) rfl rfl (zP (v:=(.agg #[(i n),(i n)])) (pe (v:=(i n)) rfl (pe (v:=(i n)) rfl pn)) (fun w=>by kernel_rfl)) rfl ?_
        refine Ro.d0 rfl rfl rfl (H.store (j:=0) (off:=0) (k:=2) rfl sz41 rfl (v:=(.agg #[(i n),(i n)])) rfl rfl rfl rfl rfl (by simp [Value.oneCell']) (cs':=[i n,i n]) rfl ?_)
        intro w73 Hn;replace H:S (Of LF) W2 [(b69,.cells [i n,i n].toArray 41 (0,0)),(b8,.cells [i n].toArray 3 (0,0)),(b20,.cells [i ((wr t x0).lo),i ((wr t x0).hi)].toArray 41 (0,0)),(b7,.cells [.map (some bm5)].toArray 134 (0,0)),(bm5,.map en ck),(b3,.cells [.slice al l.length cal].toArray 63 (0,0)),(b1,.cells (zX t h ices ab cab ad cad ah cah ai cai az caz).toArray 116 (0,0))] w73:=Hn;clear Hn
        refine Ro.nil (nT (Wp.region ?_))
        refine Ro.q rfl rfl (zE t1_134 f44 (H.cells 3 rfl) (j:=0) rfl rfl) rfl ?_
        refine Ro.q rfl rfl (zJ ta137 f45 (hc9.keep n9 H.keep) (j:=0) rfl (vs:=[i d.k,i d.lag,i d.sq]) rfl rfl) rfl ?_
        refine Ro.q (v:=(p b69 0)) rfl rfl (zA yV rfl rfl) rfl ?_
        refine Ro.q rfl rfl (zE zM rfl (H.cells 0 rfl) (j:=0) rfl rfl) rfl ?_
        refine Ro.q rfl rfl (zE zM f55 (H.cells 1 rfl) (j:=0) rfl rfl) rfl ?_
        refine Ro.q (v:=(.agg #[(i n),(i n)])) rfl rfl (zP (v:=(.agg #[(i n),(i n)])) (pe (v:=(i n)) rfl (pe (v:=(i n)) rfl pn)) (fun w=>by kernel_rfl)) rfl ?_
        refine Ro.d0 rfl rfl rfl (H.mapSet (j:=4) (C:=IsKd) (kx:=uE d) (vy:=(.agg #[(i n),(i n)])) Tryz.underlying134 keyKd (.inl rfl) rfl rfl hdk rfl rfl hi60.1 ?_)
        intro en74 ck75 kv76 w77 hE78 hp79 Hn
        obtain ⟨ps80,hM81,hx82⟩:=KMap.put (r:=⟨n,n⟩) hi60.1 hE78 hp79
        replace H:S (Of LF) W2 [(b69,.cells [i n,i n].toArray 41 (0,0)),(b8,.cells [i n].toArray 3 (0,0)),(b20,.cells [i ((wr t x0).lo),i ((wr t x0).hi)].toArray 41 (0,0)),(b7,.cells [.map (some bm5)].toArray 134 (0,0)),(bm5,.map en74 ck75),(b3,.cells [.slice al l.length cal].toArray 63 (0,0)),(b1,.cells (zX t h ices ab cab ad cad ah cah ai cai az caz).toArray 116 (0,0))] w77:=Hn;clear Hn
        refine Ro.nil (nB (nT (Wp.seq (Wp.seq (Wp.region ?_)))))
        refine Ro.q rfl rfl (zE zM f55 (H.cells 1 rfl) (j:=0) rfl rfl) rfl ?_
        refine Ro.nil (nT (Wp.region ?_))
        refine Ro.d rfl rfl rfl (H.new (l:=[i 0]) rfl zv3 rfl ?_)
        intro b83 w84 Hn;replace H:=Hn;clear Hn
        refine Ro.d0 rfl rfl rfl (H.store (j:=0) (off:=0) (k:=1) rfl sz3 rfl (v:=(i n)) rfl rfl rfl rfl rfl (by simp [Value.oneCell']) (cs':=[i n]) rfl ?_)
        intro w85 Hn;replace H:=Hn;clear Hn
        refine Ro.nil (nT (Wp.region ?_))
        refine Ro.q rfl rfl (zE zM rfl (H.cells 0 rfl) (j:=0) rfl rfl) rfl ?_
        refine Ro.q rfl rfl (zU rfl rfl (by constructor <;>omega)) rfl ?_
        refine Ro.d0 rfl rfl rfl (H.store (j:=0) (off:=0) (k:=1) rfl sz3 rfl (v:=(i (n+1))) rfl rfl rfl rfl rfl (by simp [Value.oneCell']) (cs':=[i (n+1)]) rfl ?_)
        intro w86 Hn;replace H:=Hn;clear Hn
        refine Ro.nil (nT ?_)
        replace H:=S.sublist (L':=[(b83,.cells [i (n+1)].toArray 3 (0,0)),(b20,.cells [i ((wr t x0).lo),i ((wr t x0).hi)].toArray 41 (0,0)),(b7,.cells [.map (some bm5)].toArray 134 (0,0)),(bm5,.map en74 ck75),(b3,.cells [.slice al l.length cal].toArray 63 (0,0)),(b1,.cells (zX t h ices ab cab ad cad ah cah ai cai az caz).toArray 116 (0,0))]) H (.cons_cons _ (.cons _ (.cons _ (.cons_cons _ (.cons_cons _ (.cons_cons _ (.cons_cons _ (.cons_cons _ (List.Sublist.refl _)))))))))
        exact ⟨((wr t x0).hi+1-(n+1):Int).toNat,by omega,(n+1),b83,en74,ck75,ps80,rfl,(by omega),rfl,f39,f40,f41,f42,f43,f44,f45,f46,f47,f48,f49,f50,f51,f52,f53,f54,rfl,H,⟨hM81,LeftAt.yes hi60.2 (all_says.1 c64) (by omega) hlk (by rw [c72];rfl) hx82⟩⟩
      intro c72
      have c72r:=c72
      simp only [bx] at c72
      refine Wp.skip (nT (Wp.region ?_))
      refine Ro.q rfl rfl (zE t1_134 f44 (H.cells 3 rfl) (j:=0) rfl rfl) rfl ?_
      refine Ro.q rfl rfl (zJ ta137 f45 (hc9.keep n9 H.keep) (j:=0) rfl (vs:=[i d.k,i d.lag,i d.sq]) rfl rfl) rfl ?_
      refine Ro.q (v:=(p b69 0)) rfl rfl (zA yV rfl rfl) rfl ?_
      refine Ro.q rfl rfl (zE zM rfl (H.cells 0 rfl) (j:=0) rfl rfl) rfl ?_
      refine Ro.q rfl rfl (zE zM f55 (H.cells 1 rfl) (j:=0) rfl rfl) rfl ?_
      refine Ro.q (v:=(.agg #[(i r0.lo),(i n)])) rfl rfl (zP (v:=(.agg #[(i r0.lo),(i n)])) (pe (v:=(i r0.lo)) rfl (pe (v:=(i n)) rfl pn)) (fun w=>by kernel_rfl)) rfl ?_
      refine Ro.d0 rfl rfl rfl (H.mapSet (j:=4) (C:=IsKd) (kx:=uE d) (vy:=(.agg #[(i r0.lo),(i n)])) Tryz.underlying134 keyKd (.inl rfl) rfl rfl hdk rfl rfl hi60.1 ?_)
      intro en87 ck88 kv89 w90 hE91 hp92 Hn
      obtain ⟨ps93,hM94,hx95⟩:=KMap.put (r:=⟨r0.lo,n⟩) hi60.1 hE91 hp92
      replace H:S (Of LF) W2 [(b69,.cells [i r0.lo,i r0.hi].toArray 41 (0,0)),(b8,.cells [i n].toArray 3 (0,0)),(b20,.cells [i ((wr t x0).lo),i ((wr t x0).hi)].toArray 41 (0,0)),(b7,.cells [.map (some bm5)].toArray 134 (0,0)),(bm5,.map en87 ck88),(b3,.cells [.slice al l.length cal].toArray 63 (0,0)),(b1,.cells (zX t h ices ab cab ad cad ah cah ai cai az caz).toArray 116 (0,0))] w90:=Hn;clear Hn
      refine Ro.nil (nB (nT (Wp.seq (Wp.seq (Wp.region ?_)))))
      refine Ro.q rfl rfl (zE zM f55 (H.cells 1 rfl) (j:=0) rfl rfl) rfl ?_
      refine Ro.nil (nT (Wp.region ?_))
      refine Ro.d rfl rfl rfl (H.new (l:=[i 0]) rfl zv3 rfl ?_)
      intro b96 w97 Hn;replace H:=Hn;clear Hn
      refine Ro.d0 rfl rfl rfl (H.store (j:=0) (off:=0) (k:=1) rfl sz3 rfl (v:=(i n)) rfl rfl rfl rfl rfl (by simp [Value.oneCell']) (cs':=[i n]) rfl ?_)
      intro w98 Hn;replace H:S (Of LF) W2 [(b96,.cells [i n].toArray 3 (0,0)),(b69,.cells [i r0.lo,i r0.hi].toArray 41 (0,0)),(b8,.cells [i n].toArray 3 (0,0)),(b20,.cells [i ((wr t x0).lo),i ((wr t x0).hi)].toArray 41 (0,0)),(b7,.cells [.map (some bm5)].toArray 134 (0,0)),(bm5,.map en87 ck88),(b3,.cells [.slice al l.length cal].toArray 63 (0,0)),(b1,.cells (zX t h ices ab cab ad cad ah cah ai cai az caz).toArray 116 (0,0))] w98:=Hn;clear Hn
      refine Ro.nil (nT (Wp.region ?_))
      refine Ro.q rfl rfl (zE zM rfl (H.cells 0 rfl) (j:=0) rfl rfl) rfl ?_
      refine Ro.q rfl rfl (zU rfl rfl (by constructor <;>omega)) rfl ?_
      refine Ro.d0 rfl rfl rfl (H.store (j:=0) (off:=0) (k:=1) rfl sz3 rfl (v:=(i (n+1))) rfl rfl rfl rfl rfl (by simp [Value.oneCell']) (cs':=[i (n+1)]) rfl ?_)
      intro w99 Hn;replace H:=Hn;clear Hn
      refine Ro.nil (nT ?_)
      replace H:=S.sublist (L':=[(b96,.cells [i (n+1)].toArray 3 (0,0)),(b20,.cells [i ((wr t x0).lo),i ((wr t x0).hi)].toArray 41 (0,0)),(b7,.cells [.map (some bm5)].toArray 134 (0,0)),(bm5,.map en87 ck88),(b3,.cells [.slice al l.length cal].toArray 63 (0,0)),(b1,.cells (zX t h ices ab cab ad cad ah cah ai cai az caz).toArray 116 (0,0))]) H (.cons_cons _ (.cons _ (.cons _ (.cons_cons _ (.cons_cons _ (.cons_cons _ (.cons_cons _ (.cons_cons _ (List.Sublist.refl _)))))))))
      exact ⟨((wr t x0).hi+1-(n+1):Int).toNat,by omega,(n+1),b96,en87,ck88,ps93,rfl,(by omega),rfl,f39,f40,f41,f42,f43,f44,f45,f46,f47,f48,f49,f50,f51,f52,f53,f54,rfl,H,⟨hM94,LeftAt.yes hi60.2 (all_says.1 c64) (by omega) hlk (by rw [c72];rfl) hx95⟩⟩
    intro c61
    have c61r:=c61
    simp only [bx] at c61
    refine Wp.exit (xT (xT (xB (nB (?_)))))
    replace H:=S.sublist (L':=[(b7,.cells [.map (some bm5)].toArray 134 (0,0)),(bm5,.map en ck),(b3,.cells [.slice al l.length cal].toArray 63 (0,0)),(b1,.cells (zX t h ices ab cab ad cad ah cah ai cai az caz).toArray 116 (0,0))]) H (.cons _ (.cons _ (.cons_cons _ (.cons_cons _ (.cons_cons _ (.cons_cons _ (List.Sublist.refl _)))))))
    exact ⟨H.keep,en,ck,ps,H2.unroundK hkk H,hi60.1,LeftAt.done hi60.2 hnin (by omega)⟩
  · rintro D pre W hD hpre ⟨en2,ck2,ps2,H2,hE2,hL2⟩ hDo
    have HD:S Nm w ((D,.deferred (some [])) :: [(b7,.cells [.map (some bm5)].toArray 134 (0,0)),(bm5,.map en2 ck2),(b3,.cells [.slice al l.length cal].toArray 63 (0,0)),(b1,.cells (zX t h ices ab cab ad cad ah cah ai cai az caz).toArray 116 (0,0))]) W:=H2.adopt hDo (fun p hp=>by have:=H.belowK (L':=[(b7,.cells [.map (some bm5)].toArray 134 (0,0)),(bm5,.map en2 ck2),(b3,.cells [.slice al l.length cal].toArray 63 (0,0)),(b1,.cells (zX t h ices ab cab ad cad ah cah ai cai az caz).toArray 116 (0,0))]) rfl p hp;omega) (Nat.le_trans H.keep.size hD)
    clear H
    have H:S Nm w ([(b7,.cells [.map (some bm5)].toArray 134 (0,0)),(bm5,.map en2 ck2),(b3,.cells [.slice al l.length cal].toArray 63 (0,0)),(b1,.cells (zX t h ices ab cab ad cad ah cah ai cai az caz).toArray 116 (0,0))]++[D].map vC) W:=HD.perm (List.perm_append_singleton _ _).symm
    refine id (nB (nT ?_))
    refine Wp.seq (Wp.region ?_)
    refine Ro.q rfl rfl (zE t1_134 rfl (H.cells 0 rfl) (j:=0) rfl rfl) rfl ?_
    refine Ro.q (v:=(.map (some bm5))) rfl rfl (zD rfl) rfl ?_
    refine Ro.nil (nT (Wp.ret (zN ?_)))
    have Hm:S Nm w ([D].map vC++[(b7,.cells [.map (some bm5)].toArray 134 (0,0)),(bm5,.map en2 ck2),(b3,.cells [.slice al l.length cal].toArray 63 (0,0)),(b1,.cells (zX t h ices ab cab ad cad ah cah ai cai az caz).toArray 116 (0,0))]) _:=H.perm (by first | exact List.perm_append_comm | exact marks3 _ _ _ _ | (rw [← List.append_assoc];exact List.perm_append_comm))
    refine Leave.marksS Hm ?_
    intro w100 Hn;replace H:=Hn;clear Hn
    refine zI (v:=(.map (some bm5))) Tryz.results69 rfl ⟨H.keep,?_⟩
    exact ⟨_,_,_,ps2,pre,rfl,H.one 1 rfl,hE2,hpre,hL2⟩
  · rintro D c W hD h;exact h.elim
end Go.Proofs.YthfnjppieihcfaaGreat
namespace Go.Proofs.YthfnjppieihcfaaGreat
open Go.RowKit Go.Proofs Go.Mw
theorem en68:Go.Proofs.Enters Tryz.prog 68:=Go.Proofs.enters_of Tryz.func68 (by kernel_rfl) rfl
theorem en69:Go.Proofs.Enters Tryz.prog 69:=Go.Proofs.enters_of Tryz.func69 (by kernel_rfl) rfl
open Men
noncomputable def samE (t:Tb) (h:List Rg) (ices:List Ice) (l:List Rdg):Int:=bif decide (vP t h ices≠0) then vP t h ices else bif decide (bathE t h ices l≠0) then bathE t h ices l else bif !sameB t l then 9 else 0
abbrev rd0:Rdg:=⟨0,0,0,0,0,0,0,0,0,false⟩
noncomputable def samZ (t:Tb) (h:List Rg) (ices:List Ice) (l:List Rdg):Rg:=vN (zl t.glass h ices) (l.headD rd0).day.toNat
noncomputable def samQ (t:Tb) (h:List Rg) (ices:List Ice) (l:List Rdg):Rg:=bif decide (samE t h ices l≠0) then ⟨0,0⟩ else ⟨(rangeOf (SSet t l)).lo-(samZ t h ices l).hi,(rangeOf (SSet t l)).hi-(samZ t h ices l).lo⟩
theorem samQ_bad {t:Tb} {h:List Rg} {ices:List Ice} {l:List Rdg} (e:samE t h ices l≠0):samQ t h ices l=⟨0,0⟩:=by unfold samQ;rw [decide_eq_true e];rfl
theorem sam_use {t:Tb} {h:List Rg} {ices:List Ice} {l:List Rdg} (hu:vP t h ices≠0):samE t h ices l=vP t h ices∧samQ t h ices l=⟨0,0⟩:=by
  have e:samE t h ices l=vP t h ices:=by unfold samE;rw [decide_eq_true hu];rfl
  exact ⟨e,samQ_bad (by rw [e];exact hu)⟩
theorem sam_bath {t:Tb} {h:List Rg} {ices:List Ice} {l:List Rdg} (hu:vP t h ices=0) (hb:bathE t h ices l≠0):samE t h ices l=bathE t h ices l∧samQ t h ices l=⟨0,0⟩:=by
  have e:samE t h ices l=bathE t h ices l:=by unfold samE;rw [decide_eq_false (fun g=>g hu),decide_eq_true hb];rfl
  exact ⟨e,samQ_bad (by rw [e];exact hb)⟩
theorem sam_none {t:Tb} {h:List Rg} {ices:List Ice} {l:List Rdg} (hu:vP t h ices=0) (hb:bathE t h ices l=0) (hn : ¬ ∃ n,SSet t l n):samE t h ices l=9∧samQ t h ices l=⟨0,0⟩:=by
  have e:samE t h ices l=9:=by
    have:sameB t l=false:=by unfold sameB;simpa using hn
    unfold samE;rw [decide_eq_false (fun g=>g hu),decide_eq_false (fun g=>g hb),this];rfl
  exact ⟨e,samQ_bad (by rw [e];decide)⟩
theorem sam_ok {t:Tb} {h:List Rg} {ices:List Ice} {l:List Rdg} {x0:Rdg} {z r:Rg} (hu:vP t h ices=0) (hb:bathE t h ices l=0) (hR:IsR (SSet t l) r) (hx:l[(0:Int).toNat]? = some x0) (hz:vN (zl t.glass h ices) x0.day.toNat=z):samE t h ices l=0∧samQ t h ices l=⟨r.lo-z.hi,r.hi-z.lo⟩:=by
  have e:samE t h ices l=0:=by
    have:sameB t l=true:=by unfold sameB;simpa using ⟨_,hR.1⟩
    unfold samE;rw [decide_eq_false (fun g=>g hu),decide_eq_false (fun g=>g hb),this];rfl
  refine ⟨e,?_⟩
  obtain ⟨q,rfl⟩:=head_of hx
  unfold samQ samZ
  rw [e,rangeOf_is hR]
  simp only [List.headD_cons]
  rw [hz];rfl
theorem bath_zero {t:Tb} {h:List Rg} {ices:List Ice} {l:List Rdg} (hb:bathE t h ices l=0) : ∃ x0,l[(0:Int).toNat]? = some x0∧l.length≤5∧(∀ x∈l,RdR x)∧(0≤x0.day∧x0.day<h.length)∧(∀ x∈l,vX ((h.length:Nat):Int) x=true∧x.day=x0.day)∧(∀ x∈l,x.broken=false)∧vE t h ices x0=0:=by
  by_cases hn:5<((l.length:Nat):Int)
  · rw [bath_many hn] at hb;omega
  · cases l with
    | nil=>rw [bath_none hn rfl] at hb;omega
    | cons x0 q =>
      have h0:(x0 :: q)[(0:Int).toNat]? = some x0:=rfl
      rw [bath_one hn h0] at hb
      cases h1:(x0 :: q).all fun x=>vX ((h.length:Nat):Int) x && decide (x.day=x0.day)
      · rw [h1] at hb;simp at hb
      · cases h2:(x0 :: q).all fun x=>!x.broken
        · rw [h1,h2] at hb;simp at hb
        · rw [h1,h2] at hb
          have g1:=List.all_eq_true.1 h1
          have g2:=List.all_eq_true.1 h2
          have g3 : ∀ x∈x0 :: q,vX ((h.length:Nat):Int) x=true∧x.day=x0.day:=fun x hx=>by
            have:=g1 x hx;simp only [Bool.and_eq_true,decide_eq_true_eq] at this;exact this
          refine ⟨x0,h0,by omega,fun x hx=>(readBx_iff.1 (g3 x hx).1).2,?_,g3,fun x hx=>by simpa using g2 x hx,by simpa using hb⟩
          have:=(readBx_iff.1 (g3 x0 (by simp)).1).1;omega
theorem SSet_in {t:Tb} {l:List Rdg} {x0:Rdg} (ht:TbR t) (hr:RdR x0) (hx:x0∈l) {n:Int} (h:SSet t l n) : -37000000≤n∧n≤37000000:=by
  obtain ⟨d,hd,ha⟩:=h
  have h1:=(ha x0 hx).ws ht hr hd
  have h2:=wr_in ht hr
  unfold Men.Rg.has at h1
  omega
set_option maxHeartbeats 4000000 in
theorem c26 {t:Tb} {ab ad ah ai:Option Addr} {h:List Rg} {ices:List Ice} {cab cad cah cai:Nat} {l:List Rdg} {al:Option Addr} {cal:Nat} (w:World) (hab:Sl w 3 (t.bs.map yH) ab) (had:Sl w 2 (t.dl.map zZ) ad) (hah:Sl w 2 (h.map rgV) ah) (hai:Sl w 3 (ices.map iceV) ai) (hal:Sl w 10 (l.map rdV) al) (hhl:h.length≤4611686018427387904) (hil:ices.length≤4611686018427387904):Rv Tryz.prog 26 [(.agg (tbC t ab cab ad cad).toArray),(.slice ah h.length cah),(.slice ai ices.length cai),(.slice al l.length cal)] w (.tuple #[.agg #[i (samQ t h ices l).lo,i (samQ t h ices l).hi],i (samE t h ices l)]):=by
  refine Ret.body (N:=76) Tryz.func26 rfl Tryz.ntmps26 rfl ?_
  have H:=S.start Nm w
  refine Wp.seq (Wp.region ?_)
  refine Ro.d rfl rfl rfl (H.box (l:=(tbC t ab cab ad cad)) rfl (v:=(.agg (tbC t ab cab ad cad).toArray)) rfl rfl ?_)
  intro b1 w2 Hn;replace H:=Hn;clear Hn
  refine Ro.d rfl rfl rfl (H.new (l:=[i 0,i 0]) rfl zv41 rfl ?_)
  intro b3 w4 Hn;replace H:=Hn;clear Hn
  refine Ro.q (v:=(i 0)) rfl rfl (zD rfl) rfl ?_
  refine Ro.nil (nT (Wp.seq (Wp.region ?_)))
  refine Ro.q rfl rfl (zJ ta45 rfl (H.cells 1 rfl) (j:=0) rfl (vs:=(tbC t ab cab ad cad)) rfl rfl) rfl ?_
  refine Ro.q (v:=(.slice ah h.length cah)) rfl rfl (zB rfl) rfl ?_
  refine Ro.q (v:=(.slice ai ices.length cai)) rfl rfl (zB rfl) rfl ?_
  refine Ro.d rfl rfl rfl (zH rfl en67 (ce (v:=(.agg (tbC t ab cab ad cad).toArray)) rfl (ce (v:=(.slice ah h.length cah)) rfl (ce (v:=(.slice ai ices.length cai)) rfl cn))) (c67 _ (hab.ext H.keep) (had.ext H.keep) (hah.ext H.keep) (hai.ext H.keep) hhl hil) ?_)
  have Hc7:=H
  rintro u w5 k6 (⟨hu,az,caz,b,ob,rfl,hS,hz⟩ | ⟨hu,rfl⟩)
  · skip
    replace H:=H.ext k6
    replace H:S Nm w [(b,ob),(b3,.cells [i 0,i 0].toArray 41 (0,0)),(b1,.cells (tbC t ab cab ad cad).toArray 45 (0,0))] w5:=Hc7.join hS
    have ht0:=tubeEt_zero (useE_zero hu).1
    have htb:=ht0.2.2.1
    obtain ⟨hH,hI⟩:=lifeE_zero (useE_zero hu).2
    refine Ro.q (v:=(.tuple #[(.agg (zX t h ices ab cab ad cad ah cah ai cai az caz).toArray),(i 0)])) rfl rfl (zB rfl) rfl ?_
    refine Ro.q (v:=(.agg (zX t h ices ab cab ad cad ah cah ai cai az caz).toArray)) rfl rfl (zO rfl (j:=0) rfl) rfl ?_
    refine Ro.q (v:=(i 0)) rfl rfl (zO rfl (j:=1) rfl) rfl ?_
    refine Ro.d rfl rfl rfl (H.new (l:=zuC) rfl zv116 rfl ?_)
    intro b8 w9 Hn;replace H:=Hn;clear Hn
    refine Ro.d0 rfl rfl rfl (H.store (j:=0) (off:=0) (k:=15) rfl sz116 rfl (v:=(.agg (zX t h ices ab cab ad cad ah cah ai cai az caz).toArray)) rfl rfl rfl rfl rfl (by simp [Value.oneCell']) (cs':=(zX t h ices ab cab ad cad ah cah ai cai az caz)) rfl ?_)
    intro w10 Hn;replace H:=Hn;clear Hn
    refine Ro.q (v:=(i 0)) rfl rfl (zD rfl) rfl ?_
    refine Ro.nil (nT (Wp.seq (Wp.seq (Wp.region ?_))))
    refine Ro.q (v:=(i 0)) rfl rfl (zB rfl) rfl ?_
    refine Ro.q (v:=(.bool true)) rfl rfl (Runs.to (vR rfl rfl) (by rfl)) rfl ?_
    refine Ro.nil (nT ?_)
    refine Wp.condT rfl ?_
    refine Wp.region ?_
    refine Ro.q rfl rfl (zJ ta116 rfl (H.cells 0 rfl) (j:=0) rfl (vs:=(zX t h ices ab cab ad cad ah cah ai cai az caz)) rfl rfl) rfl ?_
    refine Ro.q (v:=(.slice al l.length cal)) rfl rfl (zB rfl) rfl ?_
    refine Ro.d rfl rfl rfl (zH rfl en68 (ce (v:=(.agg (zX t h ices ab cab ad cad ah cah ai cai az caz).toArray)) rfl (ce (v:=(.slice al l.length cal)) rfl cn)) (c68 _ (hab.ext H.keep) (had.ext H.keep) (hah.ext H.keep) (hai.ext H.keep) ((hz _ (H.at 1 rfl))) (hal.ext H.keep) hH hI) ?_)
    intro u w11 k12 hu;subst hu;replace H:=H.ext k12
    clear k12
    refine Ro.q (v:=(i (bathE t h ices l))) rfl rfl (zD rfl) rfl ?_
    refine Ro.nil (nT (Wp.seq (Wp.seq (Wp.region ?_))))
    refine Ro.q (v:=(i (bathE t h ices l))) rfl rfl (zB rfl) rfl ?_
    refine Ro.q rfl rfl (vW rfl rfl) rfl ?_
    refine Ro.nil (nT ?_)
    refine Wp.cond (t:=decide ((bathE t h ices l)≠0)) rfl ?_ ?_
    · intro c13
      have c13r:=c13
      simp only [bx] at c13
      refine Wp.seq (Wp.region ?_)
      refine Ro.q (v:=(.agg #[(i 0),(i 0)])) rfl rfl (zP (v:=(.agg #[(i 0),(i 0)])) pn (fun w=>by kernel_rfl)) rfl ?_
      refine Ro.q (v:=(i (bathE t h ices l))) rfl rfl (zB rfl) rfl ?_
      refine Ro.d0 rfl rfl rfl (H.store (j:=2) (off:=0) (k:=2) rfl sz41 rfl (v:=(.agg #[(i 0),(i 0)])) rfl rfl rfl rfl rfl (by simp [Value.oneCell']) (cs':=[i 0,i 0]) rfl ?_)
      intro w14 Hn;replace H:=Hn;clear Hn
      refine Ro.q (v:=(i (bathE t h ices l))) rfl rfl (zD rfl) rfl ?_
      refine Ro.nil (nT (Wp.ret (rT (zN ?_))))
      refine zT (vs:=[i 0,i 0]) (v:=(i (bathE t h ices l))) Tryz.results26 rfl vL (H.cells 2 rfl) rfl rfl ⟨H.keep,?_⟩
      have e:=sam_bath hu c13
      rw [e.1,e.2]
    intro c13
    have c13r:=c13
    simp only [bx] at c13
    have hb0:bathE t h ices l=0:=by omega
    obtain ⟨x0,hx1,hl5,hrdl,hdy,_,_,href⟩:=bath_zero hb0
    have ha:=(refE_zero href).2.2
    have hxm:=List.mem_of_getElem? hx1
    have hrd:=hrdl x0 hxm
    have hh16:=hH.len
    have hll:0<(l.length:Int):=by have:=(List.getElem?_eq_some_iff.1 hx1).1;omega
    obtain ⟨z,hz0,hzd,_,hzi⟩:=zl_at ht0.2.1 hH.len ha hdy.1 hdy.2
    have hzl:=zl_len ha
    refine Wp.skip (nT (Wp.seq (Wp.region ?_)))
    refine Ro.q (v:=(.slice none 0 0)) rfl rfl (zD rfl) rfl ?_
    refine Ro.q (v:=(.slice none 0 0)) rfl rfl (zD rfl) rfl ?_
    refine Ro.nil (nT (Wp.seq (Wp.seq (Wp.region ?_))))
    refine Ro.q rfl rfl (zJ ta116 rfl (H.cells 0 rfl) (j:=0) rfl (vs:=(zX t h ices ab cab ad cad ah cah ai cai az caz)) rfl rfl) rfl ?_
    refine Ro.q (v:=(.slice al l.length cal)) rfl rfl (zB rfl) rfl ?_
    refine Ro.d rfl rfl rfl (zH rfl en69 (ce (v:=(.agg (zX t h ices ab cab ad cad ah cah ai cai az caz).toArray)) rfl (ce (v:=(.slice al l.length cal)) rfl cn)) (c69 _ (hab.ext H.keep) (had.ext H.keep) (hal.ext H.keep) htb hrdl hl5 hx1) ?_)
    have Hc17:=H
    rintro u w15 k16 ⟨bm,es,ck,ps,pre,rfl,hS2,hE,hpre,hL⟩
    replace H:=H.ext k16
    replace H:S Nm w [(bm,.map es ck),(b8,.cells (zX t h ices ab cab ad cad ah cah ai cai az caz).toArray 116 (0,0)),(b,ob),(b3,.cells [i 0,i 0].toArray 41 (0,0)),(b1,.cells (tbC t ab cab ad cad).toArray 45 (0,0))] w15:=Hc17.join hS2
    have hes:=left_len htb hE (fun q hq=>(hpre _).1 ((hL q).1 hq).1)
    refine Ro.d rfl rfl rfl (H.range (b:=bm) (es:=es) (clk:=ck) Tryz.underlying134 rfl rfl (H.at 0 rfl) ?_)
    intro bi18 w19 Hn;replace H:S Nm w [(bi18,.mapIter (some bm) ck #[] ck),(bm,.map es ck),(b8,.cells (zX t h ices ab cab ad cad ah cah ai cai az caz).toArray 116 (0,0)),(b,ob),(b3,.cells [i 0,i 0].toArray 41 (0,0)),(b1,.cells (tbC t ab cab ad cad).toArray 45 (0,0))] w19:=Hn;clear Hn
    refine Ro.nil (nT (Wp.block ?_))
    refine Wp.loop (fun kM ds ρ w'=>∃ seen:Array Nat,∃ lows:List Int,∃ highs:List Int,∃ alo:Option Addr,∃ clo:Nat,∃ Llo:List (Nat×Obj),∃ ahi:Option Addr,∃ chi:Nat,∃ Lhi:List (Nat×Obj),ds=[]∧(True)∧kM=(leftOf es seen).size∧ρ 3=(.slice al l.length cal)∧ρ 8=(p b3 0)∧ρ 9=(i 0)∧ρ 10=(p b8 0)∧ρ 37=(p bi18 0)∧ρ 12=(.slice alo lows.length clo)∧ρ 13=(.slice ahi highs.length chi)∧S Nm w ([(bi18,.mapIter (some bm) ck seen ck),(bm,.map es ck),(b8,.cells (zX t h ices ab cab ad cad ah cah ai cai az caz).toArray 116 (0,0)),(b,ob),(b3,.cells [i 0,i 0].toArray 41 (0,0)),(b1,.cells (tbC t ab cab ad cad).toArray 45 (0,0))]++(Llo++Lhi)) w'∧(OwnRow 3 1 alo lows.length clo (lows.map yD).flatten Llo∧OwnRow 3 1 ahi highs.length chi (highs.map yD).flatten Lhi∧SeenIs ps es seen lows highs∧lows.length+(leftOf es seen).size≤es.size)) ((leftOf es (#[])).size) ⟨(#[]),([]),([]),none,0,([]),none,0,([]),rfl,trivial,rfl,rfl,rfl,rfl,rfl,rfl,rfl,rfl,H,⟨OwnRow.nil 3 1,OwnRow.nil 3 1,SeenIs.start,by rw [left_start];simp⟩⟩ ?_
    clear H
    intro kρ27 dsρ27 ρ27 w28
    rintro ⟨seen,lows,highs,alo,clo,Llo,ahi,chi,Lhi,rfl,hb30,hk29,f20,f21,f22,f23,f24,f25,f26,H,hi31⟩
    refine Wp.seq (Wp.region ?_)
    refine Ro.d rfl rfl rfl (H.next (j:=0) (b:=bm) (es:=es) (clk:=ck) rfl f24 rfl (H.at 1 rfl) hE.old ?_ ?_)
    · intro hleft
      have hall:=left_none hleft
      have hhl3:=hi31.2.2.1.1;have hlb:=hi31.2.2.2
      refine Ro.q (v:=(.bool false)) rfl rfl (zO rfl (j:=0) rfl) rfl ?_
      refine Ro.nil (nT (Wp.seq ?_))
      refine Wp.condF rfl ?_
      refine Wp.exit (xT (xT (xB (nT (Wp.seq (Wp.seq (Wp.region ?_)))))))
      refine Ro.q (v:=(.slice alo lows.length clo)) rfl rfl (zB f25) rfl ?_
      refine Ro.q rfl rfl (yG Tryz.underlying72 rfl (v:=lows.length) rfl) rfl ?_
      refine Ro.q rfl rfl (vR rfl rfl) rfl ?_
      refine Ro.nil (nT ?_)
      refine Wp.cond (t:=decide (((lows.length:Nat):Int)=0)) rfl ?_ ?_
      · intro c32
        have c32r:=c32
        simp only [bx] at c32
        refine Wp.seq (Wp.region ?_)
        refine Ro.q (v:=(.agg #[(i 0),(i 0)])) rfl rfl (zP (v:=(.agg #[(i 0),(i 0)])) pn (fun w=>by kernel_rfl)) rfl ?_
        refine Ro.d0 rfl rfl rfl (H.store (j:=4) (off:=0) (k:=2) rfl sz41 f21 (v:=(.agg #[(i 0),(i 0)])) rfl rfl rfl rfl rfl (by simp [Value.oneCell']) (cs':=[i 0,i 0]) rfl ?_)
        intro w33 Hn;replace H:S Nm w ([(bi18,.mapIter (some bm) ck seen ck),(bm,.map es ck),(b8,.cells (zX t h ices ab cab ad cad ah cah ai cai az caz).toArray 116 (0,0)),(b,ob),(b3,.cells [i 0,i 0].toArray 41 (0,0)),(b1,.cells (tbC t ab cab ad cad).toArray 45 (0,0))]++(Llo++Lhi)) w33:=Hn;clear Hn
        refine Ro.q (v:=(i 9)) rfl rfl (zD rfl) rfl ?_
        refine Ro.nil (nT (Wp.ret (rT (zN ?_))))
        refine zT (vs:=[i 0,i 0]) (v:=(i 9)) Tryz.results26 f21 vL (H.cells 4 rfl) rfl rfl ⟨H.keep,?_⟩
        have hn:=(left_all htb hrd hxm hpre hL hE hi31.2.2.1 hall).1 (List.length_eq_zero_iff.1 (by omega))
        have e:=sam_none hu hb0 hn
        rw [e.1,e.2]
      intro c32
      have c32r:=c32
      simp only [bx] at c32
      have hne:lows≠[]:=fun e=>by rw [e] at c32;simp at c32
      have hR:=(left_all htb hrd hxm hpre hL hE hi31.2.2.1 hall).2 hne
      have hb1:=SSet_in htb hrd hxm hR.1;have hb2:=SSet_in htb hrd hxm hR.2.1
      simp only at hb1 hb2
      refine Wp.skip (nT (Wp.seq ?_))
      have hMo:Mono [is (p b8 14),is (.slice az ((zl t.glass h ices).length) caz),is (.slice al l.length cal),is (p (blk al) (yP al+((0:Int).toNat)*10)),is (p (blk al) (yP al+((0:Int).toNat)*10)),is (i x0.day),is (p (blk az) (yP az+x0.day.toNat*2)),is (.agg #[(i z.lo),(i z.hi)]),fun _ _=>True]:=(Mi (Mi (Mi (Mi (Mi (Mi (Mi (Mi (Mono.c Mono.nil)))))))))
      have hBB : ∀ (done:Nat→Bool) (ρ':Env) (w':World),(∃ bA8:Nat,(done 8=true→ρ' 16=p bA8 0)∧S Nm w ((bif done 8 then [(bA8,(.cells [i 0,i 0].toArray 41 (0,0):Obj))] else [])++([(bi18,.mapIter (some bm) ck seen ck),(bm,.map es ck),(b8,.cells (zX t h ices ab cab ad cad ah cah ai cai az caz).toArray 116 (0,0)),(b,ob),(b3,.cells [i 0,i 0].toArray 41 (0,0)),(b1,.cells (tbC t ab cab ad cad).toArray 45 (0,0))]++(Llo++Lhi))) w')→S Nm w ([(bi18,.mapIter (some bm) ck seen ck),(bm,.map es ck),(b8,.cells (zX t h ices ab cab ad cad ah cah ai cai az caz).toArray 116 (0,0)),(b,ob),(b3,.cells [i 0,i 0].toArray 41 (0,0)),(b1,.cells (tbC t ab cab ad cad).toArray 45 (0,0))]++(Llo++Lhi)) w':=fun done ρ' w' ⟨bA8,eA8,Hn⟩=>Hn.part
      refine Wp.drawnG 9 [0,1,0,4,12,28,63,127,0,511] [is (p b8 14),is (.slice az ((zl t.glass h ices).length) caz),is (.slice al l.length cal),is (p (blk al) (yP al+((0:Int).toNat)*10)),is (p (blk al) (yP al+((0:Int).toNat)*10)),is (i x0.day),is (p (blk az) (yP az+x0.day.toNat*2)),is (.agg #[(i z.lo),(i z.hi)]),fun _ _=>True] (fun done ρ' w'=>∃ bA8:Nat,(done 8=true→ρ' 16=p bA8 0)∧S Nm w ((bif done 8 then [(bA8,(.cells [i 0,i 0].toArray 41 (0,0):Obj))] else [])++([(bi18,.mapIter (some bm) ck seen ck),(bm,.map es ck),(b8,.cells (zX t h ices ab cab ad cad ah cah ai cai az caz).toArray 116 (0,0)),(b,ob),(b3,.cells [i 0,i 0].toArray 41 (0,0)),(b1,.cells (tbC t ab cab ad cad).toArray 45 (0,0))]++(Llo++Lhi))) w') (by kernel_rfl) (by kernel_rfl) rfl (fun w' k=>⟨0,(fun h=>by cases h),H.ext k⟩) ?_ ?_
      · refine ⟨?_,?_,?_,?_,?_,?_,?_,?_,?_,trivial⟩
        · exact ObG.to hBB hMo (fun _ _ _ _ _ ⟨bA8,eA8,Hn⟩ k=>⟨bA8,eA8,Hn.ext k⟩) (Ob.q rfl (fun _ _ B U D=>(zA fo116_3 ((U 10 rfl).trans f23) rfl)) rfl rfl)
        · exact ObG.to hBB hMo (fun _ _ _ _ _ ⟨bA8,eA8,Hn⟩ k=>⟨bA8,eA8,Hn.ext k⟩) (Ob.q rfl (fun _ _ B U D=>(zE t1_47 (D 0 rfl) (B.cells 2 rfl) (j:=14) rfl rfl)) rfl rfl)
        · exact ObG.to hBB hMo (fun _ _ _ _ _ ⟨bA8,eA8,Hn⟩ k=>⟨bA8,eA8,Hn.ext k⟩) (Ob.q rfl (fun _ _ B U D=>(zB ((U 3 rfl).trans f20))) rfl rfl)
        · exact ObG.to hBB hMo (fun _ _ _ _ _ ⟨bA8,eA8,Hn⟩ k=>⟨bA8,eA8,Hn.ext k⟩) (Ob.q rfl (fun _ _ B U D=>(zY ts63 (hal.ext B.keep) (D 2 rfl) (by first | (simp;done) | (simp;omega)) rfl (by omega) (zW hx1))) rfl rfl)
        · exact ObG.to hBB hMo (fun _ _ _ _ _ ⟨bA8,eA8,Hn⟩ k=>⟨bA8,eA8,Hn.ext k⟩) (Ob.q rfl (fun _ _ B U D=>(zA fo52_0 (D 3 rfl) rfl)) rfl rfl)
        · exact ObG.to hBB hMo (fun _ _ _ _ _ ⟨bA8,eA8,Hn⟩ k=>⟨bA8,eA8,Hn.ext k⟩) (Ob.q rfl (fun _ _ B U D=>(zE zM (D 4 rfl) ((hal.ext B.keep).cells (zW hx1)) (j:=0) rfl rfl)) rfl rfl)
        · exact ObG.to hBB hMo (fun _ _ _ _ _ ⟨bA8,eA8,Hn⟩ k=>⟨bA8,eA8,Hn.ext k⟩) (Ob.q rfl (fun _ _ B U D=>(zY ts47 ((hz _ (B.at 3 rfl))) (D 1 rfl) (by first | (simp;done) | (simp;omega)) (D 5 rfl) (by omega) (zW hz0))) rfl rfl)
        · exact ObG.to hBB hMo (fun _ _ _ _ _ ⟨bA8,eA8,Hn⟩ k=>⟨bA8,eA8,Hn.ext k⟩) (Ob.q rfl (fun _ _ B U D=>(zJ vL (D 6 rfl) (((hz _ (B.at 3 rfl))).cells (zW hz0)) (j:=0) rfl (vs:=[i z.lo,i z.hi]) rfl rfl)) rfl rfl)
        · refine ObG.sp rfl fun done ρ' w' hW U hcl hnd hwt D=>?_
          obtain ⟨bA8,eA8,Hn⟩:=hW
          simp only [hnd,cond_false,List.nil_append] at Hn
          refine Hn.newK (l:=[i 0,i 0]) rfl zv41 rfl ?_
          intro bN w2 k Hm
          refine ⟨(fun q u hq=>hMo q u _ _ k hq),trivial,bN,(fun _=>rfl),?_⟩
          show S Nm w ([(bN,(.cells [i 0,i 0].toArray 41 (0,0):Obj))]++([(bi18,.mapIter (some bm) ck seen ck),(bm,.map es ck),(b8,.cells (zX t h ices ab cab ad cad ah cah ai cai az caz).toArray 116 (0,0)),(b,ob),(b3,.cells [i 0,i 0].toArray 41 (0,0)),(b1,.cells (tbC t ab cab ad cad).toArray 45 (0,0))]++(Llo++Lhi))) w2
          exact Hm
      rintro ρ34 w35 ⟨b39,eA8,Hn⟩ U37 D38
      replace H:S Nm w ([(b39,.cells [i 0,i 0].toArray 41 (0,0)),(bi18,.mapIter (some bm) ck seen ck),(bm,.map es ck),(b8,.cells (zX t h ices ab cab ad cad ah cah ai cai az caz).toArray 116 (0,0)),(b,ob),(b3,.cells [i 0,i 0].toArray 41 (0,0)),(b1,.cells (tbC t ab cab ad cad).toArray 45 (0,0))]++(Llo++Lhi)) w35:=Hn;clear Hn hMo hBB
      have f40:=(U37 8 rfl).trans f21
      have f42:=(U37 12 rfl).trans f25
      have f43:=(U37 13 rfl).trans f26
      have f44:ρ34 16=p b39 0:=eA8 rfl
      have f45:ρ34 63=(.agg #[(i z.lo),(i z.hi)]):=D38 7 rfl
      clear U37 D38
      clear eA8
      refine Ro.d0 rfl rfl rfl (H.store (j:=0) (off:=0) (k:=2) rfl sz41 f44 (v:=(.agg #[(i z.lo),(i z.hi)])) f45 rfl rfl rfl rfl (by simp [Value.oneCell']) (cs':=[i z.lo,i z.hi]) rfl ?_)
      intro w46 Hn;replace H:S Nm w ([(b39,.cells [i z.lo,i z.hi].toArray 41 (0,0)),(bi18,.mapIter (some bm) ck seen ck),(bm,.map es ck),(b8,.cells (zX t h ices ab cab ad cad ah cah ai cai az caz).toArray 116 (0,0)),(b,ob),(b3,.cells [i 0,i 0].toArray 41 (0,0)),(b1,.cells (tbC t ab cab ad cad).toArray 45 (0,0))]++(Llo++Lhi)) w46:=Hn;clear Hn
      refine Ro.nil (nT (Wp.seq ?_))
      have hMo:Mono [is (.slice alo lows.length clo),is (i (vS lows)),is (p b39 1),is (i z.hi),is (i ((vS lows)-z.hi)),is (.slice ahi highs.length chi),is (i (vB highs)),is (p b39 0),is (i z.lo),is (i ((vB highs)-z.lo)),is (.agg #[(i ((vS lows)-z.hi)),(i ((vB highs)-z.lo))]),fun _ _=>True]:=(Mi (Mi (Mi (Mi (Mi (Mi (Mi (Mi (Mi (Mi (Mi (Mono.c Mono.nil))))))))))))
      have hBB : ∀ (done:Nat→Bool) (ρ':Env) (w':World),(∃ bA11:Nat,(done 11=true→ρ' 17=p bA11 0)∧S Nm w ((bif done 11 then [(bA11,(.cells [i 0,i 0].toArray 41 (0,0):Obj))] else [])++([(b39,.cells [i z.lo,i z.hi].toArray 41 (0,0)),(bi18,.mapIter (some bm) ck seen ck),(bm,.map es ck),(b8,.cells (zX t h ices ab cab ad cad ah cah ai cai az caz).toArray 116 (0,0)),(b,ob),(b3,.cells [i 0,i 0].toArray 41 (0,0)),(b1,.cells (tbC t ab cab ad cad).toArray 45 (0,0))]++(Llo++Lhi))) w')→S Nm w ([(b39,.cells [i z.lo,i z.hi].toArray 41 (0,0)),(bi18,.mapIter (some bm) ck seen ck),(bm,.map es ck),(b8,.cells (zX t h ices ab cab ad cad ah cah ai cai az caz).toArray 116 (0,0)),(b,ob),(b3,.cells [i 0,i 0].toArray 41 (0,0)),(b1,.cells (tbC t ab cab ad cad).toArray 45 (0,0))]++(Llo++Lhi)) w':=fun done ρ' w' ⟨bA11,eA11,Hn⟩=>Hn.part
      refine Wp.drawnG 12 [0,1,0,4,15,0,35,0,128,483,1023,0,4095] [is (.slice alo lows.length clo),is (i (vS lows)),is (p b39 1),is (i z.hi),is (i ((vS lows)-z.hi)),is (.slice ahi highs.length chi),is (i (vB highs)),is (p b39 0),is (i z.lo),is (i ((vB highs)-z.lo)),is (.agg #[(i ((vS lows)-z.hi)),(i ((vB highs)-z.lo))]),fun _ _=>True] (fun done ρ' w'=>∃ bA11:Nat,(done 11=true→ρ' 17=p bA11 0)∧S Nm w ((bif done 11 then [(bA11,(.cells [i 0,i 0].toArray 41 (0,0):Obj))] else [])++([(b39,.cells [i z.lo,i z.hi].toArray 41 (0,0)),(bi18,.mapIter (some bm) ck seen ck),(bm,.map es ck),(b8,.cells (zX t h ices ab cab ad cad ah cah ai cai az caz).toArray 116 (0,0)),(b,ob),(b3,.cells [i 0,i 0].toArray 41 (0,0)),(b1,.cells (tbC t ab cab ad cad).toArray 45 (0,0))]++(Llo++Lhi))) w') (by kernel_rfl) (by kernel_rfl) rfl (fun w' k=>⟨0,(fun h=>by cases h),H.ext k⟩) ?_ ?_
      · refine ⟨?_,?_,?_,?_,?_,?_,?_,?_,?_,?_,?_,?_,trivial⟩
        · exact ObG.to hBB hMo (fun _ _ _ _ _ ⟨bA11,eA11,Hn⟩ k=>⟨bA11,eA11,Hn.ext k⟩) (Ob.q rfl (fun _ _ B U D=>(zB ((U 12 rfl).trans f42))) rfl rfl)
        · exact ObG.to hBB hMo (fun _ _ _ _ _ ⟨bA11,eA11,Hn⟩ k=>⟨bA11,eA11,Hn.ext k⟩) (Ob.mk rfl fun ρ' w' B U D=>zH rfl en70 (ce (v:=(.slice alo lows.length clo)) (D 0 rfl) cn) (c70 alo lows clo _ ((OwnRow.sl (enc:=yD) (fun _=>rfl) hi31.1 rfl ((B).perm perm_r1))) ⟨by omega,by omega⟩) (fun u w2 k2 hu=>⟨k2,hu⟩))
        · exact ObG.to hBB hMo (fun _ _ _ _ _ ⟨bA11,eA11,Hn⟩ k=>⟨bA11,eA11,Hn.ext k⟩) (Ob.q rfl (fun _ _ B U D=>(zA yZ ((U 16 rfl).trans f44) rfl)) rfl rfl)
        · exact ObG.to hBB hMo (fun _ _ _ _ _ ⟨bA11,eA11,Hn⟩ k=>⟨bA11,eA11,Hn.ext k⟩) (Ob.q rfl (fun _ _ B U D=>(zE zM (D 2 rfl) (B.cells 0 rfl) (j:=1) rfl rfl)) rfl rfl)
        · exact ObG.to hBB hMo (fun _ _ _ _ _ ⟨bA11,eA11,Hn⟩ k=>⟨bA11,eA11,Hn.ext k⟩) (Ob.q rfl (fun _ _ B U D=>(yT (D 1 rfl) (D 3 rfl) (by constructor <;>omega))) rfl rfl)
        · exact ObG.to hBB hMo (fun _ _ _ _ _ ⟨bA11,eA11,Hn⟩ k=>⟨bA11,eA11,Hn.ext k⟩) (Ob.q rfl (fun _ _ B U D=>(zB ((U 13 rfl).trans f43))) rfl rfl)
        · exact ObG.to hBB hMo (fun _ _ _ _ _ ⟨bA11,eA11,Hn⟩ k=>⟨bA11,eA11,Hn.ext k⟩) (Ob.mk rfl fun ρ' w' B U D=>zH rfl en71 (ce (v:=(.slice ahi highs.length chi)) (D 5 rfl) cn) (c71 ahi highs chi _ ((OwnRow.sl (enc:=yD) (fun _=>rfl) hi31.2.1 rfl ((B).perm perm_r2))) ⟨by omega,by omega⟩) (fun u w2 k2 hu=>⟨k2,hu⟩))
        · exact ObG.to hBB hMo (fun _ _ _ _ _ ⟨bA11,eA11,Hn⟩ k=>⟨bA11,eA11,Hn.ext k⟩) (Ob.q rfl (fun _ _ B U D=>(zA yV ((U 16 rfl).trans f44) rfl)) rfl rfl)
        · exact ObG.to hBB hMo (fun _ _ _ _ _ ⟨bA11,eA11,Hn⟩ k=>⟨bA11,eA11,Hn.ext k⟩) (Ob.q rfl (fun _ _ B U D=>(zE zM (D 7 rfl) (B.cells 0 rfl) (j:=0) rfl rfl)) rfl rfl)
        · exact ObG.to hBB hMo (fun _ _ _ _ _ ⟨bA11,eA11,Hn⟩ k=>⟨bA11,eA11,Hn.ext k⟩) (Ob.q rfl (fun _ _ B U D=>(yT (D 6 rfl) (D 8 rfl) (by constructor <;>omega))) rfl rfl)
        · exact ObG.to hBB hMo (fun _ _ _ _ _ ⟨bA11,eA11,Hn⟩ k=>⟨bA11,eA11,Hn.ext k⟩) (Ob.q rfl (fun _ _ B U D=>(zP (v:=(.agg #[(i ((vS lows)-z.hi)),(i ((vB highs)-z.lo))])) (pe (v:=(i ((vS lows)-z.hi))) (D 4 rfl) (pe (v:=(i ((vB highs)-z.lo))) (D 9 rfl) pn)) (fun w=>by kernel_rfl))) rfl rfl)
        · refine ObG.sp rfl fun done ρ' w' hW U hcl hnd hwt D=>?_
          obtain ⟨bA11,eA11,Hn⟩:=hW
          simp only [hnd,cond_false,List.nil_append] at Hn
          refine Hn.newK (l:=[i 0,i 0]) rfl zv41 rfl ?_
          intro bN w2 k Hm
          refine ⟨(fun q u hq=>hMo q u _ _ k hq),trivial,bN,(fun _=>rfl),?_⟩
          show S Nm w ([(bN,(.cells [i 0,i 0].toArray 41 (0,0):Obj))]++([(b39,.cells [i z.lo,i z.hi].toArray 41 (0,0)),(bi18,.mapIter (some bm) ck seen ck),(bm,.map es ck),(b8,.cells (zX t h ices ab cab ad cad ah cah ai cai az caz).toArray 116 (0,0)),(b,ob),(b3,.cells [i 0,i 0].toArray 41 (0,0)),(b1,.cells (tbC t ab cab ad cad).toArray 45 (0,0))]++(Llo++Lhi))) w2
          exact Hm
      rintro ρ47 w48 ⟨b52,eA11,Hn⟩ U50 D51
      replace H:S Nm w ([(b52,.cells [i 0,i 0].toArray 41 (0,0)),(b39,.cells [i z.lo,i z.hi].toArray 41 (0,0)),(bi18,.mapIter (some bm) ck seen ck),(bm,.map es ck),(b8,.cells (zX t h ices ab cab ad cad ah cah ai cai az caz).toArray 116 (0,0)),(b,ob),(b3,.cells [i 0,i 0].toArray 41 (0,0)),(b1,.cells (tbC t ab cab ad cad).toArray 45 (0,0))]++(Llo++Lhi)) w48:=Hn;clear Hn hMo hBB
      have f53:=(U50 8 rfl).trans f40
      have f55:ρ47 17=p b52 0:=eA11 rfl
      have f56:ρ47 74=(.agg #[(i ((vS lows)-z.hi)),(i ((vB highs)-z.lo))]):=D51 10 rfl
      clear U50 D51
      clear eA11
      refine Ro.d0 rfl rfl rfl (H.store (j:=0) (off:=0) (k:=2) rfl sz41 f55 (v:=(.agg #[(i ((vS lows)-z.hi)),(i ((vB highs)-z.lo))])) f56 rfl rfl rfl rfl (by simp [Value.oneCell']) (cs':=[i ((vS lows)-z.hi),i ((vB highs)-z.lo)]) rfl ?_)
      intro w57 Hn;replace H:S Nm w ([(b52,.cells [i ((vS lows)-z.hi),i ((vB highs)-z.lo)].toArray 41 (0,0)),(b39,.cells [i z.lo,i z.hi].toArray 41 (0,0)),(bi18,.mapIter (some bm) ck seen ck),(bm,.map es ck),(b8,.cells (zX t h ices ab cab ad cad ah cah ai cai az caz).toArray 116 (0,0)),(b,ob),(b3,.cells [i 0,i 0].toArray 41 (0,0)),(b1,.cells (tbC t ab cab ad cad).toArray 45 (0,0))]++(Llo++Lhi)) w57:=Hn;clear Hn
      refine Ro.nil (nT (Wp.seq (Wp.region ?_)))
      refine Ro.q rfl rfl (zJ vL f55 (H.cells 0 rfl) (j:=0) rfl (vs:=[i ((vS lows)-z.hi),i ((vB highs)-z.lo)]) rfl rfl) rfl ?_
      refine Ro.d0 rfl rfl rfl (H.store (j:=6) (off:=0) (k:=2) rfl sz41 f53 (v:=(.agg #[(i ((vS lows)-z.hi)),(i ((vB highs)-z.lo))])) rfl rfl rfl rfl rfl (by simp [Value.oneCell']) (cs':=[i ((vS lows)-z.hi),i ((vB highs)-z.lo)]) rfl ?_)
      intro w58 Hn;replace H:S Nm w ([(b52,.cells [i ((vS lows)-z.hi),i ((vB highs)-z.lo)].toArray 41 (0,0)),(b39,.cells [i z.lo,i z.hi].toArray 41 (0,0)),(bi18,.mapIter (some bm) ck seen ck),(bm,.map es ck),(b8,.cells (zX t h ices ab cab ad cad ah cah ai cai az caz).toArray 116 (0,0)),(b,ob),(b3,.cells [i ((vS lows)-z.hi),i ((vB highs)-z.lo)].toArray 41 (0,0)),(b1,.cells (tbC t ab cab ad cad).toArray 45 (0,0))]++(Llo++Lhi)) w58:=Hn;clear Hn
      refine Ro.q (v:=(i 0)) rfl rfl (zD rfl) rfl ?_
      refine Ro.nil (nT (Wp.ret (zN ?_)))
      refine zT (vs:=[i ((vS lows)-z.hi),i ((vB highs)-z.lo)]) (v:=(i 0)) Tryz.results26 f53 vL (H.cells 6 rfl) rfl rfl ⟨H.keep,?_⟩
      have e:=sam_ok hu hb0 hR hx1 hzd
      rw [e.1,e.2]
    · skip
      intro e w59 he Hn
      replace H:S Nm w ([(bi18,.mapIter (some bm) ck (seen.push e.born) ck),(bm,.map es ck),(b8,.cells (zX t h ices ab cab ad cad ah cah ai cai az caz).toArray 116 (0,0)),(b,ob),(b3,.cells [i 0,i 0].toArray 41 (0,0)),(b1,.cells (tbC t ab cab ad cad).toArray 45 (0,0))]++(Llo++Lhi)) w59:=Hn;clear Hn
      have hel:=left_mem.1 he
      obtain ⟨q,hq,hek,hev⟩:=hE.entry hel.1
      have hlt:=left_lt he
      have hlb:=hi31.2.2.2;have hlh:=hi31.2.2.1.1
      refine Ro.q (v:=(.bool true)) rfl rfl (zO rfl (j:=0) rfl) rfl ?_
      refine Ro.nil (nT (Wp.seq ?_))
      refine Wp.condT rfl ?_
      refine Wp.skip (nT (Wp.block (Wp.seq (Wp.region ?_))))
      refine Ro.q (v:=(.tuple #[(uE q.1),(.agg #[(i q.2.lo),(i q.2.hi)])])) rfl rfl (Runs.to (r_entry f24 (H.at 0 rfl) (H.at 1 rfl) hel.1 hE.born) (by rw [hek,hev])) rfl ?_
      refine Ro.q (v:=(.agg #[(i q.2.lo),(i q.2.hi)])) rfl rfl (zO rfl (j:=1) rfl) rfl ?_
      refine Ro.d rfl rfl rfl (H.new (l:=[i 0,i 0]) rfl zv41 rfl ?_)
      intro b60 w61 Hn;replace H:=Hn;clear Hn
      refine Ro.d0 rfl rfl rfl (H.store (j:=0) (off:=0) (k:=2) rfl sz41 rfl (v:=(.agg #[(i q.2.lo),(i q.2.hi)])) rfl rfl rfl rfl rfl (by simp [Value.oneCell']) (cs':=[i q.2.lo,i q.2.hi]) rfl ?_)
      intro w62 Hn;replace H:S Nm w ([(b60,.cells [i q.2.lo,i q.2.hi].toArray 41 (0,0)),(bi18,.mapIter (some bm) ck (seen.push e.born) ck),(bm,.map es ck),(b8,.cells (zX t h ices ab cab ad cad ah cah ai cai az caz).toArray 116 (0,0)),(b,ob),(b3,.cells [i 0,i 0].toArray 41 (0,0)),(b1,.cells (tbC t ab cab ad cad).toArray 45 (0,0))]++(Llo++Lhi)) w62:=Hn;clear Hn
      refine Ro.nil (nT ?_)
      let L0:List (Nat×Obj):=[(b60,.cells [i q.2.lo,i q.2.hi].toArray 41 (0,0)),(bi18,.mapIter (some bm) ck (seen.push e.born) ck),(bm,.map es ck),(b8,.cells (zX t h ices ab cab ad cad ah cah ai cai az caz).toArray 116 (0,0)),(b,ob),(b3,.cells [i 0,i 0].toArray 41 (0,0)),(b1,.cells (tbC t ab cab ad cad).toArray 45 (0,0))]
      have HX:S Nm w ([]++([]++(Llo++(Lhi++L0)))) _:=H.perm perm_rows
      have hMo:Mono (liftV [fun v=>v=(.slice alo lows.length clo),fun v=>v=(p b60 0),fun v=>v=(i q.2.lo),fun _=>True,fun _=>True,fun v=>v=(.slice ahi highs.length chi),fun v=>v=(p b60 1),fun v=>v=(i q.2.hi),fun _=>True,fun _=>True]):=fun _ _ _ _ _ h=>fix_v _ _ h
      have hBB : ∀ (done:Nat→Bool) (ρ':Env) (w':World),(∃ (b3 b8:Nat) (a4:Option Addr) (c4:Nat) (L4:List (Nat×Obj)) (a9:Option Addr) (c9:Nat) (L9:List (Nat×Obj)),(done 3=true→ρ' 45 = .slice (some ⟨b3,0,none⟩) 1 1)∧(done 8=true→ρ' 50 = .slice (some ⟨b8,0,none⟩) 1 1)∧(done 4=true→ρ' 46 = .slice a4 (lows++[q.2.lo]).length c4∧OwnRow 3 1 a4 (lows++[q.2.lo]).length c4 ((lows++[q.2.lo]).map yD).flatten L4)∧(done 9=true→ρ' 51 = .slice a9 (highs++[q.2.hi]).length c9∧OwnRow 3 1 a9 (highs++[q.2.hi]).length c9 ((highs++[q.2.hi]).map yD).flatten L9)∧S Nm w ((bif done 3 then [(b3,(.cells [i q.2.lo].toArray 3 (0,0):Obj))] else [])++((bif done 8 then [(b8,(.cells [i q.2.hi].toArray 3 (0,0):Obj))] else [])++((bif done 4 then L4 else Llo)++((bif done 9 then L9 else Lhi)++L0)))) w')→S Nm w L0 w':=fun done ρ' w' ⟨b3,b8,a4,c4,L4,a9,c9,L9,e3,e8,e4,e9,Hn⟩=>Hn.part.part.part.part
      refine Wp.drawnG 10 [0,0,2,6,15,0,0,64,192,511,1023,2047] (liftV [fun v=>v=(.slice alo lows.length clo),fun v=>v=(p b60 0),fun v=>v=(i q.2.lo),fun _=>True,fun _=>True,fun v=>v=(.slice ahi highs.length chi),fun v=>v=(p b60 1),fun v=>v=(i q.2.hi),fun _=>True,fun _=>True]) (fun done ρ' w'=>∃ (b3 b8:Nat) (a4:Option Addr) (c4:Nat) (L4:List (Nat×Obj)) (a9:Option Addr) (c9:Nat) (L9:List (Nat×Obj)),(done 3=true→ρ' 45 = .slice (some ⟨b3,0,none⟩) 1 1)∧(done 8=true→ρ' 50 = .slice (some ⟨b8,0,none⟩) 1 1)∧(done 4=true→ρ' 46 = .slice a4 (lows++[q.2.lo]).length c4∧OwnRow 3 1 a4 (lows++[q.2.lo]).length c4 ((lows++[q.2.lo]).map yD).flatten L4)∧(done 9=true→ρ' 51 = .slice a9 (highs++[q.2.hi]).length c9∧OwnRow 3 1 a9 (highs++[q.2.hi]).length c9 ((highs++[q.2.hi]).map yD).flatten L9)∧S Nm w ((bif done 3 then [(b3,(.cells [i q.2.lo].toArray 3 (0,0):Obj))] else [])++((bif done 8 then [(b8,(.cells [i q.2.hi].toArray 3 (0,0):Obj))] else [])++((bif done 4 then L4 else Llo)++((bif done 9 then L9 else Lhi)++L0)))) w') (by kernel_rfl) (by kernel_rfl) rfl (fun w' k=>⟨0,0,none,0,[],none,0,[],(fun h=>by cases h),(fun h=>by cases h),(fun h=>by cases h),(fun h=>by cases h),HX.ext k⟩) ?_ ?_
      · refine ⟨?_,⟨?_,⟨?_,⟨?_,⟨?_,⟨?_,⟨?_,⟨?_,⟨?_,⟨?_,trivial⟩⟩⟩⟩⟩⟩⟩⟩⟩⟩
        · exact ObG.of (B:=fun w'=>S Nm w L0 w') (Ob.mk rfl fun ρ' w' B U D=>Runs.doesF (v:=(.slice alo lows.length clo)) (zB ((U 12 rfl).trans f25)) rfl) hBB hMo (fun _ _ _ _ _ ⟨b3,b8,a4,c4,L4,a9,c9,L9,e3,e8,e4,e9,Hn⟩ k=>⟨b3,b8,a4,c4,L4,a9,c9,L9,e3,e8,e4,e9,Hn.ext k⟩)
        · exact ObG.of (B:=fun w'=>S Nm w L0 w') (Ob.mk rfl fun ρ' w' B U D=>Runs.doesF (v:=(p b60 0)) (zA yV (show (_:Value)=(p b60 0) from U 15 rfl) rfl) rfl) hBB hMo (fun _ _ _ _ _ ⟨b3,b8,a4,c4,L4,a9,c9,L9,e3,e8,e4,e9,Hn⟩ k=>⟨b3,b8,a4,c4,L4,a9,c9,L9,e3,e8,e4,e9,Hn.ext k⟩)
        · exact ObG.of (B:=fun w'=>S Nm w L0 w') (Ob.mk rfl fun ρ' w' B U D=>Runs.doesF (v:=(i q.2.lo)) (zE zM (D 1 rfl) (B.cells 0 rfl) (j:=0) rfl rfl) rfl) hBB hMo (fun _ _ _ _ _ ⟨b3,b8,a4,c4,L4,a9,c9,L9,e3,e8,e4,e9,Hn⟩ k=>⟨b3,b8,a4,c4,L4,a9,c9,L9,e3,e8,e4,e9,Hn.ext k⟩)
        · refine ObG.sp rfl fun done ρ' w' hW U hcl hnd hwt D=>?_
          obtain ⟨b3,b8,a4,c4,L4,a9,c9,L9,e3,e8,e4,e9,Hn⟩:=hW
          have hs:=nd hcl (q:=4) rfl rfl hnd
          simp only [hnd,cond_false,List.nil_append] at Hn
          refine Hn.row (e:=3) (cs:=[i q.2.lo]) rfl (pe (v:=i q.2.lo) (D 2 rfl) pn) (fun w=>by kernel_rfl) ?_
          intro b w2 Hm
          refine ⟨fix_v,trivial,b,b8,a4,c4,L4,a9,c9,L9,(fun _=>rfl),e8,(fun h=>absurd (show done 4=true from h) (by rw [hs];decide)),e9,?_⟩
          show S Nm w ([(b,(.cells [i q.2.lo].toArray 3 (0,0):Obj))]++((bif done 8 then [(b8,(.cells [i q.2.hi].toArray 3 (0,0):Obj))] else [])++((bif done 4 then L4 else Llo)++((bif done 9 then L9 else Lhi)++L0)))) w2
          exact Hm
        · refine ObG.sp rfl fun done ρ' w' hW U hcl hnd hwt D=>?_
          obtain ⟨b3,b8,a4,c4,L4,a9,c9,L9,e3,e8,e4,e9,Hn⟩:=hW
          have ha:done 3=true:=hwt 3 rfl
          simp only [ha,hnd,cond_true,cond_false] at Hn
          replace Hn:=Hn.perm perm5c
          have hcb:Cells w' b3 0 [i q.2.lo]:=⟨_,3,(0,0),Hn.own (b3,(.cells [i q.2.lo].toArray 3 (0,0):Obj)) (by simp),rfl⟩
          refine Hn.appendE (enc:=yD) (xs:=lows) (z:=q.2.lo) hi31.1 tr72_8 rfl (D 0 rfl) (e3 ha) hcb rfl (by simp [yD,Value.oneCell']) (by simp only [maxLen];omega) (by omega) ?_
          intro a c L1 w2 hr Hm
          refine ⟨fix_v,trivial,b3,b8,a,c,L1,a9,c9,L9,e3,e8,(fun _=>⟨rfl,hr⟩),(fun h=>e9 h),?_⟩
          show S Nm w ((bif done 3 then [(b3,(.cells [i q.2.lo].toArray 3 (0,0):Obj))] else [])++((bif done 8 then [(b8,(.cells [i q.2.hi].toArray 3 (0,0):Obj))] else [])++(L1++((bif done 9 then L9 else Lhi)++L0)))) w2
          rw [ha]
          exact Hm.perm perm5c.symm
        · exact ObG.of (B:=fun w'=>S Nm w L0 w') (Ob.mk rfl fun ρ' w' B U D=>Runs.doesF (v:=(.slice ahi highs.length chi)) (zB ((U 13 rfl).trans f26)) rfl) hBB hMo (fun _ _ _ _ _ ⟨b3,b8,a4,c4,L4,a9,c9,L9,e3,e8,e4,e9,Hn⟩ k=>⟨b3,b8,a4,c4,L4,a9,c9,L9,e3,e8,e4,e9,Hn.ext k⟩)
        · exact ObG.of (B:=fun w'=>S Nm w L0 w') (Ob.mk rfl fun ρ' w' B U D=>Runs.doesF (v:=(p b60 1)) (zA yZ (show (_:Value)=(p b60 0) from U 15 rfl) rfl) rfl) hBB hMo (fun _ _ _ _ _ ⟨b3,b8,a4,c4,L4,a9,c9,L9,e3,e8,e4,e9,Hn⟩ k=>⟨b3,b8,a4,c4,L4,a9,c9,L9,e3,e8,e4,e9,Hn.ext k⟩)
        · exact ObG.of (B:=fun w'=>S Nm w L0 w') (Ob.mk rfl fun ρ' w' B U D=>Runs.doesF (v:=(i q.2.hi)) (zE zM (D 6 rfl) (B.cells 0 rfl) (j:=1) rfl rfl) rfl) hBB hMo (fun _ _ _ _ _ ⟨b3,b8,a4,c4,L4,a9,c9,L9,e3,e8,e4,e9,Hn⟩ k=>⟨b3,b8,a4,c4,L4,a9,c9,L9,e3,e8,e4,e9,Hn.ext k⟩)
        · refine ObG.sp rfl fun done ρ' w' hW U hcl hnd hwt D=>?_
          obtain ⟨b3,b8,a4,c4,L4,a9,c9,L9,e3,e8,e4,e9,Hn⟩:=hW
          have hs:=nd hcl (q:=9) rfl rfl hnd
          simp only [hnd,cond_false,List.nil_append] at Hn
          refine Hn.row (e:=3) (cs:=[i q.2.hi]) rfl (pe (v:=i q.2.hi) (D 7 rfl) pn) (fun w=>by kernel_rfl) ?_
          intro b w2 Hm
          refine ⟨fix_v,trivial,b3,b,a4,c4,L4,a9,c9,L9,e3,(fun _=>rfl),e4,(fun h=>absurd (show done 9=true from h) (by rw [hs];decide)),?_⟩
          show S Nm w ((bif done 3 then [(b3,(.cells [i q.2.lo].toArray 3 (0,0):Obj))] else [])++([(b,(.cells [i q.2.hi].toArray 3 (0,0):Obj))]++((bif done 4 then L4 else Llo)++((bif done 9 then L9 else Lhi)++L0)))) w2
          exact Hm.mid
        · refine ObG.sp rfl fun done ρ' w' hW U hcl hnd hwt D=>?_
          obtain ⟨b3,b8,a4,c4,L4,a9,c9,L9,e3,e8,e4,e9,Hn⟩:=hW
          have ha:done 8=true:=hwt 8 rfl
          simp only [ha,hnd,cond_true,cond_false] at Hn
          replace Hn:=Hn.perm perm5d
          have hcb:Cells w' b8 0 [i q.2.hi]:=⟨_,3,(0,0),Hn.own (b8,(.cells [i q.2.hi].toArray 3 (0,0):Obj)) (by simp),rfl⟩
          refine Hn.appendE (enc:=yD) (xs:=highs) (z:=q.2.hi) hi31.2.1 tr72_8 rfl (D 5 rfl) (e8 ha) hcb rfl (by simp [yD,Value.oneCell']) (by simp only [maxLen];omega) (by omega) ?_
          intro a c L1 w2 hr Hm
          refine ⟨fix_v,trivial,b3,b8,a4,c4,L4,a,c,L1,e3,e8,(fun h=>e4 h),(fun _=>⟨rfl,hr⟩),?_⟩
          show S Nm w ((bif done 3 then [(b3,(.cells [i q.2.lo].toArray 3 (0,0):Obj))] else [])++((bif done 8 then [(b8,(.cells [i q.2.hi].toArray 3 (0,0):Obj))] else [])++((bif done 4 then L4 else Llo)++(L1++L0)))) w2
          rw [ha]
          exact Hm.perm perm5d.symm
      rintro ρ63 w64 ⟨x3,x8,a4,c4,L4,a9,c9,L9,e3,e8,e4,e9,Hn⟩ U65 D66
      obtain ⟨g4,h4⟩:=e4 rfl
      obtain ⟨g9,h9⟩:=e9 rfl
      replace H:S Nm w ([(b60,.cells [i q.2.lo,i q.2.hi].toArray 41 (0,0)),(bi18,.mapIter (some bm) ck (seen.push e.born) ck),(bm,.map es ck),(b8,.cells (zX t h ices ab cab ad cad ah cah ai cai az caz).toArray 116 (0,0)),(b,ob),(b3,.cells [i 0,i 0].toArray 41 (0,0)),(b1,.cells (tbC t ab cab ad cad).toArray 45 (0,0))]++(L4++L9)) w64:=(show S Nm w (L4++(L9++L0)) w64 from S.part (X:=[(x8,(.cells [i q.2.hi].toArray 3 (0,0):Obj))]) (S.part (X:=[(x3,(.cells [i q.2.lo].toArray 3 (0,0):Obj))]) Hn)).perm (perm_rows (L:=L0)).symm
      clear hMo hBB Hn HX
      have f67:=(U65 3 rfl).trans f20
      have f68:=(U65 8 rfl).trans f21
      have f69:=(U65 9 rfl).trans f22
      have f70:=(U65 10 rfl).trans f23
      have f71:=(U65 37 rfl).trans f24
      clear U65 D66
      refine Ro.q (v:=(.slice a4 ((lows++[q.2.lo]).length) c4)) rfl rfl (zD g4) rfl ?_
      refine Ro.q (v:=(.slice a9 ((highs++[q.2.hi]).length) c9)) rfl rfl (zD g9) rfl ?_
      refine Ro.nil (nB (nT ?_))
      replace H:=S.sublT (B:=[(bi18,.mapIter (some bm) ck (seen.push e.born) ck),(bm,.map es ck),(b8,.cells (zX t h ices ab cab ad cad ah cah ai cai az caz).toArray 116 (0,0)),(b,ob),(b3,.cells [i 0,i 0].toArray 41 (0,0)),(b1,.cells (tbC t ab cab ad cad).toArray 45 (0,0))]) H (.cons _ (.cons_cons _ (.cons_cons _ (.cons_cons _ (.cons_cons _ (.cons_cons _ (.cons_cons _ (List.Sublist.refl _))))))))
      exact ⟨(leftOf es (seen.push e.born)).size,(by rw [hk29];exact hlt),(seen.push e.born),(lows++[q.2.lo]),(highs++[q.2.hi]),a4,c4,L4,a9,c9,L9,rfl,trivial,rfl,f67,f68,f69,f70,f71,rfl,rfl,H,⟨h4,h9,hi31.2.2.1.push hE hel.1 hek hq,by simp only [List.length_append,List.length_singleton];omega⟩⟩
  · skip
    replace H:=H.ext k6
    refine Ro.q (v:=(.tuple #[(.agg (zuC).toArray),(i (vP t h ices))])) rfl rfl (zB rfl) rfl ?_
    refine Ro.q (v:=(.agg (zuC).toArray)) rfl rfl (zO rfl (j:=0) rfl) rfl ?_
    refine Ro.q (v:=(i (vP t h ices))) rfl rfl (zO rfl (j:=1) rfl) rfl ?_
    refine Ro.d rfl rfl rfl (H.new (l:=zuC) rfl zv116 rfl ?_)
    intro b72 w73 Hn;replace H:=Hn;clear Hn
    refine Ro.d0 rfl rfl rfl (H.store (j:=0) (off:=0) (k:=15) rfl sz116 rfl (v:=(.agg (zuC).toArray)) rfl rfl rfl rfl rfl (by simp [Value.oneCell']) (cs':=zuC) rfl ?_)
    intro w74 Hn;replace H:=Hn;clear Hn
    refine Ro.q (v:=(i (vP t h ices))) rfl rfl (zD rfl) rfl ?_
    refine Ro.nil (nT (Wp.seq (Wp.seq (Wp.region ?_))))
    refine Ro.q (v:=(i (vP t h ices))) rfl rfl (zB rfl) rfl ?_
    refine Ro.q rfl rfl (vR rfl rfl) rfl ?_
    refine Ro.nil (nT ?_)
    refine Wp.condF (show ev _ _ _=_ from congrArg Value.bool (show decide ((vP t h ices)=0)=false by exact decide_eq_false hu)) ?_
    refine Wp.skip (nT (Wp.seq (Wp.seq (Wp.region ?_))))
    refine Ro.q (v:=(i (vP t h ices))) rfl rfl (zB rfl) rfl ?_
    refine Ro.q rfl rfl (vW rfl rfl) rfl ?_
    refine Ro.nil (nT ?_)
    refine Wp.condT (show ev _ _ _=_ from congrArg Value.bool (show decide ((vP t h ices)≠0)=true by exact decide_eq_true hu)) ?_
    refine Wp.seq (Wp.region ?_)
    refine Ro.q (v:=(.agg #[(i 0),(i 0)])) rfl rfl (zP (v:=(.agg #[(i 0),(i 0)])) pn (fun w=>by kernel_rfl)) rfl ?_
    refine Ro.q (v:=(i (vP t h ices))) rfl rfl (zB rfl) rfl ?_
    refine Ro.d0 rfl rfl rfl (H.store (j:=1) (off:=0) (k:=2) rfl sz41 rfl (v:=(.agg #[(i 0),(i 0)])) rfl rfl rfl rfl rfl (by simp [Value.oneCell']) (cs':=[i 0,i 0]) rfl ?_)
    intro w77 Hn;replace H:=Hn;clear Hn
    refine Ro.q (v:=(i (vP t h ices))) rfl rfl (zD rfl) rfl ?_
    refine Ro.nil (nT (Wp.ret (rT (zN ?_))))
    refine zT (vs:=[i 0,i 0]) (v:=(i (vP t h ices))) Tryz.results26 rfl vL (H.cells 1 rfl) rfl rfl ⟨H.keep,?_⟩
    have e:=sam_use (l:=l) hu
    rw [e.1,e.2]
end Go.Proofs.YthfnjppieihcfaaGreat
namespace Men
def rangeL (lo hi:Int):List Int:=(List.range (hi-lo+1).toNat).map fun j:Nat=>lo+(j:Int)
theorem mem_rangeL {lo hi n:Int}:n∈rangeL lo hi↔lo≤n∧n≤hi:=by
  unfold rangeL
  rw [List.mem_map]
  constructor
  · rintro ⟨j,hj,rfl⟩
    have:=List.mem_range.1 hj
    omega
  · rintro ⟨h1,h2⟩
    exact ⟨(n-lo).toNat,List.mem_range.2 (by omega),by omega⟩
def nextL (g:Glass) (r:Rg) (d:Int) (s:St):List St :=
  (rangeL (zL g.bands d).lo (zL g.bands d).hi).flatMap fun c=>(rangeL g.back.lo g.back.hi).flatMap fun b=>(vG g.depths r).map fun k=>after s c b k
/-- what can be behind so many days, by lists -/
def RL (g:Glass) (h:List Rg) (ices:List Ice):Nat→List St
  | 0=>[(0,0)]
  | d+1=>((RL g h ices d).flatMap (nextL g (vN h d) d)).filter fun t=>fitsB ices d (g.zero t)
theorem mem_RL {g:Glass} (o:GlassOk g) {h:List Rg} (hh:HistOk h) {ices:List Ice} : ∀ {d:Nat} {t:St},d≤h.length→(t∈RL g h ices d↔R g h ices d t)
  | 0,t,_=>by simp [RL,R]
  | d+1,t,hd=>by
    have hr:(vN h d).to 500:=by
      unfold vN
      rw [List.getD_eq_getElem?_getD,List.getElem?_eq_getElem (by omega)]
      exact hh.each _ (List.getElem_mem _)
    have hm:=fun k=>mem_progDepths o.rising (r:=vN h d) (by unfold Rg.to at hr;omega) k
    simp only [RL,R,List.mem_filter,List.mem_flatMap,nextL,List.mem_map,mem_rangeL,fitsB_iff]
    constructor
    · rintro ⟨⟨s,hs,c,hc,b,hb,k,hk,rfl⟩,hf⟩
      exact ⟨s,(mem_RL o hh (by omega)).1 hs,⟨c,b,k,hc,hb,(hm k).1 hk,rfl⟩,hf⟩
    · rintro ⟨s,hs,⟨c,b,k,hc,hb,hk,rfl⟩,hf⟩
      exact ⟨⟨s,(mem_RL o hh (by omega)).2 hs,c,hc,b,hb,k,(hm k).2 hk,rfl⟩,hf⟩
theorem agree_RL {g:Glass} (o:GlassOk g) {h:List Rg} (hh:HistOk h) {ices:List Ice}:Agree g h ices↔RL g h ices h.length≠[]:=by
  constructor
  · rintro ⟨t,ht⟩ e
    have:=(mem_RL o hh (Nat.le_refl _)).2 ht
    rw [e] at this;cases this
  · intro hne
    cases hl:RL g h ices h.length with
    | nil=>exact absurd hl hne
    | cons t q=>exact ⟨t,(mem_RL o hh (Nat.le_refl _)).1 (by rw [hl];simp)⟩
/-- without ices all leads on -/
theorem nxt_ex {g:Glass} (o:GlassOk g) {h:List Rg} (hh:HistOk h) {d:Nat} (hd:d<h.length) (s:St) : ∃ u,Nxt g h d s u:=by
  have hr:(vN h d).to 500:=by
    unfold vN
    rw [List.getD_eq_getElem?_getD,List.getElem?_eq_getElem (by omega)]
    exact hh.each _ (List.getElem_mem _)
  have h1:=creepOf_to o d
  have h2:=o.back
  unfold Rg.to at *
  exact ⟨_,(zL g.bands d).lo,g.back.lo,zV g.depths (vN h d).lo,⟨by omega,by omega⟩,⟨by omega,by omega⟩,⟨_,⟨by omega,by omega⟩,rfl⟩,rfl⟩
theorem bk_free {g:Glass} (o:GlassOk g) {h:List Rg} (hh:HistOk h) : ∀ (k d:Nat) (t:St),d+k≤h.length→R g h [] d t→Bk g h [] k d t
  | 0,_,_,_,ht=>ht
  | k+1,d,t,hd,ht=>by
    obtain ⟨u,hu⟩:=nxt_ex o hh (d:=d) (by omega) t
    exact ⟨ht,u,hu,bk_free o hh k (d+1) u (by omega) ⟨t,ht,hu,fun i hi=>by cases hi⟩⟩
theorem Zset_free {g:Glass} (o:GlassOk g) {h:List Rg} (hh:HistOk h) {d:Nat} (hd:d<h.length) {z:Int}:Zset g h [] d z↔z∈(RL g h [] (d+1)).map g.zero:=by
  unfold Zset
  rw [List.mem_map]
  constructor
  · rintro ⟨t,ht,rfl⟩;exact ⟨t,(mem_RL o hh (by omega)).2 ht.r,rfl⟩
  · rintro ⟨t,ht,rfl⟩;exact ⟨t,bk_free o hh _ _ t (by omega) ((mem_RL o hh (by omega)).1 ht),rfl⟩
def hullL:List Rg→Rg
  | []=>⟨0,0⟩
  | q :: l=>l.foldl (fun r x=>⟨min r.lo x.lo,max r.hi x.hi⟩) q
theorem hullL_is (l:List Rg) (h:l≠[]):Hull l (hullL l).lo (hullL l).hi:=by
  cases l with
  | nil=>exact absurd rfl h
  | cons q l =>
    clear h
    have key : ∀ (l pre:List Rg) (r:Rg),Hull pre r.lo r.hi→Hull (pre++l) (l.foldl (fun r x=>(⟨min r.lo x.lo,max r.hi x.hi⟩:Rg)) r).lo (l.foldl (fun r x=>(⟨min r.lo x.lo,max r.hi x.hi⟩:Rg)) r).hi:=by
      intro l
      induction l with
      | nil=>intro pre r hr;simpa using hr
      | cons x l ih =>
        intro pre r hr
        rw [List.foldl_cons]
        have:=ih (pre++[x]) ⟨min r.lo x.lo,max r.hi x.hi⟩ (vU hr rfl rfl)
        simpa using this
    exact key l [q] q (hull_one rfl rfl)
def spansL (t:Tb) (x:Rdg):List Rg:=sixteen (fun k g s r=>vA x.shown x.err x.bare x.alo x.ahi x.deep k g s r) t.klo t.khi t.llo t.lhi t.slo t.shi x.rlo x.rhi
theorem wr_L {t:Tb} {x:Rdg} (ht:TbR t) (hx:RdR x):wr t x=hullL (spansL t x) :=
  (WS_is (l:=spansL t x) rfl (hullL_is _ (by simp [spansL,sixteen])) ht hx)
def yS:Tb:=⟨0,[⟨0,⟨1,2⟩⟩,⟨3,⟨0,1⟩⟩],[⟨100,10⟩,⟨300,25⟩],2,4,15,17,1,2,0,1,2⟩
def vM:List Rg:=[⟨0,0⟩,⟨150,150⟩,⟨0,20⟩,⟨0,350⟩]
def vO:Rdg:=⟨2,2000,2,100,20,30,0,3,2,false⟩
def second0:Rdg:=⟨2,2025,2,0,0,0,0,0,0,false⟩
theorem bands0_ok:BandsOk yS.bs:=by
  refine ⟨fun j b hb=>?_,_,rfl,rfl⟩
  match j with
  | 0=>cases hb;exact ⟨by decide,by decide,fun h=>absurd h (by decide)⟩
  | 1=>cases hb;exact ⟨by decide,by decide,fun _ a ha=>by cases ha;decide⟩
  | j+2=>simp [yS] at hb
theorem depths0_ok:DepthsOk yS.dl:=by
  refine ⟨fun j b hb=>?_,by decide⟩
  match j with
  | 0=>cases hb;exact ⟨by decide,fun h=>absurd h (by decide)⟩
  | 1=>cases hb;exact ⟨by decide,fun _ a ha=>by cases ha;decide⟩
  | j+2=>simp [yS] at hb
theorem tube0_zero:uA yS=0:=by
  have hg:yI yS.base yS.bs yS.dl yS.blo yS.bhi=0:=by
    unfold yI
    rw [bandsB_true.2 bands0_ok,depthsB_true.2 depths0_ok]
    decide
  unfold uA tubeE
  rw [hg];decide
theorem use0:vP yS vM []=0:=by unfold vP;rw [tube0_zero];decide
theorem ask0 (x:Rdg) (h:vX 4 x=true):yY yS vM [] x=0:=ask_good use0 h
theorem agree0:Agree yS.glass vM []:=(agree_RL (tubeEt_zero tube0_zero).2.1 (lifeE_zero (useE_zero use0).2).1).2 (by decide)
theorem zl0:vN (zl yS.glass vM []) 2=⟨-5,0⟩:=by
  have o:=(tubeEt_zero tube0_zero).2.1
  have hh:=(lifeE_zero (useE_zero use0).2).1
  obtain ⟨z,_,h2,h3,_⟩:=zl_at o hh.len agree0 (d:=2) (by decide) (by decide)
  rw [show (2:Int).toNat=2 from rfl] at h2 h3
  rw [h2]
  refine h3.unique ⟨(Zset_free o hh (by decide)).2 (by decide +kernel),(Zset_free o hh (by decide)).2 (by decide +kernel),fun y hy=>?_⟩
  have:=(Zset_free o hh (by decide)).1 hy
  revert this
  have key : ∀ y∈(RL yS.glass vM [] (2+1)).map yS.glass.zero,(-5:Int)≤y∧y≤0:=by decide +kernel
  exact key y
theorem ref0 {x:Rdg} (hb:x.broken=false) (hd:x.day=2):vE yS vM [] x=0:=by
  unfold vE
  rw [hb,hd,agrB_true.2 agree0];decide
theorem tb0:TbR yS:=by unfold TbR;decide
theorem wr0:wr yS vO=⟨2021,2038⟩:=by
  exact (wr_L tb0 (by unfold RdR;decide)).trans (by decide +kernel)
theorem corR0 (x:Rdg) (hd:x.day=2):yR yS vM [] x=⟨(wr yS x).lo-0,(wr yS x).hi - -5⟩:=corR_is (z:=⟨-5,0⟩) (by rw [hd];exact zl0)
theorem cor0:corE yS vM [] vO=0∧yK yS vM [] vO=⟨2021,2043⟩:=by
  have e:corE yS vM [] vO=0:=(cor_ref (ask0 _ (by decide))).trans (ref0 rfl rfl)
  refine ⟨e,?_⟩
  rw [corQ_good e,corR0 _ rfl,wr0];rfl
theorem lastN_congr {P Q:Int→Bool} : ∀ n:Nat,(∀ k:Int,0≤k→k≤n→P k=Q k)→lastN P n=lastN Q n
  | 0,h=>by unfold lastN;rw [h 0 (by omega) (by omega)]
  | n+1,h=>by
    have ih:=lastN_congr (P:=P) (Q:=Q) n (fun k h1 h2=>h k h1 (by omega))
    have e:=h ((n+1:Nat):Int) (by omega) (by omega)
    conv=>lhs;unfold lastN
    conv=>rhs;unfold lastN
    rw [e,ih]
theorem bare0:braE yS vM [] vO 22=0∧braN yS vM [] vO 22=114:=by
  have ha:vV yS vM [] vO 22=0:=(acc_ref (ask0 _ (by decide)) (by decide)).trans (ref0 rfl rfl)
  have hn:bareN yS vM [] vO 22=114:=by
    unfold bareN
    rw [lastN_congr (Q:=fun n=>decide ((hullL (spansL yS (vO.bared n))).hi+5-(hullL (spansL yS (vO.bared n))).lo≤22)) 300 fun k h1 h2=>?_]
    · decide +kernel
    · unfold sureB
      rw [corR0 (vO.bared k) rfl,wr_L tb0 (by unfold RdR;simp only [vO];omega)]
      rw [decide_eq_decide]
      simp only
      omega
  exact bra_some ha hn (by decide)
theorem same0:IsR (SSet yS [vO,second0]) ⟨2023,2027⟩:=by
  have hk:KdIn yS ⟨15,1,1⟩:=by unfold KdIn;decide
  refine ⟨⟨⟨15,1,1⟩,hk,fun x hx=>?_⟩,⟨⟨15,1,1⟩,hk,fun x hx=>?_⟩,fun n hn=>?_⟩
  · simp only [List.mem_cons,List.not_mem_nil,or_false] at hx
    rcases hx with rfl | rfl <;>exact ⟨0,by decide,by decide⟩
  · simp only [List.mem_cons,List.not_mem_nil,or_false] at hx
    rcases hx with rfl | rfl <;>exact ⟨0,by decide,by decide⟩
  · obtain ⟨d,hd,ha⟩:=hn
    obtain ⟨rate,hr,hs⟩:=ha second0 (by simp)
    have hr0:rate=0:=by simp only [second0] at hr;omega
    subst hr0
    have e : ∀ air,zG d.k d.lag d.sq 2025 0 0 air 0 0=2025:=by
      intro air
      unfold zG yC
      simp
    unfold spanX vA Rg.has at hs
    simp only [second0,e] at hs
    simp only;omega
end Men
