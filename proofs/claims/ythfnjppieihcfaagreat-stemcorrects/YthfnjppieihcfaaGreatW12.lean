/- Part of the proof: what the last text of this claim imports. -/
import Derived.Test.YthfnjppieihcfaaGreatW11
import Derived.Laws.StructEq
set_option linter.unusedSimpArgs false
set_option linter.unusedVariables false
set_option maxRecDepth 100000
namespace Go.Mw
open Go.RowKit
variable {P : Program} {N : Nat} {ρ : Env} {w : World}
/-- two values of a struct's type are the same, or not -/
def EqT (P:Program) (t:TypeId) (X Y:Value) (r:Bool):Prop:=(∃ xs ys,X = .agg xs∧Y = .agg ys)∧(∀ w,(Op.equalIn 10000 t X Y).run P w = .ok r w)∧P.eqGuardType P.depth t=false
theorem r_eqS {t t':TypeId} {x y:Operand} {X Y:Value} {r:Bool} (he:EqT P t X Y r) (hx:ev N ρ x=X) (hy:ev N ρ y=Y):Runs P N (.binOp .eql t x y t') ρ w (.bool r):=by
  obtain ⟨⟨xs,ys,rfl,rfl⟩,h1,h2⟩:=he
  intro o ho
  simp only [execOp,ho,hx,hy]
  have:=run_eqGuard_agg (P:=P) w .eql t x y xs ys h2
  have e:=run_eql_struct (P:=P) w t xs ys
  rw [h1 w] at e
  simp [Sem.run_bind,this,e,Result.andThen]
theorem r_neS {t t':TypeId} {x y:Operand} {X Y:Value} {r:Bool} (he:EqT P t X Y r) (hx:ev N ρ x=X) (hy:ev N ρ y=Y):Runs P N (.binOp .neq t x y t') ρ w (.bool (!r)):=by
  obtain ⟨⟨xs,ys,rfl,rfl⟩,h1,h2⟩:=he
  intro o ho
  simp only [execOp,ho,hx,hy]
  have:=run_eqGuard_agg (P:=P) w .neq t x y xs ys h2
  have e:=run_neq_struct (P:=P) w t xs ys
  rw [h1 w] at e
  simp [Sem.run_bind,this,e,Result.andThen]
section
variable {M : Nat → Prop} {w0 : World} {L : List (Nat × Obj)} {o : Oper} {K : Value → World → Prop}
end
/-- .. in a block from n on -/
def FSl (n:Nat) (w:World) (k:Nat) (xs:List (List Value)) (a:Option Addr):Prop:=Sl w k xs a∧(xs≠[]→n≤blk a)
theorem FSl.ext {n k:Nat} {w w':World} {xs:List (List Value)} {a:Option Addr} (h:FSl n w k xs a) (kp:Keep Nm w w'):FSl n w' k xs a:=⟨h.1.ext kp,h.2⟩
theorem FSl.le {n m k:Nat} {w:World} {xs:List (List Value)} {a:Option Addr} (h:FSl n w k xs a) (hm:m≤n):FSl m w k xs a:=⟨h.1,fun e=>Nat.le_trans hm (h.2 e)⟩
theorem FSl.put {n k b:Nat} {w w':World} {xs:List (List Value)} {a:Option Addr} (h:FSl n w k xs a) (hb:b<n) (kp:Keep (fun q=>q=b) w w'):FSl n w' k xs a :=
  ⟨h.1.keep (fun hne e=>by have:=h.2 hne;omega) kp,h.2⟩
theorem FSl.nil {n k:Nat} {w:World} {xs:List (List Value)} (h:xs=[]):FSl n w k xs none:=by subst h;exact ⟨fun j x hx=>by simp at hx,fun h=>absurd rfl h⟩
section
variable {M : Nat → Prop} {w0 : World} {L : List (Nat × Obj)} {o : Oper} {K : Value → World → Prop}
theorem S.bound (H:S M w0 L w) : ∃ n,n≤w.heap.size∧(∀ p∈L,p.1<n)∧w0.heap.size≤n:=⟨w.heap.size,Nat.le_refl _,fun _ hp=>H.lt hp,H.keep.size⟩
theorem S.storeK (H:S M w0 L w) {t k j b off:Nat} {u:TypeId} {x y:Operand} {v:Value} {cs vs cs':List Value} (ho:o.op = .store t x y) (hs : ∀ w,(sizeOf t).run P w = .ok k w)
    (hx:ev N ρ x=p b off) (hy:ev N ρ y=v) (hi:L[j]? = some (b,.cells cs.toArray u (0,0))) (hvc:v.cells=vs.toArray) (hl:vs.length=k) (hle:Nat.ble (off+k) cs.length=true)
    (h1 : ∀ v∈vs,v.oneCell'=true) (hn:cs.take off++vs++cs.drop (off+k)=cs') (hk : ∀ w',Keep (fun q=>q=b) w w'→S M w0 (L.set j (b,.cells cs'.toArray u (0,0))) w'→K undef w'):Does P N o ρ w K:=by
  have hb:=H.own _ (List.mem_of_getElem? hi)
  have hle':off+k≤cs.length:=by simpa using hle
  have hr:=run_storeCells (P:=P) vs off 0 cs w hb (by omega) h1
  simp only [Nat.add_zero,hl,hn] at hr
  have hrun:(execOp (ev N ρ) o).run P w = .ok .skip (Mw.put w b (.cells cs'.toArray u (0,0))):=by
    simp only [execOp,ho,hx,hy,Instr.storeAt,Instr.sureAddr,storeVar,Sem.run_bind,Sem.run_pure,Result.andThen,hs w,hvc,List.size_toArray,hl,ne_eq,not_true_eq_false,if_false,hr]
  unfold Does
  rw [hrun]
  exact hk _ ⟨rfl,rfl,rfl,Nat.le_of_eq (put_size _ _ _).symm,fun q _ hq=>put_other hq⟩ (H.put j hi _)
theorem OwnRow.fsl {α:Type} {enc:α→List Value} {k e:Nat} (hk : ∀ x,(enc x).length=k) {w':World} {a:Option Addr} {n c:Nat} {xs:List α} {L0:List (Nat×Obj)} (h:OwnRow e k a n c (xs.map enc).flatten L0) (hn:n=xs.length) (H:S Nm w0 (L++L0) w'):FSl w0.heap.size w' k (xs.map enc) a:=by
  refine ⟨h.sl hk hn H,fun hne=>?_⟩
  have hpos:0<n:=by
    rw [hn]
    cases xs with
    | nil=>exact absurd rfl hne
    | cons x xs=>simp
  obtain ⟨g,tl,rfl,rfl,_⟩:=h.room hpos
  have:=H.fresh (g,_) (List.mem_append_right L (List.mem_singleton.2 rfl))
  exact this.elim id False.elim
end
abbrev RowAt (k len:Nat) (xs:List (List Value)) (n:Nat) (v:Value) (w:World):Prop:=∃ a c,v = .slice a len c∧FSl n w k xs a
theorem RowAt.le {k len n m:Nat} {xs:List (List Value)} {v:Value} {w:World} (h:RowAt k len xs n v w) (hm:m≤n):RowAt k len xs m v w:=let ⟨a,c,h1,h2⟩:=h;⟨a,c,h1,h2.le hm⟩
theorem RowAt.ext {k len n:Nat} {xs:List (List Value)} {v:Value} {w w':World} (h:RowAt k len xs n v w) (kk:Keep Nm w w'):RowAt k len xs n v w':=let ⟨a,c,h1,h2⟩:=h;⟨a,c,h1,h2.ext kk⟩
end Go.Mw
namespace Go.Proofs.YthfnjppieihcfaaGreat
open Go.RowKit Go.Proofs Go.Mw
theorem en17:Go.Proofs.Enters Tryz.prog 17:=Go.Proofs.enters_of Tryz.func17 (by kernel_rfl) rfl
theorem en26:Go.Proofs.Enters Tryz.prog 26:=Go.Proofs.enters_of Tryz.func26 (by kernel_rfl) rfl
theorem en35:Go.Proofs.Enters Tryz.prog 35:=Go.Proofs.enters_of Tryz.func35 (by kernel_rfl) rfl
theorem en39:Go.Proofs.Enters Tryz.prog 39:=Go.Proofs.enters_of Tryz.func39 (by kernel_rfl) rfl
theorem en42:Go.Proofs.Enters Tryz.prog 42:=Go.Proofs.enters_of Tryz.func42 (by kernel_rfl) rfl
theorem en55:Go.Proofs.Enters Tryz.prog 55:=Go.Proofs.enters_of Tryz.func55 (by kernel_rfl) rfl
theorem en56:Go.Proofs.Enters Tryz.prog 56:=Go.Proofs.enters_of Tryz.func56 (by kernel_rfl) rfl
theorem en57:Go.Proofs.Enters Tryz.prog 57:=Go.Proofs.enters_of Tryz.func57 (by kernel_rfl) rfl
theorem sz43 : ∀ w,(sizeOf 43).run Tryz.prog w = .ok 5 w:=fun _=>by kernel_rfl
theorem sz45 : ∀ w,(sizeOf 45).run Tryz.prog w = .ok 12 w:=fun _=>by kernel_rfl
theorem sz52 : ∀ w,(sizeOf 52).run Tryz.prog w = .ok 10 w:=fun _=>by kernel_rfl
theorem zv43:ZV Tryz.prog 43 (.agg #[(i 0),(.slice none 0 0),(.slice none 0 0),(i 0),(i 0)]):=Tryz.zeroValue43
theorem zv45:ZV Tryz.prog 45 (.agg #[(i 0),(.slice none 0 0),(.slice none 0 0),(i 0),(i 0),(i 0),(i 0),(i 0),(i 0),(i 0),(i 0),(i 0)]):=Tryz.zeroValue45
theorem zv52:ZV Tryz.prog 52 (.agg #[(i 0),(i 0),(i 0),(i 0),(i 0),(i 0),(i 0),(i 0),(i 0),(.bool false)]):=Tryz.zeroValue52
open Men
theorem eq41 (a b c d:Int):EqT Tryz.prog 41 (.agg #[i a,i b]) (.agg #[i c,i d]) (decide (a=c) && decide (b=d)):=by
  refine ⟨⟨_,_,rfl,rfl⟩,fun w=>?_,Tryz.eqGuardType41⟩
  rw [run_equalIn_agg (P:=Tryz.prog) w 9999 41 _ _ (by simp [Program.fieldsOf,Tryz.underlying41]) Tryz.stoodInHeld41]
  simp [Program.fieldsOf,Tryz.underlying41,Op.eqFields,go_sem,Tryz.isAgg3,Tryz.underlying3]
  by_cases h1:a=c <;>by_cases h2:b=d <;>simp [h1,h2]
theorem c55 (w:World):Ret Tryz.prog 55 [] w fun v w'=>∃ (b1 b2:Nat) (o1 o2:Obj),v=(.agg (tbC yS (some ⟨b1,0,none⟩) 2 (some ⟨b2,0,none⟩) 2).toArray)∧S Nm w [(b2,o2),(b1,o1)] w'∧InB b1 o1 3 (yS.bs.map yH) (some ⟨b1,0,none⟩)∧InB b2 o2 2 (yS.dl.map zZ) (some ⟨b2,0,none⟩):=by
  refine Ret.body (N:=17) Tryz.func55 rfl Tryz.ntmps55 rfl ?_
  have H:=S.start Nm w
  refine Wp.seq (Wp.region ?_)
  refine Ro.d rfl rfl rfl (H.new (l:=[i 0,.slice none 0 0,.slice none 0 0,i 0,i 0,i 0,i 0,i 0,i 0,i 0,i 0,i 0]) rfl zv45 rfl ?_)
  intro b1 w2 Hn;replace H:=Hn;clear Hn
  refine Ro.nil (nT (Wp.seq (Wp.region ?_)))
  refine Ro.d rfl rfl rfl (zH rfl en42 (ce (v:=(i 1)) rfl (ce (v:=(i 2)) rfl cn)) (c42 1 2 _ ) ?_)
  intro u w3 k4 hu;subst hu;replace H:=H.ext k4
  clear k4
  refine Ro.q (v:=(.agg #[(i 0),(i 1),(i 2)])) rfl rfl (zP (v:=(.agg #[(i 0),(i 1),(i 2)])) (pe (v:=(.agg #[(i 1),(i 2)])) rfl pn) (fun w=>by kernel_rfl)) rfl ?_
  refine Ro.d rfl rfl rfl (zH rfl en42 (ce (v:=(i 0)) rfl (ce (v:=(i 1)) rfl cn)) (c42 0 1 _ ) ?_)
  intro u w5 k6 hu;subst hu;replace H:=H.ext k6
  clear k6
  refine Ro.q (v:=(.agg #[(i 3),(i 0),(i 1)])) rfl rfl (zP (v:=(.agg #[(i 3),(i 0),(i 1)])) (pe (v:=(i 3)) rfl (pe (v:=(.agg #[(i 0),(i 1)])) rfl pn)) (fun w=>by kernel_rfl)) rfl ?_
  refine Ro.d rfl rfl rfl (H.row (e:=161) (cs:=[i 0,i 1,i 2,i 3,i 0,i 1]) rfl (pe (v:=(.agg #[(i 0),(i 1),(i 2)])) rfl (pe (v:=(.agg #[(i 3),(i 0),(i 1)])) rfl pn)) (fun w=>by kernel_rfl) ?_)
  intro b7 w8 Hn;replace H:=Hn;clear Hn
  refine Ro.q (v:=(.agg #[(i 100),(i 10)])) rfl rfl (zP (v:=(.agg #[(i 100),(i 10)])) (pe (v:=(i 100)) rfl (pe (v:=(i 10)) rfl pn)) (fun w=>by kernel_rfl)) rfl ?_
  refine Ro.q (v:=(.agg #[(i 300),(i 25)])) rfl rfl (zP (v:=(.agg #[(i 300),(i 25)])) (pe (v:=(i 300)) rfl (pe (v:=(i 25)) rfl pn)) (fun w=>by kernel_rfl)) rfl ?_
  refine Ro.d rfl rfl rfl (H.row (e:=164) (cs:=[i 100,i 10,i 300,i 25]) rfl (pe (v:=(.agg #[(i 100),(i 10)])) rfl (pe (v:=(.agg #[(i 300),(i 25)])) rfl pn)) (fun w=>by kernel_rfl) ?_)
  intro b9 w10 Hn;replace H:=Hn;clear Hn
  refine Ro.d rfl rfl rfl (zH rfl en42 (ce (v:=(i 2)) rfl (ce (v:=(i 4)) rfl cn)) (c42 2 4 _ ) ?_)
  intro u w11 k12 hu;subst hu;replace H:=H.ext k12
  clear k12
  refine Ro.q (v:=(.agg #[(i 0),(.slice (some ⟨b7,0,none⟩) 2 2),(.slice (some ⟨b9,0,none⟩) 2 2),(i 2),(i 4)])) rfl rfl (zP (v:=(.agg #[(i 0),(.slice (some ⟨b7,0,none⟩) 2 2),(.slice (some ⟨b9,0,none⟩) 2 2),(i 2),(i 4)])) (pe (v:=(.slice (some ⟨b7,0,none⟩) 2 2)) rfl (pe (v:=(.slice (some ⟨b9,0,none⟩) 2 2)) rfl (pe (v:=(.agg #[(i 2),(i 4)])) rfl pn))) (fun w=>by kernel_rfl)) rfl ?_
  refine Ro.d rfl rfl rfl (H.new (l:=[i 0,.slice none 0 0,.slice none 0 0,i 0,i 0]) rfl zv43 rfl ?_)
  intro b13 w14 Hn;replace H:=Hn;clear Hn
  refine Ro.d0 rfl rfl rfl (H.store (j:=0) (off:=0) (k:=5) rfl sz43 rfl (v:=(.agg #[(i 0),(.slice (some ⟨b7,0,none⟩) 2 2),(.slice (some ⟨b9,0,none⟩) 2 2),(i 2),(i 4)])) rfl rfl rfl rfl rfl (by simp [Value.oneCell']) (cs':=[i 0,.slice (some ⟨b7,0,none⟩) 2 2,.slice (some ⟨b9,0,none⟩) 2 2,i 2,i 4]) rfl ?_)
  intro w15 Hn;replace H:=Hn;clear Hn
  refine Ro.nil (nT (Wp.seq ?_))
  refine Wp.drawnS 5 [0,0,2,6,15,31] [is (.agg #[(i 0),(.slice (some ⟨b7,0,none⟩) 2 2),(.slice (some ⟨b9,0,none⟩) 2 2),(i 2),(i 4)]),is (.agg #[(i 15),(i 17)]),is (.agg #[(i 1),(i 2)]),is (.agg #[(i 0),(i 1)]),is (.agg #[(i 0),(.slice (some ⟨b7,0,none⟩) 2 2),(.slice (some ⟨b9,0,none⟩) 2 2),(i 2),(i 4),(i 15),(i 17),(i 1),(i 2),(i 0),(i 1),(i 2)])] (by kernel_rfl) (by kernel_rfl) rfl (Mi (Mi (Mi (Mi (Mi Mono.nil))))) (fun w' k=>H.ext k) ?_ ?_
  · refine ⟨?_,?_,?_,?_,?_,trivial⟩
    · exact Ob.q rfl (fun _ _ B U D=>(zJ ta43 (show (_:Value)=(p b13 0) from U 1 rfl) (B.cells 0 rfl) (j:=0) rfl (vs:=[i 0,.slice (some ⟨b7,0,none⟩) 2 2,.slice (some ⟨b9,0,none⟩) 2 2,i 2,i 4]) rfl rfl)) rfl rfl
    · exact Ob.mk rfl fun ρ' w' B U D=>zH rfl en42 (ce (v:=(i 15)) rfl (ce (v:=(i 17)) rfl cn)) (c42 15 17 _ ) (fun u w2 k2 hu=>⟨k2,hu⟩)
    · exact Ob.mk rfl fun ρ' w' B U D=>zH rfl en42 (ce (v:=(i 1)) rfl (ce (v:=(i 2)) rfl cn)) (c42 1 2 _ ) (fun u w2 k2 hu=>⟨k2,hu⟩)
    · exact Ob.mk rfl fun ρ' w' B U D=>zH rfl en42 (ce (v:=(i 0)) rfl (ce (v:=(i 1)) rfl cn)) (c42 0 1 _ ) (fun u w2 k2 hu=>⟨k2,hu⟩)
    · exact Ob.q rfl (fun _ _ B U D=>(zP (v:=(.agg #[(i 0),(.slice (some ⟨b7,0,none⟩) 2 2),(.slice (some ⟨b9,0,none⟩) 2 2),(i 2),(i 4),(i 15),(i 17),(i 1),(i 2),(i 0),(i 1),(i 2)])) (pe (v:=(.agg #[(i 0),(.slice (some ⟨b7,0,none⟩) 2 2),(.slice (some ⟨b9,0,none⟩) 2 2),(i 2),(i 4)])) (D 0 rfl) (pe (v:=(.agg #[(i 15),(i 17)])) (D 1 rfl) (pe (v:=(.agg #[(i 1),(i 2)])) (D 2 rfl) (pe (v:=(.agg #[(i 0),(i 1)])) (D 3 rfl) (pe (v:=(i 2)) rfl pn))))) (fun w=>by kernel_rfl))) rfl rfl
  intro ρ16 w17 k18 U19 D20;replace H:=H.ext k18
  have f21:ρ16 0=(p b1 0):=U19 0 rfl
  have f22:ρ16 16=(.agg #[(i 0),(.slice (some ⟨b7,0,none⟩) 2 2),(.slice (some ⟨b9,0,none⟩) 2 2),(i 2),(i 4),(i 15),(i 17),(i 1),(i 2),(i 0),(i 1),(i 2)]):=D20 4 rfl
  clear U19 D20 k18
  refine Ro.d0 rfl rfl rfl (H.store (j:=3) (off:=0) (k:=12) rfl sz45 f21 (v:=(.agg #[(i 0),(.slice (some ⟨b7,0,none⟩) 2 2),(.slice (some ⟨b9,0,none⟩) 2 2),(i 2),(i 4),(i 15),(i 17),(i 1),(i 2),(i 0),(i 1),(i 2)])) f22 rfl rfl rfl rfl (by simp [Value.oneCell']) (cs':=[i 0,.slice (some ⟨b7,0,none⟩) 2 2,.slice (some ⟨b9,0,none⟩) 2 2,i 2,i 4,i 15,i 17,i 1,i 2,i 0,i 1,i 2]) rfl ?_)
  intro w23 Hn;replace H:=Hn;clear Hn
  refine Ro.nil (nT (Wp.ret (zN ?_)))
  refine yW (vs:=[i 0,.slice (some ⟨b7,0,none⟩) 2 2,.slice (some ⟨b9,0,none⟩) 2 2,i 2,i 4,i 15,i 17,i 1,i 2,i 0,i 1,i 2]) Tryz.results55 f21 ta45 (H.cells 3 rfl) rfl ⟨H.keep,?_⟩
  replace H:=S.sublist (L':=[(b9,.cells [i 100,i 10,i 300,i 25].toArray 164 (0,0)),(b7,.cells [i 0,i 1,i 2,i 3,i 0,i 1].toArray 161 (0,0))]) H (.cons _ (.cons_cons _ (.cons_cons _ (.cons _ (List.Sublist.refl _)))))
  exact ⟨b7,b9,_,_,rfl,H,(fun W hW=>Sl.of (b:=b7) (k:=3) (xs:=yS.bs.map yH) (by decide) ⟨_,_,_,hW,rfl⟩),(fun W hW=>Sl.of (b:=b9) (k:=2) (xs:=yS.dl.map zZ) (by decide) ⟨_,_,_,hW,rfl⟩)⟩
theorem c56 (w:World):Rv Tryz.prog 56 [] w (.agg (rdC vO).toArray):=by
  refine Ret.body (N:=4) Tryz.func56 rfl Tryz.ntmps56 rfl ?_
  have H:=S.start Nm w
  refine Wp.seq (Wp.region ?_)
  refine Ro.d rfl rfl rfl (H.new (l:=[i 0,i 0,i 0,i 0,i 0,i 0,i 0,i 0,i 0,.bool false]) rfl zv52 rfl ?_)
  intro b1 w2 Hn;replace H:=Hn;clear Hn
  refine Ro.nil (nT (Wp.seq (Wp.region ?_)))
  refine Ro.d rfl rfl rfl (zH rfl en42 (ce (v:=(i 20)) rfl (ce (v:=(i 30)) rfl cn)) (c42 20 30 _ ) ?_)
  intro u w3 k4 hu;subst hu;replace H:=H.ext k4
  clear k4
  refine Ro.d rfl rfl rfl (zH rfl en42 (ce (v:=(i 0)) rfl (ce (v:=(i 3)) rfl cn)) (c42 0 3 _ ) ?_)
  intro u w5 k6 hu;subst hu;replace H:=H.ext k6
  clear k6
  refine Ro.q (v:=(.agg #[(i 2),(i 2000),(i 2),(i 100),(i 20),(i 30),(i 0),(i 3),(i 2),(.bool false)])) rfl rfl (zP (v:=(.agg #[(i 2),(i 2000),(i 2),(i 100),(i 20),(i 30),(i 0),(i 3),(i 2),(.bool false)])) (pe (v:=(i 2)) rfl (pe (v:=(i 2000)) rfl (pe (v:=(i 2)) rfl (pe (v:=(i 100)) rfl (pe (v:=(.agg #[(i 20),(i 30)])) rfl (pe (v:=(.agg #[(i 0),(i 3)])) rfl (pe (v:=(i 2)) rfl pn))))))) (fun w=>by kernel_rfl)) rfl ?_
  refine Ro.d0 rfl rfl rfl (H.store (j:=0) (off:=0) (k:=10) rfl sz52 rfl (v:=(.agg #[(i 2),(i 2000),(i 2),(i 100),(i 20),(i 30),(i 0),(i 3),(i 2),(.bool false)])) rfl rfl rfl rfl rfl (by simp [Value.oneCell']) (cs':=[i 2,i 2000,i 2,i 100,i 20,i 30,i 0,i 3,i 2,.bool false]) rfl ?_)
  intro w7 Hn;replace H:=Hn;clear Hn
  refine Ro.nil (nT (Wp.ret (zN ?_)))
  refine yW (vs:=[i 2,i 2000,i 2,i 100,i 20,i 30,i 0,i 3,i 2,.bool false]) Tryz.results56 rfl ta52 (H.cells 0 rfl) rfl ⟨H.keep,?_⟩
  rfl
theorem c57 (w:World):Ret Tryz.prog 57 [] w fun v w'=>∃ (b:Nat) (o:Obj),v = .slice (some ⟨b,0,none⟩) 4 4∧S Nm w [(b,o)] w'∧InB b o 2 (vM.map rgV) (some ⟨b,0,none⟩):=by
  refine Ret.body (N:=6) Tryz.func57 rfl Tryz.ntmps57 rfl ?_
  have H:=S.start Nm w
  refine Wp.seq (Wp.region ?_)
  refine Ro.q (v:=(.slice none 0 0)) rfl rfl (zD rfl) rfl ?_
  refine Ro.nil (nT (Wp.seq (Wp.region ?_)))
  refine Ro.d rfl rfl rfl (zH rfl en42 (ce (v:=(i 0)) rfl (ce (v:=(i 0)) rfl cn)) (c42 0 0 _ ) ?_)
  intro u w1 k2 hu;subst hu;replace H:=H.ext k2
  clear k2
  refine Ro.d rfl rfl rfl (zH rfl en42 (ce (v:=(i 150)) rfl (ce (v:=(i 150)) rfl cn)) (c42 150 150 _ ) ?_)
  intro u w3 k4 hu;subst hu;replace H:=H.ext k4
  clear k4
  refine Ro.d rfl rfl rfl (zH rfl en42 (ce (v:=(i 0)) rfl (ce (v:=(i 20)) rfl cn)) (c42 0 20 _ ) ?_)
  intro u w5 k6 hu;subst hu;replace H:=H.ext k6
  clear k6
  refine Ro.d rfl rfl rfl (zH rfl en42 (ce (v:=(i 0)) rfl (ce (v:=(i 350)) rfl cn)) (c42 0 350 _ ) ?_)
  intro u w7 k8 hu;subst hu;replace H:=H.ext k8
  clear k8
  refine Ro.d rfl rfl rfl (H.row (e:=41) (cs:=[i 0,i 0,i 150,i 150,i 0,i 20,i 0,i 350]) rfl (pe (v:=(.agg #[(i 0),(i 0)])) rfl (pe (v:=(.agg #[(i 150),(i 150)])) rfl (pe (v:=(.agg #[(i 0),(i 20)])) rfl (pe (v:=(.agg #[(i 0),(i 350)])) rfl pn)))) (fun w=>by kernel_rfl) ?_)
  intro b9 w10 Hn;replace H:=Hn;clear Hn
  refine Ro.q (v:=(.slice (some ⟨b9,0,none⟩) 4 4)) rfl rfl (zD rfl) rfl ?_
  refine Ro.nil (nT (Wp.ret (zN ?_)))
  refine zI (v:=(.slice (some ⟨b9,0,none⟩) 4 4)) Tryz.results57 rfl ⟨H.keep,?_⟩
  exact ⟨b9,_,rfl,H.one 0 rfl,(fun W hW=>Sl.of (b:=b9) (k:=2) (xs:=vM.map rgV) (by decide) ⟨_,_,_,hW,rfl⟩)⟩
theorem awk39 {ab ad:Option Addr} {cab cad:Nat} (w:World) (hab:Sl w 3 (yS.bs.map yH) ab) (had:Sl w 2 (yS.dl.map zZ) ad):Ret Tryz.prog 39 [.agg (tbC yS ab cab ad cad).toArray,.agg (rdC vO).toArray,.agg #[i (-3),i 15,i 2,i 1,i 30,i 3,i 1]] w fun v _=>v = .tuple #[i 2033,i 0] :=
  (c39 w hab had (by decide)).mono fun v w' k ⟨n,e,hv,hn⟩=>by
    obtain ⟨rfl,rfl⟩:=hn ⟨tube0_zero,by decide,by decide⟩
    rw [hv];rfl
theorem awk35 {ab ad ah:Option Addr} {cab cad cah:Nat} (w:World) (hab:Sl w 3 (yS.bs.map yH) ab) (had:Sl w 2 (yS.dl.map zZ) ad) (hah:Sl w 2 (vM.map rgV) ah):Rv Tryz.prog 35 [.agg (tbC yS ab cab ad cad).toArray,.slice ah 4 cah,.slice none 0 0,.agg (rdC vO).toArray] w (.tuple #[.agg #[i 2021,i 2043],i 0]):=by
  have h:=c35 (t:=yS) (h:=vM) (ices:=[]) (x:=vO) (ai:=none) (cai:=0) (cah:=cah) (cab:=cab) (cad:=cad) w hab had hah (Sl.nil' rfl) (by decide) (by decide)
  rw [cor0.1,cor0.2] at h;exact h
theorem awk17 {ab ad ah:Option Addr} {cab cad cah:Nat} (w:World) (hab:Sl w 3 (yS.bs.map yH) ab) (had:Sl w 2 (yS.dl.map zZ) ad) (hah:Sl w 2 (vM.map rgV) ah):Rv Tryz.prog 17 [.agg (tbC yS ab cab ad cad).toArray,.slice ah 4 cah,.slice none 0 0,.agg (rdC vO).toArray,i 22] w (.tuple #[i 114,i 0]):=by
  have h:=c17 (t:=yS) (h:=vM) (ices:=[]) (x:=vO) (most:=22) (ai:=none) (cai:=0) (cah:=cah) (cab:=cab) (cad:=cad) w hab had hah (Sl.nil' rfl) (by decide) (by decide)
  rw [bare0.1,bare0.2] at h;exact h
theorem bath0:bathE yS vM [] [vO,second0]=0:=by
  rw [bath_one (x0:=vO) (by decide) rfl,ref0 rfl rfl];decide
theorem sam0:samE yS vM [] [vO,second0]=0∧samQ yS vM [] [vO,second0]=⟨2023,2032⟩:=sam_ok use0 bath0 same0 rfl zl0
theorem awk26 {ab ad ah:Option Addr} {cab cad cah:Nat} (w:World) (hab:Sl w 3 (yS.bs.map yH) ab) (had:Sl w 2 (yS.dl.map zZ) ad) (hah:Sl w 2 (vM.map rgV) ah) {al:Option Addr} {cal:Nat} (hal:Sl w 10 ([vO,second0].map rdV) al):Rv Tryz.prog 26 [.agg (tbC yS ab cab ad cad).toArray,.slice ah 4 cah,.slice none 0 0,.slice al 2 cal] w (.tuple #[.agg #[i 2023,i 2032],i 0]):=by
  have h:=c26 (t:=yS) (h:=vM) (ices:=[]) (l:=[vO,second0]) (ai:=none) (cai:=0) (cah:=cah) (cab:=cab) (cad:=cad) (cal:=cal) w hab had hah (Sl.nil' rfl) hal (by decide) (by decide)
  rw [sam0.1,sam0.2] at h;exact h
set_option maxHeartbeats 2000000 in
theorem c16 (w:World):Rv Tryz.prog 16 [] w (.bool true):=by
  refine Ret.body (N:=71) Tryz.func16 rfl Tryz.ntmps16 rfl ?_
  have H:=S.start Nm w
  refine Wp.seq (Wp.region ?_)
  refine Ro.q (v:=(.bool false)) rfl rfl (zD rfl) rfl ?_
  refine Ro.nil (nT (Wp.seq (Wp.region ?_)))
  refine Ro.d rfl rfl rfl (zH rfl en55 cn (c55 _) ?_)
  have Hc10:=H
  rintro u w8 k9 ⟨bt1,bt2,ot3,ot4,rfl,hS5,hz6,hz7⟩
  replace H:=H.ext k9
  replace H:S Nm w [(bt2,ot4),(bt1,ot3)] w8:=Hc10.join hS5
  refine Ro.d rfl rfl rfl (zH rfl en56 cn (c56 _) ?_)
  rintro u w11 k12 rfl
  replace H:=H.ext k12
  refine Ro.q (v:=(.agg #[(i (-3)),(i 15),(i 2),(i 1),(i 30),(i 3),(i 1)])) rfl rfl (zP (v:=(.agg #[(i (-3)),(i 15),(i 2),(i 1),(i 30),(i 3),(i 1)])) (pe (v:=(i (-3))) rfl (pe (v:=(i 15)) rfl (pe (v:=(i 2)) rfl (pe (v:=(i 1)) rfl (pe (v:=(i 30)) rfl (pe (v:=(i 3)) rfl (pe (v:=(i 1)) rfl pn))))))) (fun w=>by kernel_rfl)) rfl ?_
  refine Ro.d rfl rfl rfl (zH rfl en39 (ce (v:=(.agg (tbC yS (some ⟨bt1,0,none⟩) 2 (some ⟨bt2,0,none⟩) 2).toArray)) rfl (ce (v:=(.agg (rdC vO).toArray)) rfl (ce (v:=(.agg #[(i (-3)),(i 15),(i 2),(i 1),(i 30),(i 3),(i 1)])) rfl cn))) (awk39 _ (hz6 _ (H.at 1 rfl)) (hz7 _ (H.at 0 rfl))) ?_)
  rintro u w14 k15 rfl
  replace H:=H.ext k15
  refine Ro.q (v:=(.tuple #[(i 2033),(i 0)])) rfl rfl (zB rfl) rfl ?_
  refine Ro.q (v:=(i 2033)) rfl rfl (zO rfl (j:=0) rfl) rfl ?_
  refine Ro.q (v:=(i 0)) rfl rfl (zO rfl (j:=1) rfl) rfl ?_
  refine Ro.q (v:=(i 2033)) rfl rfl (zD rfl) rfl ?_
  refine Ro.q (v:=(i 0)) rfl rfl (zD rfl) rfl ?_
  refine Ro.nil (nT (Wp.seq (Wp.region ?_)))
  refine Ro.d rfl rfl rfl (zH rfl en55 cn (c55 _) ?_)
  have Hc26:=H
  rintro u w24 k25 ⟨bt17,bt18,ot19,ot20,rfl,hS21,hz22,hz23⟩
  replace H:=H.ext k25
  replace H:S Nm w [(bt18,ot20),(bt17,ot19),(bt2,ot4),(bt1,ot3)] w24:=Hc26.join hS21
  refine Ro.d rfl rfl rfl (zH rfl en57 cn (c57 _) ?_)
  have Hc33:=H
  rintro u w31 k32 ⟨bh27,oh28,rfl,hS29,hz30⟩
  replace H:=H.ext k32
  replace H:S Nm w [(bh27,oh28),(bt18,ot20),(bt17,ot19),(bt2,ot4),(bt1,ot3)] w31:=Hc33.join hS29
  refine Ro.d rfl rfl rfl (zH rfl en56 cn (c56 _) ?_)
  rintro u w34 k35 rfl
  replace H:=H.ext k35
  refine Ro.d rfl rfl rfl (zH rfl en35 (ce (v:=(.agg (tbC yS (some ⟨bt17,0,none⟩) 2 (some ⟨bt18,0,none⟩) 2).toArray)) rfl (ce (v:=(.slice (some ⟨bh27,0,none⟩) 4 4)) rfl (ce (v:=(.slice none 0 0)) rfl (ce (v:=(.agg (rdC vO).toArray)) rfl cn)))) (awk35 _ (hz22 _ (H.at 2 rfl)) (hz23 _ (H.at 1 rfl)) (hz30 _ (H.at 0 rfl))) ?_)
  rintro u w37 k38 rfl
  replace H:=H.ext k38
  refine Ro.q (v:=(.tuple #[(.agg #[(i 2021),(i 2043)]),(i 0)])) rfl rfl (zB rfl) rfl ?_
  refine Ro.q (v:=(.agg #[(i 2021),(i 2043)])) rfl rfl (zO rfl (j:=0) rfl) rfl ?_
  refine Ro.q (v:=(i 0)) rfl rfl (zO rfl (j:=1) rfl) rfl ?_
  refine Ro.d rfl rfl rfl (H.new (l:=[i 0,i 0]) rfl zv41 rfl ?_)
  intro b40 w41 Hn;replace H:=Hn;clear Hn
  refine Ro.d0 rfl rfl rfl (H.store (j:=0) (off:=0) (k:=2) rfl sz41 rfl (v:=(.agg #[(i 2021),(i 2043)])) rfl rfl rfl rfl rfl (by simp [Value.oneCell']) (cs':=[i 2021,i 2043]) rfl ?_)
  intro w42 Hn;replace H:=Hn;clear Hn
  refine Ro.q (v:=(i 0)) rfl rfl (zD rfl) rfl ?_
  refine Ro.nil (nT (Wp.seq (Wp.region ?_)))
  refine Ro.d rfl rfl rfl (zH rfl en55 cn (c55 _) ?_)
  have Hc52:=H
  rintro u w50 k51 ⟨bt43,bt44,ot45,ot46,rfl,hS47,hz48,hz49⟩
  replace H:=H.ext k51
  replace H:S Nm w [(bt44,ot46),(bt43,ot45),(b40,.cells [i 2021,i 2043].toArray 41 (0,0)),(bh27,oh28),(bt18,ot20),(bt17,ot19),(bt2,ot4),(bt1,ot3)] w50:=Hc52.join hS47
  refine Ro.d rfl rfl rfl (zH rfl en57 cn (c57 _) ?_)
  have Hc59:=H
  rintro u w57 k58 ⟨bh53,oh54,rfl,hS55,hz56⟩
  replace H:=H.ext k58
  replace H:S Nm w [(bh53,oh54),(bt44,ot46),(bt43,ot45),(b40,.cells [i 2021,i 2043].toArray 41 (0,0)),(bh27,oh28),(bt18,ot20),(bt17,ot19),(bt2,ot4),(bt1,ot3)] w57:=Hc59.join hS55
  refine Ro.d rfl rfl rfl (zH rfl en56 cn (c56 _) ?_)
  rintro u w60 k61 rfl
  replace H:=H.ext k61
  refine Ro.d rfl rfl rfl (zH rfl en17 (ce (v:=(.agg (tbC yS (some ⟨bt43,0,none⟩) 2 (some ⟨bt44,0,none⟩) 2).toArray)) rfl (ce (v:=(.slice (some ⟨bh53,0,none⟩) 4 4)) rfl (ce (v:=(.slice none 0 0)) rfl (ce (v:=(.agg (rdC vO).toArray)) rfl (ce (v:=(i 22)) rfl cn))))) (awk17 _ (hz48 _ (H.at 2 rfl)) (hz49 _ (H.at 1 rfl)) (hz56 _ (H.at 0 rfl))) ?_)
  rintro u w63 k64 rfl
  replace H:=H.ext k64
  refine Ro.q (v:=(.tuple #[(i 114),(i 0)])) rfl rfl (zB rfl) rfl ?_
  refine Ro.q (v:=(i 114)) rfl rfl (zO rfl (j:=0) rfl) rfl ?_
  refine Ro.q (v:=(i 0)) rfl rfl (zO rfl (j:=1) rfl) rfl ?_
  refine Ro.q (v:=(i 114)) rfl rfl (zD rfl) rfl ?_
  refine Ro.q (v:=(i 0)) rfl rfl (zD rfl) rfl ?_
  refine Ro.nil (nT (Wp.seq (Wp.region ?_)))
  refine Ro.d rfl rfl rfl (zH rfl en55 cn (c55 _) ?_)
  have Hc75:=H
  rintro u w73 k74 ⟨bt66,bt67,ot68,ot69,rfl,hS70,hz71,hz72⟩
  replace H:=H.ext k74
  replace H:S Nm w [(bt67,ot69),(bt66,ot68),(bh53,oh54),(bt44,ot46),(bt43,ot45),(b40,.cells [i 2021,i 2043].toArray 41 (0,0)),(bh27,oh28),(bt18,ot20),(bt17,ot19),(bt2,ot4),(bt1,ot3)] w73:=Hc75.join hS70
  refine Ro.d rfl rfl rfl (zH rfl en57 cn (c57 _) ?_)
  have Hc82:=H
  rintro u w80 k81 ⟨bh76,oh77,rfl,hS78,hz79⟩
  replace H:=H.ext k81
  replace H:S Nm w [(bh76,oh77),(bt67,ot69),(bt66,ot68),(bh53,oh54),(bt44,ot46),(bt43,ot45),(b40,.cells [i 2021,i 2043].toArray 41 (0,0)),(bh27,oh28),(bt18,ot20),(bt17,ot19),(bt2,ot4),(bt1,ot3)] w80:=Hc82.join hS78
  refine Ro.d rfl rfl rfl (zH rfl en56 cn (c56 _) ?_)
  rintro u w83 k84 rfl
  replace H:=H.ext k84
  refine Ro.q (v:=(.agg #[(i 2),(i 2025),(i 2),(i 0),(i 0),(i 0),(i 0),(i 0),(i 0),(.bool false)])) rfl rfl (zP (v:=(.agg #[(i 2),(i 2025),(i 2),(i 0),(i 0),(i 0),(i 0),(i 0),(i 0),(.bool false)])) (pe (v:=(i 2)) rfl (pe (v:=(i 2025)) rfl (pe (v:=(i 2)) rfl pn))) (fun w=>by kernel_rfl)) rfl ?_
  refine Ro.d rfl rfl rfl (H.row (e:=52) (cs:=(rdC vO++rdC second0)) rfl (pe (v:=(.agg (rdC vO).toArray)) rfl (pe (v:=(.agg #[(i 2),(i 2025),(i 2),(i 0),(i 0),(i 0),(i 0),(i 0),(i 0),(.bool false)])) rfl pn)) (fun w=>by kernel_rfl) ?_)
  intro b86 w87 Hn;replace H:=Hn;clear Hn
  refine Ro.d rfl rfl rfl (zH rfl en26 (ce (v:=(.agg (tbC yS (some ⟨bt66,0,none⟩) 2 (some ⟨bt67,0,none⟩) 2).toArray)) rfl (ce (v:=(.slice (some ⟨bh76,0,none⟩) 4 4)) rfl (ce (v:=(.slice none 0 0)) rfl (ce (v:=(.slice (some ⟨b86,0,none⟩) 2 2)) rfl cn)))) (awk26 _ (hz71 _ (H.at 3 rfl)) (hz72 _ (H.at 2 rfl)) (hz79 _ (H.at 1 rfl)) (Sl.of (b:=b86) (k:=10) (xs:=[vO,second0].map rdV) (by decide) ⟨_,_,_,H.at 0 rfl,rfl⟩)) ?_)
  rintro u w88 k89 rfl
  replace H:=H.ext k89
  refine Ro.q (v:=(.tuple #[(.agg #[(i 2023),(i 2032)]),(i 0)])) rfl rfl (zB rfl) rfl ?_
  refine Ro.q (v:=(.agg #[(i 2023),(i 2032)])) rfl rfl (zO rfl (j:=0) rfl) rfl ?_
  refine Ro.q (v:=(i 0)) rfl rfl (zO rfl (j:=1) rfl) rfl ?_
  refine Ro.d rfl rfl rfl (H.new (l:=[i 0,i 0]) rfl zv41 rfl ?_)
  intro b91 w92 Hn;replace H:=Hn;clear Hn
  refine Ro.d0 rfl rfl rfl (H.store (j:=0) (off:=0) (k:=2) rfl sz41 rfl (v:=(.agg #[(i 2023),(i 2032)])) rfl rfl rfl rfl rfl (by simp [Value.oneCell']) (cs':=[i 2023,i 2032]) rfl ?_)
  intro w93 Hn;replace H:=Hn;clear Hn
  refine Ro.q (v:=(i 0)) rfl rfl (zD rfl) rfl ?_
  refine Ro.nil (nT (Wp.seq ?_))
  refine Wp.drawnS 32 [0,1,3,7,15,31,63,127,255,511,1023,2047,2047,8191,16383,32767,65535,131071,262143,524287,1048575,2097151,4194303,8388607,16777215,33554431,67108863,134217727,268435455,268435455,1073741823,2147483647,4294967295] [is (i 0),is (.bool true),is (.bool true),gdv (True∧true=true) (i 2033),gdv (True∧true=true) (.bool true),is (.bool true),is (.bool true),gdv (True∧true=true) (i 0),gdv (True∧true=true) (.bool true),is (.bool true),is (.bool true),gdv (True∧true=true) (.agg #[(i 2021),(i 2043)]),gdv (True∧true=true) (.agg #[(i 2021),(i 2043)]),gdv (True∧true=true) (.bool true),is (.bool true),is (.bool true),gdv (True∧true=true) (i 0),gdv (True∧true=true) (.bool true),is (.bool true),is (.bool true),gdv (True∧true=true) (i 114),gdv (True∧true=true) (.bool true),is (.bool true),is (.bool true),gdv (True∧true=true) (i 0),gdv (True∧true=true) (.bool true),is (.bool true),is (.bool true),gdv (True∧true=true) (.agg #[(i 2023),(i 2032)]),gdv (True∧true=true) (.agg #[(i 2023),(i 2032)]),gdv (True∧true=true) (.bool true),is (.bool true)] (by kernel_rfl) (by kernel_rfl) rfl (Mi (Mi (Mi (Mg (Mg (Mi (Mi (Mg (Mg (Mi (Mi (Mg (Mg (Mg (Mi (Mi (Mg (Mg (Mi (Mi (Mg (Mg (Mi (Mi (Mg (Mg (Mi (Mi (Mg (Mg (Mg (Mi Mono.nil)))))))))))))))))))))))))))))))) (fun w' k=>H.ext k) ?_ ?_
  · refine ⟨?_,?_,?_,?_,?_,?_,?_,?_,?_,?_,?_,?_,?_,?_,?_,?_,?_,?_,?_,?_,?_,?_,?_,?_,?_,?_,?_,?_,?_,?_,?_,?_,trivial⟩
    · exact Ob.q rfl (fun _ _ B U D=>(zB (show (_:Value)=(i 0) from U 2 rfl))) rfl rfl
    · exact Ob.q rfl (fun _ _ B U D=>(Runs.to (vR (D 0 rfl) rfl) (by rfl))) rfl rfl
    · exact Ob.q rfl (fun _ _ B U D=>(zB (D 1 rfl))) rfl rfl
    · exact Ob.g0 rfl rfl (fun _ _ _ D=>D 2 rfl) rfl (fun _ _ B U D hC hg=>(zB (show (_:Value)=(i 2033) from U 1 rfl))) rfl
    · exact Ob.g0 rfl rfl (fun _ _ _ D=>D 2 rfl) rfl (fun _ _ B U D hC hg=>(Runs.to (vR (gdy (D 3 rfl) ⟨hC,hg⟩) rfl) (by rfl))) rfl
    · exact Ob.q rfl (fun _ _ B U D=>(Runs.to (zQ (v:=.bool (true && true)) (D 2 rfl) (fun eP=>(gdy (D 4 rfl) ⟨trivial,eP⟩).trans (yF eP)) (fun eP=>yE eP)) (by rfl))) rfl rfl
    · exact Ob.q rfl (fun _ _ B U D=>(zB (D 5 rfl))) rfl rfl
    · exact Ob.g0 rfl rfl (fun _ _ _ D=>D 6 rfl) rfl (fun _ _ B U D hC hg=>(zB (show (_:Value)=(i 0) from U 4 rfl))) rfl
    · exact Ob.g0 rfl rfl (fun _ _ _ D=>D 6 rfl) rfl (fun _ _ B U D hC hg=>(Runs.to (vR (gdy (D 7 rfl) ⟨hC,hg⟩) rfl) (by rfl))) rfl
    · exact Ob.q rfl (fun _ _ B U D=>(Runs.to (zQ (v:=.bool (true && true)) (D 6 rfl) (fun eP=>(gdy (D 8 rfl) ⟨trivial,eP⟩).trans (yF eP)) (fun eP=>yE eP)) (by rfl))) rfl rfl
    · exact Ob.q rfl (fun _ _ B U D=>(zB (D 9 rfl))) rfl rfl
    · exact Ob.g0 rfl rfl (fun _ _ _ D=>D 10 rfl) rfl (fun _ _ B U D hC hg=>(zJ vL (show (_:Value)=(p b40 0) from U 3 rfl) (B.cells 8 rfl) (j:=0) rfl (vs:=[i 2021,i 2043]) rfl rfl)) rfl
    · exact Ob.gd (C:=True) (g:=true) rfl rfl (fun ρ' w' U D=>⟨fun _=>(D 10 rfl),fun h=>absurd trivial h⟩) (fun _ h=>⟨fun hc=>absurd hc (yQ h),fun _=>rfl⟩) fun ρ' w' B U D hC hg=>zH rfl en42 (ce (v:=(i 2021)) rfl (ce (v:=(i 2043)) rfl cn)) (c42 2021 2043 _ ) (fun u w2 k2 hu=>⟨k2,⟨fun _=>hu,fun n=>absurd ⟨hC,hg⟩ n⟩⟩)
    · exact Ob.g0 rfl rfl (fun _ _ _ D=>D 10 rfl) rfl (fun _ _ B U D hC hg=>(Runs.to (r_eqS (eq41 2021 2043 2021 2043) (gdy (D 11 rfl) ⟨hC,hg⟩) (gdy (D 12 rfl) ⟨hC,hg⟩)) (by rfl))) rfl
    · exact Ob.q rfl (fun _ _ B U D=>(Runs.to (zQ (v:=.bool (true && true)) (D 10 rfl) (fun eP=>(gdy (D 13 rfl) ⟨trivial,eP⟩).trans (yF eP)) (fun eP=>yE eP)) (by rfl))) rfl rfl
    · exact Ob.q rfl (fun _ _ B U D=>(zB (D 14 rfl))) rfl rfl
    · exact Ob.g0 rfl rfl (fun _ _ _ D=>D 15 rfl) rfl (fun _ _ B U D hC hg=>(zB (show (_:Value)=(i 0) from U 6 rfl))) rfl
    · exact Ob.g0 rfl rfl (fun _ _ _ D=>D 15 rfl) rfl (fun _ _ B U D hC hg=>(Runs.to (vR (gdy (D 16 rfl) ⟨hC,hg⟩) rfl) (by rfl))) rfl
    · exact Ob.q rfl (fun _ _ B U D=>(Runs.to (zQ (v:=.bool (true && true)) (D 15 rfl) (fun eP=>(gdy (D 17 rfl) ⟨trivial,eP⟩).trans (yF eP)) (fun eP=>yE eP)) (by rfl))) rfl rfl
    · exact Ob.q rfl (fun _ _ B U D=>(zB (D 18 rfl))) rfl rfl
    · exact Ob.g0 rfl rfl (fun _ _ _ D=>D 19 rfl) rfl (fun _ _ B U D hC hg=>(zB (show (_:Value)=(i 114) from U 5 rfl))) rfl
    · exact Ob.g0 rfl rfl (fun _ _ _ D=>D 19 rfl) rfl (fun _ _ B U D hC hg=>(Runs.to (vR (gdy (D 20 rfl) ⟨hC,hg⟩) rfl) (by rfl))) rfl
    · exact Ob.q rfl (fun _ _ B U D=>(Runs.to (zQ (v:=.bool (true && true)) (D 19 rfl) (fun eP=>(gdy (D 21 rfl) ⟨trivial,eP⟩).trans (yF eP)) (fun eP=>yE eP)) (by rfl))) rfl rfl
    · exact Ob.q rfl (fun _ _ B U D=>(zB (D 22 rfl))) rfl rfl
    · exact Ob.g0 rfl rfl (fun _ _ _ D=>D 23 rfl) rfl (fun _ _ B U D hC hg=>(zB (show (_:Value)=(i 0) from U 8 rfl))) rfl
    · exact Ob.g0 rfl rfl (fun _ _ _ D=>D 23 rfl) rfl (fun _ _ B U D hC hg=>(Runs.to (vR (gdy (D 24 rfl) ⟨hC,hg⟩) rfl) (by rfl))) rfl
    · exact Ob.q rfl (fun _ _ B U D=>(Runs.to (zQ (v:=.bool (true && true)) (D 23 rfl) (fun eP=>(gdy (D 25 rfl) ⟨trivial,eP⟩).trans (yF eP)) (fun eP=>yE eP)) (by rfl))) rfl rfl
    · exact Ob.q rfl (fun _ _ B U D=>(zB (D 26 rfl))) rfl rfl
    · exact Ob.g0 rfl rfl (fun _ _ _ D=>D 27 rfl) rfl (fun _ _ B U D hC hg=>(zJ vL (show (_:Value)=(p b91 0) from U 7 rfl) (B.cells 0 rfl) (j:=0) rfl (vs:=[i 2023,i 2032]) rfl rfl)) rfl
    · exact Ob.gd (C:=True) (g:=true) rfl rfl (fun ρ' w' U D=>⟨fun _=>(D 27 rfl),fun h=>absurd trivial h⟩) (fun _ h=>⟨fun hc=>absurd hc (yQ h),fun _=>rfl⟩) fun ρ' w' B U D hC hg=>zH rfl en42 (ce (v:=(i 2023)) rfl (ce (v:=(i 2032)) rfl cn)) (c42 2023 2032 _ ) (fun u w2 k2 hu=>⟨k2,⟨fun _=>hu,fun n=>absurd ⟨hC,hg⟩ n⟩⟩)
    · exact Ob.g0 rfl rfl (fun _ _ _ D=>D 27 rfl) rfl (fun _ _ B U D hC hg=>(Runs.to (r_eqS (eq41 2023 2032 2023 2032) (gdy (D 28 rfl) ⟨hC,hg⟩) (gdy (D 29 rfl) ⟨hC,hg⟩)) (by rfl))) rfl
    · exact Ob.q rfl (fun _ _ B U D=>(Runs.to (zQ (v:=.bool (true && true)) (D 27 rfl) (fun eP=>(gdy (D 30 rfl) ⟨trivial,eP⟩).trans (yF eP)) (fun eP=>yE eP)) (by rfl))) rfl rfl
  intro ρ94 w95 k96 U97 D98;replace H:=H.ext k96
  have f100:ρ94 70=(.bool true):=D98 31 rfl
  clear U97 D98 k96
  refine Ro.q (v:=(.bool true)) rfl rfl (zD f100) rfl ?_
  refine Ro.nil (nT (Wp.ret (zN ?_)))
  refine zI (v:=(.bool true)) Tryz.results16 rfl ⟨H.keep,?_⟩
  rfl
end Go.Proofs.YthfnjppieihcfaaGreat
namespace Men
open Go Go.Mw
def yO (x:Rdg) (d:Kd):Rg:=⟨x.shown-d.sq*x.deep-x.err+yC d.k x.bare x.shown x.ahi+x.rlo*d.lag,x.shown-d.sq*x.deep+x.err+yC d.k x.bare x.shown x.alo+x.rhi*d.lag⟩
abbrev KdR (d:Kd):Prop:=(0≤d.k∧d.k≤20)∧(0≤d.lag∧d.lag≤5)∧(0≤d.sq∧d.sq≤3)
theorem KdIn.r {t:Tb} (ht:TbR t) {d:Kd} (h:KdIn t d):KdR d:=by unfold KdIn at h;unfold TbR at ht;unfold KdR;omega
theorem bareR_lo {x:Rdg} {d:Kd} (hx:RdR x) (hd:KdR d):(yO x d).lo=(spanX x d x.rlo).lo:=by
  have h1:=stemP_air (shown:=x.shown) (bare:=x.bare) (k:=d.k) (a:=x.alo) (b:=x.ahi) (by unfold KdR at hd;omega) (by unfold RdR at hx;omega) (by unfold RdR at hx;omega)
  unfold yO spanX vA zG
  simp only [Int.neg_mul]
  omega
theorem bareR_hi {x:Rdg} {d:Kd} (hx:RdR x) (hd:KdR d):(yO x d).hi=(spanX x d x.rhi).hi:=by
  have h1:=stemP_air (shown:=x.shown) (bare:=x.bare) (k:=d.k) (a:=x.alo) (b:=x.ahi) (by unfold KdR at hd;omega) (by unfold RdR at hx;omega) (by unfold RdR at hx;omega)
  unfold yO spanX vA zG
  simp only [Int.neg_mul]
  omega
theorem bareR_in {x:Rdg} {d:Kd} (hx:RdR x) (hd:KdR d) : -37000000≤(yO x d).lo∧(yO x d).lo≤(yO x d).hi∧(yO x d).hi≤37000000:=by
  have h1:=wP_in (k:=d.k) (lag:=d.lag) (sq:=d.sq) (shown:=x.shown) (bare:=x.bare) (deep:=x.deep) (air:=x.ahi) (rate:=x.rlo) (off:=-x.err) (by unfold KdR at hd;unfold RdR at hx;omega)
  have h2:=wP_in (k:=d.k) (lag:=d.lag) (sq:=d.sq) (shown:=x.shown) (bare:=x.bare) (deep:=x.deep) (air:=x.alo) (rate:=x.rhi) (off:=x.err) (by unfold KdR at hd;unfold RdR at hx;omega)
  have h3:=stemP_air (shown:=x.shown) (bare:=x.bare) (k:=d.k) (a:=x.alo) (b:=x.ahi) (by unfold KdR at hd;omega) (by unfold RdR at hx;omega) (by unfold RdR at hx;omega)
  have h4:=Int.mul_le_mul_of_nonneg_right (show x.rlo≤x.rhi by unfold RdR at hx;omega) (c:=d.lag) (by unfold KdR at hd;omega)
  unfold zG at h1 h2
  unfold yO
  simp only [Int.neg_mul] at *
  unfold RdR at hx
  omega
/-- the range of what the kinds say that have been gone through -/
def HullK (x:Rdg) (V:Kd→Prop) (lo hi:Int):Prop :=
  ((∀ d,¬ V d)∧lo=1073741824∧hi = -1073741824)∨((∃ d,V d∧lo=(yO x d).lo)∧(∃ d,V d∧hi=(yO x d).hi)∧∀ d,V d→lo≤(yO x d).lo∧(yO x d).hi≤hi)
theorem HullK.congr {x:Rdg} {V V':Kd→Prop} {lo hi:Int} (h:HullK x V lo hi) (e : ∀ d,V' d↔V d):HullK x V' lo hi:=by
  have:V'=V:=by funext d;exact propext (e d)
  rw [this];exact h
theorem HullK.step {x:Rdg} {V V':Kd→Prop} {lo hi lo' hi':Int} {c:Kd} (h:HullK x V lo hi) (hx:RdR x) (hc:KdR c) (e : ∀ d,V' d↔V d∨d=c) (h1:lo'=min (min lo (yO x c).lo) (yO x c).hi) (h2:hi'=max (max hi (yO x c).lo) (yO x c).hi):HullK x V' lo' hi':=by
  have hb:=bareR_in hx hc
  right
  rcases h with ⟨h0,e1,e2⟩ | ⟨⟨a,ha,ea⟩,⟨b,hb1,eb⟩,hall⟩
  · refine ⟨⟨c,(e c).2 (.inr rfl),by omega⟩,⟨c,(e c).2 (.inr rfl),by omega⟩,fun d hd=>?_⟩
    rcases (e d).1 hd with hd | rfl
    · exact absurd hd (h0 d)
    · omega
  · refine ⟨?_,?_,fun d hd=>?_⟩
    · by_cases hl:lo≤(yO x c).lo
      · exact ⟨a,(e a).2 (.inl ha),by omega⟩
      · exact ⟨c,(e c).2 (.inr rfl),by omega⟩
    · by_cases hl:(yO x c).hi≤hi
      · exact ⟨b,(e b).2 (.inl hb1),by omega⟩
      · exact ⟨c,(e c).2 (.inr rfl),by omega⟩
    · rcases (e d).1 hd with hd | rfl
      · have:=hall d hd;omega
      · omega
theorem HullK.in {x:Rdg} {V:Kd→Prop} {lo hi:Int} (h:HullK x V lo hi) (hx:RdR x) (hv : ∀ d,V d→KdR d) : -1073741824≤lo∧lo≤1073741824∧-1073741824≤hi∧hi≤1073741824:=by
  rcases h with ⟨_,e1,e2⟩ | ⟨⟨a,ha,ea⟩,⟨b,hb1,eb⟩,_⟩
  · omega
  · have h1:=bareR_in hx (hv a ha)
    have h2:=bareR_in hx (hv b hb1)
    omega
theorem HullK.wr {t:Tb} {x:Rdg} {lo hi:Int} (h:HullK x (KdIn t) lo hi) (ht:TbR t) (hx:RdR x):wr t x=⟨lo,hi⟩:=by
  refine rangeOf_is ?_
  have hd0:KdIn t ⟨t.klo,t.llo,t.slo⟩:=by unfold KdIn;unfold TbR at ht;simp only;omega
  rcases h with ⟨h0,_,_⟩ | ⟨⟨a,ha,ea⟩,⟨b,hb,eb⟩,hall⟩
  · exact absurd hd0 (h0 _)
  · have hxx:=hx
    unfold RdR at hxx
    obtain ⟨⟨a1,o1,ha1,ho1,e1⟩,_⟩:=span_ends (shown:=x.shown) (err:=x.err) (bare:=x.bare) (deep:=x.deep) (k:=a.k) (lag:=a.lag) (sq:=a.sq) (rate:=x.rlo) (alo:=x.alo) (ahi:=x.ahi) (by omega) (by omega)
    obtain ⟨_,⟨a2,o2,ha2,ho2,e2⟩⟩:=span_ends (shown:=x.shown) (err:=x.err) (bare:=x.bare) (deep:=x.deep) (k:=b.k) (lag:=b.lag) (sq:=b.sq) (rate:=x.rhi) (alo:=x.alo) (ahi:=x.ahi) (by omega) (by omega)
    rw [bareR_lo hx (ha.r ht)] at ea
    rw [bareR_hi hx (hb.r ht)] at eb
    refine ⟨⟨a.k,a.lag,a.sq,a1,x.rlo,o1,ha.1,ha.2.1,ha.2.2,ha1,⟨Int.le_refl _,by simp only;omega⟩,ho1,ea.trans e1⟩,⟨b.k,b.lag,b.sq,a2,x.rhi,o2,hb.1,hb.2.1,hb.2.2,ha2,⟨by simp only;omega,Int.le_refl _⟩,ho2,eb.trans e2⟩,fun z hz=>?_⟩
    obtain ⟨k,lag,sq,air,rate,off,g1,g2,g3,g4,g5,g6,rfl⟩:=hz
    have hd:KdIn t ⟨k,lag,sq⟩:=⟨g1,g2,g3⟩
    have hkr:=hd.r ht
    have q:=hall _ hd
    have s1:=span_has (shown:=x.shown) (err:=x.err) (bare:=x.bare) (deep:=x.deep) (k:=k) (lag:=lag) (sq:=sq) (rate:=rate) (alo:=x.alo) (ahi:=x.ahi) (air:=air) (off:=off) (by have q:=hkr;simp only [KdR] at q;omega) (by omega) g4 g6
    have r1:=Int.mul_le_mul_of_nonneg_right g5.1 (c:=lag) (by have q:=hkr;simp only [KdR] at q;omega)
    have r2:=Int.mul_le_mul_of_nonneg_right g5.2 (c:=lag) (by have q:=hkr;simp only [KdR] at q;omega)
    rw [bareR_lo hx hkr,bareR_hi hx hkr] at q
    unfold spanX vA zG at q
    unfold vA zG Rg.has at s1
    unfold zG
    simp only at *
    omega
/-- a range that grows, of numbers that fall, or that rise -/
def Fall (f:Int→Int) (a n lo hi:Int):Prop:=(n=a∧lo=1073741824∧hi = -1073741824)∨(a<n∧lo=f (n-1)∧hi=f a)
theorem Fall.step {f:Int→Int} {a n lo hi lo' hi':Int} (h:Fall f a n lo hi) (hf : ∀ x y,a≤x→x≤y→y≤n→f y≤f x) (hb : -1073741824≤f n∧f n≤1073741824) (h1:lo'=min lo (f n)) (h2:hi'=max hi (f n)):Fall f a (n+1) lo' hi':=by
  right
  rw [show n+1-1=n by omega]
  rcases h with ⟨rfl,rfl,rfl⟩ | ⟨hlt,rfl,rfl⟩
  · omega
  · have q1:=hf (n-1) n (by omega) (by omega) (Int.le_refl _)
    have q2:=hf a n (Int.le_refl _) (by omega) (Int.le_refl _)
    omega
def Rise (f:Int→Int) (a n lo hi:Int):Prop:=(n=a∧lo=1073741824∧hi = -1073741824)∨(a<n∧lo=f a∧hi=f (n-1))
theorem Rise.step {f:Int→Int} {a n lo hi lo' hi':Int} (h:Rise f a n lo hi) (hf : ∀ x y,a≤x→x≤y→y≤n→f x≤f y) (hb : -1073741824≤f n∧f n≤1073741824) (h1:lo'=min lo (f n)) (h2:hi'=max hi (f n)):Rise f a (n+1) lo' hi':=by
  right
  rw [show n+1-1=n by omega]
  rcases h with ⟨rfl,rfl,rfl⟩ | ⟨hlt,rfl,rfl⟩
  · omega
  · have q1:=hf (n-1) n (by omega) (by omega) (Int.le_refl _)
    have q2:=hf a n (Int.le_refl _) (by omega) (Int.le_refl _)
    omega
def thinB (t:Tb) (h:List Rg) (ices:List Ice):Bool:=((decide (((t.bs.length:Nat):Int)≤5) && decide (((t.dl.length:Nat):Int)≤6)) && decide (((h.length:Nat):Int)≤20)) && decide (((ices.length:Nat):Int)≤11)
theorem thinB_iff {t:Tb} {h:List Rg} {ices:List Ice}:thinB t h ices=true↔t.bs.length≤5∧t.dl.length≤6∧h.length≤20∧ices.length≤11:=by
  unfold thinB
  simp only [Bool.and_eq_true,decide_eq_true_eq]
  omega
end Men
namespace Go.Proofs.YthfnjppieihcfaaGreat
open Go.RowKit Go.Proofs Go.Mw
theorem en31:Go.Proofs.Enters Tryz.prog 31:=Go.Proofs.enters_of Tryz.func31 (by kernel_rfl) rfl
theorem en37:Go.Proofs.Enters Tryz.prog 37:=Go.Proofs.enters_of Tryz.func37 (by kernel_rfl) rfl
theorem en54:Go.Proofs.Enters Tryz.prog 54:=Go.Proofs.enters_of Tryz.func54 (by kernel_rfl) rfl
theorem en61:Go.Proofs.Enters Tryz.prog 61:=Go.Proofs.enters_of Tryz.func61 (by kernel_rfl) rfl
theorem en73:Go.Proofs.Enters Tryz.prog 73:=Go.Proofs.enters_of Tryz.func73 (by kernel_rfl) rfl
theorem en75:Go.Proofs.Enters Tryz.prog 75:=Go.Proofs.enters_of Tryz.func75 (by kernel_rfl) rfl
theorem fo33_7:FO Tryz.prog 33 7 9:=fun _ _ _=>by kernel_rfl
theorem sz39 : ∀ w,(sizeOf 39).run Tryz.prog w = .ok 1 w:=fun _=>by kernel_rfl
theorem sz40 : ∀ w,(sizeOf 40).run Tryz.prog w = .ok 1 w:=fun _=>by kernel_rfl
theorem tr39_24:TR Tryz.prog 39 161 3 24:=⟨Tryz.underlying39,(Tryz.prog.info? 161).get!,((Tryz.prog.info? 161).get!.zero).get!,by kernel_rfl,by kernel_rfl,by kernel_rfl,by kernel_rfl,by kernel_rfl,by decide⟩
theorem tr40_16:TR Tryz.prog 40 164 2 16:=⟨Tryz.underlying40,(Tryz.prog.info? 164).get!,((Tryz.prog.info? 164).get!.zero).get!,by kernel_rfl,by kernel_rfl,by kernel_rfl,by kernel_rfl,by kernel_rfl,by decide⟩
open Men
/-- a glass that lies anywhere -/
abbrev GlassAt (t:Tb) (n:Nat) (v:Value) (w:World):Prop:=∃ a1 c1 a2 c2,v = .agg #[i t.base,.slice a1 t.bs.length c1,.slice a2 t.dl.length c2,i t.blo,i t.bhi]∧FSl n w 3 (t.bs.map yH) a1∧FSl n w 2 (t.dl.map zZ) a2
abbrev TubeAt (t:Tb) (n:Nat) (v:Value) (w:World):Prop:=∃ a1 c1 a2 c2,v = .agg (tbC t a1 c1 a2 c2).toArray∧FSl n w 3 (t.bs.map yH) a1∧FSl n w 2 (t.dl.map zZ) a2
theorem GlassAt.le {t:Tb} {n m:Nat} {v:Value} {w:World} (h:GlassAt t n v w) (hm:m≤n):GlassAt t m v w:=let ⟨a1,c1,a2,c2,h,h1,h2⟩:=h;⟨a1,c1,a2,c2,h,h1.le hm,h2.le hm⟩
theorem TubeAt.le {t:Tb} {n m:Nat} {v:Value} {w:World} (h:TubeAt t n v w) (hm:m≤n):TubeAt t m v w:=let ⟨a1,c1,a2,c2,h,h1,h2⟩:=h;⟨a1,c1,a2,c2,h,h1.le hm,h2.le hm⟩
theorem GlassAt.ext {t:Tb} {n:Nat} {v:Value} {w w':World} (h:GlassAt t n v w) (kk:Keep Nm w w'):GlassAt t n v w':=let ⟨a1,c1,a2,c2,h,h1,h2⟩:=h;⟨a1,c1,a2,c2,h,h1.ext kk,h2.ext kk⟩
theorem TubeAt.ext {t:Tb} {n:Nat} {v:Value} {w w':World} (h:TubeAt t n v w) (kk:Keep Nm w w'):TubeAt t n v w':=let ⟨a1,c1,a2,c2,h,h1,h2⟩:=h;⟨a1,c1,a2,c2,h,h1.ext kk,h2.ext kk⟩
theorem MGlass {t:Tb} {n:Nat} {φ:List (Value→World→Prop)} (hm:Mono φ):Mono (GlassAt t n :: φ) :=
  Mono.cons (fun _ _ _ kk ⟨a1,c1,a2,c2,h,h1,h2⟩=>⟨a1,c1,a2,c2,h,h1.ext kk,h2.ext kk⟩) hm
set_option maxHeartbeats 2000000 in
theorem c37 {t:Tb} {ab ad:Option Addr} {cab cad:Nat} (w:World) (hab:Sl w 3 (t.bs.map yH) ab) (had:Sl w 2 (t.dl.map zZ) ad) (hb5:t.bs.length≤5) (hd6:t.dl.length≤6):Ret Tryz.prog 37 [(.agg #[(i t.base),(.slice ab t.bs.length cab),(.slice ad t.dl.length cad),(i t.blo),(i t.bhi)])] w fun v w'=>GlassAt t w.heap.size v w':=by
  refine Ret.body (N:=64) Tryz.func37 rfl Tryz.ntmps37 rfl ?_
  have H:=S.start Nm w
  refine Wp.seq (Wp.region ?_)
  refine Ro.d rfl rfl rfl (H.box (l:=[i t.base,.slice ab t.bs.length cab,.slice ad t.dl.length cad,i t.blo,i t.bhi]) rfl (v:=(.agg #[(i t.base),(.slice ab t.bs.length cab),(.slice ad t.dl.length cad),(i t.blo),(i t.bhi)])) rfl rfl ?_)
  intro b1 w2 Hn;replace H:=Hn;clear Hn
  refine Ro.d rfl rfl rfl (H.new (l:=[i 0,.slice none 0 0,.slice none 0 0,i 0,i 0]) rfl zv43 rfl ?_)
  intro b3 w4 Hn;replace H:=Hn;clear Hn
  refine Ro.nil (nT (Wp.seq ?_))
  have hMo:Mono [is (p b1 0),is (i t.base),is (p b1 3),is (.agg #[(i t.blo),(i t.bhi)]),is (.agg #[(i t.blo),(i t.bhi)]),is (.agg #[(i t.base),(.slice none 0 0),(.slice none 0 0),(i t.blo),(i t.bhi)]),fun _ _=>True]:=(Mi (Mi (Mi (Mi (Mi (Mi (Mono.c Mono.nil)))))))
  have hBB : ∀ (done:Nat→Bool) (ρ':Env) (w':World),(∃ bA6:Nat,(done 6=true→ρ' 3=p bA6 0)∧S Nm w ((bif done 6 then [(bA6,(.cells [i 0,.slice none 0 0,.slice none 0 0,i 0,i 0].toArray 43 (0,0):Obj))] else [])++[(b3,.cells [i 0,.slice none 0 0,.slice none 0 0,i 0,i 0].toArray 43 (0,0)),(b1,.cells [i t.base,.slice ab t.bs.length cab,.slice ad t.dl.length cad,i t.blo,i t.bhi].toArray 27 (0,0))]) w')→S Nm w [(b3,.cells [i 0,.slice none 0 0,.slice none 0 0,i 0,i 0].toArray 43 (0,0)),(b1,.cells [i t.base,.slice ab t.bs.length cab,.slice ad t.dl.length cad,i t.blo,i t.bhi].toArray 27 (0,0))] w':=fun done ρ' w' ⟨bA6,eA6,Hn⟩=>Hn.part
  refine Wp.drawnG 7 [0,1,0,4,12,31,0,127] [is (p b1 0),is (i t.base),is (p b1 3),is (.agg #[(i t.blo),(i t.bhi)]),is (.agg #[(i t.blo),(i t.bhi)]),is (.agg #[(i t.base),(.slice none 0 0),(.slice none 0 0),(i t.blo),(i t.bhi)]),fun _ _=>True] (fun done ρ' w'=>∃ bA6:Nat,(done 6=true→ρ' 3=p bA6 0)∧S Nm w ((bif done 6 then [(bA6,(.cells [i 0,.slice none 0 0,.slice none 0 0,i 0,i 0].toArray 43 (0,0):Obj))] else [])++[(b3,.cells [i 0,.slice none 0 0,.slice none 0 0,i 0,i 0].toArray 43 (0,0)),(b1,.cells [i t.base,.slice ab t.bs.length cab,.slice ad t.dl.length cad,i t.blo,i t.bhi].toArray 27 (0,0))]) w') (by kernel_rfl) (by kernel_rfl) rfl (fun w' k=>⟨0,(fun h=>by cases h),H.ext k⟩) ?_ ?_
  · refine ⟨?_,?_,?_,?_,?_,?_,?_,trivial⟩
    · exact ObG.to hBB hMo (fun _ _ _ _ _ ⟨bA6,eA6,Hn⟩ k=>⟨bA6,eA6,Hn.ext k⟩) (Ob.q rfl (fun _ _ B U D=>(zA fo27_0 (show (_:Value)=(p b1 0) from U 1 rfl) rfl)) rfl rfl)
    · exact ObG.to hBB hMo (fun _ _ _ _ _ ⟨bA6,eA6,Hn⟩ k=>⟨bA6,eA6,Hn.ext k⟩) (Ob.q rfl (fun _ _ B U D=>(zE zM (D 0 rfl) (B.cells 1 rfl) (j:=0) rfl rfl)) rfl rfl)
    · exact ObG.to hBB hMo (fun _ _ _ _ _ ⟨bA6,eA6,Hn⟩ k=>⟨bA6,eA6,Hn.ext k⟩) (Ob.q rfl (fun _ _ B U D=>(zA fo27_3 (show (_:Value)=(p b1 0) from U 1 rfl) rfl)) rfl rfl)
    · exact ObG.to hBB hMo (fun _ _ _ _ _ ⟨bA6,eA6,Hn⟩ k=>⟨bA6,eA6,Hn.ext k⟩) (Ob.q rfl (fun _ _ B U D=>(zJ ta25 (D 2 rfl) (B.cells 1 rfl) (j:=3) rfl (vs:=[i t.blo,i t.bhi]) rfl rfl)) rfl rfl)
    · exact ObG.to hBB hMo (fun _ _ _ _ _ ⟨bA6,eA6,Hn⟩ k=>⟨bA6,eA6,Hn.ext k⟩) (Ob.mk rfl fun ρ' w' B U D=>zH rfl en61 (ce (v:=(.agg #[(i t.blo),(i t.bhi)])) (D 3 rfl) cn) (c61 t.blo t.bhi _ ) (fun u w2 k2 hu=>⟨k2,hu⟩))
    · exact ObG.to hBB hMo (fun _ _ _ _ _ ⟨bA6,eA6,Hn⟩ k=>⟨bA6,eA6,Hn.ext k⟩) (Ob.q rfl (fun _ _ B U D=>(zP (v:=(.agg #[(i t.base),(.slice none 0 0),(.slice none 0 0),(i t.blo),(i t.bhi)])) (pe (v:=(i t.base)) (D 1 rfl) (pe (v:=(.agg #[(i t.blo),(i t.bhi)])) (D 4 rfl) pn)) (fun w=>by kernel_rfl))) rfl rfl)
    · refine ObG.sp rfl fun done ρ' w' hW U hcl hnd hwt D=>?_
      obtain ⟨bA6,eA6,Hn⟩:=hW
      simp only [hnd,cond_false,List.nil_append] at Hn
      refine Hn.newK (l:=[i 0,.slice none 0 0,.slice none 0 0,i 0,i 0]) rfl zv43 rfl ?_
      intro bN w2 k Hm
      refine ⟨(fun q u hq=>hMo q u _ _ k hq),trivial,bN,(fun _=>rfl),?_⟩
      show S Nm w ([(bN,(.cells [i 0,.slice none 0 0,.slice none 0 0,i 0,i 0].toArray 43 (0,0):Obj))]++[(b3,.cells [i 0,.slice none 0 0,.slice none 0 0,i 0,i 0].toArray 43 (0,0)),(b1,.cells [i t.base,.slice ab t.bs.length cab,.slice ad t.dl.length cad,i t.blo,i t.bhi].toArray 27 (0,0))]) w2
      exact Hm
  rintro ρ5 w6 ⟨b10,eA6,Hn⟩ U8 D9
  replace H:S Nm w [(b10,.cells [i 0,.slice none 0 0,.slice none 0 0,i 0,i 0].toArray 43 (0,0)),(b3,.cells [i 0,.slice none 0 0,.slice none 0 0,i 0,i 0].toArray 43 (0,0)),(b1,.cells [i t.base,.slice ab t.bs.length cab,.slice ad t.dl.length cad,i t.blo,i t.bhi].toArray 27 (0,0))] w6:=Hn;clear Hn hMo hBB
  have f11:ρ5 1=(p b1 0):=U8 1 rfl
  have f12:ρ5 2=(p b3 0):=U8 2 rfl
  have f13:ρ5 3=p b10 0:=eA6 rfl
  have f14:ρ5 11=(.agg #[(i t.base),(.slice none 0 0),(.slice none 0 0),(i t.blo),(i t.bhi)]):=D9 5 rfl
  clear U8 D9
  clear eA6
  refine Ro.d0 rfl rfl rfl (H.store (j:=0) (off:=0) (k:=5) rfl sz43 f13 (v:=(.agg #[(i t.base),(.slice none 0 0),(.slice none 0 0),(i t.blo),(i t.bhi)])) f14 rfl rfl rfl rfl (by simp [Value.oneCell']) (cs':=[i t.base,.slice none 0 0,.slice none 0 0,i t.blo,i t.bhi]) rfl ?_)
  intro w15 Hn;replace H:=Hn;clear Hn
  refine Ro.nil (nT (Wp.seq (Wp.seq (Wp.region ?_))))
  refine Ro.q (v:=(i 0)) rfl rfl (zD rfl) rfl ?_
  refine Ro.nil (nT (Wp.block ?_))
  refine Wp.loop (fun kM ds ρ w'=>∃ n:Int,∃ ar:Option Addr,∃ cr:Nat,∃ xs:List Band,∃ Lr:List (Nat×Obj),ds=[]∧(0≤n∧n≤t.bs.length)∧kM=((t.bs.length:Int)-n).toNat∧ρ 1=(p b1 0)∧ρ 2=(p b3 0)∧ρ 3=(p b10 0)∧ρ 4=(i n)∧S Nm w ([(b10,.cells [i t.base,.slice ar xs.length cr,.slice none 0 0,i t.blo,i t.bhi].toArray 43 (0,0)),(b3,.cells [i 0,.slice none 0 0,.slice none 0 0,i 0,i 0].toArray 43 (0,0)),(b1,.cells [i t.base,.slice ab t.bs.length cab,.slice ad t.dl.length cad,i t.blo,i t.bhi].toArray 27 (0,0))]++Lr) w'∧(OwnRow 161 3 ar xs.length cr (xs.map yH).flatten Lr∧xs=t.bs.take n.toNat)) (((t.bs.length:Int)-0).toNat) ⟨0,none,0,([]),([]),rfl,(by omega),rfl,f11,f12,f13,rfl,H,⟨OwnRow.nil 161 3,rfl⟩⟩ ?_
  clear H
  intro kρ20 dsρ20 ρ20 w21
  rintro ⟨n,ar,cr,xs,Lr,rfl,hb23,hk22,f16,f17,f18,f19,H,hi24⟩
  refine Wp.seq (Wp.seq (Wp.region ?_))
  refine Ro.q (v:=(i n)) rfl rfl (zB f19) rfl ?_
  refine Ro.q (v:=(p b1 1)) rfl rfl (zA fo27_1 f16 rfl) rfl ?_
  refine Ro.q rfl rfl (zE t1_22 rfl (H.cells 2 rfl) (j:=1) rfl rfl) rfl ?_
  refine Ro.q rfl rfl (yG Tryz.underlying22 rfl (v:=t.bs.length) rfl) rfl ?_
  refine Ro.q rfl rfl (yB rfl rfl) rfl ?_
  refine Ro.nil (nT ?_)
  refine Wp.cond (t:=decide (n<((t.bs.length:Nat):Int))) rfl ?_ ?_
  · intro c25
    have c25r:=c25
    simp only [bx] at c25
    obtain ⟨e,he⟩:=vQ t.bs n (by omega) (by omega)
    have hxl:xs.length≤t.bs.length:=by rw [hi24.2,List.length_take];omega
    refine Wp.skip (nT (Wp.seq (Wp.block ?_)))
    refine Wp.drawnS 17 [0,1,0,4,0,28,60,124,0,256,0,1792,3840,7936,16128,32764,65532,131071,262143,524287] [is (p b10 1),is (.slice ar xs.length cr),is (p b1 1),is (.slice ab t.bs.length cab),is (i n),is (p (blk ab) (yP ab+n.toNat*3)),is (p (blk ab) (yP ab+n.toNat*3)),is (i e.frm),is (p b1 1),is (.slice ab t.bs.length cab),is (i n),is (p (blk ab) (yP ab+n.toNat*3)),is (p (blk ab) (yP ab+n.toNat*3+1)),is (.agg #[(i e.creep.lo),(i e.creep.hi)]),is (.agg #[(i e.creep.lo),(i e.creep.hi)]),is (.agg #[(i e.frm),(i e.creep.lo),(i e.creep.hi)]),fun v w=>∃ b,v = .slice (some ⟨b,0,none⟩) 1 1∧Cells w b 0 [i e.frm,i e.creep.lo,i e.creep.hi]] (by kernel_rfl) (by kernel_rfl) rfl (Mi (Mi (Mi (Mi (Mi (Mi (Mi (Mi (Mi (Mi (Mi (Mi (Mi (Mi (Mi (Mi (Mono.row Mono.nil))))))))))))))))) (fun w' k=>H.ext k) ?_ ?_
    · refine ⟨?_,?_,?_,?_,?_,?_,?_,?_,?_,?_,?_,?_,?_,?_,?_,?_,?_,trivial⟩
      · exact Ob.q rfl (fun _ _ B U D=>(zA fo43_1 ((U 3 rfl).trans f18) rfl)) rfl rfl
      · exact Ob.q rfl (fun _ _ B U D=>(zE t1_39 (D 0 rfl) (B.cells 0 rfl) (j:=1) rfl rfl)) rfl rfl
      · exact Ob.q rfl (fun _ _ B U D=>(zA fo27_1 ((U 1 rfl).trans f16) rfl)) rfl rfl
      · exact Ob.q rfl (fun _ _ B U D=>(zE t1_22 (D 2 rfl) (B.cells 2 rfl) (j:=1) rfl rfl)) rfl rfl
      · exact Ob.q rfl (fun _ _ B U D=>(zB ((U 4 rfl).trans f19))) rfl rfl
      · exact Ob.q rfl (fun _ _ B U D=>(zY ts22 (hab.ext B.keep) (D 3 rfl) (by first | (simp;done) | (simp;omega)) (D 4 rfl) (by omega) (zW he))) rfl rfl
      · exact Ob.q rfl (fun _ _ B U D=>(zA fo159_0 (D 5 rfl) rfl)) rfl rfl
      · exact Ob.q rfl (fun _ _ B U D=>(zE zM (D 6 rfl) ((hab.ext B.keep).cells (zW he)) (j:=0) rfl rfl)) rfl rfl
      · exact Ob.q rfl (fun _ _ B U D=>(zA fo27_1 ((U 1 rfl).trans f16) rfl)) rfl rfl
      · exact Ob.q rfl (fun _ _ B U D=>(zE t1_22 (D 8 rfl) (B.cells 2 rfl) (j:=1) rfl rfl)) rfl rfl
      · exact Ob.q rfl (fun _ _ B U D=>(zB ((U 4 rfl).trans f19))) rfl rfl
      · exact Ob.q rfl (fun _ _ B U D=>(zY ts22 (hab.ext B.keep) (D 9 rfl) (by first | (simp;done) | (simp;omega)) (D 10 rfl) (by omega) (zW he))) rfl rfl
      · exact Ob.q rfl (fun _ _ B U D=>(zA fo159_1 (D 11 rfl) rfl)) rfl rfl
      · exact Ob.q rfl (fun _ _ B U D=>(zJ ta25 (D 12 rfl) ((hab.ext B.keep).cells (zW he)) (j:=1) rfl (vs:=[i e.creep.lo,i e.creep.hi]) rfl rfl)) rfl rfl
      · exact Ob.mk rfl fun ρ' w' B U D=>zH rfl en61 (ce (v:=(.agg #[(i e.creep.lo),(i e.creep.hi)])) (D 13 rfl) cn) (c61 e.creep.lo e.creep.hi _ ) (fun u w2 k2 hu=>⟨k2,hu⟩)
      · exact Ob.q rfl (fun _ _ B U D=>(zP (v:=(.agg #[(i e.frm),(i e.creep.lo),(i e.creep.hi)])) (pe (v:=(i e.frm)) (D 7 rfl) (pe (v:=(.agg #[(i e.creep.lo),(i e.creep.hi)])) (D 14 rfl) pn)) (fun w=>by kernel_rfl))) rfl rfl
      · exact Ob.mk rfl fun ρ' w' B U D=>d_row (e:=161) (cs:=[i e.frm,i e.creep.lo,i e.creep.hi]) rfl (pe (v:=(.agg #[(i e.frm),(i e.creep.lo),(i e.creep.hi)])) (D 15 rfl) pn) (fun w=>by kernel_rfl) fun b w2 k hc=>⟨k,b,rfl,hc⟩
    intro ρ26 w27 k28 U29 D30;replace H:=H.ext k28
    have f31:=(U29 1 rfl).trans f16
    have f32:=(U29 2 rfl).trans f17
    have f33:=(U29 3 rfl).trans f18
    have f34:=(U29 4 rfl).trans f19
    have f35:ρ26 20=(.slice ar xs.length cr):=D30 1 rfl
    obtain ⟨b37,f36,c38⟩:=(show ∃ b,ρ26 35 = .slice (some ⟨b,0,none⟩) 1 1∧Cells w27 b 0 [i e.frm,i e.creep.lo,i e.creep.hi] from D30 16 rfl)
    clear U29 D30 k28
    replace H:S Nm w ([(b10,.cells [i t.base,.slice ar xs.length cr,.slice none 0 0,i t.blo,i t.bhi].toArray 43 (0,0)),(b3,.cells [i 0,.slice none 0 0,.slice none 0 0,i 0,i 0].toArray 43 (0,0)),(b1,.cells [i t.base,.slice ab t.bs.length cab,.slice ad t.dl.length cad,i t.blo,i t.bhi].toArray 27 (0,0))]++Lr) _:=H
    refine Ro.d rfl rfl rfl (H.appendE (enc:=yH) (z:=e) hi24.1 tr39_24 rfl f35 f36 c38 rfl (by simp [yH,Value.oneCell']) (by simp only [maxLen];omega) (by omega) ?_)
    intro a40 c41 Lr42 w43 hr44 Hn
    replace H:S Nm w ([(b10,.cells [i t.base,.slice ar xs.length cr,.slice none 0 0,i t.blo,i t.bhi].toArray 43 (0,0)),(b3,.cells [i 0,.slice none 0 0,.slice none 0 0,i 0,i 0].toArray 43 (0,0)),(b1,.cells [i t.base,.slice ab t.bs.length cab,.slice ad t.dl.length cad,i t.blo,i t.bhi].toArray 27 (0,0))]++Lr42) w43:=Hn;clear Hn
    refine Ro.q (v:=(p b10 1)) rfl rfl (zA fo43_1 f33 rfl) rfl ?_
    refine Ro.d0 rfl rfl rfl (H.store (j:=0) (off:=1) (k:=1) rfl sz39 rfl (v:=(.slice a40 ((xs++[e]).length) c41)) rfl rfl rfl rfl rfl (by simp [Value.oneCell']) (cs':=[i t.base,.slice a40 ((xs++[e]).length) c41,.slice none 0 0,i t.blo,i t.bhi]) rfl ?_)
    intro w45 Hn;replace H:S Nm w ([(b10,.cells [i t.base,.slice a40 ((xs++[e]).length) c41,.slice none 0 0,i t.blo,i t.bhi].toArray 43 (0,0)),(b3,.cells [i 0,.slice none 0 0,.slice none 0 0,i 0,i 0].toArray 43 (0,0)),(b1,.cells [i t.base,.slice ab t.bs.length cab,.slice ad t.dl.length cad,i t.blo,i t.bhi].toArray 27 (0,0))]++Lr42) w45:=Hn;clear Hn
    refine Ro.nil (nB (nT (Wp.region ?_)))
    refine Ro.q (v:=(i n)) rfl rfl (zB f34) rfl ?_
    refine Ro.q rfl rfl (zU rfl rfl (by constructor <;>omega)) rfl ?_
    refine Ro.q (v:=(i (n+1))) rfl rfl (zD rfl) rfl ?_
    refine Ro.nil (nT ?_)
    exact ⟨((t.bs.length:Int)-(n+1)).toNat,by omega,(n+1),a40,c41,(xs++[e]),Lr42,rfl,(by omega),rfl,f31,f32,f33,rfl,H,⟨hr44,by rw [hi24.2,take_succ' (by omega) he]⟩⟩
  intro c25
  have c25r:=c25
  simp only [bx] at c25
  refine Wp.exit (xT (xT (xB (nT (Wp.seq (Wp.seq (Wp.region ?_)))))))
  refine Ro.q (v:=(i 0)) rfl rfl (zD rfl) rfl ?_
  refine Ro.nil (nT (Wp.block ?_))
  obtain rfl:xs=t.bs:=by rw [hi24.2];exact List.take_of_length_le (by omega)
  refine Wp.loop (fun kM ds ρ w'=>∃ m:Int,∃ aq:Option Addr,∃ cq:Nat,∃ ys:List Depth,∃ Lq:List (Nat×Obj),ds=[]∧(0≤m∧m≤t.dl.length)∧kM=((t.dl.length:Int)-m).toNat∧ρ 1=(p b1 0)∧ρ 2=(p b3 0)∧ρ 3=(p b10 0)∧ρ 5=(i m)∧S Nm w ([(b10,.cells [i t.base,.slice ar t.bs.length cr,.slice aq ys.length cq,i t.blo,i t.bhi].toArray 43 (0,0)),(b3,.cells [i 0,.slice none 0 0,.slice none 0 0,i 0,i 0].toArray 43 (0,0)),(b1,.cells [i t.base,.slice ab t.bs.length cab,.slice ad t.dl.length cad,i t.blo,i t.bhi].toArray 27 (0,0))]++(Lr++Lq)) w'∧(OwnRow 164 2 aq ys.length cq (ys.map zZ).flatten Lq∧ys=t.dl.take m.toNat)) (((t.dl.length:Int)-0).toNat) ⟨0,none,0,([]),([]),rfl,(by omega),rfl,f16,f17,f18,rfl,(by rw [List.append_nil];exact H),⟨OwnRow.nil 164 2,rfl⟩⟩ ?_
  clear H
  intro kρ50 dsρ50 ρ50 w51
  rintro ⟨m,aq,cq,ys,Lq,rfl,hb53,hk52,f46,f47,f48,f49,H,hi54⟩
  refine Wp.seq (Wp.seq (Wp.region ?_))
  refine Ro.q (v:=(i m)) rfl rfl (zB f49) rfl ?_
  refine Ro.q (v:=(p b1 2)) rfl rfl (zA fo27_2 f46 rfl) rfl ?_
  refine Ro.q rfl rfl (zE t1_23 rfl (H.cells 2 rfl) (j:=2) rfl rfl) rfl ?_
  refine Ro.q rfl rfl (yG Tryz.underlying23 rfl (v:=t.dl.length) rfl) rfl ?_
  refine Ro.q rfl rfl (yB rfl rfl) rfl ?_
  refine Ro.nil (nT ?_)
  refine Wp.cond (t:=decide (m<((t.dl.length:Nat):Int))) rfl ?_ ?_
  · intro c55
    have c55r:=c55
    simp only [bx] at c55
    obtain ⟨e,he⟩:=vQ t.dl m (by omega) (by omega)
    have hxl:ys.length≤t.dl.length:=by rw [hi54.2,List.length_take];omega
    refine Wp.skip (nT (Wp.seq (Wp.block ?_)))
    refine Wp.drawnS 16 [0,1,0,4,0,28,60,124,0,256,0,1792,3840,7936,16380,32764,65535,131071,262143] [is (p b10 2),is (.slice aq ys.length cq),is (p b1 2),is (.slice ad t.dl.length cad),is (i m),is (p (blk ad) (yP ad+m.toNat*2)),is (p (blk ad) (yP ad+m.toNat*2)),is (i e.frm),is (p b1 2),is (.slice ad t.dl.length cad),is (i m),is (p (blk ad) (yP ad+m.toNat*2)),is (p (blk ad) (yP ad+m.toNat*2+1)),is (i e.sink),is (.agg #[(i e.frm),(i e.sink)]),fun v w=>∃ b,v = .slice (some ⟨b,0,none⟩) 1 1∧Cells w b 0 [i e.frm,i e.sink]] (by kernel_rfl) (by kernel_rfl) rfl (Mi (Mi (Mi (Mi (Mi (Mi (Mi (Mi (Mi (Mi (Mi (Mi (Mi (Mi (Mi (Mono.row Mono.nil)))))))))))))))) (fun w' k=>H.ext k) ?_ ?_
    · refine ⟨?_,?_,?_,?_,?_,?_,?_,?_,?_,?_,?_,?_,?_,?_,?_,?_,trivial⟩
      · exact Ob.q rfl (fun _ _ B U D=>(zA fo43_2 ((U 3 rfl).trans f48) rfl)) rfl rfl
      · exact Ob.q rfl (fun _ _ B U D=>(zE t1_40 (D 0 rfl) (B.cells 0 rfl) (j:=2) rfl rfl)) rfl rfl
      · exact Ob.q rfl (fun _ _ B U D=>(zA fo27_2 ((U 1 rfl).trans f46) rfl)) rfl rfl
      · exact Ob.q rfl (fun _ _ B U D=>(zE t1_23 (D 2 rfl) (B.cells 2 rfl) (j:=2) rfl rfl)) rfl rfl
      · exact Ob.q rfl (fun _ _ B U D=>(zB ((U 5 rfl).trans f49))) rfl rfl
      · exact Ob.q rfl (fun _ _ B U D=>(zY ts23 (had.ext B.keep) (D 3 rfl) (by first | (simp;done) | (simp;omega)) (D 4 rfl) (by omega) (zW he))) rfl rfl
      · exact Ob.q rfl (fun _ _ B U D=>(zA fo163_0 (D 5 rfl) rfl)) rfl rfl
      · exact Ob.q rfl (fun _ _ B U D=>(zE zM (D 6 rfl) ((had.ext B.keep).cells (zW he)) (j:=0) rfl rfl)) rfl rfl
      · exact Ob.q rfl (fun _ _ B U D=>(zA fo27_2 ((U 1 rfl).trans f46) rfl)) rfl rfl
      · exact Ob.q rfl (fun _ _ B U D=>(zE t1_23 (D 8 rfl) (B.cells 2 rfl) (j:=2) rfl rfl)) rfl rfl
      · exact Ob.q rfl (fun _ _ B U D=>(zB ((U 5 rfl).trans f49))) rfl rfl
      · exact Ob.q rfl (fun _ _ B U D=>(zY ts23 (had.ext B.keep) (D 9 rfl) (by first | (simp;done) | (simp;omega)) (D 10 rfl) (by omega) (zW he))) rfl rfl
      · exact Ob.q rfl (fun _ _ B U D=>(zA fo163_1 (D 11 rfl) rfl)) rfl rfl
      · exact Ob.q rfl (fun _ _ B U D=>(zE zM (D 12 rfl) ((had.ext B.keep).cells (zW he)) (j:=1) rfl rfl)) rfl rfl
      · exact Ob.q rfl (fun _ _ B U D=>(zP (v:=(.agg #[(i e.frm),(i e.sink)])) (pe (v:=(i e.frm)) (D 7 rfl) (pe (v:=(i e.sink)) (D 13 rfl) pn)) (fun w=>by kernel_rfl))) rfl rfl
      · exact Ob.mk rfl fun ρ' w' B U D=>d_row (e:=164) (cs:=[i e.frm,i e.sink]) rfl (pe (v:=(.agg #[(i e.frm),(i e.sink)])) (D 14 rfl) pn) (fun w=>by kernel_rfl) fun b w2 k hc=>⟨k,b,rfl,hc⟩
    intro ρ56 w57 k58 U59 D60;replace H:=H.ext k58
    have f61:=(U59 1 rfl).trans f46
    have f62:=(U59 2 rfl).trans f47
    have f63:=(U59 3 rfl).trans f48
    have f64:=(U59 5 rfl).trans f49
    have f65:ρ56 46=(.slice aq ys.length cq):=D60 1 rfl
    obtain ⟨b67,f66,c68⟩:=(show ∃ b,ρ56 60 = .slice (some ⟨b,0,none⟩) 1 1∧Cells w57 b 0 [i e.frm,i e.sink] from D60 15 rfl)
    clear U59 D60 k58
    refine Ro.d rfl rfl rfl (S.appendE (H:=(H.perm perm_r2)) (enc:=zZ) (z:=e) hi54.1 tr40_16 rfl f65 f66 c68 rfl (by simp [zZ,Value.oneCell']) (by simp only [maxLen];omega) (by omega) ?_)
    intro a70 c71 Lr72 w73 hr74 Hn
    replace H:S Nm w ([(b10,.cells [i t.base,.slice ar t.bs.length cr,.slice aq ys.length cq,i t.blo,i t.bhi].toArray 43 (0,0)),(b3,.cells [i 0,.slice none 0 0,.slice none 0 0,i 0,i 0].toArray 43 (0,0)),(b1,.cells [i t.base,.slice ab t.bs.length cab,.slice ad t.dl.length cad,i t.blo,i t.bhi].toArray 27 (0,0))]++(Lr++Lr72)) w73:=Hn.perm perm_r2.symm;clear Hn
    refine Ro.q (v:=(p b10 2)) rfl rfl (zA fo43_2 f63 rfl) rfl ?_
    refine Ro.d0 rfl rfl rfl (H.store (j:=0) (off:=2) (k:=1) rfl sz40 rfl (v:=(.slice a70 ((ys++[e]).length) c71)) rfl rfl rfl rfl rfl (by simp [Value.oneCell']) (cs':=[i t.base,.slice ar t.bs.length cr,.slice a70 ((ys++[e]).length) c71,i t.blo,i t.bhi]) rfl ?_)
    intro w75 Hn;replace H:S Nm w ([(b10,.cells [i t.base,.slice ar t.bs.length cr,.slice a70 ((ys++[e]).length) c71,i t.blo,i t.bhi].toArray 43 (0,0)),(b3,.cells [i 0,.slice none 0 0,.slice none 0 0,i 0,i 0].toArray 43 (0,0)),(b1,.cells [i t.base,.slice ab t.bs.length cab,.slice ad t.dl.length cad,i t.blo,i t.bhi].toArray 27 (0,0))]++(Lr++Lr72)) w75:=Hn;clear Hn
    refine Ro.nil (nB (nT (Wp.region ?_)))
    refine Ro.q (v:=(i m)) rfl rfl (zB f64) rfl ?_
    refine Ro.q rfl rfl (zU rfl rfl (by constructor <;>omega)) rfl ?_
    refine Ro.q (v:=(i (m+1))) rfl rfl (zD rfl) rfl ?_
    refine Ro.nil (nT ?_)
    exact ⟨((t.dl.length:Int)-(m+1)).toNat,by omega,(m+1),a70,c71,(ys++[e]),Lr72,rfl,(by omega),rfl,f61,f62,f63,rfl,H,⟨hr74,by rw [hi54.2,take_succ' (by omega) he]⟩⟩
  intro c55
  have c55r:=c55
  simp only [bx] at c55
  refine Wp.exit (xT (xT (xB (nT (Wp.seq (Wp.region ?_))))))
  refine Ro.q rfl rfl (zJ ta43 f48 (H.cells 0 rfl) (j:=0) rfl (vs:=[i t.base,.slice ar t.bs.length cr,.slice aq ys.length cq,i t.blo,i t.bhi]) rfl rfl) rfl ?_
  refine Ro.d0 rfl rfl rfl (H.store (j:=1) (off:=0) (k:=5) rfl sz43 f47 (v:=(.agg #[(i t.base),(.slice ar t.bs.length cr),(.slice aq ys.length cq),(i t.blo),(i t.bhi)])) rfl rfl rfl rfl rfl (by simp [Value.oneCell']) (cs':=[i t.base,.slice ar t.bs.length cr,.slice aq ys.length cq,i t.blo,i t.bhi]) rfl ?_)
  intro w76 Hn;replace H:S Nm w ([(b10,.cells [i t.base,.slice ar t.bs.length cr,.slice aq ys.length cq,i t.blo,i t.bhi].toArray 43 (0,0)),(b3,.cells [i t.base,.slice ar t.bs.length cr,.slice aq ys.length cq,i t.blo,i t.bhi].toArray 43 (0,0)),(b1,.cells [i t.base,.slice ab t.bs.length cab,.slice ad t.dl.length cad,i t.blo,i t.bhi].toArray 27 (0,0))]++(Lr++Lq)) w76:=Hn;clear Hn
  refine Ro.nil (nT (Wp.ret (zN ?_)))
  refine yW (vs:=[i t.base,.slice ar t.bs.length cr,.slice aq ys.length cq,i t.blo,i t.bhi]) Tryz.results37 f47 ta43 (H.cells 1 rfl) rfl ⟨H.keep,?_⟩
  obtain rfl:ys=t.dl:=by rw [hi54.2];exact List.take_of_length_le (by omega)
  exact ⟨ar,cr,aq,cq,rfl,OwnRow.fsl (enc:=yH) (fun _=>rfl) hi24.1 rfl (H.perm perm_r1),OwnRow.fsl (enc:=zZ) (fun _=>rfl) hi54.1 rfl (H.perm perm_r2)⟩
theorem c18 {t:Tb} {ab ad:Option Addr} {cab cad:Nat} (w:World) (hab:Sl w 3 (t.bs.map yH) ab) (had:Sl w 2 (t.dl.map zZ) ad) (hb5:t.bs.length≤5) (hd6:t.dl.length≤6):Ret Tryz.prog 18 [(.agg (tbC t ab cab ad cad).toArray)] w fun v w'=>TubeAt t w.heap.size v w':=by
  refine Ret.body (N:=18) Tryz.func18 rfl Tryz.ntmps18 rfl ?_
  have H:=S.start Nm w
  refine Wp.seq (Wp.region ?_)
  refine Ro.d rfl rfl rfl (H.box (l:=(tbC t ab cab ad cad)) rfl (v:=(.agg (tbC t ab cab ad cad).toArray)) rfl rfl ?_)
  intro b1 w2 Hn;replace H:=Hn;clear Hn
  refine Ro.d rfl rfl rfl (H.new (l:=[i 0,.slice none 0 0,.slice none 0 0,i 0,i 0,i 0,i 0,i 0,i 0,i 0,i 0,i 0]) rfl zv45 rfl ?_)
  intro b3 w4 Hn;replace H:=Hn;clear Hn
  refine Ro.nil (nT (Wp.seq ?_))
  obtain ⟨nB5,hB5,hL5,hW5⟩:=H.bound
  refine Wp.drawnS (B:=(fun w'=>S Nm w [(b3,.cells [i 0,.slice none 0 0,.slice none 0 0,i 0,i 0,i 0,i 0,i 0,i 0,i 0,i 0,i 0].toArray 45 (0,0)),(b1,.cells (tbC t ab cab ad cad).toArray 29 (0,0))] w'∧nB5≤w'.heap.size)) 14 [0,1,3,0,8,31,0,64,255,0,512,2047,0,4096,16383,32767] [is (p b1 0),is (.agg #[(i t.base),(.slice ab t.bs.length cab),(.slice ad t.dl.length cad),(i t.blo),(i t.bhi)]),GlassAt t nB5,is (p b1 5),is (.agg #[(i t.klo),(i t.khi)]),is (.agg #[(i t.klo),(i t.khi)]),is (p b1 7),is (.agg #[(i t.llo),(i t.lhi)]),is (.agg #[(i t.llo),(i t.lhi)]),is (p b1 9),is (.agg #[(i t.slo),(i t.shi)]),is (.agg #[(i t.slo),(i t.shi)]),is (p b1 11),is (i t.term)] (by kernel_rfl) (by kernel_rfl) rfl (Mi (Mi (MGlass (Mi (Mi (Mi (Mi (Mi (Mi (Mi (Mi (Mi (Mi (Mi Mono.nil)))))))))))))) (fun w' k=>⟨H.ext k,Nat.le_trans hB5 k.size⟩) ?_ ?_
  · refine ⟨?_,?_,?_,?_,?_,?_,?_,?_,?_,?_,?_,?_,?_,?_,trivial⟩
    · exact Ob.q rfl (fun _ _ B U D=>(zA fo29_0 (show (_:Value)=(p b1 0) from U 1 rfl) rfl)) rfl rfl
    · exact Ob.q rfl (fun _ _ B U D=>(zJ ta27 (D 0 rfl) (B.1.cells 1 rfl) (j:=0) rfl (vs:=[i t.base,.slice ab t.bs.length cab,.slice ad t.dl.length cad,i t.blo,i t.bhi]) rfl rfl)) rfl rfl
    · exact Ob.mk rfl fun ρ' w' B U D=>zH rfl en37 (ce (v:=(.agg #[(i t.base),(.slice ab t.bs.length cab),(.slice ad t.dl.length cad),(i t.blo),(i t.bhi)])) (D 1 rfl) cn) (c37 _ (hab.ext B.1.keep) (had.ext B.1.keep) hb5 hd6) (fun u w2 k2 hu=>⟨k2,GlassAt.le hu B.2⟩)
    · exact Ob.q rfl (fun _ _ B U D=>(zA fo29_1 (show (_:Value)=(p b1 0) from U 1 rfl) rfl)) rfl rfl
    · exact Ob.q rfl (fun _ _ B U D=>(zJ ta25 (D 3 rfl) (B.1.cells 1 rfl) (j:=5) rfl (vs:=[i t.klo,i t.khi]) rfl rfl)) rfl rfl
    · exact Ob.mk rfl fun ρ' w' B U D=>zH rfl en31 (ce (v:=(.agg #[(i t.klo),(i t.khi)])) (D 4 rfl) cn) (c31 t.klo t.khi _ ) (fun u w2 k2 hu=>⟨k2,hu⟩)
    · exact Ob.q rfl (fun _ _ B U D=>(zA fo29_2 (show (_:Value)=(p b1 0) from U 1 rfl) rfl)) rfl rfl
    · exact Ob.q rfl (fun _ _ B U D=>(zJ ta25 (D 6 rfl) (B.1.cells 1 rfl) (j:=7) rfl (vs:=[i t.llo,i t.lhi]) rfl rfl)) rfl rfl
    · exact Ob.mk rfl fun ρ' w' B U D=>zH rfl en31 (ce (v:=(.agg #[(i t.llo),(i t.lhi)])) (D 7 rfl) cn) (c31 t.llo t.lhi _ ) (fun u w2 k2 hu=>⟨k2,hu⟩)
    · exact Ob.q rfl (fun _ _ B U D=>(zA fo29_3 (show (_:Value)=(p b1 0) from U 1 rfl) rfl)) rfl rfl
    · exact Ob.q rfl (fun _ _ B U D=>(zJ ta25 (D 9 rfl) (B.1.cells 1 rfl) (j:=9) rfl (vs:=[i t.slo,i t.shi]) rfl rfl)) rfl rfl
    · exact Ob.mk rfl fun ρ' w' B U D=>zH rfl en31 (ce (v:=(.agg #[(i t.slo),(i t.shi)])) (D 10 rfl) cn) (c31 t.slo t.shi _ ) (fun u w2 k2 hu=>⟨k2,hu⟩)
    · exact Ob.q rfl (fun _ _ B U D=>(zA fo29_4 (show (_:Value)=(p b1 0) from U 1 rfl) rfl)) rfl rfl
    · exact Ob.q rfl (fun _ _ B U D=>(zE zM (D 12 rfl) (B.1.cells 1 rfl) (j:=11) rfl rfl)) rfl rfl
  intro ρ6 w7 k8 U9 D10;replace H:=H.ext k8
  have f11:ρ6 2=(p b3 0):=U9 2 rfl
  obtain ⟨a1_13,c1_13,a2_13,c2_13,f12,h1_13,h2_13⟩:=(show GlassAt t nB5 (ρ6 5) w7 from D10 2 rfl)
  have f14:ρ6 8=(.agg #[(i t.klo),(i t.khi)]):=D10 5 rfl
  have f15:ρ6 11=(.agg #[(i t.llo),(i t.lhi)]):=D10 8 rfl
  have f16:ρ6 14=(.agg #[(i t.slo),(i t.shi)]):=D10 11 rfl
  have f17:ρ6 16=(i t.term):=D10 13 rfl
  clear U9 D10 k8
  refine Ro.q (v:=(.agg #[(i t.base),(.slice a1_13 t.bs.length c1_13),(.slice a2_13 t.dl.length c2_13),(i t.blo),(i t.bhi),(i t.klo),(i t.khi),(i t.llo),(i t.lhi),(i t.slo),(i t.shi),(i t.term)])) rfl rfl (zP (v:=(.agg #[(i t.base),(.slice a1_13 t.bs.length c1_13),(.slice a2_13 t.dl.length c2_13),(i t.blo),(i t.bhi),(i t.klo),(i t.khi),(i t.llo),(i t.lhi),(i t.slo),(i t.shi),(i t.term)])) (pe (v:=(.agg #[(i t.base),(.slice a1_13 t.bs.length c1_13),(.slice a2_13 t.dl.length c2_13),(i t.blo),(i t.bhi)])) f12 (pe (v:=(.agg #[(i t.klo),(i t.khi)])) f14 (pe (v:=(.agg #[(i t.llo),(i t.lhi)])) f15 (pe (v:=(.agg #[(i t.slo),(i t.shi)])) f16 (pe (v:=(i t.term)) f17 pn))))) (fun w=>by kernel_rfl)) rfl ?_
  refine Ro.d0 rfl rfl rfl (H.storeK (j:=0) (off:=0) (k:=12) rfl sz45 f11 (v:=(.agg #[(i t.base),(.slice a1_13 t.bs.length c1_13),(.slice a2_13 t.dl.length c2_13),(i t.blo),(i t.bhi),(i t.klo),(i t.khi),(i t.llo),(i t.lhi),(i t.slo),(i t.shi),(i t.term)])) rfl rfl rfl rfl rfl (by simp [Value.oneCell']) (cs':=[i t.base,.slice a1_13 t.bs.length c1_13,.slice a2_13 t.dl.length c2_13,i t.blo,i t.bhi,i t.klo,i t.khi,i t.llo,i t.lhi,i t.slo,i t.shi,i t.term]) rfl ?_)
  intro w18 kS Hn;replace H:=Hn;clear Hn
  replace h1_13:=h1_13.put (hL5 _ (List.mem_of_getElem? (i:=0) rfl)) kS
  replace h2_13:=h2_13.put (hL5 _ (List.mem_of_getElem? (i:=0) rfl)) kS
  refine Ro.nil (nT (Wp.ret (zN ?_)))
  refine yW (vs:=[i t.base,.slice a1_13 t.bs.length c1_13,.slice a2_13 t.dl.length c2_13,i t.blo,i t.bhi,i t.klo,i t.khi,i t.llo,i t.lhi,i t.slo,i t.shi,i t.term]) Tryz.results18 f11 ta45 (H.cells 0 rfl) rfl ⟨H.keep,?_⟩
  exact ⟨_,_,_,_,rfl,h1_13.le hW5,h2_13.le hW5⟩
theorem c21 {x:Rdg} (w:World):Rv Tryz.prog 21 [(.agg (rdC x).toArray)] w (.agg (rdC x).toArray):=by
  refine Ret.body (N:=22) Tryz.func21 rfl Tryz.ntmps21 rfl ?_
  have H:=S.start Nm w
  refine Wp.seq (Wp.region ?_)
  refine Ro.d rfl rfl rfl (H.box (l:=(rdC x)) rfl (v:=(.agg (rdC x).toArray)) rfl rfl ?_)
  intro b1 w2 Hn;replace H:=Hn;clear Hn
  refine Ro.d rfl rfl rfl (H.new (l:=[i 0,i 0,i 0,i 0,i 0,i 0,i 0,i 0,i 0,.bool false]) rfl zv52 rfl ?_)
  intro b3 w4 Hn;replace H:=Hn;clear Hn
  refine Ro.nil (nT (Wp.seq ?_))
  refine Wp.drawnS 19 [0,1,0,4,0,16,0,64,0,256,768,0,2048,7936,0,16384,0,65536,262143,524287] [is (p b1 0),is (i x.day),is (p b1 1),is (i x.shown),is (p b1 2),is (i x.err),is (p b1 3),is (i x.bare),is (p b1 4),is (.agg #[(i x.alo),(i x.ahi)]),is (.agg #[(i x.alo),(i x.ahi)]),is (p b1 6),is (.agg #[(i x.rlo),(i x.rhi)]),is (.agg #[(i x.rlo),(i x.rhi)]),is (p b1 8),is (i x.deep),is (p b1 9),is (.bool x.broken),is (.agg (rdC x).toArray)] (by kernel_rfl) (by kernel_rfl) rfl (Mi (Mi (Mi (Mi (Mi (Mi (Mi (Mi (Mi (Mi (Mi (Mi (Mi (Mi (Mi (Mi (Mi (Mi (Mi Mono.nil))))))))))))))))))) (fun w' k=>H.ext k) ?_ ?_
  · refine ⟨?_,?_,?_,?_,?_,?_,?_,?_,?_,?_,?_,?_,?_,?_,?_,?_,?_,?_,?_,trivial⟩
    · exact Ob.q rfl (fun _ _ B U D=>(zA fo33_0 (show (_:Value)=(p b1 0) from U 1 rfl) rfl)) rfl rfl
    · exact Ob.q rfl (fun _ _ B U D=>(zE zM (D 0 rfl) (B.cells 1 rfl) (j:=0) rfl rfl)) rfl rfl
    · exact Ob.q rfl (fun _ _ B U D=>(zA fo33_1 (show (_:Value)=(p b1 0) from U 1 rfl) rfl)) rfl rfl
    · exact Ob.q rfl (fun _ _ B U D=>(zE zM (D 2 rfl) (B.cells 1 rfl) (j:=1) rfl rfl)) rfl rfl
    · exact Ob.q rfl (fun _ _ B U D=>(zA fo33_2 (show (_:Value)=(p b1 0) from U 1 rfl) rfl)) rfl rfl
    · exact Ob.q rfl (fun _ _ B U D=>(zE zM (D 4 rfl) (B.cells 1 rfl) (j:=2) rfl rfl)) rfl rfl
    · exact Ob.q rfl (fun _ _ B U D=>(zA fo33_3 (show (_:Value)=(p b1 0) from U 1 rfl) rfl)) rfl rfl
    · exact Ob.q rfl (fun _ _ B U D=>(zE zM (D 6 rfl) (B.cells 1 rfl) (j:=3) rfl rfl)) rfl rfl
    · exact Ob.q rfl (fun _ _ B U D=>(zA fo33_4 (show (_:Value)=(p b1 0) from U 1 rfl) rfl)) rfl rfl
    · exact Ob.q rfl (fun _ _ B U D=>(zJ ta25 (D 8 rfl) (B.cells 1 rfl) (j:=4) rfl (vs:=[i x.alo,i x.ahi]) rfl rfl)) rfl rfl
    · exact Ob.mk rfl fun ρ' w' B U D=>zH rfl en31 (ce (v:=(.agg #[(i x.alo),(i x.ahi)])) (D 9 rfl) cn) (c31 x.alo x.ahi _ ) (fun u w2 k2 hu=>⟨k2,hu⟩)
    · exact Ob.q rfl (fun _ _ B U D=>(zA fo33_5 (show (_:Value)=(p b1 0) from U 1 rfl) rfl)) rfl rfl
    · exact Ob.q rfl (fun _ _ B U D=>(zJ ta25 (D 11 rfl) (B.cells 1 rfl) (j:=6) rfl (vs:=[i x.rlo,i x.rhi]) rfl rfl)) rfl rfl
    · exact Ob.mk rfl fun ρ' w' B U D=>zH rfl en31 (ce (v:=(.agg #[(i x.rlo),(i x.rhi)])) (D 12 rfl) cn) (c31 x.rlo x.rhi _ ) (fun u w2 k2 hu=>⟨k2,hu⟩)
    · exact Ob.q rfl (fun _ _ B U D=>(zA fo33_6 (show (_:Value)=(p b1 0) from U 1 rfl) rfl)) rfl rfl
    · exact Ob.q rfl (fun _ _ B U D=>(zE zM (D 14 rfl) (B.cells 1 rfl) (j:=8) rfl rfl)) rfl rfl
    · exact Ob.q rfl (fun _ _ B U D=>(zA fo33_7 (show (_:Value)=(p b1 0) from U 1 rfl) rfl)) rfl rfl
    · exact Ob.q rfl (fun _ _ B U D=>(zE t1_4 (D 16 rfl) (B.cells 1 rfl) (j:=9) rfl rfl)) rfl rfl
    · exact Ob.q rfl (fun _ _ B U D=>(zP (v:=(.agg (rdC x).toArray)) (pe (v:=(i x.day)) (D 1 rfl) (pe (v:=(i x.shown)) (D 3 rfl) (pe (v:=(i x.err)) (D 5 rfl) (pe (v:=(i x.bare)) (D 7 rfl) (pe (v:=(.agg #[(i x.alo),(i x.ahi)])) (D 10 rfl) (pe (v:=(.agg #[(i x.rlo),(i x.rhi)])) (D 13 rfl) (pe (v:=(i x.deep)) (D 15 rfl) (pe (v:=(.bool x.broken)) (D 17 rfl) pn)))))))) (fun w=>by kernel_rfl))) rfl rfl
  intro ρ5 w6 k7 U8 D9;replace H:=H.ext k7
  have f10:ρ5 2=(p b3 0):=U8 2 rfl
  have f11:ρ5 21=(.agg (rdC x).toArray):=D9 18 rfl
  clear U8 D9 k7
  refine Ro.d0 rfl rfl rfl (H.store (j:=0) (off:=0) (k:=10) rfl sz52 f10 (v:=(.agg (rdC x).toArray)) f11 rfl rfl rfl rfl (by simp [Value.oneCell']) (cs':=(rdC x)) rfl ?_)
  intro w12 Hn;replace H:=Hn;clear Hn
  refine Ro.nil (nT (Wp.ret (zN ?_)))
  refine yW (vs:=(rdC x)) Tryz.results21 f10 ta52 (H.cells 0 rfl) rfl ⟨H.keep,?_⟩
  rfl
theorem c54 {t:Tb} {ab ad:Option Addr} {cab cad:Nat} {h:List Rg} {ices:List Ice} {ah ai:Option Addr} {cah cai:Nat} (w:World):Rv Tryz.prog 54 [(.agg #[(i t.base),(.slice ab t.bs.length cab),(.slice ad t.dl.length cad),(i t.blo),(i t.bhi)]),(.slice ah h.length cah),(.slice ai ices.length cai)] w (.bool (thinB t h ices)):=by
  refine Ret.body (N:=27) Tryz.func54 rfl Tryz.ntmps54 rfl ?_
  have H:=S.start Nm w
  refine Wp.seq (Wp.region ?_)
  refine Ro.d rfl rfl rfl (H.box (l:=[i t.base,.slice ab t.bs.length cab,.slice ad t.dl.length cad,i t.blo,i t.bhi]) rfl (v:=(.agg #[(i t.base),(.slice ab t.bs.length cab),(.slice ad t.dl.length cad),(i t.blo),(i t.bhi)])) rfl rfl ?_)
  intro b1 w2 Hn;replace H:=Hn;clear Hn
  refine Ro.q (v:=(.bool false)) rfl rfl (zD rfl) rfl ?_
  refine Ro.nil (nT (Wp.seq ?_))
  let qq3:Bool:=decide (((t.bs.length:Nat):Int)≤5)
  let qq4:Bool:=decide (((t.dl.length:Nat):Int)≤6)
  let qq5:Bool:=(qq3 && qq4)
  let qq6:Bool:=decide (((h.length:Nat):Int)≤20)
  let qq7:Bool:=(qq5 && qq6)
  let qq8:Bool:=decide (((ices.length:Nat):Int)≤11)
  let qq9:Bool:=(qq7 && qq8)
  refine Wp.factsS 21 [is (p b1 1),is (.slice ab t.bs.length cab),is (i ((t.bs.length:Nat):Int)),is (.bool qq3),is (.bool qq3),gdv (True∧qq3=true) (p b1 2),gdv (True∧qq3=true) (.slice ad t.dl.length cad),gdv (True∧qq3=true) (i ((t.dl.length:Nat):Int)),gdv (True∧qq3=true) (.bool qq4),is (.bool qq5),is (.bool qq5),gdv (True∧qq5=true) (.slice ah h.length cah),gdv (True∧qq5=true) (i ((h.length:Nat):Int)),gdv (True∧qq5=true) (.bool qq6),is (.bool qq7),is (.bool qq7),gdv (True∧qq7=true) (.slice ai ices.length cai),gdv (True∧qq7=true) (i ((ices.length:Nat):Int)),gdv (True∧qq7=true) (.bool qq8),is (.bool qq9),is (.bool qq9)] (by kernel_rfl) (Mi (Mi (Mi (Mi (Mi (Mg (Mg (Mg (Mg (Mi (Mi (Mg (Mg (Mg (Mi (Mi (Mg (Mg (Mg (Mi (Mi Mono.nil))))))))))))))))))))) (fun w' k=>H.ext k) ?_ ?_
  · refine ⟨?_,?_,?_,?_,?_,?_,?_,?_,?_,?_,?_,?_,?_,?_,?_,?_,?_,?_,?_,?_,?_,trivial⟩
    · exact Ob.q rfl (fun _ _ B U D=>(zA fo27_1 (show (_:Value)=(p b1 0) from U 3 rfl) rfl)) rfl rfl
    · exact Ob.q rfl (fun _ _ B U D=>(zE t1_22 (D 0 rfl) (B.cells 0 rfl) (j:=1) rfl rfl)) rfl rfl
    · exact Ob.q rfl (fun _ _ B U D=>(yG Tryz.underlying22 (D 1 rfl) (v:=t.bs.length) rfl)) rfl rfl
    · exact Ob.q rfl (fun _ _ B U D=>(vD (D 2 rfl) rfl)) rfl rfl
    · exact Ob.q rfl (fun _ _ B U D=>(zB (D 3 rfl))) rfl rfl
    · exact Ob.g0 rfl rfl (fun _ _ _ D=>D 4 rfl) rfl (fun _ _ B U D hC hg=>(zA fo27_2 (show (_:Value)=(p b1 0) from U 3 rfl) rfl)) rfl
    · exact Ob.g0 rfl rfl (fun _ _ _ D=>D 4 rfl) rfl (fun _ _ B U D hC hg=>(zE t1_23 (gdy (D 5 rfl) ⟨hC,hg⟩) (B.cells 0 rfl) (j:=2) rfl rfl)) rfl
    · exact Ob.g0 rfl rfl (fun _ _ _ D=>D 4 rfl) rfl (fun _ _ B U D hC hg=>(yG Tryz.underlying23 (gdy (D 6 rfl) ⟨hC,hg⟩) (v:=t.dl.length) rfl)) rfl
    · exact Ob.g0 rfl rfl (fun _ _ _ D=>D 4 rfl) rfl (fun _ _ B U D hC hg=>(vD (gdy (D 7 rfl) ⟨hC,hg⟩) rfl)) rfl
    · exact Ob.q rfl (fun _ _ B U D=>(zQ (v:=(.bool qq5)) (D 4 rfl) (fun eP=>(gdy (D 8 rfl) ⟨trivial,eP⟩).trans (yF eP)) (fun eP=>yE eP))) rfl rfl
    · exact Ob.q rfl (fun _ _ B U D=>(zB (D 9 rfl))) rfl rfl
    · exact Ob.g0 rfl rfl (fun _ _ _ D=>D 10 rfl) rfl (fun _ _ B U D hC hg=>(zB (show (_:Value)=(.slice ah h.length cah) from U 1 rfl))) rfl
    · exact Ob.g0 rfl rfl (fun _ _ _ D=>D 10 rfl) rfl (fun _ _ B U D hC hg=>(yG Tryz.underlying30 (gdy (D 11 rfl) ⟨hC,hg⟩) (v:=h.length) rfl)) rfl
    · exact Ob.g0 rfl rfl (fun _ _ _ D=>D 10 rfl) rfl (fun _ _ B U D hC hg=>(vD (gdy (D 12 rfl) ⟨hC,hg⟩) rfl)) rfl
    · exact Ob.q rfl (fun _ _ B U D=>(zQ (v:=(.bool qq7)) (D 10 rfl) (fun eP=>(gdy (D 13 rfl) ⟨trivial,eP⟩).trans (yF eP)) (fun eP=>yE eP))) rfl rfl
    · exact Ob.q rfl (fun _ _ B U D=>(zB (D 14 rfl))) rfl rfl
    · exact Ob.g0 rfl rfl (fun _ _ _ D=>D 15 rfl) rfl (fun _ _ B U D hC hg=>(zB (show (_:Value)=(.slice ai ices.length cai) from U 2 rfl))) rfl
    · exact Ob.g0 rfl rfl (fun _ _ _ D=>D 15 rfl) rfl (fun _ _ B U D hC hg=>(yG Tryz.underlying31 (gdy (D 16 rfl) ⟨hC,hg⟩) (v:=ices.length) rfl)) rfl
    · exact Ob.g0 rfl rfl (fun _ _ _ D=>D 15 rfl) rfl (fun _ _ B U D hC hg=>(vD (gdy (D 17 rfl) ⟨hC,hg⟩) rfl)) rfl
    · exact Ob.q rfl (fun _ _ B U D=>(zQ (v:=(.bool qq9)) (D 15 rfl) (fun eP=>(gdy (D 18 rfl) ⟨trivial,eP⟩).trans (yF eP)) (fun eP=>yE eP))) rfl rfl
    · exact Ob.q rfl (fun _ _ B U D=>(zD (D 19 rfl))) rfl rfl
  intro ρ10 w11 k12 U13 D14;replace H:=H.ext k12
  have f15:ρ10 6=(.bool qq9):=D14 20 rfl
  clear U13 D14 k12
  refine Ro.nil (nT (Wp.ret (zN ?_)))
  refine zI (v:=(.bool ((((decide (((t.bs.length:Nat):Int)≤5)) && (decide (((t.dl.length:Nat):Int)≤6))) && (decide (((h.length:Nat):Int)≤20))) && (decide (((ices.length:Nat):Int)≤11))))) Tryz.results54 f15 ⟨H.keep,?_⟩
  rfl
theorem c15 {t:Tb} {ab ad:Option Addr} {cab cad:Nat} {h:List Rg} {ices:List Ice} {ah ai:Option Addr} {cah cai:Nat} (w:World):Rv Tryz.prog 15 [(.agg (tbC t ab cab ad cad).toArray),(.slice ah h.length cah),(.slice ai ices.length cai)] w (.bool (thinB t h ices)):=by
  refine Ret.body (N:=12) Tryz.func15 rfl Tryz.ntmps15 rfl ?_
  have H:=S.start Nm w
  refine Wp.seq (Wp.region ?_)
  refine Ro.d rfl rfl rfl (H.box (l:=(tbC t ab cab ad cad)) rfl (v:=(.agg (tbC t ab cab ad cad).toArray)) rfl rfl ?_)
  intro b1 w2 Hn;replace H:=Hn;clear Hn
  refine Ro.q (v:=(.bool false)) rfl rfl (zD rfl) rfl ?_
  refine Ro.nil (nT (Wp.seq (Wp.region ?_)))
  refine Ro.q (v:=(p b1 0)) rfl rfl (zA fo29_0 rfl rfl) rfl ?_
  refine Ro.q rfl rfl (zJ ta27 rfl (H.cells 0 rfl) (j:=0) rfl (vs:=[i t.base,.slice ab t.bs.length cab,.slice ad t.dl.length cad,i t.blo,i t.bhi]) rfl rfl) rfl ?_
  refine Ro.q (v:=(.slice ah h.length cah)) rfl rfl (zB rfl) rfl ?_
  refine Ro.q (v:=(.slice ai ices.length cai)) rfl rfl (zB rfl) rfl ?_
  refine Ro.d rfl rfl rfl (zH rfl en54 (ce (v:=(.agg #[(i t.base),(.slice ab t.bs.length cab),(.slice ad t.dl.length cad),(i t.blo),(i t.bhi)])) rfl (ce (v:=(.slice ah h.length cah)) rfl (ce (v:=(.slice ai ices.length cai)) rfl cn))) (c54 (t:=t) (h:=h) (ices:=ices) _) ?_)
  intro u w3 k4 hu;subst hu;replace H:=H.ext k4
  clear k4
  refine Ro.q (v:=(.bool (thinB t h ices))) rfl rfl (zD rfl) rfl ?_
  refine Ro.nil (nT (Wp.ret (zN ?_)))
  refine zI (v:=(.bool (thinB t h ices))) Tryz.results15 rfl ⟨H.keep,?_⟩
  rfl
theorem c73 {x:Rdg} {d:Kd} (w:World) (hrd:RdR x) (hd:KdR d):Rv Tryz.prog 73 [(.agg (rdC x).toArray),i d.k,i d.lag,i d.sq] w (.agg #[i (yO x d).lo,i (yO x d).hi]):=by
  have sp0 : ∀ y,-100≤y∧y≤100→-36000000≤yC d.k x.bare x.shown y∧yC d.k x.bare x.shown y≤36000000:=fun y hy=>stemP_in (by omega) (by omega) (by omega) hy
  refine Ret.body (N:=75) Tryz.func73 rfl Tryz.ntmps73 rfl ?_
  have H:=S.start Nm w
  refine Wp.seq (Wp.region ?_)
  refine Ro.d rfl rfl rfl (H.box (l:=(rdC x)) rfl (v:=(.agg (rdC x).toArray)) rfl rfl ?_)
  intro b1 w2 Hn;replace H:=Hn;clear Hn
  refine Ro.d rfl rfl rfl (H.new (l:=[i 0,i 0]) rfl zv25 rfl ?_)
  intro b3 w4 Hn;replace H:=Hn;clear Hn
  refine Ro.nil (nT (Wp.seq (Wp.region ?_)))
  refine Ro.q (v:=(.agg #[(i 1073741824),(i (-1073741824))])) rfl rfl (zP (v:=(.agg #[(i 1073741824),(i (-1073741824))])) (pe (v:=(i 1073741824)) rfl (pe (v:=(i (-1073741824))) rfl pn)) (fun w=>by kernel_rfl)) rfl ?_
  refine Ro.d rfl rfl rfl (H.new (l:=[i 0,i 0]) rfl zv25 rfl ?_)
  intro b5 w6 Hn;replace H:=Hn;clear Hn
  refine Ro.d0 rfl rfl rfl (H.store (j:=0) (off:=0) (k:=2) rfl sz25 rfl (v:=(.agg #[(i 1073741824),(i (-1073741824))])) rfl rfl rfl rfl rfl (by simp [Value.oneCell']) (cs':=[i 1073741824,i (-1073741824)]) rfl ?_)
  intro w7 Hn;replace H:=Hn;clear Hn
  refine Ro.nil (nT (Wp.seq (Wp.seq (Wp.region ?_))))
  refine Ro.q (v:=(p b1 4)) rfl rfl (zA fo33_4 rfl rfl) rfl ?_
  refine Ro.q (v:=(p b1 4)) rfl rfl (zA uI rfl rfl) rfl ?_
  refine Ro.q rfl rfl (zE zM rfl (H.cells 2 rfl) (j:=4) rfl rfl) rfl ?_
  refine Ro.q (v:=(i x.alo)) rfl rfl (zD rfl) rfl ?_
  refine Ro.nil (nT (Wp.block ?_))
  refine Wp.loop (fun kM ds ρ w'=>∃ n:Int,∃ lo:Int,∃ hi:Int,ds=[]∧(x.alo≤n∧n≤x.ahi+1)∧kM=(x.ahi+1-n:Int).toNat∧ρ 1=(i d.k)∧ρ 2=(i d.lag)∧ρ 3=(i d.sq)∧ρ 4=(p b1 0)∧ρ 8=(p b3 0)∧ρ 9=(p b5 0)∧ρ 10=(i n)∧S Nm w [(b5,.cells [i lo,i hi].toArray 25 (0,0)),(b3,.cells [i 0,i 0].toArray 25 (0,0)),(b1,.cells (rdC x).toArray 33 (0,0))] w'∧(Fall (fun y=>yC d.k x.bare x.shown y) x.alo n lo hi)) ((x.ahi+1-x.alo:Int).toNat) ⟨x.alo,1073741824,(-1073741824),rfl,(by omega),rfl,rfl,rfl,rfl,rfl,rfl,rfl,rfl,H,(.inl ⟨rfl,rfl,rfl⟩)⟩ ?_
  clear H
  intro kρ15 dsρ15 ρ15 w16
  rintro ⟨n,lo,hi,rfl,hb18,hk17,f8,f9,f10,f11,f12,f13,f14,H,hi19⟩
  have sp:n≤x.ahi→-36000000≤yC d.k x.bare x.shown n∧yC d.k x.bare x.shown n≤36000000:=fun hn=>stemP_in (by omega) (by omega) (by omega) (by omega)
  refine Wp.seq (Wp.seq (Wp.region ?_))
  refine Ro.q (v:=(i n)) rfl rfl (zB f14) rfl ?_
  refine Ro.q (v:=(p b1 4)) rfl rfl (zA fo33_4 f11 rfl) rfl ?_
  refine Ro.q (v:=(p b1 5)) rfl rfl (zA uB rfl rfl) rfl ?_
  refine Ro.q rfl rfl (zE zM rfl (H.cells 2 rfl) (j:=5) rfl rfl) rfl ?_
  refine Ro.q rfl rfl (vD rfl rfl) rfl ?_
  refine Ro.nil (nT ?_)
  refine Wp.cond (t:=decide (n≤x.ahi)) rfl ?_ ?_
  · intro c20
    have c20r:=c20
    simp only [bx] at c20
    refine Wp.skip (nT (Wp.seq (Wp.block ?_)))
    refine Wp.drawnS 5 [0,0,0,0,14,31,63] [is (.agg #[(i lo),(i hi)]),is (.agg (rdC x).toArray),is (i d.k),is (i n),is (i (yC d.k x.bare x.shown n))] (by kernel_rfl) (by kernel_rfl) rfl (Mi (Mi (Mi (Mi (Mi Mono.nil))))) (fun w' k=>H.ext k) ?_ ?_
    · refine ⟨?_,?_,?_,?_,?_,trivial⟩
      · exact Ob.q rfl (fun _ _ B U D=>(zJ ta25 ((U 9 rfl).trans f13) (B.cells 0 rfl) (j:=0) rfl (vs:=[i lo,i hi]) rfl rfl)) rfl rfl
      · exact Ob.q rfl (fun _ _ B U D=>(zJ ta33 ((U 4 rfl).trans f11) (B.cells 2 rfl) (j:=0) rfl (vs:=(rdC x)) rfl rfl)) rfl rfl
      · exact Ob.q rfl (fun _ _ B U D=>(zB ((U 1 rfl).trans f8))) rfl rfl
      · exact Ob.q rfl (fun _ _ B U D=>(zB ((U 10 rfl).trans f14))) rfl rfl
      · exact Ob.mk rfl fun ρ' w' B U D=>zH rfl en89 (ce (v:=(.agg (rdC x).toArray)) (D 1 rfl) (ce (v:=(i d.k)) (D 2 rfl) (ce (v:=(i n)) (D 3 rfl) cn))) (c89 x.day x.shown x.err x.bare x.alo x.ahi x.rlo x.rhi x.deep x.broken d.k n _ (by omega)) (fun u w2 k2 hu=>⟨k2,hu⟩)
    intro ρ21 w22 k23 U24 D25;replace H:=H.ext k23
    have f26:=(U24 1 rfl).trans f8
    have f27:=(U24 2 rfl).trans f9
    have f28:=(U24 3 rfl).trans f10
    have f29:=(U24 4 rfl).trans f11
    have f30:=(U24 8 rfl).trans f12
    have f31:=(U24 9 rfl).trans f13
    have f32:=(U24 10 rfl).trans f14
    have f33:ρ21 25=(.agg #[(i lo),(i hi)]):=D25 0 rfl
    have f34:ρ21 29=(i (yC d.k x.bare x.shown n)):=D25 4 rfl
    clear U24 D25 k23
    refine Ro.d rfl rfl rfl (zH rfl en75 (ce (v:=(.agg #[(i lo),(i hi)])) f33 (ce (v:=(i (yC d.k x.bare x.shown n))) f34 cn)) (c75 lo hi (yC d.k x.bare x.shown n) _ ) ?_)
    intro u w35 k36 hu;subst hu;replace H:=H.ext k36
    clear k36
    refine Ro.d0 rfl rfl rfl (H.store (j:=0) (off:=0) (k:=2) rfl sz25 f31 (v:=(.agg #[(i (min lo (yC d.k x.bare x.shown n))),(i (max hi (yC d.k x.bare x.shown n)))])) rfl rfl rfl rfl rfl (by simp [Value.oneCell']) (cs':=[i (min lo (yC d.k x.bare x.shown n)),i (max hi (yC d.k x.bare x.shown n))]) rfl ?_)
    intro w37 Hn;replace H:=Hn;clear Hn
    refine Ro.nil (nB (nT (Wp.region ?_)))
    refine Ro.q (v:=(i n)) rfl rfl (zB f32) rfl ?_
    refine Ro.q rfl rfl (zU rfl rfl (by constructor <;>omega)) rfl ?_
    refine Ro.q (v:=(i (n+1))) rfl rfl (zD rfl) rfl ?_
    refine Ro.nil (nT ?_)
    exact ⟨(x.ahi+1-(n+1):Int).toNat,by omega,(n+1),(min lo (yC d.k x.bare x.shown n)),(max hi (yC d.k x.bare x.shown n)),rfl,(by omega),rfl,f26,f27,f28,f29,f30,f31,rfl,H,(Fall.step hi19 (fun a b _ h2 _=>stemP_air (by omega) (by omega) h2) (by have:=sp (by omega);omega) rfl rfl)⟩
  intro c20
  have c20r:=c20
  simp only [bx] at c20
  refine Wp.exit (xT (xT (xB (nT (Wp.seq (Wp.region ?_))))))
  refine Ro.q (v:=(.agg #[(i 1073741824),(i (-1073741824))])) rfl rfl (zP (v:=(.agg #[(i 1073741824),(i (-1073741824))])) (pe (v:=(i 1073741824)) rfl (pe (v:=(i (-1073741824))) rfl pn)) (fun w=>by kernel_rfl)) rfl ?_
  refine Ro.d rfl rfl rfl (H.new (l:=[i 0,i 0]) rfl zv25 rfl ?_)
  intro b38 w39 Hn;replace H:=Hn;clear Hn
  refine Ro.d0 rfl rfl rfl (H.store (j:=0) (off:=0) (k:=2) rfl sz25 rfl (v:=(.agg #[(i 1073741824),(i (-1073741824))])) rfl rfl rfl rfl rfl (by simp [Value.oneCell']) (cs':=[i 1073741824,i (-1073741824)]) rfl ?_)
  intro w40 Hn;replace H:=Hn;clear Hn
  refine Ro.nil (nT (Wp.seq (Wp.seq (Wp.region ?_))))
  refine Ro.q (v:=(p b1 6)) rfl rfl (zA fo33_5 f11 rfl) rfl ?_
  refine Ro.q (v:=(p b1 6)) rfl rfl (zA uI rfl rfl) rfl ?_
  refine Ro.q rfl rfl (zE zM rfl (H.cells 3 rfl) (j:=6) rfl rfl) rfl ?_
  refine Ro.q (v:=(i x.rlo)) rfl rfl (zD rfl) rfl ?_
  refine Ro.nil (nT (Wp.block ?_))
  have hA:lo=yC d.k x.bare x.shown x.ahi∧hi=yC d.k x.bare x.shown x.alo:=by
    rcases hi19 with ⟨h1,_,_⟩ | ⟨_,h2,h3⟩
    · omega
    · rw [show n-1=x.ahi by omega] at h2;exact ⟨h2,h3⟩
  have s1:=sp0 x.ahi (by omega)
  have s2:=sp0 x.alo (by omega)
  obtain ⟨rfl,rfl⟩:=hA
  refine Wp.loop (fun kM ds ρ w'=>∃ m:Int,∃ lo2:Int,∃ hi2:Int,ds=[]∧(x.rlo≤m∧m≤x.rhi+1)∧kM=(x.rhi+1-m:Int).toNat∧ρ 2=(i d.lag)∧ρ 3=(i d.sq)∧ρ 4=(p b1 0)∧ρ 8=(p b3 0)∧ρ 9=(p b5 0)∧ρ 11=(p b38 0)∧ρ 12=(i m)∧S Nm w [(b38,.cells [i lo2,i hi2].toArray 25 (0,0)),(b5,.cells [i (yC d.k x.bare x.shown x.ahi),i (yC d.k x.bare x.shown x.alo)].toArray 25 (0,0)),(b3,.cells [i 0,i 0].toArray 25 (0,0)),(b1,.cells (rdC x).toArray 33 (0,0))] w'∧(Rise (fun y=>y*d.lag) x.rlo m lo2 hi2)) ((x.rhi+1-x.rlo:Int).toNat) ⟨x.rlo,1073741824,(-1073741824),rfl,(by omega),rfl,f9,f10,f11,f12,f13,rfl,rfl,H,(.inl ⟨rfl,rfl,rfl⟩)⟩ ?_
  clear H
  intro kρ48 dsρ48 ρ48 w49
  rintro ⟨m,lo2,hi2,rfl,hb51,hk50,f41,f42,f43,f44,f45,f46,f47,H,hi52⟩
  have sr:m≤x.rhi→-100≤m*d.lag∧m*d.lag≤100:=fun hn=>mulin (A:=20) (B:=5) (by omega) (by omega)
  refine Wp.seq (Wp.seq (Wp.region ?_))
  refine Ro.q (v:=(i m)) rfl rfl (zB f47) rfl ?_
  refine Ro.q (v:=(p b1 6)) rfl rfl (zA fo33_5 f43 rfl) rfl ?_
  refine Ro.q (v:=(p b1 7)) rfl rfl (zA uB rfl rfl) rfl ?_
  refine Ro.q rfl rfl (zE zM rfl (H.cells 3 rfl) (j:=7) rfl rfl) rfl ?_
  refine Ro.q rfl rfl (vD rfl rfl) rfl ?_
  refine Ro.nil (nT ?_)
  refine Wp.cond (t:=decide (m≤x.rhi)) rfl ?_ ?_
  · intro c53
    have c53r:=c53
    simp only [bx] at c53
    refine Wp.skip (nT (Wp.seq (Wp.block (Wp.region ?_))))
    refine Ro.q rfl rfl (zJ ta25 f46 (H.cells 0 rfl) (j:=0) rfl (vs:=[i lo2,i hi2]) rfl rfl) rfl ?_
    refine Ro.q (v:=(i m)) rfl rfl (zB f47) rfl ?_
    refine Ro.q (v:=(i d.lag)) rfl rfl (zB f41) rfl ?_
    refine Ro.q rfl rfl (r_mul rfl rfl (by have:=sr (by omega);constructor <;>omega)) rfl ?_
    refine Ro.d rfl rfl rfl (zH rfl en75 (ce (v:=(.agg #[(i lo2),(i hi2)])) rfl (ce (v:=(i (m*d.lag))) rfl cn)) (c75 lo2 hi2 (m*d.lag) _ ) ?_)
    intro u w54 k55 hu;subst hu;replace H:=H.ext k55
    clear k55
    refine Ro.d0 rfl rfl rfl (H.store (j:=0) (off:=0) (k:=2) rfl sz25 f46 (v:=(.agg #[(i (min lo2 (m*d.lag))),(i (max hi2 (m*d.lag)))])) rfl rfl rfl rfl rfl (by simp [Value.oneCell']) (cs':=[i (min lo2 (m*d.lag)),i (max hi2 (m*d.lag))]) rfl ?_)
    intro w56 Hn;replace H:S Nm w [(b38,.cells [i (min lo2 (m*d.lag)),i (max hi2 (m*d.lag))].toArray 25 (0,0)),(b5,.cells [i (yC d.k x.bare x.shown x.ahi),i (yC d.k x.bare x.shown x.alo)].toArray 25 (0,0)),(b3,.cells [i 0,i 0].toArray 25 (0,0)),(b1,.cells (rdC x).toArray 33 (0,0))] w56:=Hn;clear Hn
    refine Ro.nil (nB (nT (Wp.region ?_)))
    refine Ro.q (v:=(i m)) rfl rfl (zB f47) rfl ?_
    refine Ro.q rfl rfl (zU rfl rfl (by constructor <;>omega)) rfl ?_
    refine Ro.q (v:=(i (m+1))) rfl rfl (zD rfl) rfl ?_
    refine Ro.nil (nT ?_)
    exact ⟨(x.rhi+1-(m+1):Int).toNat,by omega,(m+1),(min lo2 (m*d.lag)),(max hi2 (m*d.lag)),rfl,(by omega),rfl,f41,f42,f43,f44,f45,f46,rfl,H,(Rise.step hi52 (fun a b _ h2 _=>Int.mul_le_mul_of_nonneg_right h2 (by omega)) (by have:=sr (by omega);omega) rfl rfl)⟩
  intro c53
  have c53r:=c53
  simp only [bx] at c53
  have hR:lo2=x.rlo*d.lag∧hi2=x.rhi*d.lag:=by
    rcases hi52 with ⟨h1,_,_⟩ | ⟨_,h2,h3⟩
    · omega
    · rw [show m-1=x.rhi by omega] at h3;exact ⟨h2,h3⟩
  have r1 : -100≤x.rlo*d.lag∧x.rlo*d.lag≤100:=mulin (A:=20) (B:=5) (by omega) (by omega)
  have r2 : -100≤x.rhi*d.lag∧x.rhi*d.lag≤100:=mulin (A:=20) (B:=5) (by omega) (by omega)
  have ms : -60≤d.sq*x.deep∧d.sq*x.deep≤60:=mulin (A:=3) (B:=20) (by omega) (by omega)
  refine Wp.exit (xT (xT (xB (nT (Wp.seq (Wp.region ?_))))))
  refine Ro.q (v:=(p b1 1)) rfl rfl (zA fo33_1 f43 rfl) rfl ?_
  refine Ro.q rfl rfl (zE zM rfl (H.cells 3 rfl) (j:=1) rfl rfl) rfl ?_
  refine Ro.q (v:=(i d.sq)) rfl rfl (zB f42) rfl ?_
  refine Ro.q (v:=(p b1 8)) rfl rfl (zA fo33_6 f43 rfl) rfl ?_
  refine Ro.q rfl rfl (zE zM rfl (H.cells 3 rfl) (j:=8) rfl rfl) rfl ?_
  refine Ro.q rfl rfl (r_mul rfl rfl (by constructor <;>omega)) rfl ?_
  refine Ro.q rfl rfl (yT rfl rfl (by constructor <;>omega)) rfl ?_
  refine Ro.q (v:=(i (x.shown-(d.sq*x.deep)))) rfl rfl (zD rfl) rfl ?_
  refine Ro.nil (nT (Wp.seq (Wp.region ?_)))
  refine Ro.q (v:=(i (x.shown-(d.sq*x.deep)))) rfl rfl (zB rfl) rfl ?_
  refine Ro.q (v:=(p b1 2)) rfl rfl (zA fo33_2 f43 rfl) rfl ?_
  refine Ro.q rfl rfl (zE zM rfl (H.cells 3 rfl) (j:=2) rfl rfl) rfl ?_
  refine Ro.q rfl rfl (yT rfl rfl (by constructor <;>omega)) rfl ?_
  refine Ro.q (v:=(p b5 0)) rfl rfl (zA uI f45 rfl) rfl ?_
  refine Ro.q rfl rfl (zE zM rfl (H.cells 1 rfl) (j:=0) rfl rfl) rfl ?_
  refine Ro.q rfl rfl (zU rfl rfl (by constructor <;>omega)) rfl ?_
  refine Ro.q (v:=(p b38 0)) rfl rfl (zA uI f46 rfl) rfl ?_
  refine Ro.q rfl rfl (zE zM rfl (H.cells 0 rfl) (j:=0) rfl rfl) rfl ?_
  refine Ro.q rfl rfl (zU rfl rfl (by constructor <;>omega)) rfl ?_
  refine Ro.q (v:=(i (x.shown-(d.sq*x.deep)))) rfl rfl (zB rfl) rfl ?_
  refine Ro.q (v:=(p b1 2)) rfl rfl (zA fo33_2 f43 rfl) rfl ?_
  refine Ro.q rfl rfl (zE zM rfl (H.cells 3 rfl) (j:=2) rfl rfl) rfl ?_
  refine Ro.q rfl rfl (zU rfl rfl (by constructor <;>omega)) rfl ?_
  refine Ro.q (v:=(p b5 1)) rfl rfl (zA uB f45 rfl) rfl ?_
  refine Ro.q rfl rfl (zE zM rfl (H.cells 1 rfl) (j:=1) rfl rfl) rfl ?_
  refine Ro.q rfl rfl (zU rfl rfl (by constructor <;>omega)) rfl ?_
  refine Ro.q (v:=(p b38 1)) rfl rfl (zA uB f46 rfl) rfl ?_
  refine Ro.q rfl rfl (zE zM rfl (H.cells 0 rfl) (j:=1) rfl rfl) rfl ?_
  refine Ro.q rfl rfl (zU rfl rfl (by constructor <;>omega)) rfl ?_
  refine Ro.q (v:=(.agg #[(i ((((x.shown-(d.sq*x.deep))-x.err)+(yC d.k x.bare x.shown x.ahi))+lo2)),(i ((((x.shown-(d.sq*x.deep))+x.err)+(yC d.k x.bare x.shown x.alo))+hi2))])) rfl rfl (zP (v:=(.agg #[(i ((((x.shown-(d.sq*x.deep))-x.err)+(yC d.k x.bare x.shown x.ahi))+lo2)),(i ((((x.shown-(d.sq*x.deep))+x.err)+(yC d.k x.bare x.shown x.alo))+hi2))])) (pe (v:=(i ((((x.shown-(d.sq*x.deep))-x.err)+(yC d.k x.bare x.shown x.ahi))+lo2))) rfl (pe (v:=(i ((((x.shown-(d.sq*x.deep))+x.err)+(yC d.k x.bare x.shown x.alo))+hi2))) rfl pn)) (fun w=>by kernel_rfl)) rfl ?_
  refine Ro.d0 rfl rfl rfl (H.store (j:=2) (off:=0) (k:=2) rfl sz25 f44 (v:=(.agg #[(i ((((x.shown-(d.sq*x.deep))-x.err)+(yC d.k x.bare x.shown x.ahi))+lo2)),(i ((((x.shown-(d.sq*x.deep))+x.err)+(yC d.k x.bare x.shown x.alo))+hi2))])) rfl rfl rfl rfl rfl (by simp [Value.oneCell']) (cs':=[i ((((x.shown-(d.sq*x.deep))-x.err)+(yC d.k x.bare x.shown x.ahi))+lo2),i ((((x.shown-(d.sq*x.deep))+x.err)+(yC d.k x.bare x.shown x.alo))+hi2)]) rfl ?_)
  intro w57 Hn;replace H:S Nm w [(b38,.cells [i lo2,i hi2].toArray 25 (0,0)),(b5,.cells [i (yC d.k x.bare x.shown x.ahi),i (yC d.k x.bare x.shown x.alo)].toArray 25 (0,0)),(b3,.cells [i ((((x.shown-(d.sq*x.deep))-x.err)+(yC d.k x.bare x.shown x.ahi))+lo2),i ((((x.shown-(d.sq*x.deep))+x.err)+(yC d.k x.bare x.shown x.alo))+hi2)].toArray 25 (0,0)),(b1,.cells (rdC x).toArray 33 (0,0))] w57:=Hn;clear Hn
  refine Ro.nil (nT (Wp.ret (zN ?_)))
  refine yW (vs:=[i ((((x.shown-(d.sq*x.deep))-x.err)+(yC d.k x.bare x.shown x.ahi))+lo2),i ((((x.shown-(d.sq*x.deep))+x.err)+(yC d.k x.bare x.shown x.alo))+hi2)]) Tryz.results73 f44 ta25 (H.cells 2 rfl) rfl ⟨H.keep,?_⟩
  rw [hR.1,hR.2];rfl
set_option maxHeartbeats 2000000 in
theorem c90 {t:Tb} {ab ad:Option Addr} {cab cad:Nat} {x:Rdg} (w:World) (htb:TbR t) (hrd:RdR x):Rv Tryz.prog 90 [(.agg (tbC t ab cab ad cad).toArray),(.agg (rdC x).toArray)] w (.agg #[i (wr t x).lo,i (wr t x).hi]):=by
  refine Ret.body (N:=54) Tryz.func90 rfl Tryz.ntmps90 rfl ?_
  have H:=S.start Nm w
  refine Wp.seq (Wp.region ?_)
  refine Ro.d rfl rfl rfl (H.box (l:=(tbC t ab cab ad cad)) rfl (v:=(.agg (tbC t ab cab ad cad).toArray)) rfl rfl ?_)
  intro b1 w2 Hn;replace H:=Hn;clear Hn
  refine Ro.d rfl rfl rfl (H.box (l:=(rdC x)) rfl (v:=(.agg (rdC x).toArray)) rfl rfl ?_)
  intro b3 w4 Hn;replace H:=Hn;clear Hn
  refine Ro.d rfl rfl rfl (H.new (l:=[i 0,i 0]) rfl zv25 rfl ?_)
  intro b5 w6 Hn;replace H:=Hn;clear Hn
  refine Ro.nil (nT (Wp.seq (Wp.region ?_)))
  refine Ro.q (v:=(.agg #[(i 1073741824),(i (-1073741824))])) rfl rfl (zP (v:=(.agg #[(i 1073741824),(i (-1073741824))])) (pe (v:=(i 1073741824)) rfl (pe (v:=(i (-1073741824))) rfl pn)) (fun w=>by kernel_rfl)) rfl ?_
  refine Ro.d rfl rfl rfl (H.new (l:=[i 0,i 0]) rfl zv25 rfl ?_)
  intro b7 w8 Hn;replace H:=Hn;clear Hn
  refine Ro.d0 rfl rfl rfl (H.store (j:=0) (off:=0) (k:=2) rfl sz25 rfl (v:=(.agg #[(i 1073741824),(i (-1073741824))])) rfl rfl rfl rfl rfl (by simp [Value.oneCell']) (cs':=[i 1073741824,i (-1073741824)]) rfl ?_)
  intro w9 Hn;replace H:=Hn;clear Hn
  refine Ro.nil (nT (Wp.seq (Wp.seq (Wp.region ?_))))
  refine Ro.q (v:=(p b1 5)) rfl rfl (zA fo29_1 rfl rfl) rfl ?_
  refine Ro.q (v:=(p b1 5)) rfl rfl (zA uI rfl rfl) rfl ?_
  refine Ro.q rfl rfl (zE zM rfl (H.cells 3 rfl) (j:=5) rfl rfl) rfl ?_
  refine Ro.q (v:=(i t.klo)) rfl rfl (zD rfl) rfl ?_
  refine Ro.nil (nT (Wp.block ?_))
  refine Wp.loop (fun kM ds ρ w'=>∃ k:Int,∃ lo:Int,∃ hi:Int,ds=[]∧(t.klo≤k∧k≤t.khi+1)∧kM=(t.khi+1-k:Int).toNat∧ρ 2=(p b1 0)∧ρ 3=(p b3 0)∧ρ 4=(p b5 0)∧ρ 5=(p b7 0)∧ρ 6=(i k)∧S Nm w [(b7,.cells [i lo,i hi].toArray 25 (0,0)),(b5,.cells [i 0,i 0].toArray 25 (0,0)),(b3,.cells (rdC x).toArray 33 (0,0)),(b1,.cells (tbC t ab cab ad cad).toArray 29 (0,0))] w'∧(HullK x (fun d=>KdIn t d∧d.k<k) lo hi)) ((t.khi+1-t.klo:Int).toNat) ⟨t.klo,1073741824,(-1073741824),rfl,(by omega),rfl,rfl,rfl,rfl,rfl,rfl,H,(.inl ⟨fun d hd=>by have h1:=hd.1;have h2:=hd.2;unfold KdIn at h1;omega,rfl,rfl⟩)⟩ ?_
  clear H
  intro kρ15 dsρ15 ρ15 w16
  rintro ⟨k,lo,hi,rfl,hb18,hk17,f10,f11,f12,f13,f14,H,hi19⟩
  have hin:=HullK.in hi19 hrd (fun d hd=>hd.1.r htb)
  refine Wp.seq (Wp.seq (Wp.region ?_))
  refine Ro.q (v:=(i k)) rfl rfl (zB f14) rfl ?_
  refine Ro.q (v:=(p b1 5)) rfl rfl (zA fo29_1 f10 rfl) rfl ?_
  refine Ro.q (v:=(p b1 6)) rfl rfl (zA uB rfl rfl) rfl ?_
  refine Ro.q rfl rfl (zE zM rfl (H.cells 3 rfl) (j:=6) rfl rfl) rfl ?_
  refine Ro.q rfl rfl (vD rfl rfl) rfl ?_
  refine Ro.nil (nT ?_)
  refine Wp.cond (t:=decide (k≤t.khi)) rfl ?_ ?_
  · intro c20
    have c20r:=c20
    simp only [bx] at c20
    refine Wp.skip (nT (Wp.seq (Wp.block (Wp.seq (Wp.region ?_)))))
    refine Ro.q (v:=(p b1 7)) rfl rfl (zA fo29_2 f10 rfl) rfl ?_
    refine Ro.q (v:=(p b1 7)) rfl rfl (zA uI rfl rfl) rfl ?_
    refine Ro.q rfl rfl (zE zM rfl (H.cells 3 rfl) (j:=7) rfl rfl) rfl ?_
    refine Ro.q (v:=(i t.llo)) rfl rfl (zD rfl) rfl ?_
    refine Ro.nil (nT (Wp.block ?_))
    refine Wp.loop (fun kM ds ρ w'=>∃ g:Int,∃ lo:Int,∃ hi:Int,ds=[]∧(t.llo≤g∧g≤t.lhi+1)∧kM=(t.lhi+1-g:Int).toNat∧ρ 2=(p b1 0)∧ρ 3=(p b3 0)∧ρ 4=(p b5 0)∧ρ 5=(p b7 0)∧ρ 6=(i k)∧ρ 7=(i g)∧S Nm w [(b7,.cells [i lo,i hi].toArray 25 (0,0)),(b5,.cells [i 0,i 0].toArray 25 (0,0)),(b3,.cells (rdC x).toArray 33 (0,0)),(b1,.cells (tbC t ab cab ad cad).toArray 29 (0,0))] w'∧(HullK x (fun d=>KdIn t d∧(d.k<k∨(d.k=k∧d.lag<g))) lo hi)) ((t.lhi+1-t.llo:Int).toNat) ⟨t.llo,lo,hi,rfl,(by omega),rfl,f10,f11,f12,f13,f14,rfl,H,(hi19.congr fun d=>by unfold KdIn;omega)⟩ ?_
    clear H
    intro kρ27 dsρ27 ρ27 w28
    rintro ⟨g,lo,hi,rfl,hb30,hk29,f21,f22,f23,f24,f25,f26,H,hi31⟩
    have hin:=HullK.in hi31 hrd (fun d hd=>hd.1.r htb)
    refine Wp.seq (Wp.seq (Wp.region ?_))
    refine Ro.q (v:=(i g)) rfl rfl (zB f26) rfl ?_
    refine Ro.q (v:=(p b1 7)) rfl rfl (zA fo29_2 f21 rfl) rfl ?_
    refine Ro.q (v:=(p b1 8)) rfl rfl (zA uB rfl rfl) rfl ?_
    refine Ro.q rfl rfl (zE zM rfl (H.cells 3 rfl) (j:=8) rfl rfl) rfl ?_
    refine Ro.q rfl rfl (vD rfl rfl) rfl ?_
    refine Ro.nil (nT ?_)
    refine Wp.cond (t:=decide (g≤t.lhi)) rfl ?_ ?_
    · intro c32
      have c32r:=c32
      simp only [bx] at c32
      refine Wp.skip (nT (Wp.seq (Wp.block (Wp.seq (Wp.region ?_)))))
      refine Ro.q (v:=(p b1 9)) rfl rfl (zA fo29_3 f21 rfl) rfl ?_
      refine Ro.q (v:=(p b1 9)) rfl rfl (zA uI rfl rfl) rfl ?_
      refine Ro.q rfl rfl (zE zM rfl (H.cells 3 rfl) (j:=9) rfl rfl) rfl ?_
      refine Ro.q (v:=(i t.slo)) rfl rfl (zD rfl) rfl ?_
      refine Ro.nil (nT (Wp.block ?_))
      refine Wp.loop (fun kM ds ρ w'=>∃ q:Int,∃ lo:Int,∃ hi:Int,ds=[]∧(t.slo≤q∧q≤t.shi+1)∧kM=(t.shi+1-q:Int).toNat∧ρ 2=(p b1 0)∧ρ 3=(p b3 0)∧ρ 4=(p b5 0)∧ρ 5=(p b7 0)∧ρ 6=(i k)∧ρ 7=(i g)∧ρ 8=(i q)∧S Nm w [(b7,.cells [i lo,i hi].toArray 25 (0,0)),(b5,.cells [i 0,i 0].toArray 25 (0,0)),(b3,.cells (rdC x).toArray 33 (0,0)),(b1,.cells (tbC t ab cab ad cad).toArray 29 (0,0))] w'∧(HullK x (fun d=>KdIn t d∧(d.k<k∨(d.k=k∧(d.lag<g∨(d.lag=g∧d.sq<q))))) lo hi)) ((t.shi+1-t.slo:Int).toNat) ⟨t.slo,lo,hi,rfl,(by omega),rfl,f21,f22,f23,f24,f25,f26,rfl,H,(hi31.congr fun d=>by unfold KdIn;omega)⟩ ?_
      clear H
      intro kρ40 dsρ40 ρ40 w41
      rintro ⟨q,lo,hi,rfl,hb43,hk42,f33,f34,f35,f36,f37,f38,f39,H,hi44⟩
      have hin:=HullK.in hi44 hrd (fun d hd=>hd.1.r htb)
      refine Wp.seq (Wp.seq (Wp.region ?_))
      refine Ro.q (v:=(i q)) rfl rfl (zB f39) rfl ?_
      refine Ro.q (v:=(p b1 9)) rfl rfl (zA fo29_3 f33 rfl) rfl ?_
      refine Ro.q (v:=(p b1 10)) rfl rfl (zA uB rfl rfl) rfl ?_
      refine Ro.q rfl rfl (zE zM rfl (H.cells 3 rfl) (j:=10) rfl rfl) rfl ?_
      refine Ro.q rfl rfl (vD rfl rfl) rfl ?_
      refine Ro.nil (nT ?_)
      refine Wp.cond (t:=decide (q≤t.shi)) rfl ?_ ?_
      · intro c45
        have c45r:=c45
        simp only [bx] at c45
        have hkin:KdIn t ⟨k,g,q⟩:=by unfold KdIn;simp only;omega
        have hdk:KdR ⟨k,g,q⟩:=hkin.r htb
        have hbi:=bareR_in (x:=x) hrd hdk
        refine Wp.skip (nT (Wp.seq (Wp.block (Wp.seq (Wp.region ?_)))))
        refine Ro.q rfl rfl (zJ ta33 f34 (H.cells 2 rfl) (j:=0) rfl (vs:=(rdC x)) rfl rfl) rfl ?_
        refine Ro.q (v:=(i k)) rfl rfl (zB f37) rfl ?_
        refine Ro.q (v:=(i g)) rfl rfl (zB f38) rfl ?_
        refine Ro.q (v:=(i q)) rfl rfl (zB f39) rfl ?_
        refine Ro.d rfl rfl rfl (zH rfl en73 (ce (v:=(.agg (rdC x).toArray)) rfl (ce (v:=(i k)) rfl (ce (v:=(i g)) rfl (ce (v:=(i q)) rfl cn)))) (c73 (x:=x) (d:=⟨k,g,q⟩) _ hrd hdk) ?_)
        intro u w46 k47 hu;subst hu;replace H:=H.ext k47
        clear k47
        refine Ro.d rfl rfl rfl (H.new (l:=[i 0,i 0]) rfl zv25 rfl ?_)
        intro b48 w49 Hn;replace H:=Hn;clear Hn
        refine Ro.d0 rfl rfl rfl (H.store (j:=0) (off:=0) (k:=2) rfl sz25 rfl (v:=(.agg #[(i ((yO x ⟨k,g,q⟩).lo)),(i ((yO x ⟨k,g,q⟩).hi))])) rfl rfl rfl rfl rfl (by simp [Value.oneCell']) (cs':=[i ((yO x ⟨k,g,q⟩).lo),i ((yO x ⟨k,g,q⟩).hi)]) rfl ?_)
        intro w50 Hn;replace H:=Hn;clear Hn
        refine Ro.nil (nT ?_)
        refine Wp.drawnS 6 [0,0,2,7,0,16,63,127] [is (.agg #[(i lo),(i hi)]),is (p b48 0),is (i ((yO x ⟨k,g,q⟩).lo)),is (.agg #[(i (min lo ((yO x ⟨k,g,q⟩).lo))),(i (max hi ((yO x ⟨k,g,q⟩).lo)))]),is (p b48 1),is (i ((yO x ⟨k,g,q⟩).hi))] (by kernel_rfl) (by kernel_rfl) rfl (Mi (Mi (Mi (Mi (Mi (Mi Mono.nil)))))) (fun w' k=>H.ext k) ?_ ?_
        · refine ⟨?_,?_,?_,?_,?_,?_,trivial⟩
          · exact Ob.q rfl (fun _ _ B U D=>(zJ ta25 ((U 5 rfl).trans f36) (B.cells 1 rfl) (j:=0) rfl (vs:=[i lo,i hi]) rfl rfl)) rfl rfl
          · exact Ob.q rfl (fun _ _ B U D=>(zA uI (show (_:Value)=(p b48 0) from U 9 rfl) rfl)) rfl rfl
          · exact Ob.q rfl (fun _ _ B U D=>(zE zM (D 1 rfl) (B.cells 0 rfl) (j:=0) rfl rfl)) rfl rfl
          · exact Ob.mk rfl fun ρ' w' B U D=>zH rfl en75 (ce (v:=(.agg #[(i lo),(i hi)])) (D 0 rfl) (ce (v:=(i ((yO x ⟨k,g,q⟩).lo))) (D 2 rfl) cn)) (c75 lo hi ((yO x ⟨k,g,q⟩).lo) _ ) (fun u w2 k2 hu=>⟨k2,hu⟩)
          · exact Ob.q rfl (fun _ _ B U D=>(zA uB (show (_:Value)=(p b48 0) from U 9 rfl) rfl)) rfl rfl
          · exact Ob.q rfl (fun _ _ B U D=>(zE zM (D 4 rfl) (B.cells 0 rfl) (j:=1) rfl rfl)) rfl rfl
        intro ρ51 w52 k53 U54 D55;replace H:=H.ext k53
        have f56:=(U54 2 rfl).trans f33
        have f57:=(U54 3 rfl).trans f34
        have f58:=(U54 4 rfl).trans f35
        have f59:=(U54 5 rfl).trans f36
        have f60:=(U54 6 rfl).trans f37
        have f61:=(U54 7 rfl).trans f38
        have f62:=(U54 8 rfl).trans f39
        have f63:ρ51 49=(.agg #[(i (min lo ((yO x ⟨k,g,q⟩).lo))),(i (max hi ((yO x ⟨k,g,q⟩).lo)))]):=D55 3 rfl
        have f64:ρ51 51=(i ((yO x ⟨k,g,q⟩).hi)):=D55 5 rfl
        clear U54 D55 k53
        refine Ro.d rfl rfl rfl (zH rfl en75 (ce (v:=(.agg #[(i (min lo ((yO x ⟨k,g,q⟩).lo))),(i (max hi ((yO x ⟨k,g,q⟩).lo)))])) f63 (ce (v:=(i ((yO x ⟨k,g,q⟩).hi))) f64 cn)) (c75 (min lo ((yO x ⟨k,g,q⟩).lo)) (max hi ((yO x ⟨k,g,q⟩).lo)) ((yO x ⟨k,g,q⟩).hi) _ ) ?_)
        intro u w65 k66 hu;subst hu;replace H:=H.ext k66
        clear k66
        refine Ro.d0 rfl rfl rfl (H.store (j:=1) (off:=0) (k:=2) rfl sz25 f59 (v:=(.agg #[(i (min (min lo ((yO x ⟨k,g,q⟩).lo)) ((yO x ⟨k,g,q⟩).hi))),(i (max (max hi ((yO x ⟨k,g,q⟩).lo)) ((yO x ⟨k,g,q⟩).hi)))])) rfl rfl rfl rfl rfl (by simp [Value.oneCell']) (cs':=[i (min (min lo ((yO x ⟨k,g,q⟩).lo)) ((yO x ⟨k,g,q⟩).hi)),i (max (max hi ((yO x ⟨k,g,q⟩).lo)) ((yO x ⟨k,g,q⟩).hi))]) rfl ?_)
        intro w67 Hn;replace H:S Nm w [(b48,.cells [i ((yO x ⟨k,g,q⟩).lo),i ((yO x ⟨k,g,q⟩).hi)].toArray 25 (0,0)),(b7,.cells [i (min (min lo ((yO x ⟨k,g,q⟩).lo)) ((yO x ⟨k,g,q⟩).hi)),i (max (max hi ((yO x ⟨k,g,q⟩).lo)) ((yO x ⟨k,g,q⟩).hi))].toArray 25 (0,0)),(b5,.cells [i 0,i 0].toArray 25 (0,0)),(b3,.cells (rdC x).toArray 33 (0,0)),(b1,.cells (tbC t ab cab ad cad).toArray 29 (0,0))] w67:=Hn;clear Hn
        refine Ro.nil (nB (nT (Wp.region ?_)))
        refine Ro.q (v:=(i q)) rfl rfl (zB f62) rfl ?_
        refine Ro.q rfl rfl (zU rfl rfl (by constructor <;>omega)) rfl ?_
        refine Ro.q (v:=(i (q+1))) rfl rfl (zD rfl) rfl ?_
        refine Ro.nil (nT ?_)
        replace H:=S.sublist (L':=[(b7,.cells [i (min (min lo ((yO x ⟨k,g,q⟩).lo)) ((yO x ⟨k,g,q⟩).hi)),i (max (max hi ((yO x ⟨k,g,q⟩).lo)) ((yO x ⟨k,g,q⟩).hi))].toArray 25 (0,0)),(b5,.cells [i 0,i 0].toArray 25 (0,0)),(b3,.cells (rdC x).toArray 33 (0,0)),(b1,.cells (tbC t ab cab ad cad).toArray 29 (0,0))]) H (.cons _ (.cons_cons _ (.cons_cons _ (.cons_cons _ (.cons_cons _ (List.Sublist.refl _))))))
        exact ⟨(t.shi+1-(q+1):Int).toNat,by omega,(q+1),(min (min lo ((yO x ⟨k,g,q⟩).lo)) ((yO x ⟨k,g,q⟩).hi)),(max (max hi ((yO x ⟨k,g,q⟩).lo)) ((yO x ⟨k,g,q⟩).hi)),rfl,(by omega),rfl,f56,f57,f58,f59,f60,f61,rfl,H,(HullK.step hi44 hrd hdk (c:=⟨k,g,q⟩) (fun d=>by rw [kd_eq];unfold KdIn;omega) rfl rfl)⟩
      intro c45
      have c45r:=c45
      simp only [bx] at c45
      refine Wp.exit (xT (xT (xB (nB (nT (Wp.region ?_))))))
      refine Ro.q (v:=(i g)) rfl rfl (zB f38) rfl ?_
      refine Ro.q rfl rfl (zU rfl rfl (by constructor <;>omega)) rfl ?_
      refine Ro.q (v:=(i (g+1))) rfl rfl (zD rfl) rfl ?_
      refine Ro.nil (nT ?_)
      replace H:=S.sublist (L':=[(b7,.cells [i lo,i hi].toArray 25 (0,0)),(b5,.cells [i 0,i 0].toArray 25 (0,0)),(b3,.cells (rdC x).toArray 33 (0,0)),(b1,.cells (tbC t ab cab ad cad).toArray 29 (0,0))]) H (.cons_cons _ (.cons_cons _ (.cons_cons _ (.cons_cons _ (List.Sublist.refl _)))))
      exact ⟨(t.lhi+1-(g+1):Int).toNat,by omega,(g+1),lo,hi,rfl,(by omega),rfl,f33,f34,f35,f36,f37,rfl,H,(hi44.congr fun d=>by unfold KdIn;omega)⟩
    intro c32
    have c32r:=c32
    simp only [bx] at c32
    refine Wp.exit (xT (xT (xB (nB (nT (Wp.region ?_))))))
    refine Ro.q (v:=(i k)) rfl rfl (zB f25) rfl ?_
    refine Ro.q rfl rfl (zU rfl rfl (by constructor <;>omega)) rfl ?_
    refine Ro.q (v:=(i (k+1))) rfl rfl (zD rfl) rfl ?_
    refine Ro.nil (nT ?_)
    replace H:=S.sublist (L':=[(b7,.cells [i lo,i hi].toArray 25 (0,0)),(b5,.cells [i 0,i 0].toArray 25 (0,0)),(b3,.cells (rdC x).toArray 33 (0,0)),(b1,.cells (tbC t ab cab ad cad).toArray 29 (0,0))]) H (.cons_cons _ (.cons_cons _ (.cons_cons _ (.cons_cons _ (List.Sublist.refl _)))))
    exact ⟨(t.khi+1-(k+1):Int).toNat,by omega,(k+1),lo,hi,rfl,(by omega),rfl,f21,f22,f23,f24,rfl,H,(hi31.congr fun d=>by unfold KdIn;omega)⟩
  intro c20
  have c20r:=c20
  simp only [bx] at c20
  refine Wp.exit (xT (xT (xB (nT (Wp.seq (Wp.region ?_))))))
  refine Ro.q rfl rfl (zJ ta25 f13 (H.cells 0 rfl) (j:=0) rfl (vs:=[i lo,i hi]) rfl rfl) rfl ?_
  refine Ro.d0 rfl rfl rfl (H.store (j:=1) (off:=0) (k:=2) rfl sz25 f12 (v:=(.agg #[(i lo),(i hi)])) rfl rfl rfl rfl rfl (by simp [Value.oneCell']) (cs':=[i lo,i hi]) rfl ?_)
  intro w68 Hn;replace H:=Hn;clear Hn
  refine Ro.nil (nT (Wp.ret (zN ?_)))
  refine yW (vs:=[i lo,i hi]) Tryz.results90 f12 ta25 (H.cells 1 rfl) rfl ⟨H.keep,?_⟩
  have hw:=HullK.wr (hi19.congr (V':=KdIn t) fun d=>by unfold KdIn;omega) htb hrd
  rw [hw]
end Go.Proofs.YthfnjppieihcfaaGreat
namespace Go.Proofs.YthfnjppieihcfaaGreat
open Go.RowKit Go.Proofs Go.Mw
theorem en15:Go.Proofs.Enters Tryz.prog 15:=Go.Proofs.enters_of Tryz.func15 (by kernel_rfl) rfl
theorem en16:Go.Proofs.Enters Tryz.prog 16:=Go.Proofs.enters_of Tryz.func16 (by kernel_rfl) rfl
theorem en18:Go.Proofs.Enters Tryz.prog 18:=Go.Proofs.enters_of Tryz.func18 (by kernel_rfl) rfl
theorem en21:Go.Proofs.Enters Tryz.prog 21:=Go.Proofs.enters_of Tryz.func21 (by kernel_rfl) rfl
theorem en33:Go.Proofs.Enters Tryz.prog 33:=Go.Proofs.enters_of Tryz.func33 (by kernel_rfl) rfl
theorem en51:Go.Proofs.Enters Tryz.prog 51:=Go.Proofs.enters_of Tryz.func51 (by kernel_rfl) rfl
theorem en90:Go.Proofs.Enters Tryz.prog 90:=Go.Proofs.enters_of Tryz.func90 (by kernel_rfl) rfl
open Men
end Go.Proofs.YthfnjppieihcfaaGreat
namespace Go.Mw
open Go.RowKit
variable {P : Program} {N : Nat} {M : Nat → Prop} {w0 w : World} {L : List (Nat × Obj)}
/-- a row that lies anywhere, of a type's elements -/
structure RTy (e n:Nat) (w:World) (k:Nat) (xs:List (List Value)) (a:Option Addr):Prop where
  f:FSl n w k xs a
  ty:xs≠[]→∃ cur,w.heap[blk a]? = some (.cells cur e (0,0))
theorem RTy.ext {e n k:Nat} {w w':World} {xs:List (List Value)} {a:Option Addr} (h:RTy e n w k xs a) (kp:Keep Nm w w'):RTy e n w' k xs a :=
  ⟨h.f.ext kp,fun hne=>let ⟨cur,hc⟩:=h.ty hne;⟨cur,(kp.block _ (Array.getElem?_eq_some_iff.1 hc).1 (fun h=>h)).trans hc⟩⟩
theorem RTy.le {e n m k:Nat} {w:World} {xs:List (List Value)} {a:Option Addr} (h:RTy e n w k xs a) (hm:m≤n):RTy e m w k xs a:=⟨h.f.le hm,h.ty⟩
theorem RTy.put {e n k b:Nat} {w w':World} {xs:List (List Value)} {a:Option Addr} (h:RTy e n w k xs a) (hb:b<n) (kp:Keep (fun q=>q=b) w w'):RTy e n w' k xs a :=
  ⟨h.f.put hb kp,fun hne=>let ⟨cur,hc⟩:=h.ty hne;⟨cur,(kp.block _ (Array.getElem?_eq_some_iff.1 hc).1 (by have:=h.f.2 hne;omega)).trans hc⟩⟩
abbrev RTyAt (e k len:Nat) (xs:List (List Value)) (n:Nat) (v:Value) (w:World):Prop:=∃ a c,v = .slice a len c∧RTy e n w k xs a
theorem RTyAt.le {e k len n m:Nat} {xs:List (List Value)} {v:Value} {w:World} (h:RTyAt e k len xs n v w) (hm:m≤n):RTyAt e k len xs m v w:=let ⟨a,c,h1,h2⟩:=h;⟨a,c,h1,h2.le hm⟩
theorem RTyAt.ext {e k len n:Nat} {xs:List (List Value)} {v:Value} {w w':World} (h:RTyAt e k len xs n v w) (kk:Keep Nm w w'):RTyAt e k len xs n v w':=let ⟨a,c,h1,h2⟩:=h;⟨a,c,h1,h2.ext kk⟩
theorem MRTy {e k len n:Nat} {xs:List (List Value)} {φ:List (Value→World→Prop)} (hm:Mono φ):Mono (RTyAt e k len xs n :: φ) :=
  Mono.cons (fun _ _ _ kk ⟨a,c,h1,h2⟩=>⟨a,c,h1,h2.ext kk⟩) hm
theorem OwnRow.rty {α:Type} {enc:α→List Value} {k e:Nat} (hk : ∀ x,(enc x).length=k) {w':World} {a:Option Addr} {n c:Nat} {xs:List α} {L0:List (Nat×Obj)} (h:OwnRow e k a n c (xs.map enc).flatten L0) (hn:n=xs.length) (H:S Nm w0 (L++L0) w'):RTy e w0.heap.size w' k (xs.map enc) a:=by
  refine ⟨OwnRow.fsl hk h hn H,fun hne=>?_⟩
  have hpos:0<n:=by
    rw [hn]
    cases xs with
    | nil=>exact absurd rfl hne
    | cons x l=>simp
  rcases h.2 with ⟨_,h0,_⟩ | ⟨g,cur,rfl,rfl,_⟩
  · omega
  · exact ⟨cur,H.own (g,.cells cur e (0,0)) (List.mem_append_right _ (by simp))⟩
theorem S.adoptR {e n k:Nat} {xs:List (List Value)} {a:Option Addr} (H:S Nm w0 L w) (h:RTy e n w k xs a) (hw:w0.heap.size≤n) (hne:xs≠[]) (hL : ∀ p∈L,p.1<n∨∃ cs t,p.2 = .cells cs t (0,0)∧t≠e) : ∃ b ob,S Nm w0 ((b,ob) :: L) w∧InB b ob k xs a:=by
  obtain ⟨cur,hc⟩:=h.ty hne
  have hb:=h.f.2 hne
  refine ⟨blk a,.cells cur e (0,0),⟨H.keep,?_,?_,?_⟩,?_⟩
  · intro p hp
    rcases List.mem_cons.1 hp with rfl | hp
    · exact hc
    · exact H.own p hp
  · refine List.pairwise_cons.2 ⟨fun p hp=>?_,H.dist⟩
    rcases hL p hp with hp1 | ⟨cs,t,e1,e2⟩
    · show blk a≠p.1;omega
    · intro (e3:blk a=p.1)
      have:=H.own p hp
      rw [← e3,hc,e1] at this
      cases this
      exact e2 rfl
  · intro p hp
    rcases List.mem_cons.1 hp with rfl | hp
    · exact .inl (Nat.le_trans hw hb)
    · exact H.fresh p hp
  · intro W hW j x hx
    obtain ⟨h1,h2,cs,t,fz,h3,h4⟩:=h.f.1 j x hx
    refine ⟨h1,h2,cs,t,fz,?_,h4⟩
    rw [hW]
    exact hc.symm.trans h3
end Go.Mw
namespace Men
open Go Go.Mw
def deepL (dl:List Depth) (lo:Int):Nat→List Int
  | 0=>[]
  | k+1=>bif hasB (deepL dl lo k) (zV dl (lo+k)) then deepL dl lo k else deepL dl lo k++[zV dl (lo+k)]
theorem deepL_succ {dl:List Depth} {lo:Int} {k:Nat}:deepL dl lo (k+1)=bif hasB (deepL dl lo k) (zV dl (lo+k)) then deepL dl lo k else deepL dl lo k++[zV dl (lo+k)]:=rfl
theorem hasB_iff {l:List Int} {n:Int}:hasB l n=true↔n∈l:=by
  unfold hasB
  rw [List.any_eq_true]
  constructor
  · rintro ⟨x,hx,h⟩;rw [decide_eq_true_eq] at h;exact h ▸ hx
  · exact fun h=>⟨n,h,by simp⟩
theorem deepL_len {dl:List Depth} {lo:Int} : ∀ k,(deepL dl lo k).length≤k
  | 0=>by simp [deepL]
  | k+1=>by
    have:=deepL_len (dl:=dl) (lo:=lo) k
    rw [deepL_succ]
    cases hasB (deepL dl lo k) (zV dl (lo+k))
    · simp;omega
    · simp;omega
theorem deepL_mem {dl:List Depth} {lo n:Int} : ∀ k,n∈deepL dl lo k↔∃ j:Nat,j<k∧zV dl (lo+j)=n
  | 0=>by simp [deepL]
  | k+1=>by
    have ih:=deepL_mem (dl:=dl) (lo:=lo) (n:=n) k
    have hk:(∃ j:Nat,j<k+1∧zV dl (lo+j)=n)↔(∃ j:Nat,j<k∧zV dl (lo+j)=n)∨zV dl (lo+k)=n:=by
      constructor
      · rintro ⟨j,hj,h⟩
        by_cases e:j=k
        · exact .inr (e ▸ h)
        · exact .inl ⟨j,by omega,h⟩
      · rintro (⟨j,hj,h⟩ | h)
        · exact ⟨j,by omega,h⟩
        · exact ⟨k,by omega,h⟩
    rw [hk,← ih]
    rw [deepL_succ]
    cases hb:hasB (deepL dl lo k) (zV dl (lo+k))
    · simp only [cond_false,List.mem_append,List.mem_singleton]
      constructor
      · rintro (h | h)
        · exact .inl h
        · exact .inr h.symm
      · rintro (h | h)
        · exact .inl h
        · exact .inr h.symm
    · simp only [cond_true]
      constructor
      · exact .inl
      · rintro (h | h)
        · exact h
        · exact h ▸ hasB_iff.1 hb
theorem deepL_step {dl:List Depth} {lo n:Int} {xs:List Int} (h:lo≤n) (hx:xs=deepL dl lo (n-lo).toNat) {b:Bool} (hb:hasB xs (zV dl n)=b) :
    deepL dl lo (n+1-lo).toNat=bif b then xs else xs++[zV dl n]:=by
  have e:(n+1-lo).toNat=(n-lo).toNat+1:=by omega
  rw [e,deepL_succ,show lo+(((n-lo).toNat:Nat):Int)=n by omega,← hx,hb]
/-- all that a day's heats can sink -/
abbrev yU (dl:List Depth) (lo hi:Int):List Int:=deepL dl lo (hi+1-lo).toNat
theorem deepR_mem {dl:List Depth} {r:Rg} {n:Int}:n∈yU dl r.lo r.hi↔sinkSet dl r n:=by
  rw [deepL_mem]
  constructor
  · rintro ⟨j,hj,h⟩;exact ⟨r.lo+j,⟨by omega,by omega⟩,h.symm⟩
  · rintro ⟨x,⟨h1,h2⟩,h⟩;exact ⟨(x-r.lo).toNat,by omega,by rw [show r.lo+(((x-r.lo).toNat:Nat):Int)=x by omega];exact h.symm⟩
abbrev MF:=Int→Int→Int→Bool
def vK (F:MF):List Value:=(List.range 27404).map fun q=>.bool (F ((q / 1612:Nat):Int) ((q / 31 % 52:Nat):Int) ((q % 31:Nat):Int))
abbrev ix3 (d r s:Int):Nat:=0+d.toNat*1612+r.toNat*31+s.toNat*1
abbrev In3 (d r s:Int):Prop:=(0≤d∧d<17)∧(0≤r∧r<52)∧(0≤s∧s<31)
def setF (F:MF) (d r s:Int) (b:Bool):MF:=fun x y z=>bif decide (x=d) && decide (y=r) && decide (z=s) then b else F x y z
theorem mapC_len (F:MF):(vK F).length=27404:=by simp [vK]
theorem ix3_lt {d r s:Int} (h:In3 d r s):ix3 d r s<27404:=by unfold ix3;obtain ⟨h1,h2,h3⟩:=h;omega
theorem ix3_of {d r s:Int} (h:In3 d r s):((ix3 d r s / 1612:Nat):Int)=d∧((ix3 d r s / 31 % 52:Nat):Int)=r∧((ix3 d r s % 31:Nat):Int)=s:=by
  unfold ix3;obtain ⟨h1,h2,h3⟩:=h;omega
theorem ix3_eq {d r s:Int} (h:In3 d r s) {q:Nat} (hq:q<27404) (h1:((q / 1612:Nat):Int)=d) (h2:((q / 31 % 52:Nat):Int)=r) (h3:((q % 31:Nat):Int)=s):q=ix3 d r s:=by
  unfold ix3;obtain ⟨g1,g2,g3⟩:=h;omega
theorem mapC_get {F:MF} {q:Nat} (h:q<27404):(vK F)[q]? = some (.bool (F ((q / 1612:Nat):Int) ((q / 31 % 52:Nat):Int) ((q % 31:Nat):Int))):=by
  unfold vK;rw [List.getElem?_map,List.getElem?_range h];rfl
theorem mapC_at {F:MF} {d r s:Int} (h:In3 d r s):(vK F)[ix3 d r s]? = some (.bool (F d r s)):=by
  obtain ⟨e1,e2,e3⟩:=ix3_of h
  rw [mapC_get (ix3_lt h),e1,e2,e3]
theorem mapC_set {F:MF} {d r s:Int} {b:Bool} (h:In3 d r s):(vK F).take (ix3 d r s)++[.bool b]++(vK F).drop (ix3 d r s+1)=vK (setF F d r s b):=by
  have hk:=ix3_lt h
  obtain ⟨e1,e2,e3⟩:=ix3_of h
  have hne : ∀ q,q<27404→q≠ix3 d r s→setF F d r s b ((q / 1612:Nat):Int) ((q / 31 % 52:Nat):Int) ((q % 31:Nat):Int)=F ((q / 1612:Nat):Int) ((q / 31 % 52:Nat):Int) ((q % 31:Nat):Int):=by
    intro q hq hn
    have:(decide (((q / 1612:Nat):Int)=d) && decide (((q / 31 % 52:Nat):Int)=r) && decide (((q % 31:Nat):Int)=s))=false:=by
      rw [← Bool.not_eq_true]
      simp only [Bool.and_eq_true,decide_eq_true_eq]
      rintro ⟨⟨a1,a2⟩,a3⟩
      exact hn (ix3_eq h hq a1 a2 a3)
    unfold setF;rw [this];rfl
  have hl:=mapC_len F
  generalize hkk:ix3 d r s=k at *
  apply List.ext_getElem?
  intro j
  rcases Nat.lt_trichotomy j k with hj | hj | hj
  · rw [List.append_assoc,List.getElem?_append_left (by simp;omega),List.getElem?_take_of_lt hj,mapC_get (by omega),mapC_get (by omega),hne j (by omega) (by omega)]
  · subst hj
    rw [List.append_assoc,List.getElem?_append_right (by rw [List.length_take];exact Nat.min_le_left _ _),mapC_get (by omega),e1,e2,e3]
    have:setF F d r s b d r s=b:=by unfold setF;simp
    rw [this]
    simp [hl,Nat.min_eq_left (Nat.le_of_lt hk)]
  · by_cases hj2:j<27404
    · rw [List.getElem?_append_right (by simp;omega),mapC_get hj2,List.getElem?_drop,hne j hj2 (by omega)]
      rw [show k+1+(j-((vK F).take k++[Value.bool b]).length)=j by simp;omega,mapC_get hj2]
    · rw [List.getElem?_eq_none (by simp;omega),List.getElem?_eq_none (by rw [mapC_len];omega)]
theorem mapC_ble {F:MF} {d r s:Int} (h:In3 d r s):Nat.ble (ix3 d r s+1) (vK F).length=true:=by
  rw [mapC_len];have:=ix3_lt h;simp only [Nat.ble_eq];omega
theorem setF_true {F:MF} {d r s k x y:Int}:setF F d r s true k x y=true↔F k x y=true∨(k=d∧x=r∧y=s):=by
  unfold setF
  by_cases h:k=d∧x=r∧y=s
  · obtain ⟨rfl,rfl,rfl⟩:=h;simp
  · have:(decide (k=d) && decide (x=r) && decide (y=s))=false:=by
      rw [← Bool.not_eq_true];simp only [Bool.and_eq_true,decide_eq_true_eq];rintro ⟨⟨a,b⟩,c⟩;exact h ⟨a,b,c⟩
    rw [this];simp [h]
/-- 'F' is 'F0' and, on the day 'D', the places 'Q' -/
def Up (D:Int) (F F0:MF) (Q:Int→Int→Prop):Prop:=∀ k r s,F k r s=true↔F0 k r s=true∨(k=D∧Q r s)
theorem Up.refl {D:Int} {F:MF} {Q:Int→Int→Prop} (h : ∀ r s,¬ Q r s):Up D F F Q:=fun k r s=>⟨.inl,fun h'=>h'.elim id (fun x=>absurd x.2 (h r s))⟩
theorem Up.add {D:Int} {F:MF} {x y:Int}:Up D (setF F D x y true) F (fun r s=>r=x∧s=y):=fun _ _ _=>setF_true
theorem Up.trans {D:Int} {F F1 F0:MF} {Q Q1:Int→Int→Prop} (h1:Up D F F1 Q1) (h:Up D F1 F0 Q):Up D F F0 (fun r s=>Q r s∨Q1 r s):=fun k r s=>by
  rw [h1 k r s,h k r s,or_assoc,← and_or_left]
theorem Up.congr {D:Int} {F F0:MF} {Q Q':Int→Int→Prop} (h:Up D F F0 Q) (hq : ∀ r s,Q r s↔Q' r s):Up D F F0 Q':=fun k r s=>by rw [h k r s,hq r s]
theorem Up.off {D:Int} {F F0:MF} {Q:Int→Int→Prop} (h:Up D F F0 Q) {k:Int} (hk:k≠D) (r s:Int):F k r s=F0 k r s:=by
  have:=h k r s
  rw [Bool.eq_iff_iff,this]
  exact ⟨fun h=>h.elim id (fun x=>absurd x.1 hk),.inl⟩
/-- a loop over numbers: the places of all that are behind -/
def Ov (a n:Int) (B:Int→Int→Int→Prop) (r s:Int):Prop:=∃ j,(a≤j∧j<n)∧B j r s
theorem Ov.nil {a n:Int} {B:Int→Int→Int→Prop} (h:n≤a) (r s:Int) : ¬ Ov a n B r s:=by rintro ⟨j,hj,_⟩;omega
theorem Up.start {D a n:Int} {F:MF} {B:Int→Int→Int→Prop} (h:n≤a):Up D F F (Ov a n B):=Up.refl (Ov.nil h)
theorem Up.step {D:Int} {F F1 F0:MF} {a n:Int} {B:Int→Int→Int→Prop} (h1:Up D F F1 (B n)) (h:Up D F1 F0 (Ov a n B)) (ha:a≤n):Up D F F0 (Ov a (n+1) B):=(h1.trans h).congr fun r s=>by
  constructor
  · rintro (⟨j,hj,hb⟩ | hb)
    · exact ⟨j,by omega,hb⟩
    · exact ⟨n,by omega,hb⟩
  · rintro ⟨j,hj,hb⟩
    by_cases e:j=n
    · exact .inr (e ▸ hb)
    · exact .inl ⟨j,by omega,hb⟩
abbrev zF:MF:=fun _ _ _=>false
def aK (g:Glass) (ices:List Ice) (d:Int) (xs:List Int) (rr ss c b j x y:Int):Prop:=∃ e,xs[j.toNat]? = some e∧x=rr+c∧y=max (max (ss-b) 0) e∧fitsB ices d (g.base+(rr+c)-max (max (ss-b) 0) e)=true
def aB (g:Glass) (ices:List Ice) (d:Int) (xs:List Int) (rr ss c b:Int):Int→Int→Prop:=Ov 0 xs.length (aK g ices d xs rr ss c b)
def aC (g:Glass) (ices:List Ice) (d:Int) (xs:List Int) (rr ss c:Int):Int→Int→Prop:=Ov g.back.lo (g.back.hi+1) (aB g ices d xs rr ss c)
def aS (g:Glass) (ices:List Ice) (d:Int) (xs:List Int) (cr:Rg) (F:MF) (rr ss x y:Int):Prop:=F d rr ss=true∧Ov cr.lo (cr.hi+1) (aC g ices d xs rr ss) x y
def aR (g:Glass) (ices:List Ice) (d:Int) (xs:List Int) (cr:Rg) (F:MF) (rr:Int):Int→Int→Prop:=Ov 0 31 (aS g ices d xs cr F rr)
def AhI (g:Glass) (h:List Rg) (ices:List Ice) (d:Int) (F:MF):Prop :=
  (∀ k r s,In3 k r s→k≤d→(F k r s=true↔R g h ices k.toNat (r,s)))∧∀ k r s,d<k→F k r s=false
theorem Up.fin {D:Int} {F F0:MF} {a n n':Int} {B:Int→Int→Int→Prop} (h:Up D F F0 (Ov a n B)) (e:n=n'):Up D F F0 (Ov a n' B):=e ▸ h
theorem AhI.start {g:Glass} {h:List Rg} {ices:List Ice}:AhI g h ices 0 (setF zF 0 0 0 true):=by
  refine ⟨fun k r s hi hk=>?_,fun k r s hk=>?_⟩
  · obtain rfl:k=0:=by obtain ⟨h1,_⟩:=hi;omega
    rw [setF_true]
    show _↔(r,s)=(0,0)
    simp
  · rw [← Bool.not_eq_true,setF_true]
    rintro (h | ⟨h,_⟩)
    · cases h
    · omega
theorem up_fit {D:Int} {F:MF} {g:Glass} {ices:List Ice} {d:Int} {xs:List Int} {rr ss c b j e:Int} (he:xs[j.toNat]? = some e) (hf:fitsB ices d (g.base+(rr+c)-max (max (ss-b) 0) e)=true) :
    Up D (setF F D (rr+c) (max (max (ss-b) 0) e) true) F (aK g ices d xs rr ss c b j):=Up.add.congr fun r s =>
  ⟨fun ⟨h1,h2⟩=>⟨e,he,h1,h2,hf⟩,fun ⟨e',h1,h2,h3,_⟩=>by rw [he] at h1;cases h1;exact ⟨h2,h3⟩⟩
theorem up_nofit {D:Int} {F:MF} {g:Glass} {ices:List Ice} {d:Int} {xs:List Int} {rr ss c b j e:Int} (he:xs[j.toNat]? = some e) (hf:fitsB ices d (g.base+(rr+c)-max (max (ss-b) 0) e)=false) :
    Up D F F (aK g ices d xs rr ss c b j):=Up.refl fun r s ⟨e',h1,_,_,h4⟩=>by rw [he] at h1;cases h1;rw [hf] at h4;cases h4
theorem up_creep {D:Int} {F F0:MF} {lo hi n:Int} {b:Bool} {B:Int→Int→Int→Prop} (h:Up D F F0 (Ov lo n B)) (hn:lo≤n∧n≤hi+1) (hb:n=lo∨b=true) (hx : ¬ (n≤hi∧b=true)) :
    Up D F F0 (fun x y=>b=true∧Ov lo (hi+1) B x y):=by
  cases b with
  | true =>
    obtain rfl:n=hi+1:=by
      have : ¬ n≤hi:=fun h'=>hx ⟨h',rfl⟩
      omega
    exact h.congr fun r s=>⟨fun x=>⟨rfl,x⟩,fun x=>x.2⟩
  | false =>
    obtain rfl:n=lo:=by
      rcases hb with hb | hb
      · exact hb
      · cases hb
    exact h.congr fun r s=>⟨fun x=>absurd x (Ov.nil (Int.le_refl _) r s),fun x=>by cases x.1⟩
theorem AhI.day {g:Glass} (o:GlassOk g) {h:List Rg} {ices:List Ice} {d:Int} {F F':MF} {r0:Rg} (H:AhI g h ices d F) (h0:0≤d) (hd:d<16) (hr:h[d.toNat]? = some r0)
    (hU:Up (d+1) F' F (Ov 0 49 (aR g ices d (yU g.depths r0.lo r0.hi) (zL g.bands d) F))):AhI g h ices (d+1) F':=by
  refine ⟨fun k r s hi hk=>?_,fun k r s hk=>?_⟩
  · by_cases e:k=d+1
    · subst e
      rw [hU,H.2 (d+1) r s (by omega)]
      have en:(d+1).toNat=d.toNat+1:=by omega
      have ed:((d.toNat:Nat):Int)=d:=by omega
      have er:vN h d.toNat=r0:=by unfold vN;rw [List.getD_eq_getElem?_getD,hr];rfl
      rw [en]
      constructor
      · rintro (hf | ⟨_,rr,hrr,ss,hss,hF,c,hc,b,hb,j,hj,e,he,rfl,rfl,hfit⟩)
        · cases hf
        · refine ⟨(rr,ss),(H.1 d rr ss ⟨by omega,by omega,by omega⟩ (Int.le_refl _)).1 hF,⟨c,b,e,?_,⟨hb.1,by omega⟩,?_,rfl⟩,?_⟩
          · rw [ed];exact ⟨hc.1,by omega⟩
          · rw [er];exact deepR_mem.1 (List.mem_of_getElem? he)
          · rw [ed];exact fitsB_iff.1 hfit
      · rintro ⟨⟨rr,ss⟩,hR,⟨c,b,e,hc,hb,hk2,ht⟩,hfit⟩
        have hbd:=R.bounds o hR
        rw [ed] at hc hfit
        rw [er] at hk2
        unfold after at ht
        simp only [Prod.mk.injEq] at ht hbd
        obtain ⟨rfl,rfl⟩:=ht
        obtain ⟨j,hj⟩:=List.mem_iff_getElem?.1 (deepR_mem.2 hk2)
        have hjl:=(List.getElem?_eq_some_iff.1 hj).1
        refine .inr ⟨rfl,rr,by omega,ss,by omega,(H.1 d rr ss ⟨by omega,by omega,by omega⟩ (Int.le_refl _)).2 hR,c,⟨hc.1,by have:=hc.2;omega⟩,b,⟨hb.1,by have:=hb.2;omega⟩,(j:Int),⟨by omega,by omega⟩,e,by simpa using hj,rfl,rfl,?_⟩
        exact fitsB_iff.2 hfit
    · rw [hU.off e];exact H.1 k r s hi (by omega)
  · rw [hU.off (by omega)];exact H.2 k r s (by omega)
/-- the map of a history -/
def MapR (g:Glass) (h:List Rg) (ices:List Ice) (F:MF):Prop:=∀ k r s,In3 k r s→k≤h.length→(F k r s=true↔R g h ices k.toNat (r,s))
theorem AhI.done {g:Glass} {h:List Rg} {ices:List Ice} {d:Int} {F:MF} (H:AhI g h ices d F) (hd:h.length≤d):MapR g h ices F:=fun k r s hi hk=>H.1 k r s hi (by omega)
end Men
namespace Go.Proofs.YthfnjppieihcfaaGreat
open Go.RowKit Go.Proofs Go.Mw
theorem en64:Go.Proofs.Enters Tryz.prog 64:=Go.Proofs.enters_of Tryz.func64 (by kernel_rfl) rfl
theorem en65:Go.Proofs.Enters Tryz.prog 65:=Go.Proofs.enters_of Tryz.func65 (by kernel_rfl) rfl
theorem en93:Go.Proofs.Enters Tryz.prog 93:=Go.Proofs.enters_of Tryz.func93 (by kernel_rfl) rfl
theorem en94:Go.Proofs.Enters Tryz.prog 94:=Go.Proofs.enters_of Tryz.func94 (by kernel_rfl) rfl
theorem sz125 : ∀ w,(sizeOf 125).run Tryz.prog w = .ok 31 w:=fun _=>by kernel_rfl
theorem sz126 : ∀ w,(sizeOf 126).run Tryz.prog w = .ok 1612 w:=fun _=>by kernel_rfl
open Men
theorem c65 {t:Tb} {ab ad:Option Addr} {cab cad:Nat} {lo hi:Int} (w:World) (hab:Sl w 3 (t.bs.map yH) ab) (had:Sl w 2 (t.dl.map zZ) ad) (hd4:t.dl.length≤4) (hr : -1000≤lo∧lo≤hi∧hi≤1000):Ret Tryz.prog 65 [(.agg #[(i t.base),(.slice ab t.bs.length cab),(.slice ad t.dl.length cad),(i t.blo),(i t.bhi)]),(.agg #[(i lo),(i hi)])] w fun v w'=>RTyAt 3 1 (yU t.dl lo hi).length ((yU t.dl lo hi).map yD) w.heap.size v w':=by
  refine Ret.body (N:=28) Tryz.func65 rfl Tryz.ntmps65 rfl ?_
  have H:=S.start Nm w
  refine Wp.seq (Wp.region ?_)
  refine Ro.d rfl rfl rfl (H.box (l:=[i t.base,.slice ab t.bs.length cab,.slice ad t.dl.length cad,i t.blo,i t.bhi]) rfl (v:=(.agg #[(i t.base),(.slice ab t.bs.length cab),(.slice ad t.dl.length cad),(i t.blo),(i t.bhi)])) rfl rfl ?_)
  intro b1 w2 Hn;replace H:=Hn;clear Hn
  refine Ro.d rfl rfl rfl (H.box (l:=[i lo,i hi]) rfl (v:=(.agg #[(i lo),(i hi)])) rfl rfl ?_)
  intro b3 w4 Hn;replace H:=Hn;clear Hn
  refine Ro.q (v:=(.slice none 0 0)) rfl rfl (zD rfl) rfl ?_
  refine Ro.nil (nT (Wp.seq (Wp.region ?_)))
  refine Ro.q (v:=(.slice none 0 0)) rfl rfl (zD rfl) rfl ?_
  refine Ro.nil (nT (Wp.seq (Wp.seq (Wp.region ?_))))
  refine Ro.q (v:=(p b3 0)) rfl rfl (zA uI rfl rfl) rfl ?_
  refine Ro.q rfl rfl (zE zM rfl (H.cells 0 rfl) (j:=0) rfl rfl) rfl ?_
  refine Ro.q (v:=(i lo)) rfl rfl (zD rfl) rfl ?_
  refine Ro.nil (nT (Wp.block ?_))
  refine Wp.loop (fun kM ds ρ w'=>∃ n:Int,∃ a:Option Addr,∃ c:Nat,∃ xs:List Int,∃ Lr:List (Nat×Obj),ds=[]∧(lo≤n∧n≤hi+1)∧kM=(hi+1-n:Int).toNat∧ρ 2=(p b1 0)∧ρ 3=(p b3 0)∧ρ 4=(.slice none 0 0)∧ρ 5=(.slice a xs.length c)∧ρ 6=(i n)∧S Nm w ([(b3,.cells [i lo,i hi].toArray 25 (0,0)),(b1,.cells [i t.base,.slice ab t.bs.length cab,.slice ad t.dl.length cad,i t.blo,i t.bhi].toArray 27 (0,0))]++Lr) w'∧(OwnRow 3 1 a xs.length c (xs.map yD).flatten Lr∧xs=deepL t.dl lo (n-lo).toNat)) ((hi+1-lo:Int).toNat) ⟨lo,none,0,([]),([]),rfl,(by omega),rfl,rfl,rfl,rfl,rfl,rfl,(by rw [List.append_nil];exact H),⟨OwnRow.nil 3 1,by simp [deepL]⟩⟩ ?_
  clear H
  intro kρ10 dsρ10 ρ10 w11
  rintro ⟨n,a,c,xs,Lr,rfl,hb13,hk12,f5,f6,f7,f8,f9,H,hi14⟩
  have hxl:xs.length≤(n-lo).toNat:=by rw [hi14.2];exact deepL_len _
  refine Wp.seq (Wp.seq (Wp.region ?_))
  refine Ro.q (v:=(i n)) rfl rfl (zB f9) rfl ?_
  refine Ro.q (v:=(p b3 1)) rfl rfl (zA uB f6 rfl) rfl ?_
  refine Ro.q rfl rfl (zE zM rfl (H.cells 0 rfl) (j:=1) rfl rfl) rfl ?_
  refine Ro.q rfl rfl (vD rfl rfl) rfl ?_
  refine Ro.nil (nT ?_)
  refine Wp.cond (t:=decide (n≤hi)) rfl ?_ ?_
  · intro c15
    have c15r:=c15
    simp only [bx] at c15
    refine Wp.skip (nT (Wp.seq (Wp.block (Wp.seq (Wp.region ?_)))))
    refine Ro.q rfl rfl (zJ ta27 f5 (H.cells 1 rfl) (j:=0) rfl (vs:=[i t.base,.slice ab t.bs.length cab,.slice ad t.dl.length cad,i t.blo,i t.bhi]) rfl rfl) rfl ?_
    refine Ro.q (v:=(i n)) rfl rfl (zB f9) rfl ?_
    refine Ro.d rfl rfl rfl (zH rfl en94 (ce (v:=(.agg #[(i t.base),(.slice ab t.bs.length cab),(.slice ad t.dl.length cad),(i t.blo),(i t.bhi)])) rfl (ce (v:=(i n)) rfl cn)) (c94 t.base t.blo t.bhi n ab t.bs cab ad t.dl cad _ (hab.ext H.keep) (had.ext H.keep) hd4) ?_)
    intro u w16 k17 hu;subst hu;replace H:=H.ext k17
    clear k17
    refine Ro.q (v:=(i (zV t.dl n))) rfl rfl (zD rfl) rfl ?_
    refine Ro.nil (nT (Wp.seq (Wp.region ?_)))
    refine Ro.q (v:=(.slice a xs.length c)) rfl rfl (zB f8) rfl ?_
    refine Ro.q (v:=(i (zV t.dl n))) rfl rfl (zB rfl) rfl ?_
    refine Ro.d rfl rfl rfl (zH rfl en95 (ce (v:=(.slice a xs.length c)) rfl (ce (v:=(i (zV t.dl n))) rfl cn)) (c95 (zV t.dl n) a xs c _ ((OwnRow.sl (enc:=yD) (k:=1) (fun _=>rfl) hi14.1 rfl H)) (by omega)) ?_)
    intro u w18 k19 hu;subst hu;replace H:=H.ext k19
    clear k19
    refine Ro.q rfl rfl (yN rfl) rfl ?_
    refine Ro.nil (nT ?_)
    refine Wp.cond (t:=!(hasB xs (zV t.dl n))) rfl ?_ ?_
    · intro c20
      have c20r:=c20
      simp only [bx] at c20
      refine Wp.region ?_
      refine Ro.q (v:=(.slice a xs.length c)) rfl rfl (zB f8) rfl ?_
      refine Ro.q (v:=(i (zV t.dl n))) rfl rfl (zB rfl) rfl ?_
      refine Ro.d rfl rfl rfl (H.row (e:=3) (cs:=[i (zV t.dl n)]) rfl (pe (v:=(i (zV t.dl n))) rfl pn) (fun w=>by kernel_rfl) ?_)
      intro b21 w22 Hn;replace H:=Hn;clear Hn
      replace H:S Nm w ([(b21,.cells [i (zV t.dl n)].toArray 3 (0,0)),(b3,.cells [i lo,i hi].toArray 25 (0,0)),(b1,.cells [i t.base,.slice ab t.bs.length cab,.slice ad t.dl.length cad,i t.blo,i t.bhi].toArray 27 (0,0))]++Lr) _:=H
      refine Ro.d rfl rfl rfl (H.appendE (enc:=yD) (z:=zV t.dl n) hi14.1 tr72_8 rfl rfl rfl (H.cells 0 rfl) rfl (by simp [yD,Value.oneCell']) (by simp only [maxLen];omega) (by omega) ?_)
      intro a23 c24 Lr25 w26 hr27 Hn
      replace H:S Nm w ([(b21,.cells [i (zV t.dl n)].toArray 3 (0,0)),(b3,.cells [i lo,i hi].toArray 25 (0,0)),(b1,.cells [i t.base,.slice ab t.bs.length cab,.slice ad t.dl.length cad,i t.blo,i t.bhi].toArray 27 (0,0))]++Lr25) w26:=Hn;clear Hn
      refine Ro.q (v:=(.slice a23 ((xs++[zV t.dl n]).length) c24)) rfl rfl (zD rfl) rfl ?_
      refine Ro.nil (nB (nT (Wp.region ?_)))
      refine Ro.q (v:=(i n)) rfl rfl (zB f9) rfl ?_
      refine Ro.q rfl rfl (zU rfl rfl (by constructor <;>omega)) rfl ?_
      refine Ro.q (v:=(i (n+1))) rfl rfl (zD rfl) rfl ?_
      refine Ro.nil (nT ?_)
      exact ⟨(hi+1-(n+1):Int).toNat,by omega,(n+1),a23,c24,(xs++[zV t.dl n]),Lr25,rfl,(by omega),rfl,f5,f6,f7,rfl,rfl,(H.drop 1),⟨hr27,(deepL_step (b:=false) (by omega) hi14.2 (by simpa using c20r)).symm⟩⟩
    intro c20
    have c20r:=c20
    simp only [bx] at c20
    refine Wp.skip (nB (nT (Wp.region ?_)))
    refine Ro.q (v:=(i n)) rfl rfl (zB f9) rfl ?_
    refine Ro.q rfl rfl (zU rfl rfl (by constructor <;>omega)) rfl ?_
    refine Ro.q (v:=(i (n+1))) rfl rfl (zD rfl) rfl ?_
    refine Ro.nil (nT ?_)
    exact ⟨(hi+1-(n+1):Int).toNat,by omega,(n+1),a,c,xs,Lr,rfl,(by omega),rfl,f5,f6,f7,f8,rfl,H,⟨hi14.1,(deepL_step (b:=true) (by omega) hi14.2 (by simpa using c20r)).symm⟩⟩
  intro c15
  have c15r:=c15
  simp only [bx] at c15
  refine Wp.exit (xT (xT (xB (nT (Wp.seq (Wp.region ?_))))))
  refine Ro.q (v:=(.slice a xs.length c)) rfl rfl (zB f8) rfl ?_
  refine Ro.q (v:=(.slice a xs.length c)) rfl rfl (zD rfl) rfl ?_
  refine Ro.nil (nT (Wp.ret (zN ?_)))
  refine zI (v:=(.slice a xs.length c)) Tryz.results65 rfl ⟨H.keep,?_⟩
  obtain rfl:xs=yU t.dl lo hi:=by rw [hi14.2,show n=hi+1 by omega]
  exact ⟨_,_,rfl,OwnRow.rty (enc:=yD) (fun _=>rfl) hi14.1 rfl H⟩
def leadsB (lo hi:Int) (xs:List Int) (f to:Int):Prop:=∃ b,(lo≤b∧b≤hi)∧∃ k∈xs,max (max (f-b) 0) k=to
open Classical in
noncomputable def leadsD (lo hi:Int) (xs:List Int) (f to:Int):Bool:=decide (leadsB lo hi xs f to)
open Classical in
theorem leads_yes {lo hi f to b k:Int} {xs:List Int} {j:Nat} (h1:lo≤b∧b≤hi) (h2:xs[j]? = some k) (h3:max (max (f-b) 0) k=to):leadsD lo hi xs f to=true:=decide_eq_true ⟨b,h1,k,List.mem_of_getElem? h2,h3⟩
open Classical in
theorem leads_no {lo hi f to:Int} {xs:List Int} {n:Int} (h : ∀ b,lo≤b→b<n→∀ k∈xs,max (max (f-b) 0) k≠to) (hn:hi<n):leadsD lo hi xs f to=false:=decide_eq_false fun ⟨b,h1,k,hk,e⟩=>h b h1.1 (by omega) k hk e
theorem c66 {lo hi f to:Int} {xs:List Int} {a:Option Addr} {c:Nat} (w:World) (ha:Sl w 1 (xs.map yD) a) (hr:0≤lo∧lo≤hi∧hi≤1000) (hf : -1000≤f∧f≤1000) (hxl:xs.length≤1000):Rv Tryz.prog 66 [(.agg #[(i lo),(i hi)]),.slice a xs.length c,i f,i to] w (.bool (leadsD lo hi xs f to)):=by
  refine Ret.body (N:=35) Tryz.func66 rfl Tryz.ntmps66 rfl ?_
  have H:=S.start Nm w
  refine Wp.seq (Wp.region ?_)
  refine Ro.d rfl rfl rfl (H.box (l:=[i lo,i hi]) rfl (v:=(.agg #[(i lo),(i hi)])) rfl rfl ?_)
  intro b1 w2 Hn;replace H:=Hn;clear Hn
  refine Ro.q (v:=(.bool false)) rfl rfl (zD rfl) rfl ?_
  refine Ro.nil (nT (Wp.seq (Wp.seq (Wp.region ?_))))
  refine Ro.q (v:=(p b1 0)) rfl rfl (zA uI rfl rfl) rfl ?_
  refine Ro.q rfl rfl (zE zM rfl (H.cells 0 rfl) (j:=0) rfl rfl) rfl ?_
  refine Ro.q (v:=(i lo)) rfl rfl (zD rfl) rfl ?_
  refine Ro.nil (nT (Wp.block ?_))
  refine Wp.loop (fun kM ds ρ w'=>∃ n:Int,ds=[]∧(lo≤n∧n≤hi+1)∧kM=(hi+1-n:Int).toNat∧ρ 1=(.slice a xs.length c)∧ρ 2=(i f)∧ρ 3=(i to)∧ρ 4=(p b1 0)∧ρ 9=(i n)∧S Nm w [(b1,.cells [i lo,i hi].toArray 25 (0,0))] w'∧(∀ b,lo≤b→b<n→∀ k∈xs,max (max (f-b) 0) k≠to)) ((hi+1-lo:Int).toNat) ⟨lo,rfl,(by omega),rfl,rfl,rfl,rfl,rfl,rfl,H,(fun b h1 h2=>by omega)⟩ ?_
  clear H
  intro kρ8 dsρ8 ρ8 w9
  rintro ⟨n,rfl,hb11,hk10,f3,f4,f5,f6,f7,H,hi12⟩
  refine Wp.seq (Wp.seq (Wp.region ?_))
  refine Ro.q (v:=(i n)) rfl rfl (zB f7) rfl ?_
  refine Ro.q (v:=(p b1 1)) rfl rfl (zA uB f6 rfl) rfl ?_
  refine Ro.q rfl rfl (zE zM rfl (H.cells 0 rfl) (j:=1) rfl rfl) rfl ?_
  refine Ro.q rfl rfl (vD rfl rfl) rfl ?_
  refine Ro.nil (nT ?_)
  refine Wp.cond (t:=decide (n≤hi)) rfl ?_ ?_
  · intro c13
    have c13r:=c13
    simp only [bx] at c13
    refine Wp.skip (nT (Wp.seq (Wp.block (Wp.seq (Wp.region ?_)))))
    refine Ro.q (v:=(i 0)) rfl rfl (zD rfl) rfl ?_
    refine Ro.nil (nT (Wp.block ?_))
    refine Wp.loop (fun kM ds ρ w'=>∃ m:Int,ds=[]∧(0≤m∧m≤xs.length)∧kM=((xs.length:Int)-m).toNat∧ρ 1=(.slice a xs.length c)∧ρ 2=(i f)∧ρ 3=(i to)∧ρ 4=(p b1 0)∧ρ 9=(i n)∧ρ 10=(i m)∧S Nm w [(b1,.cells [i lo,i hi].toArray 25 (0,0))] w'∧(∀ j k,j<m.toNat→xs[j]? = some k→max (max (f-n) 0) k≠to)) (((xs.length:Int)-0).toNat) ⟨0,rfl,(by omega),rfl,f3,f4,f5,f6,f7,rfl,H,(fun j k h=>absurd h (by simp))⟩ ?_
    clear H
    intro kρ20 dsρ20 ρ20 w21
    rintro ⟨m,rfl,hb23,hk22,f14,f15,f16,f17,f18,f19,H,hi24⟩
    refine Wp.seq (Wp.seq (Wp.region ?_))
    refine Ro.q (v:=(i m)) rfl rfl (zB f19) rfl ?_
    refine Ro.q (v:=(.slice a xs.length c)) rfl rfl (zB f14) rfl ?_
    refine Ro.q rfl rfl (yG Tryz.underlying72 rfl (v:=xs.length) rfl) rfl ?_
    refine Ro.q rfl rfl (yB rfl rfl) rfl ?_
    refine Ro.nil (nT ?_)
    refine Wp.cond (t:=decide (m<((xs.length:Nat):Int))) rfl ?_ ?_
    · intro c25
      have c25r:=c25
      simp only [bx] at c25
      obtain ⟨e,he⟩:=vQ xs m (by omega) (by omega)
      refine Wp.skip (nT (Wp.seq (Wp.block (Wp.seq (Wp.region ?_)))))
      refine Ro.q (v:=(i f)) rfl rfl (zB f15) rfl ?_
      refine Ro.q (v:=(i n)) rfl rfl (zB f18) rfl ?_
      refine Ro.q rfl rfl (yT rfl rfl (by constructor <;>omega)) rfl ?_
      refine Ro.q (v:=(.slice a xs.length c)) rfl rfl (zB f14) rfl ?_
      refine Ro.q (v:=(i m)) rfl rfl (zB f19) rfl ?_
      refine Ro.q rfl rfl (zY ts72 (ha.ext H.keep) rfl (by simp) rfl (by omega) (zW he)) rfl ?_
      refine Ro.q rfl rfl (zE zM rfl ((ha.ext H.keep).cells (zW he)) (j:=0) rfl rfl) rfl ?_
      refine Ro.q rfl rfl (r_max3 rfl rfl rfl) rfl ?_
      refine Ro.q (v:=(i to)) rfl rfl (zB f16) rfl ?_
      refine Ro.q rfl rfl (vR rfl rfl) rfl ?_
      refine Ro.nil (nT ?_)
      refine Wp.cond (t:=decide ((max (max (f-n) 0) e)=to)) rfl ?_ ?_
      · intro c26
        have c26r:=c26
        simp only [bx] at c26
        refine Wp.seq (Wp.region ?_)
        refine Ro.q (v:=(.bool true)) rfl rfl (zD rfl) rfl ?_
        refine Ro.nil (nT (Wp.ret (rB (rT (rT (rB (rB (rT (rT (rB (rT (zN ?_))))))))))))
        refine zI (v:=(.bool true)) Tryz.results66 rfl ⟨H.keep,?_⟩
        exact congrArg Value.bool (leads_yes (by omega) he c26).symm
      intro c26
      have c26r:=c26
      simp only [bx] at c26
      refine Wp.skip (nB (nT (Wp.region ?_)))
      refine Ro.q (v:=(i m)) rfl rfl (zB f19) rfl ?_
      refine Ro.q rfl rfl (zU rfl rfl (by constructor <;>omega)) rfl ?_
      refine Ro.q (v:=(i (m+1))) rfl rfl (zD rfl) rfl ?_
      refine Ro.nil (nT ?_)
      exact ⟨((xs.length:Int)-(m+1)).toNat,by omega,(m+1),rfl,(by omega),rfl,f14,f15,f16,f17,f18,rfl,H,(fun j k hj hk=>by by_cases ej:j=m.toNat;(subst ej;rw [he] at hk;cases hk;exact c26);exact hi24 j k (by omega) hk)⟩
    intro c25
    have c25r:=c25
    simp only [bx] at c25
    refine Wp.exit (xT (xT (xB (nB (nT (Wp.region ?_))))))
    refine Ro.q (v:=(i n)) rfl rfl (zB f18) rfl ?_
    refine Ro.q rfl rfl (zU rfl rfl (by constructor <;>omega)) rfl ?_
    refine Ro.q (v:=(i (n+1))) rfl rfl (zD rfl) rfl ?_
    refine Ro.nil (nT ?_)
    exact ⟨(hi+1-(n+1):Int).toNat,by omega,(n+1),rfl,(by omega),rfl,f14,f15,f16,f17,rfl,H,(fun b h1 h2 k hk=>by by_cases e:b=n;(subst e;obtain ⟨j,hj⟩:=List.mem_iff_getElem?.1 hk;exact hi24 j k (by have:=(List.getElem?_eq_some_iff.1 hj).1;omega) hj);exact hi12 b h1 (by omega) k hk)⟩
  intro c13
  have c13r:=c13
  simp only [bx] at c13
  refine Wp.exit (xT (xT (xB (nT (Wp.seq (Wp.region ?_))))))
  refine Ro.q (v:=(.bool false)) rfl rfl (zD rfl) rfl ?_
  refine Ro.nil (nT (Wp.ret (zN ?_)))
  refine zI (v:=(.bool false)) Tryz.results66 rfl ⟨H.keep,?_⟩
  exact congrArg Value.bool (leads_no hi12 (by omega)).symm
theorem zvM:ZV Tryz.prog 128 (.agg Tryz.zeroCells128):=Tryz.zeroValue128
theorem zcM:(Value.agg Tryz.zeroCells128).cells=(vK zF).toArray:=by
  show Tryz.zeroCells128=_
  have h1:(Tryz.zeroCells128.toList.all fun v=>match v with | .bool false=>true | _=>false)=true:=by kernel_rfl
  have h2:Tryz.zeroCells128.toList.length=27404:=by kernel_rfl
  refine Array.ext' ?_
  have e1:Tryz.zeroCells128.toList=List.replicate 27404 (.bool false):=List.eq_replicate_iff.2 ⟨h2,fun v hv=>by
    have:=List.all_eq_true.1 h1 v hv
    revert this
    cases v with
    | bool b=>cases b <;>simp
    | _=>simp⟩
  have e2:vK zF=List.replicate 27404 (.bool false):=List.eq_replicate_iff.2 ⟨mapC_len _,fun v hv=>by
    obtain ⟨q,_,rfl⟩:=List.mem_map.1 hv;rfl⟩
  rw [e1,e2]
theorem deepR_ne {dl:List Depth} {lo hi:Int} (h:lo≤hi):(yU dl lo hi).map yD≠[]:=fun e=>by
  have:zV dl lo∈yU dl (⟨lo,hi⟩:Rg).lo (⟨lo,hi⟩:Rg).hi:=deepR_mem.2 ⟨lo,⟨Int.le_refl _,h⟩,rfl⟩
  rw [List.map_eq_nil_iff.1 e] at this;cases this
theorem deepR_in {g:Glass} (o:GlassOk g) {lo hi e:Int} {j:Nat} (he:(yU g.depths lo hi)[j]? = some e):0≤e∧e≤30:=by
  obtain ⟨x,_,rfl⟩:=deepR_mem (r:=⟨lo,hi⟩) |>.1 (List.mem_of_getElem? he)
  exact sinksOf_in o x
set_option maxHeartbeats 2000000 in
theorem c63 {t:Tb} {ab ad ah ai:Option Addr} {h:List Rg} {ices:List Ice} {cab cad cah cai:Nat} (w:World) (hab:Sl w 3 (t.bs.map yH) ab) (had:Sl w 2 (t.dl.map zZ) ad) (hah:Sl w 2 (h.map rgV) ah) (hai:Sl w 3 (ices.map iceV) ai) (oG:GlassOk t.glass) (oH:HistOk h) (oI:IcesOk h ices):Ret Tryz.prog 63 [(.agg #[(i t.base),(.slice ab t.bs.length cab),(.slice ad t.dl.length cad),(i t.blo),(i t.bhi)]),(.slice ah h.length cah),(.slice ai ices.length cai),(.slice none 0 0)] w fun v w'=>∃ b F,v=p b 0∧S Nm w [(b,.cells (vK F).toArray 128 (0,0))] w'∧MapR t.glass h ices F:=by
  have hhl:=oH.len
  have hba : -1000≤t.base∧t.base≤1000:=oG.base
  have hbk:0≤t.blo∧t.blo≤t.bhi∧t.bhi≤5:=oG.back
  have hil:=oI.len
  have hin : ∀ e,e∈ices→(-1000000≤e.zero∧e.zero≤1000000)∧(-1000000≤e.err∧e.err≤1000000):=fun e he=>by have:=oI.each e he;omega
  refine Ret.body (N:=107) Tryz.func63 rfl Tryz.ntmps63 rfl ?_
  have H:=S.start Nm w
  refine Wp.seq (Wp.region ?_)
  refine Ro.d rfl rfl rfl (H.box (l:=[i t.base,.slice ab t.bs.length cab,.slice ad t.dl.length cad,i t.blo,i t.bhi]) rfl (v:=(.agg #[(i t.base),(.slice ab t.bs.length cab),(.slice ad t.dl.length cad),(i t.blo),(i t.bhi)])) rfl rfl ?_)
  intro b1 w2 Hn;replace H:=Hn;clear Hn
  refine Ro.q (v:=(.pointer none)) rfl rfl (zD rfl) rfl ?_
  refine Ro.nil (nT (Wp.seq (Wp.region ?_)))
  refine Ro.d rfl rfl rfl (H.new (l:=vK zF) rfl zvM zcM ?_)
  intro bm3 w4 Hn;replace H:=Hn;clear Hn
  refine Ro.nil (nT (Wp.seq (Wp.region ?_)))
  refine Ro.q rfl rfl (yJ Tryz.underlying128 sz126 rfl rfl (by omega) rfl) rfl ?_
  refine Ro.q rfl rfl (yJ Tryz.underlying126 sz125 rfl rfl (by omega) rfl) rfl ?_
  refine Ro.q rfl rfl (yJ Tryz.underlying125 sz4 rfl rfl (by omega) rfl) rfl ?_
  refine Ro.d0 rfl rfl rfl (H.store (j:=0) (off:=(ix3 0 0 0)) (k:=1) rfl sz4 rfl (v:=(.bool true)) rfl rfl rfl rfl (mapC_ble ⟨by omega,by omega,by omega⟩) (by simp [Value.oneCell']) (mapC_set ⟨by omega,by omega,by omega⟩) ?_)
  intro w5 Hn;replace H:S Nm w [(bm3,.cells (vK (setF zF 0 0 0 true)).toArray 128 (0,0)),(b1,.cells [i t.base,.slice ab t.bs.length cab,.slice ad t.dl.length cad,i t.blo,i t.bhi].toArray 27 (0,0))] w5:=Hn;clear Hn
  refine Ro.nil (nT (Wp.seq (Wp.seq (Wp.region ?_))))
  refine Ro.q (v:=(i 0)) rfl rfl (zD rfl) rfl ?_
  refine Ro.nil (nT (Wp.block ?_))
  refine Wp.loop (fun kM ds ρ w'=>∃ d:Int,∃ F:MF,ds=[]∧(0≤d∧d≤h.length)∧kM=((h.length:Int)-d).toNat∧ρ 1=(.slice ah h.length cah)∧ρ 2=(.slice ai ices.length cai)∧ρ 3=(.slice none 0 0)∧ρ 4=(p b1 0)∧ρ 8=(.pointer none)∧ρ 9=(p bm3 0)∧ρ 10=(i d)∧S Nm w [(bm3,.cells (vK F).toArray 128 (0,0)),(b1,.cells [i t.base,.slice ab t.bs.length cab,.slice ad t.dl.length cad,i t.blo,i t.bhi].toArray 27 (0,0))] w'∧(AhI t.glass h ices d F)) (((h.length:Int)-0).toNat) ⟨0,(setF zF 0 0 0 true),rfl,(by omega),rfl,rfl,rfl,rfl,rfl,rfl,rfl,rfl,H,AhI.start⟩ ?_
  clear H
  intro kρ13 dsρ13 ρ13 w14
  rintro ⟨d,F,rfl,hb16,hk15,f6,f7,f8,f9,f10,f11,f12,H,hi17⟩
  refine Wp.seq (Wp.seq (Wp.region ?_))
  refine Ro.q (v:=(i d)) rfl rfl (zB f12) rfl ?_
  refine Ro.q (v:=(.slice ah h.length cah)) rfl rfl (zB f6) rfl ?_
  refine Ro.q rfl rfl (yG Tryz.underlying30 rfl (v:=h.length) rfl) rfl ?_
  refine Ro.q rfl rfl (yB rfl rfl) rfl ?_
  refine Ro.nil (nT ?_)
  refine Wp.cond (t:=decide (d<((h.length:Nat):Int))) rfl ?_ ?_
  · intro c18
    have c18r:=c18
    simp only [bx] at c18
    obtain ⟨r0,hr0⟩:=vQ h d (by omega) (by omega)
    have hr5:=oH.each r0 (List.mem_of_getElem? hr0)
    unfold Men.Rg.to at hr5
    have hcr:0≤(zL t.bs d).lo∧(zL t.bs d).lo≤(zL t.bs d).hi∧(zL t.bs d).hi≤3:=creepOf_to oG d
    have hdl:(yU t.dl r0.lo r0.hi).length≤501:=Nat.le_trans (deepL_len _) (by omega)
    refine Wp.skip (nT (Wp.seq (Wp.block (Wp.seq ?_))))
    obtain ⟨nB19,hB19,hL19,hW19⟩:=H.bound
    have hMo:Mono [is (.agg #[(i t.base),(.slice ab t.bs.length cab),(.slice ad t.dl.length cad),(i t.blo),(i t.bhi)]),is (i d),is (.agg #[(i ((zL t.bs d).lo)),(i ((zL t.bs d).hi))]),is (.agg #[(i t.base),(.slice ab t.bs.length cab),(.slice ad t.dl.length cad),(i t.blo),(i t.bhi)]),is (.slice ah h.length cah),is (i d),is (p (blk ah) (yP ah+d.toNat*2)),is (.agg #[(i r0.lo),(i r0.hi)]),RTyAt 3 1 ((yU t.dl r0.lo r0.hi).length) ((yU t.dl r0.lo r0.hi).map yD) nB19,fun _ _=>True]:=(Mi (Mi (Mi (Mi (Mi (Mi (Mi (Mi (MRTy (Mono.c Mono.nil))))))))))
    have hBB : ∀ (done:Nat→Bool) (ρ':Env) (w':World),(∃ bA9:Nat,(done 9=true→ρ' 11=p bA9 0)∧S Nm w ((bif done 9 then [(bA9,(.cells [i 0,i 0].toArray 25 (0,0):Obj))] else [])++[(bm3,.cells (vK F).toArray 128 (0,0)),(b1,.cells [i t.base,.slice ab t.bs.length cab,.slice ad t.dl.length cad,i t.blo,i t.bhi].toArray 27 (0,0))]) w'∧nB19≤w'.heap.size)→S Nm w [(bm3,.cells (vK F).toArray 128 (0,0)),(b1,.cells [i t.base,.slice ab t.bs.length cab,.slice ad t.dl.length cad,i t.blo,i t.bhi].toArray 27 (0,0))] w'∧nB19≤w'.heap.size:=fun done ρ' w' ⟨bA9,eA9,Hn,hzz⟩=>⟨Hn.part,hzz⟩
    refine Wp.drawnG 10 [0,0,3,0,0,0,48,112,255,0,1023,2047] [is (.agg #[(i t.base),(.slice ab t.bs.length cab),(.slice ad t.dl.length cad),(i t.blo),(i t.bhi)]),is (i d),is (.agg #[(i ((zL t.bs d).lo)),(i ((zL t.bs d).hi))]),is (.agg #[(i t.base),(.slice ab t.bs.length cab),(.slice ad t.dl.length cad),(i t.blo),(i t.bhi)]),is (.slice ah h.length cah),is (i d),is (p (blk ah) (yP ah+d.toNat*2)),is (.agg #[(i r0.lo),(i r0.hi)]),RTyAt 3 1 ((yU t.dl r0.lo r0.hi).length) ((yU t.dl r0.lo r0.hi).map yD) nB19,fun _ _=>True] (fun done ρ' w'=>∃ bA9:Nat,(done 9=true→ρ' 11=p bA9 0)∧S Nm w ((bif done 9 then [(bA9,(.cells [i 0,i 0].toArray 25 (0,0):Obj))] else [])++[(bm3,.cells (vK F).toArray 128 (0,0)),(b1,.cells [i t.base,.slice ab t.bs.length cab,.slice ad t.dl.length cad,i t.blo,i t.bhi].toArray 27 (0,0))]) w'∧nB19≤w'.heap.size) (by kernel_rfl) (by kernel_rfl) rfl (fun w' k=>⟨0,(fun h=>by cases h),H.ext k,Nat.le_trans hB19 k.size⟩) ?_ ?_
    · refine ⟨?_,?_,?_,?_,?_,?_,?_,?_,?_,?_,trivial⟩
      · exact ObG.to hBB hMo (fun _ _ _ _ _ ⟨bA9,eA9,Hn,hzz⟩ k=>⟨bA9,eA9,Hn.ext k,Nat.le_trans hzz k.size⟩) (Ob.q rfl (fun _ _ B U D=>(zJ ta27 ((U 4 rfl).trans f9) (B.1.cells 1 rfl) (j:=0) rfl (vs:=[i t.base,.slice ab t.bs.length cab,.slice ad t.dl.length cad,i t.blo,i t.bhi]) rfl rfl)) rfl rfl)
      · exact ObG.to hBB hMo (fun _ _ _ _ _ ⟨bA9,eA9,Hn,hzz⟩ k=>⟨bA9,eA9,Hn.ext k,Nat.le_trans hzz k.size⟩) (Ob.q rfl (fun _ _ B U D=>(zB ((U 10 rfl).trans f12))) rfl rfl)
      · exact ObG.to hBB hMo (fun _ _ _ _ _ ⟨bA9,eA9,Hn,hzz⟩ k=>⟨bA9,eA9,Hn.ext k,Nat.le_trans hzz k.size⟩) (Ob.mk rfl fun ρ' w' B U D=>zH rfl en64 (ce (v:=(.agg #[(i t.base),(.slice ab t.bs.length cab),(.slice ad t.dl.length cad),(i t.blo),(i t.bhi)])) (D 0 rfl) (ce (v:=(i d)) (D 1 rfl) cn)) (c64 t.base t.blo t.bhi d ab t.bs cab ad t.dl cad _ (hab.ext B.1.keep) (had.ext B.1.keep) oG.bands3) (fun u w2 k2 hu=>⟨k2,hu⟩))
      · exact ObG.to hBB hMo (fun _ _ _ _ _ ⟨bA9,eA9,Hn,hzz⟩ k=>⟨bA9,eA9,Hn.ext k,Nat.le_trans hzz k.size⟩) (Ob.q rfl (fun _ _ B U D=>(zJ ta27 ((U 4 rfl).trans f9) (B.1.cells 1 rfl) (j:=0) rfl (vs:=[i t.base,.slice ab t.bs.length cab,.slice ad t.dl.length cad,i t.blo,i t.bhi]) rfl rfl)) rfl rfl)
      · exact ObG.to hBB hMo (fun _ _ _ _ _ ⟨bA9,eA9,Hn,hzz⟩ k=>⟨bA9,eA9,Hn.ext k,Nat.le_trans hzz k.size⟩) (Ob.q rfl (fun _ _ B U D=>(zB ((U 1 rfl).trans f6))) rfl rfl)
      · exact ObG.to hBB hMo (fun _ _ _ _ _ ⟨bA9,eA9,Hn,hzz⟩ k=>⟨bA9,eA9,Hn.ext k,Nat.le_trans hzz k.size⟩) (Ob.q rfl (fun _ _ B U D=>(zB ((U 10 rfl).trans f12))) rfl rfl)
      · exact ObG.to hBB hMo (fun _ _ _ _ _ ⟨bA9,eA9,Hn,hzz⟩ k=>⟨bA9,eA9,Hn.ext k,Nat.le_trans hzz k.size⟩) (Ob.q rfl (fun _ _ B U D=>(zY ts30 (hah.ext B.1.keep) (D 4 rfl) (by first | (simp;done) | (simp;omega)) (D 5 rfl) (by omega) (zW hr0))) rfl rfl)
      · exact ObG.to hBB hMo (fun _ _ _ _ _ ⟨bA9,eA9,Hn,hzz⟩ k=>⟨bA9,eA9,Hn.ext k,Nat.le_trans hzz k.size⟩) (Ob.q rfl (fun _ _ B U D=>(zJ ta25 (D 6 rfl) ((hah.ext B.1.keep).cells (zW hr0)) (j:=0) rfl (vs:=[i r0.lo,i r0.hi]) rfl rfl)) rfl rfl)
      · exact ObG.to hBB hMo (fun _ _ _ _ _ ⟨bA9,eA9,Hn,hzz⟩ k=>⟨bA9,eA9,Hn.ext k,Nat.le_trans hzz k.size⟩) (Ob.mk rfl fun ρ' w' B U D=>zH rfl en65 (ce (v:=(.agg #[(i t.base),(.slice ab t.bs.length cab),(.slice ad t.dl.length cad),(i t.blo),(i t.bhi)])) (D 3 rfl) (ce (v:=(.agg #[(i r0.lo),(i r0.hi)])) (D 7 rfl) cn)) (c65 _ (hab.ext B.1.keep) (had.ext B.1.keep) oG.depths4 (by omega)) (fun u w2 k2 hu=>⟨k2,RTyAt.le hu B.2⟩))
      · refine ObG.sp rfl fun done ρ' w' hW U hcl hnd hwt D=>?_
        obtain ⟨bA9,eA9,Hn,hzz⟩:=hW
        simp only [hnd,cond_false,List.nil_append] at Hn
        refine Hn.newK (l:=[i 0,i 0]) rfl zv25 rfl ?_
        intro bN w2 k Hm
        refine ⟨(fun q u hq=>hMo q u _ _ k hq),trivial,bN,(fun _=>rfl),?_,Nat.le_trans hzz k.size⟩
        show S Nm w ([(bN,(.cells [i 0,i 0].toArray 25 (0,0):Obj))]++[(bm3,.cells (vK F).toArray 128 (0,0)),(b1,.cells [i t.base,.slice ab t.bs.length cab,.slice ad t.dl.length cad,i t.blo,i t.bhi].toArray 27 (0,0))]) w2
        exact Hm
    rintro ρ20 w21 ⟨b25,eA9,Hn,_⟩ U23 D24
    replace H:S Nm w [(b25,.cells [i 0,i 0].toArray 25 (0,0)),(bm3,.cells (vK F).toArray 128 (0,0)),(b1,.cells [i t.base,.slice ab t.bs.length cab,.slice ad t.dl.length cad,i t.blo,i t.bhi].toArray 27 (0,0))] w21:=Hn;clear Hn hMo hBB
    have f26:=(U23 1 rfl).trans f6
    have f27:=(U23 2 rfl).trans f7
    have f28:=(U23 3 rfl).trans f8
    have f29:=(U23 4 rfl).trans f9
    have f30:=(U23 8 rfl).trans f10
    have f31:=(U23 9 rfl).trans f11
    have f32:=(U23 10 rfl).trans f12
    have f33:ρ20 11=p b25 0:=eA9 rfl
    have f34:ρ20 31=(.agg #[(i ((zL t.bs d).lo)),(i ((zL t.bs d).hi))]):=D24 2 rfl
    obtain ⟨a_36,c_36,f35,h_36⟩:=(show RTyAt 3 1 ((yU t.dl r0.lo r0.hi).length) ((yU t.dl r0.lo r0.hi).map yD) nB19 (ρ20 37) w21 from D24 8 rfl)
    clear U23 D24
    clear eA9
    obtain ⟨br,obr,Hn,hzr⟩:=H.adoptR h_36 hW19 (deepR_ne (by omega)) (fun p hp=>by
      rcases List.mem_cons.1 hp with rfl | hp
      · exact .inr ⟨_,_,rfl,by decide⟩
      · exact .inl (hL19 p hp))
    replace H:=Hn;clear Hn
    refine Ro.d0 rfl rfl rfl (H.store (j:=1) (off:=0) (k:=2) rfl sz25 f33 (v:=(.agg #[(i ((zL t.bs d).lo)),(i ((zL t.bs d).hi))])) f34 rfl rfl rfl rfl (by simp [Value.oneCell']) (cs':=[i ((zL t.bs d).lo),i ((zL t.bs d).hi)]) rfl ?_)
    intro w37 Hn;replace H:=Hn;clear Hn
    refine Ro.q (v:=(.slice a_36 ((yU t.dl r0.lo r0.hi).length) c_36)) rfl rfl (zD f35) rfl ?_
    refine Ro.nil (nT (Wp.seq (Wp.region ?_)))
    refine Ro.q (v:=(i 0)) rfl rfl (zD rfl) rfl ?_
    refine Ro.nil (nT (Wp.block ?_))
    refine Wp.loop (fun kM ds ρ w'=>∃ rr:Int,∃ F1:MF,ds=[]∧(0≤rr∧rr≤49)∧kM=(49-rr:Int).toNat∧ρ 1=(.slice ah h.length cah)∧ρ 2=(.slice ai ices.length cai)∧ρ 3=(.slice none 0 0)∧ρ 4=(p b1 0)∧ρ 8=(.pointer none)∧ρ 9=(p bm3 0)∧ρ 10=(i d)∧ρ 11=(p b25 0)∧ρ 12=(.slice a_36 ((yU t.dl r0.lo r0.hi).length) c_36)∧ρ 13=(i rr)∧S Nm w [(br,obr),(b25,.cells [i ((zL t.bs d).lo),i ((zL t.bs d).hi)].toArray 25 (0,0)),(bm3,.cells (vK F1).toArray 128 (0,0)),(b1,.cells [i t.base,.slice ab t.bs.length cab,.slice ad t.dl.length cad,i t.blo,i t.bhi].toArray 27 (0,0))] w'∧(Up (d+1) F1 F (Ov 0 rr (aR t.glass ices d (yU t.dl r0.lo r0.hi) (zL t.bs d) F)))) ((49-0:Int).toNat) ⟨0,F,rfl,(by omega),rfl,f26,f27,f28,f29,f30,f31,f32,f33,rfl,rfl,H,(Up.start (Int.le_refl _))⟩ ?_
    clear H
    intro kρ48 dsρ48 ρ48 w49
    rintro ⟨rr,F1,rfl,hb51,hk50,f38,f39,f40,f41,f42,f43,f44,f45,f46,f47,H,hi52⟩
    refine Wp.seq (Wp.seq (Wp.region ?_))
    refine Ro.q (v:=(i rr)) rfl rfl (zB f47) rfl ?_
    refine Ro.q rfl rfl (yB rfl rfl) rfl ?_
    refine Ro.nil (nT ?_)
    refine Wp.cond (t:=decide (rr<49)) rfl ?_ ?_
    · intro c53
      have c53r:=c53
      simp only [bx] at c53
      refine Wp.skip (nT (Wp.seq (Wp.block (Wp.seq (Wp.region ?_)))))
      refine Ro.q (v:=(i 0)) rfl rfl (zD rfl) rfl ?_
      refine Ro.nil (nT (Wp.block ?_))
      refine Wp.loop (fun kM ds ρ w'=>∃ ss:Int,∃ F2:MF,ds=[]∧(0≤ss∧ss≤31)∧kM=(31-ss:Int).toNat∧ρ 1=(.slice ah h.length cah)∧ρ 2=(.slice ai ices.length cai)∧ρ 3=(.slice none 0 0)∧ρ 4=(p b1 0)∧ρ 8=(.pointer none)∧ρ 9=(p bm3 0)∧ρ 10=(i d)∧ρ 11=(p b25 0)∧ρ 12=(.slice a_36 ((yU t.dl r0.lo r0.hi).length) c_36)∧ρ 13=(i rr)∧ρ 14=(i ss)∧S Nm w [(br,obr),(b25,.cells [i ((zL t.bs d).lo),i ((zL t.bs d).hi)].toArray 25 (0,0)),(bm3,.cells (vK F2).toArray 128 (0,0)),(b1,.cells [i t.base,.slice ab t.bs.length cab,.slice ad t.dl.length cad,i t.blo,i t.bhi].toArray 27 (0,0))] w'∧(Up (d+1) F2 F1 (Ov 0 ss (aS t.glass ices d (yU t.dl r0.lo r0.hi) (zL t.bs d) F rr)))) ((31-0:Int).toNat) ⟨0,F1,rfl,(by omega),rfl,f38,f39,f40,f41,f42,f43,f44,f45,f46,f47,rfl,H,(Up.start (Int.le_refl _))⟩ ?_
      clear H
      intro kρ65 dsρ65 ρ65 w66
      rintro ⟨ss,F2,rfl,hb68,hk67,f54,f55,f56,f57,f58,f59,f60,f61,f62,f63,f64,H,hi69⟩
      refine Wp.seq (Wp.seq (Wp.region ?_))
      refine Ro.q (v:=(i ss)) rfl rfl (zB f64) rfl ?_
      refine Ro.q rfl rfl (yB rfl rfl) rfl ?_
      refine Ro.nil (nT ?_)
      refine Wp.cond (t:=decide (ss<31)) rfl ?_ ?_
      · intro c70
        have c70r:=c70
        simp only [bx] at c70
        refine Wp.skip (nT (Wp.seq (Wp.block (Wp.seq (Wp.region ?_)))))
        refine Ro.q (v:=(p b25 0)) rfl rfl (zA uI f61 rfl) rfl ?_
        refine Ro.q rfl rfl (zE zM rfl (H.cells 1 rfl) (j:=0) rfl rfl) rfl ?_
        refine Ro.q (v:=(i ((zL t.bs d).lo))) rfl rfl (zD rfl) rfl ?_
        refine Ro.nil (nT (Wp.block ?_))
        refine Wp.loop (fun kM ds ρ w'=>∃ c:Int,∃ F3:MF,ds=[]∧((zL t.bs d).lo≤c∧c≤(zL t.bs d).hi+1)∧kM=((zL t.bs d).hi+1-c:Int).toNat∧ρ 1=(.slice ah h.length cah)∧ρ 2=(.slice ai ices.length cai)∧ρ 3=(.slice none 0 0)∧ρ 4=(p b1 0)∧ρ 8=(.pointer none)∧ρ 9=(p bm3 0)∧ρ 10=(i d)∧ρ 11=(p b25 0)∧ρ 12=(.slice a_36 ((yU t.dl r0.lo r0.hi).length) c_36)∧ρ 13=(i rr)∧ρ 14=(i ss)∧ρ 15=(i c)∧S Nm w [(br,obr),(b25,.cells [i ((zL t.bs d).lo),i ((zL t.bs d).hi)].toArray 25 (0,0)),(bm3,.cells (vK F3).toArray 128 (0,0)),(b1,.cells [i t.base,.slice ab t.bs.length cab,.slice ad t.dl.length cad,i t.blo,i t.bhi].toArray 27 (0,0))] w'∧(Up (d+1) F3 F2 (Ov (zL t.bs d).lo c (aC t.glass ices d (yU t.dl r0.lo r0.hi) rr ss))∧(c=(zL t.bs d).lo∨F d rr ss=true))) (((zL t.bs d).hi+1-((zL t.bs d).lo):Int).toNat) ⟨((zL t.bs d).lo),F2,rfl,(by omega),rfl,f54,f55,f56,f57,f58,f59,f60,f61,f62,f63,f64,rfl,H,⟨Up.start (Int.le_refl _),.inl rfl⟩⟩ ?_
        clear H
        intro kρ83 dsρ83 ρ83 w84
        rintro ⟨c,F3,rfl,hb86,hk85,f71,f72,f73,f74,f75,f76,f77,f78,f79,f80,f81,f82,H,hi87⟩
        have hoff:F3 d rr ss=F d rr ss:=(hi87.1.off (by omega) _ _).trans ((hi69.off (by omega) _ _).trans (hi52.off (by omega) _ _))
        refine Wp.seq (Wp.seq ?_)
        let qq88:Bool:=decide (c≤((zL t.bs d).hi))
        let qq89:Bool:=(qq88 && (F3 d rr ss))
        refine Wp.factsS 13 [is (i c),is (p b25 1),is (i ((zL t.bs d).hi)),is (.bool qq88),is (.bool qq88),gdv (True∧qq88=true) (i d),gdv (True∧qq88=true) (i rr),gdv (True∧qq88=true) (i ss),gdv (True∧qq88=true) (p bm3 (0+d.toNat*1612)),gdv (True∧qq88=true) (p bm3 (0+d.toNat*1612+rr.toNat*31)),gdv (True∧qq88=true) (p bm3 (ix3 d rr ss)),gdv (True∧qq88=true) (.bool (F3 d rr ss)),is (.bool qq89)] (by kernel_rfl) (Mi (Mi (Mi (Mi (Mi (Mg (Mg (Mg (Mg (Mg (Mg (Mg (Mi Mono.nil))))))))))))) (fun w' k=>H.ext k) ?_ ?_
        · refine ⟨?_,?_,?_,?_,?_,?_,?_,?_,?_,?_,?_,?_,?_,trivial⟩
          · exact Ob.q rfl (fun _ _ B U D=>(zB ((U 15 rfl).trans f82))) rfl rfl
          · exact Ob.q rfl (fun _ _ B U D=>(zA uB ((U 11 rfl).trans f78) rfl)) rfl rfl
          · exact Ob.q rfl (fun _ _ B U D=>(zE zM (D 1 rfl) (B.cells 1 rfl) (j:=1) rfl rfl)) rfl rfl
          · exact Ob.q rfl (fun _ _ B U D=>(vD (D 0 rfl) (D 2 rfl))) rfl rfl
          · exact Ob.q rfl (fun _ _ B U D=>(zB (D 3 rfl))) rfl rfl
          · exact Ob.g0 rfl rfl (fun _ _ _ D=>D 4 rfl) rfl (fun _ _ B U D hC hg=>(zB ((U 10 rfl).trans f77))) rfl
          · exact Ob.g0 rfl rfl (fun _ _ _ D=>D 4 rfl) rfl (fun _ _ B U D hC hg=>(zB ((U 13 rfl).trans f80))) rfl
          · exact Ob.g0 rfl rfl (fun _ _ _ D=>D 4 rfl) rfl (fun _ _ B U D hC hg=>(zB ((U 14 rfl).trans f81))) rfl
          · exact Ob.g0 rfl rfl (fun _ _ _ D=>D 4 rfl) rfl (fun _ _ B U D hC hg=>(yJ Tryz.underlying128 sz126 ((U 9 rfl).trans f76) (gdy (D 5 rfl) ⟨hC,hg⟩) (by omega) rfl)) rfl
          · exact Ob.g0 rfl rfl (fun _ _ _ D=>D 4 rfl) rfl (fun _ _ B U D hC hg=>(yJ Tryz.underlying126 sz125 (gdy (D 8 rfl) ⟨hC,hg⟩) (gdy (D 6 rfl) ⟨hC,hg⟩) (by omega) rfl)) rfl
          · exact Ob.g0 rfl rfl (fun _ _ _ D=>D 4 rfl) rfl (fun _ _ B U D hC hg=>(yJ Tryz.underlying125 sz4 (gdy (D 9 rfl) ⟨hC,hg⟩) (gdy (D 7 rfl) ⟨hC,hg⟩) (by omega) rfl)) rfl
          · exact Ob.g0 rfl rfl (fun _ _ _ D=>D 4 rfl) rfl (fun _ _ B U D hC hg=>(zE t1_4 (gdy (D 10 rfl) ⟨hC,hg⟩) (B.cells 2 rfl) (j:=(ix3 d rr ss)) (Nat.zero_add _).symm (mapC_at ⟨by omega,by omega,by omega⟩))) rfl
          · exact Ob.q rfl (fun _ _ B U D=>(zQ (v:=(.bool qq89)) (D 4 rfl) (fun eP=>(gdy (D 11 rfl) ⟨trivial,eP⟩).trans (yF eP)) (fun eP=>yE eP))) rfl rfl
        intro ρ90 w91 k92 U93 D94;replace H:=H.ext k92
        have f95:=(U93 1 rfl).trans f71
        have f96:=(U93 2 rfl).trans f72
        have f97:=(U93 3 rfl).trans f73
        have f98:=(U93 4 rfl).trans f74
        have f99:=(U93 8 rfl).trans f75
        have f100:=(U93 9 rfl).trans f76
        have f101:=(U93 10 rfl).trans f77
        have f102:=(U93 11 rfl).trans f78
        have f103:=(U93 12 rfl).trans f79
        have f104:=(U93 13 rfl).trans f80
        have f105:=(U93 14 rfl).trans f81
        have f106:=(U93 15 rfl).trans f82
        have f107:ρ90 60=(.bool qq89):=D94 12 rfl
        clear U93 D94 k92
        refine Ro.nil (nT ?_)
        refine Wp.cond (t:=qq89) f107 ?_ ?_
        · intro c108
          have c108r:(((decide (c≤((zL t.bs d).hi))) && (F3 d rr ss)))=true:=c108
          replace c108:=c108r
          simp only [bx] at c108
          refine Wp.skip (nT (Wp.seq (Wp.block (Wp.seq (Wp.region ?_)))))
          refine Ro.q (v:=(p b1 3)) rfl rfl (zA fo27_3 f98 rfl) rfl ?_
          refine Ro.q (v:=(p b1 3)) rfl rfl (zA uI rfl rfl) rfl ?_
          refine Ro.q rfl rfl (zE zM rfl (H.cells 3 rfl) (j:=3) rfl rfl) rfl ?_
          refine Ro.q (v:=(i t.blo)) rfl rfl (zD rfl) rfl ?_
          refine Ro.nil (nT (Wp.block ?_))
          refine Wp.loop (fun kM ds ρ w'=>∃ b:Int,∃ F4:MF,ds=[]∧(t.blo≤b∧b≤t.bhi+1)∧kM=(t.bhi+1-b:Int).toNat∧ρ 1=(.slice ah h.length cah)∧ρ 2=(.slice ai ices.length cai)∧ρ 3=(.slice none 0 0)∧ρ 4=(p b1 0)∧ρ 8=(.pointer none)∧ρ 9=(p bm3 0)∧ρ 10=(i d)∧ρ 11=(p b25 0)∧ρ 12=(.slice a_36 ((yU t.dl r0.lo r0.hi).length) c_36)∧ρ 13=(i rr)∧ρ 14=(i ss)∧ρ 15=(i c)∧ρ 16=(i b)∧S Nm w [(br,obr),(b25,.cells [i ((zL t.bs d).lo),i ((zL t.bs d).hi)].toArray 25 (0,0)),(bm3,.cells (vK F4).toArray 128 (0,0)),(b1,.cells [i t.base,.slice ab t.bs.length cab,.slice ad t.dl.length cad,i t.blo,i t.bhi].toArray 27 (0,0))] w'∧(Up (d+1) F4 F3 (Ov t.blo b (aB t.glass ices d (yU t.dl r0.lo r0.hi) rr ss c)))) ((t.bhi+1-t.blo:Int).toNat) ⟨t.blo,F3,rfl,(by omega),rfl,f95,f96,f97,f98,f99,f100,f101,f102,f103,f104,f105,f106,rfl,H,(Up.start (Int.le_refl _))⟩ ?_
          clear H
          intro kρ122 dsρ122 ρ122 w123
          rintro ⟨b,F4,rfl,hb125,hk124,f109,f110,f111,f112,f113,f114,f115,f116,f117,f118,f119,f120,f121,H,hi126⟩
          refine Wp.seq (Wp.seq (Wp.region ?_))
          refine Ro.q (v:=(i b)) rfl rfl (zB f121) rfl ?_
          refine Ro.q (v:=(p b1 3)) rfl rfl (zA fo27_3 f112 rfl) rfl ?_
          refine Ro.q (v:=(p b1 4)) rfl rfl (zA uB rfl rfl) rfl ?_
          refine Ro.q rfl rfl (zE zM rfl (H.cells 3 rfl) (j:=4) rfl rfl) rfl ?_
          refine Ro.q rfl rfl (vD rfl rfl) rfl ?_
          refine Ro.nil (nT ?_)
          refine Wp.cond (t:=decide (b≤t.bhi)) rfl ?_ ?_
          · intro c127
            have c127r:=c127
            simp only [bx] at c127
            refine Wp.skip (nT (Wp.seq (Wp.block (Wp.seq (Wp.region ?_)))))
            refine Ro.q (v:=(i 0)) rfl rfl (zD rfl) rfl ?_
            refine Ro.nil (nT (Wp.block ?_))
            refine Wp.loop (fun kM ds ρ w'=>∃ m:Int,∃ F5:MF,ds=[]∧(0≤m∧m≤(yU t.dl r0.lo r0.hi).length)∧kM=(((yU t.dl r0.lo r0.hi).length:Int)-m).toNat∧ρ 1=(.slice ah h.length cah)∧ρ 2=(.slice ai ices.length cai)∧ρ 3=(.slice none 0 0)∧ρ 4=(p b1 0)∧ρ 8=(.pointer none)∧ρ 9=(p bm3 0)∧ρ 10=(i d)∧ρ 11=(p b25 0)∧ρ 12=(.slice a_36 ((yU t.dl r0.lo r0.hi).length) c_36)∧ρ 13=(i rr)∧ρ 14=(i ss)∧ρ 15=(i c)∧ρ 16=(i b)∧ρ 17=(i m)∧S Nm w [(br,obr),(b25,.cells [i ((zL t.bs d).lo),i ((zL t.bs d).hi)].toArray 25 (0,0)),(bm3,.cells (vK F5).toArray 128 (0,0)),(b1,.cells [i t.base,.slice ab t.bs.length cab,.slice ad t.dl.length cad,i t.blo,i t.bhi].toArray 27 (0,0))] w'∧(Up (d+1) F5 F4 (Ov 0 m (aK t.glass ices d (yU t.dl r0.lo r0.hi) rr ss c b)))) ((((yU t.dl r0.lo r0.hi).length:Int)-0).toNat) ⟨0,F4,rfl,(by omega),rfl,f109,f110,f111,f112,f113,f114,f115,f116,f117,f118,f119,f120,f121,rfl,H,(Up.start (Int.le_refl _))⟩ ?_
            clear H
            intro kρ142 dsρ142 ρ142 w143
            rintro ⟨m,F5,rfl,hb145,hk144,f128,f129,f130,f131,f132,f133,f134,f135,f136,f137,f138,f139,f140,f141,H,hi146⟩
            refine Wp.seq (Wp.seq (Wp.region ?_))
            refine Ro.q (v:=(i m)) rfl rfl (zB f141) rfl ?_
            refine Ro.q (v:=(.slice a_36 ((yU t.dl r0.lo r0.hi).length) c_36)) rfl rfl (zB f136) rfl ?_
            refine Ro.q rfl rfl (yG Tryz.underlying72 rfl (v:=(yU t.dl r0.lo r0.hi).length) rfl) rfl ?_
            refine Ro.q rfl rfl (yB rfl rfl) rfl ?_
            refine Ro.nil (nT ?_)
            refine Wp.cond (t:=decide (m<(((yU t.dl r0.lo r0.hi).length:Nat):Int))) rfl ?_ ?_
            · intro c147
              have c147r:=c147
              simp only [bx] at c147
              obtain ⟨e,he⟩:=vQ (yU t.dl r0.lo r0.hi) m (by omega) (by omega)
              have he30:=deepR_in oG he
              refine Wp.skip (nT (Wp.seq (Wp.block (Wp.seq ?_))))
              refine Wp.drawnS 12 [0,0,3,0,0,24,0,0,192,448,1016,7,4095] [is (i rr),is (i c),is (i (rr+c)),is (i ss),is (i b),is (i (ss-b)),is (.slice a_36 ((yU t.dl r0.lo r0.hi).length) c_36),is (i m),is (p (blk a_36) (yP a_36+m.toNat*1)),is (i e),is (i (max (max (ss-b) 0) e)),is (i (rr+c))] (by kernel_rfl) (by kernel_rfl) rfl (Mi (Mi (Mi (Mi (Mi (Mi (Mi (Mi (Mi (Mi (Mi (Mi Mono.nil)))))))))))) (fun w' k=>H.ext k) ?_ ?_
              · refine ⟨?_,?_,?_,?_,?_,?_,?_,?_,?_,?_,?_,?_,trivial⟩
                · exact Ob.q rfl (fun _ _ B U D=>(zB ((U 13 rfl).trans f137))) rfl rfl
                · exact Ob.q rfl (fun _ _ B U D=>(zB ((U 15 rfl).trans f139))) rfl rfl
                · exact Ob.q rfl (fun _ _ B U D=>(zU (D 0 rfl) (D 1 rfl) (by constructor <;>omega))) rfl rfl
                · exact Ob.q rfl (fun _ _ B U D=>(zB ((U 14 rfl).trans f138))) rfl rfl
                · exact Ob.q rfl (fun _ _ B U D=>(zB ((U 16 rfl).trans f140))) rfl rfl
                · exact Ob.q rfl (fun _ _ B U D=>(yT (D 3 rfl) (D 4 rfl) (by constructor <;>omega))) rfl rfl
                · exact Ob.q rfl (fun _ _ B U D=>(zB ((U 12 rfl).trans f136))) rfl rfl
                · exact Ob.q rfl (fun _ _ B U D=>(zB ((U 17 rfl).trans f141))) rfl rfl
                · exact Ob.q rfl (fun _ _ B U D=>(zY ts72 ((hzr _ (B.at 0 rfl))) (D 6 rfl) (by first | (simp;done) | (simp;omega)) (D 7 rfl) (by omega) (zW he))) rfl rfl
                · exact Ob.q rfl (fun _ _ B U D=>(zE zM (D 8 rfl) (((hzr _ (B.at 0 rfl))).cells (zW he)) (j:=0) rfl rfl)) rfl rfl
                · exact Ob.q rfl (fun _ _ B U D=>(r_max3 (D 5 rfl) rfl (D 9 rfl))) rfl rfl
                · exact Ob.q rfl (fun _ _ B U D=>(zD (D 2 rfl))) rfl rfl
              intro ρ148 w149 k150 U151 D152;replace H:=H.ext k150
              have f153:=(U151 1 rfl).trans f128
              have f154:=(U151 2 rfl).trans f129
              have f155:=(U151 3 rfl).trans f130
              have f156:=(U151 4 rfl).trans f131
              have f157:=(U151 8 rfl).trans f132
              have f158:=(U151 9 rfl).trans f133
              have f159:=(U151 10 rfl).trans f134
              have f160:=(U151 11 rfl).trans f135
              have f161:=(U151 12 rfl).trans f136
              have f162:=(U151 13 rfl).trans f137
              have f163:=(U151 14 rfl).trans f138
              have f164:=(U151 15 rfl).trans f139
              have f165:=(U151 16 rfl).trans f140
              have f166:=(U151 17 rfl).trans f141
              have f167:ρ148 18=(i (rr+c)):=D152 11 rfl
              have f168:ρ148 89=(i (max (max (ss-b) 0) e)):=D152 10 rfl
              clear U151 D152 k150
              refine Ro.q (v:=(i (max (max (ss-b) 0) e))) rfl rfl (zD f168) rfl ?_
              refine Ro.nil (nT (Wp.seq (Wp.region ?_)))
              refine Ro.q (v:=(.slice ai ices.length cai)) rfl rfl (zB f154) rfl ?_
              refine Ro.q (v:=(.slice none 0 0)) rfl rfl (zB f155) rfl ?_
              refine Ro.q (v:=(i d)) rfl rfl (zB f159) rfl ?_
              refine Ro.q (v:=(p b1 0)) rfl rfl (zA fo27_0 f156 rfl) rfl ?_
              refine Ro.q rfl rfl (zE zM rfl (H.cells 3 rfl) (j:=0) rfl rfl) rfl ?_
              refine Ro.q (v:=(i (rr+c))) rfl rfl (zB f167) rfl ?_
              refine Ro.q rfl rfl (zU rfl rfl (by constructor <;>omega)) rfl ?_
              refine Ro.q (v:=(i (max (max (ss-b) 0) e))) rfl rfl (zB rfl) rfl ?_
              refine Ro.q rfl rfl (yT rfl rfl (by constructor <;>omega)) rfl ?_
              refine Ro.d rfl rfl rfl (zH rfl en93 (ce (v:=(.slice ai ices.length cai)) rfl (ce (v:=(.slice none 0 0)) rfl (ce (v:=(i d)) rfl (ce (v:=(i ((t.base+(rr+c))-(max (max (ss-b) 0) e)))) rfl cn)))) (c93 d ((t.base+(rr+c))-(max (max (ss-b) 0) e)) ai ices cai _ (hai.ext H.keep) hil (by omega) hin) ?_)
              intro u w169 k170 hu;subst hu;replace H:=H.ext k170
              clear k170
              refine Ro.nil (nT ?_)
              refine Wp.cond (t:=fitsB ices d ((t.base+(rr+c))-(max (max (ss-b) 0) e))) rfl ?_ ?_
              · intro c171
                have c171r:=c171
                refine Wp.region ?_
                refine Ro.q (v:=(i d)) rfl rfl (zB f159) rfl ?_
                refine Ro.q rfl rfl (zU rfl rfl (by constructor <;>omega)) rfl ?_
                refine Ro.q (v:=(i (rr+c))) rfl rfl (zB f167) rfl ?_
                refine Ro.q (v:=(i (max (max (ss-b) 0) e))) rfl rfl (zB rfl) rfl ?_
                refine Ro.q rfl rfl (yJ Tryz.underlying128 sz126 f158 rfl (by omega) rfl) rfl ?_
                refine Ro.q rfl rfl (yJ Tryz.underlying126 sz125 rfl rfl (by omega) rfl) rfl ?_
                refine Ro.q rfl rfl (yJ Tryz.underlying125 sz4 rfl rfl (by omega) rfl) rfl ?_
                refine Ro.d0 rfl rfl rfl (H.store (j:=2) (off:=(ix3 (d+1) (rr+c) (max (max (ss-b) 0) e))) (k:=1) rfl sz4 rfl (v:=(.bool true)) rfl rfl rfl rfl (mapC_ble ⟨by omega,by omega,by omega⟩) (by simp [Value.oneCell']) (mapC_set ⟨by omega,by omega,by omega⟩) ?_)
                intro w172 Hn;replace H:S Nm w [(br,obr),(b25,.cells [i ((zL t.bs d).lo),i ((zL t.bs d).hi)].toArray 25 (0,0)),(bm3,.cells (vK (setF F5 (d+1) (rr+c) (max (max (ss-b) 0) e) true)).toArray 128 (0,0)),(b1,.cells [i t.base,.slice ab t.bs.length cab,.slice ad t.dl.length cad,i t.blo,i t.bhi].toArray 27 (0,0))] w172:=Hn;clear Hn
                refine Ro.nil (nB (nT (Wp.region ?_)))
                refine Ro.q (v:=(i m)) rfl rfl (zB f166) rfl ?_
                refine Ro.q rfl rfl (zU rfl rfl (by constructor <;>omega)) rfl ?_
                refine Ro.q (v:=(i (m+1))) rfl rfl (zD rfl) rfl ?_
                refine Ro.nil (nT ?_)
                exact ⟨(((yU t.dl r0.lo r0.hi).length:Int)-(m+1)).toNat,by omega,(m+1),(setF F5 (d+1) (rr+c) (max (max (ss-b) 0) e) true),rfl,(by omega),rfl,f153,f154,f155,f156,f157,f158,f159,f160,f161,f162,f163,f164,f165,rfl,H,(Up.step (up_fit he c171) hi146 (by omega))⟩
              intro c171
              have c171r:=c171
              refine Wp.skip (nB (nT (Wp.region ?_)))
              refine Ro.q (v:=(i m)) rfl rfl (zB f166) rfl ?_
              refine Ro.q rfl rfl (zU rfl rfl (by constructor <;>omega)) rfl ?_
              refine Ro.q (v:=(i (m+1))) rfl rfl (zD rfl) rfl ?_
              refine Ro.nil (nT ?_)
              exact ⟨(((yU t.dl r0.lo r0.hi).length:Int)-(m+1)).toNat,by omega,(m+1),F5,rfl,(by omega),rfl,f153,f154,f155,f156,f157,f158,f159,f160,f161,f162,f163,f164,f165,rfl,H,(Up.step (up_nofit he c171) hi146 (by omega))⟩
            intro c147
            have c147r:=c147
            simp only [bx] at c147
            refine Wp.exit (xT (xT (xB (nB (nT (Wp.region ?_))))))
            refine Ro.q (v:=(i b)) rfl rfl (zB f140) rfl ?_
            refine Ro.q rfl rfl (zU rfl rfl (by constructor <;>omega)) rfl ?_
            refine Ro.q (v:=(i (b+1))) rfl rfl (zD rfl) rfl ?_
            refine Ro.nil (nT ?_)
            exact ⟨(t.bhi+1-(b+1):Int).toNat,by omega,(b+1),F5,rfl,(by omega),rfl,f128,f129,f130,f131,f132,f133,f134,f135,f136,f137,f138,f139,rfl,H,(Up.step (Up.fin hi146 (by omega)) hi126 (by omega))⟩
          intro c127
          have c127r:=c127
          simp only [bx] at c127
          refine Wp.exit (xT (xT (xB (nB (nT (Wp.region ?_))))))
          refine Ro.q (v:=(i c)) rfl rfl (zB f120) rfl ?_
          refine Ro.q rfl rfl (zU rfl rfl (by constructor <;>omega)) rfl ?_
          refine Ro.q (v:=(i (c+1))) rfl rfl (zD rfl) rfl ?_
          refine Ro.nil (nT ?_)
          exact ⟨((zL t.bs d).hi+1-(c+1):Int).toNat,by omega,(c+1),F4,rfl,(by omega),rfl,f109,f110,f111,f112,f113,f114,f115,f116,f117,f118,f119,rfl,H,⟨Up.step (Up.fin hi126 (show b=t.bhi+1 by omega)) hi87.1 (by omega),.inr (hoff.symm.trans c108.2)⟩⟩
        intro c108
        have c108r:(((decide (c≤((zL t.bs d).hi))) && (F3 d rr ss)))=false:=c108
        replace c108:=c108r
        simp only [bx] at c108
        refine Wp.exit (xT (xT (xB (nB (nT (Wp.region ?_))))))
        refine Ro.q (v:=(i ss)) rfl rfl (zB f105) rfl ?_
        refine Ro.q rfl rfl (zU rfl rfl (by constructor <;>omega)) rfl ?_
        refine Ro.q (v:=(i (ss+1))) rfl rfl (zD rfl) rfl ?_
        refine Ro.nil (nT ?_)
        exact ⟨(31-(ss+1):Int).toNat,by omega,(ss+1),F3,rfl,(by omega),rfl,f95,f96,f97,f98,f99,f100,f101,f102,f103,f104,rfl,H,(Up.step (up_creep (b:=F d rr ss) hi87.1 (by omega) hi87.2 (fun hh=>by have h1:=hh.1;have h2:=hh.2;rcases c108 with h | h;omega;(rw [hoff,h2] at h;cases h))) hi69 (by omega))⟩
      intro c70
      have c70r:=c70
      simp only [bx] at c70
      refine Wp.exit (xT (xT (xB (nB (nT (Wp.region ?_))))))
      refine Ro.q (v:=(i rr)) rfl rfl (zB f63) rfl ?_
      refine Ro.q rfl rfl (zU rfl rfl (by constructor <;>omega)) rfl ?_
      refine Ro.q (v:=(i (rr+1))) rfl rfl (zD rfl) rfl ?_
      refine Ro.nil (nT ?_)
      exact ⟨(49-(rr+1):Int).toNat,by omega,(rr+1),F2,rfl,(by omega),rfl,f54,f55,f56,f57,f58,f59,f60,f61,f62,rfl,H,(Up.step (Up.fin hi69 (by omega)) hi52 (by omega))⟩
    intro c53
    have c53r:=c53
    simp only [bx] at c53
    refine Wp.exit (xT (xT (xB (nB (nT (Wp.region ?_))))))
    refine Ro.q (v:=(i d)) rfl rfl (zB f44) rfl ?_
    refine Ro.q rfl rfl (zU rfl rfl (by constructor <;>omega)) rfl ?_
    refine Ro.q (v:=(i (d+1))) rfl rfl (zD rfl) rfl ?_
    refine Ro.nil (nT ?_)
    exact ⟨((h.length:Int)-(d+1)).toNat,by omega,(d+1),F1,rfl,(by omega),rfl,f38,f39,f40,f41,f42,f43,rfl,(H.drop 2),(AhI.day oG hi17 (by omega) (by omega) hr0 (Up.fin hi52 (by omega)))⟩
  intro c18
  have c18r:=c18
  simp only [bx] at c18
  refine Wp.exit (xT (xT (xB (nT (Wp.seq (Wp.region ?_))))))
  refine Ro.q (v:=(p bm3 0)) rfl rfl (zD f11) rfl ?_
  refine Ro.nil (nT (Wp.ret (zN ?_)))
  refine zI (v:=(p bm3 0)) Tryz.results63 rfl ⟨H.keep,?_⟩
  exact ⟨_,_,rfl,H.one 0 rfl,AhI.done hi17 (by omega)⟩
end Go.Proofs.YthfnjppieihcfaaGreat
namespace Go.Proofs.YthfnjppieihcfaaGreat
open Go.RowKit Go.Proofs Go.Mw
theorem en63:Go.Proofs.Enters Tryz.prog 63:=Go.Proofs.enters_of Tryz.func63 (by kernel_rfl) rfl
open Men
theorem agr_of {t:Tb} {h:List Rg} {ices:List Ice} {F:MF} {r s:Int} (hM:MapR t.glass h ices F) (hi:In3 ((h.length:Nat):Int) r s) (hF:F ((h.length:Nat):Int) r s=true):agrB t.glass h ices=true:=by
  have:=(hM _ r s hi (Int.le_refl _)).1 hF
  exact agrB_true.2 ⟨(r,s),this⟩
theorem agr_not {t:Tb} (o:GlassOk t.glass) {h:List Rg} (hl:h.length≤16) {ices:List Ice} {F:MF} (hM:MapR t.glass h ices F) (hno : ∀ r s,0≤r→r<52→0≤s→s<31→F ((h.length:Nat):Int) r s=false):agrB t.glass h ices=false:=by
  refine agrB_false.2 ?_
  rintro ⟨⟨r,s⟩,hR⟩
  have hb:=R.bounds o hR
  simp only at hb
  have:=(hM ((h.length:Nat):Int) r s ⟨by omega,by omega,by omega⟩ (Int.le_refl _)).2 hR
  rw [hno r s (by omega) (by omega) (by omega) (by omega)] at this
  cases this
theorem c62 {t:Tb} {ab ad ah ai:Option Addr} {h:List Rg} {ices:List Ice} {cab cad cah cai:Nat} (w:World) (hab:Sl w 3 (t.bs.map yH) ab) (had:Sl w 2 (t.dl.map zZ) ad) (hah:Sl w 2 (h.map rgV) ah) (hai:Sl w 3 (ices.map iceV) ai) (oG:GlassOk t.glass) (oH:HistOk h) (oI:IcesOk h ices):Rv Tryz.prog 62 [(.agg #[(i t.base),(.slice ab t.bs.length cab),(.slice ad t.dl.length cad),(i t.blo),(i t.bhi)]),(.slice ah h.length cah),(.slice ai ices.length cai),(.slice none 0 0)] w (.bool (agrB t.glass h ices)):=by
  have hhl:=oH.len
  refine Ret.body (N:=35) Tryz.func62 rfl Tryz.ntmps62 rfl ?_
  have H:=S.start Nm w
  refine Wp.seq (Wp.region ?_)
  refine Ro.d rfl rfl rfl (H.box (l:=[i t.base,.slice ab t.bs.length cab,.slice ad t.dl.length cad,i t.blo,i t.bhi]) rfl (v:=(.agg #[(i t.base),(.slice ab t.bs.length cab),(.slice ad t.dl.length cad),(i t.blo),(i t.bhi)])) rfl rfl ?_)
  intro b1 w2 Hn;replace H:=Hn;clear Hn
  refine Ro.q (v:=(.bool false)) rfl rfl (zD rfl) rfl ?_
  refine Ro.nil (nT (Wp.seq (Wp.region ?_)))
  refine Ro.q rfl rfl (zJ ta27 rfl (H.cells 0 rfl) (j:=0) rfl (vs:=[i t.base,.slice ab t.bs.length cab,.slice ad t.dl.length cad,i t.blo,i t.bhi]) rfl rfl) rfl ?_
  refine Ro.q (v:=(.slice ah h.length cah)) rfl rfl (zB rfl) rfl ?_
  refine Ro.q (v:=(.slice ai ices.length cai)) rfl rfl (zB rfl) rfl ?_
  refine Ro.q (v:=(.slice none 0 0)) rfl rfl (zB rfl) rfl ?_
  refine Ro.d rfl rfl rfl (zH rfl en63 (ce (v:=(.agg #[(i t.base),(.slice ab t.bs.length cab),(.slice ad t.dl.length cad),(i t.blo),(i t.bhi)])) rfl (ce (v:=(.slice ah h.length cah)) rfl (ce (v:=(.slice ai ices.length cai)) rfl (ce (v:=(.slice none 0 0)) rfl cn)))) (c63 _ (hab.ext H.keep) (had.ext H.keep) (hah.ext H.keep) (hai.ext H.keep) oG oH oI) ?_)
  have Hc5:=H
  rintro u w3 k4 ⟨bm,F,rfl,hS,hM⟩
  replace H:=H.ext k4
  replace H:S Nm w [(bm,.cells (vK F).toArray 128 (0,0)),(b1,.cells [i t.base,.slice ab t.bs.length cab,.slice ad t.dl.length cad,i t.blo,i t.bhi].toArray 27 (0,0))] w3:=Hc5.join hS
  refine Ro.q (v:=(p bm 0)) rfl rfl (zD rfl) rfl ?_
  refine Ro.nil (nT (Wp.seq (Wp.seq (Wp.region ?_))))
  refine Ro.q (v:=(i 0)) rfl rfl (zD rfl) rfl ?_
  refine Ro.nil (nT (Wp.block ?_))
  refine Wp.loop (fun kM ds ρ w'=>∃ rr:Int,ds=[]∧(0≤rr∧rr≤52)∧kM=(52-rr:Int).toNat∧ρ 1=(.slice ah h.length cah)∧ρ 9=(p bm 0)∧ρ 10=(i rr)∧S Nm w [(bm,.cells (vK F).toArray 128 (0,0)),(b1,.cells [i t.base,.slice ab t.bs.length cab,.slice ad t.dl.length cad,i t.blo,i t.bhi].toArray 27 (0,0))] w'∧(∀ r s,0≤r→r<rr→0≤s→s<31→F ((h.length:Nat):Int) r s=false)) ((52-0:Int).toNat) ⟨0,rfl,(by omega),rfl,rfl,rfl,rfl,H,(fun r s h1 h2=>by omega)⟩ ?_
  clear H
  intro kρ9 dsρ9 ρ9 w10
  rintro ⟨rr,rfl,hb12,hk11,f6,f7,f8,H,hi13⟩
  refine Wp.seq (Wp.seq (Wp.region ?_))
  refine Ro.q (v:=(i rr)) rfl rfl (zB f8) rfl ?_
  refine Ro.q rfl rfl (yB rfl rfl) rfl ?_
  refine Ro.nil (nT ?_)
  refine Wp.cond (t:=decide (rr<52)) rfl ?_ ?_
  · intro c14
    have c14r:=c14
    simp only [bx] at c14
    refine Wp.skip (nT (Wp.seq (Wp.block (Wp.seq (Wp.region ?_)))))
    refine Ro.q (v:=(i 0)) rfl rfl (zD rfl) rfl ?_
    refine Ro.nil (nT (Wp.block ?_))
    refine Wp.loop (fun kM ds ρ w'=>∃ ss:Int,ds=[]∧(0≤ss∧ss≤31)∧kM=(31-ss:Int).toNat∧ρ 1=(.slice ah h.length cah)∧ρ 9=(p bm 0)∧ρ 10=(i rr)∧ρ 11=(i ss)∧S Nm w [(bm,.cells (vK F).toArray 128 (0,0)),(b1,.cells [i t.base,.slice ab t.bs.length cab,.slice ad t.dl.length cad,i t.blo,i t.bhi].toArray 27 (0,0))] w'∧(∀ s,0≤s→s<ss→F ((h.length:Nat):Int) rr s=false)) ((31-0:Int).toNat) ⟨0,rfl,(by omega),rfl,f6,f7,f8,rfl,H,(fun s h1 h2=>by omega)⟩ ?_
    clear H
    intro kρ19 dsρ19 ρ19 w20
    rintro ⟨ss,rfl,hb22,hk21,f15,f16,f17,f18,H,hi23⟩
    refine Wp.seq (Wp.seq (Wp.region ?_))
    refine Ro.q (v:=(i ss)) rfl rfl (zB f18) rfl ?_
    refine Ro.q rfl rfl (yB rfl rfl) rfl ?_
    refine Ro.nil (nT ?_)
    refine Wp.cond (t:=decide (ss<31)) rfl ?_ ?_
    · intro c24
      have c24r:=c24
      simp only [bx] at c24
      refine Wp.skip (nT (Wp.seq (Wp.block (Wp.seq (Wp.region ?_)))))
      refine Ro.q (v:=(p bm 0)) rfl rfl (zB f16) rfl ?_
      refine Ro.q (v:=(.slice ah h.length cah)) rfl rfl (zB f15) rfl ?_
      refine Ro.q rfl rfl (yG Tryz.underlying30 rfl (v:=h.length) rfl) rfl ?_
      refine Ro.q (v:=(i rr)) rfl rfl (zB f17) rfl ?_
      refine Ro.q (v:=(i ss)) rfl rfl (zB f18) rfl ?_
      refine Ro.q (v:=(p bm 0)) rfl rfl (r_nilCheck rfl) rfl ?_
      refine Ro.q rfl rfl (yJ Tryz.underlying128 sz126 rfl rfl (by omega) rfl) rfl ?_
      refine Ro.q rfl rfl (yJ Tryz.underlying126 sz125 rfl rfl (by omega) rfl) rfl ?_
      refine Ro.q rfl rfl (yJ Tryz.underlying125 sz4 rfl rfl (by omega) rfl) rfl ?_
      refine Ro.q rfl rfl (zE t1_4 rfl (H.cells 0 rfl) (j:=(ix3 ((h.length:Nat):Int) rr ss)) (Nat.zero_add _).symm (mapC_at ⟨by omega,by omega,by omega⟩)) rfl ?_
      refine Ro.nil (nT ?_)
      refine Wp.cond (t:=(F ((h.length:Nat):Int) rr ss)) rfl ?_ ?_
      · intro c25
        have c25r:=c25
        refine Wp.seq (Wp.region ?_)
        refine Ro.q (v:=(.bool true)) rfl rfl (zD rfl) rfl ?_
        refine Ro.nil (nT (Wp.ret (rB (rT (rT (rB (rB (rT (rT (rB (rT (zN ?_))))))))))))
        refine zI (v:=(.bool true)) Tryz.results62 rfl ⟨H.keep,?_⟩
        exact congrArg Value.bool (agr_of hM ⟨by omega,by omega,by omega⟩ c25).symm
      intro c25
      have c25r:=c25
      refine Wp.skip (nB (nT (Wp.region ?_)))
      refine Ro.q (v:=(i ss)) rfl rfl (zB f18) rfl ?_
      refine Ro.q rfl rfl (zU rfl rfl (by constructor <;>omega)) rfl ?_
      refine Ro.q (v:=(i (ss+1))) rfl rfl (zD rfl) rfl ?_
      refine Ro.nil (nT ?_)
      exact ⟨(31-(ss+1):Int).toNat,by omega,(ss+1),rfl,(by omega),rfl,f15,f16,f17,rfl,H,(fun s h1 h2=>by by_cases e:s=ss;(rw [e];exact c25);exact hi23 s h1 (by omega))⟩
    intro c24
    have c24r:=c24
    simp only [bx] at c24
    refine Wp.exit (xT (xT (xB (nB (nT (Wp.region ?_))))))
    refine Ro.q (v:=(i rr)) rfl rfl (zB f17) rfl ?_
    refine Ro.q rfl rfl (zU rfl rfl (by constructor <;>omega)) rfl ?_
    refine Ro.q (v:=(i (rr+1))) rfl rfl (zD rfl) rfl ?_
    refine Ro.nil (nT ?_)
    exact ⟨(52-(rr+1):Int).toNat,by omega,(rr+1),rfl,(by omega),rfl,f15,f16,rfl,H,(fun r s h1 h2 h3 h4=>by by_cases e:r=rr;(rw [e];exact hi23 s h3 (by omega));exact hi13 r s h1 (by omega) h3 h4)⟩
  intro c14
  have c14r:=c14
  simp only [bx] at c14
  refine Wp.exit (xT (xT (xB (nT (Wp.seq (Wp.region ?_))))))
  refine Ro.q (v:=(.bool false)) rfl rfl (zD rfl) rfl ?_
  refine Ro.nil (nT (Wp.ret (zN ?_)))
  refine zI (v:=(.bool false)) Tryz.results62 rfl ⟨H.keep,?_⟩
  exact congrArg Value.bool (agr_not oG hhl hM (fun r s h1 h2 h3 h4=>hi13 r s h1 (by omega) h3 h4)).symm
end Go.Proofs.YthfnjppieihcfaaGreat
namespace Go.Proofs.YthfnjppieihcfaaGreat
open Go.RowKit Go.Proofs Go.Mw
theorem en28:Go.Proofs.Enters Tryz.prog 28:=Go.Proofs.enters_of Tryz.func28 (by kernel_rfl) rfl
theorem en34:Go.Proofs.Enters Tryz.prog 34:=Go.Proofs.enters_of Tryz.func34 (by kernel_rfl) rfl
theorem en62:Go.Proofs.Enters Tryz.prog 62:=Go.Proofs.enters_of Tryz.func62 (by kernel_rfl) rfl
theorem en72:Go.Proofs.Enters Tryz.prog 72:=Go.Proofs.enters_of Tryz.func72 (by kernel_rfl) rfl
open Men
theorem c28 {t:Tb} {ab ad ah ai:Option Addr} {h:List Rg} {ices:List Ice} {cab cad cah cai:Nat} (w:World) (hab:Sl w 3 (t.bs.map yH) ab) (had:Sl w 2 (t.dl.map zZ) ad) (hah:Sl w 2 (h.map rgV) ah) (hai:Sl w 3 (ices.map iceV) ai) (hhl:h.length≤4611686018427387904) (hil:ices.length≤4611686018427387904):Rv Tryz.prog 28 [(.agg (tbC t ab cab ad cad).toArray),(.slice ah h.length cah),(.slice ai ices.length cai)] w (i (vP t h ices)):=by
  refine Ret.body (N:=16) Tryz.func28 rfl Tryz.ntmps28 rfl ?_
  have H:=S.start Nm w
  refine Wp.seq (Wp.region ?_)
  refine Ro.d rfl rfl rfl (H.box (l:=(tbC t ab cab ad cad)) rfl (v:=(.agg (tbC t ab cab ad cad).toArray)) rfl rfl ?_)
  intro b1 w2 Hn;replace H:=Hn;clear Hn
  refine Ro.q (v:=(i 0)) rfl rfl (zD rfl) rfl ?_
  refine Ro.nil (nT (Wp.seq (Wp.seq (Wp.region ?_))))
  refine Ro.q rfl rfl (zJ ta29 rfl (H.cells 0 rfl) (j:=0) rfl (vs:=(tbC t ab cab ad cad)) rfl rfl) rfl ?_
  refine Ro.d rfl rfl rfl (zH rfl en51 (ce (v:=(.agg (tbC t ab cab ad cad).toArray)) rfl cn) (c51 t.base t.blo t.bhi t.klo t.khi t.llo t.lhi t.slo t.shi t.term _ t.bs _ _ t.dl _ _ (hab.ext H.keep) (had.ext H.keep)) ?_)
  intro u w3 k4 hu;subst hu;replace H:=H.ext k4
  clear k4
  refine Ro.q (v:=(i (uA t))) rfl rfl (zD rfl) rfl ?_
  refine Ro.nil (nT (Wp.seq (Wp.region ?_)))
  refine Ro.q (v:=(i (uA t))) rfl rfl (zB rfl) rfl ?_
  refine Ro.q rfl rfl (vW rfl rfl) rfl ?_
  refine Ro.nil (nT ?_)
  refine Wp.cond (t:=decide ((uA t)≠0)) rfl ?_ ?_
  · intro c5
    have c5r:=c5
    simp only [bx] at c5
    refine Wp.seq (Wp.region ?_)
    refine Ro.q (v:=(i (uA t))) rfl rfl (zB rfl) rfl ?_
    refine Ro.q (v:=(i (uA t))) rfl rfl (zD rfl) rfl ?_
    refine Ro.nil (nT (Wp.ret (rT (zN ?_))))
    refine zI (v:=(i (uA t))) Tryz.results28 rfl ⟨H.keep,?_⟩
    refine congrArg (Value.int _) ?_
    unfold vP
    rw [c5r];rfl
  intro c5
  have c5r:=c5
  simp only [bx] at c5
  refine Wp.skip (nT (Wp.seq (Wp.region ?_)))
  refine Ro.q (v:=(.slice ah h.length cah)) rfl rfl (zB rfl) rfl ?_
  refine Ro.q (v:=(.slice ai ices.length cai)) rfl rfl (zB rfl) rfl ?_
  refine Ro.d rfl rfl rfl (zH rfl en72 (ce (v:=(.slice ah h.length cah)) rfl (ce (v:=(.slice ai ices.length cai)) rfl cn)) (c72 ah h cah ai ices cai _ (hah.ext H.keep) (hai.ext H.keep) hhl) ?_)
  intro u w6 k7 hu;subst hu;replace H:=H.ext k7
  clear k7
  refine Ro.q (v:=(i (lifeE h ices))) rfl rfl (zD rfl) rfl ?_
  refine Ro.nil (nT (Wp.ret (zN ?_)))
  refine zI (v:=(i (lifeE h ices))) Tryz.results28 rfl ⟨H.keep,?_⟩
  refine congrArg (Value.int _) ?_
  unfold vP
  rw [c5r];rfl
theorem c22 {t:Tb} {ab ad ah ai:Option Addr} {h:List Rg} {ices:List Ice} {cab cad cah cai:Nat} {x:Rdg} (w:World) (hab:Sl w 3 (t.bs.map yH) ab) (had:Sl w 2 (t.dl.map zZ) ad) (hah:Sl w 2 (h.map rgV) ah) (hai:Sl w 3 (ices.map iceV) ai) (hhl:h.length≤4611686018427387904) (hil:ices.length≤4611686018427387904):Rv Tryz.prog 22 [(.agg (tbC t ab cab ad cad).toArray),(.slice ah h.length cah),(.slice ai ices.length cai),(.agg (rdC x).toArray)] w (i (yY t h ices x)):=by
  refine Ret.body (N:=22) Tryz.func22 rfl Tryz.ntmps22 rfl ?_
  have H:=S.start Nm w
  refine Wp.seq (Wp.region ?_)
  refine Ro.d rfl rfl rfl (H.box (l:=(tbC t ab cab ad cad)) rfl (v:=(.agg (tbC t ab cab ad cad).toArray)) rfl rfl ?_)
  intro b1 w2 Hn;replace H:=Hn;clear Hn
  refine Ro.d rfl rfl rfl (H.box (l:=(rdC x)) rfl (v:=(.agg (rdC x).toArray)) rfl rfl ?_)
  intro b3 w4 Hn;replace H:=Hn;clear Hn
  refine Ro.q (v:=(i 0)) rfl rfl (zD rfl) rfl ?_
  refine Ro.nil (nT (Wp.seq (Wp.seq (Wp.region ?_))))
  refine Ro.q rfl rfl (zJ ta29 rfl (H.cells 1 rfl) (j:=0) rfl (vs:=(tbC t ab cab ad cad)) rfl rfl) rfl ?_
  refine Ro.q (v:=(.slice ah h.length cah)) rfl rfl (zB rfl) rfl ?_
  refine Ro.q (v:=(.slice ai ices.length cai)) rfl rfl (zB rfl) rfl ?_
  refine Ro.d rfl rfl rfl (zH rfl en28 (ce (v:=(.agg (tbC t ab cab ad cad).toArray)) rfl (ce (v:=(.slice ah h.length cah)) rfl (ce (v:=(.slice ai ices.length cai)) rfl cn))) (c28 (t:=t) (h:=h) (ices:=ices) _ (hab.ext H.keep) (had.ext H.keep) (hah.ext H.keep) (hai.ext H.keep) (by first | omega | simp) (by first | omega | simp)) ?_)
  intro u w5 k6 hu;subst hu;replace H:=H.ext k6
  clear k6
  refine Ro.q (v:=(i (vP t h ices))) rfl rfl (zD rfl) rfl ?_
  refine Ro.nil (nT (Wp.seq (Wp.region ?_)))
  refine Ro.q (v:=(i (vP t h ices))) rfl rfl (zB rfl) rfl ?_
  refine Ro.q rfl rfl (vW rfl rfl) rfl ?_
  refine Ro.nil (nT ?_)
  refine Wp.cond (t:=decide ((vP t h ices)≠0)) rfl ?_ ?_
  · intro c7
    have c7r:=c7
    simp only [bx] at c7
    refine Wp.seq (Wp.region ?_)
    refine Ro.q (v:=(i (vP t h ices))) rfl rfl (zB rfl) rfl ?_
    refine Ro.q (v:=(i (vP t h ices))) rfl rfl (zD rfl) rfl ?_
    refine Ro.nil (nT (Wp.ret (rT (zN ?_))))
    refine zI (v:=(i (vP t h ices))) Tryz.results22 rfl ⟨H.keep,?_⟩
    refine congrArg (Value.int _) ?_
    unfold yY
    rw [c7r];rfl
  intro c7
  have c7r:=c7
  simp only [bx] at c7
  refine Wp.skip (nT (Wp.seq (Wp.seq (Wp.region ?_))))
  refine Ro.q rfl rfl (zJ ta33 rfl (H.cells 0 rfl) (j:=0) rfl (vs:=(rdC x)) rfl rfl) rfl ?_
  refine Ro.q (v:=(.slice ah h.length cah)) rfl rfl (zB rfl) rfl ?_
  refine Ro.q rfl rfl (yG Tryz.underlying30 rfl (v:=h.length) rfl) rfl ?_
  refine Ro.d rfl rfl rfl (zH rfl en33 (ce (v:=(.agg (rdC x).toArray)) rfl (ce (v:=(i ((h.length:Nat):Int))) rfl cn)) (c33 x.day x.shown x.err x.bare x.alo x.ahi x.rlo x.rhi x.deep x.broken ((h.length:Nat):Int) _ (by omega)) ?_)
  intro u w8 k9 hu;subst hu;replace H:=H.ext k9
  clear k9
  refine Ro.q rfl rfl (yN rfl) rfl ?_
  refine Ro.nil (nT ?_)
  refine Wp.cond (t:=!(vX ((h.length:Nat):Int) x)) rfl ?_ ?_
  · intro c10
    have c10r:=c10
    simp only [bx] at c10
    refine Wp.seq (Wp.region ?_)
    refine Ro.q (v:=(i 2)) rfl rfl (zD rfl) rfl ?_
    refine Ro.nil (nT (Wp.ret (rT (zN ?_))))
    refine zI (v:=(i 2)) Tryz.results22 rfl ⟨H.keep,?_⟩
    refine congrArg (Value.int _) ?_
    unfold yY
    rw [c7r,c10r];rfl
  intro c10
  have c10r:=c10
  simp only [bx] at c10
  refine Wp.skip (nT (Wp.seq (Wp.region ?_)))
  refine Ro.q (v:=(i 0)) rfl rfl (zD rfl) rfl ?_
  refine Ro.nil (nT (Wp.ret (zN ?_)))
  refine zI (v:=(i 0)) Tryz.results22 rfl ⟨H.keep,?_⟩
  refine congrArg (Value.int _) ?_
  unfold yY
  rw [c7r,c10r];rfl
theorem c34 {t:Tb} {ab ad ai:Option Addr} {ices:List Ice} {cab cad cai:Nat} {x:Rdg} (w:World) (hai:Sl w 3 (ices.map iceV) ai) (hic : ∀ i∈ices,0≤i.day∧i.day≤100) (hil:ices.length≤4611686018427387904) (hdy:0≤x.day∧x.day≤100):Rv Tryz.prog 34 [(.agg (tbC t ab cab ad cad).toArray),(.slice ai ices.length cai),(.agg (rdC x).toArray)] w (.bool (staleB t.term ices x.day)):=by
  refine Ret.body (N:=37) Tryz.func34 rfl Tryz.ntmps34 rfl ?_
  have H:=S.start Nm w
  refine Wp.seq (Wp.region ?_)
  refine Ro.d rfl rfl rfl (H.box (l:=(tbC t ab cab ad cad)) rfl (v:=(.agg (tbC t ab cab ad cad).toArray)) rfl rfl ?_)
  intro b1 w2 Hn;replace H:=Hn;clear Hn
  refine Ro.d rfl rfl rfl (H.box (l:=(rdC x)) rfl (v:=(.agg (rdC x).toArray)) rfl rfl ?_)
  intro b3 w4 Hn;replace H:=Hn;clear Hn
  refine Ro.q (v:=(.bool false)) rfl rfl (zD rfl) rfl ?_
  refine Ro.nil (nT (Wp.seq (Wp.region ?_)))
  refine Ro.q (v:=(i 0)) rfl rfl (zD rfl) rfl ?_
  refine Ro.nil (nT (Wp.seq (Wp.seq (Wp.region ?_))))
  refine Ro.q (v:=(i 0)) rfl rfl (zD rfl) rfl ?_
  refine Ro.nil (nT (Wp.block ?_))
  refine Wp.loop (fun kM ds ρ w'=>∃ n:Int,∃ m:Int,ds=[]∧(0≤n∧n≤ices.length)∧kM=((ices.length:Int)-n).toNat∧ρ 1=(.slice ai ices.length cai)∧ρ 3=(p b1 0)∧ρ 5=(p b3 0)∧ρ 6=(.bool false)∧ρ 8=(i n)∧ρ 7=(i m)∧S Nm w [(b3,.cells (rdC x).toArray 33 (0,0)),(b1,.cells (tbC t ab cab ad cad).toArray 29 (0,0))] w'∧(m=lastOf (ices.take n.toNat) x.day)) (((ices.length:Int)-0).toNat) ⟨0,0,rfl,(by omega),rfl,rfl,rfl,rfl,rfl,rfl,rfl,H,rfl⟩ ?_
  clear H
  intro kρ11 dsρ11 ρ11 w12
  rintro ⟨n,m,rfl,hb14,hk13,f5,f6,f7,f8,f9,f10,H,hi15⟩
  refine Wp.seq (Wp.seq (Wp.region ?_))
  refine Ro.q (v:=(i n)) rfl rfl (zB f9) rfl ?_
  refine Ro.q (v:=(.slice ai ices.length cai)) rfl rfl (zB f5) rfl ?_
  refine Ro.q rfl rfl (yG Tryz.underlying31 rfl (v:=ices.length) rfl) rfl ?_
  refine Ro.q rfl rfl (yB rfl rfl) rfl ?_
  refine Ro.nil (nT ?_)
  refine Wp.cond (t:=decide (n<((ices.length:Nat):Int))) rfl ?_ ?_
  · intro c16
    have c16r:=c16
    simp only [bx] at c16
    obtain ⟨e,he⟩:=vQ ices n (by omega) (by omega)
    refine Wp.skip (nT (Wp.seq (Wp.block (Wp.seq ?_))))
    refine Wp.drawnS 8 [0,0,3,7,15,0,32,127] [is (.slice ai ices.length cai),is (i n),is (p (blk ai) (yP ai+n.toNat*3)),is (p (blk ai) (yP ai+n.toNat*3)),is (i e.day),is (p b3 0),is (i x.day),is (.bool (decide (e.day≤x.day)))] (by kernel_rfl) (by kernel_rfl) rfl (Mi (Mi (Mi (Mi (Mi (Mi (Mi (Mi Mono.nil)))))))) (fun w' k=>H.ext k) ?_ ?_
    · refine ⟨?_,?_,?_,?_,?_,?_,?_,?_,trivial⟩
      · exact Ob.q rfl (fun _ _ B U D=>(zB ((U 1 rfl).trans f5))) rfl rfl
      · exact Ob.q rfl (fun _ _ B U D=>(zB ((U 8 rfl).trans f9))) rfl rfl
      · exact Ob.q rfl (fun _ _ B U D=>(zY ts31 (hai.ext B.keep) (D 0 rfl) (by simp) (D 1 rfl) (by omega) (zW he))) rfl rfl
      · exact Ob.q rfl (fun _ _ B U D=>(zA fo91_0 (D 2 rfl) rfl)) rfl rfl
      · exact Ob.q rfl (fun _ _ B U D=>(zE zM (D 3 rfl) ((hai.ext B.keep).cells (zW he)) (j:=0) rfl rfl)) rfl rfl
      · exact Ob.q rfl (fun _ _ B U D=>(zA fo33_0 ((U 5 rfl).trans f7) rfl)) rfl rfl
      · exact Ob.q rfl (fun _ _ B U D=>(zE zM (D 5 rfl) (B.cells 0 rfl) (j:=0) rfl rfl)) rfl rfl
      · exact Ob.q rfl (fun _ _ B U D=>(vD (D 4 rfl) (D 6 rfl))) rfl rfl
    intro ρ17 w18 k19 U20 D21;replace H:=H.ext k19
    have f22:=(U20 1 rfl).trans f5
    have f23:=(U20 3 rfl).trans f6
    have f24:=(U20 5 rfl).trans f7
    have f25:=(U20 6 rfl).trans f8
    have f26:=(U20 7 rfl).trans f10
    have f27:=(U20 8 rfl).trans f9
    have f28:ρ17 22=(.bool (decide (e.day≤x.day))):=D21 7 rfl
    clear U20 D21 k19
    refine Ro.nil (nT ?_)
    refine Wp.cond (t:=decide (e.day≤x.day)) f28 ?_ ?_
    · intro c29
      have c29r:=c29
      simp only [bx] at c29
      refine Wp.region ?_
      refine Ro.q (v:=(i m)) rfl rfl (zB f26) rfl ?_
      refine Ro.q (v:=(.slice ai ices.length cai)) rfl rfl (zB f22) rfl ?_
      refine Ro.q (v:=(i n)) rfl rfl (zB f27) rfl ?_
      refine Ro.q rfl rfl (zY ts31 (hai.ext H.keep) rfl (by simp) rfl (by omega) (zW he)) rfl ?_
      refine Ro.q (v:=(p (blk ai) (yP ai+n.toNat*3))) rfl rfl (zA fo91_0 rfl rfl) rfl ?_
      refine Ro.q rfl rfl (zE zM rfl ((hai.ext H.keep).cells (zW he)) (j:=0) rfl rfl) rfl ?_
      refine Ro.q rfl rfl (r_max2 rfl rfl) rfl ?_
      refine Ro.q (v:=(i (max m e.day))) rfl rfl (zD rfl) rfl ?_
      refine Ro.nil (nB (nT (Wp.region ?_)))
      refine Ro.q (v:=(i n)) rfl rfl (zB f27) rfl ?_
      refine Ro.q rfl rfl (zU rfl rfl (by constructor <;>omega)) rfl ?_
      refine Ro.q (v:=(i (n+1))) rfl rfl (zD rfl) rfl ?_
      refine Ro.nil (nT ?_)
      exact ⟨((ices.length:Int)-(n+1)).toNat,by omega,(n+1),(max m e.day),rfl,(by omega),rfl,f22,f23,f24,f25,rfl,rfl,H,(last_yes (by omega) he hi15 c29)⟩
    intro c29
    have c29r:=c29
    simp only [bx] at c29
    refine Wp.skip (nB (nT (Wp.region ?_)))
    refine Ro.q (v:=(i n)) rfl rfl (zB f27) rfl ?_
    refine Ro.q rfl rfl (zU rfl rfl (by constructor <;>omega)) rfl ?_
    refine Ro.q (v:=(i (n+1))) rfl rfl (zD rfl) rfl ?_
    refine Ro.nil (nT ?_)
    exact ⟨((ices.length:Int)-(n+1)).toNat,by omega,(n+1),m,rfl,(by omega),rfl,f22,f23,f24,f25,rfl,f26,H,(last_no (by omega) he hi15 c29)⟩
  intro c16
  have c16r:=c16
  simp only [bx] at c16
  refine Wp.exit (xT (xT (xB (nT (Wp.seq (Wp.region ?_))))))
  refine Ro.q (v:=(p b3 0)) rfl rfl (zA fo33_0 f7 rfl) rfl ?_
  refine Ro.q rfl rfl (zE zM rfl (H.cells 0 rfl) (j:=0) rfl rfl) rfl ?_
  refine Ro.q (v:=(i m)) rfl rfl (zB f10) rfl ?_
  refine Ro.q rfl rfl (yT rfl rfl (by have hl:=last_in hic x.day n.toNat;omega)) rfl ?_
  refine Ro.q (v:=(p b1 11)) rfl rfl (zA fo29_4 f6 rfl) rfl ?_
  refine Ro.q rfl rfl (zE zM rfl (H.cells 1 rfl) (j:=11) rfl rfl) rfl ?_
  refine Ro.q rfl rfl (r_gtr rfl rfl) rfl ?_
  refine Ro.q (v:=(.bool (decide (t.term<(x.day-m))))) rfl rfl (zD rfl) rfl ?_
  refine Ro.nil (nT (Wp.ret (zN ?_)))
  refine zI (v:=(.bool (decide (t.term<(x.day-m))))) Tryz.results34 rfl ⟨H.keep,?_⟩
  refine congrArg Value.bool ?_
  unfold staleB
  rw [last_end (by omega) hi15]
theorem c23 {t:Tb} {ab ad ah ai:Option Addr} {h:List Rg} {ices:List Ice} {cab cad cah cai:Nat} {x:Rdg} (w:World) (hab:Sl w 3 (t.bs.map yH) ab) (had:Sl w 2 (t.dl.map zZ) ad) (hah:Sl w 2 (h.map rgV) ah) (hai:Sl w 3 (ices.map iceV) ai) (G:Vld t h ices x):Rv Tryz.prog 23 [(.agg (tbC t ab cab ad cad).toArray),(.slice ah h.length cah),(.slice ai ices.length cai),(.agg (rdC x).toArray)] w (i (vE t h ices x)):=by
  have oG:=G.g
  have oH:=G.hi
  have oI:=G.ic
  have hhl:=oH.len
  have hil:=oI.len
  have hday:=G.day
  have hdy:0≤x.day∧x.day≤100:=by omega
  have hic : ∀ i∈ices,0≤i.day∧i.day≤100:=fun i hi=>by have:=(oI.each i hi).1;omega
  refine Ret.body (N:=21) Tryz.func23 rfl Tryz.ntmps23 rfl ?_
  have H:=S.start Nm w
  refine Wp.seq (Wp.region ?_)
  refine Ro.d rfl rfl rfl (H.box (l:=(tbC t ab cab ad cad)) rfl (v:=(.agg (tbC t ab cab ad cad).toArray)) rfl rfl ?_)
  intro b1 w2 Hn;replace H:=Hn;clear Hn
  refine Ro.d rfl rfl rfl (H.box (l:=(rdC x)) rfl (v:=(.agg (rdC x).toArray)) rfl rfl ?_)
  intro b3 w4 Hn;replace H:=Hn;clear Hn
  refine Ro.q (v:=(i 0)) rfl rfl (zD rfl) rfl ?_
  refine Ro.nil (nT (Wp.seq (Wp.seq (Wp.region ?_))))
  refine Ro.q (v:=(p b3 9)) rfl rfl (zA fo33_7 rfl rfl) rfl ?_
  refine Ro.q rfl rfl (zE t1_4 rfl (H.cells 0 rfl) (j:=9) rfl rfl) rfl ?_
  refine Ro.nil (nT ?_)
  refine Wp.cond (t:=x.broken) rfl ?_ ?_
  · intro c5
    have c5r:=c5
    refine Wp.seq (Wp.region ?_)
    refine Ro.q (v:=(i 8)) rfl rfl (zD rfl) rfl ?_
    refine Ro.nil (nT (Wp.ret (rT (zN ?_))))
    refine zI (v:=(i 8)) Tryz.results23 rfl ⟨H.keep,?_⟩
    refine congrArg (Value.int _) ?_
    unfold vE
    rw [c5r];rfl
  intro c5
  have c5r:=c5
  refine Wp.skip (nT (Wp.seq (Wp.seq (Wp.region ?_))))
  refine Ro.q rfl rfl (zJ ta29 rfl (H.cells 1 rfl) (j:=0) rfl (vs:=(tbC t ab cab ad cad)) rfl rfl) rfl ?_
  refine Ro.q (v:=(.slice ai ices.length cai)) rfl rfl (zB rfl) rfl ?_
  refine Ro.q rfl rfl (zJ ta33 rfl (H.cells 0 rfl) (j:=0) rfl (vs:=(rdC x)) rfl rfl) rfl ?_
  refine Ro.d rfl rfl rfl (zH rfl en34 (ce (v:=(.agg (tbC t ab cab ad cad).toArray)) rfl (ce (v:=(.slice ai ices.length cai)) rfl (ce (v:=(.agg (rdC x).toArray)) rfl cn))) (c34 (t:=t) (ices:=ices) (x:=x) _ (hai.ext H.keep) hic (by omega) hdy) ?_)
  intro u w6 k7 hu;subst hu;replace H:=H.ext k7
  clear k7
  refine Ro.nil (nT ?_)
  refine Wp.cond (t:=(staleB t.term ices x.day)) rfl ?_ ?_
  · intro c8
    have c8r:=c8
    refine Wp.seq (Wp.region ?_)
    refine Ro.q (v:=(i 11)) rfl rfl (zD rfl) rfl ?_
    refine Ro.nil (nT (Wp.ret (rT (zN ?_))))
    refine zI (v:=(i 11)) Tryz.results23 rfl ⟨H.keep,?_⟩
    refine congrArg (Value.int _) ?_
    unfold vE
    rw [c5r,c8r];rfl
  intro c8
  have c8r:=c8
  refine Wp.skip (nT (Wp.seq (Wp.seq (Wp.region ?_))))
  refine Ro.q (v:=(p b1 0)) rfl rfl (zA fo29_0 rfl rfl) rfl ?_
  refine Ro.q rfl rfl (zJ ta27 rfl (H.cells 1 rfl) (j:=0) rfl (vs:=[i t.base,.slice ab t.bs.length cab,.slice ad t.dl.length cad,i t.blo,i t.bhi]) rfl rfl) rfl ?_
  refine Ro.q (v:=(.slice ah h.length cah)) rfl rfl (zB rfl) rfl ?_
  refine Ro.q (v:=(.slice ai ices.length cai)) rfl rfl (zB rfl) rfl ?_
  refine Ro.d rfl rfl rfl (zH rfl en62 (ce (v:=(.agg #[(i t.base),(.slice ab t.bs.length cab),(.slice ad t.dl.length cad),(i t.blo),(i t.bhi)])) rfl (ce (v:=(.slice ah h.length cah)) rfl (ce (v:=(.slice ai ices.length cai)) rfl (ce (v:=(.slice none 0 0)) rfl cn)))) (c62 _ (hab.ext H.keep) (had.ext H.keep) (hah.ext H.keep) (hai.ext H.keep) oG oH oI) ?_)
  intro u w9 k10 hu;subst hu;replace H:=H.ext k10
  clear k10
  refine Ro.q rfl rfl (yN rfl) rfl ?_
  refine Ro.nil (nT ?_)
  refine Wp.cond (t:=!(agrB t.glass h ices)) rfl ?_ ?_
  · intro c11
    have c11r:=c11
    simp only [bx] at c11
    refine Wp.seq (Wp.region ?_)
    refine Ro.q (v:=(i 9)) rfl rfl (zD rfl) rfl ?_
    refine Ro.nil (nT (Wp.ret (rT (zN ?_))))
    refine zI (v:=(i 9)) Tryz.results23 rfl ⟨H.keep,?_⟩
    refine congrArg (Value.int _) ?_
    unfold vE
    rw [c5r,c8r,c11r];rfl
  intro c11
  have c11r:=c11
  simp only [bx] at c11
  refine Wp.skip (nT (Wp.seq (Wp.region ?_)))
  refine Ro.q (v:=(i 0)) rfl rfl (zD rfl) rfl ?_
  refine Ro.nil (nT (Wp.ret (zN ?_)))
  refine zI (v:=(i 0)) Tryz.results23 rfl ⟨H.keep,?_⟩
  refine congrArg (Value.int _) ?_
  unfold vE
  rw [c5r,c8r,c11r];rfl
end Go.Proofs.YthfnjppieihcfaaGreat
namespace Go.Proofs.YthfnjppieihcfaaGreat
open Go.RowKit Go.Proofs Go.Mw
theorem tr49_24:TR Tryz.prog 49 103 3 24:=⟨Tryz.underlying49,(Tryz.prog.info? 103).get!,((Tryz.prog.info? 103).get!.zero).get!,by kernel_rfl,by kernel_rfl,by kernel_rfl,by kernel_rfl,by kernel_rfl,by decide⟩
open Men
theorem c19 {h:List Rg} {ah:Option Addr} {cah:Nat} (w:World) (hah:Sl w 2 (h.map rgV) ah) (hl:h.length≤1000):Ret Tryz.prog 19 [(.slice ah h.length cah)] w fun v w'=>RowAt 2 h.length (h.map rgV) w.heap.size v w':=by
  refine Ret.body (N:=20) Tryz.func19 rfl Tryz.ntmps19 rfl ?_
  have H:=S.start Nm w
  refine Wp.seq (Wp.region ?_)
  refine Ro.q (v:=(.slice none 0 0)) rfl rfl (zD rfl) rfl ?_
  refine Ro.nil (nT (Wp.seq (Wp.region ?_)))
  refine Ro.q (v:=(.slice none 0 0)) rfl rfl (zD rfl) rfl ?_
  refine Ro.nil (nT (Wp.seq (Wp.seq (Wp.region ?_))))
  refine Ro.q (v:=(i 0)) rfl rfl (zD rfl) rfl ?_
  refine Ro.nil (nT (Wp.block ?_))
  refine Wp.loop (fun kM ds ρ w'=>∃ n:Int,∃ ar:Option Addr,∃ cr:Nat,∃ xs:List Rg,∃ Lr:List (Nat×Obj),ds=[]∧(0≤n∧n≤h.length)∧kM=((h.length:Int)-n).toNat∧ρ 0=(.slice ah h.length cah)∧ρ 2=(.slice none 0 0)∧ρ 4=(i n)∧ρ 3=(.slice ar xs.length cr)∧S Nm w ([]++Lr) w'∧(OwnRow 41 2 ar xs.length cr (xs.map rgV).flatten Lr∧xs=h.take n.toNat)) (((h.length:Int)-0).toNat) ⟨0,none,0,([]),([]),rfl,(by omega),rfl,rfl,rfl,rfl,rfl,(by rw [List.append_nil];exact H),⟨OwnRow.nil 41 2,rfl⟩⟩ ?_
  clear H
  intro kρ5 dsρ5 ρ5 w6
  rintro ⟨n,ar,cr,xs,Lr,rfl,hb8,hk7,f1,f2,f3,f4,H,hi9⟩
  have hxl:xs.length≤h.length:=by rw [hi9.2,List.length_take];omega
  refine Wp.seq (Wp.seq (Wp.region ?_))
  refine Ro.q (v:=(i n)) rfl rfl (zB f3) rfl ?_
  refine Ro.q (v:=(.slice ah h.length cah)) rfl rfl (zB f1) rfl ?_
  refine Ro.q rfl rfl (yG Tryz.underlying30 rfl (v:=h.length) rfl) rfl ?_
  refine Ro.q rfl rfl (yB rfl rfl) rfl ?_
  refine Ro.nil (nT ?_)
  refine Wp.cond (t:=decide (n<((h.length:Nat):Int))) rfl ?_ ?_
  · intro c10
    have c10r:=c10
    simp only [bx] at c10
    obtain ⟨e,he⟩:=vQ h n (by omega) (by omega)
    refine Wp.skip (nT (Wp.seq (Wp.block (Wp.region ?_))))
    refine Ro.q (v:=(.slice ar xs.length cr)) rfl rfl (zB f4) rfl ?_
    refine Ro.q (v:=(.slice ah h.length cah)) rfl rfl (zB f1) rfl ?_
    refine Ro.q (v:=(i n)) rfl rfl (zB f3) rfl ?_
    refine Ro.q rfl rfl (zY ts30 (hah.ext H.keep) rfl (by first | (simp;done) | (simp;omega)) rfl (by omega) (zW he)) rfl ?_
    refine Ro.q rfl rfl (zJ ta25 rfl ((hah.ext H.keep).cells (zW he)) (j:=0) rfl (vs:=[i e.lo,i e.hi]) rfl rfl) rfl ?_
    refine Ro.d rfl rfl rfl (zH rfl en61 (ce (v:=(.agg #[(i e.lo),(i e.hi)])) rfl cn) (c61 e.lo e.hi _ ) ?_)
    intro u w11 k12 hu;subst hu;replace H:=H.ext k12
    clear k12
    refine Ro.d rfl rfl rfl (H.row (e:=41) (cs:=[i e.lo,i e.hi]) rfl (pe (v:=(.agg #[(i e.lo),(i e.hi)])) rfl pn) (fun w=>by kernel_rfl) ?_)
    intro b13 w14 Hn;replace H:=Hn;clear Hn
    replace H:S Nm w ([(b13,.cells [i e.lo,i e.hi].toArray 41 (0,0))]++Lr) _:=H
    refine Ro.d rfl rfl rfl (H.appendE (enc:=rgV) (z:=e) hi9.1 tr47_16 rfl rfl rfl (H.cells 0 rfl) rfl (by simp [rgV,Value.oneCell']) (by simp only [maxLen];omega) (by omega) ?_)
    intro a15 c16 Lr17 w18 hr19 Hn
    replace H:S Nm w ([(b13,.cells [i e.lo,i e.hi].toArray 41 (0,0))]++Lr17) w18:=Hn;clear Hn
    refine Ro.q (v:=(.slice a15 ((xs++[e]).length) c16)) rfl rfl (zD rfl) rfl ?_
    refine Ro.nil (nB (nT (Wp.region ?_)))
    refine Ro.q (v:=(i n)) rfl rfl (zB f3) rfl ?_
    refine Ro.q rfl rfl (zU rfl rfl (by constructor <;>omega)) rfl ?_
    refine Ro.q (v:=(i (n+1))) rfl rfl (zD rfl) rfl ?_
    refine Ro.nil (nT ?_)
    exact ⟨((h.length:Int)-(n+1)).toNat,by omega,(n+1),a15,c16,(xs++[e]),Lr17,rfl,(by omega),rfl,f1,f2,rfl,rfl,(H.drop 1),⟨hr19,by rw [hi9.2,take_succ' (by omega) he]⟩⟩
  intro c10
  have c10r:=c10
  simp only [bx] at c10
  refine Wp.exit (xT (xT (xB (nT (Wp.seq (Wp.region ?_))))))
  refine Ro.q (v:=(.slice ar xs.length cr)) rfl rfl (zB f4) rfl ?_
  refine Ro.q (v:=(.slice ar xs.length cr)) rfl rfl (zD rfl) rfl ?_
  refine Ro.nil (nT (Wp.ret (zN ?_)))
  refine zI (v:=(.slice ar xs.length cr)) Tryz.results19 rfl ⟨H.keep,?_⟩
  obtain rfl:xs=h:=by rw [hi9.2];exact List.take_of_length_le (by omega)
  exact ⟨_,_,rfl,OwnRow.fsl (enc:=rgV) (fun _=>rfl) hi9.1 rfl H⟩
theorem c20 {ices:List Ice} {ai:Option Addr} {cai:Nat} (w:World) (hai:Sl w 3 (ices.map iceV) ai) (hl:ices.length≤1000):Ret Tryz.prog 20 [(.slice ai ices.length cai)] w fun v w'=>RowAt 3 ices.length (ices.map iceV) w.heap.size v w':=by
  refine Ret.body (N:=31) Tryz.func20 rfl Tryz.ntmps20 rfl ?_
  have H:=S.start Nm w
  refine Wp.seq (Wp.region ?_)
  refine Ro.q (v:=(.slice none 0 0)) rfl rfl (zD rfl) rfl ?_
  refine Ro.nil (nT (Wp.seq (Wp.region ?_)))
  refine Ro.q (v:=(.slice none 0 0)) rfl rfl (zD rfl) rfl ?_
  refine Ro.nil (nT (Wp.seq (Wp.seq (Wp.region ?_))))
  refine Ro.q (v:=(i 0)) rfl rfl (zD rfl) rfl ?_
  refine Ro.nil (nT (Wp.block ?_))
  refine Wp.loop (fun kM ds ρ w'=>∃ n:Int,∃ ar:Option Addr,∃ cr:Nat,∃ xs:List Ice,∃ Lr:List (Nat×Obj),ds=[]∧(0≤n∧n≤ices.length)∧kM=((ices.length:Int)-n).toNat∧ρ 0=(.slice ai ices.length cai)∧ρ 2=(.slice none 0 0)∧ρ 4=(i n)∧ρ 3=(.slice ar xs.length cr)∧S Nm w ([]++Lr) w'∧(OwnRow 103 3 ar xs.length cr (xs.map iceV).flatten Lr∧xs=ices.take n.toNat)) (((ices.length:Int)-0).toNat) ⟨0,none,0,([]),([]),rfl,(by omega),rfl,rfl,rfl,rfl,rfl,(by rw [List.append_nil];exact H),⟨OwnRow.nil 103 3,rfl⟩⟩ ?_
  clear H
  intro kρ5 dsρ5 ρ5 w6
  rintro ⟨n,ar,cr,xs,Lr,rfl,hb8,hk7,f1,f2,f3,f4,H,hi9⟩
  have hxl:xs.length≤ices.length:=by rw [hi9.2,List.length_take];omega
  refine Wp.seq (Wp.seq (Wp.region ?_))
  refine Ro.q (v:=(i n)) rfl rfl (zB f3) rfl ?_
  refine Ro.q (v:=(.slice ai ices.length cai)) rfl rfl (zB f1) rfl ?_
  refine Ro.q rfl rfl (yG Tryz.underlying31 rfl (v:=ices.length) rfl) rfl ?_
  refine Ro.q rfl rfl (yB rfl rfl) rfl ?_
  refine Ro.nil (nT ?_)
  refine Wp.cond (t:=decide (n<((ices.length:Nat):Int))) rfl ?_ ?_
  · intro c10
    have c10r:=c10
    simp only [bx] at c10
    obtain ⟨e,he⟩:=vQ ices n (by omega) (by omega)
    refine Wp.skip (nT (Wp.seq (Wp.block ?_)))
    refine Wp.drawnS 18 [0,0,0,6,14,30,0,0,192,448,960,0,0,6144,14336,30720,65534,131070,262143,524287] [is (.slice ar xs.length cr),is (.slice ai ices.length cai),is (i n),is (p (blk ai) (yP ai+n.toNat*3)),is (p (blk ai) (yP ai+n.toNat*3)),is (i e.day),is (.slice ai ices.length cai),is (i n),is (p (blk ai) (yP ai+n.toNat*3)),is (p (blk ai) (yP ai+n.toNat*3+1)),is (i e.zero),is (.slice ai ices.length cai),is (i n),is (p (blk ai) (yP ai+n.toNat*3)),is (p (blk ai) (yP ai+n.toNat*3+2)),is (i e.err),is (.agg #[(i e.day),(i e.zero),(i e.err)]),fun v w=>∃ b,v = .slice (some ⟨b,0,none⟩) 1 1∧Cells w b 0 [i e.day,i e.zero,i e.err]] (by kernel_rfl) (by kernel_rfl) rfl (Mi (Mi (Mi (Mi (Mi (Mi (Mi (Mi (Mi (Mi (Mi (Mi (Mi (Mi (Mi (Mi (Mi (Mono.row Mono.nil)))))))))))))))))) (fun w' k=>H.ext k) ?_ ?_
    · refine ⟨?_,?_,?_,?_,?_,?_,?_,?_,?_,?_,?_,?_,?_,?_,?_,?_,?_,?_,trivial⟩
      · exact Ob.q rfl (fun _ _ B U D=>(zB ((U 3 rfl).trans f4))) rfl rfl
      · exact Ob.q rfl (fun _ _ B U D=>(zB ((U 0 rfl).trans f1))) rfl rfl
      · exact Ob.q rfl (fun _ _ B U D=>(zB ((U 4 rfl).trans f3))) rfl rfl
      · exact Ob.q rfl (fun _ _ B U D=>(zY ts31 (hai.ext B.keep) (D 1 rfl) (by first | (simp;done) | (simp;omega)) (D 2 rfl) (by omega) (zW he))) rfl rfl
      · exact Ob.q rfl (fun _ _ B U D=>(zA fo91_0 (D 3 rfl) rfl)) rfl rfl
      · exact Ob.q rfl (fun _ _ B U D=>(zE zM (D 4 rfl) ((hai.ext B.keep).cells (zW he)) (j:=0) rfl rfl)) rfl rfl
      · exact Ob.q rfl (fun _ _ B U D=>(zB ((U 0 rfl).trans f1))) rfl rfl
      · exact Ob.q rfl (fun _ _ B U D=>(zB ((U 4 rfl).trans f3))) rfl rfl
      · exact Ob.q rfl (fun _ _ B U D=>(zY ts31 (hai.ext B.keep) (D 6 rfl) (by first | (simp;done) | (simp;omega)) (D 7 rfl) (by omega) (zW he))) rfl rfl
      · exact Ob.q rfl (fun _ _ B U D=>(zA fo91_1 (D 8 rfl) rfl)) rfl rfl
      · exact Ob.q rfl (fun _ _ B U D=>(zE zM (D 9 rfl) ((hai.ext B.keep).cells (zW he)) (j:=1) rfl rfl)) rfl rfl
      · exact Ob.q rfl (fun _ _ B U D=>(zB ((U 0 rfl).trans f1))) rfl rfl
      · exact Ob.q rfl (fun _ _ B U D=>(zB ((U 4 rfl).trans f3))) rfl rfl
      · exact Ob.q rfl (fun _ _ B U D=>(zY ts31 (hai.ext B.keep) (D 11 rfl) (by first | (simp;done) | (simp;omega)) (D 12 rfl) (by omega) (zW he))) rfl rfl
      · exact Ob.q rfl (fun _ _ B U D=>(zA fo91_2 (D 13 rfl) rfl)) rfl rfl
      · exact Ob.q rfl (fun _ _ B U D=>(zE zM (D 14 rfl) ((hai.ext B.keep).cells (zW he)) (j:=2) rfl rfl)) rfl rfl
      · exact Ob.q rfl (fun _ _ B U D=>(zP (v:=(.agg #[(i e.day),(i e.zero),(i e.err)])) (pe (v:=(i e.day)) (D 5 rfl) (pe (v:=(i e.zero)) (D 10 rfl) (pe (v:=(i e.err)) (D 15 rfl) pn))) (fun w=>by kernel_rfl))) rfl rfl
      · exact Ob.mk rfl fun ρ' w' B U D=>d_row (e:=103) (cs:=[i e.day,i e.zero,i e.err]) rfl (pe (v:=(.agg #[(i e.day),(i e.zero),(i e.err)])) (D 16 rfl) pn) (fun w=>by kernel_rfl) fun b w2 k hc=>⟨k,b,rfl,hc⟩
    intro ρ11 w12 k13 U14 D15;replace H:=H.ext k13
    have f16:=(U14 0 rfl).trans f1
    have f17:=(U14 2 rfl).trans f2
    have f19:=(U14 4 rfl).trans f3
    have f20:ρ11 11=(.slice ar xs.length cr):=D15 0 rfl
    obtain ⟨b22,f21,c23⟩:=(show ∃ b,ρ11 28 = .slice (some ⟨b,0,none⟩) 1 1∧Cells w12 b 0 [i e.day,i e.zero,i e.err] from D15 17 rfl)
    clear U14 D15 k13
    replace H:S Nm w ([]++Lr) _:=H
    refine Ro.d rfl rfl rfl (H.appendE (enc:=iceV) (z:=e) hi9.1 tr49_24 rfl f20 f21 c23 rfl (by simp [iceV,Value.oneCell']) (by simp only [maxLen];omega) (by omega) ?_)
    intro a25 c26 Lr27 w28 hr29 Hn
    replace H:S Nm w ([]++Lr27) w28:=Hn;clear Hn
    refine Ro.q (v:=(.slice a25 ((xs++[e]).length) c26)) rfl rfl (zD rfl) rfl ?_
    refine Ro.nil (nB (nT (Wp.region ?_)))
    refine Ro.q (v:=(i n)) rfl rfl (zB f19) rfl ?_
    refine Ro.q rfl rfl (zU rfl rfl (by constructor <;>omega)) rfl ?_
    refine Ro.q (v:=(i (n+1))) rfl rfl (zD rfl) rfl ?_
    refine Ro.nil (nT ?_)
    exact ⟨((ices.length:Int)-(n+1)).toNat,by omega,(n+1),a25,c26,(xs++[e]),Lr27,rfl,(by omega),rfl,f16,f17,rfl,rfl,H,⟨hr29,by rw [hi9.2,take_succ' (by omega) he]⟩⟩
  intro c10
  have c10r:=c10
  simp only [bx] at c10
  refine Wp.exit (xT (xT (xB (nT (Wp.seq (Wp.region ?_))))))
  refine Ro.q (v:=(.slice ar xs.length cr)) rfl rfl (zB f4) rfl ?_
  refine Ro.q (v:=(.slice ar xs.length cr)) rfl rfl (zD rfl) rfl ?_
  refine Ro.nil (nT (Wp.ret (zN ?_)))
  refine zI (v:=(.slice ar xs.length cr)) Tryz.results20 rfl ⟨H.keep,?_⟩
  obtain rfl:xs=ices:=by rw [hi9.2];exact List.take_of_length_le (by omega)
  exact ⟨_,_,rfl,OwnRow.fsl (enc:=iceV) (fun _=>rfl) hi9.1 rfl H⟩
end Go.Proofs.YthfnjppieihcfaaGreat
namespace Men
open Go Go.Mw
def CopyI (F:MF) (n rr ss:Int) (G:MF):Prop:=∀ k r s,G k r s=true↔(k=n∧F n r s=true∧0≤r∧(0≤s∧s<31)∧(r<rr∨(r=rr∧s<ss)))
theorem CopyI.start {F:MF} {n:Int}:CopyI F n 0 0 zF:=fun k r s=>⟨fun h=>(by cases h),fun ⟨_,_,h1,h2,h3⟩=>by omega⟩
theorem CopyI.row {F:MF} {n rr:Int} {G:MF} (h:CopyI F n rr 31 G):CopyI F n (rr+1) 0 G:=fun k r s=>by
  rw [h k r s]
  constructor
  · rintro ⟨h1,h2,h3,h4,h5⟩;exact ⟨h1,h2,h3,h4,by omega⟩
  · rintro ⟨h1,h2,h3,h4,h5⟩;exact ⟨h1,h2,h3,h4,by omega⟩
theorem CopyI.step {F:MF} {n rr ss:Int} {G:MF} (h:CopyI F n rr ss G) (h1:0≤rr) (h2:0≤ss∧ss<31):CopyI F n rr (ss+1) (setF G n rr ss (F n rr ss)):=fun k r s=>by
  by_cases e:k=n∧r=rr∧s=ss
  · obtain ⟨rfl,rfl,rfl⟩:=e
    have:setF G k r s (F k r s) k r s=F k r s:=by unfold setF;simp
    rw [this]
    exact ⟨fun h=>⟨rfl,h,h1,h2,by omega⟩,fun h=>h.2.1⟩
  · have:(decide (k=n) && decide (r=rr) && decide (s=ss))=false:=by
      rw [← Bool.not_eq_true];simp only [Bool.and_eq_true,decide_eq_true_eq];rintro ⟨⟨a,b⟩,c⟩;exact e ⟨a,b,c⟩
    unfold setF;rw [this,cond_false,h k r s]
    constructor
    · rintro ⟨g1,g2,g3,g4,g5⟩;exact ⟨g1,g2,g3,g4,by omega⟩
    · rintro ⟨g1,g2,g3,g4,g5⟩;exact ⟨g1,g2,g3,g4,by
        by_cases e1:r=rr
        · have:s≠ss:=fun e2=>e ⟨g1,e1,e2⟩
          omega
        · omega⟩
def SeenG (G:MF) (base d rr ss z:Int):Prop:=∃ r s,(0≤r∧(0≤s∧s<31)∧(r<rr∨(r=rr∧s<ss)))∧G d r s=true∧z=base+r-s
def RgI (S:Int→Prop) (q:Rg):Prop:=((∀ z,¬ S z)∧q=⟨5000,-5000⟩)∨IsR S q
theorem RgI.congr {S S':Int→Prop} {q:Rg} (h:RgI S q) (hs : ∀ z,S z↔S' z):RgI S' q:=by
  have:S=S':=funext fun z=>propext (hs z)
  exact this ▸ h
theorem RgI.add {S S':Int→Prop} {q:Rg} {z:Int} (h:RgI S q) (hz : -5000≤z∧z≤5000) (hs : ∀ x,S' x↔S x∨x=z):RgI S' ⟨min q.lo z,max q.hi z⟩:=by
  rcases h with ⟨h0,rfl⟩ | h
  · have:=isR_first hs h0
    refine .inr ?_
    have e1:min (5000:Int) z=min z z:=by omega
    have e2:max (-5000:Int) z=max z z:=by omega
    show IsR S' ⟨min (5000:Int) z,max (-5000:Int) z⟩
    rw [e1,e2];exact this
  · exact .inr (isR_step hs h)
def ZI (g:Glass) (h:List Rg) (ices:List Ice) (d:Int) (G:MF) (zs:List Rg) (f:Bool):Prop :=
  zs.length=h.length∧(∀ k r s,In3 k r s→d≤k→k≤h.length→(G k r s=true↔Bk g h ices (h.length-k.toNat) k.toNat (r,s)))∧(∀ k r s,k<d→G k r s=false) ∧
  (∀ j:Nat,d.toNat≤j→j<h.length→IsR (Zset g h ices j) (vN zs j))∧(f=true∨d=h.length)
def ZQ (g:Glass) (h:List Rg) (ices:List Ice) (d:Int) (G:MF) (rr ss:Int) (zs:List Rg) (q:Rg) (f:Bool):Prop :=
  zs.length=h.length∧zs[(d-1).toNat]? = some q∧(∀ j:Nat,d.toNat≤j→j<h.length→IsR (Zset g h ices j) (vN zs j))∧RgI (SeenG G g.base d rr ss) q∧(f=true∨(d=h.length∧∀ z,¬ SeenG G g.base d rr ss z))
section
variable {g : Glass} {h : List Rg} {ices : List Ice} {d rr ss : Int} {F G G' : MF} {zs zs0 : List Rg} {q : Rg} {f f0 : Bool}
theorem ZI.start (hM:MapR g h ices F) (hC:CopyI F ((h.length:Nat):Int) 52 0 G) (hz:zs.length=h.length):ZI g h ices ((h.length:Nat):Int) G zs false:=by
  refine ⟨hz,fun k r s hi h1 h2=>?_,fun k r s hk=>?_,fun j h1 h2=>by omega,.inr rfl⟩
  · obtain rfl:k=h.length:=by omega
    rw [hC]
    have e:h.length-((h.length:Nat):Int).toNat=0:=by omega
    rw [e]
    show _↔R g h ices _ _
    rw [← hM _ r s hi (Int.le_refl _)]
    obtain ⟨_,h3,h4⟩:=hi
    exact ⟨fun x=>x.2.1,fun x=>⟨rfl,x,h3.1,h4,.inl h3.2⟩⟩
  · rw [← Bool.not_eq_true,hC];rintro ⟨h1,_⟩;omega
theorem ZQ.start (H:ZI g h ices d G zs f) (hd:0<d) (hl:d≤h.length):ZQ g h ices d G 0 0 (zs.set (d-1).toNat ⟨5000,-5000⟩) ⟨5000,-5000⟩ f:=by
  obtain ⟨h1,_,_,h4,h5⟩:=H
  have hn : ∀ z,¬ SeenG G g.base d 0 0 z:=by rintro z ⟨r,s,h1,_⟩;omega
  refine ⟨by simp [h1],List.getElem?_set_self (by omega),fun j g1 g2=>?_,.inl ⟨hn,rfl⟩,h5.imp id (fun h=>⟨h,hn⟩)⟩
  rw [dayRg_set (by omega),if_neg (by omega)];exact h4 j g1 g2
theorem seen_no (hG:G d rr ss=false) (base z:Int):SeenG G base d rr ss z↔SeenG G base d rr (ss+1) z:=by
  constructor
  · rintro ⟨r,s,h1,h2,h3⟩;exact ⟨r,s,by omega,h2,h3⟩
  · rintro ⟨r,s,h1,h2,h3⟩
    by_cases e:r=rr∧s=ss
    · rw [e.1,e.2,hG] at h2;cases h2
    · exact ⟨r,s,by omega,h2,h3⟩
theorem seen_yes (hG:G d rr ss=true) (h1:0≤rr) (h2:0≤ss∧ss<31) (base z:Int):SeenG G base d rr (ss+1) z↔SeenG G base d rr ss z∨z=base+rr-ss:=by
  constructor
  · rintro ⟨r,s,g1,g2,g3⟩
    by_cases e:r=rr∧s=ss
    · rw [e.1,e.2] at g3;exact .inr g3
    · exact .inl ⟨r,s,by omega,g2,g3⟩
  · rintro (⟨r,s,g1,g2,g3⟩ | e)
    · exact ⟨r,s,by omega,g2,g3⟩
    · exact ⟨rr,ss,by omega,hG,e⟩
theorem seen_row (base z:Int):SeenG G base d rr 31 z↔SeenG G base d (rr+1) 0 z:=by
  constructor <;>(rintro ⟨r,s,g1,g2,g3⟩;exact ⟨r,s,by omega,g2,g3⟩)
theorem ZQ.no (H:ZQ g h ices d G rr ss zs q f) (hG:G d rr ss=false):ZQ g h ices d G rr (ss+1) zs q f :=
  ⟨H.1,H.2.1,H.2.2.1,H.2.2.2.1.congr (seen_no hG g.base),H.2.2.2.2.imp id (fun x=>⟨x.1,fun z hz=>x.2 z ((seen_no hG g.base z).2 hz)⟩)⟩
theorem ZQ.row (H:ZQ g h ices d G rr 31 zs q f):ZQ g h ices d G (rr+1) 0 zs q f :=
  ⟨H.1,H.2.1,H.2.2.1,H.2.2.2.1.congr (seen_row g.base),H.2.2.2.2.imp id (fun x=>⟨x.1,fun z hz=>x.2 z ((seen_row g.base z).2 hz)⟩)⟩
theorem ZQ.yes (H:ZQ g h ices d G rr ss zs q f) (hG:G d rr ss=true) (h1:0≤rr) (h2:0≤ss∧ss<31) (hd:0<d) (hl:d≤h.length) (hz : -5000≤g.base+rr-ss∧g.base+rr-ss≤5000) :
    ZQ g h ices d G rr (ss+1) (zs.set (d-1).toNat ⟨min q.lo (g.base+rr-ss),max q.hi (g.base+rr-ss)⟩) ⟨min q.lo (g.base+rr-ss),max q.hi (g.base+rr-ss)⟩ true:=by
  have hl0:=H.1
  refine ⟨by simp [hl0],List.getElem?_set_self (by omega),fun j g1 g2=>?_,H.2.2.2.1.add hz (seen_yes hG h1 h2 g.base),.inl rfl⟩
  rw [dayRg_set (by omega),if_neg (by omega)];exact H.2.2.1 j g1 g2
def zK (g:Glass) (d:Int) (xs:List Int) (F:MF) (rr ss c fr x y:Int):Prop:=x=rr-c∧y=fr∧F (d-1) (rr-c) fr=true∧∃ b,(g.back.lo≤b∧b≤g.back.hi)∧∃ k∈xs,max (max (fr-b) 0) k=ss
def zC (g:Glass) (d:Int) (xs:List Int) (F:MF) (rr ss c:Int):Int→Int→Prop:=Ov 0 31 (zK g d xs F rr ss c)
def zS (g:Glass) (d:Int) (xs:List Int) (cr:Rg) (F G:MF) (rr ss x y:Int):Prop:=G d rr ss=true∧Ov cr.lo (cr.hi+1) (fun c x y=>c≤rr∧zC g d xs F rr ss c x y) x y
def zR (g:Glass) (d:Int) (xs:List Int) (cr:Rg) (F G:MF) (rr:Int):Int→Int→Prop:=Ov 0 31 (zS g d xs cr F G rr)
theorem up_to {D:Int} {F F0:MF} {lo hi n rr:Int} {b:Bool} {B:Int→Int→Int→Prop} (h:Up D F F0 (Ov lo n B)) (hn:lo≤n∧n≤hi+1) (hb:n=lo∨n≤rr+1) (hx : ¬ (n≤hi∧n≤rr)) (ht:b=true) :
    Up D F F0 (fun x y=>b=true∧Ov lo (hi+1) (fun c x y=>c≤rr∧B c x y) x y):=h.congr fun r s=>by
  constructor
  · rintro ⟨j,hj,hB⟩;exact ⟨ht,j,by omega,by omega,hB⟩
  · rintro ⟨_,j,hj,hr,hB⟩;exact ⟨j,by omega,hB⟩
theorem up_none {D:Int} {F:MF} {b:Bool} {Q:Int→Int→Prop} (hb:b=false):Up D F F (fun x y=>b=true∧Q x y):=Up.refl fun r s h=>by rw [hb] at h;cases h.1
theorem Bk_bd (o:GlassOk g) {k n:Nat} {t:St} (hb:Bk g h ices k n t):0≤t.1∧t.1≤3*(n:Int)∧0≤t.2∧t.2≤30:=R.bounds o hb.r
theorem ZI.next (o:GlassOk g) (hl:h.length≤16) (ha:Agree g h ices) (hM:MapR g h ices F) {r0:Rg} (H:ZI g h ices d G zs0 f0) (hd:0<d) (hdl:d≤h.length) (hr:h[(d-1).toNat]? = some r0) (HQ:ZQ g h ices d G 52 0 zs q f)
    (hU:Up (d-1) G' G (Ov 0 52 (zR g d (yU g.depths r0.lo r0.hi) (zL g.bands (d-1)) F G))):ZI g h ices (d-1) G' zs f:=by
  obtain ⟨q1,q2,q3,q4,q5⟩:=HQ
  obtain ⟨i1,i2,i3,i4,i5⟩:=H
  have en:d.toNat=(d-1).toNat+1:=by omega
  have ed:(((d-1).toNat:Nat):Int)=d-1:=by omega
  have er:vN h (d-1).toNat=r0:=by unfold vN;rw [List.getD_eq_getElem?_getD,hr];rfl
  have hseen : ∀ z,SeenG G g.base d 52 0 z↔Zset g h ices (d-1).toNat z:=by
    intro z
    unfold Zset
    rw [← en]
    constructor
    · rintro ⟨r,s,g1,g2,g3⟩
      exact ⟨(r,s),(i2 d r s ⟨by omega,by omega,by omega⟩ (Int.le_refl _) hdl).1 g2,g3⟩
    · rintro ⟨⟨r,s⟩,g1,g2⟩
      have hb:=Bk_bd o g1
      simp only at hb
      exact ⟨r,s,by omega,(i2 d r s ⟨by omega,by omega,by omega⟩ (Int.le_refl _) hdl).2 g1,g2⟩
  obtain ⟨t0,ht0⟩:=ha.back (d:=d.toNat) (by omega)
  have hz0:Zset g h ices (d-1).toNat (g.zero t0):=⟨t0,by rw [← en];exact ht0,rfl⟩
  refine ⟨q1,fun k r s hi h1 h2=>?_,fun k r s hk=>?_,fun j h1 h2=>?_,.inl ?_⟩
  · by_cases e:k=d-1
    · subst e
      rw [hU,i3 (d-1) r s (by omega)]
      have e1:h.length-(d-1).toNat=(h.length-d.toNat)+1:=by omega
      rw [e1]
      constructor
      · rintro (hf | ⟨_,rr,hrr,ss,hss,hG,c,hc,hcr,fr,hfr,rfl,rfl,hF,b,hb,k,hk,hmax⟩)
        · cases hf
        · refine ⟨(hM _ _ _ hi h2).1 hF,(rr,ss),⟨c,b,k,?_,hb,?_,?_⟩,?_⟩
          · rw [ed];exact ⟨hc.1,by omega⟩
          · rw [er];exact deepR_mem.1 hk
          · show (rr,ss)=(rr-c+c,max (max (s-b) 0) k)
            rw [hmax,show rr-c+c=rr by omega]
          · rw [← en];exact (i2 d rr ss ⟨by omega,by omega,by omega⟩ (Int.le_refl _) hdl).1 hG
      · rintro ⟨hR,⟨rr,ss⟩,⟨c,b,k,hc,hb,hk,ht⟩,hB⟩
        rw [← en] at hB
        rw [ed] at hc
        rw [er] at hk
        have hbd:=Bk_bd o hB
        have hbr:=R.bounds o hR
        unfold after at ht
        simp only [Prod.mk.injEq] at ht hbd hbr
        have h3:=ht.1;have h4:=ht.2
        have hc1:=hc.1;have hc2:=hc.2
        refine .inr ⟨rfl,rr,by omega,ss,by omega,(i2 d rr ss ⟨by omega,by omega,by omega⟩ (Int.le_refl _) hdl).2 hB,c,by omega,by omega,s,by omega,by omega,rfl,?_,b,hb,k,deepR_mem.2 hk,h4.symm⟩
        rw [show rr-c=r by omega]
        exact (hM _ _ _ hi h2).2 hR
    · rw [hU.off e];exact i2 k r s hi (by omega) h2
  · rw [hU.off (by omega)];exact i3 k r s (by omega)
  · by_cases e:j=(d-1).toNat
    · subst e
      have:vN zs (d-1).toNat=q:=by unfold vN;rw [List.getD_eq_getElem?_getD,q2];rfl
      rw [this]
      rcases q4 with ⟨hn,_⟩ | hq
      · exact absurd ((hseen _).2 hz0) (hn _)
      · have es:SeenG G g.base d 52 0=Zset g h ices (d-1).toNat:=funext fun z=>propext (hseen z)
        rw [es] at hq;exact hq
    · exact q3 j (by omega) h2
  · rcases q5 with h' | ⟨_,hn⟩
    · exact h'
    · exact absurd ((hseen _).2 hz0) (hn _)
theorem ZI.done (H:ZI g h ices d G zs f) (hd:d≤0) (h0:0≤d) (hl:0<h.length):ZerosAre g h ices zs∧f=true:=by
  obtain ⟨i1,_,_,i4,i5⟩:=H
  exact ⟨⟨i1,fun j hj=>i4 j (by omega) hj⟩,i5.elim id (fun h=>by omega)⟩
end
end Men
namespace Go.Proofs.YthfnjppieihcfaaGreat
open Go.RowKit Go.Proofs Go.Mw
theorem en66:Go.Proofs.Enters Tryz.prog 66:=Go.Proofs.enters_of Tryz.func66 (by kernel_rfl) rfl
theorem tr30_16:TR Tryz.prog 30 25 2 16:=⟨Tryz.underlying30,(Tryz.prog.info? 25).get!,((Tryz.prog.info? 25).get!.zero).get!,by kernel_rfl,by kernel_rfl,by kernel_rfl,by kernel_rfl,by kernel_rfl,by decide⟩
open Men
open Classical in
theorem leadsD_iff {lo hi f to:Int} {xs:List Int}:leadsD lo hi xs f to=true↔leadsB lo hi xs f to:=by unfold leadsD;simp
theorem ZQ.row' {g:Glass} {h:List Rg} {ices:List Ice} {d rr ss:Int} {G:MF} {zs:List Rg} {q:Rg} {f:Bool} (H:ZQ g h ices d G rr ss zs q f) (e:ss=31):ZQ g h ices d G (rr+1) 0 zs q f:=ZQ.row (e ▸ H)
theorem ZQ.at52 {g:Glass} {h:List Rg} {ices:List Ice} {d rr ss:Int} {G:MF} {zs:List Rg} {q:Rg} {f:Bool} (H:ZQ g h ices d G rr ss zs q f) (e:rr=52):ZQ g h ices d G 52 ss zs q f:=e ▸ H
theorem up_lead {g:Glass} {d:Int} {xs:List Int} {F G:MF} {rr ss c fr:Int} (h:F (d-1) (rr-c) fr=true∧leadsD g.back.lo g.back.hi xs fr ss=true):Up (d-1) (setF G (d-1) (rr-c) fr true) G (zK g d xs F rr ss c fr):=Up.add.congr fun r s =>
  ⟨fun ⟨h1,h2⟩=>⟨h1,h2,h.1,leadsD_iff.1 h.2⟩,fun ⟨h1,h2,_⟩=>⟨h1,h2⟩⟩
theorem up_nolead {g:Glass} {d:Int} {xs:List Int} {F G:MF} {rr ss c fr:Int} (h : ¬ (F (d-1) (rr-c) fr=true∧leadsD g.back.lo g.back.hi xs fr ss=true)):Up (d-1) G G (zK g d xs F rr ss c fr):=Up.refl fun r s ⟨_,_,h3,h4⟩=>h ⟨h3,leadsD_iff.2 h4⟩
set_option maxHeartbeats 2000000 in
theorem c24 {t:Tb} {ab ad ah ai:Option Addr} {h:List Rg} {ices:List Ice} {cab cad cah cai:Nat} (w:World) (hab:Sl w 3 (t.bs.map yH) ab) (had:Sl w 2 (t.dl.map zZ) ad) (hah:Sl w 2 (h.map rgV) ah) (hai:Sl w 3 (ices.map iceV) ai) (oG:GlassOk t.glass) (oH:HistOk h) (oI:IcesOk h ices) (ha:Agree t.glass h ices):Ret Tryz.prog 24 [(.agg #[(i t.base),(.slice ab t.bs.length cab),(.slice ad t.dl.length cad),(i t.blo),(i t.bhi)]),(.slice ah h.length cah),(.slice ai ices.length cai),(.slice none 0 0)] w fun v w'=>∃ a c zs b ob,v = .tuple #[.slice a h.length c,.bool true]∧S Nm w [(b,ob)] w'∧InB b ob 2 (zs.map rgV) a∧ZerosAre t.glass h ices zs:=by
  have hhl:=oH.len
  have hba : -1000≤t.base∧t.base≤1000:=oG.base
  have hbk:0≤t.blo∧t.blo≤t.bhi∧t.bhi≤5:=oG.back
  have hil:=oI.len
  have hin : ∀ e,e∈ices→(-1000000≤e.zero∧e.zero≤1000000)∧(-1000000≤e.err∧e.err≤1000000):=fun e he=>by have:=oI.each e he;omega
  refine Ret.body (N:=169) Tryz.func24 rfl Tryz.ntmps24 rfl ?_
  have H:=S.start Nm w
  refine Wp.seq (Wp.region ?_)
  refine Ro.d rfl rfl rfl (H.box (l:=[i t.base,.slice ab t.bs.length cab,.slice ad t.dl.length cad,i t.blo,i t.bhi]) rfl (v:=(.agg #[(i t.base),(.slice ab t.bs.length cab),(.slice ad t.dl.length cad),(i t.blo),(i t.bhi)])) rfl rfl ?_)
  intro b1 w2 Hn;replace H:=Hn;clear Hn
  refine Ro.q (v:=(.slice none 0 0)) rfl rfl (zD rfl) rfl ?_
  refine Ro.q (v:=(.bool false)) rfl rfl (zD rfl) rfl ?_
  refine Ro.nil (nT (Wp.seq (Wp.region ?_)))
  refine Ro.q rfl rfl (zJ ta27 rfl (H.cells 0 rfl) (j:=0) rfl (vs:=[i t.base,.slice ab t.bs.length cab,.slice ad t.dl.length cad,i t.blo,i t.bhi]) rfl rfl) rfl ?_
  refine Ro.q (v:=(.slice ah h.length cah)) rfl rfl (zB rfl) rfl ?_
  refine Ro.q (v:=(.slice ai ices.length cai)) rfl rfl (zB rfl) rfl ?_
  refine Ro.q (v:=(.slice none 0 0)) rfl rfl (zB rfl) rfl ?_
  refine Ro.d rfl rfl rfl (zH rfl en63 (ce (v:=(.agg #[(i t.base),(.slice ab t.bs.length cab),(.slice ad t.dl.length cad),(i t.blo),(i t.bhi)])) rfl (ce (v:=(.slice ah h.length cah)) rfl (ce (v:=(.slice ai ices.length cai)) rfl (ce (v:=(.slice none 0 0)) rfl cn)))) (c63 _ (hab.ext H.keep) (had.ext H.keep) (hah.ext H.keep) (hai.ext H.keep) oG oH oI) ?_)
  have Hc5:=H
  rintro u w3 k4 ⟨bm,F,rfl,hS,hM⟩
  replace H:=H.ext k4
  replace H:S Nm w [(bm,.cells (vK F).toArray 128 (0,0)),(b1,.cells [i t.base,.slice ab t.bs.length cab,.slice ad t.dl.length cad,i t.blo,i t.bhi].toArray 27 (0,0))] w3:=Hc5.join hS
  refine Ro.q (v:=(p bm 0)) rfl rfl (zD rfl) rfl ?_
  refine Ro.nil (nT (Wp.seq (Wp.region ?_)))
  refine Ro.q (v:=(.slice ah h.length cah)) rfl rfl (zB rfl) rfl ?_
  refine Ro.q rfl rfl (yG Tryz.underlying30 rfl (v:=h.length) rfl) rfl ?_
  refine Ro.q (v:=(i ((h.length:Nat):Int))) rfl rfl (zD rfl) rfl ?_
  refine Ro.nil (nT (Wp.seq (Wp.region ?_)))
  refine Ro.q (v:=(i ((h.length:Nat):Int))) rfl rfl (zB rfl) rfl ?_
  refine Ro.d rfl rfl rfl (H.makeSlice (enc:=rgV) (z0:=⟨0,0⟩) (n:=h.length) (fun _=>rfl) tr30_16 zv25 rfl rfl rfl rfl (by omega) (by simp only [maxLen];omega) ?_)
  intro bo w6 Hn;rw [← List.append_nil (((List.replicate h.length (⟨0,0⟩:Rg)).map rgV).flatten)] at Hn
  replace H:S Nm w [(bo,.cells (((List.replicate h.length (⟨0,0⟩:Rg)).map rgV).flatten++([]:List Value)).toArray 25 (0,0)),(bm,.cells (vK F).toArray 128 (0,0)),(b1,.cells [i t.base,.slice ab t.bs.length cab,.slice ad t.dl.length cad,i t.blo,i t.bhi].toArray 27 (0,0))] w6:=Hn;clear Hn
  refine Ro.q (v:=(.slice (some ⟨bo,0,none⟩) h.length h.length)) rfl rfl (zD rfl) rfl ?_
  refine Ro.nil (nT (Wp.seq (Wp.region ?_)))
  refine Ro.d rfl rfl rfl (H.new (l:=vK zF) rfl zvM zcM ?_)
  intro bm7 w8 Hn;replace H:=Hn;clear Hn
  refine Ro.nil (nT (Wp.seq (Wp.seq (Wp.region ?_))))
  refine Ro.q (v:=(i 0)) rfl rfl (zD rfl) rfl ?_
  refine Ro.nil (nT (Wp.block ?_))
  refine Wp.loop (fun kM ds ρ w'=>∃ rr:Int,∃ G1:MF,ds=[]∧(0≤rr∧rr≤52)∧kM=(52-rr:Int).toNat∧ρ 1=(.slice ah h.length cah)∧ρ 4=(p b1 0)∧ρ 8=(.slice none 0 0)∧ρ 9=(.bool false)∧ρ 10=(p bm 0)∧ρ 11=(i ((h.length:Nat):Int))∧ρ 12=(.slice (some ⟨bo,0,none⟩) h.length h.length)∧ρ 13=(p bm7 0)∧ρ 14=(i rr)∧S Nm w [(bm7,.cells (vK G1).toArray 128 (0,0)),(bo,.cells (((List.replicate h.length (⟨0,0⟩:Rg)).map rgV).flatten++([]:List Value)).toArray 25 (0,0)),(bm,.cells (vK F).toArray 128 (0,0)),(b1,.cells [i t.base,.slice ab t.bs.length cab,.slice ad t.dl.length cad,i t.blo,i t.bhi].toArray 27 (0,0))] w'∧(CopyI F ((h.length:Nat):Int) rr 0 G1)) ((52-0:Int).toNat) ⟨0,zF,rfl,(by omega),rfl,rfl,rfl,rfl,rfl,rfl,rfl,rfl,rfl,rfl,H,CopyI.start⟩ ?_
  clear H
  intro kρ18 dsρ18 ρ18 w19
  rintro ⟨rr,G1,rfl,hb21,hk20,f9,f10,f11,f12,f13,f14,f15,f16,f17,H,hi22⟩
  refine Wp.seq (Wp.seq (Wp.region ?_))
  refine Ro.q (v:=(i rr)) rfl rfl (zB f17) rfl ?_
  refine Ro.q rfl rfl (yB rfl rfl) rfl ?_
  refine Ro.nil (nT ?_)
  refine Wp.cond (t:=decide (rr<52)) rfl ?_ ?_
  · intro c23
    have c23r:=c23
    simp only [bx] at c23
    refine Wp.skip (nT (Wp.seq (Wp.block (Wp.seq (Wp.region ?_)))))
    refine Ro.q (v:=(i 0)) rfl rfl (zD rfl) rfl ?_
    refine Ro.nil (nT (Wp.block ?_))
    refine Wp.loop (fun kM ds ρ w'=>∃ ss:Int,∃ G2:MF,ds=[]∧(0≤ss∧ss≤31)∧kM=(31-ss:Int).toNat∧ρ 1=(.slice ah h.length cah)∧ρ 4=(p b1 0)∧ρ 8=(.slice none 0 0)∧ρ 9=(.bool false)∧ρ 10=(p bm 0)∧ρ 11=(i ((h.length:Nat):Int))∧ρ 12=(.slice (some ⟨bo,0,none⟩) h.length h.length)∧ρ 13=(p bm7 0)∧ρ 14=(i rr)∧ρ 15=(i ss)∧S Nm w [(bm7,.cells (vK G2).toArray 128 (0,0)),(bo,.cells (((List.replicate h.length (⟨0,0⟩:Rg)).map rgV).flatten++([]:List Value)).toArray 25 (0,0)),(bm,.cells (vK F).toArray 128 (0,0)),(b1,.cells [i t.base,.slice ab t.bs.length cab,.slice ad t.dl.length cad,i t.blo,i t.bhi].toArray 27 (0,0))] w'∧(CopyI F ((h.length:Nat):Int) rr ss G2)) ((31-0:Int).toNat) ⟨0,G1,rfl,(by omega),rfl,f9,f10,f11,f12,f13,f14,f15,f16,f17,rfl,H,hi22⟩ ?_
    clear H
    intro kρ34 dsρ34 ρ34 w35
    rintro ⟨ss,G2,rfl,hb37,hk36,f24,f25,f26,f27,f28,f29,f30,f31,f32,f33,H,hi38⟩
    refine Wp.seq (Wp.seq (Wp.region ?_))
    refine Ro.q (v:=(i ss)) rfl rfl (zB f33) rfl ?_
    refine Ro.q rfl rfl (yB rfl rfl) rfl ?_
    refine Ro.nil (nT ?_)
    refine Wp.cond (t:=decide (ss<31)) rfl ?_ ?_
    · intro c39
      have c39r:=c39
      simp only [bx] at c39
      refine Wp.skip (nT (Wp.seq (Wp.block ?_)))
      let qq40:Bool:=(F ((h.length:Nat):Int) rr ss)
      refine Wp.drawnS 15 [0,0,0,0,0,0,0,8,152,440,1016,2040,1,4099,16383,32767] [is (i ((h.length:Nat):Int)),is (i rr),is (i ss),is (p bm 0),is (i ((h.length:Nat):Int)),is (i rr),is (i ss),is (p bm 0),is (p bm (0+((h.length:Nat):Int).toNat*1612)),is (p bm (0+((h.length:Nat):Int).toNat*1612+rr.toNat*31)),is (p bm (ix3 ((h.length:Nat):Int) rr ss)),is (.bool qq40),is (p bm7 (0+((h.length:Nat):Int).toNat*1612)),is (p bm7 (0+((h.length:Nat):Int).toNat*1612+rr.toNat*31)),is (p bm7 (ix3 ((h.length:Nat):Int) rr ss))] (by kernel_rfl) (by kernel_rfl) rfl (Mi (Mi (Mi (Mi (Mi (Mi (Mi (Mi (Mi (Mi (Mi (Mi (Mi (Mi (Mi Mono.nil))))))))))))))) (fun w' k=>H.ext k) ?_ ?_
      · refine ⟨?_,?_,?_,?_,?_,?_,?_,?_,?_,?_,?_,?_,?_,?_,?_,trivial⟩
        · exact Ob.q rfl (fun _ _ B U D=>(zB ((U 11 rfl).trans f29))) rfl rfl
        · exact Ob.q rfl (fun _ _ B U D=>(zB ((U 14 rfl).trans f32))) rfl rfl
        · exact Ob.q rfl (fun _ _ B U D=>(zB ((U 15 rfl).trans f33))) rfl rfl
        · exact Ob.q rfl (fun _ _ B U D=>(zB ((U 10 rfl).trans f28))) rfl rfl
        · exact Ob.q rfl (fun _ _ B U D=>(zB ((U 11 rfl).trans f29))) rfl rfl
        · exact Ob.q rfl (fun _ _ B U D=>(zB ((U 14 rfl).trans f32))) rfl rfl
        · exact Ob.q rfl (fun _ _ B U D=>(zB ((U 15 rfl).trans f33))) rfl rfl
        · exact Ob.q rfl (fun _ _ B U D=>(r_nilCheck (D 3 rfl))) rfl rfl
        · exact Ob.q rfl (fun _ _ B U D=>(yJ Tryz.underlying128 sz126 (D 7 rfl) (D 4 rfl) (by omega) rfl)) rfl rfl
        · exact Ob.q rfl (fun _ _ B U D=>(yJ Tryz.underlying126 sz125 (D 8 rfl) (D 5 rfl) (by omega) rfl)) rfl rfl
        · exact Ob.q rfl (fun _ _ B U D=>(yJ Tryz.underlying125 sz4 (D 9 rfl) (D 6 rfl) (by omega) rfl)) rfl rfl
        · exact Ob.q rfl (fun _ _ B U D=>(zE t1_4 (D 10 rfl) (B.cells 2 rfl) (j:=(ix3 ((h.length:Nat):Int) rr ss)) (Nat.zero_add _).symm (mapC_at ⟨by omega,by omega,by omega⟩))) rfl rfl
        · exact Ob.q rfl (fun _ _ B U D=>(yJ Tryz.underlying128 sz126 ((U 13 rfl).trans f31) (D 0 rfl) (by omega) rfl)) rfl rfl
        · exact Ob.q rfl (fun _ _ B U D=>(yJ Tryz.underlying126 sz125 (D 12 rfl) (D 1 rfl) (by omega) rfl)) rfl rfl
        · exact Ob.q rfl (fun _ _ B U D=>(yJ Tryz.underlying125 sz4 (D 13 rfl) (D 2 rfl) (by omega) rfl)) rfl rfl
      intro ρ41 w42 k43 U44 D45;replace H:=H.ext k43
      have f46:=(U44 1 rfl).trans f24
      have f47:=(U44 4 rfl).trans f25
      have f48:=(U44 8 rfl).trans f26
      have f49:=(U44 9 rfl).trans f27
      have f50:=(U44 10 rfl).trans f28
      have f51:=(U44 11 rfl).trans f29
      have f52:=(U44 12 rfl).trans f30
      have f53:=(U44 13 rfl).trans f31
      have f54:=(U44 14 rfl).trans f32
      have f55:=(U44 15 rfl).trans f33
      have f56:ρ41 53=(.bool qq40):=D45 11 rfl
      have f57:ρ41 56=(p bm7 (ix3 ((h.length:Nat):Int) rr ss)):=D45 14 rfl
      clear U44 D45 k43
      refine Ro.d0 rfl rfl rfl (H.store (j:=0) (off:=(ix3 ((h.length:Nat):Int) rr ss)) (k:=1) rfl sz4 f57 (v:=(.bool qq40)) f56 rfl rfl rfl (mapC_ble ⟨by omega,by omega,by omega⟩) (by simp [Value.oneCell']) (mapC_set ⟨by omega,by omega,by omega⟩) ?_)
      intro w58 Hn;replace H:S Nm w [(bm7,.cells (vK (setF G2 ((h.length:Nat):Int) rr ss qq40)).toArray 128 (0,0)),(bo,.cells (((List.replicate h.length (⟨0,0⟩:Rg)).map rgV).flatten++([]:List Value)).toArray 25 (0,0)),(bm,.cells (vK F).toArray 128 (0,0)),(b1,.cells [i t.base,.slice ab t.bs.length cab,.slice ad t.dl.length cad,i t.blo,i t.bhi].toArray 27 (0,0))] w58:=Hn;clear Hn
      refine Ro.nil (nB (nT (Wp.region ?_)))
      refine Ro.q (v:=(i ss)) rfl rfl (zB f55) rfl ?_
      refine Ro.q rfl rfl (zU rfl rfl (by constructor <;>omega)) rfl ?_
      refine Ro.q (v:=(i (ss+1))) rfl rfl (zD rfl) rfl ?_
      refine Ro.nil (nT ?_)
      exact ⟨(31-(ss+1):Int).toNat,by omega,(ss+1),(setF G2 ((h.length:Nat):Int) rr ss qq40),rfl,(by omega),rfl,f46,f47,f48,f49,f50,f51,f52,f53,f54,rfl,H,(CopyI.step hi38 (by omega) (by omega))⟩
    intro c39
    have c39r:=c39
    simp only [bx] at c39
    refine Wp.exit (xT (xT (xB (nB (nT (Wp.region ?_))))))
    refine Ro.q (v:=(i rr)) rfl rfl (zB f32) rfl ?_
    refine Ro.q rfl rfl (zU rfl rfl (by constructor <;>omega)) rfl ?_
    refine Ro.q (v:=(i (rr+1))) rfl rfl (zD rfl) rfl ?_
    refine Ro.nil (nT ?_)
    exact ⟨(52-(rr+1):Int).toNat,by omega,(rr+1),G2,rfl,(by omega),rfl,f24,f25,f26,f27,f28,f29,f30,f31,rfl,H,(CopyI.row ((show ss=31 by omega) ▸ hi38))⟩
  intro c23
  have c23r:=c23
  simp only [bx] at c23
  refine Wp.exit (xT (xT (xB (nT (Wp.seq (Wp.region ?_))))))
  refine Ro.q (v:=(.bool false)) rfl rfl (zD rfl) rfl ?_
  refine Ro.nil (nT (Wp.seq (Wp.seq (Wp.region ?_))))
  refine Ro.q (v:=(i ((h.length:Nat):Int))) rfl rfl (zB f14) rfl ?_
  refine Ro.q (v:=(i ((h.length:Nat):Int))) rfl rfl (zD rfl) rfl ?_
  refine Ro.nil (nT (Wp.block ?_))
  obtain rfl:rr=52:=by omega
  refine Wp.loop (fun kM ds ρ w'=>∃ d:Int,∃ G:MF,∃ zs:List Rg,∃ f:Bool,ds=[]∧(0≤d∧d≤h.length)∧kM=d.toNat∧ρ 1=(.slice ah h.length cah)∧ρ 4=(p b1 0)∧ρ 8=(.slice none 0 0)∧ρ 9=(.bool false)∧ρ 10=(p bm 0)∧ρ 12=(.slice (some ⟨bo,0,none⟩) h.length h.length)∧ρ 13=(p bm7 0)∧ρ 17=(i d)∧ρ 16=(.bool f)∧S Nm w [(bm7,.cells (vK G).toArray 128 (0,0)),(bo,.cells ((zs.map rgV).flatten++([]:List Value)).toArray 25 (0,0)),(bm,.cells (vK F).toArray 128 (0,0)),(b1,.cells [i t.base,.slice ab t.bs.length cab,.slice ad t.dl.length cad,i t.blo,i t.bhi].toArray 27 (0,0))] w'∧(ZI t.glass h ices d G zs f)) (((h.length:Nat):Int).toNat) ⟨((h.length:Nat):Int),G1,(List.replicate h.length (⟨0,0⟩:Rg)),false,rfl,(by omega),rfl,f9,f10,f11,f12,f13,f15,f16,rfl,rfl,H,(ZI.start hM hi22 (by simp))⟩ ?_
  clear H
  intro kρ68 dsρ68 ρ68 w69
  rintro ⟨d,G,zs,f,rfl,hb71,hk70,f59,f60,f61,f62,f63,f64,f65,f66,f67,H,hi72⟩
  refine Wp.seq (Wp.seq (Wp.region ?_))
  refine Ro.q (v:=(i d)) rfl rfl (zB f66) rfl ?_
  refine Ro.q rfl rfl (r_gtr rfl rfl) rfl ?_
  refine Ro.nil (nT ?_)
  refine Wp.cond (t:=decide (0<d)) rfl ?_ ?_
  · intro c73
    have c73r:=c73
    simp only [bx] at c73
    obtain ⟨r0,hr0⟩:=vQ h (d-1) (by omega) (by omega)
    have hzl:=hi72.1
    obtain ⟨q0,hq0⟩:=vQ zs (d-1) (by omega) (by omega)
    have hr5:=oH.each r0 (List.mem_of_getElem? hr0)
    unfold Men.Rg.to at hr5
    have hcr:0≤(zL t.bs (d-1)).lo∧(zL t.bs (d-1)).lo≤(zL t.bs (d-1)).hi∧(zL t.bs (d-1)).hi≤3:=creepOf_to oG (d-1)
    have hdl:(yU t.dl r0.lo r0.hi).length≤501:=Nat.le_trans (deepL_len _) (by omega)
    refine Wp.skip (nT (Wp.seq (Wp.block (Wp.seq (Wp.region ?_)))))
    refine Ro.q (v:=(.slice (some ⟨bo,0,none⟩) h.length h.length)) rfl rfl (zB f64) rfl ?_
    refine Ro.q (v:=(i d)) rfl rfl (zB f66) rfl ?_
    refine Ro.q rfl rfl (yT rfl rfl (by constructor <;>omega)) rfl ?_
    refine Ro.q (v:=(.agg #[(i 5000),(i (-5000))])) rfl rfl (zP (v:=(.agg #[(i 5000),(i (-5000))])) (pe (v:=(i 5000)) rfl (pe (v:=(i (-5000))) rfl pn)) (fun w=>by kernel_rfl)) rfl ?_
    refine Ro.q rfl rfl (zY ts30 ((Sl.block (enc:=rgV) (fun _=>rfl) (H.at 1 rfl))) rfl (by first | (simp;done) | (simp;omega)) rfl (by omega) (zW hq0)) rfl ?_
    refine Ro.d0 rfl rfl rfl (H.setE (enc:=rgV) (k:=2) (fun _=>rfl) (g:=bo) (j:=1) (u:=25) (q:=(d-1).toNat) (xs:=zs) (tl:=[]) (z:=⟨5000,-5000⟩) sz25 rfl rfl (Nat.zero_add _) (v:=(.agg #[(i 5000),(i (-5000))])) rfl rfl (by simp [rgV,Value.oneCell']) rfl (by omega) ?_)
    intro w74 Hn;replace H:S Nm w [(bm7,.cells (vK G).toArray 128 (0,0)),(bo,.cells (((zs.set (d-1).toNat ⟨5000,-5000⟩).map rgV).flatten++([]:List Value)).toArray 25 (0,0)),(bm,.cells (vK F).toArray 128 (0,0)),(b1,.cells [i t.base,.slice ab t.bs.length cab,.slice ad t.dl.length cad,i t.blo,i t.bhi].toArray 27 (0,0))] w74:=Hn;clear Hn
    refine Ro.nil (nT (Wp.seq ?_))
    obtain ⟨nB75,hB75,hL75,hW75⟩:=H.bound
    have hMo:Mono [is (.agg #[(i t.base),(.slice ab t.bs.length cab),(.slice ad t.dl.length cad),(i t.blo),(i t.bhi)]),is (i d),is (i (d-1)),is (.agg #[(i ((zL t.bs (d-1)).lo)),(i ((zL t.bs (d-1)).hi))]),is (.agg #[(i t.base),(.slice ab t.bs.length cab),(.slice ad t.dl.length cad),(i t.blo),(i t.bhi)]),is (.slice ah h.length cah),is (i d),is (i (d-1)),is (p (blk ah) (yP ah+((d-1).toNat)*2)),is (.agg #[(i r0.lo),(i r0.hi)]),RTyAt 3 1 ((yU t.dl r0.lo r0.hi).length) ((yU t.dl r0.lo r0.hi).map yD) nB75,fun _ _=>True]:=(Mi (Mi (Mi (Mi (Mi (Mi (Mi (Mi (Mi (Mi (MRTy (Mono.c Mono.nil))))))))))))
    have hBB : ∀ (done:Nat→Bool) (ρ':Env) (w':World),(∃ bA11:Nat,(done 11=true→ρ' 18=p bA11 0)∧S Nm w ((bif done 11 then [(bA11,(.cells [i 0,i 0].toArray 25 (0,0):Obj))] else [])++[(bm7,.cells (vK G).toArray 128 (0,0)),(bo,.cells (((zs.set (d-1).toNat ⟨5000,-5000⟩).map rgV).flatten++([]:List Value)).toArray 25 (0,0)),(bm,.cells (vK F).toArray 128 (0,0)),(b1,.cells [i t.base,.slice ab t.bs.length cab,.slice ad t.dl.length cad,i t.blo,i t.bhi].toArray 27 (0,0))]) w'∧nB75≤w'.heap.size)→S Nm w [(bm7,.cells (vK G).toArray 128 (0,0)),(bo,.cells (((zs.set (d-1).toNat ⟨5000,-5000⟩).map rgV).flatten++([]:List Value)).toArray 25 (0,0)),(bm,.cells (vK F).toArray 128 (0,0)),(b1,.cells [i t.base,.slice ab t.bs.length cab,.slice ad t.dl.length cad,i t.blo,i t.bhi].toArray 27 (0,0))] w'∧nB75≤w'.heap.size:=fun done ρ' w' ⟨bA11,eA11,Hn,hzz⟩=>⟨Hn.part,hzz⟩
    refine Wp.drawnG 12 [0,0,2,7,0,0,0,64,224,480,1023,0,4095,8191] [is (.agg #[(i t.base),(.slice ab t.bs.length cab),(.slice ad t.dl.length cad),(i t.blo),(i t.bhi)]),is (i d),is (i (d-1)),is (.agg #[(i ((zL t.bs (d-1)).lo)),(i ((zL t.bs (d-1)).hi))]),is (.agg #[(i t.base),(.slice ab t.bs.length cab),(.slice ad t.dl.length cad),(i t.blo),(i t.bhi)]),is (.slice ah h.length cah),is (i d),is (i (d-1)),is (p (blk ah) (yP ah+((d-1).toNat)*2)),is (.agg #[(i r0.lo),(i r0.hi)]),RTyAt 3 1 ((yU t.dl r0.lo r0.hi).length) ((yU t.dl r0.lo r0.hi).map yD) nB75,fun _ _=>True] (fun done ρ' w'=>∃ bA11:Nat,(done 11=true→ρ' 18=p bA11 0)∧S Nm w ((bif done 11 then [(bA11,(.cells [i 0,i 0].toArray 25 (0,0):Obj))] else [])++[(bm7,.cells (vK G).toArray 128 (0,0)),(bo,.cells (((zs.set (d-1).toNat ⟨5000,-5000⟩).map rgV).flatten++([]:List Value)).toArray 25 (0,0)),(bm,.cells (vK F).toArray 128 (0,0)),(b1,.cells [i t.base,.slice ab t.bs.length cab,.slice ad t.dl.length cad,i t.blo,i t.bhi].toArray 27 (0,0))]) w'∧nB75≤w'.heap.size) (by kernel_rfl) (by kernel_rfl) rfl (fun w' k=>⟨0,(fun h=>by cases h),H.ext k,Nat.le_trans hB75 k.size⟩) ?_ ?_
    · refine ⟨?_,?_,?_,?_,?_,?_,?_,?_,?_,?_,?_,?_,trivial⟩
      · exact ObG.to hBB hMo (fun _ _ _ _ _ ⟨bA11,eA11,Hn,hzz⟩ k=>⟨bA11,eA11,Hn.ext k,Nat.le_trans hzz k.size⟩) (Ob.q rfl (fun _ _ B U D=>(zJ ta27 ((U 4 rfl).trans f60) (B.1.cells 3 rfl) (j:=0) rfl (vs:=[i t.base,.slice ab t.bs.length cab,.slice ad t.dl.length cad,i t.blo,i t.bhi]) rfl rfl)) rfl rfl)
      · exact ObG.to hBB hMo (fun _ _ _ _ _ ⟨bA11,eA11,Hn,hzz⟩ k=>⟨bA11,eA11,Hn.ext k,Nat.le_trans hzz k.size⟩) (Ob.q rfl (fun _ _ B U D=>(zB ((U 17 rfl).trans f66))) rfl rfl)
      · exact ObG.to hBB hMo (fun _ _ _ _ _ ⟨bA11,eA11,Hn,hzz⟩ k=>⟨bA11,eA11,Hn.ext k,Nat.le_trans hzz k.size⟩) (Ob.q rfl (fun _ _ B U D=>(yT (D 1 rfl) rfl (by constructor <;>omega))) rfl rfl)
      · exact ObG.to hBB hMo (fun _ _ _ _ _ ⟨bA11,eA11,Hn,hzz⟩ k=>⟨bA11,eA11,Hn.ext k,Nat.le_trans hzz k.size⟩) (Ob.mk rfl fun ρ' w' B U D=>zH rfl en64 (ce (v:=(.agg #[(i t.base),(.slice ab t.bs.length cab),(.slice ad t.dl.length cad),(i t.blo),(i t.bhi)])) (D 0 rfl) (ce (v:=(i (d-1))) (D 2 rfl) cn)) (c64 t.base t.blo t.bhi (d-1) ab t.bs cab ad t.dl cad _ (hab.ext B.1.keep) (had.ext B.1.keep) oG.bands3) (fun u w2 k2 hu=>⟨k2,hu⟩))
      · exact ObG.to hBB hMo (fun _ _ _ _ _ ⟨bA11,eA11,Hn,hzz⟩ k=>⟨bA11,eA11,Hn.ext k,Nat.le_trans hzz k.size⟩) (Ob.q rfl (fun _ _ B U D=>(zJ ta27 ((U 4 rfl).trans f60) (B.1.cells 3 rfl) (j:=0) rfl (vs:=[i t.base,.slice ab t.bs.length cab,.slice ad t.dl.length cad,i t.blo,i t.bhi]) rfl rfl)) rfl rfl)
      · exact ObG.to hBB hMo (fun _ _ _ _ _ ⟨bA11,eA11,Hn,hzz⟩ k=>⟨bA11,eA11,Hn.ext k,Nat.le_trans hzz k.size⟩) (Ob.q rfl (fun _ _ B U D=>(zB ((U 1 rfl).trans f59))) rfl rfl)
      · exact ObG.to hBB hMo (fun _ _ _ _ _ ⟨bA11,eA11,Hn,hzz⟩ k=>⟨bA11,eA11,Hn.ext k,Nat.le_trans hzz k.size⟩) (Ob.q rfl (fun _ _ B U D=>(zB ((U 17 rfl).trans f66))) rfl rfl)
      · exact ObG.to hBB hMo (fun _ _ _ _ _ ⟨bA11,eA11,Hn,hzz⟩ k=>⟨bA11,eA11,Hn.ext k,Nat.le_trans hzz k.size⟩) (Ob.q rfl (fun _ _ B U D=>(yT (D 6 rfl) rfl (by constructor <;>omega))) rfl rfl)
      · exact ObG.to hBB hMo (fun _ _ _ _ _ ⟨bA11,eA11,Hn,hzz⟩ k=>⟨bA11,eA11,Hn.ext k,Nat.le_trans hzz k.size⟩) (Ob.q rfl (fun _ _ B U D=>(zY ts30 (hah.ext B.1.keep) (D 5 rfl) (by first | (simp;done) | (simp;omega)) (D 7 rfl) (by omega) (zW hr0))) rfl rfl)
      · exact ObG.to hBB hMo (fun _ _ _ _ _ ⟨bA11,eA11,Hn,hzz⟩ k=>⟨bA11,eA11,Hn.ext k,Nat.le_trans hzz k.size⟩) (Ob.q rfl (fun _ _ B U D=>(zJ ta25 (D 8 rfl) ((hah.ext B.1.keep).cells (zW hr0)) (j:=0) rfl (vs:=[i r0.lo,i r0.hi]) rfl rfl)) rfl rfl)
      · exact ObG.to hBB hMo (fun _ _ _ _ _ ⟨bA11,eA11,Hn,hzz⟩ k=>⟨bA11,eA11,Hn.ext k,Nat.le_trans hzz k.size⟩) (Ob.mk rfl fun ρ' w' B U D=>zH rfl en65 (ce (v:=(.agg #[(i t.base),(.slice ab t.bs.length cab),(.slice ad t.dl.length cad),(i t.blo),(i t.bhi)])) (D 4 rfl) (ce (v:=(.agg #[(i r0.lo),(i r0.hi)])) (D 9 rfl) cn)) (c65 _ (hab.ext B.1.keep) (had.ext B.1.keep) oG.depths4 (by omega)) (fun u w2 k2 hu=>⟨k2,RTyAt.le hu B.2⟩))
      · refine ObG.sp rfl fun done ρ' w' hW U hcl hnd hwt D=>?_
        obtain ⟨bA11,eA11,Hn,hzz⟩:=hW
        simp only [hnd,cond_false,List.nil_append] at Hn
        refine Hn.newK (l:=[i 0,i 0]) rfl zv25 rfl ?_
        intro bN w2 k Hm
        refine ⟨(fun q u hq=>hMo q u _ _ k hq),trivial,bN,(fun _=>rfl),?_,Nat.le_trans hzz k.size⟩
        show S Nm w ([(bN,(.cells [i 0,i 0].toArray 25 (0,0):Obj))]++[(bm7,.cells (vK G).toArray 128 (0,0)),(bo,.cells (((zs.set (d-1).toNat ⟨5000,-5000⟩).map rgV).flatten++([]:List Value)).toArray 25 (0,0)),(bm,.cells (vK F).toArray 128 (0,0)),(b1,.cells [i t.base,.slice ab t.bs.length cab,.slice ad t.dl.length cad,i t.blo,i t.bhi].toArray 27 (0,0))]) w2
        exact Hm
    rintro ρ76 w77 ⟨b81,eA11,Hn,_⟩ U79 D80
    replace H:S Nm w [(b81,.cells [i 0,i 0].toArray 25 (0,0)),(bm7,.cells (vK G).toArray 128 (0,0)),(bo,.cells (((zs.set (d-1).toNat ⟨5000,-5000⟩).map rgV).flatten++([]:List Value)).toArray 25 (0,0)),(bm,.cells (vK F).toArray 128 (0,0)),(b1,.cells [i t.base,.slice ab t.bs.length cab,.slice ad t.dl.length cad,i t.blo,i t.bhi].toArray 27 (0,0))] w77:=Hn;clear Hn hMo hBB
    have f82:=(U79 1 rfl).trans f59
    have f83:=(U79 4 rfl).trans f60
    have f84:=(U79 8 rfl).trans f61
    have f85:=(U79 9 rfl).trans f62
    have f86:=(U79 10 rfl).trans f63
    have f87:=(U79 12 rfl).trans f64
    have f88:=(U79 13 rfl).trans f65
    have f89:=(U79 16 rfl).trans f67
    have f90:=(U79 17 rfl).trans f66
    have f91:ρ76 18=p b81 0:=eA11 rfl
    have f92:ρ76 70=(.agg #[(i ((zL t.bs (d-1)).lo)),(i ((zL t.bs (d-1)).hi))]):=D80 3 rfl
    obtain ⟨a_94,c_94,f93,h_94⟩:=(show RTyAt 3 1 ((yU t.dl r0.lo r0.hi).length) ((yU t.dl r0.lo r0.hi).map yD) nB75 (ρ76 77) w77 from D80 10 rfl)
    clear U79 D80
    clear eA11
    obtain ⟨br,obr,Hn,hzr⟩:=H.adoptR h_94 hW75 (deepR_ne (by omega)) (fun p hp=>by
      rcases List.mem_cons.1 hp with rfl | hp
      · exact .inr ⟨_,_,rfl,by decide⟩
      · exact .inl (hL75 p hp))
    replace H:=Hn;clear Hn
    refine Ro.d0 rfl rfl rfl (H.store (j:=1) (off:=0) (k:=2) rfl sz25 f91 (v:=(.agg #[(i ((zL t.bs (d-1)).lo)),(i ((zL t.bs (d-1)).hi))])) f92 rfl rfl rfl rfl (by simp [Value.oneCell']) (cs':=[i ((zL t.bs (d-1)).lo),i ((zL t.bs (d-1)).hi)]) rfl ?_)
    intro w95 Hn;replace H:=Hn;clear Hn
    refine Ro.q (v:=(.slice a_94 ((yU t.dl r0.lo r0.hi).length) c_94)) rfl rfl (zD f93) rfl ?_
    refine Ro.nil (nT (Wp.seq (Wp.region ?_)))
    refine Ro.q (v:=(i 0)) rfl rfl (zD rfl) rfl ?_
    refine Ro.nil (nT (Wp.block ?_))
    refine Wp.loop (fun kM ds ρ w'=>∃ rr:Int,∃ G1:MF,∃ zs1:List Rg,∃ q1:Rg,∃ f1:Bool,ds=[]∧(0≤rr∧rr≤52)∧kM=(52-rr:Int).toNat∧ρ 1=(.slice ah h.length cah)∧ρ 4=(p b1 0)∧ρ 8=(.slice none 0 0)∧ρ 9=(.bool false)∧ρ 10=(p bm 0)∧ρ 12=(.slice (some ⟨bo,0,none⟩) h.length h.length)∧ρ 13=(p bm7 0)∧ρ 17=(i d)∧ρ 18=(p b81 0)∧ρ 19=(.slice a_94 ((yU t.dl r0.lo r0.hi).length) c_94)∧ρ 20=(i rr)∧ρ 16=(.bool f1)∧S Nm w [(br,obr),(b81,.cells [i ((zL t.bs (d-1)).lo),i ((zL t.bs (d-1)).hi)].toArray 25 (0,0)),(bm7,.cells (vK G1).toArray 128 (0,0)),(bo,.cells ((zs1.map rgV).flatten++([]:List Value)).toArray 25 (0,0)),(bm,.cells (vK F).toArray 128 (0,0)),(b1,.cells [i t.base,.slice ab t.bs.length cab,.slice ad t.dl.length cad,i t.blo,i t.bhi].toArray 27 (0,0))] w'∧(ZQ t.glass h ices d G rr 0 zs1 q1 f1∧Up (d-1) G1 G (Ov 0 rr (zR t.glass d (yU t.dl r0.lo r0.hi) (zL t.bs (d-1)) F G)))) ((52-0:Int).toNat) ⟨0,G,(zs.set (d-1).toNat ⟨5000,-5000⟩),(⟨5000,-5000⟩),f,rfl,(by omega),rfl,f82,f83,f84,f85,f86,f87,f88,f90,f91,rfl,rfl,f89,H,⟨ZQ.start hi72 (by omega) (by omega),Up.start (Int.le_refl _)⟩⟩ ?_
    clear H
    intro kρ108 dsρ108 ρ108 w109
    rintro ⟨rr,G1,zs1,q1,f1,rfl,hb111,hk110,f96,f97,f98,f99,f100,f101,f102,f103,f104,f105,f106,f107,H,hi112⟩
    refine Wp.seq (Wp.seq (Wp.region ?_))
    refine Ro.q (v:=(i rr)) rfl rfl (zB f106) rfl ?_
    refine Ro.q rfl rfl (yB rfl rfl) rfl ?_
    refine Ro.nil (nT ?_)
    refine Wp.cond (t:=decide (rr<52)) rfl ?_ ?_
    · intro c113
      have c113r:=c113
      simp only [bx] at c113
      refine Wp.skip (nT (Wp.seq (Wp.block (Wp.seq (Wp.region ?_)))))
      refine Ro.q (v:=(i 0)) rfl rfl (zD rfl) rfl ?_
      refine Ro.nil (nT (Wp.block ?_))
      refine Wp.loop (fun kM ds ρ w'=>∃ ss:Int,∃ G2:MF,∃ zs2:List Rg,∃ q2:Rg,∃ f2:Bool,ds=[]∧(0≤ss∧ss≤31)∧kM=(31-ss:Int).toNat∧ρ 1=(.slice ah h.length cah)∧ρ 4=(p b1 0)∧ρ 8=(.slice none 0 0)∧ρ 9=(.bool false)∧ρ 10=(p bm 0)∧ρ 12=(.slice (some ⟨bo,0,none⟩) h.length h.length)∧ρ 13=(p bm7 0)∧ρ 17=(i d)∧ρ 18=(p b81 0)∧ρ 19=(.slice a_94 ((yU t.dl r0.lo r0.hi).length) c_94)∧ρ 20=(i rr)∧ρ 21=(i ss)∧ρ 16=(.bool f2)∧S Nm w [(br,obr),(b81,.cells [i ((zL t.bs (d-1)).lo),i ((zL t.bs (d-1)).hi)].toArray 25 (0,0)),(bm7,.cells (vK G2).toArray 128 (0,0)),(bo,.cells ((zs2.map rgV).flatten++([]:List Value)).toArray 25 (0,0)),(bm,.cells (vK F).toArray 128 (0,0)),(b1,.cells [i t.base,.slice ab t.bs.length cab,.slice ad t.dl.length cad,i t.blo,i t.bhi].toArray 27 (0,0))] w'∧(ZQ t.glass h ices d G rr ss zs2 q2 f2∧Up (d-1) G2 G1 (Ov 0 ss (zS t.glass d (yU t.dl r0.lo r0.hi) (zL t.bs (d-1)) F G rr)))) ((31-0:Int).toNat) ⟨0,G1,zs1,q1,f1,rfl,(by omega),rfl,f96,f97,f98,f99,f100,f101,f102,f103,f104,f105,f106,rfl,f107,H,⟨hi112.1,Up.start (Int.le_refl _)⟩⟩ ?_
      clear H
      intro kρ127 dsρ127 ρ127 w128
      rintro ⟨ss,G2,zs2,q2,f2,rfl,hb130,hk129,f114,f115,f116,f117,f118,f119,f120,f121,f122,f123,f124,f125,f126,H,hi131⟩
      have hq2:=hi131.1.2.1
      have hzl2:=hi131.1.1
      have hofG:G2 d rr ss=G d rr ss:=(hi131.2.off (by omega) _ _).trans (hi112.2.off (by omega) _ _)
      refine Wp.seq (Wp.seq (Wp.region ?_))
      refine Ro.q (v:=(i ss)) rfl rfl (zB f125) rfl ?_
      refine Ro.q rfl rfl (yB rfl rfl) rfl ?_
      refine Ro.nil (nT ?_)
      refine Wp.cond (t:=decide (ss<31)) rfl ?_ ?_
      · intro c132
        have c132r:=c132
        simp only [bx] at c132
        refine Wp.skip (nT (Wp.seq (Wp.block (Wp.seq (Wp.seq (Wp.region ?_))))))
        refine Ro.q (v:=(i d)) rfl rfl (zB f121) rfl ?_
        refine Ro.q (v:=(i rr)) rfl rfl (zB f124) rfl ?_
        refine Ro.q (v:=(i ss)) rfl rfl (zB f125) rfl ?_
        refine Ro.q rfl rfl (yJ Tryz.underlying128 sz126 f120 rfl (by omega) rfl) rfl ?_
        refine Ro.q rfl rfl (yJ Tryz.underlying126 sz125 rfl rfl (by omega) rfl) rfl ?_
        refine Ro.q rfl rfl (yJ Tryz.underlying125 sz4 rfl rfl (by omega) rfl) rfl ?_
        refine Ro.q rfl rfl (zE t1_4 rfl (H.cells 2 rfl) (j:=(ix3 d rr ss)) (Nat.zero_add _).symm (mapC_at ⟨by omega,by omega,by omega⟩)) rfl ?_
        refine Ro.q rfl rfl (yN rfl) rfl ?_
        refine Ro.nil (nT ?_)
        refine Wp.cond (t:=!(G2 d rr ss)) rfl ?_ ?_
        · intro c133
          have c133r:=c133
          simp only [bx] at c133
          refine Wp.exit (xT (xB (nT (Wp.region ?_))))
          refine Ro.q (v:=(i ss)) rfl rfl (zB f125) rfl ?_
          refine Ro.q rfl rfl (zU rfl rfl (by constructor <;>omega)) rfl ?_
          refine Ro.q (v:=(i (ss+1))) rfl rfl (zD rfl) rfl ?_
          refine Ro.nil (nT ?_)
          exact ⟨(31-(ss+1):Int).toNat,by omega,(ss+1),G2,zs2,q2,f2,rfl,(by omega),rfl,f114,f115,f116,f117,f118,f119,f120,f121,f122,f123,f124,rfl,f126,H,⟨ZQ.no hi131.1 (hofG.symm.trans c133),Up.step (up_none (b:=G d rr ss) (hofG.symm.trans c133)) hi131.2 (by omega)⟩⟩
        intro c133
        have c133r:=c133
        simp only [bx] at c133
        refine Wp.skip (nT (Wp.seq (Wp.region ?_)))
        refine Ro.q (v:=(.bool true)) rfl rfl (zD rfl) rfl ?_
        refine Ro.nil (nT (Wp.seq (Wp.region ?_)))
        refine Ro.q (v:=(p b1 0)) rfl rfl (zA fo27_0 f115 rfl) rfl ?_
        refine Ro.q rfl rfl (zE zM rfl (H.cells 5 rfl) (j:=0) rfl rfl) rfl ?_
        refine Ro.q (v:=(i rr)) rfl rfl (zB f124) rfl ?_
        refine Ro.q rfl rfl (zU rfl rfl (by constructor <;>omega)) rfl ?_
        refine Ro.q (v:=(i ss)) rfl rfl (zB f125) rfl ?_
        refine Ro.q rfl rfl (yT rfl rfl (by constructor <;>omega)) rfl ?_
        refine Ro.q (v:=(i ((t.base+rr)-ss))) rfl rfl (zD rfl) rfl ?_
        refine Ro.nil (nT (Wp.seq ?_))
        refine Wp.drawnS 21 [0,0,2,0,0,16,56,120,248,0,1016,0,0,4096,14336,30720,63488,0,260096,524280,1048575,2097151] [is (.slice (some ⟨bo,0,none⟩) h.length h.length),is (i d),is (i (d-1)),is (.slice (some ⟨bo,0,none⟩) h.length h.length),is (i d),is (i (d-1)),is (p (blk (some ⟨bo,0,none⟩)) (yP (some ⟨bo,0,none⟩)+((d-1).toNat)*2)),is (p (blk (some ⟨bo,0,none⟩)) (yP (some ⟨bo,0,none⟩)+((d-1).toNat)*2)),is (i q2.lo),is (i ((t.base+rr)-ss)),is (i (min q2.lo ((t.base+rr)-ss))),is (.slice (some ⟨bo,0,none⟩) h.length h.length),is (i d),is (i (d-1)),is (p (blk (some ⟨bo,0,none⟩)) (yP (some ⟨bo,0,none⟩)+((d-1).toNat)*2)),is (p (blk (some ⟨bo,0,none⟩)) (yP (some ⟨bo,0,none⟩)+((d-1).toNat)*2+1)),is (i q2.hi),is (i ((t.base+rr)-ss)),is (i (max q2.hi ((t.base+rr)-ss))),is (.agg #[(i (min q2.lo ((t.base+rr)-ss))),(i (max q2.hi ((t.base+rr)-ss)))]),is (p (blk (some ⟨bo,0,none⟩)) (yP (some ⟨bo,0,none⟩)+((d-1).toNat)*2))] (by kernel_rfl) (by kernel_rfl) rfl (Mi (Mi (Mi (Mi (Mi (Mi (Mi (Mi (Mi (Mi (Mi (Mi (Mi (Mi (Mi (Mi (Mi (Mi (Mi (Mi (Mi Mono.nil))))))))))))))))))))) (fun w' k=>H.ext k) ?_ ?_
        · refine ⟨?_,?_,?_,?_,?_,?_,?_,?_,?_,?_,?_,?_,?_,?_,?_,?_,?_,?_,?_,?_,?_,trivial⟩
          · exact Ob.q rfl (fun _ _ B U D=>(zB ((U 12 rfl).trans f119))) rfl rfl
          · exact Ob.q rfl (fun _ _ B U D=>(zB ((U 17 rfl).trans f121))) rfl rfl
          · exact Ob.q rfl (fun _ _ B U D=>(yT (D 1 rfl) rfl (by constructor <;>omega))) rfl rfl
          · exact Ob.q rfl (fun _ _ B U D=>(zB ((U 12 rfl).trans f119))) rfl rfl
          · exact Ob.q rfl (fun _ _ B U D=>(zB ((U 17 rfl).trans f121))) rfl rfl
          · exact Ob.q rfl (fun _ _ B U D=>(yT (D 4 rfl) rfl (by constructor <;>omega))) rfl rfl
          · exact Ob.q rfl (fun _ _ B U D=>(zY ts30 ((Sl.block (enc:=rgV) (fun _=>rfl) (B.at 3 rfl))) (D 3 rfl) (by first | (simp;done) | (simp;omega)) (D 5 rfl) (by omega) (zW hq2))) rfl rfl
          · exact Ob.q rfl (fun _ _ B U D=>(zA uI (D 6 rfl) rfl)) rfl rfl
          · exact Ob.q rfl (fun _ _ B U D=>(zE zM (D 7 rfl) (((Sl.block (enc:=rgV) (fun _=>rfl) (B.at 3 rfl))).cells (zW hq2)) (j:=0) rfl rfl)) rfl rfl
          · exact Ob.q rfl (fun _ _ B U D=>(zB (show (_:Value)=(i ((t.base+rr)-ss)) from U 22 rfl))) rfl rfl
          · exact Ob.q rfl (fun _ _ B U D=>(r_min2 (D 8 rfl) (D 9 rfl))) rfl rfl
          · exact Ob.q rfl (fun _ _ B U D=>(zB ((U 12 rfl).trans f119))) rfl rfl
          · exact Ob.q rfl (fun _ _ B U D=>(zB ((U 17 rfl).trans f121))) rfl rfl
          · exact Ob.q rfl (fun _ _ B U D=>(yT (D 12 rfl) rfl (by constructor <;>omega))) rfl rfl
          · exact Ob.q rfl (fun _ _ B U D=>(zY ts30 ((Sl.block (enc:=rgV) (fun _=>rfl) (B.at 3 rfl))) (D 11 rfl) (by first | (simp;done) | (simp;omega)) (D 13 rfl) (by omega) (zW hq2))) rfl rfl
          · exact Ob.q rfl (fun _ _ B U D=>(zA uB (D 14 rfl) rfl)) rfl rfl
          · exact Ob.q rfl (fun _ _ B U D=>(zE zM (D 15 rfl) (((Sl.block (enc:=rgV) (fun _=>rfl) (B.at 3 rfl))).cells (zW hq2)) (j:=1) rfl rfl)) rfl rfl
          · exact Ob.q rfl (fun _ _ B U D=>(zB (show (_:Value)=(i ((t.base+rr)-ss)) from U 22 rfl))) rfl rfl
          · exact Ob.q rfl (fun _ _ B U D=>(r_max2 (D 16 rfl) (D 17 rfl))) rfl rfl
          · exact Ob.q rfl (fun _ _ B U D=>(zP (v:=(.agg #[(i (min q2.lo ((t.base+rr)-ss))),(i (max q2.hi ((t.base+rr)-ss)))])) (pe (v:=(i (min q2.lo ((t.base+rr)-ss)))) (D 10 rfl) (pe (v:=(i (max q2.hi ((t.base+rr)-ss)))) (D 18 rfl) pn)) (fun w=>by kernel_rfl))) rfl rfl
          · exact Ob.q rfl (fun _ _ B U D=>(zY ts30 ((Sl.block (enc:=rgV) (fun _=>rfl) (B.at 3 rfl))) (D 0 rfl) (by first | (simp;done) | (simp;omega)) (D 2 rfl) (by omega) (zW hq2))) rfl rfl
        intro ρ134 w135 k136 U137 D138;replace H:=H.ext k136
        have f139:=(U137 1 rfl).trans f114
        have f140:=(U137 4 rfl).trans f115
        have f141:=(U137 8 rfl).trans f116
        have f142:=(U137 9 rfl).trans f117
        have f143:=(U137 10 rfl).trans f118
        have f144:=(U137 12 rfl).trans f119
        have f145:=(U137 13 rfl).trans f120
        have f146:ρ134 16=(.bool true):=U137 16 rfl
        have f147:=(U137 17 rfl).trans f121
        have f148:=(U137 18 rfl).trans f122
        have f149:=(U137 19 rfl).trans f123
        have f150:=(U137 20 rfl).trans f124
        have f151:=(U137 21 rfl).trans f125
        have f152:ρ134 119=(.agg #[(i (min q2.lo ((t.base+rr)-ss))),(i (max q2.hi ((t.base+rr)-ss)))]):=D138 19 rfl
        have f153:ρ134 120=(p (blk (some ⟨bo,0,none⟩)) (yP (some ⟨bo,0,none⟩)+((d-1).toNat)*2)):=D138 20 rfl
        clear U137 D138 k136
        refine Ro.d0 rfl rfl rfl (H.setE (enc:=rgV) (k:=2) (fun _=>rfl) (g:=bo) (j:=3) (u:=25) (q:=(d-1).toNat) (xs:=zs2) (tl:=[]) (z:=⟨min q2.lo ((t.base+rr)-ss),max q2.hi ((t.base+rr)-ss)⟩) sz25 rfl f153 (Nat.zero_add _) (v:=(.agg #[(i (min q2.lo ((t.base+rr)-ss))),(i (max q2.hi ((t.base+rr)-ss)))])) f152 rfl (by simp [rgV,Value.oneCell']) rfl (by omega) ?_)
        intro w154 Hn;replace H:S Nm w [(br,obr),(b81,.cells [i ((zL t.bs (d-1)).lo),i ((zL t.bs (d-1)).hi)].toArray 25 (0,0)),(bm7,.cells (vK G2).toArray 128 (0,0)),(bo,.cells (((zs2.set (d-1).toNat ⟨min q2.lo ((t.base+rr)-ss),max q2.hi ((t.base+rr)-ss)⟩).map rgV).flatten++([]:List Value)).toArray 25 (0,0)),(bm,.cells (vK F).toArray 128 (0,0)),(b1,.cells [i t.base,.slice ab t.bs.length cab,.slice ad t.dl.length cad,i t.blo,i t.bhi].toArray 27 (0,0))] w154:=Hn;clear Hn
        refine Ro.nil (nT (Wp.seq (Wp.region ?_)))
        refine Ro.q (v:=(p b81 0)) rfl rfl (zA uI f148 rfl) rfl ?_
        refine Ro.q rfl rfl (zE zM rfl (H.cells 1 rfl) (j:=0) rfl rfl) rfl ?_
        refine Ro.q (v:=(i ((zL t.bs (d-1)).lo))) rfl rfl (zD rfl) rfl ?_
        refine Ro.nil (nT (Wp.block ?_))
        refine Wp.loop (fun kM ds ρ w'=>∃ c:Int,∃ G3:MF,ds=[]∧((zL t.bs (d-1)).lo≤c∧c≤(zL t.bs (d-1)).hi+1)∧kM=((zL t.bs (d-1)).hi+1-c:Int).toNat∧ρ 1=(.slice ah h.length cah)∧ρ 4=(p b1 0)∧ρ 8=(.slice none 0 0)∧ρ 9=(.bool false)∧ρ 10=(p bm 0)∧ρ 12=(.slice (some ⟨bo,0,none⟩) h.length h.length)∧ρ 13=(p bm7 0)∧ρ 16=(.bool true)∧ρ 17=(i d)∧ρ 18=(p b81 0)∧ρ 19=(.slice a_94 ((yU t.dl r0.lo r0.hi).length) c_94)∧ρ 20=(i rr)∧ρ 21=(i ss)∧ρ 23=(i c)∧S Nm w [(br,obr),(b81,.cells [i ((zL t.bs (d-1)).lo),i ((zL t.bs (d-1)).hi)].toArray 25 (0,0)),(bm7,.cells (vK G3).toArray 128 (0,0)),(bo,.cells (((zs2.set (d-1).toNat ⟨min q2.lo ((t.base+rr)-ss),max q2.hi ((t.base+rr)-ss)⟩).map rgV).flatten++([]:List Value)).toArray 25 (0,0)),(bm,.cells (vK F).toArray 128 (0,0)),(b1,.cells [i t.base,.slice ab t.bs.length cab,.slice ad t.dl.length cad,i t.blo,i t.bhi].toArray 27 (0,0))] w'∧(Up (d-1) G3 G2 (Ov (zL t.bs (d-1)).lo c (zC t.glass d (yU t.dl r0.lo r0.hi) F rr ss))∧(c=(zL t.bs (d-1)).lo∨c≤rr+1))) (((zL t.bs (d-1)).hi+1-((zL t.bs (d-1)).lo):Int).toNat) ⟨((zL t.bs (d-1)).lo),G2,rfl,(by omega),rfl,f139,f140,f141,f142,f143,f144,f145,f146,f147,f148,f149,f150,f151,rfl,H,⟨Up.start (Int.le_refl _),.inl rfl⟩⟩ ?_
        clear H
        intro kρ169 dsρ169 ρ169 w170
        rintro ⟨c,G3,rfl,hb172,hk171,f155,f156,f157,f158,f159,f160,f161,f162,f163,f164,f165,f166,f167,f168,H,hi173⟩
        refine Wp.seq (Wp.seq ?_)
        let qq174:Bool:=decide (c≤((zL t.bs (d-1)).hi))
        let qq175:Bool:=(qq174 && (decide (c≤rr)))
        refine Wp.factsS 9 [is (i c),is (p b81 1),is (i ((zL t.bs (d-1)).hi)),is (.bool qq174),is (.bool qq174),gdv (True∧qq174=true) (i c),gdv (True∧qq174=true) (i rr),gdv (True∧qq174=true) (.bool (decide (c≤rr))),is (.bool qq175)] (by kernel_rfl) (Mi (Mi (Mi (Mi (Mi (Mg (Mg (Mg (Mi Mono.nil))))))))) (fun w' k=>H.ext k) ?_ ?_
        · refine ⟨?_,?_,?_,?_,?_,?_,?_,?_,?_,trivial⟩
          · exact Ob.q rfl (fun _ _ B U D=>(zB ((U 23 rfl).trans f168))) rfl rfl
          · exact Ob.q rfl (fun _ _ B U D=>(zA uB ((U 18 rfl).trans f164) rfl)) rfl rfl
          · exact Ob.q rfl (fun _ _ B U D=>(zE zM (D 1 rfl) (B.cells 1 rfl) (j:=1) rfl rfl)) rfl rfl
          · exact Ob.q rfl (fun _ _ B U D=>(vD (D 0 rfl) (D 2 rfl))) rfl rfl
          · exact Ob.q rfl (fun _ _ B U D=>(zB (D 3 rfl))) rfl rfl
          · exact Ob.g0 rfl rfl (fun _ _ _ D=>D 4 rfl) rfl (fun _ _ B U D hC hg=>(zB ((U 23 rfl).trans f168))) rfl
          · exact Ob.g0 rfl rfl (fun _ _ _ D=>D 4 rfl) rfl (fun _ _ B U D hC hg=>(zB ((U 20 rfl).trans f166))) rfl
          · exact Ob.g0 rfl rfl (fun _ _ _ D=>D 4 rfl) rfl (fun _ _ B U D hC hg=>(vD (gdy (D 5 rfl) ⟨hC,hg⟩) (gdy (D 6 rfl) ⟨hC,hg⟩))) rfl
          · exact Ob.q rfl (fun _ _ B U D=>(zQ (v:=(.bool qq175)) (D 4 rfl) (fun eP=>(gdy (D 7 rfl) ⟨trivial,eP⟩).trans (yF eP)) (fun eP=>yE eP))) rfl rfl
        intro ρ176 w177 k178 U179 D180;replace H:=H.ext k178
        have f181:=(U179 1 rfl).trans f155
        have f182:=(U179 4 rfl).trans f156
        have f183:=(U179 8 rfl).trans f157
        have f184:=(U179 9 rfl).trans f158
        have f185:=(U179 10 rfl).trans f159
        have f186:=(U179 12 rfl).trans f160
        have f187:=(U179 13 rfl).trans f161
        have f188:=(U179 16 rfl).trans f162
        have f189:=(U179 17 rfl).trans f163
        have f190:=(U179 18 rfl).trans f164
        have f191:=(U179 19 rfl).trans f165
        have f192:=(U179 20 rfl).trans f166
        have f193:=(U179 21 rfl).trans f167
        have f194:=(U179 23 rfl).trans f168
        have f195:ρ176 131=(.bool qq175):=D180 8 rfl
        clear U179 D180 k178
        refine Ro.nil (nT ?_)
        refine Wp.cond (t:=qq175) f195 ?_ ?_
        · intro c196
          have c196r:(((decide (c≤((zL t.bs (d-1)).hi))) && (decide (c≤rr))))=true:=c196
          replace c196:=c196r
          simp only [bx] at c196
          refine Wp.skip (nT (Wp.seq (Wp.block (Wp.seq (Wp.region ?_)))))
          refine Ro.q (v:=(i 0)) rfl rfl (zD rfl) rfl ?_
          refine Ro.nil (nT (Wp.block ?_))
          refine Wp.loop (fun kM ds ρ w'=>∃ fr:Int,∃ G4:MF,ds=[]∧(0≤fr∧fr≤31)∧kM=(31-fr:Int).toNat∧ρ 1=(.slice ah h.length cah)∧ρ 4=(p b1 0)∧ρ 8=(.slice none 0 0)∧ρ 9=(.bool false)∧ρ 10=(p bm 0)∧ρ 12=(.slice (some ⟨bo,0,none⟩) h.length h.length)∧ρ 13=(p bm7 0)∧ρ 16=(.bool true)∧ρ 17=(i d)∧ρ 18=(p b81 0)∧ρ 19=(.slice a_94 ((yU t.dl r0.lo r0.hi).length) c_94)∧ρ 20=(i rr)∧ρ 21=(i ss)∧ρ 23=(i c)∧ρ 24=(i fr)∧S Nm w [(br,obr),(b81,.cells [i ((zL t.bs (d-1)).lo),i ((zL t.bs (d-1)).hi)].toArray 25 (0,0)),(bm7,.cells (vK G4).toArray 128 (0,0)),(bo,.cells (((zs2.set (d-1).toNat ⟨min q2.lo ((t.base+rr)-ss),max q2.hi ((t.base+rr)-ss)⟩).map rgV).flatten++([]:List Value)).toArray 25 (0,0)),(bm,.cells (vK F).toArray 128 (0,0)),(b1,.cells [i t.base,.slice ab t.bs.length cab,.slice ad t.dl.length cad,i t.blo,i t.bhi].toArray 27 (0,0))] w'∧(Up (d-1) G4 G3 (Ov 0 fr (zK t.glass d (yU t.dl r0.lo r0.hi) F rr ss c)))) ((31-0:Int).toNat) ⟨0,G3,rfl,(by omega),rfl,f181,f182,f183,f184,f185,f186,f187,f188,f189,f190,f191,f192,f193,f194,rfl,H,(Up.start (Int.le_refl _))⟩ ?_
          clear H
          intro kρ212 dsρ212 ρ212 w213
          rintro ⟨fr,G4,rfl,hb215,hk214,f197,f198,f199,f200,f201,f202,f203,f204,f205,f206,f207,f208,f209,f210,f211,H,hi216⟩
          refine Wp.seq (Wp.seq (Wp.region ?_))
          refine Ro.q (v:=(i fr)) rfl rfl (zB f211) rfl ?_
          refine Ro.q rfl rfl (yB rfl rfl) rfl ?_
          refine Ro.nil (nT ?_)
          refine Wp.cond (t:=decide (fr<31)) rfl ?_ ?_
          · intro c217
            have c217r:=c217
            simp only [bx] at c217
            refine Wp.skip (nT (Wp.seq (Wp.block (Wp.seq ?_))))
            let qq218:Bool:=(F (d-1) (rr-c) fr)
            let qq219:Bool:=(leadsD t.blo t.bhi (yU t.dl r0.lo r0.hi) fr ss)
            let qq220:Bool:=(qq218 && qq219)
            refine Wp.factsS 20 [is (p bm 0),is (i d),is (i (d-1)),is (i rr),is (i c),is (i (rr-c)),is (i fr),is (p bm 0),is (p bm (0+(d-1).toNat*1612)),is (p bm (0+(d-1).toNat*1612+(rr-c).toNat*31)),is (p bm (ix3 (d-1) (rr-c) fr)),is (.bool qq218),is (.bool qq218),gdv (True∧qq218=true) (p b1 3),gdv (True∧qq218=true) (.agg #[(i t.blo),(i t.bhi)]),gdv (True∧qq218=true) (.slice a_94 ((yU t.dl r0.lo r0.hi).length) c_94),gdv (True∧qq218=true) (i fr),gdv (True∧qq218=true) (i ss),gdv (True∧qq218=true) (.bool qq219),is (.bool qq220)] (by kernel_rfl) (Mi (Mi (Mi (Mi (Mi (Mi (Mi (Mi (Mi (Mi (Mi (Mi (Mi (Mg (Mg (Mg (Mg (Mg (Mg (Mi Mono.nil)))))))))))))))))))) (fun w' k=>H.ext k) ?_ ?_
            · refine ⟨?_,?_,?_,?_,?_,?_,?_,?_,?_,?_,?_,?_,?_,?_,?_,?_,?_,?_,?_,?_,trivial⟩
              · exact Ob.q rfl (fun _ _ B U D=>(zB ((U 10 rfl).trans f201))) rfl rfl
              · exact Ob.q rfl (fun _ _ B U D=>(zB ((U 17 rfl).trans f205))) rfl rfl
              · exact Ob.q rfl (fun _ _ B U D=>(yT (D 1 rfl) rfl (by constructor <;>omega))) rfl rfl
              · exact Ob.q rfl (fun _ _ B U D=>(zB ((U 20 rfl).trans f208))) rfl rfl
              · exact Ob.q rfl (fun _ _ B U D=>(zB ((U 23 rfl).trans f210))) rfl rfl
              · exact Ob.q rfl (fun _ _ B U D=>(yT (D 3 rfl) (D 4 rfl) (by constructor <;>omega))) rfl rfl
              · exact Ob.q rfl (fun _ _ B U D=>(zB ((U 24 rfl).trans f211))) rfl rfl
              · exact Ob.q rfl (fun _ _ B U D=>(r_nilCheck (D 0 rfl))) rfl rfl
              · exact Ob.q rfl (fun _ _ B U D=>(yJ Tryz.underlying128 sz126 (D 7 rfl) (D 2 rfl) (by omega) rfl)) rfl rfl
              · exact Ob.q rfl (fun _ _ B U D=>(yJ Tryz.underlying126 sz125 (D 8 rfl) (D 5 rfl) (by omega) rfl)) rfl rfl
              · exact Ob.q rfl (fun _ _ B U D=>(yJ Tryz.underlying125 sz4 (D 9 rfl) (D 6 rfl) (by omega) rfl)) rfl rfl
              · exact Ob.q rfl (fun _ _ B U D=>(zE t1_4 (D 10 rfl) (B.cells 4 rfl) (j:=(ix3 (d-1) (rr-c) fr)) (Nat.zero_add _).symm (mapC_at ⟨by omega,by omega,by omega⟩))) rfl rfl
              · exact Ob.q rfl (fun _ _ B U D=>(zB (D 11 rfl))) rfl rfl
              · exact Ob.g0 rfl rfl (fun _ _ _ D=>D 12 rfl) rfl (fun _ _ B U D hC hg=>(zA fo27_3 ((U 4 rfl).trans f198) rfl)) rfl
              · exact Ob.g0 rfl rfl (fun _ _ _ D=>D 12 rfl) rfl (fun _ _ B U D hC hg=>(zJ ta25 (gdy (D 13 rfl) ⟨hC,hg⟩) (B.cells 5 rfl) (j:=3) rfl (vs:=[i t.blo,i t.bhi]) rfl rfl)) rfl
              · exact Ob.g0 rfl rfl (fun _ _ _ D=>D 12 rfl) rfl (fun _ _ B U D hC hg=>(zB ((U 19 rfl).trans f207))) rfl
              · exact Ob.g0 rfl rfl (fun _ _ _ D=>D 12 rfl) rfl (fun _ _ B U D hC hg=>(zB ((U 24 rfl).trans f211))) rfl
              · exact Ob.g0 rfl rfl (fun _ _ _ D=>D 12 rfl) rfl (fun _ _ B U D hC hg=>(zB ((U 21 rfl).trans f209))) rfl
              · exact Ob.gd (C:=True) (g:=qq218) rfl rfl (fun ρ' w' U D=>⟨fun _=>(D 12 rfl),fun h=>absurd trivial h⟩) (fun _ h=>⟨fun hc=>absurd hc (yQ h),fun _=>rfl⟩) fun ρ' w' B U D hC hg=>zH rfl en66 (ce (v:=(.agg #[(i t.blo),(i t.bhi)])) (gdy (D 14 rfl) ⟨hC,hg⟩) (ce (v:=(.slice a_94 ((yU t.dl r0.lo r0.hi).length) c_94)) (gdy (D 15 rfl) ⟨hC,hg⟩) (ce (v:=(i fr)) (gdy (D 16 rfl) ⟨hC,hg⟩) (ce (v:=(i ss)) (gdy (D 17 rfl) ⟨hC,hg⟩) cn)))) (c66 _ ((hzr _ (B.at 0 rfl))) (by omega) (by omega) (by omega)) (fun u w2 k2 hu=>⟨k2,⟨fun _=>hu,fun n=>absurd ⟨hC,hg⟩ n⟩⟩)
              · exact Ob.q rfl (fun _ _ B U D=>(zQ (v:=(.bool qq220)) (D 12 rfl) (fun eP=>(gdy (D 18 rfl) ⟨trivial,eP⟩).trans (yF eP)) (fun eP=>yE eP))) rfl rfl
            intro ρ221 w222 k223 U224 D225;replace H:=H.ext k223
            have f226:=(U224 1 rfl).trans f197
            have f227:=(U224 4 rfl).trans f198
            have f228:=(U224 8 rfl).trans f199
            have f229:=(U224 9 rfl).trans f200
            have f230:=(U224 10 rfl).trans f201
            have f231:=(U224 12 rfl).trans f202
            have f232:=(U224 13 rfl).trans f203
            have f233:=(U224 16 rfl).trans f204
            have f234:=(U224 17 rfl).trans f205
            have f235:=(U224 18 rfl).trans f206
            have f236:=(U224 19 rfl).trans f207
            have f237:=(U224 20 rfl).trans f208
            have f238:=(U224 21 rfl).trans f209
            have f239:=(U224 23 rfl).trans f210
            have f240:=(U224 24 rfl).trans f211
            have f241:ρ221 157=(.bool qq220):=D225 19 rfl
            clear U224 D225 k223
            refine Ro.nil (nT ?_)
            refine Wp.cond (t:=qq220) f241 ?_ ?_
            · intro c242
              have c242r:(((F (d-1) (rr-c) fr) && (leadsD t.blo t.bhi (yU t.dl r0.lo r0.hi) fr ss)))=true:=c242
              replace c242:=c242r
              simp only [bx] at c242
              refine Wp.region ?_
              refine Ro.q (v:=(i d)) rfl rfl (zB f234) rfl ?_
              refine Ro.q rfl rfl (yT rfl rfl (by constructor <;>omega)) rfl ?_
              refine Ro.q (v:=(i rr)) rfl rfl (zB f237) rfl ?_
              refine Ro.q (v:=(i c)) rfl rfl (zB f239) rfl ?_
              refine Ro.q rfl rfl (yT rfl rfl (by constructor <;>omega)) rfl ?_
              refine Ro.q (v:=(i fr)) rfl rfl (zB f240) rfl ?_
              refine Ro.q rfl rfl (yJ Tryz.underlying128 sz126 f232 rfl (by omega) rfl) rfl ?_
              refine Ro.q rfl rfl (yJ Tryz.underlying126 sz125 rfl rfl (by omega) rfl) rfl ?_
              refine Ro.q rfl rfl (yJ Tryz.underlying125 sz4 rfl rfl (by omega) rfl) rfl ?_
              refine Ro.d0 rfl rfl rfl (H.store (j:=2) (off:=(ix3 (d-1) (rr-c) fr)) (k:=1) rfl sz4 rfl (v:=(.bool true)) rfl rfl rfl rfl (mapC_ble ⟨by omega,by omega,by omega⟩) (by simp [Value.oneCell']) (mapC_set ⟨by omega,by omega,by omega⟩) ?_)
              intro w243 Hn;replace H:S Nm w [(br,obr),(b81,.cells [i ((zL t.bs (d-1)).lo),i ((zL t.bs (d-1)).hi)].toArray 25 (0,0)),(bm7,.cells (vK (setF G4 (d-1) (rr-c) fr true)).toArray 128 (0,0)),(bo,.cells (((zs2.set (d-1).toNat ⟨min q2.lo ((t.base+rr)-ss),max q2.hi ((t.base+rr)-ss)⟩).map rgV).flatten++([]:List Value)).toArray 25 (0,0)),(bm,.cells (vK F).toArray 128 (0,0)),(b1,.cells [i t.base,.slice ab t.bs.length cab,.slice ad t.dl.length cad,i t.blo,i t.bhi].toArray 27 (0,0))] w243:=Hn;clear Hn
              refine Ro.nil (nB (nT (Wp.region ?_)))
              refine Ro.q (v:=(i fr)) rfl rfl (zB f240) rfl ?_
              refine Ro.q rfl rfl (zU rfl rfl (by constructor <;>omega)) rfl ?_
              refine Ro.q (v:=(i (fr+1))) rfl rfl (zD rfl) rfl ?_
              refine Ro.nil (nT ?_)
              exact ⟨(31-(fr+1):Int).toNat,by omega,(fr+1),(setF G4 (d-1) (rr-c) fr true),rfl,(by omega),rfl,f226,f227,f228,f229,f230,f231,f232,f233,f234,f235,f236,f237,f238,f239,rfl,H,(Up.step (up_lead c242) hi216 (by omega))⟩
            intro c242
            have c242r:(((F (d-1) (rr-c) fr) && (leadsD t.blo t.bhi (yU t.dl r0.lo r0.hi) fr ss)))=false:=c242
            replace c242:=c242r
            simp only [bx] at c242
            refine Wp.skip (nB (nT (Wp.region ?_)))
            refine Ro.q (v:=(i fr)) rfl rfl (zB f240) rfl ?_
            refine Ro.q rfl rfl (zU rfl rfl (by constructor <;>omega)) rfl ?_
            refine Ro.q (v:=(i (fr+1))) rfl rfl (zD rfl) rfl ?_
            refine Ro.nil (nT ?_)
            exact ⟨(31-(fr+1):Int).toNat,by omega,(fr+1),G4,rfl,(by omega),rfl,f226,f227,f228,f229,f230,f231,f232,f233,f234,f235,f236,f237,f238,f239,rfl,H,(Up.step (up_nolead (fun hh=>by rcases c242 with h | h;(rw [hh.1] at h;cases h);(rw [show leadsD t.blo t.bhi (yU t.dl r0.lo r0.hi) fr ss=true from hh.2] at h;cases h))) hi216 (by omega))⟩
          intro c217
          have c217r:=c217
          simp only [bx] at c217
          refine Wp.exit (xT (xT (xB (nB (nT (Wp.region ?_))))))
          refine Ro.q (v:=(i c)) rfl rfl (zB f210) rfl ?_
          refine Ro.q rfl rfl (zU rfl rfl (by constructor <;>omega)) rfl ?_
          refine Ro.q (v:=(i (c+1))) rfl rfl (zD rfl) rfl ?_
          refine Ro.nil (nT ?_)
          exact ⟨((zL t.bs (d-1)).hi+1-(c+1):Int).toNat,by omega,(c+1),G4,rfl,(by omega),rfl,f197,f198,f199,f200,f201,f202,f203,f204,f205,f206,f207,f208,f209,rfl,H,⟨Up.step (Up.fin hi216 (by omega)) hi173.1 (by omega),.inr (by omega)⟩⟩
        intro c196
        have c196r:(((decide (c≤((zL t.bs (d-1)).hi))) && (decide (c≤rr))))=false:=c196
        replace c196:=c196r
        simp only [bx] at c196
        refine Wp.exit (xT (xT (xB (nB (nT (Wp.region ?_))))))
        refine Ro.q (v:=(i ss)) rfl rfl (zB f193) rfl ?_
        refine Ro.q rfl rfl (zU rfl rfl (by constructor <;>omega)) rfl ?_
        refine Ro.q (v:=(i (ss+1))) rfl rfl (zD rfl) rfl ?_
        refine Ro.nil (nT ?_)
        exact ⟨(31-(ss+1):Int).toNat,by omega,(ss+1),G3,(zs2.set (d-1).toNat ⟨min q2.lo ((t.base+rr)-ss),max q2.hi ((t.base+rr)-ss)⟩),(⟨min q2.lo ((t.base+rr)-ss),max q2.hi ((t.base+rr)-ss)⟩),true,rfl,(by omega),rfl,f181,f182,f183,f184,f185,f186,f187,f189,f190,f191,f192,rfl,f188,H,⟨ZQ.yes hi131.1 (hofG.symm.trans c133) (by omega) (by omega) (by omega) (by omega) (show -5000≤t.base+rr-ss∧t.base+rr-ss≤5000 by omega),Up.step (up_to (b:=G d rr ss) hi173.1 (by omega) hi173.2 (by omega) (hofG.symm.trans c133)) hi131.2 (by omega)⟩⟩
      intro c132
      have c132r:=c132
      simp only [bx] at c132
      refine Wp.exit (xT (xT (xB (nB (nT (Wp.region ?_))))))
      refine Ro.q (v:=(i rr)) rfl rfl (zB f124) rfl ?_
      refine Ro.q rfl rfl (zU rfl rfl (by constructor <;>omega)) rfl ?_
      refine Ro.q (v:=(i (rr+1))) rfl rfl (zD rfl) rfl ?_
      refine Ro.nil (nT ?_)
      exact ⟨(52-(rr+1):Int).toNat,by omega,(rr+1),G2,zs2,q2,f2,rfl,(by omega),rfl,f114,f115,f116,f117,f118,f119,f120,f121,f122,f123,rfl,f126,H,⟨ZQ.row' hi131.1 (by omega),Up.step (Up.fin hi131.2 (by omega)) hi112.2 (by omega)⟩⟩
    intro c113
    have c113r:=c113
    simp only [bx] at c113
    refine Wp.exit (xT (xT (xB (nB (nT (Wp.region ?_))))))
    refine Ro.q (v:=(i d)) rfl rfl (zB f103) rfl ?_
    refine Ro.q rfl rfl (yT rfl rfl (by constructor <;>omega)) rfl ?_
    refine Ro.q (v:=(i (d-1))) rfl rfl (zD rfl) rfl ?_
    refine Ro.nil (nT ?_)
    exact ⟨(d-1).toNat,by omega,(d-1),G1,zs1,f1,rfl,(by omega),rfl,f96,f97,f98,f99,f100,f101,f102,rfl,f107,(H.drop 2),(ZI.next oG hhl ha hM hi72 (by omega) (by omega) hr0 (ZQ.at52 hi112.1 (by omega)) (Up.fin hi112.2 (by omega)))⟩
  intro c73
  have c73r:=c73
  simp only [bx] at c73
  refine Wp.exit (xT (xT (xB (nT (Wp.seq (Wp.region ?_))))))
  refine Ro.q (v:=(.slice (some ⟨bo,0,none⟩) h.length h.length)) rfl rfl (zB f64) rfl ?_
  refine Ro.q (v:=(.bool f)) rfl rfl (zB f67) rfl ?_
  refine Ro.q (v:=(.slice (some ⟨bo,0,none⟩) h.length h.length)) rfl rfl (zD rfl) rfl ?_
  refine Ro.q (v:=(.bool f)) rfl rfl (zD rfl) rfl ?_
  refine Ro.nil (nT (Wp.ret (zN ?_)))
  refine vT (v:=(.slice (some ⟨bo,0,none⟩) h.length h.length)) (v':=(.bool f)) Tryz.results24 rfl rfl ⟨H.keep,?_⟩
  have hdn:=hi72.done (by omega) (by omega) oH.pos
  obtain rfl:=hdn.2
  exact ⟨_,_,zs,bo,_,rfl,H.one 1 rfl,fun W hW=>Sl.block (enc:=rgV) (fun _=>rfl) hW,hdn.1⟩
end Go.Proofs.YthfnjppieihcfaaGreat
