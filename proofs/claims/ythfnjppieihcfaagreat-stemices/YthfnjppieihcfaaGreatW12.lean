/- Part of the proof: what the last text of this claim imports. -/
import Derived.Test.YthfnjppieihcfaaGreatW11
import Derived.Laws.StructEq
set_option linter.unusedSimpArgs false
set_option linter.unusedVariables false
namespace Go.Mw
open Go.RowKit
variable {P : Program} {N : Nat} {ρ : Env} {w : World}
/-- two values of a struct's type are the same, or not -/
def EqT (P : Program) (t : TypeId) (X Y : Value) (r : Bool) : Prop := (∃ xs ys, X = .agg xs ∧ Y = .agg ys) ∧ (∀ w, (Op.equalIn 10000 t X Y).run P w = .ok r w) ∧ P.eqGuardType P.depth t = false
theorem r_eqS {t t' : TypeId} {x y : Operand} {X Y : Value} {r : Bool} (he : EqT P t X Y r) (hx : ev N ρ x = X) (hy : ev N ρ y = Y) : Runs P N (.binOp .eql t x y t') ρ w (.bool r) := by
  obtain ⟨⟨xs, ys, rfl, rfl⟩, h1, h2⟩ := he
  intro o ho
  simp only [execOp, ho, hx, hy]
  have := run_eqGuard_agg (P := P) w .eql t x y xs ys h2
  have e := run_eql_struct (P := P) w t xs ys
  rw [h1 w] at e
  simp [Sem.run_bind, this, e, Result.andThen]
section
variable {M : Nat → Prop} {w0 : World} {L : List (Nat × Obj)} {o : Oper} {K : Value → World → Prop}
end
/-- .. in a block from n on -/
def FSl (n : Nat) (w : World) (k : Nat) (xs : List (List Value)) (a : Option Addr) : Prop := Sl w k xs a ∧ (xs ≠ [] → n ≤ blk a)
theorem FSl.ext {n k : Nat} {w w' : World} {xs : List (List Value)} {a : Option Addr} (h : FSl n w k xs a) (kp : Keep Nm w w') : FSl n w' k xs a := ⟨h.1.ext kp, h.2⟩
theorem FSl.le {n m k : Nat} {w : World} {xs : List (List Value)} {a : Option Addr} (h : FSl n w k xs a) (hm : m ≤ n) : FSl m w k xs a := ⟨h.1, fun e => Nat.le_trans hm (h.2 e)⟩
theorem FSl.put {n k b : Nat} {w w' : World} {xs : List (List Value)} {a : Option Addr} (h : FSl n w k xs a) (hb : b < n) (kp : Keep (fun q => q = b) w w') : FSl n w' k xs a :=
  ⟨h.1.keep (fun hne e => by have := h.2 hne; omega) kp, h.2⟩
theorem FSl.nil {n k : Nat} {w : World} {xs : List (List Value)} (h : xs = []) : FSl n w k xs none := by subst h; exact ⟨fun j x hx => by simp at hx, fun h => absurd rfl h⟩
section
variable {M : Nat → Prop} {w0 : World} {L : List (Nat × Obj)} {o : Oper} {K : Value → World → Prop}
theorem S.bound (H : S M w0 L w) : ∃ n, n ≤ w.heap.size ∧ (∀ p ∈ L, p.1 < n) ∧ w0.heap.size ≤ n := ⟨w.heap.size, Nat.le_refl _, fun _ hp => H.lt hp, H.keep.size⟩
theorem S.storeK (H : S M w0 L w) {t k j b off : Nat} {u : TypeId} {x y : Operand} {v : Value} {cs vs cs' : List Value} (ho : o.op = .store t x y) (hs : ∀ w, (sizeOf t).run P w = .ok k w)
    (hx : ev N ρ x = p b off) (hy : ev N ρ y = v) (hi : L[j]? = some (b, .cells cs.toArray u (0, 0))) (hvc : v.cells = vs.toArray) (hl : vs.length = k) (hle : Nat.ble (off + k) cs.length = true)
    (h1 : ∀ v ∈ vs, v.oneCell' = true) (hn : cs.take off ++ vs ++ cs.drop (off + k) = cs') (hk : ∀ w', Keep (fun q => q = b) w w' → S M w0 (L.set j (b, .cells cs'.toArray u (0, 0))) w' → K undef w') : Does P N o ρ w K := by
  have hb := H.own _ (List.mem_of_getElem? hi)
  have hle' : off + k ≤ cs.length := by simpa using hle
  have hr := run_storeCells (P := P) vs off 0 cs w hb (by omega) h1
  simp only [Nat.add_zero, hl, hn] at hr
  have hrun : (execOp (ev N ρ) o).run P w = .ok .skip (Mw.put w b (.cells cs'.toArray u (0, 0))) := by
    simp only [execOp, ho, hx, hy, Instr.storeAt, Instr.sureAddr, storeVar, Sem.run_bind, Sem.run_pure, Result.andThen, hs w, hvc, List.size_toArray, hl, ne_eq, not_true_eq_false, if_false, hr]
  unfold Does
  rw [hrun]
  exact hk _ ⟨rfl, rfl, rfl, Nat.le_of_eq (put_size _ _ _).symm, fun q _ hq => put_other hq⟩ (H.put j hi _)
theorem OwnRow.fsl {α : Type} {enc : α → List Value} {k e : Nat} (hk : ∀ x, (enc x).length = k) {w' : World} {a : Option Addr} {n c : Nat} {xs : List α} {L0 : List (Nat × Obj)} (h : OwnRow e k a n c (xs.map enc).flatten L0) (hn : n = xs.length) (H : S Nm w0 (L ++ L0) w') : FSl w0.heap.size w' k (xs.map enc) a := by
  refine ⟨h.sl hk hn H, fun hne => ?_⟩
  have hpos : 0 < n := by
    rw [hn]
    cases xs with
    | nil => exact absurd rfl hne
    | cons x xs => simp
  obtain ⟨g, tl, rfl, rfl, _⟩ := h.room hpos
  have := H.fresh (g, _) (List.mem_append_right L (List.mem_singleton.2 rfl))
  exact this.elim id False.elim
end
abbrev RowAt (k len : Nat) (xs : List (List Value)) (n : Nat) (v : Value) (w : World) : Prop := ∃ a c, v = .slice a len c ∧ FSl n w k xs a
theorem RowAt.le {k len n m : Nat} {xs : List (List Value)} {v : Value} {w : World} (h : RowAt k len xs n v w) (hm : m ≤ n) : RowAt k len xs m v w := let ⟨a, c, h1, h2⟩ := h; ⟨a, c, h1, h2.le hm⟩
theorem RowAt.ext {k len n : Nat} {xs : List (List Value)} {v : Value} {w w' : World} (h : RowAt k len xs n v w) (kk : Keep Nm w w') : RowAt k len xs n v w' := let ⟨a, c, h1, h2⟩ := h; ⟨a, c, h1, h2.ext kk⟩
end Go.Mw
namespace Go.Proofs.YthfnjppieihcfaaGreat
open Go.RowKit Go.Proofs Go.Mw
theorem en17 : Go.Proofs.Enters Tryz.prog 17 := Go.Proofs.enters_of Tryz.func17 (by kernel_rfl) rfl
theorem en26 : Go.Proofs.Enters Tryz.prog 26 := Go.Proofs.enters_of Tryz.func26 (by kernel_rfl) rfl
theorem en35 : Go.Proofs.Enters Tryz.prog 35 := Go.Proofs.enters_of Tryz.func35 (by kernel_rfl) rfl
theorem en39 : Go.Proofs.Enters Tryz.prog 39 := Go.Proofs.enters_of Tryz.func39 (by kernel_rfl) rfl
theorem en42 : Go.Proofs.Enters Tryz.prog 42 := Go.Proofs.enters_of Tryz.func42 (by kernel_rfl) rfl
theorem en55 : Go.Proofs.Enters Tryz.prog 55 := Go.Proofs.enters_of Tryz.func55 (by kernel_rfl) rfl
theorem en56 : Go.Proofs.Enters Tryz.prog 56 := Go.Proofs.enters_of Tryz.func56 (by kernel_rfl) rfl
theorem en57 : Go.Proofs.Enters Tryz.prog 57 := Go.Proofs.enters_of Tryz.func57 (by kernel_rfl) rfl
theorem sz43 : ∀ w, (sizeOf 43).run Tryz.prog w = .ok 5 w := fun _ => by kernel_rfl
theorem sz45 : ∀ w, (sizeOf 45).run Tryz.prog w = .ok 12 w := fun _ => by kernel_rfl
theorem sz52 : ∀ w, (sizeOf 52).run Tryz.prog w = .ok 10 w := fun _ => by kernel_rfl
theorem zv43 : ZV Tryz.prog 43 (.agg #[(i 0), (.slice none 0 0), (.slice none 0 0), (i 0), (i 0)]) := Tryz.zeroValue43
theorem zv45 : ZV Tryz.prog 45 (.agg #[(i 0), (.slice none 0 0), (.slice none 0 0), (i 0), (i 0), (i 0), (i 0), (i 0), (i 0), (i 0), (i 0), (i 0)]) := Tryz.zeroValue45
theorem zv52 : ZV Tryz.prog 52 (.agg #[(i 0), (i 0), (i 0), (i 0), (i 0), (i 0), (i 0), (i 0), (i 0), (.bool false)]) := Tryz.zeroValue52
open Men
theorem eq41 (a b c d : Int) : EqT Tryz.prog 41 (.agg #[i a, i b]) (.agg #[i c, i d]) (decide (a = c) && decide (b = d)) := by
  refine ⟨⟨_, _, rfl, rfl⟩, fun w => ?_, Tryz.eqGuardType41⟩
  rw [run_equalIn_agg (P := Tryz.prog) w 9999 41 _ _ (by simp [Program.fieldsOf, Tryz.underlying41]) Tryz.stoodInHeld41]
  simp [Program.fieldsOf, Tryz.underlying41, Op.eqFields, go_sem, Tryz.isAgg3, Tryz.underlying3]
  by_cases h1 : a = c <;> by_cases h2 : b = d <;> simp [h1, h2]
theorem eq103 (a b c d e f : Int) : EqT Tryz.prog 103 (.agg #[i a, i b, i c]) (.agg #[i d, i e, i f]) ((decide (a = d) && decide (b = e)) && decide (c = f)) := by
  refine ⟨⟨_, _, rfl, rfl⟩, fun w => ?_, Tryz.eqGuardType103⟩
  rw [run_equalIn_agg (P := Tryz.prog) w 9999 103 _ _ (by simp [Program.fieldsOf, Tryz.underlying103]) Tryz.stoodInHeld103]
  simp [Program.fieldsOf, Tryz.underlying103, Op.eqFields, go_sem, Tryz.isAgg3, Tryz.underlying3]
  by_cases h1 : a = d <;> by_cases h2 : b = e <;> by_cases h3 : c = f <;> simp [h1, h2, h3]
set_option maxRecDepth 100000 in
theorem c55 (w : World) : Ret Tryz.prog 55 [] w fun v w' => ∃ (b1 b2 : Nat) (o1 o2 : Obj), v = (.agg (tbC tube0 (some ⟨b1, 0, none⟩) 2 (some ⟨b2, 0, none⟩) 2).toArray) ∧ S Nm w [(b2, o2), (b1, o1)] w' ∧ InB b1 o1 3 (tube0.bs.map bandV) (some ⟨b1, 0, none⟩) ∧ InB b2 o2 2 (tube0.dl.map depthV) (some ⟨b2, 0, none⟩) := by
  refine Ret.body (N := 17) Tryz.func55 rfl Tryz.ntmps55 rfl ?_
  have H := S.start Nm w
  refine Wp.seq ?_
  refine Wp.region ?_
  refine Ro.d rfl rfl rfl (H.new (l := [i 0, .slice none 0 0, .slice none 0 0, i 0, i 0, i 0, i 0, i 0, i 0, i 0, i 0, i 0]) rfl zv45 rfl ?_)
  intro b1 w2 Hn; replace H := Hn; clear Hn
  refine Ro.nil (nT ?_)
  refine Wp.seq ?_
  refine Wp.region ?_
  refine Ro.d rfl rfl rfl (d_call rfl en42 (ce (v := (i 1)) rfl (ce (v := (i 2)) rfl cn)) (c42 1 2 _ ) ?_)
  intro u w3 k4 hu; subst hu; replace H := H.ext k4
  clear k4
  refine Ro.q (v := (.agg #[(i 0), (i 1), (i 2)])) rfl rfl (r_build (v := (.agg #[(i 0), (i 1), (i 2)])) (pe (v := (.agg #[(i 1), (i 2)])) rfl pn) (fun w => by kernel_rfl)) rfl ?_
  refine Ro.d rfl rfl rfl (d_call rfl en42 (ce (v := (i 0)) rfl (ce (v := (i 1)) rfl cn)) (c42 0 1 _ ) ?_)
  intro u w5 k6 hu; subst hu; replace H := H.ext k6
  clear k6
  refine Ro.q (v := (.agg #[(i 3), (i 0), (i 1)])) rfl rfl (r_build (v := (.agg #[(i 3), (i 0), (i 1)])) (pe (v := (i 3)) rfl (pe (v := (.agg #[(i 0), (i 1)])) rfl pn)) (fun w => by kernel_rfl)) rfl ?_
  refine Ro.d rfl rfl rfl (H.row (e := 161) (cs := [i 0, i 1, i 2, i 3, i 0, i 1]) rfl (pe (v := (.agg #[(i 0), (i 1), (i 2)])) rfl (pe (v := (.agg #[(i 3), (i 0), (i 1)])) rfl pn)) (fun w => by kernel_rfl) ?_)
  intro b7 w8 Hn; replace H := Hn; clear Hn
  refine Ro.q (v := (.agg #[(i 100), (i 10)])) rfl rfl (r_build (v := (.agg #[(i 100), (i 10)])) (pe (v := (i 100)) rfl (pe (v := (i 10)) rfl pn)) (fun w => by kernel_rfl)) rfl ?_
  refine Ro.q (v := (.agg #[(i 300), (i 25)])) rfl rfl (r_build (v := (.agg #[(i 300), (i 25)])) (pe (v := (i 300)) rfl (pe (v := (i 25)) rfl pn)) (fun w => by kernel_rfl)) rfl ?_
  refine Ro.d rfl rfl rfl (H.row (e := 164) (cs := [i 100, i 10, i 300, i 25]) rfl (pe (v := (.agg #[(i 100), (i 10)])) rfl (pe (v := (.agg #[(i 300), (i 25)])) rfl pn)) (fun w => by kernel_rfl) ?_)
  intro b9 w10 Hn; replace H := Hn; clear Hn
  refine Ro.d rfl rfl rfl (d_call rfl en42 (ce (v := (i 2)) rfl (ce (v := (i 4)) rfl cn)) (c42 2 4 _ ) ?_)
  intro u w11 k12 hu; subst hu; replace H := H.ext k12
  clear k12
  refine Ro.q (v := (.agg #[(i 0), (.slice (some ⟨b7, 0, none⟩) 2 2), (.slice (some ⟨b9, 0, none⟩) 2 2), (i 2), (i 4)])) rfl rfl (r_build (v := (.agg #[(i 0), (.slice (some ⟨b7, 0, none⟩) 2 2), (.slice (some ⟨b9, 0, none⟩) 2 2), (i 2), (i 4)])) (pe (v := (.slice (some ⟨b7, 0, none⟩) 2 2)) rfl (pe (v := (.slice (some ⟨b9, 0, none⟩) 2 2)) rfl (pe (v := (.agg #[(i 2), (i 4)])) rfl pn))) (fun w => by kernel_rfl)) rfl ?_
  refine Ro.d rfl rfl rfl (H.new (l := [i 0, .slice none 0 0, .slice none 0 0, i 0, i 0]) rfl zv43 rfl ?_)
  intro b13 w14 Hn; replace H := Hn; clear Hn
  refine Ro.d0 rfl rfl rfl (H.store (j := 0) (off := 0) (k := 5) rfl sz43 rfl (v := (.agg #[(i 0), (.slice (some ⟨b7, 0, none⟩) 2 2), (.slice (some ⟨b9, 0, none⟩) 2 2), (i 2), (i 4)])) rfl rfl rfl rfl rfl (by simp [Value.oneCell']) (cs' := [i 0, .slice (some ⟨b7, 0, none⟩) 2 2, .slice (some ⟨b9, 0, none⟩) 2 2, i 2, i 4]) rfl ?_)
  intro w15 Hn; replace H := Hn; clear Hn
  refine Ro.nil (nT ?_)
  refine Wp.seq ?_
  refine Wp.drawnS 5 [0, 0, 2, 6, 15, 31] [is (.agg #[(i 0), (.slice (some ⟨b7, 0, none⟩) 2 2), (.slice (some ⟨b9, 0, none⟩) 2 2), (i 2), (i 4)]), is (.agg #[(i 15), (i 17)]), is (.agg #[(i 1), (i 2)]), is (.agg #[(i 0), (i 1)]), is (.agg #[(i 0), (.slice (some ⟨b7, 0, none⟩) 2 2), (.slice (some ⟨b9, 0, none⟩) 2 2), (i 2), (i 4), (i 15), (i 17), (i 1), (i 2), (i 0), (i 1), (i 2)])] (by kernel_rfl) (by kernel_rfl) rfl (Mi (Mi (Mi (Mi (Mi Mono.nil))))) (fun w' k => H.ext k) ?_ ?_
  · refine ⟨?_, ⟨?_, ⟨?_, ⟨?_, ⟨?_, trivial⟩⟩⟩⟩⟩
    · exact Ob.q rfl (fun _ _ B U D => (r_load ta43 (show (_ : Value) = (p b13 0) from U 1 rfl) (B.cells 0 rfl) (j := 0) rfl (vs := [i 0, .slice (some ⟨b7, 0, none⟩) 2 2, .slice (some ⟨b9, 0, none⟩) 2 2, i 2, i 4]) rfl rfl)) rfl rfl
    · exact Ob.mk rfl fun ρ' w' B U D => d_call rfl en42 (ce (v := (i 15)) rfl (ce (v := (i 17)) rfl cn)) (c42 15 17 _ ) (fun u w2 k2 hu => ⟨k2, hu⟩)
    · exact Ob.mk rfl fun ρ' w' B U D => d_call rfl en42 (ce (v := (i 1)) rfl (ce (v := (i 2)) rfl cn)) (c42 1 2 _ ) (fun u w2 k2 hu => ⟨k2, hu⟩)
    · exact Ob.mk rfl fun ρ' w' B U D => d_call rfl en42 (ce (v := (i 0)) rfl (ce (v := (i 1)) rfl cn)) (c42 0 1 _ ) (fun u w2 k2 hu => ⟨k2, hu⟩)
    · exact Ob.q rfl (fun _ _ B U D => (r_build (v := (.agg #[(i 0), (.slice (some ⟨b7, 0, none⟩) 2 2), (.slice (some ⟨b9, 0, none⟩) 2 2), (i 2), (i 4), (i 15), (i 17), (i 1), (i 2), (i 0), (i 1), (i 2)])) (pe (v := (.agg #[(i 0), (.slice (some ⟨b7, 0, none⟩) 2 2), (.slice (some ⟨b9, 0, none⟩) 2 2), (i 2), (i 4)])) (D 0 rfl) (pe (v := (.agg #[(i 15), (i 17)])) (D 1 rfl) (pe (v := (.agg #[(i 1), (i 2)])) (D 2 rfl) (pe (v := (.agg #[(i 0), (i 1)])) (D 3 rfl) (pe (v := (i 2)) rfl pn))))) (fun w => by kernel_rfl))) rfl rfl
  intro ρ16 w17 k18 U19 D20; replace H := H.ext k18
  have f21 : ρ16 0 = (p b1 0) := U19 0 rfl
  have f22 : ρ16 16 = (.agg #[(i 0), (.slice (some ⟨b7, 0, none⟩) 2 2), (.slice (some ⟨b9, 0, none⟩) 2 2), (i 2), (i 4), (i 15), (i 17), (i 1), (i 2), (i 0), (i 1), (i 2)]) := D20 4 rfl
  clear U19 D20 k18
  refine Ro.d0 rfl rfl rfl (H.store (j := 3) (off := 0) (k := 12) rfl sz45 f21 (v := (.agg #[(i 0), (.slice (some ⟨b7, 0, none⟩) 2 2), (.slice (some ⟨b9, 0, none⟩) 2 2), (i 2), (i 4), (i 15), (i 17), (i 1), (i 2), (i 0), (i 1), (i 2)])) f22 rfl rfl rfl rfl (by simp [Value.oneCell']) (cs' := [i 0, .slice (some ⟨b7, 0, none⟩) 2 2, .slice (some ⟨b9, 0, none⟩) 2 2, i 2, i 4, i 15, i 17, i 1, i 2, i 0, i 1, i 2]) rfl ?_)
  intro w23 Hn; replace H := Hn; clear Hn
  refine Ro.nil (nT ?_)
  refine Wp.ret (bodyR ?_)
  refine leave_cell (vs := [i 0, .slice (some ⟨b7, 0, none⟩) 2 2, .slice (some ⟨b9, 0, none⟩) 2 2, i 2, i 4, i 15, i 17, i 1, i 2, i 0, i 1, i 2]) Tryz.results55 f21 ta45 (H.cells 3 rfl) rfl ⟨H.keep, ?_⟩
  replace H := S.sublist (L' := [(b9, .cells [i 100, i 10, i 300, i 25].toArray 164 (0, 0)), (b7, .cells [i 0, i 1, i 2, i 3, i 0, i 1].toArray 161 (0, 0))]) H (.cons _ (.cons_cons _ (.cons_cons _ (.cons _ (List.Sublist.refl _)))))
  exact ⟨b7, b9, _, _, rfl, H, (fun W hW => Sl.of (b := b7) (k := 3) (xs := tube0.bs.map bandV) (by decide) ⟨_, _, _, hW, rfl⟩), (fun W hW => Sl.of (b := b9) (k := 2) (xs := tube0.dl.map depthV) (by decide) ⟨_, _, _, hW, rfl⟩)⟩
set_option maxRecDepth 100000 in
theorem c56 (w : World) : Rv Tryz.prog 56 [] w (.agg (rdC shown0).toArray) := by
  refine Ret.body (N := 4) Tryz.func56 rfl Tryz.ntmps56 rfl ?_
  have H := S.start Nm w
  refine Wp.seq ?_
  refine Wp.region ?_
  refine Ro.d rfl rfl rfl (H.new (l := [i 0, i 0, i 0, i 0, i 0, i 0, i 0, i 0, i 0, .bool false]) rfl zv52 rfl ?_)
  intro b1 w2 Hn; replace H := Hn; clear Hn
  refine Ro.nil (nT ?_)
  refine Wp.seq ?_
  refine Wp.region ?_
  refine Ro.d rfl rfl rfl (d_call rfl en42 (ce (v := (i 20)) rfl (ce (v := (i 30)) rfl cn)) (c42 20 30 _ ) ?_)
  intro u w3 k4 hu; subst hu; replace H := H.ext k4
  clear k4
  refine Ro.d rfl rfl rfl (d_call rfl en42 (ce (v := (i 0)) rfl (ce (v := (i 3)) rfl cn)) (c42 0 3 _ ) ?_)
  intro u w5 k6 hu; subst hu; replace H := H.ext k6
  clear k6
  refine Ro.q (v := (.agg #[(i 2), (i 2000), (i 2), (i 100), (i 20), (i 30), (i 0), (i 3), (i 2), (.bool false)])) rfl rfl (r_build (v := (.agg #[(i 2), (i 2000), (i 2), (i 100), (i 20), (i 30), (i 0), (i 3), (i 2), (.bool false)])) (pe (v := (i 2)) rfl (pe (v := (i 2000)) rfl (pe (v := (i 2)) rfl (pe (v := (i 100)) rfl (pe (v := (.agg #[(i 20), (i 30)])) rfl (pe (v := (.agg #[(i 0), (i 3)])) rfl (pe (v := (i 2)) rfl pn))))))) (fun w => by kernel_rfl)) rfl ?_
  refine Ro.d0 rfl rfl rfl (H.store (j := 0) (off := 0) (k := 10) rfl sz52 rfl (v := (.agg #[(i 2), (i 2000), (i 2), (i 100), (i 20), (i 30), (i 0), (i 3), (i 2), (.bool false)])) rfl rfl rfl rfl rfl (by simp [Value.oneCell']) (cs' := [i 2, i 2000, i 2, i 100, i 20, i 30, i 0, i 3, i 2, .bool false]) rfl ?_)
  intro w7 Hn; replace H := Hn; clear Hn
  refine Ro.nil (nT ?_)
  refine Wp.ret (bodyR ?_)
  refine leave_cell (vs := [i 2, i 2000, i 2, i 100, i 20, i 30, i 0, i 3, i 2, .bool false]) Tryz.results56 rfl ta52 (H.cells 0 rfl) rfl ⟨H.keep, ?_⟩
  rfl
set_option maxRecDepth 100000 in
theorem c57 (w : World) : Ret Tryz.prog 57 [] w fun v w' => ∃ (b : Nat) (o : Obj), v = .slice (some ⟨b, 0, none⟩) 4 4 ∧ S Nm w [(b, o)] w' ∧ InB b o 2 (spring0.map rgV) (some ⟨b, 0, none⟩) := by
  refine Ret.body (N := 6) Tryz.func57 rfl Tryz.ntmps57 rfl ?_
  have H := S.start Nm w
  refine Wp.seq ?_
  refine Wp.region ?_
  refine Ro.q (v := (.slice none 0 0)) rfl rfl (r_assign rfl) rfl ?_
  refine Ro.nil (nT ?_)
  refine Wp.seq ?_
  refine Wp.region ?_
  refine Ro.d rfl rfl rfl (d_call rfl en42 (ce (v := (i 0)) rfl (ce (v := (i 0)) rfl cn)) (c42 0 0 _ ) ?_)
  intro u w1 k2 hu; subst hu; replace H := H.ext k2
  clear k2
  refine Ro.d rfl rfl rfl (d_call rfl en42 (ce (v := (i 150)) rfl (ce (v := (i 150)) rfl cn)) (c42 150 150 _ ) ?_)
  intro u w3 k4 hu; subst hu; replace H := H.ext k4
  clear k4
  refine Ro.d rfl rfl rfl (d_call rfl en42 (ce (v := (i 0)) rfl (ce (v := (i 20)) rfl cn)) (c42 0 20 _ ) ?_)
  intro u w5 k6 hu; subst hu; replace H := H.ext k6
  clear k6
  refine Ro.d rfl rfl rfl (d_call rfl en42 (ce (v := (i 0)) rfl (ce (v := (i 350)) rfl cn)) (c42 0 350 _ ) ?_)
  intro u w7 k8 hu; subst hu; replace H := H.ext k8
  clear k8
  refine Ro.d rfl rfl rfl (H.row (e := 41) (cs := [i 0, i 0, i 150, i 150, i 0, i 20, i 0, i 350]) rfl (pe (v := (.agg #[(i 0), (i 0)])) rfl (pe (v := (.agg #[(i 150), (i 150)])) rfl (pe (v := (.agg #[(i 0), (i 20)])) rfl (pe (v := (.agg #[(i 0), (i 350)])) rfl pn)))) (fun w => by kernel_rfl) ?_)
  intro b9 w10 Hn; replace H := Hn; clear Hn
  refine Ro.q (v := (.slice (some ⟨b9, 0, none⟩) 4 4)) rfl rfl (r_assign rfl) rfl ?_
  refine Ro.nil (nT ?_)
  refine Wp.ret (bodyR ?_)
  refine leave_tmp (v := (.slice (some ⟨b9, 0, none⟩) 4 4)) Tryz.results57 rfl ⟨H.keep, ?_⟩
  exact ⟨b9, _, rfl, H.one 0 rfl, (fun W hW => Sl.of (b := b9) (k := 2) (xs := spring0.map rgV) (by decide) ⟨_, _, _, hW, rfl⟩)⟩
theorem awk39 {ab ad : Option Addr} {cab cad : Nat} (w : World) (hab : Sl w 3 (tube0.bs.map bandV) ab) (had : Sl w 2 (tube0.dl.map depthV) ad) : Ret Tryz.prog 39 [.agg (tbC tube0 ab cab ad cad).toArray, .agg (rdC shown0).toArray, .agg #[i (-3), i 15, i 2, i 1, i 30, i 3, i 1]] w fun v _ => v = .tuple #[i 2033, i 0] :=
  (c39 w hab had (by decide)).mono fun v w' k ⟨n, e, hv, hn⟩ => by
    obtain ⟨rfl, rfl⟩ := hn ⟨tube0_zero, by decide, by decide⟩
    rw [hv]; rfl
theorem awk35 {ab ad ah : Option Addr} {cab cad cah : Nat} (w : World) (hab : Sl w 3 (tube0.bs.map bandV) ab) (had : Sl w 2 (tube0.dl.map depthV) ad) (hah : Sl w 2 (spring0.map rgV) ah) : Rv Tryz.prog 35 [.agg (tbC tube0 ab cab ad cad).toArray, .slice ah 4 cah, .slice none 0 0, .agg (rdC shown0).toArray] w (.tuple #[.agg #[i 2021, i 2043], i 0]) := by
  have h := c35 (t := tube0) (h := spring0) (ices := []) (x := shown0) (ai := none) (cai := 0) (cah := cah) (cab := cab) (cad := cad) w hab had hah (Sl.nil' rfl) (by decide) (by decide)
  rw [cor0.1, cor0.2] at h; exact h
theorem awk17 {ab ad ah : Option Addr} {cab cad cah : Nat} (w : World) (hab : Sl w 3 (tube0.bs.map bandV) ab) (had : Sl w 2 (tube0.dl.map depthV) ad) (hah : Sl w 2 (spring0.map rgV) ah) : Rv Tryz.prog 17 [.agg (tbC tube0 ab cab ad cad).toArray, .slice ah 4 cah, .slice none 0 0, .agg (rdC shown0).toArray, i 22] w (.tuple #[i 114, i 0]) := by
  have h := c17 (t := tube0) (h := spring0) (ices := []) (x := shown0) (most := 22) (ai := none) (cai := 0) (cah := cah) (cab := cab) (cad := cad) w hab had hah (Sl.nil' rfl) (by decide) (by decide)
  rw [bare0.1, bare0.2] at h; exact h
theorem bath0 : bathE tube0 spring0 [] [shown0, second0] = 0 := by
  rw [bath_one (x0 := shown0) (by decide) rfl, ref0 rfl rfl]; decide
theorem sam0 : samE tube0 spring0 [] [shown0, second0] = 0 ∧ samQ tube0 spring0 [] [shown0, second0] = ⟨2023, 2032⟩ := sam_ok use0 bath0 same0 rfl zl0
theorem awk26 {ab ad ah : Option Addr} {cab cad cah : Nat} (w : World) (hab : Sl w 3 (tube0.bs.map bandV) ab) (had : Sl w 2 (tube0.dl.map depthV) ad) (hah : Sl w 2 (spring0.map rgV) ah) {al : Option Addr} {cal : Nat} (hal : Sl w 10 ([shown0, second0].map rdV) al) : Rv Tryz.prog 26 [.agg (tbC tube0 ab cab ad cad).toArray, .slice ah 4 cah, .slice none 0 0, .slice al 2 cal] w (.tuple #[.agg #[i 2023, i 2032], i 0]) := by
  have h := c26 (t := tube0) (h := spring0) (ices := []) (l := [shown0, second0]) (ai := none) (cai := 0) (cah := cah) (cab := cab) (cad := cad) (cal := cal) w hab had hah (Sl.nil' rfl) hal (by decide) (by decide)
  rw [sam0.1, sam0.2] at h; exact h
set_option maxHeartbeats 2000000 in
set_option maxRecDepth 100000 in
theorem c16 (w : World) : Rv Tryz.prog 16 [] w (.bool true) := by
  refine Ret.body (N := 71) Tryz.func16 rfl Tryz.ntmps16 rfl ?_
  have H := S.start Nm w
  refine Wp.seq ?_
  refine Wp.region ?_
  refine Ro.q (v := (.bool false)) rfl rfl (r_assign rfl) rfl ?_
  refine Ro.nil (nT ?_)
  refine Wp.seq ?_
  refine Wp.region ?_
  refine Ro.d rfl rfl rfl (d_call rfl en55 cn (c55 _) ?_)
  have Hc10 := H
  rintro u w8 k9 ⟨bt1, bt2, ot3, ot4, rfl, hS5, hz6, hz7⟩
  replace H := H.ext k9
  replace H : S Nm w [(bt2, ot4), (bt1, ot3)] w8 := Hc10.join hS5
  refine Ro.d rfl rfl rfl (d_call rfl en56 cn (c56 _) ?_)
  rintro u w11 k12 rfl
  replace H := H.ext k12
  refine Ro.q (v := (.agg #[(i (-3)), (i 15), (i 2), (i 1), (i 30), (i 3), (i 1)])) rfl rfl (r_build (v := (.agg #[(i (-3)), (i 15), (i 2), (i 1), (i 30), (i 3), (i 1)])) (pe (v := (i (-3))) rfl (pe (v := (i 15)) rfl (pe (v := (i 2)) rfl (pe (v := (i 1)) rfl (pe (v := (i 30)) rfl (pe (v := (i 3)) rfl (pe (v := (i 1)) rfl pn))))))) (fun w => by kernel_rfl)) rfl ?_
  refine Ro.d rfl rfl rfl (d_call rfl en39 (ce (v := (.agg (tbC tube0 (some ⟨bt1, 0, none⟩) 2 (some ⟨bt2, 0, none⟩) 2).toArray)) rfl (ce (v := (.agg (rdC shown0).toArray)) rfl (ce (v := (.agg #[(i (-3)), (i 15), (i 2), (i 1), (i 30), (i 3), (i 1)])) rfl cn))) (awk39 _ (hz6 _ (H.at 1 rfl)) (hz7 _ (H.at 0 rfl))) ?_)
  rintro u w14 k15 rfl
  replace H := H.ext k15
  refine Ro.q (v := (.tuple #[(i 2033), (i 0)])) rfl rfl (r_move rfl) rfl ?_
  refine Ro.q (v := (i 2033)) rfl rfl (r_extract rfl (j := 0) rfl) rfl ?_
  refine Ro.q (v := (i 0)) rfl rfl (r_extract rfl (j := 1) rfl) rfl ?_
  refine Ro.q (v := (i 2033)) rfl rfl (r_assign rfl) rfl ?_
  refine Ro.q (v := (i 0)) rfl rfl (r_assign rfl) rfl ?_
  refine Ro.nil (nT ?_)
  refine Wp.seq ?_
  refine Wp.region ?_
  refine Ro.d rfl rfl rfl (d_call rfl en55 cn (c55 _) ?_)
  have Hc26 := H
  rintro u w24 k25 ⟨bt17, bt18, ot19, ot20, rfl, hS21, hz22, hz23⟩
  replace H := H.ext k25
  replace H : S Nm w [(bt18, ot20), (bt17, ot19), (bt2, ot4), (bt1, ot3)] w24 := Hc26.join hS21
  refine Ro.d rfl rfl rfl (d_call rfl en57 cn (c57 _) ?_)
  have Hc33 := H
  rintro u w31 k32 ⟨bh27, oh28, rfl, hS29, hz30⟩
  replace H := H.ext k32
  replace H : S Nm w [(bh27, oh28), (bt18, ot20), (bt17, ot19), (bt2, ot4), (bt1, ot3)] w31 := Hc33.join hS29
  refine Ro.d rfl rfl rfl (d_call rfl en56 cn (c56 _) ?_)
  rintro u w34 k35 rfl
  replace H := H.ext k35
  refine Ro.d rfl rfl rfl (d_call rfl en35 (ce (v := (.agg (tbC tube0 (some ⟨bt17, 0, none⟩) 2 (some ⟨bt18, 0, none⟩) 2).toArray)) rfl (ce (v := (.slice (some ⟨bh27, 0, none⟩) 4 4)) rfl (ce (v := (.slice none 0 0)) rfl (ce (v := (.agg (rdC shown0).toArray)) rfl cn)))) (awk35 _ (hz22 _ (H.at 2 rfl)) (hz23 _ (H.at 1 rfl)) (hz30 _ (H.at 0 rfl))) ?_)
  rintro u w37 k38 rfl
  replace H := H.ext k38
  refine Ro.q (v := (.tuple #[(.agg #[(i 2021), (i 2043)]), (i 0)])) rfl rfl (r_move rfl) rfl ?_
  refine Ro.q (v := (.agg #[(i 2021), (i 2043)])) rfl rfl (r_extract rfl (j := 0) rfl) rfl ?_
  refine Ro.q (v := (i 0)) rfl rfl (r_extract rfl (j := 1) rfl) rfl ?_
  refine Ro.d rfl rfl rfl (H.new (l := [i 0, i 0]) rfl zv41 rfl ?_)
  intro b40 w41 Hn; replace H := Hn; clear Hn
  refine Ro.d0 rfl rfl rfl (H.store (j := 0) (off := 0) (k := 2) rfl sz41 rfl (v := (.agg #[(i 2021), (i 2043)])) rfl rfl rfl rfl rfl (by simp [Value.oneCell']) (cs' := [i 2021, i 2043]) rfl ?_)
  intro w42 Hn; replace H := Hn; clear Hn
  refine Ro.q (v := (i 0)) rfl rfl (r_assign rfl) rfl ?_
  refine Ro.nil (nT ?_)
  refine Wp.seq ?_
  refine Wp.region ?_
  refine Ro.d rfl rfl rfl (d_call rfl en55 cn (c55 _) ?_)
  have Hc52 := H
  rintro u w50 k51 ⟨bt43, bt44, ot45, ot46, rfl, hS47, hz48, hz49⟩
  replace H := H.ext k51
  replace H : S Nm w [(bt44, ot46), (bt43, ot45), (b40, .cells [i 2021, i 2043].toArray 41 (0, 0)), (bh27, oh28), (bt18, ot20), (bt17, ot19), (bt2, ot4), (bt1, ot3)] w50 := Hc52.join hS47
  refine Ro.d rfl rfl rfl (d_call rfl en57 cn (c57 _) ?_)
  have Hc59 := H
  rintro u w57 k58 ⟨bh53, oh54, rfl, hS55, hz56⟩
  replace H := H.ext k58
  replace H : S Nm w [(bh53, oh54), (bt44, ot46), (bt43, ot45), (b40, .cells [i 2021, i 2043].toArray 41 (0, 0)), (bh27, oh28), (bt18, ot20), (bt17, ot19), (bt2, ot4), (bt1, ot3)] w57 := Hc59.join hS55
  refine Ro.d rfl rfl rfl (d_call rfl en56 cn (c56 _) ?_)
  rintro u w60 k61 rfl
  replace H := H.ext k61
  refine Ro.d rfl rfl rfl (d_call rfl en17 (ce (v := (.agg (tbC tube0 (some ⟨bt43, 0, none⟩) 2 (some ⟨bt44, 0, none⟩) 2).toArray)) rfl (ce (v := (.slice (some ⟨bh53, 0, none⟩) 4 4)) rfl (ce (v := (.slice none 0 0)) rfl (ce (v := (.agg (rdC shown0).toArray)) rfl (ce (v := (i 22)) rfl cn))))) (awk17 _ (hz48 _ (H.at 2 rfl)) (hz49 _ (H.at 1 rfl)) (hz56 _ (H.at 0 rfl))) ?_)
  rintro u w63 k64 rfl
  replace H := H.ext k64
  refine Ro.q (v := (.tuple #[(i 114), (i 0)])) rfl rfl (r_move rfl) rfl ?_
  refine Ro.q (v := (i 114)) rfl rfl (r_extract rfl (j := 0) rfl) rfl ?_
  refine Ro.q (v := (i 0)) rfl rfl (r_extract rfl (j := 1) rfl) rfl ?_
  refine Ro.q (v := (i 114)) rfl rfl (r_assign rfl) rfl ?_
  refine Ro.q (v := (i 0)) rfl rfl (r_assign rfl) rfl ?_
  refine Ro.nil (nT ?_)
  refine Wp.seq ?_
  refine Wp.region ?_
  refine Ro.d rfl rfl rfl (d_call rfl en55 cn (c55 _) ?_)
  have Hc75 := H
  rintro u w73 k74 ⟨bt66, bt67, ot68, ot69, rfl, hS70, hz71, hz72⟩
  replace H := H.ext k74
  replace H : S Nm w [(bt67, ot69), (bt66, ot68), (bh53, oh54), (bt44, ot46), (bt43, ot45), (b40, .cells [i 2021, i 2043].toArray 41 (0, 0)), (bh27, oh28), (bt18, ot20), (bt17, ot19), (bt2, ot4), (bt1, ot3)] w73 := Hc75.join hS70
  refine Ro.d rfl rfl rfl (d_call rfl en57 cn (c57 _) ?_)
  have Hc82 := H
  rintro u w80 k81 ⟨bh76, oh77, rfl, hS78, hz79⟩
  replace H := H.ext k81
  replace H : S Nm w [(bh76, oh77), (bt67, ot69), (bt66, ot68), (bh53, oh54), (bt44, ot46), (bt43, ot45), (b40, .cells [i 2021, i 2043].toArray 41 (0, 0)), (bh27, oh28), (bt18, ot20), (bt17, ot19), (bt2, ot4), (bt1, ot3)] w80 := Hc82.join hS78
  refine Ro.d rfl rfl rfl (d_call rfl en56 cn (c56 _) ?_)
  rintro u w83 k84 rfl
  replace H := H.ext k84
  refine Ro.q (v := (.agg #[(i 2), (i 2025), (i 2), (i 0), (i 0), (i 0), (i 0), (i 0), (i 0), (.bool false)])) rfl rfl (r_build (v := (.agg #[(i 2), (i 2025), (i 2), (i 0), (i 0), (i 0), (i 0), (i 0), (i 0), (.bool false)])) (pe (v := (i 2)) rfl (pe (v := (i 2025)) rfl (pe (v := (i 2)) rfl pn))) (fun w => by kernel_rfl)) rfl ?_
  refine Ro.d rfl rfl rfl (H.row (e := 52) (cs := (rdC shown0 ++ rdC second0)) rfl (pe (v := (.agg (rdC shown0).toArray)) rfl (pe (v := (.agg #[(i 2), (i 2025), (i 2), (i 0), (i 0), (i 0), (i 0), (i 0), (i 0), (.bool false)])) rfl pn)) (fun w => by kernel_rfl) ?_)
  intro b86 w87 Hn; replace H := Hn; clear Hn
  refine Ro.d rfl rfl rfl (d_call rfl en26 (ce (v := (.agg (tbC tube0 (some ⟨bt66, 0, none⟩) 2 (some ⟨bt67, 0, none⟩) 2).toArray)) rfl (ce (v := (.slice (some ⟨bh76, 0, none⟩) 4 4)) rfl (ce (v := (.slice none 0 0)) rfl (ce (v := (.slice (some ⟨b86, 0, none⟩) 2 2)) rfl cn)))) (awk26 _ (hz71 _ (H.at 3 rfl)) (hz72 _ (H.at 2 rfl)) (hz79 _ (H.at 1 rfl)) (Sl.of (b := b86) (k := 10) (xs := [shown0, second0].map rdV) (by decide) ⟨_, _, _, H.at 0 rfl, rfl⟩)) ?_)
  rintro u w88 k89 rfl
  replace H := H.ext k89
  refine Ro.q (v := (.tuple #[(.agg #[(i 2023), (i 2032)]), (i 0)])) rfl rfl (r_move rfl) rfl ?_
  refine Ro.q (v := (.agg #[(i 2023), (i 2032)])) rfl rfl (r_extract rfl (j := 0) rfl) rfl ?_
  refine Ro.q (v := (i 0)) rfl rfl (r_extract rfl (j := 1) rfl) rfl ?_
  refine Ro.d rfl rfl rfl (H.new (l := [i 0, i 0]) rfl zv41 rfl ?_)
  intro b91 w92 Hn; replace H := Hn; clear Hn
  refine Ro.d0 rfl rfl rfl (H.store (j := 0) (off := 0) (k := 2) rfl sz41 rfl (v := (.agg #[(i 2023), (i 2032)])) rfl rfl rfl rfl rfl (by simp [Value.oneCell']) (cs' := [i 2023, i 2032]) rfl ?_)
  intro w93 Hn; replace H := Hn; clear Hn
  refine Ro.q (v := (i 0)) rfl rfl (r_assign rfl) rfl ?_
  refine Ro.nil (nT ?_)
  refine Wp.seq ?_
  refine Wp.drawnS 32 [0, 1, 3, 7, 15, 31, 63, 127, 255, 511, 1023, 2047, 2047, 8191, 16383, 32767, 65535, 131071, 262143, 524287, 1048575, 2097151, 4194303, 8388607, 16777215, 33554431, 67108863, 134217727, 268435455, 268435455, 1073741823, 2147483647, 4294967295] [is (i 0), is (.bool true), is (.bool true), gdv (True ∧ true = true) (i 2033), gdv (True ∧ true = true) (.bool true), is (.bool true), is (.bool true), gdv (True ∧ true = true) (i 0), gdv (True ∧ true = true) (.bool true), is (.bool true), is (.bool true), gdv (True ∧ true = true) (.agg #[(i 2021), (i 2043)]), gdv (True ∧ true = true) (.agg #[(i 2021), (i 2043)]), gdv (True ∧ true = true) (.bool true), is (.bool true), is (.bool true), gdv (True ∧ true = true) (i 0), gdv (True ∧ true = true) (.bool true), is (.bool true), is (.bool true), gdv (True ∧ true = true) (i 114), gdv (True ∧ true = true) (.bool true), is (.bool true), is (.bool true), gdv (True ∧ true = true) (i 0), gdv (True ∧ true = true) (.bool true), is (.bool true), is (.bool true), gdv (True ∧ true = true) (.agg #[(i 2023), (i 2032)]), gdv (True ∧ true = true) (.agg #[(i 2023), (i 2032)]), gdv (True ∧ true = true) (.bool true), is (.bool true)] (by kernel_rfl) (by kernel_rfl) rfl (Mi (Mi (Mi (Mg (Mg (Mi (Mi (Mg (Mg (Mi (Mi (Mg (Mg (Mg (Mi (Mi (Mg (Mg (Mi (Mi (Mg (Mg (Mi (Mi (Mg (Mg (Mi (Mi (Mg (Mg (Mg (Mi Mono.nil)))))))))))))))))))))))))))))))) (fun w' k => H.ext k) ?_ ?_
  · refine ⟨?_, ⟨?_, ⟨?_, ⟨?_, ⟨?_, ⟨?_, ⟨?_, ⟨?_, ⟨?_, ⟨?_, ⟨?_, ⟨?_, ⟨?_, ⟨?_, ⟨?_, ⟨?_, ⟨?_, ⟨?_, ⟨?_, ⟨?_, ⟨?_, ⟨?_, ⟨?_, ⟨?_, ⟨?_, ⟨?_, ⟨?_, ⟨?_, ⟨?_, ⟨?_, ⟨?_, ⟨?_, trivial⟩⟩⟩⟩⟩⟩⟩⟩⟩⟩⟩⟩⟩⟩⟩⟩⟩⟩⟩⟩⟩⟩⟩⟩⟩⟩⟩⟩⟩⟩⟩⟩
    · exact Ob.q rfl (fun _ _ B U D => (r_move (show (_ : Value) = (i 0) from U 2 rfl))) rfl rfl
    · exact Ob.q rfl (fun _ _ B U D => (Runs.to (r_eql (D 0 rfl) rfl) (by rfl))) rfl rfl
    · exact Ob.q rfl (fun _ _ B U D => (r_move (D 1 rfl))) rfl rfl
    · exact Ob.g0 rfl rfl (fun _ _ _ D => D 2 rfl) rfl (fun _ _ B U D hC hg => (r_move (show (_ : Value) = (i 2033) from U 1 rfl))) rfl
    · exact Ob.g0 rfl rfl (fun _ _ _ D => D 2 rfl) rfl (fun _ _ B U D hC hg => (Runs.to (r_eql (gdy (D 3 rfl) ⟨hC, hg⟩) rfl) (by rfl))) rfl
    · exact Ob.q rfl (fun _ _ B U D => (Runs.to (r_pick (v := .bool (true && true)) (D 2 rfl) (fun eP => (gdy (D 4 rfl) ⟨trivial, eP⟩).trans (and_t eP)) (fun eP => and_f eP)) (by rfl))) rfl rfl
    · exact Ob.q rfl (fun _ _ B U D => (r_move (D 5 rfl))) rfl rfl
    · exact Ob.g0 rfl rfl (fun _ _ _ D => D 6 rfl) rfl (fun _ _ B U D hC hg => (r_move (show (_ : Value) = (i 0) from U 4 rfl))) rfl
    · exact Ob.g0 rfl rfl (fun _ _ _ D => D 6 rfl) rfl (fun _ _ B U D hC hg => (Runs.to (r_eql (gdy (D 7 rfl) ⟨hC, hg⟩) rfl) (by rfl))) rfl
    · exact Ob.q rfl (fun _ _ B U D => (Runs.to (r_pick (v := .bool (true && true)) (D 6 rfl) (fun eP => (gdy (D 8 rfl) ⟨trivial, eP⟩).trans (and_t eP)) (fun eP => and_f eP)) (by rfl))) rfl rfl
    · exact Ob.q rfl (fun _ _ B U D => (r_move (D 9 rfl))) rfl rfl
    · exact Ob.g0 rfl rfl (fun _ _ _ D => D 10 rfl) rfl (fun _ _ B U D hC hg => (r_load ta41 (show (_ : Value) = (p b40 0) from U 3 rfl) (B.cells 8 rfl) (j := 0) rfl (vs := [i 2021, i 2043]) rfl rfl)) rfl
    · exact Ob.gd (C := True) (g := true) rfl rfl (fun ρ' w' U D => ⟨fun _ => (D 10 rfl), fun h => absurd trivial h⟩) (fun _ h => ⟨fun hc => absurd hc (no_of h), fun _ => rfl⟩) fun ρ' w' B U D hC hg => d_call rfl en42 (ce (v := (i 2021)) rfl (ce (v := (i 2043)) rfl cn)) (c42 2021 2043 _ ) (fun u w2 k2 hu => ⟨k2, ⟨fun _ => hu, fun n => absurd ⟨hC, hg⟩ n⟩⟩)
    · exact Ob.g0 rfl rfl (fun _ _ _ D => D 10 rfl) rfl (fun _ _ B U D hC hg => (Runs.to (r_eqS (eq41 2021 2043 2021 2043) (gdy (D 11 rfl) ⟨hC, hg⟩) (gdy (D 12 rfl) ⟨hC, hg⟩)) (by rfl))) rfl
    · exact Ob.q rfl (fun _ _ B U D => (Runs.to (r_pick (v := .bool (true && true)) (D 10 rfl) (fun eP => (gdy (D 13 rfl) ⟨trivial, eP⟩).trans (and_t eP)) (fun eP => and_f eP)) (by rfl))) rfl rfl
    · exact Ob.q rfl (fun _ _ B U D => (r_move (D 14 rfl))) rfl rfl
    · exact Ob.g0 rfl rfl (fun _ _ _ D => D 15 rfl) rfl (fun _ _ B U D hC hg => (r_move (show (_ : Value) = (i 0) from U 6 rfl))) rfl
    · exact Ob.g0 rfl rfl (fun _ _ _ D => D 15 rfl) rfl (fun _ _ B U D hC hg => (Runs.to (r_eql (gdy (D 16 rfl) ⟨hC, hg⟩) rfl) (by rfl))) rfl
    · exact Ob.q rfl (fun _ _ B U D => (Runs.to (r_pick (v := .bool (true && true)) (D 15 rfl) (fun eP => (gdy (D 17 rfl) ⟨trivial, eP⟩).trans (and_t eP)) (fun eP => and_f eP)) (by rfl))) rfl rfl
    · exact Ob.q rfl (fun _ _ B U D => (r_move (D 18 rfl))) rfl rfl
    · exact Ob.g0 rfl rfl (fun _ _ _ D => D 19 rfl) rfl (fun _ _ B U D hC hg => (r_move (show (_ : Value) = (i 114) from U 5 rfl))) rfl
    · exact Ob.g0 rfl rfl (fun _ _ _ D => D 19 rfl) rfl (fun _ _ B U D hC hg => (Runs.to (r_eql (gdy (D 20 rfl) ⟨hC, hg⟩) rfl) (by rfl))) rfl
    · exact Ob.q rfl (fun _ _ B U D => (Runs.to (r_pick (v := .bool (true && true)) (D 19 rfl) (fun eP => (gdy (D 21 rfl) ⟨trivial, eP⟩).trans (and_t eP)) (fun eP => and_f eP)) (by rfl))) rfl rfl
    · exact Ob.q rfl (fun _ _ B U D => (r_move (D 22 rfl))) rfl rfl
    · exact Ob.g0 rfl rfl (fun _ _ _ D => D 23 rfl) rfl (fun _ _ B U D hC hg => (r_move (show (_ : Value) = (i 0) from U 8 rfl))) rfl
    · exact Ob.g0 rfl rfl (fun _ _ _ D => D 23 rfl) rfl (fun _ _ B U D hC hg => (Runs.to (r_eql (gdy (D 24 rfl) ⟨hC, hg⟩) rfl) (by rfl))) rfl
    · exact Ob.q rfl (fun _ _ B U D => (Runs.to (r_pick (v := .bool (true && true)) (D 23 rfl) (fun eP => (gdy (D 25 rfl) ⟨trivial, eP⟩).trans (and_t eP)) (fun eP => and_f eP)) (by rfl))) rfl rfl
    · exact Ob.q rfl (fun _ _ B U D => (r_move (D 26 rfl))) rfl rfl
    · exact Ob.g0 rfl rfl (fun _ _ _ D => D 27 rfl) rfl (fun _ _ B U D hC hg => (r_load ta41 (show (_ : Value) = (p b91 0) from U 7 rfl) (B.cells 0 rfl) (j := 0) rfl (vs := [i 2023, i 2032]) rfl rfl)) rfl
    · exact Ob.gd (C := True) (g := true) rfl rfl (fun ρ' w' U D => ⟨fun _ => (D 27 rfl), fun h => absurd trivial h⟩) (fun _ h => ⟨fun hc => absurd hc (no_of h), fun _ => rfl⟩) fun ρ' w' B U D hC hg => d_call rfl en42 (ce (v := (i 2023)) rfl (ce (v := (i 2032)) rfl cn)) (c42 2023 2032 _ ) (fun u w2 k2 hu => ⟨k2, ⟨fun _ => hu, fun n => absurd ⟨hC, hg⟩ n⟩⟩)
    · exact Ob.g0 rfl rfl (fun _ _ _ D => D 27 rfl) rfl (fun _ _ B U D hC hg => (Runs.to (r_eqS (eq41 2023 2032 2023 2032) (gdy (D 28 rfl) ⟨hC, hg⟩) (gdy (D 29 rfl) ⟨hC, hg⟩)) (by rfl))) rfl
    · exact Ob.q rfl (fun _ _ B U D => (Runs.to (r_pick (v := .bool (true && true)) (D 27 rfl) (fun eP => (gdy (D 30 rfl) ⟨trivial, eP⟩).trans (and_t eP)) (fun eP => and_f eP)) (by rfl))) rfl rfl
  intro ρ94 w95 k96 U97 D98; replace H := H.ext k96
  have f99 : ρ94 0 = (.bool false) := U97 0 rfl
  have f100 : ρ94 70 = (.bool true) := D98 31 rfl
  clear U97 D98 k96
  refine Ro.q (v := (.bool true)) rfl rfl (r_assign f100) rfl ?_
  refine Ro.nil (nT ?_)
  refine Wp.ret (bodyR ?_)
  refine leave_tmp (v := (.bool true)) Tryz.results16 rfl ⟨H.keep, ?_⟩
  rfl
end Go.Proofs.YthfnjppieihcfaaGreat
namespace Men
open Go Go.Mw
def bareR (x : Rdg) (d : Kd) : Rg := ⟨x.shown - d.sq * x.deep - x.err + stemP d.k x.bare x.shown x.ahi + x.rlo * d.lag, x.shown - d.sq * x.deep + x.err + stemP d.k x.bare x.shown x.alo + x.rhi * d.lag⟩
abbrev KdR (d : Kd) : Prop := (0 ≤ d.k ∧ d.k ≤ 20) ∧ (0 ≤ d.lag ∧ d.lag ≤ 5) ∧ (0 ≤ d.sq ∧ d.sq ≤ 3)
theorem KdIn.r {t : Tb} (ht : TbR t) {d : Kd} (h : KdIn t d) : KdR d := by unfold KdIn at h; unfold TbR at ht; unfold KdR; omega
theorem bareR_lo {x : Rdg} {d : Kd} (hx : RdR x) (hd : KdR d) : (bareR x d).lo = (spanX x d x.rlo).lo := by
  have h1 := stemP_air (shown := x.shown) (bare := x.bare) (k := d.k) (a := x.alo) (b := x.ahi) (by unfold KdR at hd; omega) (by unfold RdR at hx; omega) (by unfold RdR at hx; omega)
  unfold bareR spanX spanR withoutP
  simp only [Int.neg_mul]
  omega
theorem bareR_hi {x : Rdg} {d : Kd} (hx : RdR x) (hd : KdR d) : (bareR x d).hi = (spanX x d x.rhi).hi := by
  have h1 := stemP_air (shown := x.shown) (bare := x.bare) (k := d.k) (a := x.alo) (b := x.ahi) (by unfold KdR at hd; omega) (by unfold RdR at hx; omega) (by unfold RdR at hx; omega)
  unfold bareR spanX spanR withoutP
  simp only [Int.neg_mul]
  omega
theorem bareR_in {x : Rdg} {d : Kd} (hx : RdR x) (hd : KdR d) : -37000000 ≤ (bareR x d).lo ∧ (bareR x d).lo ≤ (bareR x d).hi ∧ (bareR x d).hi ≤ 37000000 := by
  have h1 := wP_in (k := d.k) (lag := d.lag) (sq := d.sq) (shown := x.shown) (bare := x.bare) (deep := x.deep) (air := x.ahi) (rate := x.rlo) (off := -x.err) (by unfold KdR at hd; unfold RdR at hx; omega)
  have h2 := wP_in (k := d.k) (lag := d.lag) (sq := d.sq) (shown := x.shown) (bare := x.bare) (deep := x.deep) (air := x.alo) (rate := x.rhi) (off := x.err) (by unfold KdR at hd; unfold RdR at hx; omega)
  have h3 := stemP_air (shown := x.shown) (bare := x.bare) (k := d.k) (a := x.alo) (b := x.ahi) (by unfold KdR at hd; omega) (by unfold RdR at hx; omega) (by unfold RdR at hx; omega)
  have h4 := Int.mul_le_mul_of_nonneg_right (show x.rlo ≤ x.rhi by unfold RdR at hx; omega) (c := d.lag) (by unfold KdR at hd; omega)
  unfold withoutP at h1 h2
  unfold bareR
  simp only [Int.neg_mul] at *
  unfold RdR at hx
  omega
/-- the range of what the kinds say that have been gone through -/
def HullK (x : Rdg) (V : Kd → Prop) (lo hi : Int) : Prop :=
  ((∀ d, ¬ V d) ∧ lo = 1073741824 ∧ hi = -1073741824) ∨ ((∃ d, V d ∧ lo = (bareR x d).lo) ∧ (∃ d, V d ∧ hi = (bareR x d).hi) ∧ ∀ d, V d → lo ≤ (bareR x d).lo ∧ (bareR x d).hi ≤ hi)
theorem HullK.congr {x : Rdg} {V V' : Kd → Prop} {lo hi : Int} (h : HullK x V lo hi) (e : ∀ d, V' d ↔ V d) : HullK x V' lo hi := by
  have : V' = V := by funext d; exact propext (e d)
  rw [this]; exact h
theorem HullK.step {x : Rdg} {V V' : Kd → Prop} {lo hi lo' hi' : Int} {c : Kd} (h : HullK x V lo hi) (hx : RdR x) (hc : KdR c) (e : ∀ d, V' d ↔ V d ∨ d = c) (h1 : lo' = min (min lo (bareR x c).lo) (bareR x c).hi) (h2 : hi' = max (max hi (bareR x c).lo) (bareR x c).hi) : HullK x V' lo' hi' := by
  have hb := bareR_in hx hc
  right
  rcases h with ⟨h0, e1, e2⟩ | ⟨⟨a, ha, ea⟩, ⟨b, hb1, eb⟩, hall⟩
  · refine ⟨⟨c, (e c).2 (.inr rfl), by omega⟩, ⟨c, (e c).2 (.inr rfl), by omega⟩, fun d hd => ?_⟩
    rcases (e d).1 hd with hd | rfl
    · exact absurd hd (h0 d)
    · omega
  · refine ⟨?_, ?_, fun d hd => ?_⟩
    · by_cases hl : lo ≤ (bareR x c).lo
      · exact ⟨a, (e a).2 (.inl ha), by omega⟩
      · exact ⟨c, (e c).2 (.inr rfl), by omega⟩
    · by_cases hl : (bareR x c).hi ≤ hi
      · exact ⟨b, (e b).2 (.inl hb1), by omega⟩
      · exact ⟨c, (e c).2 (.inr rfl), by omega⟩
    · rcases (e d).1 hd with hd | rfl
      · have := hall d hd; omega
      · omega
theorem HullK.in {x : Rdg} {V : Kd → Prop} {lo hi : Int} (h : HullK x V lo hi) (hx : RdR x) (hv : ∀ d, V d → KdR d) : -1073741824 ≤ lo ∧ lo ≤ 1073741824 ∧ -1073741824 ≤ hi ∧ hi ≤ 1073741824 := by
  rcases h with ⟨_, e1, e2⟩ | ⟨⟨a, ha, ea⟩, ⟨b, hb1, eb⟩, _⟩
  · omega
  · have h1 := bareR_in hx (hv a ha)
    have h2 := bareR_in hx (hv b hb1)
    omega
theorem HullK.wr {t : Tb} {x : Rdg} {lo hi : Int} (h : HullK x (KdIn t) lo hi) (ht : TbR t) (hx : RdR x) : wr t x = ⟨lo, hi⟩ := by
  refine rangeOf_is ?_
  have hd0 : KdIn t ⟨t.klo, t.llo, t.slo⟩ := by unfold KdIn; unfold TbR at ht; simp only; omega
  rcases h with ⟨h0, _, _⟩ | ⟨⟨a, ha, ea⟩, ⟨b, hb, eb⟩, hall⟩
  · exact absurd hd0 (h0 _)
  · have hxx := hx
    unfold RdR at hxx
    obtain ⟨⟨a1, o1, ha1, ho1, e1⟩, _⟩ := span_ends (shown := x.shown) (err := x.err) (bare := x.bare) (deep := x.deep) (k := a.k) (lag := a.lag) (sq := a.sq) (rate := x.rlo) (alo := x.alo) (ahi := x.ahi) (by omega) (by omega)
    obtain ⟨_, ⟨a2, o2, ha2, ho2, e2⟩⟩ := span_ends (shown := x.shown) (err := x.err) (bare := x.bare) (deep := x.deep) (k := b.k) (lag := b.lag) (sq := b.sq) (rate := x.rhi) (alo := x.alo) (ahi := x.ahi) (by omega) (by omega)
    rw [bareR_lo hx (ha.r ht)] at ea
    rw [bareR_hi hx (hb.r ht)] at eb
    refine ⟨⟨a.k, a.lag, a.sq, a1, x.rlo, o1, ha.1, ha.2.1, ha.2.2, ha1, ⟨Int.le_refl _, by simp only; omega⟩, ho1, ea.trans e1⟩, ⟨b.k, b.lag, b.sq, a2, x.rhi, o2, hb.1, hb.2.1, hb.2.2, ha2, ⟨by simp only; omega, Int.le_refl _⟩, ho2, eb.trans e2⟩, fun z hz => ?_⟩
    obtain ⟨k, lag, sq, air, rate, off, g1, g2, g3, g4, g5, g6, rfl⟩ := hz
    have hd : KdIn t ⟨k, lag, sq⟩ := ⟨g1, g2, g3⟩
    have hkr := hd.r ht
    have q := hall _ hd
    have s1 := span_has (shown := x.shown) (err := x.err) (bare := x.bare) (deep := x.deep) (k := k) (lag := lag) (sq := sq) (rate := rate) (alo := x.alo) (ahi := x.ahi) (air := air) (off := off) (by have q := hkr; simp only [KdR] at q; omega) (by omega) g4 g6
    have r1 := Int.mul_le_mul_of_nonneg_right g5.1 (c := lag) (by have q := hkr; simp only [KdR] at q; omega)
    have r2 := Int.mul_le_mul_of_nonneg_right g5.2 (c := lag) (by have q := hkr; simp only [KdR] at q; omega)
    rw [bareR_lo hx hkr, bareR_hi hx hkr] at q
    unfold spanX spanR withoutP at q
    unfold spanR withoutP Rg.has at s1
    unfold withoutP
    simp only at *
    omega
/-- a range that grows, of numbers that fall, or that rise -/
def Fall (f : Int → Int) (a n lo hi : Int) : Prop := (n = a ∧ lo = 1073741824 ∧ hi = -1073741824) ∨ (a < n ∧ lo = f (n - 1) ∧ hi = f a)
theorem Fall.step {f : Int → Int} {a n lo hi lo' hi' : Int} (h : Fall f a n lo hi) (hf : ∀ x y, a ≤ x → x ≤ y → y ≤ n → f y ≤ f x) (hb : -1073741824 ≤ f n ∧ f n ≤ 1073741824) (h1 : lo' = min lo (f n)) (h2 : hi' = max hi (f n)) : Fall f a (n + 1) lo' hi' := by
  right
  rw [show n + 1 - 1 = n by omega]
  rcases h with ⟨rfl, rfl, rfl⟩ | ⟨hlt, rfl, rfl⟩
  · omega
  · have q1 := hf (n - 1) n (by omega) (by omega) (Int.le_refl _)
    have q2 := hf a n (Int.le_refl _) (by omega) (Int.le_refl _)
    omega
def Rise (f : Int → Int) (a n lo hi : Int) : Prop := (n = a ∧ lo = 1073741824 ∧ hi = -1073741824) ∨ (a < n ∧ lo = f a ∧ hi = f (n - 1))
theorem Rise.step {f : Int → Int} {a n lo hi lo' hi' : Int} (h : Rise f a n lo hi) (hf : ∀ x y, a ≤ x → x ≤ y → y ≤ n → f x ≤ f y) (hb : -1073741824 ≤ f n ∧ f n ≤ 1073741824) (h1 : lo' = min lo (f n)) (h2 : hi' = max hi (f n)) : Rise f a (n + 1) lo' hi' := by
  right
  rw [show n + 1 - 1 = n by omega]
  rcases h with ⟨rfl, rfl, rfl⟩ | ⟨hlt, rfl, rfl⟩
  · omega
  · have q1 := hf (n - 1) n (by omega) (by omega) (Int.le_refl _)
    have q2 := hf a n (Int.le_refl _) (by omega) (Int.le_refl _)
    omega
theorem ice_found {b : Rg} {e z : Int} (hz : -2000 ≤ z ∧ z ≤ 2000) (h0 : ∀ y, -2000 ≤ y → y < z → ¬ (y - e ≤ b.lo ∧ b.hi ≤ y + e)) (h : z - e ≤ b.lo ∧ b.hi ≤ z + e) : iceAt b e = true ∧ z = max (b.hi - e) (-2000) := by
  have hz0 : z = max (b.hi - e) (-2000) := by
    by_cases hc : z = -2000
    · omega
    · have := h0 (z - 1) (by omega) (by omega)
      omega
  refine ⟨?_, hz0⟩
  unfold iceAt
  rw [decide_eq_true_eq]
  omega
theorem ice_none {b : Rg} {e : Int} (h0 : ∀ y, -2000 ≤ y → y < 2001 → ¬ (y - e ≤ b.lo ∧ b.hi ≤ y + e)) : iceAt b e = false := by
  unfold iceAt
  rw [decide_eq_false_iff_not]
  intro h
  exact h0 (max (b.hi - e) (-2000)) (by omega) (by omega) ⟨by omega, by omega⟩
def thinB (t : Tb) (h : List Rg) (ices : List Ice) : Bool := ((decide (((t.bs.length : Nat) : Int) ≤ 5) && decide (((t.dl.length : Nat) : Int) ≤ 6)) && decide (((h.length : Nat) : Int) ≤ 20)) && decide (((ices.length : Nat) : Int) ≤ 11)
theorem thinB_iff {t : Tb} {h : List Rg} {ices : List Ice} : thinB t h ices = true ↔ t.bs.length ≤ 5 ∧ t.dl.length ≤ 6 ∧ h.length ≤ 20 ∧ ices.length ≤ 11 := by
  unfold thinB
  simp only [Bool.and_eq_true, decide_eq_true_eq]
  omega
end Men
namespace Go.Proofs.YthfnjppieihcfaaGreat
open Go.RowKit Go.Proofs Go.Mw
theorem en31 : Go.Proofs.Enters Tryz.prog 31 := Go.Proofs.enters_of Tryz.func31 (by kernel_rfl) rfl
theorem en37 : Go.Proofs.Enters Tryz.prog 37 := Go.Proofs.enters_of Tryz.func37 (by kernel_rfl) rfl
theorem en54 : Go.Proofs.Enters Tryz.prog 54 := Go.Proofs.enters_of Tryz.func54 (by kernel_rfl) rfl
theorem en61 : Go.Proofs.Enters Tryz.prog 61 := Go.Proofs.enters_of Tryz.func61 (by kernel_rfl) rfl
theorem en73 : Go.Proofs.Enters Tryz.prog 73 := Go.Proofs.enters_of Tryz.func73 (by kernel_rfl) rfl
theorem en75 : Go.Proofs.Enters Tryz.prog 75 := Go.Proofs.enters_of Tryz.func75 (by kernel_rfl) rfl
theorem fo33_7 : FO Tryz.prog 33 7 9 := fun _ _ _ => by kernel_rfl
theorem sz39 : ∀ w, (sizeOf 39).run Tryz.prog w = .ok 1 w := fun _ => by kernel_rfl
theorem sz40 : ∀ w, (sizeOf 40).run Tryz.prog w = .ok 1 w := fun _ => by kernel_rfl
theorem tr39_24 : TR Tryz.prog 39 161 3 24 := ⟨Tryz.underlying39, (Tryz.prog.info? 161).get!, ((Tryz.prog.info? 161).get!.zero).get!, by kernel_rfl, by kernel_rfl, by kernel_rfl, by kernel_rfl, by kernel_rfl, by decide⟩
theorem tr40_16 : TR Tryz.prog 40 164 2 16 := ⟨Tryz.underlying40, (Tryz.prog.info? 164).get!, ((Tryz.prog.info? 164).get!.zero).get!, by kernel_rfl, by kernel_rfl, by kernel_rfl, by kernel_rfl, by kernel_rfl, by decide⟩
open Men
/-- a glass that lies anywhere -/
abbrev GlassAt (t : Tb) (n : Nat) (v : Value) (w : World) : Prop := ∃ a1 c1 a2 c2, v = .agg #[i t.base, .slice a1 t.bs.length c1, .slice a2 t.dl.length c2, i t.blo, i t.bhi] ∧ FSl n w 3 (t.bs.map bandV) a1 ∧ FSl n w 2 (t.dl.map depthV) a2
abbrev TubeAt (t : Tb) (n : Nat) (v : Value) (w : World) : Prop := ∃ a1 c1 a2 c2, v = .agg (tbC t a1 c1 a2 c2).toArray ∧ FSl n w 3 (t.bs.map bandV) a1 ∧ FSl n w 2 (t.dl.map depthV) a2
theorem GlassAt.le {t : Tb} {n m : Nat} {v : Value} {w : World} (h : GlassAt t n v w) (hm : m ≤ n) : GlassAt t m v w := let ⟨a1, c1, a2, c2, h, h1, h2⟩ := h; ⟨a1, c1, a2, c2, h, h1.le hm, h2.le hm⟩
theorem TubeAt.le {t : Tb} {n m : Nat} {v : Value} {w : World} (h : TubeAt t n v w) (hm : m ≤ n) : TubeAt t m v w := let ⟨a1, c1, a2, c2, h, h1, h2⟩ := h; ⟨a1, c1, a2, c2, h, h1.le hm, h2.le hm⟩
theorem GlassAt.ext {t : Tb} {n : Nat} {v : Value} {w w' : World} (h : GlassAt t n v w) (kk : Keep Nm w w') : GlassAt t n v w' := let ⟨a1, c1, a2, c2, h, h1, h2⟩ := h; ⟨a1, c1, a2, c2, h, h1.ext kk, h2.ext kk⟩
theorem TubeAt.ext {t : Tb} {n : Nat} {v : Value} {w w' : World} (h : TubeAt t n v w) (kk : Keep Nm w w') : TubeAt t n v w' := let ⟨a1, c1, a2, c2, h, h1, h2⟩ := h; ⟨a1, c1, a2, c2, h, h1.ext kk, h2.ext kk⟩
theorem MGlass {t : Tb} {n : Nat} {φ : List (Value → World → Prop)} (hm : Mono φ) : Mono (GlassAt t n :: φ) :=
  Mono.cons (fun _ _ _ kk ⟨a1, c1, a2, c2, h, h1, h2⟩ => ⟨a1, c1, a2, c2, h, h1.ext kk, h2.ext kk⟩) hm
set_option maxHeartbeats 2000000 in
set_option maxRecDepth 100000 in
theorem c37 {t : Tb} {ab ad : Option Addr} {cab cad : Nat} (w : World) (hab : Sl w 3 (t.bs.map bandV) ab) (had : Sl w 2 (t.dl.map depthV) ad) (hb5 : t.bs.length ≤ 5) (hd6 : t.dl.length ≤ 6) : Ret Tryz.prog 37 [(.agg #[(i t.base), (.slice ab t.bs.length cab), (.slice ad t.dl.length cad), (i t.blo), (i t.bhi)])] w fun v w' => GlassAt t w.heap.size v w' := by
  refine Ret.body (N := 64) Tryz.func37 rfl Tryz.ntmps37 rfl ?_
  have H := S.start Nm w
  refine Wp.seq ?_
  refine Wp.region ?_
  refine Ro.d rfl rfl rfl (H.box (l := [i t.base, .slice ab t.bs.length cab, .slice ad t.dl.length cad, i t.blo, i t.bhi]) rfl (v := (.agg #[(i t.base), (.slice ab t.bs.length cab), (.slice ad t.dl.length cad), (i t.blo), (i t.bhi)])) rfl rfl ?_)
  intro b1 w2 Hn; replace H := Hn; clear Hn
  refine Ro.d rfl rfl rfl (H.new (l := [i 0, .slice none 0 0, .slice none 0 0, i 0, i 0]) rfl zv43 rfl ?_)
  intro b3 w4 Hn; replace H := Hn; clear Hn
  refine Ro.nil (nT ?_)
  refine Wp.seq ?_
  have hMo : Mono [is (p b1 0), is (i t.base), is (p b1 3), is (.agg #[(i t.blo), (i t.bhi)]), is (.agg #[(i t.blo), (i t.bhi)]), is (.agg #[(i t.base), (.slice none 0 0), (.slice none 0 0), (i t.blo), (i t.bhi)]), fun _ _ => True] := (Mi (Mi (Mi (Mi (Mi (Mi (Mono.c Mono.nil)))))))
  have hBB : ∀ (done : Nat → Bool) (ρ' : Env) (w' : World), (∃ bA6 : Nat, (done 6 = true → ρ' 3 = p bA6 0) ∧ S Nm w ((bif done 6 then [(bA6, (.cells [i 0, .slice none 0 0, .slice none 0 0, i 0, i 0].toArray 43 (0, 0) : Obj))] else []) ++ [(b3, .cells [i 0, .slice none 0 0, .slice none 0 0, i 0, i 0].toArray 43 (0, 0)), (b1, .cells [i t.base, .slice ab t.bs.length cab, .slice ad t.dl.length cad, i t.blo, i t.bhi].toArray 27 (0, 0))]) w') → S Nm w [(b3, .cells [i 0, .slice none 0 0, .slice none 0 0, i 0, i 0].toArray 43 (0, 0)), (b1, .cells [i t.base, .slice ab t.bs.length cab, .slice ad t.dl.length cad, i t.blo, i t.bhi].toArray 27 (0, 0))] w' := fun done ρ' w' ⟨bA6, eA6, Hn⟩ => Hn.part
  refine Wp.drawnG 7 [0, 1, 0, 4, 12, 31, 0, 127] [is (p b1 0), is (i t.base), is (p b1 3), is (.agg #[(i t.blo), (i t.bhi)]), is (.agg #[(i t.blo), (i t.bhi)]), is (.agg #[(i t.base), (.slice none 0 0), (.slice none 0 0), (i t.blo), (i t.bhi)]), fun _ _ => True] (fun done ρ' w' => ∃ bA6 : Nat, (done 6 = true → ρ' 3 = p bA6 0) ∧ S Nm w ((bif done 6 then [(bA6, (.cells [i 0, .slice none 0 0, .slice none 0 0, i 0, i 0].toArray 43 (0, 0) : Obj))] else []) ++ [(b3, .cells [i 0, .slice none 0 0, .slice none 0 0, i 0, i 0].toArray 43 (0, 0)), (b1, .cells [i t.base, .slice ab t.bs.length cab, .slice ad t.dl.length cad, i t.blo, i t.bhi].toArray 27 (0, 0))]) w') (by kernel_rfl) (by kernel_rfl) rfl (fun w' k => ⟨0, (fun h => by cases h), H.ext k⟩) ?_ ?_
  · refine ⟨?_, ⟨?_, ⟨?_, ⟨?_, ⟨?_, ⟨?_, ⟨?_, trivial⟩⟩⟩⟩⟩⟩⟩
    · exact ObG.of (B := (fun w' => S Nm w [(b3, .cells [i 0, .slice none 0 0, .slice none 0 0, i 0, i 0].toArray 43 (0, 0)), (b1, .cells [i t.base, .slice ab t.bs.length cab, .slice ad t.dl.length cad, i t.blo, i t.bhi].toArray 27 (0, 0))] w')) (Ob.q rfl (fun _ _ B U D => (r_fieldAddr fo27_0 (show (_ : Value) = (p b1 0) from U 1 rfl) rfl)) rfl rfl) hBB hMo (fun _ _ _ _ _ ⟨bA6, eA6, Hn⟩ k => ⟨bA6, eA6, Hn.ext k⟩)
    · exact ObG.of (B := (fun w' => S Nm w [(b3, .cells [i 0, .slice none 0 0, .slice none 0 0, i 0, i 0].toArray 43 (0, 0)), (b1, .cells [i t.base, .slice ab t.bs.length cab, .slice ad t.dl.length cad, i t.blo, i t.bhi].toArray 27 (0, 0))] w')) (Ob.q rfl (fun _ _ B U D => (r_load1 t1_3 (D 0 rfl) (B.cells 1 rfl) (j := 0) rfl rfl)) rfl rfl) hBB hMo (fun _ _ _ _ _ ⟨bA6, eA6, Hn⟩ k => ⟨bA6, eA6, Hn.ext k⟩)
    · exact ObG.of (B := (fun w' => S Nm w [(b3, .cells [i 0, .slice none 0 0, .slice none 0 0, i 0, i 0].toArray 43 (0, 0)), (b1, .cells [i t.base, .slice ab t.bs.length cab, .slice ad t.dl.length cad, i t.blo, i t.bhi].toArray 27 (0, 0))] w')) (Ob.q rfl (fun _ _ B U D => (r_fieldAddr fo27_3 (show (_ : Value) = (p b1 0) from U 1 rfl) rfl)) rfl rfl) hBB hMo (fun _ _ _ _ _ ⟨bA6, eA6, Hn⟩ k => ⟨bA6, eA6, Hn.ext k⟩)
    · exact ObG.of (B := (fun w' => S Nm w [(b3, .cells [i 0, .slice none 0 0, .slice none 0 0, i 0, i 0].toArray 43 (0, 0)), (b1, .cells [i t.base, .slice ab t.bs.length cab, .slice ad t.dl.length cad, i t.blo, i t.bhi].toArray 27 (0, 0))] w')) (Ob.q rfl (fun _ _ B U D => (r_load ta25 (D 2 rfl) (B.cells 1 rfl) (j := 3) rfl (vs := [i t.blo, i t.bhi]) rfl rfl)) rfl rfl) hBB hMo (fun _ _ _ _ _ ⟨bA6, eA6, Hn⟩ k => ⟨bA6, eA6, Hn.ext k⟩)
    · exact ObG.of (B := (fun w' => S Nm w [(b3, .cells [i 0, .slice none 0 0, .slice none 0 0, i 0, i 0].toArray 43 (0, 0)), (b1, .cells [i t.base, .slice ab t.bs.length cab, .slice ad t.dl.length cad, i t.blo, i t.bhi].toArray 27 (0, 0))] w')) (Ob.mk rfl fun ρ' w' B U D => d_call rfl en61 (ce (v := (.agg #[(i t.blo), (i t.bhi)])) (D 3 rfl) cn) (c61 t.blo t.bhi _ ) (fun u w2 k2 hu => ⟨k2, hu⟩)) hBB hMo (fun _ _ _ _ _ ⟨bA6, eA6, Hn⟩ k => ⟨bA6, eA6, Hn.ext k⟩)
    · exact ObG.of (B := (fun w' => S Nm w [(b3, .cells [i 0, .slice none 0 0, .slice none 0 0, i 0, i 0].toArray 43 (0, 0)), (b1, .cells [i t.base, .slice ab t.bs.length cab, .slice ad t.dl.length cad, i t.blo, i t.bhi].toArray 27 (0, 0))] w')) (Ob.q rfl (fun _ _ B U D => (r_build (v := (.agg #[(i t.base), (.slice none 0 0), (.slice none 0 0), (i t.blo), (i t.bhi)])) (pe (v := (i t.base)) (D 1 rfl) (pe (v := (.agg #[(i t.blo), (i t.bhi)])) (D 4 rfl) pn)) (fun w => by kernel_rfl))) rfl rfl) hBB hMo (fun _ _ _ _ _ ⟨bA6, eA6, Hn⟩ k => ⟨bA6, eA6, Hn.ext k⟩)
    · refine ObG.sp rfl fun done ρ' w' hW U hcl hnd hwt D => ?_
      obtain ⟨bA6, eA6, Hn⟩ := hW
      simp only [hnd, cond_false, List.nil_append] at Hn
      refine Hn.newK (l := [i 0, .slice none 0 0, .slice none 0 0, i 0, i 0]) rfl zv43 rfl ?_
      intro bN w2 k Hm
      refine ⟨(fun q u hq => hMo q u _ _ k hq), trivial, bN, (fun _ => rfl), ?_⟩
      show S Nm w ([(bN, (.cells [i 0, .slice none 0 0, .slice none 0 0, i 0, i 0].toArray 43 (0, 0) : Obj))] ++ [(b3, .cells [i 0, .slice none 0 0, .slice none 0 0, i 0, i 0].toArray 43 (0, 0)), (b1, .cells [i t.base, .slice ab t.bs.length cab, .slice ad t.dl.length cad, i t.blo, i t.bhi].toArray 27 (0, 0))]) w2
      exact Hm
  rintro ρ5 w6 ⟨b10, eA6, Hn⟩ U8 D9
  replace H : S Nm w [(b10, .cells [i 0, .slice none 0 0, .slice none 0 0, i 0, i 0].toArray 43 (0, 0)), (b3, .cells [i 0, .slice none 0 0, .slice none 0 0, i 0, i 0].toArray 43 (0, 0)), (b1, .cells [i t.base, .slice ab t.bs.length cab, .slice ad t.dl.length cad, i t.blo, i t.bhi].toArray 27 (0, 0))] w6 := Hn; clear Hn hMo hBB
  have f11 : ρ5 1 = (p b1 0) := U8 1 rfl
  have f12 : ρ5 2 = (p b3 0) := U8 2 rfl
  have f13 : ρ5 3 = p b10 0 := eA6 rfl
  have f14 : ρ5 11 = (.agg #[(i t.base), (.slice none 0 0), (.slice none 0 0), (i t.blo), (i t.bhi)]) := D9 5 rfl
  clear U8 D9
  clear eA6
  refine Ro.d0 rfl rfl rfl (H.store (j := 0) (off := 0) (k := 5) rfl sz43 f13 (v := (.agg #[(i t.base), (.slice none 0 0), (.slice none 0 0), (i t.blo), (i t.bhi)])) f14 rfl rfl rfl rfl (by simp [Value.oneCell']) (cs' := [i t.base, .slice none 0 0, .slice none 0 0, i t.blo, i t.bhi]) rfl ?_)
  intro w15 Hn; replace H := Hn; clear Hn
  refine Ro.nil (nT ?_)
  refine Wp.seq ?_
  refine Wp.seq ?_
  refine Wp.region ?_
  refine Ro.q (v := (i 0)) rfl rfl (r_assign rfl) rfl ?_
  refine Ro.nil (nT ?_)
  refine Wp.block ?_
  refine Wp.loop (fun kM ds ρ w' => ∃ n : Int, ∃ ar : Option Addr, ∃ cr : Nat, ∃ xs : List Band, ∃ Lr : List (Nat × Obj), ds = [] ∧ (0 ≤ n ∧ n ≤ t.bs.length) ∧ kM = ((t.bs.length : Int) - n).toNat ∧ ρ 1 = (p b1 0) ∧ ρ 2 = (p b3 0) ∧ ρ 3 = (p b10 0) ∧ ρ 4 = (i n) ∧ S Nm w ([(b10, .cells [i t.base, .slice ar xs.length cr, .slice none 0 0, i t.blo, i t.bhi].toArray 43 (0, 0)), (b3, .cells [i 0, .slice none 0 0, .slice none 0 0, i 0, i 0].toArray 43 (0, 0)), (b1, .cells [i t.base, .slice ab t.bs.length cab, .slice ad t.dl.length cad, i t.blo, i t.bhi].toArray 27 (0, 0))] ++ Lr) w' ∧ (OwnRow 161 3 ar xs.length cr (xs.map bandV).flatten Lr ∧ xs = t.bs.take n.toNat)) (((t.bs.length : Int) - 0).toNat) ⟨0, none, 0, ([]), ([]), rfl, (by omega), rfl, f11, f12, f13, rfl, H, ⟨OwnRow.nil 161 3, rfl⟩⟩ ?_
  clear H
  intro kρ20 dsρ20 ρ20 w21
  rintro ⟨n, ar, cr, xs, Lr, rfl, hb23, hk22, f16, f17, f18, f19, H, hi24⟩
  refine Wp.seq ?_
  refine Wp.seq ?_
  refine Wp.region ?_
  refine Ro.q (v := (i n)) rfl rfl (r_move f19) rfl ?_
  refine Ro.q (v := (p b1 1)) rfl rfl (r_fieldAddr fo27_1 f16 rfl) rfl ?_
  refine Ro.q rfl rfl (r_load1 t1_22 rfl (H.cells 2 rfl) (j := 1) rfl rfl) rfl ?_
  refine Ro.q rfl rfl (r_len Tryz.underlying22 rfl (v := t.bs.length) rfl) rfl ?_
  refine Ro.q rfl rfl (r_lss rfl rfl) rfl ?_
  refine Ro.nil (nT ?_)
  refine Wp.cond (t := decide (n < ((t.bs.length : Nat) : Int))) rfl ?_ ?_
  · intro c25
    have c25r := c25
    simp only [bx] at c25
    obtain ⟨e, he⟩ := ecell t.bs n (by omega) (by omega)
    have hxl : xs.length ≤ t.bs.length := by rw [hi24.2, List.length_take]; omega
    refine Wp.skip (nT ?_)
    refine Wp.seq ?_
    refine Wp.block ?_
    refine Wp.drawnS 17 [0, 1, 0, 4, 0, 28, 60, 124, 0, 256, 0, 1792, 3840, 7936, 16128, 32764, 65532, 131071, 262143, 524287] [is (p b10 1), is (.slice ar xs.length cr), is (p b1 1), is (.slice ab t.bs.length cab), is (i n), is (p (blk ab) (offs ab + n.toNat * 3)), is (p (blk ab) (offs ab + n.toNat * 3)), is (i e.frm), is (p b1 1), is (.slice ab t.bs.length cab), is (i n), is (p (blk ab) (offs ab + n.toNat * 3)), is (p (blk ab) (offs ab + n.toNat * 3 + 1)), is (.agg #[(i e.creep.lo), (i e.creep.hi)]), is (.agg #[(i e.creep.lo), (i e.creep.hi)]), is (.agg #[(i e.frm), (i e.creep.lo), (i e.creep.hi)]), fun v w => ∃ b, v = .slice (some ⟨b, 0, none⟩) 1 1 ∧ Cells w b 0 [i e.frm, i e.creep.lo, i e.creep.hi]] (by kernel_rfl) (by kernel_rfl) rfl (Mi (Mi (Mi (Mi (Mi (Mi (Mi (Mi (Mi (Mi (Mi (Mi (Mi (Mi (Mi (Mi (Mono.row Mono.nil))))))))))))))))) (fun w' k => H.ext k) ?_ ?_
    · refine ⟨?_, ⟨?_, ⟨?_, ⟨?_, ⟨?_, ⟨?_, ⟨?_, ⟨?_, ⟨?_, ⟨?_, ⟨?_, ⟨?_, ⟨?_, ⟨?_, ⟨?_, ⟨?_, ⟨?_, trivial⟩⟩⟩⟩⟩⟩⟩⟩⟩⟩⟩⟩⟩⟩⟩⟩⟩
      · exact Ob.q rfl (fun _ _ B U D => (r_fieldAddr fo43_1 ((U 3 rfl).trans f18) rfl)) rfl rfl
      · exact Ob.q rfl (fun _ _ B U D => (r_load1 t1_39 (D 0 rfl) (B.cells 0 rfl) (j := 1) rfl rfl)) rfl rfl
      · exact Ob.q rfl (fun _ _ B U D => (r_fieldAddr fo27_1 ((U 1 rfl).trans f16) rfl)) rfl rfl
      · exact Ob.q rfl (fun _ _ B U D => (r_load1 t1_22 (D 2 rfl) (B.cells 2 rfl) (j := 1) rfl rfl)) rfl rfl
      · exact Ob.q rfl (fun _ _ B U D => (r_move ((U 4 rfl).trans f19))) rfl rfl
      · exact Ob.q rfl (fun _ _ B U D => (r_idx ts22 (hab.ext B.keep) (D 3 rfl) (by first | (simp; done) | (simp; omega)) (D 4 rfl) (by omega) (mget he))) rfl rfl
      · exact Ob.q rfl (fun _ _ B U D => (r_fieldAddr fo159_0 (D 5 rfl) rfl)) rfl rfl
      · exact Ob.q rfl (fun _ _ B U D => (r_load1 t1_3 (D 6 rfl) ((hab.ext B.keep).cells (mget he)) (j := 0) rfl rfl)) rfl rfl
      · exact Ob.q rfl (fun _ _ B U D => (r_fieldAddr fo27_1 ((U 1 rfl).trans f16) rfl)) rfl rfl
      · exact Ob.q rfl (fun _ _ B U D => (r_load1 t1_22 (D 8 rfl) (B.cells 2 rfl) (j := 1) rfl rfl)) rfl rfl
      · exact Ob.q rfl (fun _ _ B U D => (r_move ((U 4 rfl).trans f19))) rfl rfl
      · exact Ob.q rfl (fun _ _ B U D => (r_idx ts22 (hab.ext B.keep) (D 9 rfl) (by first | (simp; done) | (simp; omega)) (D 10 rfl) (by omega) (mget he))) rfl rfl
      · exact Ob.q rfl (fun _ _ B U D => (r_fieldAddr fo159_1 (D 11 rfl) rfl)) rfl rfl
      · exact Ob.q rfl (fun _ _ B U D => (r_load ta25 (D 12 rfl) ((hab.ext B.keep).cells (mget he)) (j := 1) rfl (vs := [i e.creep.lo, i e.creep.hi]) rfl rfl)) rfl rfl
      · exact Ob.mk rfl fun ρ' w' B U D => d_call rfl en61 (ce (v := (.agg #[(i e.creep.lo), (i e.creep.hi)])) (D 13 rfl) cn) (c61 e.creep.lo e.creep.hi _ ) (fun u w2 k2 hu => ⟨k2, hu⟩)
      · exact Ob.q rfl (fun _ _ B U D => (r_build (v := (.agg #[(i e.frm), (i e.creep.lo), (i e.creep.hi)])) (pe (v := (i e.frm)) (D 7 rfl) (pe (v := (.agg #[(i e.creep.lo), (i e.creep.hi)])) (D 14 rfl) pn)) (fun w => by kernel_rfl))) rfl rfl
      · exact Ob.mk rfl fun ρ' w' B U D => d_row (e := 161) (cs := [i e.frm, i e.creep.lo, i e.creep.hi]) rfl (pe (v := (.agg #[(i e.frm), (i e.creep.lo), (i e.creep.hi)])) (D 15 rfl) pn) (fun w => by kernel_rfl) fun b w2 k hc => ⟨k, b, rfl, hc⟩
    intro ρ26 w27 k28 U29 D30; replace H := H.ext k28
    have f31 := (U29 1 rfl).trans f16
    have f32 := (U29 2 rfl).trans f17
    have f33 := (U29 3 rfl).trans f18
    have f34 := (U29 4 rfl).trans f19
    have f35 : ρ26 12 = (i n) := U29 12 rfl
    have f36 : ρ26 13 = (p b1 1) := U29 13 rfl
    have f37 : ρ26 14 = (.slice ab t.bs.length cab) := U29 14 rfl
    have f38 : ρ26 15 = (i ((t.bs.length : Nat) : Int)) := U29 15 rfl
    have f39 : ρ26 16 = (.bool (decide (n < ((t.bs.length : Nat) : Int)))) := U29 16 rfl
    have f40 : ρ26 19 = (p b10 1) := D30 0 rfl
    have f41 : ρ26 20 = (.slice ar xs.length cr) := D30 1 rfl
    have f42 : ρ26 21 = (p b1 1) := D30 2 rfl
    have f43 : ρ26 22 = (.slice ab t.bs.length cab) := D30 3 rfl
    have f44 : ρ26 23 = (i n) := D30 4 rfl
    have f45 : ρ26 24 = (p (blk ab) (offs ab + n.toNat * 3)) := D30 5 rfl
    have f46 : ρ26 25 = (p (blk ab) (offs ab + n.toNat * 3)) := D30 6 rfl
    have f47 : ρ26 26 = (i e.frm) := D30 7 rfl
    have f48 : ρ26 27 = (p b1 1) := D30 8 rfl
    have f49 : ρ26 28 = (.slice ab t.bs.length cab) := D30 9 rfl
    have f50 : ρ26 29 = (i n) := D30 10 rfl
    have f51 : ρ26 30 = (p (blk ab) (offs ab + n.toNat * 3)) := D30 11 rfl
    have f52 : ρ26 31 = (p (blk ab) (offs ab + n.toNat * 3 + 1)) := D30 12 rfl
    have f53 : ρ26 32 = (.agg #[(i e.creep.lo), (i e.creep.hi)]) := D30 13 rfl
    have f54 : ρ26 33 = (.agg #[(i e.creep.lo), (i e.creep.hi)]) := D30 14 rfl
    have f55 : ρ26 34 = (.agg #[(i e.frm), (i e.creep.lo), (i e.creep.hi)]) := D30 15 rfl
    obtain ⟨b57, f56, c58⟩ := (show ∃ b, ρ26 35 = .slice (some ⟨b, 0, none⟩) 1 1 ∧ Cells w27 b 0 [i e.frm, i e.creep.lo, i e.creep.hi] from D30 16 rfl)
    clear U29 D30 k28
    replace H : S Nm w ([(b10, .cells [i t.base, .slice ar xs.length cr, .slice none 0 0, i t.blo, i t.bhi].toArray 43 (0, 0)), (b3, .cells [i 0, .slice none 0 0, .slice none 0 0, i 0, i 0].toArray 43 (0, 0)), (b1, .cells [i t.base, .slice ab t.bs.length cab, .slice ad t.dl.length cad, i t.blo, i t.bhi].toArray 27 (0, 0))] ++ Lr) _ := H
    refine Ro.d rfl rfl rfl (H.appendE (enc := bandV) (z := e) hi24.1 tr39_24 rfl f41 f56 c58 rfl (by simp [bandV, Value.oneCell']) (by simp only [maxLen]; omega) (by omega) ?_)
    intro a60 c61 Lr62 w63 hr64 Hn
    replace H : S Nm w ([(b10, .cells [i t.base, .slice ar xs.length cr, .slice none 0 0, i t.blo, i t.bhi].toArray 43 (0, 0)), (b3, .cells [i 0, .slice none 0 0, .slice none 0 0, i 0, i 0].toArray 43 (0, 0)), (b1, .cells [i t.base, .slice ab t.bs.length cab, .slice ad t.dl.length cad, i t.blo, i t.bhi].toArray 27 (0, 0))] ++ Lr62) w63 := Hn; clear Hn
    refine Ro.q (v := (p b10 1)) rfl rfl (r_fieldAddr fo43_1 f33 rfl) rfl ?_
    refine Ro.d0 rfl rfl rfl (H.store (j := 0) (off := 1) (k := 1) rfl sz39 rfl (v := (.slice a60 ((xs ++ [e]).length) c61)) rfl rfl rfl rfl rfl (by simp [Value.oneCell']) (cs' := [i t.base, .slice a60 ((xs ++ [e]).length) c61, .slice none 0 0, i t.blo, i t.bhi]) rfl ?_)
    intro w65 Hn; replace H : S Nm w ([(b10, .cells [i t.base, .slice a60 ((xs ++ [e]).length) c61, .slice none 0 0, i t.blo, i t.bhi].toArray 43 (0, 0)), (b3, .cells [i 0, .slice none 0 0, .slice none 0 0, i 0, i 0].toArray 43 (0, 0)), (b1, .cells [i t.base, .slice ab t.bs.length cab, .slice ad t.dl.length cad, i t.blo, i t.bhi].toArray 27 (0, 0))] ++ Lr62) w65 := Hn; clear Hn
    refine Ro.nil (nB (nT ?_))
    refine Wp.region ?_
    refine Ro.q (v := (i n)) rfl rfl (r_move f34) rfl ?_
    refine Ro.q rfl rfl (r_add rfl rfl (by constructor <;> omega)) rfl ?_
    refine Ro.q (v := (i (n + 1))) rfl rfl (r_assign rfl) rfl ?_
    refine Ro.nil (nT ?_)
    exact ⟨((t.bs.length : Int) - (n + 1)).toNat, by omega, (n + 1), a60, c61, (xs ++ [e]), Lr62, rfl, (by omega), rfl, f31, f32, f33, rfl, H, ⟨hr64, by rw [hi24.2, take_succ' (by omega) he]⟩⟩
  · intro c25
    have c25r := c25
    simp only [bx] at c25
    refine Wp.exit (xT (xT (xB (nT ?_))))
    refine Wp.seq ?_
    refine Wp.seq ?_
    refine Wp.region ?_
    refine Ro.q (v := (i 0)) rfl rfl (r_assign rfl) rfl ?_
    refine Ro.nil (nT ?_)
    refine Wp.block ?_
    obtain rfl : xs = t.bs := by rw [hi24.2]; exact List.take_of_length_le (by omega)
    refine Wp.loop (fun kM ds ρ w' => ∃ m : Int, ∃ aq : Option Addr, ∃ cq : Nat, ∃ ys : List Depth, ∃ Lq : List (Nat × Obj), ds = [] ∧ (0 ≤ m ∧ m ≤ t.dl.length) ∧ kM = ((t.dl.length : Int) - m).toNat ∧ ρ 1 = (p b1 0) ∧ ρ 2 = (p b3 0) ∧ ρ 3 = (p b10 0) ∧ ρ 5 = (i m) ∧ S Nm w ([(b10, .cells [i t.base, .slice ar t.bs.length cr, .slice aq ys.length cq, i t.blo, i t.bhi].toArray 43 (0, 0)), (b3, .cells [i 0, .slice none 0 0, .slice none 0 0, i 0, i 0].toArray 43 (0, 0)), (b1, .cells [i t.base, .slice ab t.bs.length cab, .slice ad t.dl.length cad, i t.blo, i t.bhi].toArray 27 (0, 0))] ++ (Lr ++ Lq)) w' ∧ (OwnRow 164 2 aq ys.length cq (ys.map depthV).flatten Lq ∧ ys = t.dl.take m.toNat)) (((t.dl.length : Int) - 0).toNat) ⟨0, none, 0, ([]), ([]), rfl, (by omega), rfl, f16, f17, f18, rfl, (by rw [List.append_nil]; exact H), ⟨OwnRow.nil 164 2, rfl⟩⟩ ?_
    clear H
    intro kρ70 dsρ70 ρ70 w71
    rintro ⟨m, aq, cq, ys, Lq, rfl, hb73, hk72, f66, f67, f68, f69, H, hi74⟩
    refine Wp.seq ?_
    refine Wp.seq ?_
    refine Wp.region ?_
    refine Ro.q (v := (i m)) rfl rfl (r_move f69) rfl ?_
    refine Ro.q (v := (p b1 2)) rfl rfl (r_fieldAddr fo27_2 f66 rfl) rfl ?_
    refine Ro.q rfl rfl (r_load1 t1_23 rfl (H.cells 2 rfl) (j := 2) rfl rfl) rfl ?_
    refine Ro.q rfl rfl (r_len Tryz.underlying23 rfl (v := t.dl.length) rfl) rfl ?_
    refine Ro.q rfl rfl (r_lss rfl rfl) rfl ?_
    refine Ro.nil (nT ?_)
    refine Wp.cond (t := decide (m < ((t.dl.length : Nat) : Int))) rfl ?_ ?_
    · intro c75
      have c75r := c75
      simp only [bx] at c75
      obtain ⟨e, he⟩ := ecell t.dl m (by omega) (by omega)
      have hxl : ys.length ≤ t.dl.length := by rw [hi74.2, List.length_take]; omega
      refine Wp.skip (nT ?_)
      refine Wp.seq ?_
      refine Wp.block ?_
      refine Wp.drawnS 16 [0, 1, 0, 4, 0, 28, 60, 124, 0, 256, 0, 1792, 3840, 7936, 16380, 32764, 65535, 131071, 262143] [is (p b10 2), is (.slice aq ys.length cq), is (p b1 2), is (.slice ad t.dl.length cad), is (i m), is (p (blk ad) (offs ad + m.toNat * 2)), is (p (blk ad) (offs ad + m.toNat * 2)), is (i e.frm), is (p b1 2), is (.slice ad t.dl.length cad), is (i m), is (p (blk ad) (offs ad + m.toNat * 2)), is (p (blk ad) (offs ad + m.toNat * 2 + 1)), is (i e.sink), is (.agg #[(i e.frm), (i e.sink)]), fun v w => ∃ b, v = .slice (some ⟨b, 0, none⟩) 1 1 ∧ Cells w b 0 [i e.frm, i e.sink]] (by kernel_rfl) (by kernel_rfl) rfl (Mi (Mi (Mi (Mi (Mi (Mi (Mi (Mi (Mi (Mi (Mi (Mi (Mi (Mi (Mi (Mono.row Mono.nil)))))))))))))))) (fun w' k => H.ext k) ?_ ?_
      · refine ⟨?_, ⟨?_, ⟨?_, ⟨?_, ⟨?_, ⟨?_, ⟨?_, ⟨?_, ⟨?_, ⟨?_, ⟨?_, ⟨?_, ⟨?_, ⟨?_, ⟨?_, ⟨?_, trivial⟩⟩⟩⟩⟩⟩⟩⟩⟩⟩⟩⟩⟩⟩⟩⟩
        · exact Ob.q rfl (fun _ _ B U D => (r_fieldAddr fo43_2 ((U 3 rfl).trans f68) rfl)) rfl rfl
        · exact Ob.q rfl (fun _ _ B U D => (r_load1 t1_40 (D 0 rfl) (B.cells 0 rfl) (j := 2) rfl rfl)) rfl rfl
        · exact Ob.q rfl (fun _ _ B U D => (r_fieldAddr fo27_2 ((U 1 rfl).trans f66) rfl)) rfl rfl
        · exact Ob.q rfl (fun _ _ B U D => (r_load1 t1_23 (D 2 rfl) (B.cells 2 rfl) (j := 2) rfl rfl)) rfl rfl
        · exact Ob.q rfl (fun _ _ B U D => (r_move ((U 5 rfl).trans f69))) rfl rfl
        · exact Ob.q rfl (fun _ _ B U D => (r_idx ts23 (had.ext B.keep) (D 3 rfl) (by first | (simp; done) | (simp; omega)) (D 4 rfl) (by omega) (mget he))) rfl rfl
        · exact Ob.q rfl (fun _ _ B U D => (r_fieldAddr fo163_0 (D 5 rfl) rfl)) rfl rfl
        · exact Ob.q rfl (fun _ _ B U D => (r_load1 t1_3 (D 6 rfl) ((had.ext B.keep).cells (mget he)) (j := 0) rfl rfl)) rfl rfl
        · exact Ob.q rfl (fun _ _ B U D => (r_fieldAddr fo27_2 ((U 1 rfl).trans f66) rfl)) rfl rfl
        · exact Ob.q rfl (fun _ _ B U D => (r_load1 t1_23 (D 8 rfl) (B.cells 2 rfl) (j := 2) rfl rfl)) rfl rfl
        · exact Ob.q rfl (fun _ _ B U D => (r_move ((U 5 rfl).trans f69))) rfl rfl
        · exact Ob.q rfl (fun _ _ B U D => (r_idx ts23 (had.ext B.keep) (D 9 rfl) (by first | (simp; done) | (simp; omega)) (D 10 rfl) (by omega) (mget he))) rfl rfl
        · exact Ob.q rfl (fun _ _ B U D => (r_fieldAddr fo163_1 (D 11 rfl) rfl)) rfl rfl
        · exact Ob.q rfl (fun _ _ B U D => (r_load1 t1_3 (D 12 rfl) ((had.ext B.keep).cells (mget he)) (j := 1) rfl rfl)) rfl rfl
        · exact Ob.q rfl (fun _ _ B U D => (r_build (v := (.agg #[(i e.frm), (i e.sink)])) (pe (v := (i e.frm)) (D 7 rfl) (pe (v := (i e.sink)) (D 13 rfl) pn)) (fun w => by kernel_rfl))) rfl rfl
        · exact Ob.mk rfl fun ρ' w' B U D => d_row (e := 164) (cs := [i e.frm, i e.sink]) rfl (pe (v := (.agg #[(i e.frm), (i e.sink)])) (D 14 rfl) pn) (fun w => by kernel_rfl) fun b w2 k hc => ⟨k, b, rfl, hc⟩
      intro ρ76 w77 k78 U79 D80; replace H := H.ext k78
      have f81 := (U79 1 rfl).trans f66
      have f82 := (U79 2 rfl).trans f67
      have f83 := (U79 3 rfl).trans f68
      have f84 := (U79 5 rfl).trans f69
      have f85 : ρ76 38 = (i m) := U79 38 rfl
      have f86 : ρ76 39 = (p b1 2) := U79 39 rfl
      have f87 : ρ76 40 = (.slice ad t.dl.length cad) := U79 40 rfl
      have f88 : ρ76 41 = (i ((t.dl.length : Nat) : Int)) := U79 41 rfl
      have f89 : ρ76 42 = (.bool (decide (m < ((t.dl.length : Nat) : Int)))) := U79 42 rfl
      have f90 : ρ76 45 = (p b10 2) := D80 0 rfl
      have f91 : ρ76 46 = (.slice aq ys.length cq) := D80 1 rfl
      have f92 : ρ76 47 = (p b1 2) := D80 2 rfl
      have f93 : ρ76 48 = (.slice ad t.dl.length cad) := D80 3 rfl
      have f94 : ρ76 49 = (i m) := D80 4 rfl
      have f95 : ρ76 50 = (p (blk ad) (offs ad + m.toNat * 2)) := D80 5 rfl
      have f96 : ρ76 51 = (p (blk ad) (offs ad + m.toNat * 2)) := D80 6 rfl
      have f97 : ρ76 52 = (i e.frm) := D80 7 rfl
      have f98 : ρ76 53 = (p b1 2) := D80 8 rfl
      have f99 : ρ76 54 = (.slice ad t.dl.length cad) := D80 9 rfl
      have f100 : ρ76 55 = (i m) := D80 10 rfl
      have f101 : ρ76 56 = (p (blk ad) (offs ad + m.toNat * 2)) := D80 11 rfl
      have f102 : ρ76 57 = (p (blk ad) (offs ad + m.toNat * 2 + 1)) := D80 12 rfl
      have f103 : ρ76 58 = (i e.sink) := D80 13 rfl
      have f104 : ρ76 59 = (.agg #[(i e.frm), (i e.sink)]) := D80 14 rfl
      obtain ⟨b106, f105, c107⟩ := (show ∃ b, ρ76 60 = .slice (some ⟨b, 0, none⟩) 1 1 ∧ Cells w77 b 0 [i e.frm, i e.sink] from D80 15 rfl)
      clear U79 D80 k78
      refine Ro.d rfl rfl rfl (S.appendE (H := (H.perm perm_r2)) (enc := depthV) (z := e) hi74.1 tr40_16 rfl f91 f105 c107 rfl (by simp [depthV, Value.oneCell']) (by simp only [maxLen]; omega) (by omega) ?_)
      intro a109 c110 Lr111 w112 hr113 Hn
      replace H : S Nm w ([(b10, .cells [i t.base, .slice ar t.bs.length cr, .slice aq ys.length cq, i t.blo, i t.bhi].toArray 43 (0, 0)), (b3, .cells [i 0, .slice none 0 0, .slice none 0 0, i 0, i 0].toArray 43 (0, 0)), (b1, .cells [i t.base, .slice ab t.bs.length cab, .slice ad t.dl.length cad, i t.blo, i t.bhi].toArray 27 (0, 0))] ++ (Lr ++ Lr111)) w112 := Hn.perm perm_r2.symm; clear Hn
      refine Ro.q (v := (p b10 2)) rfl rfl (r_fieldAddr fo43_2 f83 rfl) rfl ?_
      refine Ro.d0 rfl rfl rfl (H.store (j := 0) (off := 2) (k := 1) rfl sz40 rfl (v := (.slice a109 ((ys ++ [e]).length) c110)) rfl rfl rfl rfl rfl (by simp [Value.oneCell']) (cs' := [i t.base, .slice ar t.bs.length cr, .slice a109 ((ys ++ [e]).length) c110, i t.blo, i t.bhi]) rfl ?_)
      intro w114 Hn; replace H : S Nm w ([(b10, .cells [i t.base, .slice ar t.bs.length cr, .slice a109 ((ys ++ [e]).length) c110, i t.blo, i t.bhi].toArray 43 (0, 0)), (b3, .cells [i 0, .slice none 0 0, .slice none 0 0, i 0, i 0].toArray 43 (0, 0)), (b1, .cells [i t.base, .slice ab t.bs.length cab, .slice ad t.dl.length cad, i t.blo, i t.bhi].toArray 27 (0, 0))] ++ (Lr ++ Lr111)) w114 := Hn; clear Hn
      refine Ro.nil (nB (nT ?_))
      refine Wp.region ?_
      refine Ro.q (v := (i m)) rfl rfl (r_move f84) rfl ?_
      refine Ro.q rfl rfl (r_add rfl rfl (by constructor <;> omega)) rfl ?_
      refine Ro.q (v := (i (m + 1))) rfl rfl (r_assign rfl) rfl ?_
      refine Ro.nil (nT ?_)
      exact ⟨((t.dl.length : Int) - (m + 1)).toNat, by omega, (m + 1), a109, c110, (ys ++ [e]), Lr111, rfl, (by omega), rfl, f81, f82, f83, rfl, H, ⟨hr113, by rw [hi74.2, take_succ' (by omega) he]⟩⟩
    · intro c75
      have c75r := c75
      simp only [bx] at c75
      refine Wp.exit (xT (xT (xB (nT ?_))))
      refine Wp.seq ?_
      refine Wp.region ?_
      refine Ro.q rfl rfl (r_load ta43 f68 (H.cells 0 rfl) (j := 0) rfl (vs := [i t.base, .slice ar t.bs.length cr, .slice aq ys.length cq, i t.blo, i t.bhi]) rfl rfl) rfl ?_
      refine Ro.d0 rfl rfl rfl (H.store (j := 1) (off := 0) (k := 5) rfl sz43 f67 (v := (.agg #[(i t.base), (.slice ar t.bs.length cr), (.slice aq ys.length cq), (i t.blo), (i t.bhi)])) rfl rfl rfl rfl rfl (by simp [Value.oneCell']) (cs' := [i t.base, .slice ar t.bs.length cr, .slice aq ys.length cq, i t.blo, i t.bhi]) rfl ?_)
      intro w115 Hn; replace H : S Nm w ([(b10, .cells [i t.base, .slice ar t.bs.length cr, .slice aq ys.length cq, i t.blo, i t.bhi].toArray 43 (0, 0)), (b3, .cells [i t.base, .slice ar t.bs.length cr, .slice aq ys.length cq, i t.blo, i t.bhi].toArray 43 (0, 0)), (b1, .cells [i t.base, .slice ab t.bs.length cab, .slice ad t.dl.length cad, i t.blo, i t.bhi].toArray 27 (0, 0))] ++ (Lr ++ Lq)) w115 := Hn; clear Hn
      refine Ro.nil (nT ?_)
      refine Wp.ret (bodyR ?_)
      refine leave_cell (vs := [i t.base, .slice ar t.bs.length cr, .slice aq ys.length cq, i t.blo, i t.bhi]) Tryz.results37 f67 ta43 (H.cells 1 rfl) rfl ⟨H.keep, ?_⟩
      obtain rfl : ys = t.dl := by rw [hi74.2]; exact List.take_of_length_le (by omega)
      exact ⟨ar, cr, aq, cq, rfl, OwnRow.fsl (enc := bandV) (fun _ => rfl) hi24.1 rfl (H.perm perm_r1), OwnRow.fsl (enc := depthV) (fun _ => rfl) hi74.1 rfl (H.perm perm_r2)⟩
set_option maxRecDepth 100000 in
theorem c18 {t : Tb} {ab ad : Option Addr} {cab cad : Nat} (w : World) (hab : Sl w 3 (t.bs.map bandV) ab) (had : Sl w 2 (t.dl.map depthV) ad) (hb5 : t.bs.length ≤ 5) (hd6 : t.dl.length ≤ 6) : Ret Tryz.prog 18 [(.agg (tbC t ab cab ad cad).toArray)] w fun v w' => TubeAt t w.heap.size v w' := by
  refine Ret.body (N := 18) Tryz.func18 rfl Tryz.ntmps18 rfl ?_
  have H := S.start Nm w
  refine Wp.seq ?_
  refine Wp.region ?_
  refine Ro.d rfl rfl rfl (H.box (l := (tbC t ab cab ad cad)) rfl (v := (.agg (tbC t ab cab ad cad).toArray)) rfl rfl ?_)
  intro b1 w2 Hn; replace H := Hn; clear Hn
  refine Ro.d rfl rfl rfl (H.new (l := [i 0, .slice none 0 0, .slice none 0 0, i 0, i 0, i 0, i 0, i 0, i 0, i 0, i 0, i 0]) rfl zv45 rfl ?_)
  intro b3 w4 Hn; replace H := Hn; clear Hn
  refine Ro.nil (nT ?_)
  refine Wp.seq ?_
  obtain ⟨nB5, hB5, hL5, hW5⟩ := H.bound
  refine Wp.drawnS (B := (fun w' => S Nm w [(b3, .cells [i 0, .slice none 0 0, .slice none 0 0, i 0, i 0, i 0, i 0, i 0, i 0, i 0, i 0, i 0].toArray 45 (0, 0)), (b1, .cells (tbC t ab cab ad cad).toArray 29 (0, 0))] w' ∧ nB5 ≤ w'.heap.size)) 14 [0, 1, 3, 0, 8, 31, 0, 64, 255, 0, 512, 2047, 0, 4096, 16383, 32767] [is (p b1 0), is (.agg #[(i t.base), (.slice ab t.bs.length cab), (.slice ad t.dl.length cad), (i t.blo), (i t.bhi)]), GlassAt t nB5, is (p b1 5), is (.agg #[(i t.klo), (i t.khi)]), is (.agg #[(i t.klo), (i t.khi)]), is (p b1 7), is (.agg #[(i t.llo), (i t.lhi)]), is (.agg #[(i t.llo), (i t.lhi)]), is (p b1 9), is (.agg #[(i t.slo), (i t.shi)]), is (.agg #[(i t.slo), (i t.shi)]), is (p b1 11), is (i t.term)] (by kernel_rfl) (by kernel_rfl) rfl (Mi (Mi (MGlass (Mi (Mi (Mi (Mi (Mi (Mi (Mi (Mi (Mi (Mi (Mi Mono.nil)))))))))))))) (fun w' k => ⟨H.ext k, Nat.le_trans hB5 k.size⟩) ?_ ?_
  · refine ⟨?_, ⟨?_, ⟨?_, ⟨?_, ⟨?_, ⟨?_, ⟨?_, ⟨?_, ⟨?_, ⟨?_, ⟨?_, ⟨?_, ⟨?_, ⟨?_, trivial⟩⟩⟩⟩⟩⟩⟩⟩⟩⟩⟩⟩⟩⟩
    · exact Ob.q rfl (fun _ _ B U D => (r_fieldAddr fo29_0 (show (_ : Value) = (p b1 0) from U 1 rfl) rfl)) rfl rfl
    · exact Ob.q rfl (fun _ _ B U D => (r_load ta27 (D 0 rfl) (B.1.cells 1 rfl) (j := 0) rfl (vs := [i t.base, .slice ab t.bs.length cab, .slice ad t.dl.length cad, i t.blo, i t.bhi]) rfl rfl)) rfl rfl
    · exact Ob.mk rfl fun ρ' w' B U D => d_call rfl en37 (ce (v := (.agg #[(i t.base), (.slice ab t.bs.length cab), (.slice ad t.dl.length cad), (i t.blo), (i t.bhi)])) (D 1 rfl) cn) (c37 _ (hab.ext B.1.keep) (had.ext B.1.keep) hb5 hd6) (fun u w2 k2 hu => ⟨k2, GlassAt.le hu B.2⟩)
    · exact Ob.q rfl (fun _ _ B U D => (r_fieldAddr fo29_1 (show (_ : Value) = (p b1 0) from U 1 rfl) rfl)) rfl rfl
    · exact Ob.q rfl (fun _ _ B U D => (r_load ta25 (D 3 rfl) (B.1.cells 1 rfl) (j := 5) rfl (vs := [i t.klo, i t.khi]) rfl rfl)) rfl rfl
    · exact Ob.mk rfl fun ρ' w' B U D => d_call rfl en31 (ce (v := (.agg #[(i t.klo), (i t.khi)])) (D 4 rfl) cn) (c31 t.klo t.khi _ ) (fun u w2 k2 hu => ⟨k2, hu⟩)
    · exact Ob.q rfl (fun _ _ B U D => (r_fieldAddr fo29_2 (show (_ : Value) = (p b1 0) from U 1 rfl) rfl)) rfl rfl
    · exact Ob.q rfl (fun _ _ B U D => (r_load ta25 (D 6 rfl) (B.1.cells 1 rfl) (j := 7) rfl (vs := [i t.llo, i t.lhi]) rfl rfl)) rfl rfl
    · exact Ob.mk rfl fun ρ' w' B U D => d_call rfl en31 (ce (v := (.agg #[(i t.llo), (i t.lhi)])) (D 7 rfl) cn) (c31 t.llo t.lhi _ ) (fun u w2 k2 hu => ⟨k2, hu⟩)
    · exact Ob.q rfl (fun _ _ B U D => (r_fieldAddr fo29_3 (show (_ : Value) = (p b1 0) from U 1 rfl) rfl)) rfl rfl
    · exact Ob.q rfl (fun _ _ B U D => (r_load ta25 (D 9 rfl) (B.1.cells 1 rfl) (j := 9) rfl (vs := [i t.slo, i t.shi]) rfl rfl)) rfl rfl
    · exact Ob.mk rfl fun ρ' w' B U D => d_call rfl en31 (ce (v := (.agg #[(i t.slo), (i t.shi)])) (D 10 rfl) cn) (c31 t.slo t.shi _ ) (fun u w2 k2 hu => ⟨k2, hu⟩)
    · exact Ob.q rfl (fun _ _ B U D => (r_fieldAddr fo29_4 (show (_ : Value) = (p b1 0) from U 1 rfl) rfl)) rfl rfl
    · exact Ob.q rfl (fun _ _ B U D => (r_load1 t1_3 (D 12 rfl) (B.1.cells 1 rfl) (j := 11) rfl rfl)) rfl rfl
  intro ρ6 w7 k8 U9 D10; replace H := H.ext k8
  have f11 : ρ6 2 = (p b3 0) := U9 2 rfl
  obtain ⟨a1_13, c1_13, a2_13, c2_13, f12, h1_13, h2_13⟩ := (show GlassAt t nB5 (ρ6 5) w7 from D10 2 rfl)
  have f14 : ρ6 8 = (.agg #[(i t.klo), (i t.khi)]) := D10 5 rfl
  have f15 : ρ6 11 = (.agg #[(i t.llo), (i t.lhi)]) := D10 8 rfl
  have f16 : ρ6 14 = (.agg #[(i t.slo), (i t.shi)]) := D10 11 rfl
  have f17 : ρ6 16 = (i t.term) := D10 13 rfl
  clear U9 D10 k8
  refine Ro.q (v := (.agg #[(i t.base), (.slice a1_13 t.bs.length c1_13), (.slice a2_13 t.dl.length c2_13), (i t.blo), (i t.bhi), (i t.klo), (i t.khi), (i t.llo), (i t.lhi), (i t.slo), (i t.shi), (i t.term)])) rfl rfl (r_build (v := (.agg #[(i t.base), (.slice a1_13 t.bs.length c1_13), (.slice a2_13 t.dl.length c2_13), (i t.blo), (i t.bhi), (i t.klo), (i t.khi), (i t.llo), (i t.lhi), (i t.slo), (i t.shi), (i t.term)])) (pe (v := (.agg #[(i t.base), (.slice a1_13 t.bs.length c1_13), (.slice a2_13 t.dl.length c2_13), (i t.blo), (i t.bhi)])) f12 (pe (v := (.agg #[(i t.klo), (i t.khi)])) f14 (pe (v := (.agg #[(i t.llo), (i t.lhi)])) f15 (pe (v := (.agg #[(i t.slo), (i t.shi)])) f16 (pe (v := (i t.term)) f17 pn))))) (fun w => by kernel_rfl)) rfl ?_
  refine Ro.d0 rfl rfl rfl (H.storeK (j := 0) (off := 0) (k := 12) rfl sz45 f11 (v := (.agg #[(i t.base), (.slice a1_13 t.bs.length c1_13), (.slice a2_13 t.dl.length c2_13), (i t.blo), (i t.bhi), (i t.klo), (i t.khi), (i t.llo), (i t.lhi), (i t.slo), (i t.shi), (i t.term)])) rfl rfl rfl rfl rfl (by simp [Value.oneCell']) (cs' := [i t.base, .slice a1_13 t.bs.length c1_13, .slice a2_13 t.dl.length c2_13, i t.blo, i t.bhi, i t.klo, i t.khi, i t.llo, i t.lhi, i t.slo, i t.shi, i t.term]) rfl ?_)
  intro w18 kS Hn; replace H := Hn; clear Hn
  replace h1_13 := h1_13.put (hL5 _ (List.mem_of_getElem? (i := 0) rfl)) kS
  replace h2_13 := h2_13.put (hL5 _ (List.mem_of_getElem? (i := 0) rfl)) kS
  refine Ro.nil (nT ?_)
  refine Wp.ret (bodyR ?_)
  refine leave_cell (vs := [i t.base, .slice a1_13 t.bs.length c1_13, .slice a2_13 t.dl.length c2_13, i t.blo, i t.bhi, i t.klo, i t.khi, i t.llo, i t.lhi, i t.slo, i t.shi, i t.term]) Tryz.results18 f11 ta45 (H.cells 0 rfl) rfl ⟨H.keep, ?_⟩
  exact ⟨_, _, _, _, rfl, h1_13.le hW5, h2_13.le hW5⟩
set_option maxRecDepth 100000 in
theorem c21 {x : Rdg} (w : World) : Rv Tryz.prog 21 [(.agg (rdC x).toArray)] w (.agg (rdC x).toArray) := by
  refine Ret.body (N := 22) Tryz.func21 rfl Tryz.ntmps21 rfl ?_
  have H := S.start Nm w
  refine Wp.seq ?_
  refine Wp.region ?_
  refine Ro.d rfl rfl rfl (H.box (l := (rdC x)) rfl (v := (.agg (rdC x).toArray)) rfl rfl ?_)
  intro b1 w2 Hn; replace H := Hn; clear Hn
  refine Ro.d rfl rfl rfl (H.new (l := [i 0, i 0, i 0, i 0, i 0, i 0, i 0, i 0, i 0, .bool false]) rfl zv52 rfl ?_)
  intro b3 w4 Hn; replace H := Hn; clear Hn
  refine Ro.nil (nT ?_)
  refine Wp.seq ?_
  refine Wp.drawnS 19 [0, 1, 0, 4, 0, 16, 0, 64, 0, 256, 768, 0, 2048, 7936, 0, 16384, 0, 65536, 262143, 524287] [is (p b1 0), is (i x.day), is (p b1 1), is (i x.shown), is (p b1 2), is (i x.err), is (p b1 3), is (i x.bare), is (p b1 4), is (.agg #[(i x.alo), (i x.ahi)]), is (.agg #[(i x.alo), (i x.ahi)]), is (p b1 6), is (.agg #[(i x.rlo), (i x.rhi)]), is (.agg #[(i x.rlo), (i x.rhi)]), is (p b1 8), is (i x.deep), is (p b1 9), is (.bool x.broken), is (.agg (rdC x).toArray)] (by kernel_rfl) (by kernel_rfl) rfl (Mi (Mi (Mi (Mi (Mi (Mi (Mi (Mi (Mi (Mi (Mi (Mi (Mi (Mi (Mi (Mi (Mi (Mi (Mi Mono.nil))))))))))))))))))) (fun w' k => H.ext k) ?_ ?_
  · refine ⟨?_, ⟨?_, ⟨?_, ⟨?_, ⟨?_, ⟨?_, ⟨?_, ⟨?_, ⟨?_, ⟨?_, ⟨?_, ⟨?_, ⟨?_, ⟨?_, ⟨?_, ⟨?_, ⟨?_, ⟨?_, ⟨?_, trivial⟩⟩⟩⟩⟩⟩⟩⟩⟩⟩⟩⟩⟩⟩⟩⟩⟩⟩⟩
    · exact Ob.q rfl (fun _ _ B U D => (r_fieldAddr fo33_0 (show (_ : Value) = (p b1 0) from U 1 rfl) rfl)) rfl rfl
    · exact Ob.q rfl (fun _ _ B U D => (r_load1 t1_3 (D 0 rfl) (B.cells 1 rfl) (j := 0) rfl rfl)) rfl rfl
    · exact Ob.q rfl (fun _ _ B U D => (r_fieldAddr fo33_1 (show (_ : Value) = (p b1 0) from U 1 rfl) rfl)) rfl rfl
    · exact Ob.q rfl (fun _ _ B U D => (r_load1 t1_3 (D 2 rfl) (B.cells 1 rfl) (j := 1) rfl rfl)) rfl rfl
    · exact Ob.q rfl (fun _ _ B U D => (r_fieldAddr fo33_2 (show (_ : Value) = (p b1 0) from U 1 rfl) rfl)) rfl rfl
    · exact Ob.q rfl (fun _ _ B U D => (r_load1 t1_3 (D 4 rfl) (B.cells 1 rfl) (j := 2) rfl rfl)) rfl rfl
    · exact Ob.q rfl (fun _ _ B U D => (r_fieldAddr fo33_3 (show (_ : Value) = (p b1 0) from U 1 rfl) rfl)) rfl rfl
    · exact Ob.q rfl (fun _ _ B U D => (r_load1 t1_3 (D 6 rfl) (B.cells 1 rfl) (j := 3) rfl rfl)) rfl rfl
    · exact Ob.q rfl (fun _ _ B U D => (r_fieldAddr fo33_4 (show (_ : Value) = (p b1 0) from U 1 rfl) rfl)) rfl rfl
    · exact Ob.q rfl (fun _ _ B U D => (r_load ta25 (D 8 rfl) (B.cells 1 rfl) (j := 4) rfl (vs := [i x.alo, i x.ahi]) rfl rfl)) rfl rfl
    · exact Ob.mk rfl fun ρ' w' B U D => d_call rfl en31 (ce (v := (.agg #[(i x.alo), (i x.ahi)])) (D 9 rfl) cn) (c31 x.alo x.ahi _ ) (fun u w2 k2 hu => ⟨k2, hu⟩)
    · exact Ob.q rfl (fun _ _ B U D => (r_fieldAddr fo33_5 (show (_ : Value) = (p b1 0) from U 1 rfl) rfl)) rfl rfl
    · exact Ob.q rfl (fun _ _ B U D => (r_load ta25 (D 11 rfl) (B.cells 1 rfl) (j := 6) rfl (vs := [i x.rlo, i x.rhi]) rfl rfl)) rfl rfl
    · exact Ob.mk rfl fun ρ' w' B U D => d_call rfl en31 (ce (v := (.agg #[(i x.rlo), (i x.rhi)])) (D 12 rfl) cn) (c31 x.rlo x.rhi _ ) (fun u w2 k2 hu => ⟨k2, hu⟩)
    · exact Ob.q rfl (fun _ _ B U D => (r_fieldAddr fo33_6 (show (_ : Value) = (p b1 0) from U 1 rfl) rfl)) rfl rfl
    · exact Ob.q rfl (fun _ _ B U D => (r_load1 t1_3 (D 14 rfl) (B.cells 1 rfl) (j := 8) rfl rfl)) rfl rfl
    · exact Ob.q rfl (fun _ _ B U D => (r_fieldAddr fo33_7 (show (_ : Value) = (p b1 0) from U 1 rfl) rfl)) rfl rfl
    · exact Ob.q rfl (fun _ _ B U D => (r_load1 t1_4 (D 16 rfl) (B.cells 1 rfl) (j := 9) rfl rfl)) rfl rfl
    · exact Ob.q rfl (fun _ _ B U D => (r_build (v := (.agg (rdC x).toArray)) (pe (v := (i x.day)) (D 1 rfl) (pe (v := (i x.shown)) (D 3 rfl) (pe (v := (i x.err)) (D 5 rfl) (pe (v := (i x.bare)) (D 7 rfl) (pe (v := (.agg #[(i x.alo), (i x.ahi)])) (D 10 rfl) (pe (v := (.agg #[(i x.rlo), (i x.rhi)])) (D 13 rfl) (pe (v := (i x.deep)) (D 15 rfl) (pe (v := (.bool x.broken)) (D 17 rfl) pn)))))))) (fun w => by kernel_rfl))) rfl rfl
  intro ρ5 w6 k7 U8 D9; replace H := H.ext k7
  have f10 : ρ5 2 = (p b3 0) := U8 2 rfl
  have f11 : ρ5 21 = (.agg (rdC x).toArray) := D9 18 rfl
  clear U8 D9 k7
  refine Ro.d0 rfl rfl rfl (H.store (j := 0) (off := 0) (k := 10) rfl sz52 f10 (v := (.agg (rdC x).toArray)) f11 rfl rfl rfl rfl (by simp [Value.oneCell']) (cs' := (rdC x)) rfl ?_)
  intro w12 Hn; replace H := Hn; clear Hn
  refine Ro.nil (nT ?_)
  refine Wp.ret (bodyR ?_)
  refine leave_cell (vs := (rdC x)) Tryz.results21 f10 ta52 (H.cells 0 rfl) rfl ⟨H.keep, ?_⟩
  rfl
set_option maxRecDepth 100000 in
theorem c54 {t : Tb} {ab ad : Option Addr} {cab cad : Nat} {h : List Rg} {ices : List Ice} {ah ai : Option Addr} {cah cai : Nat} (w : World) : Rv Tryz.prog 54 [(.agg #[(i t.base), (.slice ab t.bs.length cab), (.slice ad t.dl.length cad), (i t.blo), (i t.bhi)]), (.slice ah h.length cah), (.slice ai ices.length cai)] w (.bool (thinB t h ices)) := by
  refine Ret.body (N := 27) Tryz.func54 rfl Tryz.ntmps54 rfl ?_
  have H := S.start Nm w
  refine Wp.seq ?_
  refine Wp.region ?_
  refine Ro.d rfl rfl rfl (H.box (l := [i t.base, .slice ab t.bs.length cab, .slice ad t.dl.length cad, i t.blo, i t.bhi]) rfl (v := (.agg #[(i t.base), (.slice ab t.bs.length cab), (.slice ad t.dl.length cad), (i t.blo), (i t.bhi)])) rfl rfl ?_)
  intro b1 w2 Hn; replace H := Hn; clear Hn
  refine Ro.q (v := (.bool false)) rfl rfl (r_assign rfl) rfl ?_
  refine Ro.nil (nT ?_)
  refine Wp.seq ?_
  let qq3 : Bool := decide (((t.bs.length : Nat) : Int) ≤ 5)
  let qq4 : Bool := decide (((t.dl.length : Nat) : Int) ≤ 6)
  let qq5 : Bool := (qq3 && qq4)
  let qq6 : Bool := decide (((h.length : Nat) : Int) ≤ 20)
  let qq7 : Bool := (qq5 && qq6)
  let qq8 : Bool := decide (((ices.length : Nat) : Int) ≤ 11)
  let qq9 : Bool := (qq7 && qq8)
  refine Wp.factsS 21 [is (p b1 1), is (.slice ab t.bs.length cab), is (i ((t.bs.length : Nat) : Int)), is (.bool qq3), is (.bool qq3), gdv (True ∧ qq3 = true) (p b1 2), gdv (True ∧ qq3 = true) (.slice ad t.dl.length cad), gdv (True ∧ qq3 = true) (i ((t.dl.length : Nat) : Int)), gdv (True ∧ qq3 = true) (.bool qq4), is (.bool qq5), is (.bool qq5), gdv (True ∧ qq5 = true) (.slice ah h.length cah), gdv (True ∧ qq5 = true) (i ((h.length : Nat) : Int)), gdv (True ∧ qq5 = true) (.bool qq6), is (.bool qq7), is (.bool qq7), gdv (True ∧ qq7 = true) (.slice ai ices.length cai), gdv (True ∧ qq7 = true) (i ((ices.length : Nat) : Int)), gdv (True ∧ qq7 = true) (.bool qq8), is (.bool qq9), is (.bool qq9)] (by kernel_rfl) (Mi (Mi (Mi (Mi (Mi (Mg (Mg (Mg (Mg (Mi (Mi (Mg (Mg (Mg (Mi (Mi (Mg (Mg (Mg (Mi (Mi Mono.nil))))))))))))))))))))) (fun w' k => H.ext k) ?_ ?_
  · refine ⟨?_, ⟨?_, ⟨?_, ⟨?_, ⟨?_, ⟨?_, ⟨?_, ⟨?_, ⟨?_, ⟨?_, ⟨?_, ⟨?_, ⟨?_, ⟨?_, ⟨?_, ⟨?_, ⟨?_, ⟨?_, ⟨?_, ⟨?_, ⟨?_, trivial⟩⟩⟩⟩⟩⟩⟩⟩⟩⟩⟩⟩⟩⟩⟩⟩⟩⟩⟩⟩⟩
    · exact Ob.q rfl (fun _ _ B U D => (r_fieldAddr fo27_1 (show (_ : Value) = (p b1 0) from U 3 rfl) rfl)) rfl rfl
    · exact Ob.q rfl (fun _ _ B U D => (r_load1 t1_22 (D 0 rfl) (B.cells 0 rfl) (j := 1) rfl rfl)) rfl rfl
    · exact Ob.q rfl (fun _ _ B U D => (r_len Tryz.underlying22 (D 1 rfl) (v := t.bs.length) rfl)) rfl rfl
    · exact Ob.q rfl (fun _ _ B U D => (r_leq (D 2 rfl) rfl)) rfl rfl
    · exact Ob.q rfl (fun _ _ B U D => (r_move (D 3 rfl))) rfl rfl
    · exact Ob.g0 rfl rfl (fun _ _ _ D => D 4 rfl) rfl (fun _ _ B U D hC hg => (r_fieldAddr fo27_2 (show (_ : Value) = (p b1 0) from U 3 rfl) rfl)) rfl
    · exact Ob.g0 rfl rfl (fun _ _ _ D => D 4 rfl) rfl (fun _ _ B U D hC hg => (r_load1 t1_23 (gdy (D 5 rfl) ⟨hC, hg⟩) (B.cells 0 rfl) (j := 2) rfl rfl)) rfl
    · exact Ob.g0 rfl rfl (fun _ _ _ D => D 4 rfl) rfl (fun _ _ B U D hC hg => (r_len Tryz.underlying23 (gdy (D 6 rfl) ⟨hC, hg⟩) (v := t.dl.length) rfl)) rfl
    · exact Ob.g0 rfl rfl (fun _ _ _ D => D 4 rfl) rfl (fun _ _ B U D hC hg => (r_leq (gdy (D 7 rfl) ⟨hC, hg⟩) rfl)) rfl
    · exact Ob.q rfl (fun _ _ B U D => (r_pick (v := (.bool qq5)) (D 4 rfl) (fun eP => (gdy (D 8 rfl) ⟨trivial, eP⟩).trans (and_t eP)) (fun eP => and_f eP))) rfl rfl
    · exact Ob.q rfl (fun _ _ B U D => (r_move (D 9 rfl))) rfl rfl
    · exact Ob.g0 rfl rfl (fun _ _ _ D => D 10 rfl) rfl (fun _ _ B U D hC hg => (r_move (show (_ : Value) = (.slice ah h.length cah) from U 1 rfl))) rfl
    · exact Ob.g0 rfl rfl (fun _ _ _ D => D 10 rfl) rfl (fun _ _ B U D hC hg => (r_len Tryz.underlying30 (gdy (D 11 rfl) ⟨hC, hg⟩) (v := h.length) rfl)) rfl
    · exact Ob.g0 rfl rfl (fun _ _ _ D => D 10 rfl) rfl (fun _ _ B U D hC hg => (r_leq (gdy (D 12 rfl) ⟨hC, hg⟩) rfl)) rfl
    · exact Ob.q rfl (fun _ _ B U D => (r_pick (v := (.bool qq7)) (D 10 rfl) (fun eP => (gdy (D 13 rfl) ⟨trivial, eP⟩).trans (and_t eP)) (fun eP => and_f eP))) rfl rfl
    · exact Ob.q rfl (fun _ _ B U D => (r_move (D 14 rfl))) rfl rfl
    · exact Ob.g0 rfl rfl (fun _ _ _ D => D 15 rfl) rfl (fun _ _ B U D hC hg => (r_move (show (_ : Value) = (.slice ai ices.length cai) from U 2 rfl))) rfl
    · exact Ob.g0 rfl rfl (fun _ _ _ D => D 15 rfl) rfl (fun _ _ B U D hC hg => (r_len Tryz.underlying31 (gdy (D 16 rfl) ⟨hC, hg⟩) (v := ices.length) rfl)) rfl
    · exact Ob.g0 rfl rfl (fun _ _ _ D => D 15 rfl) rfl (fun _ _ B U D hC hg => (r_leq (gdy (D 17 rfl) ⟨hC, hg⟩) rfl)) rfl
    · exact Ob.q rfl (fun _ _ B U D => (r_pick (v := (.bool qq9)) (D 15 rfl) (fun eP => (gdy (D 18 rfl) ⟨trivial, eP⟩).trans (and_t eP)) (fun eP => and_f eP))) rfl rfl
    · exact Ob.q rfl (fun _ _ B U D => (r_assign (D 19 rfl))) rfl rfl
  intro ρ10 w11 k12 U13 D14; replace H := H.ext k12
  have f15 : ρ10 6 = (.bool qq9) := D14 20 rfl
  clear U13 D14 k12
  refine Ro.nil (nT ?_)
  refine Wp.ret (bodyR ?_)
  refine leave_tmp (v := (.bool ((((decide (((t.bs.length : Nat) : Int) ≤ 5)) && (decide (((t.dl.length : Nat) : Int) ≤ 6))) && (decide (((h.length : Nat) : Int) ≤ 20))) && (decide (((ices.length : Nat) : Int) ≤ 11))))) Tryz.results54 f15 ⟨H.keep, ?_⟩
  rfl
set_option maxRecDepth 100000 in
theorem c15 {t : Tb} {ab ad : Option Addr} {cab cad : Nat} {h : List Rg} {ices : List Ice} {ah ai : Option Addr} {cah cai : Nat} (w : World) : Rv Tryz.prog 15 [(.agg (tbC t ab cab ad cad).toArray), (.slice ah h.length cah), (.slice ai ices.length cai)] w (.bool (thinB t h ices)) := by
  refine Ret.body (N := 12) Tryz.func15 rfl Tryz.ntmps15 rfl ?_
  have H := S.start Nm w
  refine Wp.seq ?_
  refine Wp.region ?_
  refine Ro.d rfl rfl rfl (H.box (l := (tbC t ab cab ad cad)) rfl (v := (.agg (tbC t ab cab ad cad).toArray)) rfl rfl ?_)
  intro b1 w2 Hn; replace H := Hn; clear Hn
  refine Ro.q (v := (.bool false)) rfl rfl (r_assign rfl) rfl ?_
  refine Ro.nil (nT ?_)
  refine Wp.seq ?_
  refine Wp.region ?_
  refine Ro.q (v := (p b1 0)) rfl rfl (r_fieldAddr fo29_0 rfl rfl) rfl ?_
  refine Ro.q rfl rfl (r_load ta27 rfl (H.cells 0 rfl) (j := 0) rfl (vs := [i t.base, .slice ab t.bs.length cab, .slice ad t.dl.length cad, i t.blo, i t.bhi]) rfl rfl) rfl ?_
  refine Ro.q (v := (.slice ah h.length cah)) rfl rfl (r_move rfl) rfl ?_
  refine Ro.q (v := (.slice ai ices.length cai)) rfl rfl (r_move rfl) rfl ?_
  refine Ro.d rfl rfl rfl (d_call rfl en54 (ce (v := (.agg #[(i t.base), (.slice ab t.bs.length cab), (.slice ad t.dl.length cad), (i t.blo), (i t.bhi)])) rfl (ce (v := (.slice ah h.length cah)) rfl (ce (v := (.slice ai ices.length cai)) rfl cn))) (c54 (t := t) (h := h) (ices := ices) _) ?_)
  intro u w3 k4 hu; subst hu; replace H := H.ext k4
  clear k4
  refine Ro.q (v := (.bool (thinB t h ices))) rfl rfl (r_assign rfl) rfl ?_
  refine Ro.nil (nT ?_)
  refine Wp.ret (bodyR ?_)
  refine leave_tmp (v := (.bool (thinB t h ices))) Tryz.results15 rfl ⟨H.keep, ?_⟩
  rfl
set_option maxRecDepth 100000 in
theorem c73 {x : Rdg} {d : Kd} (w : World) (hrd : RdR x) (hd : KdR d) : Rv Tryz.prog 73 [(.agg (rdC x).toArray), i d.k, i d.lag, i d.sq] w (.agg #[i (bareR x d).lo, i (bareR x d).hi]) := by
  have sp0 : ∀ y, -100 ≤ y ∧ y ≤ 100 → -36000000 ≤ stemP d.k x.bare x.shown y ∧ stemP d.k x.bare x.shown y ≤ 36000000 := fun y hy => stemP_in (by omega) (by omega) (by omega) hy
  refine Ret.body (N := 75) Tryz.func73 rfl Tryz.ntmps73 rfl ?_
  have H := S.start Nm w
  refine Wp.seq ?_
  refine Wp.region ?_
  refine Ro.d rfl rfl rfl (H.box (l := (rdC x)) rfl (v := (.agg (rdC x).toArray)) rfl rfl ?_)
  intro b1 w2 Hn; replace H := Hn; clear Hn
  refine Ro.d rfl rfl rfl (H.new (l := [i 0, i 0]) rfl zv25 rfl ?_)
  intro b3 w4 Hn; replace H := Hn; clear Hn
  refine Ro.nil (nT ?_)
  refine Wp.seq ?_
  refine Wp.region ?_
  refine Ro.q (v := (.agg #[(i 1073741824), (i (-1073741824))])) rfl rfl (r_build (v := (.agg #[(i 1073741824), (i (-1073741824))])) (pe (v := (i 1073741824)) rfl (pe (v := (i (-1073741824))) rfl pn)) (fun w => by kernel_rfl)) rfl ?_
  refine Ro.d rfl rfl rfl (H.new (l := [i 0, i 0]) rfl zv25 rfl ?_)
  intro b5 w6 Hn; replace H := Hn; clear Hn
  refine Ro.d0 rfl rfl rfl (H.store (j := 0) (off := 0) (k := 2) rfl sz25 rfl (v := (.agg #[(i 1073741824), (i (-1073741824))])) rfl rfl rfl rfl rfl (by simp [Value.oneCell']) (cs' := [i 1073741824, i (-1073741824)]) rfl ?_)
  intro w7 Hn; replace H := Hn; clear Hn
  refine Ro.nil (nT ?_)
  refine Wp.seq ?_
  refine Wp.seq ?_
  refine Wp.region ?_
  refine Ro.q (v := (p b1 4)) rfl rfl (r_fieldAddr fo33_4 rfl rfl) rfl ?_
  refine Ro.q (v := (p b1 4)) rfl rfl (r_fieldAddr fo25_0 rfl rfl) rfl ?_
  refine Ro.q rfl rfl (r_load1 t1_3 rfl (H.cells 2 rfl) (j := 4) rfl rfl) rfl ?_
  refine Ro.q (v := (i x.alo)) rfl rfl (r_assign rfl) rfl ?_
  refine Ro.nil (nT ?_)
  refine Wp.block ?_
  refine Wp.loop (fun kM ds ρ w' => ∃ n : Int, ∃ lo : Int, ∃ hi : Int, ds = [] ∧ (x.alo ≤ n ∧ n ≤ x.ahi + 1) ∧ kM = (x.ahi + 1 - n : Int).toNat ∧ ρ 1 = (i d.k) ∧ ρ 2 = (i d.lag) ∧ ρ 3 = (i d.sq) ∧ ρ 4 = (p b1 0) ∧ ρ 8 = (p b3 0) ∧ ρ 9 = (p b5 0) ∧ ρ 10 = (i n) ∧ S Nm w [(b5, .cells [i lo, i hi].toArray 25 (0, 0)), (b3, .cells [i 0, i 0].toArray 25 (0, 0)), (b1, .cells (rdC x).toArray 33 (0, 0))] w' ∧ (Fall (fun y => stemP d.k x.bare x.shown y) x.alo n lo hi)) ((x.ahi + 1 - x.alo : Int).toNat) ⟨x.alo, 1073741824, (-1073741824), rfl, (by omega), rfl, rfl, rfl, rfl, rfl, rfl, rfl, rfl, H, (.inl ⟨rfl, rfl, rfl⟩)⟩ ?_
  clear H
  intro kρ15 dsρ15 ρ15 w16
  rintro ⟨n, lo, hi, rfl, hb18, hk17, f8, f9, f10, f11, f12, f13, f14, H, hi19⟩
  have sp : n ≤ x.ahi → -36000000 ≤ stemP d.k x.bare x.shown n ∧ stemP d.k x.bare x.shown n ≤ 36000000 := fun hn => stemP_in (by omega) (by omega) (by omega) (by omega)
  refine Wp.seq ?_
  refine Wp.seq ?_
  refine Wp.region ?_
  refine Ro.q (v := (i n)) rfl rfl (r_move f14) rfl ?_
  refine Ro.q (v := (p b1 4)) rfl rfl (r_fieldAddr fo33_4 f11 rfl) rfl ?_
  refine Ro.q (v := (p b1 5)) rfl rfl (r_fieldAddr fo25_1 rfl rfl) rfl ?_
  refine Ro.q rfl rfl (r_load1 t1_3 rfl (H.cells 2 rfl) (j := 5) rfl rfl) rfl ?_
  refine Ro.q rfl rfl (r_leq rfl rfl) rfl ?_
  refine Ro.nil (nT ?_)
  refine Wp.cond (t := decide (n ≤ x.ahi)) rfl ?_ ?_
  · intro c20
    have c20r := c20
    simp only [bx] at c20
    refine Wp.skip (nT ?_)
    refine Wp.seq ?_
    refine Wp.block ?_
    refine Wp.drawnS 5 [0, 0, 0, 0, 14, 31, 63] [is (.agg #[(i lo), (i hi)]), is (.agg (rdC x).toArray), is (i d.k), is (i n), is (i (stemP d.k x.bare x.shown n))] (by kernel_rfl) (by kernel_rfl) rfl (Mi (Mi (Mi (Mi (Mi Mono.nil))))) (fun w' k => H.ext k) ?_ ?_
    · refine ⟨?_, ⟨?_, ⟨?_, ⟨?_, ⟨?_, trivial⟩⟩⟩⟩⟩
      · exact Ob.q rfl (fun _ _ B U D => (r_load ta25 ((U 9 rfl).trans f13) (B.cells 0 rfl) (j := 0) rfl (vs := [i lo, i hi]) rfl rfl)) rfl rfl
      · exact Ob.q rfl (fun _ _ B U D => (r_load ta33 ((U 4 rfl).trans f11) (B.cells 2 rfl) (j := 0) rfl (vs := (rdC x)) rfl rfl)) rfl rfl
      · exact Ob.q rfl (fun _ _ B U D => (r_move ((U 1 rfl).trans f8))) rfl rfl
      · exact Ob.q rfl (fun _ _ B U D => (r_move ((U 10 rfl).trans f14))) rfl rfl
      · exact Ob.mk rfl fun ρ' w' B U D => d_call rfl en89 (ce (v := (.agg (rdC x).toArray)) (D 1 rfl) (ce (v := (i d.k)) (D 2 rfl) (ce (v := (i n)) (D 3 rfl) cn))) (c89 x.day x.shown x.err x.bare x.alo x.ahi x.rlo x.rhi x.deep x.broken d.k n _ (by omega)) (fun u w2 k2 hu => ⟨k2, hu⟩)
    intro ρ21 w22 k23 U24 D25; replace H := H.ext k23
    have f26 := (U24 1 rfl).trans f8
    have f27 := (U24 2 rfl).trans f9
    have f28 := (U24 3 rfl).trans f10
    have f29 := (U24 4 rfl).trans f11
    have f30 := (U24 8 rfl).trans f12
    have f31 := (U24 9 rfl).trans f13
    have f32 := (U24 10 rfl).trans f14
    have f33 : ρ21 18 = (i n) := U24 18 rfl
    have f34 : ρ21 19 = (p b1 4) := U24 19 rfl
    have f35 : ρ21 20 = (p b1 5) := U24 20 rfl
    have f36 : ρ21 21 = (i x.ahi) := U24 21 rfl
    have f37 : ρ21 22 = (.bool (decide (n ≤ x.ahi))) := U24 22 rfl
    have f38 : ρ21 25 = (.agg #[(i lo), (i hi)]) := D25 0 rfl
    have f39 : ρ21 26 = (.agg (rdC x).toArray) := D25 1 rfl
    have f40 : ρ21 27 = (i d.k) := D25 2 rfl
    have f41 : ρ21 28 = (i n) := D25 3 rfl
    have f42 : ρ21 29 = (i (stemP d.k x.bare x.shown n)) := D25 4 rfl
    clear U24 D25 k23
    refine Ro.d rfl rfl rfl (d_call rfl en75 (ce (v := (.agg #[(i lo), (i hi)])) f38 (ce (v := (i (stemP d.k x.bare x.shown n))) f42 cn)) (c75 lo hi (stemP d.k x.bare x.shown n) _ ) ?_)
    intro u w43 k44 hu; subst hu; replace H := H.ext k44
    clear k44
    refine Ro.d0 rfl rfl rfl (H.store (j := 0) (off := 0) (k := 2) rfl sz25 f31 (v := (.agg #[(i (min lo (stemP d.k x.bare x.shown n))), (i (max hi (stemP d.k x.bare x.shown n)))])) rfl rfl rfl rfl rfl (by simp [Value.oneCell']) (cs' := [i (min lo (stemP d.k x.bare x.shown n)), i (max hi (stemP d.k x.bare x.shown n))]) rfl ?_)
    intro w45 Hn; replace H := Hn; clear Hn
    refine Ro.nil (nB (nT ?_))
    refine Wp.region ?_
    refine Ro.q (v := (i n)) rfl rfl (r_move f32) rfl ?_
    refine Ro.q rfl rfl (r_add rfl rfl (by constructor <;> omega)) rfl ?_
    refine Ro.q (v := (i (n + 1))) rfl rfl (r_assign rfl) rfl ?_
    refine Ro.nil (nT ?_)
    exact ⟨(x.ahi + 1 - (n + 1) : Int).toNat, by omega, (n + 1), (min lo (stemP d.k x.bare x.shown n)), (max hi (stemP d.k x.bare x.shown n)), rfl, (by omega), rfl, f26, f27, f28, f29, f30, f31, rfl, H, (Fall.step hi19 (fun a b _ h2 _ => stemP_air (by omega) (by omega) h2) (by have := sp (by omega); omega) rfl rfl)⟩
  · intro c20
    have c20r := c20
    simp only [bx] at c20
    refine Wp.exit (xT (xT (xB (nT ?_))))
    refine Wp.seq ?_
    refine Wp.region ?_
    refine Ro.q (v := (.agg #[(i 1073741824), (i (-1073741824))])) rfl rfl (r_build (v := (.agg #[(i 1073741824), (i (-1073741824))])) (pe (v := (i 1073741824)) rfl (pe (v := (i (-1073741824))) rfl pn)) (fun w => by kernel_rfl)) rfl ?_
    refine Ro.d rfl rfl rfl (H.new (l := [i 0, i 0]) rfl zv25 rfl ?_)
    intro b46 w47 Hn; replace H := Hn; clear Hn
    refine Ro.d0 rfl rfl rfl (H.store (j := 0) (off := 0) (k := 2) rfl sz25 rfl (v := (.agg #[(i 1073741824), (i (-1073741824))])) rfl rfl rfl rfl rfl (by simp [Value.oneCell']) (cs' := [i 1073741824, i (-1073741824)]) rfl ?_)
    intro w48 Hn; replace H := Hn; clear Hn
    refine Ro.nil (nT ?_)
    refine Wp.seq ?_
    refine Wp.seq ?_
    refine Wp.region ?_
    refine Ro.q (v := (p b1 6)) rfl rfl (r_fieldAddr fo33_5 f11 rfl) rfl ?_
    refine Ro.q (v := (p b1 6)) rfl rfl (r_fieldAddr fo25_0 rfl rfl) rfl ?_
    refine Ro.q rfl rfl (r_load1 t1_3 rfl (H.cells 3 rfl) (j := 6) rfl rfl) rfl ?_
    refine Ro.q (v := (i x.rlo)) rfl rfl (r_assign rfl) rfl ?_
    refine Ro.nil (nT ?_)
    refine Wp.block ?_
    have hA : lo = stemP d.k x.bare x.shown x.ahi ∧ hi = stemP d.k x.bare x.shown x.alo := by
      rcases hi19 with ⟨h1, _, _⟩ | ⟨_, h2, h3⟩
      · omega
      · rw [show n - 1 = x.ahi by omega] at h2; exact ⟨h2, h3⟩
    have s1 := sp0 x.ahi (by omega)
    have s2 := sp0 x.alo (by omega)
    obtain ⟨rfl, rfl⟩ := hA
    refine Wp.loop (fun kM ds ρ w' => ∃ m : Int, ∃ lo2 : Int, ∃ hi2 : Int, ds = [] ∧ (x.rlo ≤ m ∧ m ≤ x.rhi + 1) ∧ kM = (x.rhi + 1 - m : Int).toNat ∧ ρ 2 = (i d.lag) ∧ ρ 3 = (i d.sq) ∧ ρ 4 = (p b1 0) ∧ ρ 8 = (p b3 0) ∧ ρ 9 = (p b5 0) ∧ ρ 11 = (p b46 0) ∧ ρ 12 = (i m) ∧ S Nm w [(b46, .cells [i lo2, i hi2].toArray 25 (0, 0)), (b5, .cells [i (stemP d.k x.bare x.shown x.ahi), i (stemP d.k x.bare x.shown x.alo)].toArray 25 (0, 0)), (b3, .cells [i 0, i 0].toArray 25 (0, 0)), (b1, .cells (rdC x).toArray 33 (0, 0))] w' ∧ (Rise (fun y => y * d.lag) x.rlo m lo2 hi2)) ((x.rhi + 1 - x.rlo : Int).toNat) ⟨x.rlo, 1073741824, (-1073741824), rfl, (by omega), rfl, f9, f10, f11, f12, f13, rfl, rfl, H, (.inl ⟨rfl, rfl, rfl⟩)⟩ ?_
    clear H
    intro kρ56 dsρ56 ρ56 w57
    rintro ⟨m, lo2, hi2, rfl, hb59, hk58, f49, f50, f51, f52, f53, f54, f55, H, hi60⟩
    have sr : m ≤ x.rhi → -100 ≤ m * d.lag ∧ m * d.lag ≤ 100 := fun hn => mulin (A := 20) (B := 5) (by omega) (by omega)
    refine Wp.seq ?_
    refine Wp.seq ?_
    refine Wp.region ?_
    refine Ro.q (v := (i m)) rfl rfl (r_move f55) rfl ?_
    refine Ro.q (v := (p b1 6)) rfl rfl (r_fieldAddr fo33_5 f51 rfl) rfl ?_
    refine Ro.q (v := (p b1 7)) rfl rfl (r_fieldAddr fo25_1 rfl rfl) rfl ?_
    refine Ro.q rfl rfl (r_load1 t1_3 rfl (H.cells 3 rfl) (j := 7) rfl rfl) rfl ?_
    refine Ro.q rfl rfl (r_leq rfl rfl) rfl ?_
    refine Ro.nil (nT ?_)
    refine Wp.cond (t := decide (m ≤ x.rhi)) rfl ?_ ?_
    · intro c61
      have c61r := c61
      simp only [bx] at c61
      refine Wp.skip (nT ?_)
      refine Wp.seq ?_
      refine Wp.block ?_
      refine Wp.region ?_
      refine Ro.q rfl rfl (r_load ta25 f54 (H.cells 0 rfl) (j := 0) rfl (vs := [i lo2, i hi2]) rfl rfl) rfl ?_
      refine Ro.q (v := (i m)) rfl rfl (r_move f55) rfl ?_
      refine Ro.q (v := (i d.lag)) rfl rfl (r_move f49) rfl ?_
      refine Ro.q rfl rfl (r_mul rfl rfl (by have := sr (by omega); constructor <;> omega)) rfl ?_
      refine Ro.d rfl rfl rfl (d_call rfl en75 (ce (v := (.agg #[(i lo2), (i hi2)])) rfl (ce (v := (i (m * d.lag))) rfl cn)) (c75 lo2 hi2 (m * d.lag) _ ) ?_)
      intro u w62 k63 hu; subst hu; replace H := H.ext k63
      clear k63
      refine Ro.d0 rfl rfl rfl (H.store (j := 0) (off := 0) (k := 2) rfl sz25 f54 (v := (.agg #[(i (min lo2 (m * d.lag))), (i (max hi2 (m * d.lag)))])) rfl rfl rfl rfl rfl (by simp [Value.oneCell']) (cs' := [i (min lo2 (m * d.lag)), i (max hi2 (m * d.lag))]) rfl ?_)
      intro w64 Hn; replace H : S Nm w [(b46, .cells [i (min lo2 (m * d.lag)), i (max hi2 (m * d.lag))].toArray 25 (0, 0)), (b5, .cells [i (stemP d.k x.bare x.shown x.ahi), i (stemP d.k x.bare x.shown x.alo)].toArray 25 (0, 0)), (b3, .cells [i 0, i 0].toArray 25 (0, 0)), (b1, .cells (rdC x).toArray 33 (0, 0))] w64 := Hn; clear Hn
      refine Ro.nil (nB (nT ?_))
      refine Wp.region ?_
      refine Ro.q (v := (i m)) rfl rfl (r_move f55) rfl ?_
      refine Ro.q rfl rfl (r_add rfl rfl (by constructor <;> omega)) rfl ?_
      refine Ro.q (v := (i (m + 1))) rfl rfl (r_assign rfl) rfl ?_
      refine Ro.nil (nT ?_)
      exact ⟨(x.rhi + 1 - (m + 1) : Int).toNat, by omega, (m + 1), (min lo2 (m * d.lag)), (max hi2 (m * d.lag)), rfl, (by omega), rfl, f49, f50, f51, f52, f53, f54, rfl, H, (Rise.step hi60 (fun a b _ h2 _ => Int.mul_le_mul_of_nonneg_right h2 (by omega)) (by have := sr (by omega); omega) rfl rfl)⟩
    · intro c61
      have c61r := c61
      simp only [bx] at c61
      have hR : lo2 = x.rlo * d.lag ∧ hi2 = x.rhi * d.lag := by
        rcases hi60 with ⟨h1, _, _⟩ | ⟨_, h2, h3⟩
        · omega
        · rw [show m - 1 = x.rhi by omega] at h3; exact ⟨h2, h3⟩
      have r1 : -100 ≤ x.rlo * d.lag ∧ x.rlo * d.lag ≤ 100 := mulin (A := 20) (B := 5) (by omega) (by omega)
      have r2 : -100 ≤ x.rhi * d.lag ∧ x.rhi * d.lag ≤ 100 := mulin (A := 20) (B := 5) (by omega) (by omega)
      have ms : -60 ≤ d.sq * x.deep ∧ d.sq * x.deep ≤ 60 := mulin (A := 3) (B := 20) (by omega) (by omega)
      refine Wp.exit (xT (xT (xB (nT ?_))))
      refine Wp.seq ?_
      refine Wp.region ?_
      refine Ro.q (v := (p b1 1)) rfl rfl (r_fieldAddr fo33_1 f51 rfl) rfl ?_
      refine Ro.q rfl rfl (r_load1 t1_3 rfl (H.cells 3 rfl) (j := 1) rfl rfl) rfl ?_
      refine Ro.q (v := (i d.sq)) rfl rfl (r_move f50) rfl ?_
      refine Ro.q (v := (p b1 8)) rfl rfl (r_fieldAddr fo33_6 f51 rfl) rfl ?_
      refine Ro.q rfl rfl (r_load1 t1_3 rfl (H.cells 3 rfl) (j := 8) rfl rfl) rfl ?_
      refine Ro.q rfl rfl (r_mul rfl rfl (by constructor <;> omega)) rfl ?_
      refine Ro.q rfl rfl (r_sub rfl rfl (by constructor <;> omega)) rfl ?_
      refine Ro.q (v := (i (x.shown - (d.sq * x.deep)))) rfl rfl (r_assign rfl) rfl ?_
      refine Ro.nil (nT ?_)
      refine Wp.seq ?_
      refine Wp.region ?_
      refine Ro.q (v := (i (x.shown - (d.sq * x.deep)))) rfl rfl (r_move rfl) rfl ?_
      refine Ro.q (v := (p b1 2)) rfl rfl (r_fieldAddr fo33_2 f51 rfl) rfl ?_
      refine Ro.q rfl rfl (r_load1 t1_3 rfl (H.cells 3 rfl) (j := 2) rfl rfl) rfl ?_
      refine Ro.q rfl rfl (r_sub rfl rfl (by constructor <;> omega)) rfl ?_
      refine Ro.q (v := (p b5 0)) rfl rfl (r_fieldAddr fo25_0 f53 rfl) rfl ?_
      refine Ro.q rfl rfl (r_load1 t1_3 rfl (H.cells 1 rfl) (j := 0) rfl rfl) rfl ?_
      refine Ro.q rfl rfl (r_add rfl rfl (by constructor <;> omega)) rfl ?_
      refine Ro.q (v := (p b46 0)) rfl rfl (r_fieldAddr fo25_0 f54 rfl) rfl ?_
      refine Ro.q rfl rfl (r_load1 t1_3 rfl (H.cells 0 rfl) (j := 0) rfl rfl) rfl ?_
      refine Ro.q rfl rfl (r_add rfl rfl (by constructor <;> omega)) rfl ?_
      refine Ro.q (v := (i (x.shown - (d.sq * x.deep)))) rfl rfl (r_move rfl) rfl ?_
      refine Ro.q (v := (p b1 2)) rfl rfl (r_fieldAddr fo33_2 f51 rfl) rfl ?_
      refine Ro.q rfl rfl (r_load1 t1_3 rfl (H.cells 3 rfl) (j := 2) rfl rfl) rfl ?_
      refine Ro.q rfl rfl (r_add rfl rfl (by constructor <;> omega)) rfl ?_
      refine Ro.q (v := (p b5 1)) rfl rfl (r_fieldAddr fo25_1 f53 rfl) rfl ?_
      refine Ro.q rfl rfl (r_load1 t1_3 rfl (H.cells 1 rfl) (j := 1) rfl rfl) rfl ?_
      refine Ro.q rfl rfl (r_add rfl rfl (by constructor <;> omega)) rfl ?_
      refine Ro.q (v := (p b46 1)) rfl rfl (r_fieldAddr fo25_1 f54 rfl) rfl ?_
      refine Ro.q rfl rfl (r_load1 t1_3 rfl (H.cells 0 rfl) (j := 1) rfl rfl) rfl ?_
      refine Ro.q rfl rfl (r_add rfl rfl (by constructor <;> omega)) rfl ?_
      refine Ro.q (v := (.agg #[(i ((((x.shown - (d.sq * x.deep)) - x.err) + (stemP d.k x.bare x.shown x.ahi)) + lo2)), (i ((((x.shown - (d.sq * x.deep)) + x.err) + (stemP d.k x.bare x.shown x.alo)) + hi2))])) rfl rfl (r_build (v := (.agg #[(i ((((x.shown - (d.sq * x.deep)) - x.err) + (stemP d.k x.bare x.shown x.ahi)) + lo2)), (i ((((x.shown - (d.sq * x.deep)) + x.err) + (stemP d.k x.bare x.shown x.alo)) + hi2))])) (pe (v := (i ((((x.shown - (d.sq * x.deep)) - x.err) + (stemP d.k x.bare x.shown x.ahi)) + lo2))) rfl (pe (v := (i ((((x.shown - (d.sq * x.deep)) + x.err) + (stemP d.k x.bare x.shown x.alo)) + hi2))) rfl pn)) (fun w => by kernel_rfl)) rfl ?_
      refine Ro.d0 rfl rfl rfl (H.store (j := 2) (off := 0) (k := 2) rfl sz25 f52 (v := (.agg #[(i ((((x.shown - (d.sq * x.deep)) - x.err) + (stemP d.k x.bare x.shown x.ahi)) + lo2)), (i ((((x.shown - (d.sq * x.deep)) + x.err) + (stemP d.k x.bare x.shown x.alo)) + hi2))])) rfl rfl rfl rfl rfl (by simp [Value.oneCell']) (cs' := [i ((((x.shown - (d.sq * x.deep)) - x.err) + (stemP d.k x.bare x.shown x.ahi)) + lo2), i ((((x.shown - (d.sq * x.deep)) + x.err) + (stemP d.k x.bare x.shown x.alo)) + hi2)]) rfl ?_)
      intro w65 Hn; replace H : S Nm w [(b46, .cells [i lo2, i hi2].toArray 25 (0, 0)), (b5, .cells [i (stemP d.k x.bare x.shown x.ahi), i (stemP d.k x.bare x.shown x.alo)].toArray 25 (0, 0)), (b3, .cells [i ((((x.shown - (d.sq * x.deep)) - x.err) + (stemP d.k x.bare x.shown x.ahi)) + lo2), i ((((x.shown - (d.sq * x.deep)) + x.err) + (stemP d.k x.bare x.shown x.alo)) + hi2)].toArray 25 (0, 0)), (b1, .cells (rdC x).toArray 33 (0, 0))] w65 := Hn; clear Hn
      refine Ro.nil (nT ?_)
      refine Wp.ret (bodyR ?_)
      refine leave_cell (vs := [i ((((x.shown - (d.sq * x.deep)) - x.err) + (stemP d.k x.bare x.shown x.ahi)) + lo2), i ((((x.shown - (d.sq * x.deep)) + x.err) + (stemP d.k x.bare x.shown x.alo)) + hi2)]) Tryz.results73 f52 ta25 (H.cells 2 rfl) rfl ⟨H.keep, ?_⟩
      rw [hR.1, hR.2]; rfl
set_option maxHeartbeats 2000000 in
set_option maxRecDepth 100000 in
theorem c90 {t : Tb} {ab ad : Option Addr} {cab cad : Nat} {x : Rdg} (w : World) (htb : TbR t) (hrd : RdR x) : Rv Tryz.prog 90 [(.agg (tbC t ab cab ad cad).toArray), (.agg (rdC x).toArray)] w (.agg #[i (wr t x).lo, i (wr t x).hi]) := by
  refine Ret.body (N := 54) Tryz.func90 rfl Tryz.ntmps90 rfl ?_
  have H := S.start Nm w
  refine Wp.seq ?_
  refine Wp.region ?_
  refine Ro.d rfl rfl rfl (H.box (l := (tbC t ab cab ad cad)) rfl (v := (.agg (tbC t ab cab ad cad).toArray)) rfl rfl ?_)
  intro b1 w2 Hn; replace H := Hn; clear Hn
  refine Ro.d rfl rfl rfl (H.box (l := (rdC x)) rfl (v := (.agg (rdC x).toArray)) rfl rfl ?_)
  intro b3 w4 Hn; replace H := Hn; clear Hn
  refine Ro.d rfl rfl rfl (H.new (l := [i 0, i 0]) rfl zv25 rfl ?_)
  intro b5 w6 Hn; replace H := Hn; clear Hn
  refine Ro.nil (nT ?_)
  refine Wp.seq ?_
  refine Wp.region ?_
  refine Ro.q (v := (.agg #[(i 1073741824), (i (-1073741824))])) rfl rfl (r_build (v := (.agg #[(i 1073741824), (i (-1073741824))])) (pe (v := (i 1073741824)) rfl (pe (v := (i (-1073741824))) rfl pn)) (fun w => by kernel_rfl)) rfl ?_
  refine Ro.d rfl rfl rfl (H.new (l := [i 0, i 0]) rfl zv25 rfl ?_)
  intro b7 w8 Hn; replace H := Hn; clear Hn
  refine Ro.d0 rfl rfl rfl (H.store (j := 0) (off := 0) (k := 2) rfl sz25 rfl (v := (.agg #[(i 1073741824), (i (-1073741824))])) rfl rfl rfl rfl rfl (by simp [Value.oneCell']) (cs' := [i 1073741824, i (-1073741824)]) rfl ?_)
  intro w9 Hn; replace H := Hn; clear Hn
  refine Ro.nil (nT ?_)
  refine Wp.seq ?_
  refine Wp.seq ?_
  refine Wp.region ?_
  refine Ro.q (v := (p b1 5)) rfl rfl (r_fieldAddr fo29_1 rfl rfl) rfl ?_
  refine Ro.q (v := (p b1 5)) rfl rfl (r_fieldAddr fo25_0 rfl rfl) rfl ?_
  refine Ro.q rfl rfl (r_load1 t1_3 rfl (H.cells 3 rfl) (j := 5) rfl rfl) rfl ?_
  refine Ro.q (v := (i t.klo)) rfl rfl (r_assign rfl) rfl ?_
  refine Ro.nil (nT ?_)
  refine Wp.block ?_
  refine Wp.loop (fun kM ds ρ w' => ∃ k : Int, ∃ lo : Int, ∃ hi : Int, ds = [] ∧ (t.klo ≤ k ∧ k ≤ t.khi + 1) ∧ kM = (t.khi + 1 - k : Int).toNat ∧ ρ 2 = (p b1 0) ∧ ρ 3 = (p b3 0) ∧ ρ 4 = (p b5 0) ∧ ρ 5 = (p b7 0) ∧ ρ 6 = (i k) ∧ S Nm w [(b7, .cells [i lo, i hi].toArray 25 (0, 0)), (b5, .cells [i 0, i 0].toArray 25 (0, 0)), (b3, .cells (rdC x).toArray 33 (0, 0)), (b1, .cells (tbC t ab cab ad cad).toArray 29 (0, 0))] w' ∧ (HullK x (fun d => KdIn t d ∧ d.k < k) lo hi)) ((t.khi + 1 - t.klo : Int).toNat) ⟨t.klo, 1073741824, (-1073741824), rfl, (by omega), rfl, rfl, rfl, rfl, rfl, rfl, H, (.inl ⟨fun d hd => by have h1 := hd.1; have h2 := hd.2; unfold KdIn at h1; omega, rfl, rfl⟩)⟩ ?_
  clear H
  intro kρ15 dsρ15 ρ15 w16
  rintro ⟨k, lo, hi, rfl, hb18, hk17, f10, f11, f12, f13, f14, H, hi19⟩
  have hin := HullK.in hi19 hrd (fun d hd => hd.1.r htb)
  refine Wp.seq ?_
  refine Wp.seq ?_
  refine Wp.region ?_
  refine Ro.q (v := (i k)) rfl rfl (r_move f14) rfl ?_
  refine Ro.q (v := (p b1 5)) rfl rfl (r_fieldAddr fo29_1 f10 rfl) rfl ?_
  refine Ro.q (v := (p b1 6)) rfl rfl (r_fieldAddr fo25_1 rfl rfl) rfl ?_
  refine Ro.q rfl rfl (r_load1 t1_3 rfl (H.cells 3 rfl) (j := 6) rfl rfl) rfl ?_
  refine Ro.q rfl rfl (r_leq rfl rfl) rfl ?_
  refine Ro.nil (nT ?_)
  refine Wp.cond (t := decide (k ≤ t.khi)) rfl ?_ ?_
  · intro c20
    have c20r := c20
    simp only [bx] at c20
    refine Wp.skip (nT ?_)
    refine Wp.seq ?_
    refine Wp.block ?_
    refine Wp.seq ?_
    refine Wp.region ?_
    refine Ro.q (v := (p b1 7)) rfl rfl (r_fieldAddr fo29_2 f10 rfl) rfl ?_
    refine Ro.q (v := (p b1 7)) rfl rfl (r_fieldAddr fo25_0 rfl rfl) rfl ?_
    refine Ro.q rfl rfl (r_load1 t1_3 rfl (H.cells 3 rfl) (j := 7) rfl rfl) rfl ?_
    refine Ro.q (v := (i t.llo)) rfl rfl (r_assign rfl) rfl ?_
    refine Ro.nil (nT ?_)
    refine Wp.block ?_
    refine Wp.loop (fun kM ds ρ w' => ∃ g : Int, ∃ lo : Int, ∃ hi : Int, ds = [] ∧ (t.llo ≤ g ∧ g ≤ t.lhi + 1) ∧ kM = (t.lhi + 1 - g : Int).toNat ∧ ρ 2 = (p b1 0) ∧ ρ 3 = (p b3 0) ∧ ρ 4 = (p b5 0) ∧ ρ 5 = (p b7 0) ∧ ρ 6 = (i k) ∧ ρ 14 = (i k) ∧ ρ 15 = (p b1 5) ∧ ρ 16 = (p b1 6) ∧ ρ 17 = (i t.khi) ∧ ρ 18 = (.bool (decide (k ≤ t.khi))) ∧ ρ 21 = (p b1 7) ∧ ρ 22 = (p b1 7) ∧ ρ 23 = (i t.llo) ∧ ρ 7 = (i g) ∧ S Nm w [(b7, .cells [i lo, i hi].toArray 25 (0, 0)), (b5, .cells [i 0, i 0].toArray 25 (0, 0)), (b3, .cells (rdC x).toArray 33 (0, 0)), (b1, .cells (tbC t ab cab ad cad).toArray 29 (0, 0))] w' ∧ (HullK x (fun d => KdIn t d ∧ (d.k < k ∨ (d.k = k ∧ d.lag < g))) lo hi)) ((t.lhi + 1 - t.llo : Int).toNat) ⟨t.llo, lo, hi, rfl, (by omega), rfl, f10, f11, f12, f13, f14, rfl, rfl, rfl, rfl, rfl, rfl, rfl, rfl, rfl, H, (hi19.congr fun d => by unfold KdIn; omega)⟩ ?_
    clear H
    intro kρ35 dsρ35 ρ35 w36
    rintro ⟨g, lo, hi, rfl, hb38, hk37, f21, f22, f23, f24, f25, f26, f27, f28, f29, f30, f31, f32, f33, f34, H, hi39⟩
    have hin := HullK.in hi39 hrd (fun d hd => hd.1.r htb)
    refine Wp.seq ?_
    refine Wp.seq ?_
    refine Wp.region ?_
    refine Ro.q (v := (i g)) rfl rfl (r_move f34) rfl ?_
    refine Ro.q (v := (p b1 7)) rfl rfl (r_fieldAddr fo29_2 f21 rfl) rfl ?_
    refine Ro.q (v := (p b1 8)) rfl rfl (r_fieldAddr fo25_1 rfl rfl) rfl ?_
    refine Ro.q rfl rfl (r_load1 t1_3 rfl (H.cells 3 rfl) (j := 8) rfl rfl) rfl ?_
    refine Ro.q rfl rfl (r_leq rfl rfl) rfl ?_
    refine Ro.nil (nT ?_)
    refine Wp.cond (t := decide (g ≤ t.lhi)) rfl ?_ ?_
    · intro c40
      have c40r := c40
      simp only [bx] at c40
      refine Wp.skip (nT ?_)
      refine Wp.seq ?_
      refine Wp.block ?_
      refine Wp.seq ?_
      refine Wp.region ?_
      refine Ro.q (v := (p b1 9)) rfl rfl (r_fieldAddr fo29_3 f21 rfl) rfl ?_
      refine Ro.q (v := (p b1 9)) rfl rfl (r_fieldAddr fo25_0 rfl rfl) rfl ?_
      refine Ro.q rfl rfl (r_load1 t1_3 rfl (H.cells 3 rfl) (j := 9) rfl rfl) rfl ?_
      refine Ro.q (v := (i t.slo)) rfl rfl (r_assign rfl) rfl ?_
      refine Ro.nil (nT ?_)
      refine Wp.block ?_
      refine Wp.loop (fun kM ds ρ w' => ∃ q : Int, ∃ lo : Int, ∃ hi : Int, ds = [] ∧ (t.slo ≤ q ∧ q ≤ t.shi + 1) ∧ kM = (t.shi + 1 - q : Int).toNat ∧ ρ 2 = (p b1 0) ∧ ρ 3 = (p b3 0) ∧ ρ 4 = (p b5 0) ∧ ρ 5 = (p b7 0) ∧ ρ 6 = (i k) ∧ ρ 7 = (i g) ∧ ρ 14 = (i k) ∧ ρ 15 = (p b1 5) ∧ ρ 16 = (p b1 6) ∧ ρ 17 = (i t.khi) ∧ ρ 18 = (.bool (decide (k ≤ t.khi))) ∧ ρ 21 = (p b1 7) ∧ ρ 22 = (p b1 7) ∧ ρ 23 = (i t.llo) ∧ ρ 24 = (i g) ∧ ρ 25 = (p b1 7) ∧ ρ 26 = (p b1 8) ∧ ρ 27 = (i t.lhi) ∧ ρ 28 = (.bool (decide (g ≤ t.lhi))) ∧ ρ 31 = (p b1 9) ∧ ρ 32 = (p b1 9) ∧ ρ 33 = (i t.slo) ∧ ρ 8 = (i q) ∧ S Nm w [(b7, .cells [i lo, i hi].toArray 25 (0, 0)), (b5, .cells [i 0, i 0].toArray 25 (0, 0)), (b3, .cells (rdC x).toArray 33 (0, 0)), (b1, .cells (tbC t ab cab ad cad).toArray 29 (0, 0))] w' ∧ (HullK x (fun d => KdIn t d ∧ (d.k < k ∨ (d.k = k ∧ (d.lag < g ∨ (d.lag = g ∧ d.sq < q))))) lo hi)) ((t.shi + 1 - t.slo : Int).toNat) ⟨t.slo, lo, hi, rfl, (by omega), rfl, f21, f22, f23, f24, f25, f34, f26, f27, f28, f29, f30, f31, f32, f33, rfl, rfl, rfl, rfl, rfl, rfl, rfl, rfl, rfl, H, (hi39.congr fun d => by unfold KdIn; omega)⟩ ?_
      clear H
      intro kρ64 dsρ64 ρ64 w65
      rintro ⟨q, lo, hi, rfl, hb67, hk66, f41, f42, f43, f44, f45, f46, f47, f48, f49, f50, f51, f52, f53, f54, f55, f56, f57, f58, f59, f60, f61, f62, f63, H, hi68⟩
      have hin := HullK.in hi68 hrd (fun d hd => hd.1.r htb)
      refine Wp.seq ?_
      refine Wp.seq ?_
      refine Wp.region ?_
      refine Ro.q (v := (i q)) rfl rfl (r_move f63) rfl ?_
      refine Ro.q (v := (p b1 9)) rfl rfl (r_fieldAddr fo29_3 f41 rfl) rfl ?_
      refine Ro.q (v := (p b1 10)) rfl rfl (r_fieldAddr fo25_1 rfl rfl) rfl ?_
      refine Ro.q rfl rfl (r_load1 t1_3 rfl (H.cells 3 rfl) (j := 10) rfl rfl) rfl ?_
      refine Ro.q rfl rfl (r_leq rfl rfl) rfl ?_
      refine Ro.nil (nT ?_)
      refine Wp.cond (t := decide (q ≤ t.shi)) rfl ?_ ?_
      · intro c69
        have c69r := c69
        simp only [bx] at c69
        have hkin : KdIn t ⟨k, g, q⟩ := by unfold KdIn; simp only; omega
        have hdk : KdR ⟨k, g, q⟩ := hkin.r htb
        have hbi := bareR_in (x := x) hrd hdk
        refine Wp.skip (nT ?_)
        refine Wp.seq ?_
        refine Wp.block ?_
        refine Wp.seq ?_
        refine Wp.region ?_
        refine Ro.q rfl rfl (r_load ta33 f42 (H.cells 2 rfl) (j := 0) rfl (vs := (rdC x)) rfl rfl) rfl ?_
        refine Ro.q (v := (i k)) rfl rfl (r_move f45) rfl ?_
        refine Ro.q (v := (i g)) rfl rfl (r_move f46) rfl ?_
        refine Ro.q (v := (i q)) rfl rfl (r_move f63) rfl ?_
        refine Ro.d rfl rfl rfl (d_call rfl en73 (ce (v := (.agg (rdC x).toArray)) rfl (ce (v := (i k)) rfl (ce (v := (i g)) rfl (ce (v := (i q)) rfl cn)))) (c73 (x := x) (d := ⟨k, g, q⟩) _ hrd hdk) ?_)
        intro u w70 k71 hu; subst hu; replace H := H.ext k71
        clear k71
        refine Ro.d rfl rfl rfl (H.new (l := [i 0, i 0]) rfl zv25 rfl ?_)
        intro b72 w73 Hn; replace H := Hn; clear Hn
        refine Ro.d0 rfl rfl rfl (H.store (j := 0) (off := 0) (k := 2) rfl sz25 rfl (v := (.agg #[(i ((bareR x ⟨k, g, q⟩).lo)), (i ((bareR x ⟨k, g, q⟩).hi))])) rfl rfl rfl rfl rfl (by simp [Value.oneCell']) (cs' := [i ((bareR x ⟨k, g, q⟩).lo), i ((bareR x ⟨k, g, q⟩).hi)]) rfl ?_)
        intro w74 Hn; replace H := Hn; clear Hn
        refine Ro.nil (nT ?_)
        refine Wp.drawnS 6 [0, 0, 2, 7, 0, 16, 63, 127] [is (.agg #[(i lo), (i hi)]), is (p b72 0), is (i ((bareR x ⟨k, g, q⟩).lo)), is (.agg #[(i (min lo ((bareR x ⟨k, g, q⟩).lo))), (i (max hi ((bareR x ⟨k, g, q⟩).lo)))]), is (p b72 1), is (i ((bareR x ⟨k, g, q⟩).hi))] (by kernel_rfl) (by kernel_rfl) rfl (Mi (Mi (Mi (Mi (Mi (Mi Mono.nil)))))) (fun w' k => H.ext k) ?_ ?_
        · refine ⟨?_, ⟨?_, ⟨?_, ⟨?_, ⟨?_, ⟨?_, trivial⟩⟩⟩⟩⟩⟩
          · exact Ob.q rfl (fun _ _ B U D => (r_load ta25 ((U 5 rfl).trans f44) (B.cells 1 rfl) (j := 0) rfl (vs := [i lo, i hi]) rfl rfl)) rfl rfl
          · exact Ob.q rfl (fun _ _ B U D => (r_fieldAddr fo25_0 (show (_ : Value) = (p b72 0) from U 9 rfl) rfl)) rfl rfl
          · exact Ob.q rfl (fun _ _ B U D => (r_load1 t1_3 (D 1 rfl) (B.cells 0 rfl) (j := 0) rfl rfl)) rfl rfl
          · exact Ob.mk rfl fun ρ' w' B U D => d_call rfl en75 (ce (v := (.agg #[(i lo), (i hi)])) (D 0 rfl) (ce (v := (i ((bareR x ⟨k, g, q⟩).lo))) (D 2 rfl) cn)) (c75 lo hi ((bareR x ⟨k, g, q⟩).lo) _ ) (fun u w2 k2 hu => ⟨k2, hu⟩)
          · exact Ob.q rfl (fun _ _ B U D => (r_fieldAddr fo25_1 (show (_ : Value) = (p b72 0) from U 9 rfl) rfl)) rfl rfl
          · exact Ob.q rfl (fun _ _ B U D => (r_load1 t1_3 (D 4 rfl) (B.cells 0 rfl) (j := 1) rfl rfl)) rfl rfl
        intro ρ75 w76 k77 U78 D79; replace H := H.ext k77
        have f80 := (U78 2 rfl).trans f41
        have f81 := (U78 3 rfl).trans f42
        have f82 := (U78 4 rfl).trans f43
        have f83 := (U78 5 rfl).trans f44
        have f84 := (U78 6 rfl).trans f45
        have f85 := (U78 7 rfl).trans f46
        have f86 := (U78 8 rfl).trans f63
        have f87 : ρ75 9 = (p b72 0) := U78 9 rfl
        have f88 := (U78 14 rfl).trans f47
        have f89 := (U78 15 rfl).trans f48
        have f90 := (U78 16 rfl).trans f49
        have f91 := (U78 17 rfl).trans f50
        have f92 := (U78 18 rfl).trans f51
        have f93 := (U78 21 rfl).trans f52
        have f94 := (U78 22 rfl).trans f53
        have f95 := (U78 23 rfl).trans f54
        have f96 := (U78 24 rfl).trans f55
        have f97 := (U78 25 rfl).trans f56
        have f98 := (U78 26 rfl).trans f57
        have f99 := (U78 27 rfl).trans f58
        have f100 := (U78 28 rfl).trans f59
        have f101 := (U78 31 rfl).trans f60
        have f102 := (U78 32 rfl).trans f61
        have f103 := (U78 33 rfl).trans f62
        have f104 : ρ75 34 = (i q) := U78 34 rfl
        have f105 : ρ75 35 = (p b1 9) := U78 35 rfl
        have f106 : ρ75 36 = (p b1 10) := U78 36 rfl
        have f107 : ρ75 37 = (i t.shi) := U78 37 rfl
        have f108 : ρ75 38 = (.bool (decide (q ≤ t.shi))) := U78 38 rfl
        have f109 : ρ75 41 = (.agg (rdC x).toArray) := U78 41 rfl
        have f110 : ρ75 42 = (i k) := U78 42 rfl
        have f111 : ρ75 43 = (i g) := U78 43 rfl
        have f112 : ρ75 44 = (i q) := U78 44 rfl
        have f113 : ρ75 45 = (.agg #[(i ((bareR x ⟨k, g, q⟩).lo)), (i ((bareR x ⟨k, g, q⟩).hi))]) := U78 45 rfl
        have f114 : ρ75 46 = (.agg #[(i lo), (i hi)]) := D79 0 rfl
        have f115 : ρ75 47 = (p b72 0) := D79 1 rfl
        have f116 : ρ75 48 = (i ((bareR x ⟨k, g, q⟩).lo)) := D79 2 rfl
        have f117 : ρ75 49 = (.agg #[(i (min lo ((bareR x ⟨k, g, q⟩).lo))), (i (max hi ((bareR x ⟨k, g, q⟩).lo)))]) := D79 3 rfl
        have f118 : ρ75 50 = (p b72 1) := D79 4 rfl
        have f119 : ρ75 51 = (i ((bareR x ⟨k, g, q⟩).hi)) := D79 5 rfl
        clear U78 D79 k77
        refine Ro.d rfl rfl rfl (d_call rfl en75 (ce (v := (.agg #[(i (min lo ((bareR x ⟨k, g, q⟩).lo))), (i (max hi ((bareR x ⟨k, g, q⟩).lo)))])) f117 (ce (v := (i ((bareR x ⟨k, g, q⟩).hi))) f119 cn)) (c75 (min lo ((bareR x ⟨k, g, q⟩).lo)) (max hi ((bareR x ⟨k, g, q⟩).lo)) ((bareR x ⟨k, g, q⟩).hi) _ ) ?_)
        intro u w120 k121 hu; subst hu; replace H := H.ext k121
        clear k121
        refine Ro.d0 rfl rfl rfl (H.store (j := 1) (off := 0) (k := 2) rfl sz25 f83 (v := (.agg #[(i (min (min lo ((bareR x ⟨k, g, q⟩).lo)) ((bareR x ⟨k, g, q⟩).hi))), (i (max (max hi ((bareR x ⟨k, g, q⟩).lo)) ((bareR x ⟨k, g, q⟩).hi)))])) rfl rfl rfl rfl rfl (by simp [Value.oneCell']) (cs' := [i (min (min lo ((bareR x ⟨k, g, q⟩).lo)) ((bareR x ⟨k, g, q⟩).hi)), i (max (max hi ((bareR x ⟨k, g, q⟩).lo)) ((bareR x ⟨k, g, q⟩).hi))]) rfl ?_)
        intro w122 Hn; replace H : S Nm w [(b72, .cells [i ((bareR x ⟨k, g, q⟩).lo), i ((bareR x ⟨k, g, q⟩).hi)].toArray 25 (0, 0)), (b7, .cells [i (min (min lo ((bareR x ⟨k, g, q⟩).lo)) ((bareR x ⟨k, g, q⟩).hi)), i (max (max hi ((bareR x ⟨k, g, q⟩).lo)) ((bareR x ⟨k, g, q⟩).hi))].toArray 25 (0, 0)), (b5, .cells [i 0, i 0].toArray 25 (0, 0)), (b3, .cells (rdC x).toArray 33 (0, 0)), (b1, .cells (tbC t ab cab ad cad).toArray 29 (0, 0))] w122 := Hn; clear Hn
        refine Ro.nil (nB (nT ?_))
        refine Wp.region ?_
        refine Ro.q (v := (i q)) rfl rfl (r_move f86) rfl ?_
        refine Ro.q rfl rfl (r_add rfl rfl (by constructor <;> omega)) rfl ?_
        refine Ro.q (v := (i (q + 1))) rfl rfl (r_assign rfl) rfl ?_
        refine Ro.nil (nT ?_)
        replace H := S.sublist (L' := [(b7, .cells [i (min (min lo ((bareR x ⟨k, g, q⟩).lo)) ((bareR x ⟨k, g, q⟩).hi)), i (max (max hi ((bareR x ⟨k, g, q⟩).lo)) ((bareR x ⟨k, g, q⟩).hi))].toArray 25 (0, 0)), (b5, .cells [i 0, i 0].toArray 25 (0, 0)), (b3, .cells (rdC x).toArray 33 (0, 0)), (b1, .cells (tbC t ab cab ad cad).toArray 29 (0, 0))]) H (.cons _ (.cons_cons _ (.cons_cons _ (.cons_cons _ (.cons_cons _ (List.Sublist.refl _))))))
        exact ⟨(t.shi + 1 - (q + 1) : Int).toNat, by omega, (q + 1), (min (min lo ((bareR x ⟨k, g, q⟩).lo)) ((bareR x ⟨k, g, q⟩).hi)), (max (max hi ((bareR x ⟨k, g, q⟩).lo)) ((bareR x ⟨k, g, q⟩).hi)), rfl, (by omega), rfl, f80, f81, f82, f83, f84, f85, f88, f89, f90, f91, f92, f93, f94, f95, f96, f97, f98, f99, f100, f101, f102, f103, rfl, H, (HullK.step hi68 hrd hdk (c := ⟨k, g, q⟩) (fun d => by rw [kd_eq]; unfold KdIn; omega) rfl rfl)⟩
      · intro c69
        have c69r := c69
        simp only [bx] at c69
        refine Wp.exit (xT (xT (xB (nB (nT ?_)))))
        refine Wp.region ?_
        refine Ro.q (v := (i g)) rfl rfl (r_move f46) rfl ?_
        refine Ro.q rfl rfl (r_add rfl rfl (by constructor <;> omega)) rfl ?_
        refine Ro.q (v := (i (g + 1))) rfl rfl (r_assign rfl) rfl ?_
        refine Ro.nil (nT ?_)
        replace H := S.sublist (L' := [(b7, .cells [i lo, i hi].toArray 25 (0, 0)), (b5, .cells [i 0, i 0].toArray 25 (0, 0)), (b3, .cells (rdC x).toArray 33 (0, 0)), (b1, .cells (tbC t ab cab ad cad).toArray 29 (0, 0))]) H (.cons_cons _ (.cons_cons _ (.cons_cons _ (.cons_cons _ (List.Sublist.refl _)))))
        exact ⟨(t.lhi + 1 - (g + 1) : Int).toNat, by omega, (g + 1), lo, hi, rfl, (by omega), rfl, f41, f42, f43, f44, f45, f47, f48, f49, f50, f51, f52, f53, f54, rfl, H, (hi68.congr fun d => by unfold KdIn; omega)⟩
    · intro c40
      have c40r := c40
      simp only [bx] at c40
      refine Wp.exit (xT (xT (xB (nB (nT ?_)))))
      refine Wp.region ?_
      refine Ro.q (v := (i k)) rfl rfl (r_move f25) rfl ?_
      refine Ro.q rfl rfl (r_add rfl rfl (by constructor <;> omega)) rfl ?_
      refine Ro.q (v := (i (k + 1))) rfl rfl (r_assign rfl) rfl ?_
      refine Ro.nil (nT ?_)
      replace H := S.sublist (L' := [(b7, .cells [i lo, i hi].toArray 25 (0, 0)), (b5, .cells [i 0, i 0].toArray 25 (0, 0)), (b3, .cells (rdC x).toArray 33 (0, 0)), (b1, .cells (tbC t ab cab ad cad).toArray 29 (0, 0))]) H (.cons_cons _ (.cons_cons _ (.cons_cons _ (.cons_cons _ (List.Sublist.refl _)))))
      exact ⟨(t.khi + 1 - (k + 1) : Int).toNat, by omega, (k + 1), lo, hi, rfl, (by omega), rfl, f21, f22, f23, f24, rfl, H, (hi39.congr fun d => by unfold KdIn; omega)⟩
  · intro c20
    have c20r := c20
    simp only [bx] at c20
    refine Wp.exit (xT (xT (xB (nT ?_))))
    refine Wp.seq ?_
    refine Wp.region ?_
    refine Ro.q rfl rfl (r_load ta25 f13 (H.cells 0 rfl) (j := 0) rfl (vs := [i lo, i hi]) rfl rfl) rfl ?_
    refine Ro.d0 rfl rfl rfl (H.store (j := 1) (off := 0) (k := 2) rfl sz25 f12 (v := (.agg #[(i lo), (i hi)])) rfl rfl rfl rfl rfl (by simp [Value.oneCell']) (cs' := [i lo, i hi]) rfl ?_)
    intro w123 Hn; replace H := Hn; clear Hn
    refine Ro.nil (nT ?_)
    refine Wp.ret (bodyR ?_)
    refine leave_cell (vs := [i lo, i hi]) Tryz.results90 f12 ta25 (H.cells 1 rfl) rfl ⟨H.keep, ?_⟩
    have hw := HullK.wr (hi19.congr (V' := KdIn t) fun d => by unfold KdIn; omega) htb hrd
    rw [hw]
end Go.Proofs.YthfnjppieihcfaaGreat
namespace Go.Proofs.YthfnjppieihcfaaGreat
open Go.RowKit Go.Proofs Go.Mw
theorem en15 : Go.Proofs.Enters Tryz.prog 15 := Go.Proofs.enters_of Tryz.func15 (by kernel_rfl) rfl
theorem en16 : Go.Proofs.Enters Tryz.prog 16 := Go.Proofs.enters_of Tryz.func16 (by kernel_rfl) rfl
theorem en18 : Go.Proofs.Enters Tryz.prog 18 := Go.Proofs.enters_of Tryz.func18 (by kernel_rfl) rfl
theorem en21 : Go.Proofs.Enters Tryz.prog 21 := Go.Proofs.enters_of Tryz.func21 (by kernel_rfl) rfl
theorem en33 : Go.Proofs.Enters Tryz.prog 33 := Go.Proofs.enters_of Tryz.func33 (by kernel_rfl) rfl
theorem en50 : Go.Proofs.Enters Tryz.prog 50 := Go.Proofs.enters_of Tryz.func50 (by kernel_rfl) rfl
theorem en51 : Go.Proofs.Enters Tryz.prog 51 := Go.Proofs.enters_of Tryz.func51 (by kernel_rfl) rfl
theorem en52 : Go.Proofs.Enters Tryz.prog 52 := Go.Proofs.enters_of Tryz.func52 (by kernel_rfl) rfl
theorem en90 : Go.Proofs.Enters Tryz.prog 90 := Go.Proofs.enters_of Tryz.func90 (by kernel_rfl) rfl
theorem sz91 : ∀ w, (sizeOf 91).run Tryz.prog w = .ok 3 w := fun _ => by kernel_rfl
theorem zv91 : ZV Tryz.prog 91 (.agg #[(i 0), (i 0), (i 0)]) := Tryz.zeroValue91
open Men
noncomputable def refI (t : Tb) (x : Rdg) : Ice := bif decide (0 ≤ iceN t x) then ⟨x.day, max ((wr t x).hi - iceN t x) (-2000), iceN t x⟩ else ⟨0, 0, 0⟩
theorem refI_yes {t : Tb} {x : Rdg} {n z : Int} (h : iceN t x = n) (h0 : 0 ≤ n) (hz : z = max ((wr t x).hi - n) (-2000)) : refI t x = ⟨x.day, z, n⟩ := by unfold refI; rw [h, decide_eq_true h0, hz]; rfl
theorem refI_no {t : Tb} {x : Rdg} (h : iceN t x = -1) : refI t x = ⟨0, 0, 0⟩ := by unfold refI; rw [h]; rfl
set_option maxRecDepth 100000 in
theorem c52 {t : Tb} {ab ad : Option Addr} {cab cad : Nat} {x : Rdg} (w : World) (htb : TbR t) (hrd : RdR x) : Rv Tryz.prog 52 [(.agg (tbC t ab cab ad cad).toArray), (.agg (rdC x).toArray)] w (.tuple #[.agg #[i (refI t x).day, i (refI t x).zero, i (refI t x).err], .bool (decide (0 ≤ iceN t x))]) := by
  have hwi := wr_in htb hrd
  refine Ret.body (N := 40) Tryz.func52 rfl Tryz.ntmps52 rfl ?_
  have H := S.start Nm w
  refine Wp.seq ?_
  refine Wp.region ?_
  refine Ro.d rfl rfl rfl (H.box (l := (tbC t ab cab ad cad)) rfl (v := (.agg (tbC t ab cab ad cad).toArray)) rfl rfl ?_)
  intro b1 w2 Hn; replace H := Hn; clear Hn
  refine Ro.d rfl rfl rfl (H.box (l := (rdC x)) rfl (v := (.agg (rdC x).toArray)) rfl rfl ?_)
  intro b3 w4 Hn; replace H := Hn; clear Hn
  refine Ro.d rfl rfl rfl (H.new (l := [i 0, i 0, i 0]) rfl zv91 rfl ?_)
  intro b5 w6 Hn; replace H := Hn; clear Hn
  refine Ro.q (v := (.bool false)) rfl rfl (r_assign rfl) rfl ?_
  refine Ro.nil (nT ?_)
  refine Wp.seq ?_
  refine Wp.region ?_
  refine Ro.q rfl rfl (r_load ta29 rfl (H.cells 2 rfl) (j := 0) rfl (vs := (tbC t ab cab ad cad)) rfl rfl) rfl ?_
  refine Ro.q rfl rfl (r_load ta33 rfl (H.cells 1 rfl) (j := 0) rfl (vs := (rdC x)) rfl rfl) rfl ?_
  refine Ro.d rfl rfl rfl (d_call rfl en90 (ce (v := (.agg (tbC t ab cab ad cad).toArray)) rfl (ce (v := (.agg (rdC x).toArray)) rfl cn)) (c90 (t := t) (x := x) _ htb hrd) ?_)
  intro u w7 k8 hu; subst hu; replace H := H.ext k8
  clear k8
  refine Ro.d rfl rfl rfl (H.new (l := [i 0, i 0]) rfl zv25 rfl ?_)
  intro b9 w10 Hn; replace H := Hn; clear Hn
  refine Ro.d0 rfl rfl rfl (H.store (j := 0) (off := 0) (k := 2) rfl sz25 rfl (v := (.agg #[(i ((wr t x).lo)), (i ((wr t x).hi))])) rfl rfl rfl rfl rfl (by simp [Value.oneCell']) (cs' := [i ((wr t x).lo), i ((wr t x).hi)]) rfl ?_)
  intro w11 Hn; replace H := Hn; clear Hn
  refine Ro.nil (nT ?_)
  refine Wp.seq ?_
  refine Wp.seq ?_
  refine Wp.region ?_
  refine Ro.q (v := (i 0)) rfl rfl (r_assign rfl) rfl ?_
  refine Ro.nil (nT ?_)
  refine Wp.block ?_
  refine Wp.loop (fun kM ds ρ w' => ∃ n : Int, ds = [] ∧ (0 ≤ n ∧ n ≤ 21) ∧ kM = (21 - n : Int).toNat ∧ ρ 3 = (p b3 0) ∧ ρ 4 = (p b5 0) ∧ ρ 6 = (p b9 0) ∧ ρ 7 = (i n) ∧ S Nm w [(b9, .cells [i ((wr t x).lo), i ((wr t x).hi)].toArray 25 (0, 0)), (b5, .cells [i 0, i 0, i 0].toArray 91 (0, 0)), (b3, .cells (rdC x).toArray 33 (0, 0)), (b1, .cells (tbC t ab cab ad cad).toArray 29 (0, 0))] w' ∧ (iceN t x = firstN (iceAt (wr t x)) (21 - n).toNat n)) ((21 - 0 : Int).toNat) ⟨0, rfl, (by omega), rfl, rfl, rfl, rfl, rfl, H, rfl⟩ ?_
  clear H
  intro kρ16 dsρ16 ρ16 w17
  rintro ⟨n, rfl, hb19, hk18, f12, f13, f14, f15, H, hi20⟩
  refine Wp.seq ?_
  refine Wp.seq ?_
  refine Wp.region ?_
  refine Ro.q (v := (i n)) rfl rfl (r_move f15) rfl ?_
  refine Ro.q rfl rfl (r_leq rfl rfl) rfl ?_
  refine Ro.nil (nT ?_)
  refine Wp.cond (t := decide (n ≤ 20)) rfl ?_ ?_
  · intro c21
    have c21r := c21
    simp only [bx] at c21
    refine Wp.skip (nT ?_)
    refine Wp.seq ?_
    refine Wp.block ?_
    refine Wp.seq ?_
    refine Wp.region ?_
    refine Ro.q (v := (i (-2000))) rfl rfl (r_assign rfl) rfl ?_
    refine Ro.nil (nT ?_)
    refine Wp.block ?_
    refine Wp.loop (fun kM ds ρ w' => ∃ z : Int, ds = [] ∧ (-2000 ≤ z ∧ z ≤ 2001) ∧ kM = (2001 - z : Int).toNat ∧ ρ 3 = (p b3 0) ∧ ρ 4 = (p b5 0) ∧ ρ 6 = (p b9 0) ∧ ρ 7 = (i n) ∧ ρ 12 = (i n) ∧ ρ 13 = (.bool (decide (n ≤ 20))) ∧ ρ 8 = (i z) ∧ S Nm w [(b9, .cells [i ((wr t x).lo), i ((wr t x).hi)].toArray 25 (0, 0)), (b5, .cells [i 0, i 0, i 0].toArray 91 (0, 0)), (b3, .cells (rdC x).toArray 33 (0, 0)), (b1, .cells (tbC t ab cab ad cad).toArray 29 (0, 0))] w' ∧ (∀ y, -2000 ≤ y → y < z → ¬ (y - n ≤ (wr t x).lo ∧ (wr t x).hi ≤ y + n))) ((2001 - (-2000) : Int).toNat) ⟨(-2000), rfl, (by omega), rfl, f12, f13, f14, f15, rfl, rfl, rfl, H, (fun y h1 h2 => by omega)⟩ ?_
    clear H
    intro kρ29 dsρ29 ρ29 w30
    rintro ⟨z, rfl, hb32, hk31, f22, f23, f24, f25, f26, f27, f28, H, hi33⟩
    refine Wp.seq ?_
    refine Wp.seq ?_
    refine Wp.region ?_
    refine Ro.q (v := (i z)) rfl rfl (r_move f28) rfl ?_
    refine Ro.q rfl rfl (r_leq rfl rfl) rfl ?_
    refine Ro.nil (nT ?_)
    refine Wp.cond (t := decide (z ≤ 2000)) rfl ?_ ?_
    · intro c34
      have c34r := c34
      simp only [bx] at c34
      refine Wp.skip (nT ?_)
      refine Wp.seq ?_
      refine Wp.block ?_
      refine Wp.seq ?_
      let qq35 : Bool := decide ((z - n) ≤ ((wr t x).lo))
      let qq36 : Bool := decide (((wr t x).hi) ≤ (z + n))
      let qq37 : Bool := (qq35 && qq36)
      refine Wp.factsS 14 [is (i z), is (i n), is (i (z - n)), is (p b9 0), is (i ((wr t x).lo)), is (.bool qq35), is (.bool qq35), gdv (True ∧ qq35 = true) (i z), gdv (True ∧ qq35 = true) (i n), gdv (True ∧ qq35 = true) (i (z + n)), gdv (True ∧ qq35 = true) (p b9 1), gdv (True ∧ qq35 = true) (i ((wr t x).hi)), gdv (True ∧ qq35 = true) (.bool qq36), is (.bool qq37)] (by kernel_rfl) (Mi (Mi (Mi (Mi (Mi (Mi (Mi (Mg (Mg (Mg (Mg (Mg (Mg (Mi Mono.nil)))))))))))))) (fun w' k => H.ext k) ?_ ?_
      · refine ⟨?_, ⟨?_, ⟨?_, ⟨?_, ⟨?_, ⟨?_, ⟨?_, ⟨?_, ⟨?_, ⟨?_, ⟨?_, ⟨?_, ⟨?_, ⟨?_, trivial⟩⟩⟩⟩⟩⟩⟩⟩⟩⟩⟩⟩⟩⟩
        · exact Ob.q rfl (fun _ _ B U D => (r_move ((U 8 rfl).trans f28))) rfl rfl
        · exact Ob.q rfl (fun _ _ B U D => (r_move ((U 7 rfl).trans f25))) rfl rfl
        · exact Ob.q rfl (fun _ _ B U D => (r_sub (D 0 rfl) (D 1 rfl) (by constructor <;> omega))) rfl rfl
        · exact Ob.q rfl (fun _ _ B U D => (r_fieldAddr fo25_0 ((U 6 rfl).trans f24) rfl)) rfl rfl
        · exact Ob.q rfl (fun _ _ B U D => (r_load1 t1_3 (D 3 rfl) (B.cells 0 rfl) (j := 0) rfl rfl)) rfl rfl
        · exact Ob.q rfl (fun _ _ B U D => (r_leq (D 2 rfl) (D 4 rfl))) rfl rfl
        · exact Ob.q rfl (fun _ _ B U D => (r_move (D 5 rfl))) rfl rfl
        · exact Ob.g0 rfl rfl (fun _ _ _ D => D 6 rfl) rfl (fun _ _ B U D hC hg => (r_move ((U 8 rfl).trans f28))) rfl
        · exact Ob.g0 rfl rfl (fun _ _ _ D => D 6 rfl) rfl (fun _ _ B U D hC hg => (r_move ((U 7 rfl).trans f25))) rfl
        · exact Ob.g0 rfl rfl (fun _ _ _ D => D 6 rfl) rfl (fun _ _ B U D hC hg => (r_add (gdy (D 7 rfl) ⟨hC, hg⟩) (gdy (D 8 rfl) ⟨hC, hg⟩) (by constructor <;> omega))) rfl
        · exact Ob.g0 rfl rfl (fun _ _ _ D => D 6 rfl) rfl (fun _ _ B U D hC hg => (r_fieldAddr fo25_1 ((U 6 rfl).trans f24) rfl)) rfl
        · exact Ob.g0 rfl rfl (fun _ _ _ D => D 6 rfl) rfl (fun _ _ B U D hC hg => (r_load1 t1_3 (gdy (D 10 rfl) ⟨hC, hg⟩) (B.cells 0 rfl) (j := 1) rfl rfl)) rfl
        · exact Ob.g0 rfl rfl (fun _ _ _ D => D 6 rfl) rfl (fun _ _ B U D hC hg => (r_geq (gdy (D 9 rfl) ⟨hC, hg⟩) (gdy (D 11 rfl) ⟨hC, hg⟩))) rfl
        · exact Ob.q rfl (fun _ _ B U D => (r_pick (v := (.bool qq37)) (D 6 rfl) (fun eP => (gdy (D 12 rfl) ⟨trivial, eP⟩).trans (and_t eP)) (fun eP => and_f eP))) rfl rfl
      intro ρ38 w39 k40 U41 D42; replace H := H.ext k40
      have f43 := (U41 3 rfl).trans f22
      have f44 := (U41 4 rfl).trans f23
      have f45 := (U41 6 rfl).trans f24
      have f46 := (U41 7 rfl).trans f25
      have f47 := (U41 8 rfl).trans f28
      have f48 := (U41 12 rfl).trans f26
      have f49 := (U41 13 rfl).trans f27
      have f50 : ρ38 16 = (i z) := U41 16 rfl
      have f51 : ρ38 17 = (.bool (decide (z ≤ 2000))) := U41 17 rfl
      have f52 : ρ38 20 = (i z) := D42 0 rfl
      have f53 : ρ38 21 = (i n) := D42 1 rfl
      have f54 : ρ38 22 = (i (z - n)) := D42 2 rfl
      have f55 : ρ38 23 = (p b9 0) := D42 3 rfl
      have f56 : ρ38 24 = (i ((wr t x).lo)) := D42 4 rfl
      have f57 : ρ38 25 = (.bool qq35) := D42 5 rfl
      have f58 : ρ38 26 = (.bool qq35) := D42 6 rfl
      have f59 : ρ38 33 = (.bool qq37) := D42 13 rfl
      clear U41 D42 k40
      refine Ro.nil (nT ?_)
      refine Wp.cond (t := qq37) f59 ?_ ?_
      · intro c60
        have c60r : (((decide ((z - n) ≤ ((wr t x).lo))) && (decide (((wr t x).hi) ≤ (z + n))))) = true := c60
        replace c60 := c60r
        simp only [bx] at c60
        refine Wp.seq ?_
        refine Wp.region ?_
        refine Ro.q (v := (p b3 0)) rfl rfl (r_fieldAddr fo33_0 f43 rfl) rfl ?_
        refine Ro.q rfl rfl (r_load1 t1_3 rfl (H.cells 2 rfl) (j := 0) rfl rfl) rfl ?_
        refine Ro.q (v := (i z)) rfl rfl (r_move f47) rfl ?_
        refine Ro.q (v := (i n)) rfl rfl (r_move f46) rfl ?_
        refine Ro.q (v := (.agg #[(i x.day), (i z), (i n)])) rfl rfl (r_build (v := (.agg #[(i x.day), (i z), (i n)])) (pe (v := (i x.day)) rfl (pe (v := (i z)) rfl (pe (v := (i n)) rfl pn))) (fun w => by kernel_rfl)) rfl ?_
        refine Ro.d0 rfl rfl rfl (H.store (j := 1) (off := 0) (k := 3) rfl sz91 f44 (v := (.agg #[(i x.day), (i z), (i n)])) rfl rfl rfl rfl rfl (by simp [Value.oneCell']) (cs' := [i x.day, i z, i n]) rfl ?_)
        intro w61 Hn; replace H := Hn; clear Hn
        refine Ro.q (v := (.bool true)) rfl rfl (r_assign rfl) rfl ?_
        refine Ro.nil (nT ?_)
        refine Wp.ret (rB (rT (rT (rB (rB (rT (rT (rB (rT (bodyR ?_))))))))))
        refine leave_cell_tmp (vs := [i x.day, i z, i n]) (v := (.bool true)) Tryz.results52 f44 ta91 (H.cells 1 rfl) rfl rfl ⟨H.keep, ?_⟩
        have hf := ice_found (by omega) hi33 c60
        have hn := (hi20).trans (firstN_yes (by omega) hf.1)
        rw [refI_yes hn (by omega) hf.2, hn, decide_eq_true (show (0 : Int) ≤ n by omega)]
      · intro c60
        have c60r : (((decide ((z - n) ≤ ((wr t x).lo))) && (decide (((wr t x).hi) ≤ (z + n))))) = false := c60
        replace c60 := c60r
        simp only [bx] at c60
        refine Wp.skip (nB (nT ?_))
        refine Wp.region ?_
        refine Ro.q (v := (i z)) rfl rfl (r_move f47) rfl ?_
        refine Ro.q rfl rfl (r_add rfl rfl (by constructor <;> omega)) rfl ?_
        refine Ro.q (v := (i (z + 1))) rfl rfl (r_assign rfl) rfl ?_
        refine Ro.nil (nT ?_)
        exact ⟨(2001 - (z + 1) : Int).toNat, by omega, (z + 1), rfl, (by omega), rfl, f43, f44, f45, f46, f48, f49, rfl, H, (fun y h1 h2 hs => by by_cases e : y = z; (subst e; have c := c60; omega); exact hi33 y h1 (by omega) hs)⟩
    · intro c34
      have c34r := c34
      simp only [bx] at c34
      refine Wp.exit (xT (xT (xB (nB (nT ?_)))))
      refine Wp.region ?_
      refine Ro.q (v := (i n)) rfl rfl (r_move f25) rfl ?_
      refine Ro.q rfl rfl (r_add rfl rfl (by constructor <;> omega)) rfl ?_
      refine Ro.q (v := (i (n + 1))) rfl rfl (r_assign rfl) rfl ?_
      refine Ro.nil (nT ?_)
      exact ⟨(21 - (n + 1) : Int).toNat, by omega, (n + 1), rfl, (by omega), rfl, f22, f23, f24, rfl, H, (by have h := (hi20).trans (firstN_no (by omega) (ice_none fun y h1 h2 => hi33 y h1 (by omega))); rw [show (21 - (n + 1)).toNat = (21 - n).toNat - 1 by omega]; exact h)⟩
  · intro c21
    have c21r := c21
    simp only [bx] at c21
    refine Wp.exit (xT (xT (xB (nT ?_))))
    refine Wp.seq ?_
    refine Wp.region ?_
    refine Ro.q (v := (.agg #[(i 0), (i 0), (i 0)])) rfl rfl (r_build (v := (.agg #[(i 0), (i 0), (i 0)])) pn (fun w => by kernel_rfl)) rfl ?_
    refine Ro.d0 rfl rfl rfl (H.store (j := 1) (off := 0) (k := 3) rfl sz91 f13 (v := (.agg #[(i 0), (i 0), (i 0)])) rfl rfl rfl rfl rfl (by simp [Value.oneCell']) (cs' := [i 0, i 0, i 0]) rfl ?_)
    intro w62 Hn; replace H := Hn; clear Hn
    refine Ro.q (v := (.bool false)) rfl rfl (r_assign rfl) rfl ?_
    refine Ro.nil (nT ?_)
    refine Wp.ret (bodyR ?_)
    refine leave_cell_tmp (vs := [i 0, i 0, i 0]) (v := (.bool false)) Tryz.results52 f13 ta91 (H.cells 1 rfl) rfl rfl ⟨H.keep, ?_⟩
    have hn : n = 21 := by omega
    have hi := hi20
    rw [hn] at hi
    have hj : iceN t x = -1 := hi
    rw [refI_no hj, hj]; rfl
set_option maxRecDepth 100000 in
theorem c13 {t : Tb} {ab ad : Option Addr} {cab cad : Nat} {x : Rdg} (w : World) (hab : Sl w 3 (t.bs.map bandV) ab) (had : Sl w 2 (t.dl.map depthV) ad) : Rv Tryz.prog 13 [(.agg (tbC t ab cab ad cad).toArray), (.agg (rdC x).toArray)] w (.bool true) := by
  refine Ret.body (N := 65) Tryz.func13 rfl Tryz.ntmps13 rfl ?_
  have H := S.start Nm w
  refine Wp.seq ?_
  refine Wp.region ?_
  refine Ro.d rfl rfl rfl (H.box (l := (tbC t ab cab ad cad)) rfl (v := (.agg (tbC t ab cab ad cad).toArray)) rfl rfl ?_)
  intro b1 w2 Hn; replace H := Hn; clear Hn
  refine Ro.d rfl rfl rfl (H.box (l := (rdC x)) rfl (v := (.agg (rdC x).toArray)) rfl rfl ?_)
  intro b3 w4 Hn; replace H := Hn; clear Hn
  refine Ro.q (v := (.bool false)) rfl rfl (r_assign rfl) rfl ?_
  refine Ro.nil (nT ?_)
  refine Wp.seq ?_
  refine Wp.seq ?_
  refine Wp.region ?_
  refine Ro.q rfl rfl (r_load ta29 rfl (H.cells 1 rfl) (j := 0) rfl (vs := (tbC t ab cab ad cad)) rfl rfl) rfl ?_
  refine Ro.d rfl rfl rfl (d_call rfl en15 (ce (v := (.agg (tbC t ab cab ad cad).toArray)) rfl (ce (v := (.slice none 0 0)) rfl (ce (v := (.slice none 0 0)) rfl cn))) (c15 (t := t) (h := ([] : List Rg)) (ices := ([] : List Ice)) _) ?_)
  intro u w5 k6 hu; subst hu; replace H := H.ext k6
  clear k6
  refine Ro.q rfl rfl (r_not rfl) rfl ?_
  refine Ro.nil (nT ?_)
  refine Wp.cond (t := !(thinB t ([] : List Rg) ([] : List Ice))) rfl ?_ ?_
  · intro c7
    have c7r := c7
    simp only [bx] at c7
    refine Wp.seq ?_
    refine Wp.region ?_
    refine Ro.d rfl rfl rfl (d_call rfl en16 cn (c16 _) ?_)
    intro u w8 k9 hu; subst hu; replace H := H.ext k9
    clear k9
    refine Ro.q (v := (.bool true)) rfl rfl (r_assign rfl) rfl ?_
    refine Ro.nil (nT ?_)
    refine Wp.ret (rT (bodyR ?_))
    refine leave_tmp (v := (.bool true)) Tryz.results13 rfl ⟨H.keep, ?_⟩
    rfl
  · intro c7
    have c7r := c7
    simp only [bx] at c7
    obtain ⟨hb5, hd6, hh20, hi11⟩ := thinB_iff.1 c7
    refine Wp.skip (nT ?_)
    refine Wp.seq ?_
    obtain ⟨nB10, hB10, hL10, hW10⟩ := H.bound
    have hMo : Mono (liftV [fun v => v = (.agg (tbC t ab cab ad cad).toArray), fun _ => True, fun v => v = (.agg (rdC x).toArray), fun v => v = (.agg (rdC x).toArray), fun v => v = (.tuple #[(.agg #[(i ((iofQ t x).day)), (i ((iofQ t x).zero)), (i ((iofQ t x).err))]), (i (iofE t x))]), fun v => v = (.tuple #[(.agg #[(i ((iofQ t x).day)), (i ((iofQ t x).zero)), (i ((iofQ t x).err))]), (i (iofE t x))]), fun v => v = (.agg #[(i ((iofQ t x).day)), (i ((iofQ t x).zero)), (i ((iofQ t x).err))]), fun v => v = (i (iofE t x)), fun _ => True, fun _ => True]) := fun _ _ _ _ _ h => fix_v _ _ h
    have hBB : ∀ (done : Nat → Bool) (ρ' : Env) (w' : World), (∃ bA8 : Nat, (done 8 = true → ρ' 5 = p bA8 0) ∧ (done 1 = true → done 4 = false → TubeAt t nB10 (ρ' 16) w') ∧ S Nm w ((bif done 8 then [(bA8, bif done 9 then (.cells [i ((iofQ t x).day), i ((iofQ t x).zero), i ((iofQ t x).err)].toArray 103 (0, 0) : Obj) else (.cells [i 0, i 0, i 0].toArray 103 (0, 0) : Obj))] else []) ++ [(b3, .cells (rdC x).toArray 33 (0, 0)), (b1, .cells (tbC t ab cab ad cad).toArray 29 (0, 0))]) w' ∧ nB10 ≤ w'.heap.size) → S Nm w [(b3, .cells (rdC x).toArray 33 (0, 0)), (b1, .cells (tbC t ab cab ad cad).toArray 29 (0, 0))] w' ∧ nB10 ≤ w'.heap.size := fun done ρ' w' ⟨bA8, eA8, eT1, Hn, hzz⟩ => ⟨Hn.part, hzz⟩
    refine Wp.drawnG 10 [0, 1, 0, 7, 15, 31, 63, 63, 0, 383, 1023] (liftV [fun v => v = (.agg (tbC t ab cab ad cad).toArray), fun _ => True, fun v => v = (.agg (rdC x).toArray), fun v => v = (.agg (rdC x).toArray), fun v => v = (.tuple #[(.agg #[(i ((iofQ t x).day)), (i ((iofQ t x).zero)), (i ((iofQ t x).err))]), (i (iofE t x))]), fun v => v = (.tuple #[(.agg #[(i ((iofQ t x).day)), (i ((iofQ t x).zero)), (i ((iofQ t x).err))]), (i (iofE t x))]), fun v => v = (.agg #[(i ((iofQ t x).day)), (i ((iofQ t x).zero)), (i ((iofQ t x).err))]), fun v => v = (i (iofE t x)), fun _ => True, fun _ => True]) (fun done ρ' w' => ∃ bA8 : Nat, (done 8 = true → ρ' 5 = p bA8 0) ∧ (done 1 = true → done 4 = false → TubeAt t nB10 (ρ' 16) w') ∧ S Nm w ((bif done 8 then [(bA8, bif done 9 then (.cells [i ((iofQ t x).day), i ((iofQ t x).zero), i ((iofQ t x).err)].toArray 103 (0, 0) : Obj) else (.cells [i 0, i 0, i 0].toArray 103 (0, 0) : Obj))] else []) ++ [(b3, .cells (rdC x).toArray 33 (0, 0)), (b1, .cells (tbC t ab cab ad cad).toArray 29 (0, 0))]) w' ∧ nB10 ≤ w'.heap.size) (by kernel_rfl) (by kernel_rfl) rfl (fun w' k => ⟨0, (fun h => by cases h), (fun h => by cases h), H.ext k, Nat.le_trans hB10 k.size⟩) ?_ ?_
    · refine ⟨?_, ⟨?_, ⟨?_, ⟨?_, ⟨?_, ⟨?_, ⟨?_, ⟨?_, ⟨?_, ⟨?_, trivial⟩⟩⟩⟩⟩⟩⟩⟩⟩⟩
      · exact ObG.of (B := (fun w' => S Nm w [(b3, .cells (rdC x).toArray 33 (0, 0)), (b1, .cells (tbC t ab cab ad cad).toArray 29 (0, 0))] w' ∧ nB10 ≤ w'.heap.size)) (Ob.q rfl (fun _ _ B U D => (r_load ta29 (show (_ : Value) = (p b1 0) from U 2 rfl) (B.1.cells 1 rfl) (j := 0) rfl (vs := (tbC t ab cab ad cad)) rfl rfl)) rfl rfl) hBB hMo (fun _ _ _ _ _ ⟨bA8, eA8, eT1, Hn, hzz⟩ k => ⟨bA8, eA8, (fun h1 h2 => TubeAt.ext (eT1 h1 h2) k), Hn.ext k, Nat.le_trans hzz k.size⟩)
      · refine ObG.sp rfl fun done ρ' w' hW U hcl hnd hwt D => ?_
        have B := hBB done ρ' w' hW
        obtain ⟨bA8, eA8, eT1, Hn, hzz⟩ := hW
        refine d_call rfl en18 (ce (v := (.agg (tbC t ab cab ad cad).toArray)) (D 0 rfl) cn) (c18 _ (hab.ext B.1.keep) (had.ext B.1.keep) hb5 hd6) (fun u w2 k hu => ?_)
        exact ⟨fix_v, trivial, bA8, eA8, (fun _ _ => TubeAt.le hu B.2), Hn.ext k, Nat.le_trans hzz k.size⟩
      · exact ObG.of (B := (fun w' => S Nm w [(b3, .cells (rdC x).toArray 33 (0, 0)), (b1, .cells (tbC t ab cab ad cad).toArray 29 (0, 0))] w' ∧ nB10 ≤ w'.heap.size)) (Ob.q rfl (fun _ _ B U D => (r_load ta33 (show (_ : Value) = (p b3 0) from U 3 rfl) (B.1.cells 0 rfl) (j := 0) rfl (vs := (rdC x)) rfl rfl)) rfl rfl) hBB hMo (fun _ _ _ _ _ ⟨bA8, eA8, eT1, Hn, hzz⟩ k => ⟨bA8, eA8, (fun h1 h2 => TubeAt.ext (eT1 h1 h2) k), Hn.ext k, Nat.le_trans hzz k.size⟩)
      · exact ObG.of (B := (fun w' => S Nm w [(b3, .cells (rdC x).toArray 33 (0, 0)), (b1, .cells (tbC t ab cab ad cad).toArray 29 (0, 0))] w' ∧ nB10 ≤ w'.heap.size)) (Ob.mk rfl fun ρ' w' B U D => d_call rfl en21 (ce (v := (.agg (rdC x).toArray)) (D 2 rfl) cn) (c21 (x := x) _) (fun u w2 k2 hu => ⟨k2, hu⟩)) hBB hMo (fun _ _ _ _ _ ⟨bA8, eA8, eT1, Hn, hzz⟩ k => ⟨bA8, eA8, (fun h1 h2 => TubeAt.ext (eT1 h1 h2) k), Hn.ext k, Nat.le_trans hzz k.size⟩)
      · refine ObG.sp rfl fun done ρ' w' hW U hcl hnd hwt D => ?_
        have B := hBB done ρ' w' hW
        obtain ⟨bA8, eA8, eT1, Hn, hzz⟩ := hW
        obtain ⟨a11, c11, a21, c21, hR1, h11, h21⟩ := eT1 (hwt 1 rfl) hnd
        refine d_call rfl en50 (ce (v := (.agg #[(i t.base), (.slice a11 t.bs.length c11), (.slice a21 t.dl.length c21), (i t.blo), (i t.bhi), (i t.klo), (i t.khi), (i t.llo), (i t.lhi), (i t.slo), (i t.shi), (i t.term)])) hR1 (ce (v := (.agg (rdC x).toArray)) (D 3 rfl) cn)) (c50 (x := x) _ (h11.1) (h21.1)) (fun u w2 k hu => ?_)
        exact ⟨fix_v, hu, bA8, eA8, (fun _ h2 => Bool.noConfusion (show true = false from h2)), Hn.ext k, Nat.le_trans hzz k.size⟩
      · exact ObG.of (B := (fun w' => S Nm w [(b3, .cells (rdC x).toArray 33 (0, 0)), (b1, .cells (tbC t ab cab ad cad).toArray 29 (0, 0))] w' ∧ nB10 ≤ w'.heap.size)) (Ob.q rfl (fun _ _ B U D => (r_move (D 4 rfl))) rfl rfl) hBB hMo (fun _ _ _ _ _ ⟨bA8, eA8, eT1, Hn, hzz⟩ k => ⟨bA8, eA8, (fun h1 h2 => TubeAt.ext (eT1 h1 h2) k), Hn.ext k, Nat.le_trans hzz k.size⟩)
      · exact ObG.of (B := (fun w' => S Nm w [(b3, .cells (rdC x).toArray 33 (0, 0)), (b1, .cells (tbC t ab cab ad cad).toArray 29 (0, 0))] w' ∧ nB10 ≤ w'.heap.size)) (Ob.q rfl (fun _ _ B U D => (r_extract (D 5 rfl) (j := 0) rfl)) rfl rfl) hBB hMo (fun _ _ _ _ _ ⟨bA8, eA8, eT1, Hn, hzz⟩ k => ⟨bA8, eA8, (fun h1 h2 => TubeAt.ext (eT1 h1 h2) k), Hn.ext k, Nat.le_trans hzz k.size⟩)
      · exact ObG.of (B := (fun w' => S Nm w [(b3, .cells (rdC x).toArray 33 (0, 0)), (b1, .cells (tbC t ab cab ad cad).toArray 29 (0, 0))] w' ∧ nB10 ≤ w'.heap.size)) (Ob.q rfl (fun _ _ B U D => (r_extract (D 5 rfl) (j := 1) rfl)) rfl rfl) hBB hMo (fun _ _ _ _ _ ⟨bA8, eA8, eT1, Hn, hzz⟩ k => ⟨bA8, eA8, (fun h1 h2 => TubeAt.ext (eT1 h1 h2) k), Hn.ext k, Nat.le_trans hzz k.size⟩)
      · refine ObG.sp rfl fun done ρ' w' hW U hcl hnd hwt D => ?_
        obtain ⟨bA8, eA8, eT1, Hn, hzz⟩ := hW
        have hs := nd hcl (q := 9) rfl rfl hnd
        simp only [hnd, cond_false, List.nil_append] at Hn
        refine Hn.newK (l := [i 0, i 0, i 0]) rfl zv103 rfl ?_
        intro bN w2 k Hm
        refine ⟨fix_v, trivial, bN, (fun _ => rfl), (fun h1 h2 => TubeAt.ext (eT1 h1 h2) k), ?_, Nat.le_trans hzz k.size⟩
        show S Nm w ([(bN, bif done 9 then (.cells [i ((iofQ t x).day), i ((iofQ t x).zero), i ((iofQ t x).err)].toArray 103 (0, 0) : Obj) else (.cells [i 0, i 0, i 0].toArray 103 (0, 0) : Obj))] ++ [(b3, .cells (rdC x).toArray 33 (0, 0)), (b1, .cells (tbC t ab cab ad cad).toArray 29 (0, 0))]) w2
        rw [hs]
        exact Hm
      · refine ObG.sp rfl fun done ρ' w' hW U hcl hnd hwt D => ?_
        obtain ⟨bA8, eA8, eT1, Hn, hzz⟩ := hW
        have ha : done 8 = true := hwt 8 rfl
        simp only [ha, hnd, cond_true, cond_false] at Hn
        refine Hn.storeK (j := 0) (off := 0) (k := 3) (cs := [i 0, i 0, i 0]) (u := 103) rfl sz103 (eA8 ha) (v := (.agg #[(i ((iofQ t x).day)), (i ((iofQ t x).zero)), (i ((iofQ t x).err))])) (D 6 rfl) rfl (vs := [i ((iofQ t x).day), i ((iofQ t x).zero), i ((iofQ t x).err)]) rfl rfl rfl (by simp [Value.oneCell']) (cs' := [i ((iofQ t x).day), i ((iofQ t x).zero), i ((iofQ t x).err)]) rfl ?_
        intro w2 kS Hm
        refine ⟨fix_v, trivial, bA8, (fun _ => eA8 ha), (fun _ h2 => Bool.noConfusion ((show done 4 = false from h2).symm.trans (hwt 4 rfl))), ?_, Nat.le_trans hzz kS.size⟩
        show S Nm w ((bif done 8 then [(bA8, (.cells [i ((iofQ t x).day), i ((iofQ t x).zero), i ((iofQ t x).err)].toArray 103 (0, 0) : Obj))] else []) ++ [(b3, .cells (rdC x).toArray 33 (0, 0)), (b1, .cells (tbC t ab cab ad cad).toArray 29 (0, 0))]) w2
        rw [ha]
        exact Hm
    rintro ρ11 w12 ⟨b16, eA8, _, Hn, _⟩ U14 D15
    replace H : S Nm w [(b16, .cells [i ((iofQ t x).day), i ((iofQ t x).zero), i ((iofQ t x).err)].toArray 103 (0, 0)), (b3, .cells (rdC x).toArray 33 (0, 0)), (b1, .cells (tbC t ab cab ad cad).toArray 29 (0, 0))] w12 := Hn; clear Hn hMo hBB
    have f17 : ρ11 2 = (p b1 0) := U14 2 rfl
    have f18 : ρ11 3 = (p b3 0) := U14 3 rfl
    have f19 : ρ11 4 = (.bool false) := U14 4 rfl
    have f20 : ρ11 5 = p b16 0 := eA8 rfl
    have f21 : ρ11 21 = (i (iofE t x)) := D15 7 rfl
    clear U14 D15
    clear eA8
    refine Ro.q (v := (i (iofE t x))) rfl rfl (r_assign f21) rfl ?_
    refine Ro.nil (nT ?_)
    refine Wp.seq ?_
    refine Wp.region ?_
    refine Ro.q rfl rfl (r_load ta29 f17 (H.cells 2 rfl) (j := 0) rfl (vs := (tbC t ab cab ad cad)) rfl rfl) rfl ?_
    refine Ro.d rfl rfl rfl (d_call rfl en51 (ce (v := (.agg (tbC t ab cab ad cad).toArray)) rfl cn) (c51 t.base t.blo t.bhi t.klo t.khi t.llo t.lhi t.slo t.shi t.term _ t.bs _ _ t.dl _ _ (hab.ext H.keep) (had.ext H.keep)) ?_)
    intro u w22 k23 hu; subst hu; replace H := H.ext k23
    clear k23
    refine Ro.q (v := (i (tubeEt t))) rfl rfl (r_assign rfl) rfl ?_
    refine Ro.nil (nT ?_)
    refine Wp.seq ?_
    refine Wp.seq ?_
    let qq24 : Bool := decide ((tubeEt t) = 0)
    let qq25 : Bool := (qq24 && (!(readBx 16 x)))
    refine Wp.factsS 7 [is (i (tubeEt t)), is (.bool qq24), is (.bool qq24), gdv (True ∧ qq24 = true) (.agg (rdC x).toArray), gdv (True ∧ qq24 = true) (.bool (readBx 16 x)), gdv (True ∧ qq24 = true) (.bool (!(readBx 16 x))), is (.bool qq25)] (by kernel_rfl) (Mi (Mi (Mi (Mg (Mg (Mg (Mi Mono.nil))))))) (fun w' k => H.ext k) ?_ ?_
    · refine ⟨?_, ⟨?_, ⟨?_, ⟨?_, ⟨?_, ⟨?_, ⟨?_, trivial⟩⟩⟩⟩⟩⟩⟩
      · exact Ob.q rfl (fun _ _ B U D => (r_move (show (_ : Value) = (i (tubeEt t)) from U 7 rfl))) rfl rfl
      · exact Ob.q rfl (fun _ _ B U D => (r_eql (D 0 rfl) rfl)) rfl rfl
      · exact Ob.q rfl (fun _ _ B U D => (r_move (D 1 rfl))) rfl rfl
      · exact Ob.g0 rfl rfl (fun _ _ _ D => D 2 rfl) rfl (fun _ _ B U D hC hg => (r_load ta33 ((U 3 rfl).trans f18) (B.cells 1 rfl) (j := 0) rfl (vs := (rdC x)) rfl rfl)) rfl
      · exact Ob.gd (C := True) (g := qq24) rfl rfl (fun ρ' w' U D => ⟨fun _ => (D 2 rfl), fun h => absurd trivial h⟩) (fun _ h => ⟨fun hc => absurd hc (no_of h), fun _ => rfl⟩) fun ρ' w' B U D hC hg => d_call rfl en33 (ce (v := (.agg (rdC x).toArray)) (gdy (D 3 rfl) ⟨hC, hg⟩) (ce (v := (i 16)) rfl cn)) (c33 x.day x.shown x.err x.bare x.alo x.ahi x.rlo x.rhi x.deep x.broken 16 _ (by omega)) (fun u w2 k2 hu => ⟨k2, ⟨fun _ => hu, fun n => absurd ⟨hC, hg⟩ n⟩⟩)
      · exact Ob.g0 rfl rfl (fun _ _ _ D => D 2 rfl) rfl (fun _ _ B U D hC hg => (r_not (gdy (D 4 rfl) ⟨hC, hg⟩))) rfl
      · exact Ob.q rfl (fun _ _ B U D => (r_pick (v := (.bool qq25)) (D 2 rfl) (fun eP => (gdy (D 5 rfl) ⟨trivial, eP⟩).trans (and_t eP)) (fun eP => and_f eP))) rfl rfl
    intro ρ26 w27 k28 U29 D30; replace H := H.ext k28
    have f31 := (U29 2 rfl).trans f17
    have f32 := (U29 3 rfl).trans f18
    have f33 := (U29 4 rfl).trans f19
    have f34 := (U29 5 rfl).trans f20
    have f35 : ρ26 6 = (i (iofE t x)) := U29 6 rfl
    have f36 : ρ26 7 = (i (tubeEt t)) := U29 7 rfl
    have f37 : ρ26 30 = (.bool qq25) := D30 6 rfl
    clear U29 D30 k28
    refine Ro.nil (nT ?_)
    refine Wp.cond (t := qq25) f37 ?_ ?_
    · intro c38
      have c38r : (((decide ((tubeEt t) = 0)) && (!(readBx 16 x)))) = true := c38
      replace c38 := c38r
      simp only [bx] at c38
      refine Wp.region ?_
      refine Ro.q (v := (i 2)) rfl rfl (r_assign rfl) rfl ?_
      refine Ro.nil (nT ?_)
      refine Wp.seq ?_
      refine Wp.seq ?_
      refine Wp.factsS 6 [is (i 2), is (.bool false), is (.bool false), gdv (True ∧ false = true) (p b3 9), gdv (True ∧ false = true) (.bool x.broken), is (.bool false)] (by kernel_rfl) (Mi (Mi (Mi (Mg (Mg (Mi Mono.nil)))))) (fun w' k => H.ext k) ?_ ?_
      · refine ⟨?_, ⟨?_, ⟨?_, ⟨?_, ⟨?_, ⟨?_, trivial⟩⟩⟩⟩⟩⟩
        · exact Ob.q rfl (fun _ _ B U D => (r_move (show (_ : Value) = (i 2) from U 7 rfl))) rfl rfl
        · exact Ob.q rfl (fun _ _ B U D => (Runs.to (r_eql (D 0 rfl) rfl) (by rfl))) rfl rfl
        · exact Ob.q rfl (fun _ _ B U D => (r_move (D 1 rfl))) rfl rfl
        · exact Ob.g0 rfl rfl (fun _ _ _ D => D 2 rfl) rfl (fun _ _ B U D hC hg => (r_fieldAddr fo33_7 ((U 3 rfl).trans f32) rfl)) rfl
        · exact Ob.g0 rfl rfl (fun _ _ _ D => D 2 rfl) rfl (fun _ _ B U D hC hg => (r_load1 t1_4 (gdy (D 3 rfl) ⟨hC, hg⟩) (B.cells 1 rfl) (j := 9) rfl rfl)) rfl
        · exact Ob.q rfl (fun _ _ B U D => (Runs.to (r_pick (v := .bool (false && x.broken)) (D 2 rfl) (fun eP => (gdy (D 4 rfl) ⟨trivial, eP⟩).trans (and_t eP)) (fun eP => and_f eP)) (by rfl))) rfl rfl
      intro ρ39 w40 k41 U42 D43; replace H := H.ext k41
      have f44 := (U42 2 rfl).trans f31
      have f45 := (U42 3 rfl).trans f32
      have f46 := (U42 4 rfl).trans f33
      have f47 := (U42 5 rfl).trans f34
      have f48 := (U42 6 rfl).trans f35
      have f49 : ρ39 7 = (i 2) := U42 7 rfl
      have f50 : ρ39 36 = (.bool false) := D43 5 rfl
      clear U42 D43 k41
      refine Ro.nil (nT ?_)
      refine Wp.condF f50 ?_
      refine Wp.skip (nT ?_)
      refine Wp.seq ?_
      refine Wp.region ?_
      refine Ro.d rfl rfl rfl (H.new (l := [i 0, i 0, i 0]) rfl zv91 rfl ?_)
      intro b51 w52 Hn; replace H := Hn; clear Hn
      refine Ro.nil (nT ?_)
      refine Wp.seq ?_
      refine Wp.seq ?_
      refine Wp.region ?_
      refine Ro.q (v := (i 2)) rfl rfl (r_move f49) rfl ?_
      refine Ro.q (v := (.bool false)) rfl rfl (Runs.to (r_eql rfl rfl) (by rfl)) rfl ?_
      refine Ro.nil (nT ?_)
      refine Wp.condF rfl ?_
      refine Wp.skip (nT ?_)
      refine Wp.seq ?_
      let qq53 : Bool := decide ((iofE t x) = 2)
      let qq54 : Bool := ((decide (((iofQ t x).day) = 0) && decide (((iofQ t x).zero) = 0)) && decide (((iofQ t x).err) = 0))
      let qq55 : Bool := (qq53 && qq54)
      let qq56 : Bool := (qq55 && true)
      refine Wp.factsS 18 [is (i (iofE t x)), is (i 2), is (.bool qq53), is (.bool qq53), gdv (True ∧ qq53 = true) (.agg #[(i ((iofQ t x).day)), (i ((iofQ t x).zero)), (i ((iofQ t x).err))]), gdv (True ∧ qq53 = true) (p b51 0), gdv (True ∧ qq53 = true) (i 0), gdv (True ∧ qq53 = true) (p b51 1), gdv (True ∧ qq53 = true) (i 0), gdv (True ∧ qq53 = true) (p b51 2), gdv (True ∧ qq53 = true) (i 0), gdv (True ∧ qq53 = true) (.agg #[(i 0), (i 0), (i 0)]), gdv (True ∧ qq53 = true) (.bool qq54), is (.bool qq55), is (.bool qq55), gdv (True ∧ qq55 = true) (.bool true), is (.bool qq56), is (.bool qq56)] (by kernel_rfl) (Mi (Mi (Mi (Mi (Mg (Mg (Mg (Mg (Mg (Mg (Mg (Mg (Mg (Mi (Mi (Mg (Mi (Mi Mono.nil)))))))))))))))))) (fun w' k => H.ext k) ?_ ?_
      · refine ⟨?_, ⟨?_, ⟨?_, ⟨?_, ⟨?_, ⟨?_, ⟨?_, ⟨?_, ⟨?_, ⟨?_, ⟨?_, ⟨?_, ⟨?_, ⟨?_, ⟨?_, ⟨?_, ⟨?_, ⟨?_, trivial⟩⟩⟩⟩⟩⟩⟩⟩⟩⟩⟩⟩⟩⟩⟩⟩⟩⟩
        · exact Ob.q rfl (fun _ _ B U D => (r_move ((U 6 rfl).trans f48))) rfl rfl
        · exact Ob.q rfl (fun _ _ B U D => (r_move ((U 7 rfl).trans f49))) rfl rfl
        · exact Ob.q rfl (fun _ _ B U D => (r_eql (D 0 rfl) (D 1 rfl))) rfl rfl
        · exact Ob.q rfl (fun _ _ B U D => (r_move (D 2 rfl))) rfl rfl
        · exact Ob.g0 rfl rfl (fun _ _ _ D => D 3 rfl) rfl (fun _ _ B U D hC hg => (r_load ta103 ((U 5 rfl).trans f47) (B.cells 1 rfl) (j := 0) rfl (vs := [i ((iofQ t x).day), i ((iofQ t x).zero), i ((iofQ t x).err)]) rfl rfl)) rfl
        · exact Ob.g0 rfl rfl (fun _ _ _ D => D 3 rfl) rfl (fun _ _ B U D hC hg => (r_fieldAddr fo91_0 (show (_ : Value) = (p b51 0) from U 8 rfl) rfl)) rfl
        · exact Ob.g0 rfl rfl (fun _ _ _ D => D 3 rfl) rfl (fun _ _ B U D hC hg => (r_load1 t1_3 (gdy (D 5 rfl) ⟨hC, hg⟩) (B.cells 0 rfl) (j := 0) rfl rfl)) rfl
        · exact Ob.g0 rfl rfl (fun _ _ _ D => D 3 rfl) rfl (fun _ _ B U D hC hg => (r_fieldAddr fo91_1 (show (_ : Value) = (p b51 0) from U 8 rfl) rfl)) rfl
        · exact Ob.g0 rfl rfl (fun _ _ _ D => D 3 rfl) rfl (fun _ _ B U D hC hg => (r_load1 t1_3 (gdy (D 7 rfl) ⟨hC, hg⟩) (B.cells 0 rfl) (j := 1) rfl rfl)) rfl
        · exact Ob.g0 rfl rfl (fun _ _ _ D => D 3 rfl) rfl (fun _ _ B U D hC hg => (r_fieldAddr fo91_2 (show (_ : Value) = (p b51 0) from U 8 rfl) rfl)) rfl
        · exact Ob.g0 rfl rfl (fun _ _ _ D => D 3 rfl) rfl (fun _ _ B U D hC hg => (r_load1 t1_3 (gdy (D 9 rfl) ⟨hC, hg⟩) (B.cells 0 rfl) (j := 2) rfl rfl)) rfl
        · exact Ob.g0 rfl rfl (fun _ _ _ D => D 3 rfl) rfl (fun _ _ B U D hC hg => (r_build (v := (.agg #[(i 0), (i 0), (i 0)])) (pe (v := (i 0)) (gdy (D 6 rfl) ⟨hC, hg⟩) (pe (v := (i 0)) (gdy (D 8 rfl) ⟨hC, hg⟩) (pe (v := (i 0)) (gdy (D 10 rfl) ⟨hC, hg⟩) pn))) (fun w => by kernel_rfl))) rfl
        · exact Ob.g0 rfl rfl (fun _ _ _ D => D 3 rfl) rfl (fun _ _ B U D hC hg => (r_eqS (eq103 ((iofQ t x).day) ((iofQ t x).zero) ((iofQ t x).err) 0 0 0) (gdy (D 4 rfl) ⟨hC, hg⟩) (gdy (D 11 rfl) ⟨hC, hg⟩))) rfl
        · exact Ob.q rfl (fun _ _ B U D => (r_pick (v := (.bool qq55)) (D 3 rfl) (fun eP => (gdy (D 12 rfl) ⟨trivial, eP⟩).trans (and_t eP)) (fun eP => and_f eP))) rfl rfl
        · exact Ob.q rfl (fun _ _ B U D => (r_move (D 13 rfl))) rfl rfl
        · exact Ob.gd (C := True) (g := qq55) rfl rfl (fun ρ' w' U D => ⟨fun _ => (D 14 rfl), fun h => absurd trivial h⟩) (fun _ h => ⟨fun hc => absurd hc (no_of h), fun _ => rfl⟩) fun ρ' w' B U D hC hg => d_call rfl en16 cn (c16 _) (fun u w2 k2 hu => ⟨k2, ⟨fun _ => hu, fun n => absurd ⟨hC, hg⟩ n⟩⟩)
        · exact Ob.q rfl (fun _ _ B U D => (r_pick (v := (.bool qq56)) (D 14 rfl) (fun eP => (gdy (D 15 rfl) ⟨trivial, eP⟩).trans (and_t eP)) (fun eP => and_f eP))) rfl rfl
        · exact Ob.q rfl (fun _ _ B U D => (r_assign (D 16 rfl))) rfl rfl
      intro ρ57 w58 k59 U60 D61; replace H := H.ext k59
      have f62 : ρ57 4 = (.bool qq56) := D61 17 rfl
      clear U60 D61 k59
      refine Ro.nil (nT ?_)
      refine Wp.ret (bodyR ?_)
      refine leave_tmp (v := (.bool (((decide ((iofE t x) = 2)) && ((decide (((iofQ t x).day) = 0) && decide (((iofQ t x).zero) = 0)) && decide (((iofQ t x).err) = 0))) && true))) Tryz.results13 f62 ⟨H.keep, ?_⟩
      have e := iof_read c38.1 c38.2
      refine congrArg Value.bool ?_
      rw [e.1, e.2]; simp
    · intro c38
      have c38r : (((decide ((tubeEt t) = 0)) && (!(readBx 16 x)))) = false := c38
      replace c38 := c38r
      simp only [bx] at c38
      refine Wp.skip (nT ?_)
      refine Wp.seq ?_
      refine Wp.seq ?_
      let qq63 : Bool := (qq24 && x.broken)
      refine Wp.factsS 6 [is (i (tubeEt t)), is (.bool qq24), is (.bool qq24), gdv (True ∧ qq24 = true) (p b3 9), gdv (True ∧ qq24 = true) (.bool x.broken), is (.bool qq63)] (by kernel_rfl) (Mi (Mi (Mi (Mg (Mg (Mi Mono.nil)))))) (fun w' k => H.ext k) ?_ ?_
      · refine ⟨?_, ⟨?_, ⟨?_, ⟨?_, ⟨?_, ⟨?_, trivial⟩⟩⟩⟩⟩⟩
        · exact Ob.q rfl (fun _ _ B U D => (r_move ((U 7 rfl).trans f36))) rfl rfl
        · exact Ob.q rfl (fun _ _ B U D => (r_eql (D 0 rfl) rfl)) rfl rfl
        · exact Ob.q rfl (fun _ _ B U D => (r_move (D 1 rfl))) rfl rfl
        · exact Ob.g0 rfl rfl (fun _ _ _ D => D 2 rfl) rfl (fun _ _ B U D hC hg => (r_fieldAddr fo33_7 ((U 3 rfl).trans f32) rfl)) rfl
        · exact Ob.g0 rfl rfl (fun _ _ _ D => D 2 rfl) rfl (fun _ _ B U D hC hg => (r_load1 t1_4 (gdy (D 3 rfl) ⟨hC, hg⟩) (B.cells 1 rfl) (j := 9) rfl rfl)) rfl
        · exact Ob.q rfl (fun _ _ B U D => (r_pick (v := (.bool qq63)) (D 2 rfl) (fun eP => (gdy (D 4 rfl) ⟨trivial, eP⟩).trans (and_t eP)) (fun eP => and_f eP))) rfl rfl
      intro ρ64 w65 k66 U67 D68; replace H := H.ext k66
      have f69 := (U67 2 rfl).trans f31
      have f70 := (U67 3 rfl).trans f32
      have f71 := (U67 4 rfl).trans f33
      have f72 := (U67 5 rfl).trans f34
      have f73 := (U67 6 rfl).trans f35
      have f74 := (U67 7 rfl).trans f36
      have f75 : ρ64 36 = (.bool qq63) := D68 5 rfl
      clear U67 D68 k66
      refine Ro.nil (nT ?_)
      refine Wp.cond (t := qq63) f75 ?_ ?_
      · intro c76
        have c76r : (((decide ((tubeEt t) = 0)) && x.broken)) = true := c76
        replace c76 := c76r
        simp only [bx] at c76
        refine Wp.region ?_
        refine Ro.q (v := (i 8)) rfl rfl (r_assign rfl) rfl ?_
        refine Ro.nil (nT ?_)
        refine Wp.seq ?_
        refine Wp.region ?_
        refine Ro.d rfl rfl rfl (H.new (l := [i 0, i 0, i 0]) rfl zv91 rfl ?_)
        intro b77 w78 Hn; replace H := Hn; clear Hn
        refine Ro.nil (nT ?_)
        refine Wp.seq ?_
        refine Wp.seq ?_
        refine Wp.region ?_
        refine Ro.q (v := (i 8)) rfl rfl (r_move rfl) rfl ?_
        refine Ro.q (v := (.bool false)) rfl rfl (Runs.to (r_eql rfl rfl) (by rfl)) rfl ?_
        refine Ro.nil (nT ?_)
        refine Wp.condF rfl ?_
        refine Wp.skip (nT ?_)
        refine Wp.seq ?_
        let qq79 : Bool := decide ((iofE t x) = 8)
        let qq80 : Bool := ((decide (((iofQ t x).day) = 0) && decide (((iofQ t x).zero) = 0)) && decide (((iofQ t x).err) = 0))
        let qq81 : Bool := (qq79 && qq80)
        let qq82 : Bool := (qq81 && true)
        refine Wp.factsS 18 [is (i (iofE t x)), is (i 8), is (.bool qq79), is (.bool qq79), gdv (True ∧ qq79 = true) (.agg #[(i ((iofQ t x).day)), (i ((iofQ t x).zero)), (i ((iofQ t x).err))]), gdv (True ∧ qq79 = true) (p b77 0), gdv (True ∧ qq79 = true) (i 0), gdv (True ∧ qq79 = true) (p b77 1), gdv (True ∧ qq79 = true) (i 0), gdv (True ∧ qq79 = true) (p b77 2), gdv (True ∧ qq79 = true) (i 0), gdv (True ∧ qq79 = true) (.agg #[(i 0), (i 0), (i 0)]), gdv (True ∧ qq79 = true) (.bool qq80), is (.bool qq81), is (.bool qq81), gdv (True ∧ qq81 = true) (.bool true), is (.bool qq82), is (.bool qq82)] (by kernel_rfl) (Mi (Mi (Mi (Mi (Mg (Mg (Mg (Mg (Mg (Mg (Mg (Mg (Mg (Mi (Mi (Mg (Mi (Mi Mono.nil)))))))))))))))))) (fun w' k => H.ext k) ?_ ?_
        · refine ⟨?_, ⟨?_, ⟨?_, ⟨?_, ⟨?_, ⟨?_, ⟨?_, ⟨?_, ⟨?_, ⟨?_, ⟨?_, ⟨?_, ⟨?_, ⟨?_, ⟨?_, ⟨?_, ⟨?_, ⟨?_, trivial⟩⟩⟩⟩⟩⟩⟩⟩⟩⟩⟩⟩⟩⟩⟩⟩⟩⟩
          · exact Ob.q rfl (fun _ _ B U D => (r_move ((U 6 rfl).trans f73))) rfl rfl
          · exact Ob.q rfl (fun _ _ B U D => (r_move (show (_ : Value) = (i 8) from U 7 rfl))) rfl rfl
          · exact Ob.q rfl (fun _ _ B U D => (r_eql (D 0 rfl) (D 1 rfl))) rfl rfl
          · exact Ob.q rfl (fun _ _ B U D => (r_move (D 2 rfl))) rfl rfl
          · exact Ob.g0 rfl rfl (fun _ _ _ D => D 3 rfl) rfl (fun _ _ B U D hC hg => (r_load ta103 ((U 5 rfl).trans f72) (B.cells 1 rfl) (j := 0) rfl (vs := [i ((iofQ t x).day), i ((iofQ t x).zero), i ((iofQ t x).err)]) rfl rfl)) rfl
          · exact Ob.g0 rfl rfl (fun _ _ _ D => D 3 rfl) rfl (fun _ _ B U D hC hg => (r_fieldAddr fo91_0 (show (_ : Value) = (p b77 0) from U 8 rfl) rfl)) rfl
          · exact Ob.g0 rfl rfl (fun _ _ _ D => D 3 rfl) rfl (fun _ _ B U D hC hg => (r_load1 t1_3 (gdy (D 5 rfl) ⟨hC, hg⟩) (B.cells 0 rfl) (j := 0) rfl rfl)) rfl
          · exact Ob.g0 rfl rfl (fun _ _ _ D => D 3 rfl) rfl (fun _ _ B U D hC hg => (r_fieldAddr fo91_1 (show (_ : Value) = (p b77 0) from U 8 rfl) rfl)) rfl
          · exact Ob.g0 rfl rfl (fun _ _ _ D => D 3 rfl) rfl (fun _ _ B U D hC hg => (r_load1 t1_3 (gdy (D 7 rfl) ⟨hC, hg⟩) (B.cells 0 rfl) (j := 1) rfl rfl)) rfl
          · exact Ob.g0 rfl rfl (fun _ _ _ D => D 3 rfl) rfl (fun _ _ B U D hC hg => (r_fieldAddr fo91_2 (show (_ : Value) = (p b77 0) from U 8 rfl) rfl)) rfl
          · exact Ob.g0 rfl rfl (fun _ _ _ D => D 3 rfl) rfl (fun _ _ B U D hC hg => (r_load1 t1_3 (gdy (D 9 rfl) ⟨hC, hg⟩) (B.cells 0 rfl) (j := 2) rfl rfl)) rfl
          · exact Ob.g0 rfl rfl (fun _ _ _ D => D 3 rfl) rfl (fun _ _ B U D hC hg => (r_build (v := (.agg #[(i 0), (i 0), (i 0)])) (pe (v := (i 0)) (gdy (D 6 rfl) ⟨hC, hg⟩) (pe (v := (i 0)) (gdy (D 8 rfl) ⟨hC, hg⟩) (pe (v := (i 0)) (gdy (D 10 rfl) ⟨hC, hg⟩) pn))) (fun w => by kernel_rfl))) rfl
          · exact Ob.g0 rfl rfl (fun _ _ _ D => D 3 rfl) rfl (fun _ _ B U D hC hg => (r_eqS (eq103 ((iofQ t x).day) ((iofQ t x).zero) ((iofQ t x).err) 0 0 0) (gdy (D 4 rfl) ⟨hC, hg⟩) (gdy (D 11 rfl) ⟨hC, hg⟩))) rfl
          · exact Ob.q rfl (fun _ _ B U D => (r_pick (v := (.bool qq81)) (D 3 rfl) (fun eP => (gdy (D 12 rfl) ⟨trivial, eP⟩).trans (and_t eP)) (fun eP => and_f eP))) rfl rfl
          · exact Ob.q rfl (fun _ _ B U D => (r_move (D 13 rfl))) rfl rfl
          · exact Ob.gd (C := True) (g := qq81) rfl rfl (fun ρ' w' U D => ⟨fun _ => (D 14 rfl), fun h => absurd trivial h⟩) (fun _ h => ⟨fun hc => absurd hc (no_of h), fun _ => rfl⟩) fun ρ' w' B U D hC hg => d_call rfl en16 cn (c16 _) (fun u w2 k2 hu => ⟨k2, ⟨fun _ => hu, fun n => absurd ⟨hC, hg⟩ n⟩⟩)
          · exact Ob.q rfl (fun _ _ B U D => (r_pick (v := (.bool qq82)) (D 14 rfl) (fun eP => (gdy (D 15 rfl) ⟨trivial, eP⟩).trans (and_t eP)) (fun eP => and_f eP))) rfl rfl
          · exact Ob.q rfl (fun _ _ B U D => (r_assign (D 16 rfl))) rfl rfl
        intro ρ83 w84 k85 U86 D87; replace H := H.ext k85
        have f88 : ρ83 4 = (.bool qq82) := D87 17 rfl
        clear U86 D87 k85
        refine Ro.nil (nT ?_)
        refine Wp.ret (bodyR ?_)
        refine leave_tmp (v := (.bool (((decide ((iofE t x) = 8)) && ((decide (((iofQ t x).day) = 0) && decide (((iofQ t x).zero) = 0)) && decide (((iofQ t x).err) = 0))) && true))) Tryz.results13 f88 ⟨H.keep, ?_⟩
        have ht0 := c76.1
        have hread : readBx 16 x = true := by have h := c38; rcases h with h | h; (exact absurd ht0 h); exact h
        have e := iof_broken ht0 hread c76.2
        refine congrArg Value.bool ?_
        rw [e.1, e.2]; simp
      · intro c76
        have c76r : (((decide ((tubeEt t) = 0)) && x.broken)) = false := c76
        replace c76 := c76r
        simp only [bx] at c76
        refine Wp.skip (nT ?_)
        refine Wp.seq ?_
        refine Wp.region ?_
        refine Ro.d rfl rfl rfl (H.new (l := [i 0, i 0, i 0]) rfl zv91 rfl ?_)
        intro b89 w90 Hn; replace H := Hn; clear Hn
        refine Ro.nil (nT ?_)
        refine Wp.seq ?_
        refine Wp.seq ?_
        refine Wp.region ?_
        refine Ro.q (v := (i (tubeEt t))) rfl rfl (r_move f74) rfl ?_
        refine Ro.q rfl rfl (r_eql rfl rfl) rfl ?_
        refine Ro.nil (nT ?_)
        refine Wp.cond (t := decide ((tubeEt t) = 0)) rfl ?_ ?_
        · intro c91
          have c91r := c91
          simp only [bx] at c91
          have ht0 : tubeEt t = 0 := c91
          have htb := (tubeEt_zero ht0).2.2.1
          have hread : readBx 16 x = true := by have h := c38; rcases h with h | h; (exact absurd ht0 h); exact h
          have hrd := (readBx_iff.1 hread).2
          refine Wp.seq ?_
          refine Wp.region ?_
          refine Ro.q (v := (.bool false)) rfl rfl (r_assign rfl) rfl ?_
          refine Ro.nil (nT ?_)
          refine Wp.seq ?_
          refine Wp.region ?_
          refine Ro.q rfl rfl (r_load ta29 f69 (H.cells 3 rfl) (j := 0) rfl (vs := (tbC t ab cab ad cad)) rfl rfl) rfl ?_
          refine Ro.q rfl rfl (r_load ta33 f70 (H.cells 2 rfl) (j := 0) rfl (vs := (rdC x)) rfl rfl) rfl ?_
          refine Ro.d rfl rfl rfl (d_call rfl en52 (ce (v := (.agg (tbC t ab cab ad cad).toArray)) rfl (ce (v := (.agg (rdC x).toArray)) rfl cn)) (c52 (t := t) (x := x) _ htb hrd) ?_)
          intro u w92 k93 hu; subst hu; replace H := H.ext k93
          clear k93
          refine Ro.q (v := (.tuple #[(.agg #[(i ((refI t x).day)), (i ((refI t x).zero)), (i ((refI t x).err))]), (.bool (decide (0 ≤ iceN t x)))])) rfl rfl (r_move rfl) rfl ?_
          refine Ro.q (v := (.agg #[(i ((refI t x).day)), (i ((refI t x).zero)), (i ((refI t x).err))])) rfl rfl (r_extract rfl (j := 0) rfl) rfl ?_
          refine Ro.q (v := (.bool (decide (0 ≤ iceN t x)))) rfl rfl (r_extract rfl (j := 1) rfl) rfl ?_
          refine Ro.d0 rfl rfl rfl (H.store (j := 0) (off := 0) (k := 3) rfl sz91 rfl (v := (.agg #[(i ((refI t x).day)), (i ((refI t x).zero)), (i ((refI t x).err))])) rfl rfl rfl rfl rfl (by simp [Value.oneCell']) (cs' := [i ((refI t x).day), i ((refI t x).zero), i ((refI t x).err)]) rfl ?_)
          intro w94 Hn; replace H := Hn; clear Hn
          refine Ro.q (v := (.bool (decide (0 ≤ iceN t x)))) rfl rfl (r_assign rfl) rfl ?_
          refine Ro.nil (nT ?_)
          refine Wp.seq ?_
          refine Wp.region ?_
          refine Ro.q (v := (.bool (decide (0 ≤ iceN t x)))) rfl rfl (r_move rfl) rfl ?_
          refine Ro.q rfl rfl (r_not rfl) rfl ?_
          refine Ro.nil (nT ?_)
          refine Wp.cond (t := !(decide (0 ≤ iceN t x))) rfl ?_ ?_
          · intro c95
            have c95r := c95
            simp only [bx] at c95
            refine Wp.region ?_
            refine Ro.q (v := (.agg #[(i 0), (i 0), (i 0)])) rfl rfl (r_build (v := (.agg #[(i 0), (i 0), (i 0)])) pn (fun w => by kernel_rfl)) rfl ?_
            refine Ro.q (v := (i 10)) rfl rfl (r_assign rfl) rfl ?_
            refine Ro.d0 rfl rfl rfl (H.store (j := 0) (off := 0) (k := 3) rfl sz91 rfl (v := (.agg #[(i 0), (i 0), (i 0)])) rfl rfl rfl rfl rfl (by simp [Value.oneCell']) (cs' := [i 0, i 0, i 0]) rfl ?_)
            intro w96 Hn; replace H := Hn; clear Hn
            refine Ro.nil (nT ?_)
            refine Wp.seq ?_
            let qq97 : Bool := decide ((iofE t x) = 10)
            let qq98 : Bool := ((decide (((iofQ t x).day) = 0) && decide (((iofQ t x).zero) = 0)) && decide (((iofQ t x).err) = 0))
            let qq99 : Bool := (qq97 && qq98)
            let qq100 : Bool := (qq99 && true)
            refine Wp.factsS 18 [is (i (iofE t x)), is (i 10), is (.bool qq97), is (.bool qq97), gdv (True ∧ qq97 = true) (.agg #[(i ((iofQ t x).day)), (i ((iofQ t x).zero)), (i ((iofQ t x).err))]), gdv (True ∧ qq97 = true) (p b89 0), gdv (True ∧ qq97 = true) (i 0), gdv (True ∧ qq97 = true) (p b89 1), gdv (True ∧ qq97 = true) (i 0), gdv (True ∧ qq97 = true) (p b89 2), gdv (True ∧ qq97 = true) (i 0), gdv (True ∧ qq97 = true) (.agg #[(i 0), (i 0), (i 0)]), gdv (True ∧ qq97 = true) (.bool qq98), is (.bool qq99), is (.bool qq99), gdv (True ∧ qq99 = true) (.bool true), is (.bool qq100), is (.bool qq100)] (by kernel_rfl) (Mi (Mi (Mi (Mi (Mg (Mg (Mg (Mg (Mg (Mg (Mg (Mg (Mg (Mi (Mi (Mg (Mi (Mi Mono.nil)))))))))))))))))) (fun w' k => H.ext k) ?_ ?_
            · refine ⟨?_, ⟨?_, ⟨?_, ⟨?_, ⟨?_, ⟨?_, ⟨?_, ⟨?_, ⟨?_, ⟨?_, ⟨?_, ⟨?_, ⟨?_, ⟨?_, ⟨?_, ⟨?_, ⟨?_, ⟨?_, trivial⟩⟩⟩⟩⟩⟩⟩⟩⟩⟩⟩⟩⟩⟩⟩⟩⟩⟩
              · exact Ob.q rfl (fun _ _ B U D => (r_move ((U 6 rfl).trans f73))) rfl rfl
              · exact Ob.q rfl (fun _ _ B U D => (r_move (show (_ : Value) = (i 10) from U 7 rfl))) rfl rfl
              · exact Ob.q rfl (fun _ _ B U D => (r_eql (D 0 rfl) (D 1 rfl))) rfl rfl
              · exact Ob.q rfl (fun _ _ B U D => (r_move (D 2 rfl))) rfl rfl
              · exact Ob.g0 rfl rfl (fun _ _ _ D => D 3 rfl) rfl (fun _ _ B U D hC hg => (r_load ta103 ((U 5 rfl).trans f72) (B.cells 1 rfl) (j := 0) rfl (vs := [i ((iofQ t x).day), i ((iofQ t x).zero), i ((iofQ t x).err)]) rfl rfl)) rfl
              · exact Ob.g0 rfl rfl (fun _ _ _ D => D 3 rfl) rfl (fun _ _ B U D hC hg => (r_fieldAddr fo91_0 (show (_ : Value) = (p b89 0) from U 8 rfl) rfl)) rfl
              · exact Ob.g0 rfl rfl (fun _ _ _ D => D 3 rfl) rfl (fun _ _ B U D hC hg => (r_load1 t1_3 (gdy (D 5 rfl) ⟨hC, hg⟩) (B.cells 0 rfl) (j := 0) rfl rfl)) rfl
              · exact Ob.g0 rfl rfl (fun _ _ _ D => D 3 rfl) rfl (fun _ _ B U D hC hg => (r_fieldAddr fo91_1 (show (_ : Value) = (p b89 0) from U 8 rfl) rfl)) rfl
              · exact Ob.g0 rfl rfl (fun _ _ _ D => D 3 rfl) rfl (fun _ _ B U D hC hg => (r_load1 t1_3 (gdy (D 7 rfl) ⟨hC, hg⟩) (B.cells 0 rfl) (j := 1) rfl rfl)) rfl
              · exact Ob.g0 rfl rfl (fun _ _ _ D => D 3 rfl) rfl (fun _ _ B U D hC hg => (r_fieldAddr fo91_2 (show (_ : Value) = (p b89 0) from U 8 rfl) rfl)) rfl
              · exact Ob.g0 rfl rfl (fun _ _ _ D => D 3 rfl) rfl (fun _ _ B U D hC hg => (r_load1 t1_3 (gdy (D 9 rfl) ⟨hC, hg⟩) (B.cells 0 rfl) (j := 2) rfl rfl)) rfl
              · exact Ob.g0 rfl rfl (fun _ _ _ D => D 3 rfl) rfl (fun _ _ B U D hC hg => (r_build (v := (.agg #[(i 0), (i 0), (i 0)])) (pe (v := (i 0)) (gdy (D 6 rfl) ⟨hC, hg⟩) (pe (v := (i 0)) (gdy (D 8 rfl) ⟨hC, hg⟩) (pe (v := (i 0)) (gdy (D 10 rfl) ⟨hC, hg⟩) pn))) (fun w => by kernel_rfl))) rfl
              · exact Ob.g0 rfl rfl (fun _ _ _ D => D 3 rfl) rfl (fun _ _ B U D hC hg => (r_eqS (eq103 ((iofQ t x).day) ((iofQ t x).zero) ((iofQ t x).err) 0 0 0) (gdy (D 4 rfl) ⟨hC, hg⟩) (gdy (D 11 rfl) ⟨hC, hg⟩))) rfl
              · exact Ob.q rfl (fun _ _ B U D => (r_pick (v := (.bool qq99)) (D 3 rfl) (fun eP => (gdy (D 12 rfl) ⟨trivial, eP⟩).trans (and_t eP)) (fun eP => and_f eP))) rfl rfl
              · exact Ob.q rfl (fun _ _ B U D => (r_move (D 13 rfl))) rfl rfl
              · exact Ob.gd (C := True) (g := qq99) rfl rfl (fun ρ' w' U D => ⟨fun _ => (D 14 rfl), fun h => absurd trivial h⟩) (fun _ h => ⟨fun hc => absurd hc (no_of h), fun _ => rfl⟩) fun ρ' w' B U D hC hg => d_call rfl en16 cn (c16 _) (fun u w2 k2 hu => ⟨k2, ⟨fun _ => hu, fun n => absurd ⟨hC, hg⟩ n⟩⟩)
              · exact Ob.q rfl (fun _ _ B U D => (r_pick (v := (.bool qq100)) (D 14 rfl) (fun eP => (gdy (D 15 rfl) ⟨trivial, eP⟩).trans (and_t eP)) (fun eP => and_f eP))) rfl rfl
              · exact Ob.q rfl (fun _ _ B U D => (r_assign (D 16 rfl))) rfl rfl
            intro ρ101 w102 k103 U104 D105; replace H := H.ext k103
            have f106 : ρ101 4 = (.bool qq100) := D105 17 rfl
            clear U104 D105 k103
            refine Ro.nil (nT ?_)
            refine Wp.ret (bodyR ?_)
            refine leave_tmp (v := (.bool (((decide ((iofE t x) = 10)) && ((decide (((iofQ t x).day) = 0) && decide (((iofQ t x).zero) = 0)) && decide (((iofQ t x).err) = 0))) && true))) Tryz.results13 f106 ⟨H.keep, ?_⟩
            have hbr : x.broken = false := by have h := c76; rcases h with h | h; (exact absurd ht0 h); exact h
            have hsp := firstN_spec (P := iceAt (wr t x)) 21 0 (by omega)
            have hn : iceN t x = -1 := by have h := c95; unfold iceN at h ⊢; omega
            have e := iof_none ht0 hread hbr hn
            refine congrArg Value.bool ?_
            rw [e.1, e.2]; simp
          · intro c95
            have c95r := c95
            simp only [bx] at c95
            refine Wp.skip (nT ?_)
            refine Wp.seq ?_
            let qq107 : Bool := decide ((iofE t x) = (tubeEt t))
            let qq108 : Bool := ((decide (((iofQ t x).day) = ((refI t x).day)) && decide (((iofQ t x).zero) = ((refI t x).zero))) && decide (((iofQ t x).err) = ((refI t x).err)))
            let qq109 : Bool := (qq107 && qq108)
            let qq110 : Bool := (qq109 && true)
            refine Wp.factsS 18 [is (i (iofE t x)), is (i (tubeEt t)), is (.bool qq107), is (.bool qq107), gdv (True ∧ qq107 = true) (.agg #[(i ((iofQ t x).day)), (i ((iofQ t x).zero)), (i ((iofQ t x).err))]), gdv (True ∧ qq107 = true) (p b89 0), gdv (True ∧ qq107 = true) (i ((refI t x).day)), gdv (True ∧ qq107 = true) (p b89 1), gdv (True ∧ qq107 = true) (i ((refI t x).zero)), gdv (True ∧ qq107 = true) (p b89 2), gdv (True ∧ qq107 = true) (i ((refI t x).err)), gdv (True ∧ qq107 = true) (.agg #[(i ((refI t x).day)), (i ((refI t x).zero)), (i ((refI t x).err))]), gdv (True ∧ qq107 = true) (.bool qq108), is (.bool qq109), is (.bool qq109), gdv (True ∧ qq109 = true) (.bool true), is (.bool qq110), is (.bool qq110)] (by kernel_rfl) (Mi (Mi (Mi (Mi (Mg (Mg (Mg (Mg (Mg (Mg (Mg (Mg (Mg (Mi (Mi (Mg (Mi (Mi Mono.nil)))))))))))))))))) (fun w' k => H.ext k) ?_ ?_
            · refine ⟨?_, ⟨?_, ⟨?_, ⟨?_, ⟨?_, ⟨?_, ⟨?_, ⟨?_, ⟨?_, ⟨?_, ⟨?_, ⟨?_, ⟨?_, ⟨?_, ⟨?_, ⟨?_, ⟨?_, ⟨?_, trivial⟩⟩⟩⟩⟩⟩⟩⟩⟩⟩⟩⟩⟩⟩⟩⟩⟩⟩
              · exact Ob.q rfl (fun _ _ B U D => (r_move ((U 6 rfl).trans f73))) rfl rfl
              · exact Ob.q rfl (fun _ _ B U D => (r_move ((U 7 rfl).trans f74))) rfl rfl
              · exact Ob.q rfl (fun _ _ B U D => (r_eql (D 0 rfl) (D 1 rfl))) rfl rfl
              · exact Ob.q rfl (fun _ _ B U D => (r_move (D 2 rfl))) rfl rfl
              · exact Ob.g0 rfl rfl (fun _ _ _ D => D 3 rfl) rfl (fun _ _ B U D hC hg => (r_load ta103 ((U 5 rfl).trans f72) (B.cells 1 rfl) (j := 0) rfl (vs := [i ((iofQ t x).day), i ((iofQ t x).zero), i ((iofQ t x).err)]) rfl rfl)) rfl
              · exact Ob.g0 rfl rfl (fun _ _ _ D => D 3 rfl) rfl (fun _ _ B U D hC hg => (r_fieldAddr fo91_0 (show (_ : Value) = (p b89 0) from U 8 rfl) rfl)) rfl
              · exact Ob.g0 rfl rfl (fun _ _ _ D => D 3 rfl) rfl (fun _ _ B U D hC hg => (r_load1 t1_3 (gdy (D 5 rfl) ⟨hC, hg⟩) (B.cells 0 rfl) (j := 0) rfl rfl)) rfl
              · exact Ob.g0 rfl rfl (fun _ _ _ D => D 3 rfl) rfl (fun _ _ B U D hC hg => (r_fieldAddr fo91_1 (show (_ : Value) = (p b89 0) from U 8 rfl) rfl)) rfl
              · exact Ob.g0 rfl rfl (fun _ _ _ D => D 3 rfl) rfl (fun _ _ B U D hC hg => (r_load1 t1_3 (gdy (D 7 rfl) ⟨hC, hg⟩) (B.cells 0 rfl) (j := 1) rfl rfl)) rfl
              · exact Ob.g0 rfl rfl (fun _ _ _ D => D 3 rfl) rfl (fun _ _ B U D hC hg => (r_fieldAddr fo91_2 (show (_ : Value) = (p b89 0) from U 8 rfl) rfl)) rfl
              · exact Ob.g0 rfl rfl (fun _ _ _ D => D 3 rfl) rfl (fun _ _ B U D hC hg => (r_load1 t1_3 (gdy (D 9 rfl) ⟨hC, hg⟩) (B.cells 0 rfl) (j := 2) rfl rfl)) rfl
              · exact Ob.g0 rfl rfl (fun _ _ _ D => D 3 rfl) rfl (fun _ _ B U D hC hg => (r_build (v := (.agg #[(i ((refI t x).day)), (i ((refI t x).zero)), (i ((refI t x).err))])) (pe (v := (i ((refI t x).day))) (gdy (D 6 rfl) ⟨hC, hg⟩) (pe (v := (i ((refI t x).zero))) (gdy (D 8 rfl) ⟨hC, hg⟩) (pe (v := (i ((refI t x).err))) (gdy (D 10 rfl) ⟨hC, hg⟩) pn))) (fun w => by kernel_rfl))) rfl
              · exact Ob.g0 rfl rfl (fun _ _ _ D => D 3 rfl) rfl (fun _ _ B U D hC hg => (r_eqS (eq103 ((iofQ t x).day) ((iofQ t x).zero) ((iofQ t x).err) ((refI t x).day) ((refI t x).zero) ((refI t x).err)) (gdy (D 4 rfl) ⟨hC, hg⟩) (gdy (D 11 rfl) ⟨hC, hg⟩))) rfl
              · exact Ob.q rfl (fun _ _ B U D => (r_pick (v := (.bool qq109)) (D 3 rfl) (fun eP => (gdy (D 12 rfl) ⟨trivial, eP⟩).trans (and_t eP)) (fun eP => and_f eP))) rfl rfl
              · exact Ob.q rfl (fun _ _ B U D => (r_move (D 13 rfl))) rfl rfl
              · exact Ob.gd (C := True) (g := qq109) rfl rfl (fun ρ' w' U D => ⟨fun _ => (D 14 rfl), fun h => absurd trivial h⟩) (fun _ h => ⟨fun hc => absurd hc (no_of h), fun _ => rfl⟩) fun ρ' w' B U D hC hg => d_call rfl en16 cn (c16 _) (fun u w2 k2 hu => ⟨k2, ⟨fun _ => hu, fun n => absurd ⟨hC, hg⟩ n⟩⟩)
              · exact Ob.q rfl (fun _ _ B U D => (r_pick (v := (.bool qq110)) (D 14 rfl) (fun eP => (gdy (D 15 rfl) ⟨trivial, eP⟩).trans (and_t eP)) (fun eP => and_f eP))) rfl rfl
              · exact Ob.q rfl (fun _ _ B U D => (r_assign (D 16 rfl))) rfl rfl
            intro ρ111 w112 k113 U114 D115; replace H := H.ext k113
            have f116 : ρ111 4 = (.bool qq110) := D115 17 rfl
            clear U114 D115 k113
            refine Ro.nil (nT ?_)
            refine Wp.ret (bodyR ?_)
            refine leave_tmp (v := (.bool (((decide ((iofE t x) = (tubeEt t))) && ((decide (((iofQ t x).day) = ((refI t x).day)) && decide (((iofQ t x).zero) = ((refI t x).zero))) && decide (((iofQ t x).err) = ((refI t x).err)))) && true))) Tryz.results13 f116 ⟨H.keep, ?_⟩
            have hbr : x.broken = false := by have h := c76; rcases h with h | h; (exact absurd ht0 h); exact h
            have hsp := firstN_spec (P := iceAt (wr t x)) 21 0 (by omega)
            have h0 : 0 ≤ iceN t x := by have h := c95; omega
            have e := iof_some ht0 hread hbr rfl h0
            have r := refI_yes (t := t) (x := x) rfl h0 rfl
            rw [r]
            refine congrArg Value.bool ?_
            rw [e.1, e.2]; simp; exact ht0.symm
        · intro c91
          have c91r := c91
          simp only [bx] at c91
          refine Wp.skip (nT ?_)
          refine Wp.seq ?_
          let qq117 : Bool := decide ((iofE t x) = (tubeEt t))
          let qq118 : Bool := ((decide (((iofQ t x).day) = 0) && decide (((iofQ t x).zero) = 0)) && decide (((iofQ t x).err) = 0))
          let qq119 : Bool := (qq117 && qq118)
          let qq120 : Bool := (qq119 && true)
          refine Wp.factsS 18 [is (i (iofE t x)), is (i (tubeEt t)), is (.bool qq117), is (.bool qq117), gdv (True ∧ qq117 = true) (.agg #[(i ((iofQ t x).day)), (i ((iofQ t x).zero)), (i ((iofQ t x).err))]), gdv (True ∧ qq117 = true) (p b89 0), gdv (True ∧ qq117 = true) (i 0), gdv (True ∧ qq117 = true) (p b89 1), gdv (True ∧ qq117 = true) (i 0), gdv (True ∧ qq117 = true) (p b89 2), gdv (True ∧ qq117 = true) (i 0), gdv (True ∧ qq117 = true) (.agg #[(i 0), (i 0), (i 0)]), gdv (True ∧ qq117 = true) (.bool qq118), is (.bool qq119), is (.bool qq119), gdv (True ∧ qq119 = true) (.bool true), is (.bool qq120), is (.bool qq120)] (by kernel_rfl) (Mi (Mi (Mi (Mi (Mg (Mg (Mg (Mg (Mg (Mg (Mg (Mg (Mg (Mi (Mi (Mg (Mi (Mi Mono.nil)))))))))))))))))) (fun w' k => H.ext k) ?_ ?_
          · refine ⟨?_, ⟨?_, ⟨?_, ⟨?_, ⟨?_, ⟨?_, ⟨?_, ⟨?_, ⟨?_, ⟨?_, ⟨?_, ⟨?_, ⟨?_, ⟨?_, ⟨?_, ⟨?_, ⟨?_, ⟨?_, trivial⟩⟩⟩⟩⟩⟩⟩⟩⟩⟩⟩⟩⟩⟩⟩⟩⟩⟩
            · exact Ob.q rfl (fun _ _ B U D => (r_move ((U 6 rfl).trans f73))) rfl rfl
            · exact Ob.q rfl (fun _ _ B U D => (r_move ((U 7 rfl).trans f74))) rfl rfl
            · exact Ob.q rfl (fun _ _ B U D => (r_eql (D 0 rfl) (D 1 rfl))) rfl rfl
            · exact Ob.q rfl (fun _ _ B U D => (r_move (D 2 rfl))) rfl rfl
            · exact Ob.g0 rfl rfl (fun _ _ _ D => D 3 rfl) rfl (fun _ _ B U D hC hg => (r_load ta103 ((U 5 rfl).trans f72) (B.cells 1 rfl) (j := 0) rfl (vs := [i ((iofQ t x).day), i ((iofQ t x).zero), i ((iofQ t x).err)]) rfl rfl)) rfl
            · exact Ob.g0 rfl rfl (fun _ _ _ D => D 3 rfl) rfl (fun _ _ B U D hC hg => (r_fieldAddr fo91_0 (show (_ : Value) = (p b89 0) from U 8 rfl) rfl)) rfl
            · exact Ob.g0 rfl rfl (fun _ _ _ D => D 3 rfl) rfl (fun _ _ B U D hC hg => (r_load1 t1_3 (gdy (D 5 rfl) ⟨hC, hg⟩) (B.cells 0 rfl) (j := 0) rfl rfl)) rfl
            · exact Ob.g0 rfl rfl (fun _ _ _ D => D 3 rfl) rfl (fun _ _ B U D hC hg => (r_fieldAddr fo91_1 (show (_ : Value) = (p b89 0) from U 8 rfl) rfl)) rfl
            · exact Ob.g0 rfl rfl (fun _ _ _ D => D 3 rfl) rfl (fun _ _ B U D hC hg => (r_load1 t1_3 (gdy (D 7 rfl) ⟨hC, hg⟩) (B.cells 0 rfl) (j := 1) rfl rfl)) rfl
            · exact Ob.g0 rfl rfl (fun _ _ _ D => D 3 rfl) rfl (fun _ _ B U D hC hg => (r_fieldAddr fo91_2 (show (_ : Value) = (p b89 0) from U 8 rfl) rfl)) rfl
            · exact Ob.g0 rfl rfl (fun _ _ _ D => D 3 rfl) rfl (fun _ _ B U D hC hg => (r_load1 t1_3 (gdy (D 9 rfl) ⟨hC, hg⟩) (B.cells 0 rfl) (j := 2) rfl rfl)) rfl
            · exact Ob.g0 rfl rfl (fun _ _ _ D => D 3 rfl) rfl (fun _ _ B U D hC hg => (r_build (v := (.agg #[(i 0), (i 0), (i 0)])) (pe (v := (i 0)) (gdy (D 6 rfl) ⟨hC, hg⟩) (pe (v := (i 0)) (gdy (D 8 rfl) ⟨hC, hg⟩) (pe (v := (i 0)) (gdy (D 10 rfl) ⟨hC, hg⟩) pn))) (fun w => by kernel_rfl))) rfl
            · exact Ob.g0 rfl rfl (fun _ _ _ D => D 3 rfl) rfl (fun _ _ B U D hC hg => (r_eqS (eq103 ((iofQ t x).day) ((iofQ t x).zero) ((iofQ t x).err) 0 0 0) (gdy (D 4 rfl) ⟨hC, hg⟩) (gdy (D 11 rfl) ⟨hC, hg⟩))) rfl
            · exact Ob.q rfl (fun _ _ B U D => (r_pick (v := (.bool qq119)) (D 3 rfl) (fun eP => (gdy (D 12 rfl) ⟨trivial, eP⟩).trans (and_t eP)) (fun eP => and_f eP))) rfl rfl
            · exact Ob.q rfl (fun _ _ B U D => (r_move (D 13 rfl))) rfl rfl
            · exact Ob.gd (C := True) (g := qq119) rfl rfl (fun ρ' w' U D => ⟨fun _ => (D 14 rfl), fun h => absurd trivial h⟩) (fun _ h => ⟨fun hc => absurd hc (no_of h), fun _ => rfl⟩) fun ρ' w' B U D hC hg => d_call rfl en16 cn (c16 _) (fun u w2 k2 hu => ⟨k2, ⟨fun _ => hu, fun n => absurd ⟨hC, hg⟩ n⟩⟩)
            · exact Ob.q rfl (fun _ _ B U D => (r_pick (v := (.bool qq120)) (D 14 rfl) (fun eP => (gdy (D 15 rfl) ⟨trivial, eP⟩).trans (and_t eP)) (fun eP => and_f eP))) rfl rfl
            · exact Ob.q rfl (fun _ _ B U D => (r_assign (D 16 rfl))) rfl rfl
          intro ρ121 w122 k123 U124 D125; replace H := H.ext k123
          have f126 : ρ121 4 = (.bool qq120) := D125 17 rfl
          clear U124 D125 k123
          refine Ro.nil (nT ?_)
          refine Wp.ret (bodyR ?_)
          refine leave_tmp (v := (.bool (((decide ((iofE t x) = (tubeEt t))) && ((decide (((iofQ t x).day) = 0) && decide (((iofQ t x).zero) = 0)) && decide (((iofQ t x).err) = 0))) && true))) Tryz.results13 f126 ⟨H.keep, ?_⟩
          have e := iof_tube (x := x) c91
          refine congrArg Value.bool ?_
          rw [e.1, e.2]; simp
end Go.Proofs.YthfnjppieihcfaaGreat
