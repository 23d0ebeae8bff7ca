/-
  No cell of these rows narrows 'for every input' (looked for: loops, veiled, ifaces, maps, wideKeys, modest, calm, conditions, laid).
  DERIVED. THE GIVEN ROWS OF THIS SEAT. 12 by the template 'for every input the law returns true; each argument reads behind the call as it read before'; 0 by the template 'total and deterministic' (their statements: YthfnjppieihcfaaGreatTotals.lean).
  GIVEN WITH THE SEED: the statements are not yours to turn. If you find one false, say at which input.
  Laid BY PROGRAM, IN A SANDBOX (cutbox-rows.mjs): the forced cells as the released guide's own fill.sh prints them over the translation 2e2261017e3550b8… (all of the seat's roots in one cut). By AI agents, Wed Nov 11 2026. No macro, syntax, notation, axiom, sorry.
-/
import Derived.Test.YthfnjppieihcfaaGreatChecked
import GoSem.Claim
import GoSem.ClaimJoined
import GoSem.ClaimMapViews
import Derived.JoinedTies
import Derived.KernelRfl
namespace Go.Proofs.YthfnjppieihcfaaGreat
/- THE CELL 'sum', in the pinned program and in every row, IS THE sha256 OF THE DUMP (.gsa) THAT YthfnjppieihcfaaGreatProg.lean LOADS. Nothing in Lean hashes anything: it is a label: what it is worth is what the hold of that sum in a sandbox is worth. -/
noncomputable def Tryz.pinned : Pinned := { name := "ythfnjppieihcfaagreat", sum := "2e2261017e3550b8f04de5714f1122b09c29b230b3b7c82df8d7168d14536b9f", checked := Tryz.checked }
namespace Rows
def none {H : Type} : Left H := { results := [], args := [] }

/-- 'meniscuslaw06.StemBares': WHATEVER THE INPUT: true; the input reads as it did. -/
def stemBaresSpec : ChangeSpec := { name := "stemBares", fn := fun _ => fun
  | [d1, d2, d3, d4, d5] => { results := [.lit (.bool true)], args := [d1, d2, d3, d4, d5] }
  | _ => none }
def stemBaresRow : OpenClaim := { program := "ythfnjppieihcfaagreat", sum := "2e2261017e3550b8f04de5714f1122b09c29b230b3b7c82df8d7168d14536b9f", func := "meniscus/meniscuslaw06.StemBares", spec := "stemBares", unfollowed := true, recurses := true, plainKeys := false, apart := false }
def StemBaresSaid : Prop := stemBaresRow.holds Tryz.pinned (OpenSpec.ofChange stemBaresSpec)

/-- ITS FALSE NEIGHBOUR: 'it returns false'. Refute it at one input. -/
def stemBaresWrong : ChangeSpec := { name := "stemBares", fn := fun _ => fun
  | [d1, d2, d3, d4, d5] => { results := [.lit (.bool false)], args := [d1, d2, d3, d4, d5] }
  | _ => none }
def StemBaresWrongFalsely : Prop := stemBaresRow.holds Tryz.pinned (OpenSpec.ofChange stemBaresWrong)

/-- 'meniscuslaw06.StemSames': WHATEVER THE INPUT: true; the input reads as it did. -/
def stemSamesSpec : ChangeSpec := { name := "stemSames", fn := fun _ => fun
  | [d1, d2, d3, d4] => { results := [.lit (.bool true)], args := [d1, d2, d3, d4] }
  | _ => none }
def stemSamesRow : OpenClaim := { program := "ythfnjppieihcfaagreat", sum := "2e2261017e3550b8f04de5714f1122b09c29b230b3b7c82df8d7168d14536b9f", func := "meniscus/meniscuslaw06.StemSames", spec := "stemSames", unfollowed := true, recurses := true, plainKeys := false, apart := false }
def StemSamesSaid : Prop := stemSamesRow.holds Tryz.pinned (OpenSpec.ofChange stemSamesSpec)

/-- ITS FALSE NEIGHBOUR: 'it returns false'. Refute it at one input. -/
def stemSamesWrong : ChangeSpec := { name := "stemSames", fn := fun _ => fun
  | [d1, d2, d3, d4] => { results := [.lit (.bool false)], args := [d1, d2, d3, d4] }
  | _ => none }
def StemSamesWrongFalsely : Prop := stemSamesRow.holds Tryz.pinned (OpenSpec.ofChange stemSamesWrong)

/-- 'meniscuslaw06.StemTruth': WHATEVER THE INPUT: true; the input reads as it did. -/
def stemTruthSpec : ChangeSpec := { name := "stemTruth", fn := fun _ => fun
  | [d1, d2, d3, d4, d5] => { results := [.lit (.bool true)], args := [d1, d2, d3, d4, d5] }
  | _ => none }
def stemTruthRow : OpenClaim := { program := "ythfnjppieihcfaagreat", sum := "2e2261017e3550b8f04de5714f1122b09c29b230b3b7c82df8d7168d14536b9f", func := "meniscus/meniscuslaw06.StemTruth", spec := "stemTruth", unfollowed := true, recurses := true, plainKeys := false, apart := false }
def StemTruthSaid : Prop := stemTruthRow.holds Tryz.pinned (OpenSpec.ofChange stemTruthSpec)

/-- ITS FALSE NEIGHBOUR: 'it returns false'. Refute it at one input. -/
def stemTruthWrong : ChangeSpec := { name := "stemTruth", fn := fun _ => fun
  | [d1, d2, d3, d4, d5] => { results := [.lit (.bool false)], args := [d1, d2, d3, d4, d5] }
  | _ => none }
def StemTruthWrongFalsely : Prop := stemTruthRow.holds Tryz.pinned (OpenSpec.ofChange stemTruthWrong)

/-- 'meniscuslaw06.StemEnds': WHATEVER THE INPUT: true; the input reads as it did. -/
def stemEndsSpec : ChangeSpec := { name := "stemEnds", fn := fun _ => fun
  | [d1, d2, d3, d4, d5] => { results := [.lit (.bool true)], args := [d1, d2, d3, d4, d5] }
  | _ => none }
def stemEndsRow : OpenClaim := { program := "ythfnjppieihcfaagreat", sum := "2e2261017e3550b8f04de5714f1122b09c29b230b3b7c82df8d7168d14536b9f", func := "meniscus/meniscuslaw06.StemEnds", spec := "stemEnds", unfollowed := true, recurses := true, plainKeys := false, apart := false }
def StemEndsSaid : Prop := stemEndsRow.holds Tryz.pinned (OpenSpec.ofChange stemEndsSpec)

/-- ITS FALSE NEIGHBOUR: 'it returns false'. Refute it at one input. -/
def stemEndsWrong : ChangeSpec := { name := "stemEnds", fn := fun _ => fun
  | [d1, d2, d3, d4, d5] => { results := [.lit (.bool false)], args := [d1, d2, d3, d4, d5] }
  | _ => none }
def StemEndsWrongFalsely : Prop := stemEndsRow.holds Tryz.pinned (OpenSpec.ofChange stemEndsWrong)

/-- 'meniscuslaw06.StemPlain': WHATEVER THE INPUT: true; the input reads as it did. -/
def stemPlainSpec : ChangeSpec := { name := "stemPlain", fn := fun _ => fun
  | [d1, d2, d3, d4, d5] => { results := [.lit (.bool true)], args := [d1, d2, d3, d4, d5] }
  | _ => none }
def stemPlainRow : OpenClaim := { program := "ythfnjppieihcfaagreat", sum := "2e2261017e3550b8f04de5714f1122b09c29b230b3b7c82df8d7168d14536b9f", func := "meniscus/meniscuslaw06.StemPlain", spec := "stemPlain", unfollowed := true, recurses := true, plainKeys := false, apart := false }
def StemPlainSaid : Prop := stemPlainRow.holds Tryz.pinned (OpenSpec.ofChange stemPlainSpec)

/-- ITS FALSE NEIGHBOUR: 'it returns false'. Refute it at one input. -/
def stemPlainWrong : ChangeSpec := { name := "stemPlain", fn := fun _ => fun
  | [d1, d2, d3, d4, d5] => { results := [.lit (.bool false)], args := [d1, d2, d3, d4, d5] }
  | _ => none }
def StemPlainWrongFalsely : Prop := stemPlainRow.holds Tryz.pinned (OpenSpec.ofChange stemPlainWrong)

/-- 'meniscuslaw06.StemSurer': WHATEVER THE INPUT: true; the input reads as it did. -/
def stemSurerSpec : ChangeSpec := { name := "stemSurer", fn := fun _ => fun
  | [d1, d2, d3, d4, d5, d6, d7, d8] => { results := [.lit (.bool true)], args := [d1, d2, d3, d4, d5, d6, d7, d8] }
  | _ => none }
def stemSurerRow : OpenClaim := { program := "ythfnjppieihcfaagreat", sum := "2e2261017e3550b8f04de5714f1122b09c29b230b3b7c82df8d7168d14536b9f", func := "meniscus/meniscuslaw06.StemSurer", spec := "stemSurer", unfollowed := true, recurses := true, plainKeys := false, apart := false }
def StemSurerSaid : Prop := stemSurerRow.holds Tryz.pinned (OpenSpec.ofChange stemSurerSpec)

/-- ITS FALSE NEIGHBOUR: 'it returns false'. Refute it at one input. -/
def stemSurerWrong : ChangeSpec := { name := "stemSurer", fn := fun _ => fun
  | [d1, d2, d3, d4, d5, d6, d7, d8] => { results := [.lit (.bool false)], args := [d1, d2, d3, d4, d5, d6, d7, d8] }
  | _ => none }
def StemSurerWrongFalsely : Prop := stemSurerRow.holds Tryz.pinned (OpenSpec.ofChange stemSurerWrong)

/-- 'meniscuslaw06.StemTogether': WHATEVER THE INPUT: true; the input reads as it did. -/
def stemTogetherSpec : ChangeSpec := { name := "stemTogether", fn := fun _ => fun
  | [d1, d2, d3, d4, d5, d6] => { results := [.lit (.bool true)], args := [d1, d2, d3, d4, d5, d6] }
  | _ => none }
def stemTogetherRow : OpenClaim := { program := "ythfnjppieihcfaagreat", sum := "2e2261017e3550b8f04de5714f1122b09c29b230b3b7c82df8d7168d14536b9f", func := "meniscus/meniscuslaw06.StemTogether", spec := "stemTogether", unfollowed := true, recurses := true, plainKeys := false, apart := false }
def StemTogetherSaid : Prop := stemTogetherRow.holds Tryz.pinned (OpenSpec.ofChange stemTogetherSpec)

/-- ITS FALSE NEIGHBOUR: 'it returns false'. Refute it at one input. -/
def stemTogetherWrong : ChangeSpec := { name := "stemTogether", fn := fun _ => fun
  | [d1, d2, d3, d4, d5, d6] => { results := [.lit (.bool false)], args := [d1, d2, d3, d4, d5, d6] }
  | _ => none }
def StemTogetherWrongFalsely : Prop := stemTogetherRow.holds Tryz.pinned (OpenSpec.ofChange stemTogetherWrong)

/-- 'meniscuslaw06.StemCorrects': WHATEVER THE INPUT: true; the input reads as it did. -/
def stemCorrectsSpec : ChangeSpec := { name := "stemCorrects", fn := fun _ => fun
  | [d1, d2, d3, d4, d5] => { results := [.lit (.bool true)], args := [d1, d2, d3, d4, d5] }
  | _ => none }
def stemCorrectsRow : OpenClaim := { program := "ythfnjppieihcfaagreat", sum := "2e2261017e3550b8f04de5714f1122b09c29b230b3b7c82df8d7168d14536b9f", func := "meniscus/meniscuslaw06.StemCorrects", spec := "stemCorrects", unfollowed := true, recurses := true, plainKeys := false, apart := false }
def StemCorrectsSaid : Prop := stemCorrectsRow.holds Tryz.pinned (OpenSpec.ofChange stemCorrectsSpec)

/-- ITS FALSE NEIGHBOUR: 'it returns false'. Refute it at one input. -/
def stemCorrectsWrong : ChangeSpec := { name := "stemCorrects", fn := fun _ => fun
  | [d1, d2, d3, d4, d5] => { results := [.lit (.bool false)], args := [d1, d2, d3, d4, d5] }
  | _ => none }
def StemCorrectsWrongFalsely : Prop := stemCorrectsRow.holds Tryz.pinned (OpenSpec.ofChange stemCorrectsWrong)

/-- 'meniscuslaw06.StemRefused': WHATEVER THE INPUT: true; the input reads as it did. -/
def stemRefusedSpec : ChangeSpec := { name := "stemRefused", fn := fun _ => fun
  | [d1, d2, d3, d4, d5, d6, d7] => { results := [.lit (.bool true)], args := [d1, d2, d3, d4, d5, d6, d7] }
  | _ => none }
def stemRefusedRow : OpenClaim := { program := "ythfnjppieihcfaagreat", sum := "2e2261017e3550b8f04de5714f1122b09c29b230b3b7c82df8d7168d14536b9f", func := "meniscus/meniscuslaw06.StemRefused", spec := "stemRefused", unfollowed := true, recurses := true, plainKeys := false, apart := false }
def StemRefusedSaid : Prop := stemRefusedRow.holds Tryz.pinned (OpenSpec.ofChange stemRefusedSpec)

/-- ITS FALSE NEIGHBOUR: 'it returns false'. Refute it at one input. -/
def stemRefusedWrong : ChangeSpec := { name := "stemRefused", fn := fun _ => fun
  | [d1, d2, d3, d4, d5, d6, d7] => { results := [.lit (.bool false)], args := [d1, d2, d3, d4, d5, d6, d7] }
  | _ => none }
def StemRefusedWrongFalsely : Prop := stemRefusedRow.holds Tryz.pinned (OpenSpec.ofChange stemRefusedWrong)

/-- 'meniscuslaw06.StemMuch': WHATEVER THE INPUT: true; the input reads as it did. -/
def stemMuchSpec : ChangeSpec := { name := "stemMuch", fn := fun _ => fun
  | [d1, d2, d3, d4, d5, d6, d7] => { results := [.lit (.bool true)], args := [d1, d2, d3, d4, d5, d6, d7] }
  | _ => none }
def stemMuchRow : OpenClaim := { program := "ythfnjppieihcfaagreat", sum := "2e2261017e3550b8f04de5714f1122b09c29b230b3b7c82df8d7168d14536b9f", func := "meniscus/meniscuslaw06.StemMuch", spec := "stemMuch", unfollowed := true, recurses := true, plainKeys := false, apart := false }
def StemMuchSaid : Prop := stemMuchRow.holds Tryz.pinned (OpenSpec.ofChange stemMuchSpec)

/-- ITS FALSE NEIGHBOUR: 'it returns false'. Refute it at one input. -/
def stemMuchWrong : ChangeSpec := { name := "stemMuch", fn := fun _ => fun
  | [d1, d2, d3, d4, d5, d6, d7] => { results := [.lit (.bool false)], args := [d1, d2, d3, d4, d5, d6, d7] }
  | _ => none }
def StemMuchWrongFalsely : Prop := stemMuchRow.holds Tryz.pinned (OpenSpec.ofChange stemMuchWrong)

/-- 'meniscuslaw06.StemIces': WHATEVER THE INPUT: true; the input reads as it did. -/
def stemIcesSpec : ChangeSpec := { name := "stemIces", fn := fun _ => fun
  | [d1, d2] => { results := [.lit (.bool true)], args := [d1, d2] }
  | _ => none }
def stemIcesRow : OpenClaim := { program := "ythfnjppieihcfaagreat", sum := "2e2261017e3550b8f04de5714f1122b09c29b230b3b7c82df8d7168d14536b9f", func := "meniscus/meniscuslaw06.StemIces", spec := "stemIces", unfollowed := true, recurses := true, plainKeys := false, apart := false }
def StemIcesSaid : Prop := stemIcesRow.holds Tryz.pinned (OpenSpec.ofChange stemIcesSpec)

/-- ITS FALSE NEIGHBOUR: 'it returns false'. Refute it at one input. -/
def stemIcesWrong : ChangeSpec := { name := "stemIces", fn := fun _ => fun
  | [d1, d2] => { results := [.lit (.bool false)], args := [d1, d2] }
  | _ => none }
def StemIcesWrongFalsely : Prop := stemIcesRow.holds Tryz.pinned (OpenSpec.ofChange stemIcesWrong)

/-- 'meniscuslaw06.StemIce': WHATEVER THE INPUT: true; the input reads as it did. -/
def stemIceSpec : ChangeSpec := { name := "stemIce", fn := fun _ => fun
  | [d1, d2, d3, d4, d5] => { results := [.lit (.bool true)], args := [d1, d2, d3, d4, d5] }
  | _ => none }
def stemIceRow : OpenClaim := { program := "ythfnjppieihcfaagreat", sum := "2e2261017e3550b8f04de5714f1122b09c29b230b3b7c82df8d7168d14536b9f", func := "meniscus/meniscuslaw06.StemIce", spec := "stemIce", unfollowed := true, recurses := true, plainKeys := false, apart := false }
def StemIceSaid : Prop := stemIceRow.holds Tryz.pinned (OpenSpec.ofChange stemIceSpec)

/-- ITS FALSE NEIGHBOUR: 'it returns false'. Refute it at one input. -/
def stemIceWrong : ChangeSpec := { name := "stemIce", fn := fun _ => fun
  | [d1, d2, d3, d4, d5] => { results := [.lit (.bool false)], args := [d1, d2, d3, d4, d5] }
  | _ => none }
def StemIceWrongFalsely : Prop := stemIceRow.holds Tryz.pinned (OpenSpec.ofChange stemIceWrong)

/- THE SECOND FORM. 'bulk': how many values and letters a reading holds, each counted each time it is reached (what is shared counts as often as it is met; a slice's spare places count too). A statement '..UptoSaid' is the law's where the arguments, and the package variables that the reading takes, are together of bulk at most 1048576: NARROWER than '..Said'. Prove '..Said' where nothing that the law and all that it calls make is longer than what came in: it says more and counts as full. Else prove '..UptoSaid'. A law counts once. -/
mutual
def uptoBulk {H : Type} : DataW H → Nat
  | .lit (.string bytes) => bytes.length + 1
  | .lit _ => 1
  | .nil => 1
  | .ptr d => uptoBulk d + 1
  | .slice elems spare => uptoBulkAll elems + uptoBulkAll spare + 1
  | .agg parts => uptoBulkAll parts + 1
  | .iface _ d => uptoBulk d + 1
  | .map entries => uptoBulkEntries entries + 1
  | .held _ => 1
def uptoBulkAll {H : Type} : List (DataW H) → Nat
  | [] => 0
  | d :: r => uptoBulk d + uptoBulkAll r
def uptoBulkEntries {H : Type} : List (Lit × DataW H) → Nat
  | [] => 0
  | x :: r => uptoBulkEntry x + uptoBulkEntries r
def uptoBulkEntry {H : Type} : Lit × DataW H → Nat
  | (.string bytes, d) => bytes.length + uptoBulk d + 1
  | (_, d) => uptoBulk d + 1
 end
def uptoSmall : (H : Type) → List (DataW H) → Bool := fun _ ds => decide (uptoBulkAll ds ≤ 1048576)
def OpenSpec.upto (s : _root_.Go.ChangeSpec) : _root_.Go.OpenSpec := { _root_.Go.OpenSpec.ofChange s with cond := some uptoSmall }

/-- 'meniscuslaw06.StemBares', WHERE WHAT IT READS IS OF BULK AT MOST 1048576: true; the input reads as it did. -/
def stemBaresUptoRow : OpenClaim := { program := "ythfnjppieihcfaagreat", sum := "2e2261017e3550b8f04de5714f1122b09c29b230b3b7c82df8d7168d14536b9f", func := "meniscus/meniscuslaw06.StemBares", spec := "stemBares", unfollowed := true, recurses := true, plainKeys := false, apart := false, narrowed := true }
def StemBaresUptoSaid : Prop := stemBaresUptoRow.holds Tryz.pinned (OpenSpec.upto stemBaresSpec)

/-- 'meniscuslaw06.StemSames', WHERE WHAT IT READS IS OF BULK AT MOST 1048576: true; the input reads as it did. -/
def stemSamesUptoRow : OpenClaim := { program := "ythfnjppieihcfaagreat", sum := "2e2261017e3550b8f04de5714f1122b09c29b230b3b7c82df8d7168d14536b9f", func := "meniscus/meniscuslaw06.StemSames", spec := "stemSames", unfollowed := true, recurses := true, plainKeys := false, apart := false, narrowed := true }
def StemSamesUptoSaid : Prop := stemSamesUptoRow.holds Tryz.pinned (OpenSpec.upto stemSamesSpec)

/-- 'meniscuslaw06.StemTruth', WHERE WHAT IT READS IS OF BULK AT MOST 1048576: true; the input reads as it did. -/
def stemTruthUptoRow : OpenClaim := { program := "ythfnjppieihcfaagreat", sum := "2e2261017e3550b8f04de5714f1122b09c29b230b3b7c82df8d7168d14536b9f", func := "meniscus/meniscuslaw06.StemTruth", spec := "stemTruth", unfollowed := true, recurses := true, plainKeys := false, apart := false, narrowed := true }
def StemTruthUptoSaid : Prop := stemTruthUptoRow.holds Tryz.pinned (OpenSpec.upto stemTruthSpec)

/-- 'meniscuslaw06.StemEnds', WHERE WHAT IT READS IS OF BULK AT MOST 1048576: true; the input reads as it did. -/
def stemEndsUptoRow : OpenClaim := { program := "ythfnjppieihcfaagreat", sum := "2e2261017e3550b8f04de5714f1122b09c29b230b3b7c82df8d7168d14536b9f", func := "meniscus/meniscuslaw06.StemEnds", spec := "stemEnds", unfollowed := true, recurses := true, plainKeys := false, apart := false, narrowed := true }
def StemEndsUptoSaid : Prop := stemEndsUptoRow.holds Tryz.pinned (OpenSpec.upto stemEndsSpec)

/-- 'meniscuslaw06.StemPlain', WHERE WHAT IT READS IS OF BULK AT MOST 1048576: true; the input reads as it did. -/
def stemPlainUptoRow : OpenClaim := { program := "ythfnjppieihcfaagreat", sum := "2e2261017e3550b8f04de5714f1122b09c29b230b3b7c82df8d7168d14536b9f", func := "meniscus/meniscuslaw06.StemPlain", spec := "stemPlain", unfollowed := true, recurses := true, plainKeys := false, apart := false, narrowed := true }
def StemPlainUptoSaid : Prop := stemPlainUptoRow.holds Tryz.pinned (OpenSpec.upto stemPlainSpec)

/-- 'meniscuslaw06.StemSurer', WHERE WHAT IT READS IS OF BULK AT MOST 1048576: true; the input reads as it did. -/
def stemSurerUptoRow : OpenClaim := { program := "ythfnjppieihcfaagreat", sum := "2e2261017e3550b8f04de5714f1122b09c29b230b3b7c82df8d7168d14536b9f", func := "meniscus/meniscuslaw06.StemSurer", spec := "stemSurer", unfollowed := true, recurses := true, plainKeys := false, apart := false, narrowed := true }
def StemSurerUptoSaid : Prop := stemSurerUptoRow.holds Tryz.pinned (OpenSpec.upto stemSurerSpec)

/-- 'meniscuslaw06.StemTogether', WHERE WHAT IT READS IS OF BULK AT MOST 1048576: true; the input reads as it did. -/
def stemTogetherUptoRow : OpenClaim := { program := "ythfnjppieihcfaagreat", sum := "2e2261017e3550b8f04de5714f1122b09c29b230b3b7c82df8d7168d14536b9f", func := "meniscus/meniscuslaw06.StemTogether", spec := "stemTogether", unfollowed := true, recurses := true, plainKeys := false, apart := false, narrowed := true }
def StemTogetherUptoSaid : Prop := stemTogetherUptoRow.holds Tryz.pinned (OpenSpec.upto stemTogetherSpec)

/-- 'meniscuslaw06.StemCorrects', WHERE WHAT IT READS IS OF BULK AT MOST 1048576: true; the input reads as it did. -/
def stemCorrectsUptoRow : OpenClaim := { program := "ythfnjppieihcfaagreat", sum := "2e2261017e3550b8f04de5714f1122b09c29b230b3b7c82df8d7168d14536b9f", func := "meniscus/meniscuslaw06.StemCorrects", spec := "stemCorrects", unfollowed := true, recurses := true, plainKeys := false, apart := false, narrowed := true }
def StemCorrectsUptoSaid : Prop := stemCorrectsUptoRow.holds Tryz.pinned (OpenSpec.upto stemCorrectsSpec)

/-- 'meniscuslaw06.StemRefused', WHERE WHAT IT READS IS OF BULK AT MOST 1048576: true; the input reads as it did. -/
def stemRefusedUptoRow : OpenClaim := { program := "ythfnjppieihcfaagreat", sum := "2e2261017e3550b8f04de5714f1122b09c29b230b3b7c82df8d7168d14536b9f", func := "meniscus/meniscuslaw06.StemRefused", spec := "stemRefused", unfollowed := true, recurses := true, plainKeys := false, apart := false, narrowed := true }
def StemRefusedUptoSaid : Prop := stemRefusedUptoRow.holds Tryz.pinned (OpenSpec.upto stemRefusedSpec)

/-- 'meniscuslaw06.StemMuch', WHERE WHAT IT READS IS OF BULK AT MOST 1048576: true; the input reads as it did. -/
def stemMuchUptoRow : OpenClaim := { program := "ythfnjppieihcfaagreat", sum := "2e2261017e3550b8f04de5714f1122b09c29b230b3b7c82df8d7168d14536b9f", func := "meniscus/meniscuslaw06.StemMuch", spec := "stemMuch", unfollowed := true, recurses := true, plainKeys := false, apart := false, narrowed := true }
def StemMuchUptoSaid : Prop := stemMuchUptoRow.holds Tryz.pinned (OpenSpec.upto stemMuchSpec)

/-- 'meniscuslaw06.StemIces', WHERE WHAT IT READS IS OF BULK AT MOST 1048576: true; the input reads as it did. -/
def stemIcesUptoRow : OpenClaim := { program := "ythfnjppieihcfaagreat", sum := "2e2261017e3550b8f04de5714f1122b09c29b230b3b7c82df8d7168d14536b9f", func := "meniscus/meniscuslaw06.StemIces", spec := "stemIces", unfollowed := true, recurses := true, plainKeys := false, apart := false, narrowed := true }
def StemIcesUptoSaid : Prop := stemIcesUptoRow.holds Tryz.pinned (OpenSpec.upto stemIcesSpec)

/-- 'meniscuslaw06.StemIce', WHERE WHAT IT READS IS OF BULK AT MOST 1048576: true; the input reads as it did. -/
def stemIceUptoRow : OpenClaim := { program := "ythfnjppieihcfaagreat", sum := "2e2261017e3550b8f04de5714f1122b09c29b230b3b7c82df8d7168d14536b9f", func := "meniscus/meniscuslaw06.StemIce", spec := "stemIce", unfollowed := true, recurses := true, plainKeys := false, apart := false, narrowed := true }
def StemIceUptoSaid : Prop := stemIceUptoRow.holds Tryz.pinned (OpenSpec.upto stemIceSpec)

end Rows
end Go.Proofs.YthfnjppieihcfaaGreat
