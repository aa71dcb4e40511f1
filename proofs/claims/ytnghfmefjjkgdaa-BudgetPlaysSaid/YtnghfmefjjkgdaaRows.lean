/-
  No cell of these rows narrows 'for every input' (looked for: loops, veiled, ifaces, maps, wideKeys, modest, calm, conditions, laid).
  DERIVED. THE GIVEN ROWS OF THIS SEAT. 9 by the template 'for every input the law returns true; each argument reads behind the call as it read before'; 0 by the template 'total and deterministic' (their statements: YtnghfmefjjkgdaaTotals.lean).
  GIVEN WITH THE SEED: the statements are not yours to turn. If you find one false, say at which input.
  Laid BY PROGRAM, IN A SANDBOX (cutbox-rows.mjs): the forced cells as the released guide's own fill.sh prints them over the translation 725a6476c01de679… (all of the seat's roots in one cut). By AI agents, Wed Nov 11 2026. No macro, syntax, notation, axiom, sorry.
-/
import Derived.Test.YtnghfmefjjkgdaaChecked
import GoSem.Claim
import GoSem.ClaimJoined
import GoSem.ClaimMapViews
import Derived.JoinedTies
import Derived.KernelRfl
namespace Go.Proofs.Ytnghfmefjjkgdaa
/- THE CELL 'sum', in the pinned program and in every row, IS THE sha256 OF THE DUMP (.gsa) THAT YtnghfmefjjkgdaaProg.lean LOADS. Nothing in Lean hashes anything: it is a label: what it is worth is what the hold of that sum in a sandbox is worth. -/
noncomputable def Try.pinned : Pinned := { name := "ytnghfmefjjkgdaa", sum := "725a6476c01de679da34c0fd55d113dd6d70d347bcdada61cc4a04fea760b4ef", checked := Try.checked }
namespace Rows
def none {H : Type} : Left H := { results := [], args := [] }

/-- 'intrusionlaw53.EscalateSeverities': WHATEVER THE INPUT: true; the input reads as it did. -/
def escalateSeveritiesSpec : ChangeSpec := { name := "escalateSeverities", fn := fun _ => fun
  | [d1, d2] => { results := [.lit (.bool true)], args := [d1, d2] }
  | _ => none }
def escalateSeveritiesRow : OpenClaim := { program := "ytnghfmefjjkgdaa", sum := "725a6476c01de679da34c0fd55d113dd6d70d347bcdada61cc4a04fea760b4ef", func := "intrusion/intrusionlaw53.EscalateSeverities", spec := "escalateSeverities", unfollowed := true, recurses := true, plainKeys := false, apart := false }
def EscalateSeveritiesSaid : Prop := escalateSeveritiesRow.holds Try.pinned (OpenSpec.ofChange escalateSeveritiesSpec)

/-- ITS FALSE NEIGHBOUR: 'it returns false'. Refute it at one input. -/
def escalateSeveritiesWrong : ChangeSpec := { name := "escalateSeverities", fn := fun _ => fun
  | [d1, d2] => { results := [.lit (.bool false)], args := [d1, d2] }
  | _ => none }
def EscalateSeveritiesWrongFalsely : Prop := escalateSeveritiesRow.holds Try.pinned (OpenSpec.ofChange escalateSeveritiesWrong)

/-- 'intrusionlaw53.EscalateBooks': WHATEVER THE INPUT: true; the input reads as it did. -/
def escalateBooksSpec : ChangeSpec := { name := "escalateBooks", fn := fun _ => fun
  | [d1, d2] => { results := [.lit (.bool true)], args := [d1, d2] }
  | _ => none }
def escalateBooksRow : OpenClaim := { program := "ytnghfmefjjkgdaa", sum := "725a6476c01de679da34c0fd55d113dd6d70d347bcdada61cc4a04fea760b4ef", func := "intrusion/intrusionlaw53.EscalateBooks", spec := "escalateBooks", unfollowed := true, recurses := true, plainKeys := false, apart := false }
def EscalateBooksSaid : Prop := escalateBooksRow.holds Try.pinned (OpenSpec.ofChange escalateBooksSpec)

/-- ITS FALSE NEIGHBOUR: 'it returns false'. Refute it at one input. -/
def escalateBooksWrong : ChangeSpec := { name := "escalateBooks", fn := fun _ => fun
  | [d1, d2] => { results := [.lit (.bool false)], args := [d1, d2] }
  | _ => none }
def EscalateBooksWrongFalsely : Prop := escalateBooksRow.holds Try.pinned (OpenSpec.ofChange escalateBooksWrong)

/-- 'intrusionlaw53.EscalateMany': WHATEVER THE INPUT: true; the input reads as it did. -/
def escalateManySpec : ChangeSpec := { name := "escalateMany", fn := fun _ => fun
  | [d1, d2] => { results := [.lit (.bool true)], args := [d1, d2] }
  | _ => none }
def escalateManyRow : OpenClaim := { program := "ytnghfmefjjkgdaa", sum := "725a6476c01de679da34c0fd55d113dd6d70d347bcdada61cc4a04fea760b4ef", func := "intrusion/intrusionlaw53.EscalateMany", spec := "escalateMany", unfollowed := true, recurses := true, plainKeys := false, apart := false }
def EscalateManySaid : Prop := escalateManyRow.holds Try.pinned (OpenSpec.ofChange escalateManySpec)

/-- ITS FALSE NEIGHBOUR: 'it returns false'. Refute it at one input. -/
def escalateManyWrong : ChangeSpec := { name := "escalateMany", fn := fun _ => fun
  | [d1, d2] => { results := [.lit (.bool false)], args := [d1, d2] }
  | _ => none }
def EscalateManyWrongFalsely : Prop := escalateManyRow.holds Try.pinned (OpenSpec.ofChange escalateManyWrong)

/-- 'intrusionlaw53.EscalateCounts': WHATEVER THE INPUT: true; the input reads as it did. -/
def escalateCountsSpec : ChangeSpec := { name := "escalateCounts", fn := fun _ => fun
  | [d1, d2, d3] => { results := [.lit (.bool true)], args := [d1, d2, d3] }
  | _ => none }
def escalateCountsRow : OpenClaim := { program := "ytnghfmefjjkgdaa", sum := "725a6476c01de679da34c0fd55d113dd6d70d347bcdada61cc4a04fea760b4ef", func := "intrusion/intrusionlaw53.EscalateCounts", spec := "escalateCounts", unfollowed := true, recurses := true, plainKeys := false, apart := false }
def EscalateCountsSaid : Prop := escalateCountsRow.holds Try.pinned (OpenSpec.ofChange escalateCountsSpec)

/-- ITS FALSE NEIGHBOUR: 'it returns false'. Refute it at one input. -/
def escalateCountsWrong : ChangeSpec := { name := "escalateCounts", fn := fun _ => fun
  | [d1, d2, d3] => { results := [.lit (.bool false)], args := [d1, d2, d3] }
  | _ => none }
def EscalateCountsWrongFalsely : Prop := escalateCountsRow.holds Try.pinned (OpenSpec.ofChange escalateCountsWrong)

/-- 'intrusionlaw53.EscalateRises': WHATEVER THE INPUT: true; the input reads as it did. -/
def escalateRisesSpec : ChangeSpec := { name := "escalateRises", fn := fun _ => fun
  | [d1, d2] => { results := [.lit (.bool true)], args := [d1, d2] }
  | _ => none }
def escalateRisesRow : OpenClaim := { program := "ytnghfmefjjkgdaa", sum := "725a6476c01de679da34c0fd55d113dd6d70d347bcdada61cc4a04fea760b4ef", func := "intrusion/intrusionlaw53.EscalateRises", spec := "escalateRises", unfollowed := true, recurses := true, plainKeys := false, apart := false }
def EscalateRisesSaid : Prop := escalateRisesRow.holds Try.pinned (OpenSpec.ofChange escalateRisesSpec)

/-- ITS FALSE NEIGHBOUR: 'it returns false'. Refute it at one input. -/
def escalateRisesWrong : ChangeSpec := { name := "escalateRises", fn := fun _ => fun
  | [d1, d2] => { results := [.lit (.bool false)], args := [d1, d2] }
  | _ => none }
def EscalateRisesWrongFalsely : Prop := escalateRisesRow.holds Try.pinned (OpenSpec.ofChange escalateRisesWrong)

/-- 'intrusionlaw53.EscalateApart': WHATEVER THE INPUT: true; the input reads as it did. -/
def escalateApartSpec : ChangeSpec := { name := "escalateApart", fn := fun _ => fun
  | [d1, d2] => { results := [.lit (.bool true)], args := [d1, d2] }
  | _ => none }
def escalateApartRow : OpenClaim := { program := "ytnghfmefjjkgdaa", sum := "725a6476c01de679da34c0fd55d113dd6d70d347bcdada61cc4a04fea760b4ef", func := "intrusion/intrusionlaw53.EscalateApart", spec := "escalateApart", unfollowed := true, recurses := true, plainKeys := false, apart := false }
def EscalateApartSaid : Prop := escalateApartRow.holds Try.pinned (OpenSpec.ofChange escalateApartSpec)

/-- ITS FALSE NEIGHBOUR: 'it returns false'. Refute it at one input. -/
def escalateApartWrong : ChangeSpec := { name := "escalateApart", fn := fun _ => fun
  | [d1, d2] => { results := [.lit (.bool false)], args := [d1, d2] }
  | _ => none }
def EscalateApartWrongFalsely : Prop := escalateApartRow.holds Try.pinned (OpenSpec.ofChange escalateApartWrong)

/-- 'intrusionlaw54.BudgetPlays': WHATEVER THE INPUT: true; the input reads as it did. -/
def budgetPlaysSpec : ChangeSpec := { name := "budgetPlays", fn := fun _ => fun
  | [d1, d2, d3] => { results := [.lit (.bool true)], args := [d1, d2, d3] }
  | _ => none }
def budgetPlaysRow : OpenClaim := { program := "ytnghfmefjjkgdaa", sum := "725a6476c01de679da34c0fd55d113dd6d70d347bcdada61cc4a04fea760b4ef", func := "intrusion/intrusionlaw54.BudgetPlays", spec := "budgetPlays", plainKeys := false, apart := false }
def BudgetPlaysSaid : Prop := budgetPlaysRow.holds Try.pinned (OpenSpec.ofChange budgetPlaysSpec)

/-- ITS FALSE NEIGHBOUR: 'it returns false'. Refute it at one input. -/
def budgetPlaysWrong : ChangeSpec := { name := "budgetPlays", fn := fun _ => fun
  | [d1, d2, d3] => { results := [.lit (.bool false)], args := [d1, d2, d3] }
  | _ => none }
def BudgetPlaysWrongFalsely : Prop := budgetPlaysRow.holds Try.pinned (OpenSpec.ofChange budgetPlaysWrong)

/-- 'intrusionlaw54.BudgetDegrades': WHATEVER THE INPUT: true; the input reads as it did. -/
def budgetDegradesSpec : ChangeSpec := { name := "budgetDegrades", fn := fun _ => fun
  | [d1, d2, d3] => { results := [.lit (.bool true)], args := [d1, d2, d3] }
  | _ => none }
def budgetDegradesRow : OpenClaim := { program := "ytnghfmefjjkgdaa", sum := "725a6476c01de679da34c0fd55d113dd6d70d347bcdada61cc4a04fea760b4ef", func := "intrusion/intrusionlaw54.BudgetDegrades", spec := "budgetDegrades", plainKeys := false, apart := false }
def BudgetDegradesSaid : Prop := budgetDegradesRow.holds Try.pinned (OpenSpec.ofChange budgetDegradesSpec)

/-- ITS FALSE NEIGHBOUR: 'it returns false'. Refute it at one input. -/
def budgetDegradesWrong : ChangeSpec := { name := "budgetDegrades", fn := fun _ => fun
  | [d1, d2, d3] => { results := [.lit (.bool false)], args := [d1, d2, d3] }
  | _ => none }
def BudgetDegradesWrongFalsely : Prop := budgetDegradesRow.holds Try.pinned (OpenSpec.ofChange budgetDegradesWrong)

/-- 'intrusionlaw54.BudgetSteps': WHATEVER THE INPUT: true; the input reads as it did. -/
def budgetStepsSpec : ChangeSpec := { name := "budgetSteps", fn := fun _ => fun
  | [d1, d2] => { results := [.lit (.bool true)], args := [d1, d2] }
  | _ => none }
def budgetStepsRow : OpenClaim := { program := "ytnghfmefjjkgdaa", sum := "725a6476c01de679da34c0fd55d113dd6d70d347bcdada61cc4a04fea760b4ef", func := "intrusion/intrusionlaw54.BudgetSteps", spec := "budgetSteps", plainKeys := false, apart := false }
def BudgetStepsSaid : Prop := budgetStepsRow.holds Try.pinned (OpenSpec.ofChange budgetStepsSpec)

/-- ITS FALSE NEIGHBOUR: 'it returns false'. Refute it at one input. -/
def budgetStepsWrong : ChangeSpec := { name := "budgetSteps", fn := fun _ => fun
  | [d1, d2] => { results := [.lit (.bool false)], args := [d1, d2] }
  | _ => none }
def BudgetStepsWrongFalsely : Prop := budgetStepsRow.holds Try.pinned (OpenSpec.ofChange budgetStepsWrong)

/- THE SECOND FORM. 'bulk': how many values and letters a reading holds, each counted each time it is reached (what is shared counts as often as it is met; a slice's spare places count too). A statement '..UptoSaid' is the law's where the arguments, and the package variables that the reading takes, are together of bulk at most 1048576: NARROWER than '..Said'. Prove '..Said' where nothing that the law and all that it calls make is longer than what came in: it says more and counts as full. Else prove '..UptoSaid'. A law counts once. -/
mutual
def uptoBulk {H : Type} : DataW H → Nat
  | .lit (.string bytes) => bytes.length + 1
  | .lit _ => 1
  | .nil => 1
  | .ptr d => uptoBulk d + 1
  | .slice elems spare => uptoBulkAll elems + uptoBulkAll spare + 1
  | .agg parts => uptoBulkAll parts + 1
  | .iface _ d => uptoBulk d + 1
  | .map entries => uptoBulkEntries entries + 1
  | .held _ => 1
def uptoBulkAll {H : Type} : List (DataW H) → Nat
  | [] => 0
  | d :: r => uptoBulk d + uptoBulkAll r
def uptoBulkEntries {H : Type} : List (Lit × DataW H) → Nat
  | [] => 0
  | x :: r => uptoBulkEntry x + uptoBulkEntries r
def uptoBulkEntry {H : Type} : Lit × DataW H → Nat
  | (.string bytes, d) => bytes.length + uptoBulk d + 1
  | (_, d) => uptoBulk d + 1
 end
def uptoSmall : (H : Type) → List (DataW H) → Bool := fun _ ds => decide (uptoBulkAll ds ≤ 1048576)
def OpenSpec.upto (s : _root_.Go.ChangeSpec) : _root_.Go.OpenSpec := { _root_.Go.OpenSpec.ofChange s with cond := some uptoSmall }

/-- 'intrusionlaw53.EscalateSeverities', WHERE WHAT IT READS IS OF BULK AT MOST 1048576: true; the input reads as it did. -/
def escalateSeveritiesUptoRow : OpenClaim := { program := "ytnghfmefjjkgdaa", sum := "725a6476c01de679da34c0fd55d113dd6d70d347bcdada61cc4a04fea760b4ef", func := "intrusion/intrusionlaw53.EscalateSeverities", spec := "escalateSeverities", unfollowed := true, recurses := true, plainKeys := false, apart := false, narrowed := true }
def EscalateSeveritiesUptoSaid : Prop := escalateSeveritiesUptoRow.holds Try.pinned (OpenSpec.upto escalateSeveritiesSpec)

/-- 'intrusionlaw53.EscalateBooks', WHERE WHAT IT READS IS OF BULK AT MOST 1048576: true; the input reads as it did. -/
def escalateBooksUptoRow : OpenClaim := { program := "ytnghfmefjjkgdaa", sum := "725a6476c01de679da34c0fd55d113dd6d70d347bcdada61cc4a04fea760b4ef", func := "intrusion/intrusionlaw53.EscalateBooks", spec := "escalateBooks", unfollowed := true, recurses := true, plainKeys := false, apart := false, narrowed := true }
def EscalateBooksUptoSaid : Prop := escalateBooksUptoRow.holds Try.pinned (OpenSpec.upto escalateBooksSpec)

/-- 'intrusionlaw53.EscalateMany', WHERE WHAT IT READS IS OF BULK AT MOST 1048576: true; the input reads as it did. -/
def escalateManyUptoRow : OpenClaim := { program := "ytnghfmefjjkgdaa", sum := "725a6476c01de679da34c0fd55d113dd6d70d347bcdada61cc4a04fea760b4ef", func := "intrusion/intrusionlaw53.EscalateMany", spec := "escalateMany", unfollowed := true, recurses := true, plainKeys := false, apart := false, narrowed := true }
def EscalateManyUptoSaid : Prop := escalateManyUptoRow.holds Try.pinned (OpenSpec.upto escalateManySpec)

/-- 'intrusionlaw53.EscalateCounts', WHERE WHAT IT READS IS OF BULK AT MOST 1048576: true; the input reads as it did. -/
def escalateCountsUptoRow : OpenClaim := { program := "ytnghfmefjjkgdaa", sum := "725a6476c01de679da34c0fd55d113dd6d70d347bcdada61cc4a04fea760b4ef", func := "intrusion/intrusionlaw53.EscalateCounts", spec := "escalateCounts", unfollowed := true, recurses := true, plainKeys := false, apart := false, narrowed := true }
def EscalateCountsUptoSaid : Prop := escalateCountsUptoRow.holds Try.pinned (OpenSpec.upto escalateCountsSpec)

/-- 'intrusionlaw53.EscalateRises', WHERE WHAT IT READS IS OF BULK AT MOST 1048576: true; the input reads as it did. -/
def escalateRisesUptoRow : OpenClaim := { program := "ytnghfmefjjkgdaa", sum := "725a6476c01de679da34c0fd55d113dd6d70d347bcdada61cc4a04fea760b4ef", func := "intrusion/intrusionlaw53.EscalateRises", spec := "escalateRises", unfollowed := true, recurses := true, plainKeys := false, apart := false, narrowed := true }
def EscalateRisesUptoSaid : Prop := escalateRisesUptoRow.holds Try.pinned (OpenSpec.upto escalateRisesSpec)

/-- 'intrusionlaw53.EscalateApart', WHERE WHAT IT READS IS OF BULK AT MOST 1048576: true; the input reads as it did. -/
def escalateApartUptoRow : OpenClaim := { program := "ytnghfmefjjkgdaa", sum := "725a6476c01de679da34c0fd55d113dd6d70d347bcdada61cc4a04fea760b4ef", func := "intrusion/intrusionlaw53.EscalateApart", spec := "escalateApart", unfollowed := true, recurses := true, plainKeys := false, apart := false, narrowed := true }
def EscalateApartUptoSaid : Prop := escalateApartUptoRow.holds Try.pinned (OpenSpec.upto escalateApartSpec)

/-- 'intrusionlaw54.BudgetPlays', WHERE WHAT IT READS IS OF BULK AT MOST 1048576: true; the input reads as it did. -/
def budgetPlaysUptoRow : OpenClaim := { program := "ytnghfmefjjkgdaa", sum := "725a6476c01de679da34c0fd55d113dd6d70d347bcdada61cc4a04fea760b4ef", func := "intrusion/intrusionlaw54.BudgetPlays", spec := "budgetPlays", plainKeys := false, apart := false, narrowed := true }
def BudgetPlaysUptoSaid : Prop := budgetPlaysUptoRow.holds Try.pinned (OpenSpec.upto budgetPlaysSpec)

/-- 'intrusionlaw54.BudgetDegrades', WHERE WHAT IT READS IS OF BULK AT MOST 1048576: true; the input reads as it did. -/
def budgetDegradesUptoRow : OpenClaim := { program := "ytnghfmefjjkgdaa", sum := "725a6476c01de679da34c0fd55d113dd6d70d347bcdada61cc4a04fea760b4ef", func := "intrusion/intrusionlaw54.BudgetDegrades", spec := "budgetDegrades", plainKeys := false, apart := false, narrowed := true }
def BudgetDegradesUptoSaid : Prop := budgetDegradesUptoRow.holds Try.pinned (OpenSpec.upto budgetDegradesSpec)

/-- 'intrusionlaw54.BudgetSteps', WHERE WHAT IT READS IS OF BULK AT MOST 1048576: true; the input reads as it did. -/
def budgetStepsUptoRow : OpenClaim := { program := "ytnghfmefjjkgdaa", sum := "725a6476c01de679da34c0fd55d113dd6d70d347bcdada61cc4a04fea760b4ef", func := "intrusion/intrusionlaw54.BudgetSteps", spec := "budgetSteps", plainKeys := false, apart := false, narrowed := true }
def BudgetStepsUptoSaid : Prop := budgetStepsUptoRow.holds Try.pinned (OpenSpec.upto budgetStepsSpec)

end Rows
end Go.Proofs.Ytnghfmefjjkgdaa
