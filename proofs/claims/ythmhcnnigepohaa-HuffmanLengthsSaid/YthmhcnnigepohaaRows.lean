/-
  No cell of these rows narrows 'for every input' (looked for: loops, veiled, ifaces, maps, wideKeys, modest, calm, conditions, laid).
  DERIVED. THE GIVEN ROWS OF THIS SEAT. 7 by the template 'for every input the law returns true; each argument reads behind the call as it read before'; 0 by the template 'total and deterministic' (their statements: YthmhcnnigepohaaTotals.lean).
  GIVEN WITH THE SEED: the statements are not yours to turn. If you find one false, say at which input.
  Laid BY PROGRAM, IN A SANDBOX (cutbox-rows.mjs): the forced cells as the released guide's own fill.sh prints them over the translation 4073ffa9245d423e… (all of the seat's roots in one cut). By AI agents, Wed Nov 11 2026. No macro, syntax, notation, axiom, sorry.
-/
import Derived.Test.YthmhcnnigepohaaChecked
import GoSem.Claim
import GoSem.ClaimJoined
import GoSem.ClaimMapViews
import Derived.JoinedTies
import Derived.KernelRfl
namespace Go.Proofs.Ythmhcnnigepohaa
/- THE CELL 'sum', in the pinned program and in every row, IS THE sha256 OF THE DUMP (.gsa) THAT YthmhcnnigepohaaProg.lean LOADS. Nothing in Lean hashes anything: it is a label: what it is worth is what the hold of that sum in a sandbox is worth. -/
noncomputable def Try.pinned : Pinned := { name := "ythmhcnnigepohaa", sum := "4073ffa9245d423e2eb374f0ae9ee9ff01eeb08e0af7c62d60331c7b10c35e47", checked := Try.checked }
namespace Rows
def none {H : Type} : Left H := { results := [], args := [] }

/-- 'intrusionlaw36.HuffmanCodes': WHATEVER THE INPUT: true; the input reads as it did. -/
def huffmanCodesSpec : ChangeSpec := { name := "huffmanCodes", fn := fun _ => fun
  | [d] => { results := [.lit (.bool true)], args := [d] }
  | _ => none }
def huffmanCodesRow : OpenClaim := { program := "ythmhcnnigepohaa", sum := "4073ffa9245d423e2eb374f0ae9ee9ff01eeb08e0af7c62d60331c7b10c35e47", func := "intrusion/intrusionlaw36.HuffmanCodes", spec := "huffmanCodes", unfollowed := true, recurses := true, apart := false }
def HuffmanCodesSaid : Prop := huffmanCodesRow.holds Try.pinned (OpenSpec.ofChange huffmanCodesSpec)

/-- ITS FALSE NEIGHBOUR: 'it returns false'. Refute it at one input. -/
def huffmanCodesWrong : ChangeSpec := { name := "huffmanCodes", fn := fun _ => fun
  | [d] => { results := [.lit (.bool false)], args := [d] }
  | _ => none }
def HuffmanCodesWrongFalsely : Prop := huffmanCodesRow.holds Try.pinned (OpenSpec.ofChange huffmanCodesWrong)

/-- 'intrusionlaw36.HuffmanCosts': WHATEVER THE INPUT: true; the input reads as it did. -/
def huffmanCostsSpec : ChangeSpec := { name := "huffmanCosts", fn := fun _ => fun
  | [d1, d2] => { results := [.lit (.bool true)], args := [d1, d2] }
  | _ => none }
def huffmanCostsRow : OpenClaim := { program := "ythmhcnnigepohaa", sum := "4073ffa9245d423e2eb374f0ae9ee9ff01eeb08e0af7c62d60331c7b10c35e47", func := "intrusion/intrusionlaw36.HuffmanCosts", spec := "huffmanCosts", unfollowed := true, recurses := true, apart := false }
def HuffmanCostsSaid : Prop := huffmanCostsRow.holds Try.pinned (OpenSpec.ofChange huffmanCostsSpec)

/-- ITS FALSE NEIGHBOUR: 'it returns false'. Refute it at one input. -/
def huffmanCostsWrong : ChangeSpec := { name := "huffmanCosts", fn := fun _ => fun
  | [d1, d2] => { results := [.lit (.bool false)], args := [d1, d2] }
  | _ => none }
def HuffmanCostsWrongFalsely : Prop := huffmanCostsRow.holds Try.pinned (OpenSpec.ofChange huffmanCostsWrong)

/-- 'intrusionlaw36.HuffmanLengths': WHATEVER THE INPUT: true; the input reads as it did. -/
def huffmanLengthsSpec : ChangeSpec := { name := "huffmanLengths", fn := fun _ => fun
  | [d1, d2] => { results := [.lit (.bool true)], args := [d1, d2] }
  | _ => none }
def huffmanLengthsRow : OpenClaim := { program := "ythmhcnnigepohaa", sum := "4073ffa9245d423e2eb374f0ae9ee9ff01eeb08e0af7c62d60331c7b10c35e47", func := "intrusion/intrusionlaw36.HuffmanLengths", spec := "huffmanLengths", unfollowed := true, recurses := true, apart := false }
def HuffmanLengthsSaid : Prop := huffmanLengthsRow.holds Try.pinned (OpenSpec.ofChange huffmanLengthsSpec)

/-- ITS FALSE NEIGHBOUR: 'it returns false'. Refute it at one input. -/
def huffmanLengthsWrong : ChangeSpec := { name := "huffmanLengths", fn := fun _ => fun
  | [d1, d2] => { results := [.lit (.bool false)], args := [d1, d2] }
  | _ => none }
def HuffmanLengthsWrongFalsely : Prop := huffmanLengthsRow.holds Try.pinned (OpenSpec.ofChange huffmanLengthsWrong)

/-- 'intrusionlaw36.HuffmanDecodes': WHATEVER THE INPUT: true; the input reads as it did. -/
def huffmanDecodesSpec : ChangeSpec := { name := "huffmanDecodes", fn := fun _ => fun
  | [d1, d2] => { results := [.lit (.bool true)], args := [d1, d2] }
  | _ => none }
def huffmanDecodesRow : OpenClaim := { program := "ythmhcnnigepohaa", sum := "4073ffa9245d423e2eb374f0ae9ee9ff01eeb08e0af7c62d60331c7b10c35e47", func := "intrusion/intrusionlaw36.HuffmanDecodes", spec := "huffmanDecodes", unfollowed := true, recurses := true, apart := false }
def HuffmanDecodesSaid : Prop := huffmanDecodesRow.holds Try.pinned (OpenSpec.ofChange huffmanDecodesSpec)

/-- ITS FALSE NEIGHBOUR: 'it returns false'. Refute it at one input. -/
def huffmanDecodesWrong : ChangeSpec := { name := "huffmanDecodes", fn := fun _ => fun
  | [d1, d2] => { results := [.lit (.bool false)], args := [d1, d2] }
  | _ => none }
def HuffmanDecodesWrongFalsely : Prop := huffmanDecodesRow.holds Try.pinned (OpenSpec.ofChange huffmanDecodesWrong)

/-- 'intrusionlaw36.HuffmanPrefix': WHATEVER THE INPUT: true; the input reads as it did. -/
def huffmanPrefixSpec : ChangeSpec := { name := "huffmanPrefix", fn := fun _ => fun
  | [d1, d2, d3] => { results := [.lit (.bool true)], args := [d1, d2, d3] }
  | _ => none }
def huffmanPrefixRow : OpenClaim := { program := "ythmhcnnigepohaa", sum := "4073ffa9245d423e2eb374f0ae9ee9ff01eeb08e0af7c62d60331c7b10c35e47", func := "intrusion/intrusionlaw36.HuffmanPrefix", spec := "huffmanPrefix", unfollowed := true, recurses := true, apart := false }
def HuffmanPrefixSaid : Prop := huffmanPrefixRow.holds Try.pinned (OpenSpec.ofChange huffmanPrefixSpec)

/-- ITS FALSE NEIGHBOUR: 'it returns false'. Refute it at one input. -/
def huffmanPrefixWrong : ChangeSpec := { name := "huffmanPrefix", fn := fun _ => fun
  | [d1, d2, d3] => { results := [.lit (.bool false)], args := [d1, d2, d3] }
  | _ => none }
def HuffmanPrefixWrongFalsely : Prop := huffmanPrefixRow.holds Try.pinned (OpenSpec.ofChange huffmanPrefixWrong)

/-- 'intrusionlaw36.HuffmanCanonical': WHATEVER THE INPUT: true; the input reads as it did. -/
def huffmanCanonicalSpec : ChangeSpec := { name := "huffmanCanonical", fn := fun _ => fun
  | [d] => { results := [.lit (.bool true)], args := [d] }
  | _ => none }
def huffmanCanonicalRow : OpenClaim := { program := "ythmhcnnigepohaa", sum := "4073ffa9245d423e2eb374f0ae9ee9ff01eeb08e0af7c62d60331c7b10c35e47", func := "intrusion/intrusionlaw36.HuffmanCanonical", spec := "huffmanCanonical", unfollowed := true, recurses := true, apart := false }
def HuffmanCanonicalSaid : Prop := huffmanCanonicalRow.holds Try.pinned (OpenSpec.ofChange huffmanCanonicalSpec)

/-- ITS FALSE NEIGHBOUR: 'it returns false'. Refute it at one input. -/
def huffmanCanonicalWrong : ChangeSpec := { name := "huffmanCanonical", fn := fun _ => fun
  | [d] => { results := [.lit (.bool false)], args := [d] }
  | _ => none }
def HuffmanCanonicalWrongFalsely : Prop := huffmanCanonicalRow.holds Try.pinned (OpenSpec.ofChange huffmanCanonicalWrong)

/-- 'intrusionlaw36.HuffmanOptimal': WHATEVER THE INPUT: true; the input reads as it did. -/
def huffmanOptimalSpec : ChangeSpec := { name := "huffmanOptimal", fn := fun _ => fun
  | [d1, d2] => { results := [.lit (.bool true)], args := [d1, d2] }
  | _ => none }
def huffmanOptimalRow : OpenClaim := { program := "ythmhcnnigepohaa", sum := "4073ffa9245d423e2eb374f0ae9ee9ff01eeb08e0af7c62d60331c7b10c35e47", func := "intrusion/intrusionlaw36.HuffmanOptimal", spec := "huffmanOptimal", unfollowed := true, recurses := true, apart := false }
def HuffmanOptimalSaid : Prop := huffmanOptimalRow.holds Try.pinned (OpenSpec.ofChange huffmanOptimalSpec)

/-- ITS FALSE NEIGHBOUR: 'it returns false'. Refute it at one input. -/
def huffmanOptimalWrong : ChangeSpec := { name := "huffmanOptimal", fn := fun _ => fun
  | [d1, d2] => { results := [.lit (.bool false)], args := [d1, d2] }
  | _ => none }
def HuffmanOptimalWrongFalsely : Prop := huffmanOptimalRow.holds Try.pinned (OpenSpec.ofChange huffmanOptimalWrong)

/- THE SECOND FORM. 'bulk': how many values and letters a reading holds, each counted each time it is reached (what is shared counts as often as it is met; a slice's spare places count too). A statement '..UptoSaid' is the law's where the arguments, and the package variables that the reading takes, are together of bulk at most 1048576: NARROWER than '..Said'. Prove '..Said' where nothing that the law and all that it calls make is longer than what came in: it says more and counts as full. Else prove '..UptoSaid'. A law counts once. -/
mutual
def uptoBulk {H : Type} : DataW H → Nat
  | .lit (.string bytes) => bytes.length + 1
  | .lit _ => 1
  | .nil => 1
  | .ptr d => uptoBulk d + 1
  | .slice elems spare => uptoBulkAll elems + uptoBulkAll spare + 1
  | .agg parts => uptoBulkAll parts + 1
  | .iface _ d => uptoBulk d + 1
  | .map entries => uptoBulkEntries entries + 1
  | .held _ => 1
def uptoBulkAll {H : Type} : List (DataW H) → Nat
  | [] => 0
  | d :: r => uptoBulk d + uptoBulkAll r
def uptoBulkEntries {H : Type} : List (Lit × DataW H) → Nat
  | [] => 0
  | x :: r => uptoBulkEntry x + uptoBulkEntries r
def uptoBulkEntry {H : Type} : Lit × DataW H → Nat
  | (.string bytes, d) => bytes.length + uptoBulk d + 1
  | (_, d) => uptoBulk d + 1
 end
def uptoSmall : (H : Type) → List (DataW H) → Bool := fun _ ds => decide (uptoBulkAll ds ≤ 1048576)
def OpenSpec.upto (s : _root_.Go.ChangeSpec) : _root_.Go.OpenSpec := { _root_.Go.OpenSpec.ofChange s with cond := some uptoSmall }

/-- 'intrusionlaw36.HuffmanCodes', WHERE WHAT IT READS IS OF BULK AT MOST 1048576: true; the input reads as it did. -/
def huffmanCodesUptoRow : OpenClaim := { program := "ythmhcnnigepohaa", sum := "4073ffa9245d423e2eb374f0ae9ee9ff01eeb08e0af7c62d60331c7b10c35e47", func := "intrusion/intrusionlaw36.HuffmanCodes", spec := "huffmanCodes", unfollowed := true, recurses := true, apart := false, narrowed := true }
def HuffmanCodesUptoSaid : Prop := huffmanCodesUptoRow.holds Try.pinned (OpenSpec.upto huffmanCodesSpec)

/-- 'intrusionlaw36.HuffmanCosts', WHERE WHAT IT READS IS OF BULK AT MOST 1048576: true; the input reads as it did. -/
def huffmanCostsUptoRow : OpenClaim := { program := "ythmhcnnigepohaa", sum := "4073ffa9245d423e2eb374f0ae9ee9ff01eeb08e0af7c62d60331c7b10c35e47", func := "intrusion/intrusionlaw36.HuffmanCosts", spec := "huffmanCosts", unfollowed := true, recurses := true, apart := false, narrowed := true }
def HuffmanCostsUptoSaid : Prop := huffmanCostsUptoRow.holds Try.pinned (OpenSpec.upto huffmanCostsSpec)

/-- 'intrusionlaw36.HuffmanLengths', WHERE WHAT IT READS IS OF BULK AT MOST 1048576: true; the input reads as it did. -/
def huffmanLengthsUptoRow : OpenClaim := { program := "ythmhcnnigepohaa", sum := "4073ffa9245d423e2eb374f0ae9ee9ff01eeb08e0af7c62d60331c7b10c35e47", func := "intrusion/intrusionlaw36.HuffmanLengths", spec := "huffmanLengths", unfollowed := true, recurses := true, apart := false, narrowed := true }
def HuffmanLengthsUptoSaid : Prop := huffmanLengthsUptoRow.holds Try.pinned (OpenSpec.upto huffmanLengthsSpec)

/-- 'intrusionlaw36.HuffmanDecodes', WHERE WHAT IT READS IS OF BULK AT MOST 1048576: true; the input reads as it did. -/
def huffmanDecodesUptoRow : OpenClaim := { program := "ythmhcnnigepohaa", sum := "4073ffa9245d423e2eb374f0ae9ee9ff01eeb08e0af7c62d60331c7b10c35e47", func := "intrusion/intrusionlaw36.HuffmanDecodes", spec := "huffmanDecodes", unfollowed := true, recurses := true, apart := false, narrowed := true }
def HuffmanDecodesUptoSaid : Prop := huffmanDecodesUptoRow.holds Try.pinned (OpenSpec.upto huffmanDecodesSpec)

/-- 'intrusionlaw36.HuffmanPrefix', WHERE WHAT IT READS IS OF BULK AT MOST 1048576: true; the input reads as it did. -/
def huffmanPrefixUptoRow : OpenClaim := { program := "ythmhcnnigepohaa", sum := "4073ffa9245d423e2eb374f0ae9ee9ff01eeb08e0af7c62d60331c7b10c35e47", func := "intrusion/intrusionlaw36.HuffmanPrefix", spec := "huffmanPrefix", unfollowed := true, recurses := true, apart := false, narrowed := true }
def HuffmanPrefixUptoSaid : Prop := huffmanPrefixUptoRow.holds Try.pinned (OpenSpec.upto huffmanPrefixSpec)

/-- 'intrusionlaw36.HuffmanCanonical', WHERE WHAT IT READS IS OF BULK AT MOST 1048576: true; the input reads as it did. -/
def huffmanCanonicalUptoRow : OpenClaim := { program := "ythmhcnnigepohaa", sum := "4073ffa9245d423e2eb374f0ae9ee9ff01eeb08e0af7c62d60331c7b10c35e47", func := "intrusion/intrusionlaw36.HuffmanCanonical", spec := "huffmanCanonical", unfollowed := true, recurses := true, apart := false, narrowed := true }
def HuffmanCanonicalUptoSaid : Prop := huffmanCanonicalUptoRow.holds Try.pinned (OpenSpec.upto huffmanCanonicalSpec)

/-- 'intrusionlaw36.HuffmanOptimal', WHERE WHAT IT READS IS OF BULK AT MOST 1048576: true; the input reads as it did. -/
def huffmanOptimalUptoRow : OpenClaim := { program := "ythmhcnnigepohaa", sum := "4073ffa9245d423e2eb374f0ae9ee9ff01eeb08e0af7c62d60331c7b10c35e47", func := "intrusion/intrusionlaw36.HuffmanOptimal", spec := "huffmanOptimal", unfollowed := true, recurses := true, apart := false, narrowed := true }
def HuffmanOptimalUptoSaid : Prop := huffmanOptimalUptoRow.holds Try.pinned (OpenSpec.upto huffmanOptimalSpec)

end Rows
end Go.Proofs.Ythmhcnnigepohaa
