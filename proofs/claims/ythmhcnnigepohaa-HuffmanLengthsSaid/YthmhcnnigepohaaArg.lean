/- An argument of type []int, opened. -/
import Derived.Test.YthmhcnnigepohaaLiv
import Derived.Test.YthmhcnnigepohaaRows
import Derived.Test.YthmhcnnigepohaaChecked
import Derived.ProofKit
import Derived.OpenShut
import Derived.Deep.Slices
import Derived.Carry
import Derived.Below
namespace Go.Proofs.Ythmhcnnigepohaa
open Go.ChangeShapes Go.WideShapes Go.RowKit

theorem cells3 : Try.prog.cellsOf 3 = 1 := by kernel_rfl
theorem open_ints22 {H : Type} {enc : TypeId × Value → H} {w : World} {r : Reach} {b0 : Nat} {v : Value} {d : DataW H} {ps : List MemPlace} (hval : Value.okWide Try.prog w r b0 22 v) (hd : DataW.Trod enc Try.prog w 0 (fun _ => true) true 22 v d ps) :
    ∃ l : List Int, IR w v l ∧ l.length ≤ 9223372036854775807 := by
  obtain ⟨a, L, cap, rfl⟩ := okWide_slice Try.underlying22 hval
  obtain ⟨fuel, hf⟩ := hd
  rcases Deep.open_slice1 Try.underlying22 cells3 hf with ⟨h0, _⟩ | ⟨a', len, cap', m, n, V, D, Pl, h0, _, hl, hm, hmm, _, hx⟩
  · simp [Value.cells] at h0
    obtain ⟨rfl, rfl, rfl⟩ := h0
    exact ⟨[], ⟨none, 0, rfl, fun i hi => by simp at hi⟩, by simp⟩
  · simp [Value.cells] at h0
    obtain ⟨rfl, rfl, rfl⟩ := h0
    have hLm : L ≤ m := by rw [hmm]; simp; exact hl
    have each : ∀ i, i < L → ∃ s : Int, w.cell? (a'.add i) = some (.int .i64 s) := by
      intro i hi
      obtain ⟨h1, h2⟩ := hx i (by omega)
      obtain ⟨k, h3, _⟩ := DataW.trod_int Try.underlying3 h2
      have h4 : V i = .int .i64 k := by simpa using h3
      exact ⟨k, by rw [h1, h4]⟩
    refine ⟨(List.range L).map (fun i => if h : i < L then (each i h).choose else 0), ⟨some a', cap, by simp, fun i hi => ⟨a', rfl, ?_⟩⟩, by simp; unfold maxLen at hm; omega⟩
    simp only [List.length_map, List.length_range] at hi
    have h5 := (each i hi).choose_spec
    rw [h5]
    congr 2
    simp [List.getD, hi]
theorem laid : laidOutB Try.prog = true := by kernel_rfl
theorem read22 : Try.prog.readableRec 22 = true := by kernel_rfl
theorem row22 : 22 < Try.prog.types.size := of_decide_eq_true (by kernel_rfl)
end Go.Proofs.Ythmhcnnigepohaa

