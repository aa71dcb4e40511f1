/- What the row's condition gives the walk: two tables in the program's variables; an argument of type []uint8, opened. -/
import Derived.Test.YthmhcnnigepohaaGreatDoorM40
import Derived.Test.YthmhcnnigepohaaGreatDoorRows
import Derived.ProofKit
import Derived.LaidMore
import Derived.OpenShut
import Derived.ShutString
import Derived.Stop.Joined
import Derived.Deep.Slices
import Derived.Carry
import Derived.Below
namespace Go.Proofs.YthmhcnnigepohaaGreatDoor.Tp
open Go.ChangeShapes Go.WideShapes Go.ChangeAt Go.RowKit
open If (Ost ORD)
open Dg (Kst KK)

abbrev laid3 : List (String × DataW Unit) := [("intrusion/digest.constants", Rows.laid_intrusion_digest_constants), ("bytes.ErrTooLarge", Rows.laid_bytes_ErrTooLarge), ("intrusion/inflate.order", Rows.laid_intrusion_inflate_order)]
theorem own : ownKnob Tryz.prog.godebug = none := by kernel_rfl
theorem gK : Tryz.prog.globalNamed "intrusion/digest.constants" = some 1 := by kernel_rfl
theorem gO : Tryz.prog.globalNamed "intrusion/inflate.order" = some 0 := by kernel_rfl
theorem cells5 : Tryz.prog.cellsOf 5 = 1 := by kernel_rfl
set_option maxRecDepth 100000 in
/-- The door's own heap meets the condition. -/
theorem door_met (os : Os) (args : Array Value) : laidMetH Tryz.prog laid3 ((World.doorLaid Tryz.prog 2000 os).forCall (fun _ _ => 0) ⟨#[], args, []⟩).memory :=
  laidMetH_of_parts3 (fuel := 8) (laidMet_of_run' 8 (by kernel_rfl) (by kernel_rfl)) (by kernel_rfl) (by kernel_rfl)
theorem tK : (Tryz.prog.globals[1]?).map (·.type) = some 106 := by kernel_rfl
theorem tO : (Tryz.prog.globals[0]?).map (·.type) = some 92 := by kernel_rfl
theorem cells48 : Tryz.prog.cellsOf 48 = 1 := by kernel_rfl
theorem cells3 : Tryz.prog.cellsOf 3 = 1 := by kernel_rfl
theorem laid_listK : (Rows.laid_intrusion_digest_constants : DataW Unit) = .agg (KK.map (fun n => .lit (.int .u32 n))) := by rfl
theorem laid_listO : (Rows.laid_intrusion_inflate_order : DataW Unit) = .agg ((ORD.map (fun (n : Nat) => (n : Int))).map (fun n => .lit (.int .i64 n))) := by rfl
set_option maxRecDepth 100000 in
/-- A variable that holds an array of integers. -/
theorem read_arr {W : World} {nm : String} {g t e n f : Nat} {kd : IntKind} {cs : Array Value} {p : List MemPlace} {L : List Int} (hL : L.length = n) (hg : Tryz.prog.globalNamed nm = some g) (hv : World.var? Tryz.prog W nm = some cs) (ht : Tryz.prog.underlying t = some (.array n e)) (he : Tryz.prog.underlying e = some (.int kd)) (hc : Tryz.prog.cellsOf e = 1)
    (hd : DataW.trod (fun _ => ()) Tryz.prog W 0 (fun _ => true) false f t cs.toList = some (.agg (L.map (fun n => .lit (.int kd n))), p)) : ∀ j, j < n → W.cell? ⟨g, j, none⟩ = some (.int kd (L.getD j 0)) := by
  obtain ⟨xs, m1, rfl, hx1, hlen, hn, hel⟩ := DataW.trod_array ht hd
  simp only [Prod.mk.injEq, DataW.agg.injEq] at hx1
  intro j hj
  have h1 := hel j (by omega)
  rw [hc, Nat.mul_one] at h1
  have hxl : xs.length = n := by
    have := congrArg List.length hx1.1
    simp only [List.length_map] at this
    omega
  have hxt : xs[j]? = some (xs[j]'(by omega)) := List.getElem?_eq_getElem (by omega)
  rw [hxt] at h1
  obtain ⟨k, e1, e2, _⟩ := DataW.trod_int he h1
  have h3 : (xs.map (·.1))[j]? = (L.map (fun n => DataW.lit (.int kd n)))[j]? := by rw [hx1.1]
  rw [List.getElem?_map, hxt, List.getElem?_map] at h3
  rw [List.getElem?_eq_getElem (show j < L.length by omega)] at h3
  simp only [Option.map_some, Option.some.injEq] at h3
  rw [e2] at h3
  simp only [DataW.lit.injEq, Lit.int.injEq, true_and] at h3
  rw [World.var?_cell hg hv j]
  have h4 : cs.toList[j]? = some (.int kd k) := by
    have h5 := congrArg (fun l => l[0]?) e1
    simpa [List.getElem?_take, List.getElem?_drop] using h5
  rw [← Array.getElem?_toList, h4, h3]
  congr 2
  rw [List.getD_eq_getElem?_getD, List.getElem?_eq_getElem (show j < L.length by omega)]
  rfl
theorem of_laid {W : World} (h : laidMetH Tryz.prog laid3 W) : Kst W ∧ Ost W := by
  rw [MakeChecks.laidMetH_plain _ _ _ (by kernel_rfl)] at h
  obtain ⟨ps, ⟨g0, t0, cs0, f0, p0, q0, hg0, ht0, hv0, hd0, ⟨g1, t1, cs1, f1, p1, q1, hg1, ht1, hv1, hd1, ⟨g2, t2, cs2, f2, p2, q2, hg2, ht2, hv2, hd2, _⟩, _⟩, _⟩, _, _⟩ := h
  obtain rfl := Option.some.inj (gK.symm.trans hg0)
  obtain rfl := Option.some.inj (tK.symm.trans ht0)
  obtain rfl := Option.some.inj (gO.symm.trans hg2)
  obtain rfl := Option.some.inj (tO.symm.trans ht2)
  rw [laid_listK] at hd0
  rw [laid_listO] at hd2
  refine ⟨fun t ht => read_arr rfl gK hv0 Tryz.underlying106 Tryz.underlying48 cells48 hd0 t ht, fun j hj => ?_⟩
  rw [read_arr (L := ORD.map (fun (n : Nat) => (n : Int))) rfl gO hv2 Tryz.underlying92 Tryz.underlying3 cells3 hd2 j hj]
  congr 2
  have : j < ORD.length := hj
  simp [List.getD_eq_getElem?_getD, List.getElem?_eq_getElem this]
set_option maxRecDepth 100000 in
/-- An argument of type []uint8. -/
theorem open_bytes22 {H : Type} {enc : TypeId × Value → H} {w : World} {r : Reach} {b0 : Nat} {v : Value} {d : DataW H} {ps : List MemPlace} (hval : Value.okWide Tryz.prog w r b0 22 v) (hd : DataW.Trod enc Tryz.prog w 0 (fun _ => true) true 22 v d ps) :
    ∃ l : List Nat, BR w v l ∧ l.length ≤ 9223372036854775807 := by
  obtain ⟨a, L, cap, rfl⟩ := okWide_slice Tryz.underlying22 hval
  obtain ⟨fuel, hf⟩ := hd
  rcases Deep.open_slice1 Tryz.underlying22 cells5 hf with ⟨h0, _⟩ | ⟨a', len, cap', m, n, V, D, Pl, h0, _, hl, hm, hmm, _, hx⟩
  · simp [Value.cells] at h0
    obtain ⟨rfl, rfl, rfl⟩ := h0
    exact ⟨[], ⟨none, 0, rfl, by simp, fun i hi => by simp at hi⟩, by simp⟩
  · simp [Value.cells] at h0
    obtain ⟨rfl, rfl, rfl⟩ := h0
    have hLm : L ≤ m := by rw [hmm]; simp; exact hl
    have each : ∀ i, i < L → ∃ s : Nat, s < 256 ∧ w.cell? (a'.add i) = some (.int .u8 s) := by
      intro i hi
      obtain ⟨h1, h2⟩ := hx i (by omega)
      obtain ⟨k, h3, _, h5⟩ := DataW.trod_int Tryz.underlying5 h2
      have h4 : V i = .int .u8 k := by simpa using h3
      have hb := bounds_u8 h5
      refine ⟨k.toNat, by omega, ?_⟩
      rw [h1, h4, show ((k.toNat : Nat) : Int) = k by omega]
    refine ⟨(List.range L).map (fun i => if h : i < L then (each i h).choose else 0), ⟨some a', cap, by simp, fun x hx => ?_, fun i hi => ⟨a', rfl, ?_⟩⟩, by simp; unfold maxLen at hm; omega⟩
    · rw [List.mem_map] at hx
      obtain ⟨i, hi, rfl⟩ := hx
      rw [List.mem_range] at hi
      rw [dif_pos hi]
      exact (each i hi).choose_spec.1
    · simp only [List.length_map, List.length_range] at hi
      have h5 := (each i hi).choose_spec.2
      rw [h5]
      congr 2
      simp [List.getD, hi]
theorem laidOut : laidOutB Tryz.prog = true := by kernel_rfl
theorem read22 : Tryz.prog.readableRec 22 = true := by kernel_rfl
theorem row22 : 22 < Tryz.prog.types.size := of_decide_eq_true (by kernel_rfl)
end Go.Proofs.YthmhcnnigepohaaGreatDoor.Tp
