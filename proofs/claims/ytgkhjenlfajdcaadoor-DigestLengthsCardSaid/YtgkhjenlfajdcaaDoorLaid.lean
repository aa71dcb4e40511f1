/- What the row's condition gives the walks: the table of constants in the program's variable. -/
import Derived.Test.YtgkhjenlfajdcaaDoorDigits
import Derived.Test.YtgkhjenlfajdcaaDoorRows
import Derived.ProofKit
import Derived.LaidMore
import Derived.OpenShut
import Derived.ShutString
import Derived.Stop.Joined
namespace Go.Proofs.YtgkhjenlfajdcaaDoor
open Go.ChangeShapes Go.WideShapes Go.ChangeAt Go.RowKit

abbrev laid1 : List (String × DataW Unit) := [("intrusion/digest.constants", Rows.laid_intrusion_digest_constants)]
theorem own : ownKnob Tryd.prog.godebug = none := by kernel_rfl
theorem gK : Tryd.prog.globalNamed "intrusion/digest.constants" = some 0 := by kernel_rfl
theorem tK : (Tryd.prog.globals[0]?).map (·.type) = some 50 := by kernel_rfl
theorem cells35 : Tryd.prog.cellsOf 35 = 1 := by kernel_rfl

/-- The door's own heap meets the condition. -/
theorem door_met (os : Os) (args : Array Value) : laidMetH Tryd.prog laid1 ((World.doorLaid Tryd.prog 2000 os).forCall (fun _ _ => 0) ⟨#[], args, []⟩).memory :=
  laidMetH_of_parts3 (fuel := 8) (laidMet_of_run' 8 (by kernel_rfl) (by kernel_rfl)) (by kernel_rfl) (by kernel_rfl)

theorem laid_list : (Rows.laid_intrusion_digest_constants : DataW Unit) = .agg (KK.map (fun n => .lit (.int .u32 n))) := by rfl

theorem of_laid {W : World} (h : laidMetH Tryd.prog laid1 W) : Kst W := by
  rw [MakeChecks.laidMetH_plain _ _ _ (by kernel_rfl)] at h
  obtain ⟨ps, ⟨g0, t0, cs0, f0, p0, q0, hg0, ht0, hv0, hd0, _⟩, _, _⟩ := h
  obtain rfl := Option.some.inj (gK.symm.trans hg0)
  obtain rfl := Option.some.inj (tK.symm.trans ht0)
  obtain ⟨xs, m1, rfl, hx1, hlen, hn, hel⟩ := DataW.trod_array Tryd.underlying50 hd0
  rw [laid_list] at hx1
  simp only [Prod.mk.injEq, DataW.agg.injEq] at hx1
  intro t ht
  have h1 := hel t ht
  rw [cells35, Nat.mul_one] at h1
  have hxt : xs[t]? = some (xs[t]'(by omega)) := List.getElem?_eq_getElem (by omega)
  rw [hxt] at h1
  obtain ⟨k, e1, e2, _⟩ := DataW.trod_int Tryd.underlying35 h1
  have h3 : (xs.map (·.1))[t]? = (KK.map (fun n => DataW.lit (.int .u32 n)))[t]? := by rw [hx1.1]
  rw [List.getElem?_map, hxt, List.getElem?_map] at h3
  have hKl : KK.length = 64 := rfl
  rw [List.getElem?_eq_getElem (show t < KK.length by omega)] at h3
  simp only [Option.map_some, Option.some.injEq] at h3
  rw [e2] at h3
  simp only [DataW.lit.injEq, Lit.int.injEq, true_and] at h3
  have hc := World.var?_cell hg0 hv0 t
  rw [hc]
  have h4 : cs0.toList[t]? = some (.int .u32 k) := by
    have h5 := congrArg (fun l => l[0]?) e1
    simpa [List.getElem?_take, List.getElem?_drop] using h5
  rw [← Array.getElem?_toList, h4, h3]
  congr 2
  rw [List.getD_eq_getElem?_getD, List.getElem?_eq_getElem (show t < KK.length by omega)]
  rfl
end Go.Proofs.YtgkhjenlfajdcaaDoor

