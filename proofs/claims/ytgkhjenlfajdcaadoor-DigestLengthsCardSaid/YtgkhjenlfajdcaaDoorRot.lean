/- SHA-256 in the program and in the reference: rotate, rotr. -/
import Derived.Test.YtgkhjenlfajdcaaDoorPlain
import Derived.Test.YtgkhjenlfajdcaaDoorSl
import Derived.Test.YtgkhjenlfajdcaaDoorChecked
namespace Go.Proofs.YtgkhjenlfajdcaaDoor
open Go.RowKit

theorem rot28_any (x n : Int) (hn : 0 ≤ n ∧ n ≤ 32) (w : World) :
    Calls Tryd.prog 28 #[.int .u32 x, .int .i64 n] w fun e w' => e = .returned (.int .u32 (rotI x n.toNat)) ∧ ∃ m, w' = w.drewN m := by
  have HR : Hid (rotI x n.toNat = bits .or .u32 (x / 2 ^ n.toNat) (IntKind.u32.wrap (x * 2 ^ (32 - n).toNat))) := by
    show rotI x n.toNat = _
    unfold rotI
    rw [show (32 - n).toNat = 32 - n.toNat by omega]
  go_enter Tryd.func28, Tryd.ntmps28
  go_upto_region 1 with (fail)
  go_quiet (fail)
  go_wp2
  go_ret
  rw [HR.out]
  exact ⟨rfl, _, rfl⟩

theorem rot27_any (x n : Int) (hn : 0 ≤ n ∧ n ≤ 32) (w : World) :
    Calls Tryd.prog 27 #[.int .u32 x, .int .i64 n] w fun e w' => e = .returned (.int .u32 (rotI x n.toNat)) ∧ w = w' := by
  have HR : Hid (rotI x n.toNat = bits .or .u32 (x / 2 ^ n.toNat) (IntKind.u32.wrap (x * 2 ^ (32 - n).toNat))) := by
    show rotI x n.toNat = _
    unfold rotI
    rw [show (32 - n).toNat = 32 - n.toNat by omega]
  go_enter Tryd.func27, Tryd.ntmps27
  go_wp2
  go_ret
  rw [HR.out]
  exact ⟨rfl, rfl⟩
end Go.Proofs.YtgkhjenlfajdcaaDoor

