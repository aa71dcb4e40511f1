/- The pool's Pressure. -/
import Derived.Test.YtnghfmefjjkgdaaPool
import Derived.Deep.LoopGhost
namespace Go.Proofs.Ytnghfmefjjkgdaa
open Go.RowKit
def pcnt (p : Pl) : Nat → Nat
  | 0 => 0
  | k + 1 => if p.off (k + 1) = true then pcnt p k + 1 else pcnt p k
theorem pcnt_le (p : Pl) : ∀ k, pcnt p k ≤ k
  | 0 => Nat.le_refl _
  | k + 1 => by have := pcnt_le p k; unfold pcnt; split <;> omega

set_option maxHeartbeats 400000 in
theorem ppressure_any (pb bm : Nat) (p : Pl) (w : World) (h : PoolIs w pb bm p) :
    Calls Try.prog 34 #[.pointer (some ⟨pb, 0, none⟩)] w fun e w' => e = .returned (.int .i64 (pcnt p 6)) ∧ w = w' := by
  have HP := hide h
  clear h
  go_enter Try.func34, Try.ntmps34
  go_wp2_with fail
  go_loopg [3, 5] 7 (fun gk n i wr => ∃ k : Nat, gk = 7 - k ∧ k ≤ 6 ∧ i = .int .i64 k ∧ n = .int .i64 (pcnt p k) ∧ w = wr)
  case atStart => exact ⟨0, rfl, by omega, rfl, rfl, rfl⟩
  case round =>
    obtain ⟨k, hgk, hk, rfl, rfl, rfl⟩ := hrel
    have HGK := hide hgk
    clear hgk
    have hle := pcnt_le p k
    by_cases hlt : k < 6
    · have HO : Hid (isOff p ((k : Int) + 1) = p.off (k + 1)) := by
        show isOff p ((k : Int) + 1) = p.off (k + 1)
        unfold isOff
        rw [decide_eq_true (by omega), decide_eq_true (by omega)]
        simp
      have HC := hide (poff_any pb bm p ((k : Int) + 1) w HP.out)
      rw [HO.out] at HC
      have hn : Hid (pcnt p (k + 1) = if p.off (k + 1) = true then pcnt p k + 1 else pcnt p k) := rfl
      cases hb : p.off (k + 1)
      all_goals
        rw [hb] at HC hn
        go_wp2_with (go_at_call 40; refine (unhide HC).mono ?_; rintro e w' ⟨rfl, rfl⟩)
        go_roundg (7 - (k + 1))
        case measure => have := HGK.out; omega
        case rel => exact ⟨k + 1, rfl, by omega, by go_num, by rw [hn.out]; simp, rfl⟩
    · have hk6 : k = 6 := by omega
      subst hk6
      go_wp2
      all_goals
        go_ret
        exact ⟨rfl, rfl⟩
end Go.Proofs.Ytnghfmefjjkgdaa

