/- limit, Frequency, Cost, Same: in the program and in the reference. -/
import Derived.Test.YthmhcnnigepohaaInts
namespace Go.Proofs.Ythmhcnnigepohaa
open Go.RowKit

def lim (n lo hi : Int) : Int := max lo (min hi n)
theorem lim_f (n : Int) : 0 ≤ lim n 0 1048576 ∧ lim n 0 1048576 ≤ 1048576 := by unfold lim; omega
theorem lim_l (n : Int) : 0 ≤ lim n 0 15 ∧ lim n 0 15 ≤ 15 := by unfold lim; omega
theorem lim_prod (a b : Int) (ha : 0 ≤ a ∧ a ≤ 1048576) (hb : 0 ≤ b ∧ b ≤ 15) : 0 ≤ a * b ∧ a * b ≤ 15728640 := by
  refine ⟨Int.mul_nonneg ha.1 hb.1, ?_⟩
  have := Int.mul_le_mul ha.2 hb.2 hb.1 (by omega)
  omega
/-- Cost of the first k. -/
def cs (f l : List Int) : Nat → Int
  | 0 => 0
  | k + 1 => cs f l k + lim (f.getD k 0) 0 1048576 * lim (l.getD k 0) 0 15
theorem cs_bd (f l : List Int) : ∀ k, 0 ≤ cs f l k ∧ cs f l k ≤ k * 15728640
  | 0 => by simp [cs]
  | k + 1 => by
    have ih := cs_bd f l k
    have := lim_prod _ _ (lim_f (f.getD k 0)) (lim_l (l.getD k 0))
    rw [cs]
    omega
def cost (f l : List Int) : Int := cs f l (min f.length l.length)

theorem quiet_at_same {P : Program} {f : FuncId} {args : Array Value} {w : World} {n k : Nat} {v : Value}
    (h : Calls P f args (w.drewN (n + k)) fun e w' => e = .returned v ∧ w.drewN (n + k) = w') : Calls P f args (w.drewN (n + k)) fun e w'' => e = .returned v ∧ ∃ m, w'' = w.drewN (n + m) :=
  h.mono fun _ _ ⟨he, hm⟩ => ⟨he, k, hm.symm⟩

theorem limit26_any (n lo hi : Int) (w : World) : Calls Try.prog 26 #[.int .i64 n, .int .i64 lo, .int .i64 hi] w fun e w' => e = .returned (.int .i64 (lim n lo hi)) ∧ w = w' := by
  obtain ⟨r, hr⟩ : ∃ r, r = lim n lo hi := ⟨_, rfl⟩
  have HR := hide hr
  rw [← hr]
  clear hr
  go_enter Try.func26, Try.ntmps26
  go_wp2
  all_goals
    go_ret
    exact ⟨ret_i (by rw [HR.out]; unfold lim; omega), rfl⟩
theorem freq27_any (n : Int) (w : World) : Calls Try.prog 27 #[.int .i64 n] w fun e w' => e = .returned (.int .i64 (lim n 0 1048576)) ∧ w = w' := by
  obtain ⟨r, hr⟩ : ∃ r, r = lim n 0 1048576 := ⟨_, rfl⟩
  have HR := hide hr
  rw [← hr]
  clear hr
  go_enter Try.func27, Try.ntmps27
  go_wp2
  all_goals
    go_ret
    exact ⟨ret_i (by rw [HR.out]; unfold lim; omega), rfl⟩

set_option maxRecDepth 100000 in
set_option maxHeartbeats 1000000 in
theorem cost16_walk (f l : List Int) (a0 a1 : Option Addr) (n m c0 c1 N : Nat) (w : World) (r : Int)
    (HC : Hid (∀ (k : Nat) (W : World), k < N → Fr [] w W → ∃ x y, a0 = some x ∧ a1 = some y ∧ W.cell? (x.add k) = some (.int .i64 (f.getD k 0)) ∧ W.cell? (y.add k) = some (.int .i64 (l.getD k 0)) ∧ k < n ∧ k < m))
    (HRN : Hid (r = cs f l N)) (hN2 : N ≤ 100000) (hmin : ((n : Int) ≤ (m : Int) ∧ N = n) ∨ ((m : Int) < (n : Int) ∧ N = m)) :
    Calls Try.prog 16 #[.slice a0 n c0, .slice a1 m c1] w fun e w' => e = .returned (.int .i64 r) ∧ Fr [] w w' := by
  rcases hmin with ⟨hmin, rfl⟩ | ⟨hmin, rfl⟩
  all_goals
      go_enter Try.func16, Try.ntmps16
      go_wp2_with fail
      go_loopg [5, 12] (N + 1) (fun gk s i wr => ∃ (k : Nat), gk = N + 1 - k ∧ k ≤ N ∧ i = .int .i64 k ∧ s = .int .i64 (cs f l k) ∧ Fr [] w wr)
      case atStart => exact ⟨0, rfl, by omega, rfl, rfl, Fr.refl _ _⟩
      case round =>
        obtain ⟨k, hgk, hk, rfl, rfl, hf⟩ := hrel
        have HGK := hide hgk
        have HF := hide hf
        have hcs := cs_bd f l k
        have HCS := hide (show cs f l (k + 1) = cs f l k + lim (f.getD k 0) 0 1048576 * lim (l.getD k 0) 0 15 from rfl)
        clear hgk
        by_cases hlt : k < N
        · obtain ⟨x, y, rfl, rfl, hx, hy, hkn, hkm⟩ := HC.out k wr hlt hf
          have hxb := World.block_lt_of_cell? wr _ hx
          have hyb := World.block_lt_of_cell? wr _ hy
          obtain ⟨p, hp⟩ : ∃ y, y = f.getD k 0 := ⟨_, rfl⟩
          obtain ⟨q, hq⟩ : ∃ y, y = l.getD k 0 := ⟨_, rfl⟩
          obtain ⟨s, hs⟩ : ∃ y, y = cs f l k := ⟨_, rfl⟩
          rw [← hp] at hx HCS
          rw [← hq] at hy HCS
          rw [← hs] at hcs HCS ⊢
          clear hp hq hs hf
          have hpl := lim_f p
          have hql := lim_l q
          have hpr := lim_prod _ _ hpl hql
          have b0 : (0 : Int) ≤ (k : Int) := by omega
          have b1 := Int.ofNat_lt.2 hkn
          have b2 := Int.ofNat_lt.2 hkm
          go_wp2_with fail
          go_quiet (exact quiet_same (limit26_any _ _ _ _))
          go_wp2_with fail
          go_roundg (N + 1 - (k + 1))
          case measure => have := HGK.out; omega
          case rel => exact ⟨k + 1, rfl, by omega, by go_num, by rw [HCS.out], (HF.out.drewN _)⟩
        · obtain rfl : k = N := by omega
          go_wp2
          go_ret
          exact ⟨ret_i HRN.out.symm, HF.out⟩

set_option maxRecDepth 100000 in
set_option maxHeartbeats 1000000 in
theorem cost16_any (v0 v1 : Value) (f l : List Int) (w : World) (h0 : IR w v0 f) (h1 : IR w v1 l) (hf : f.length ≤ 100000) (hl : l.length ≤ 100000) :
    Calls Try.prog 16 #[v0, v1] w fun e w' => e = .returned (.int .i64 (cost f l)) ∧ Fr [] w w' := by
  have HI0 := hide h0
  have HI1 := hide h1
  obtain ⟨a0, c0, rfl, _⟩ := h0
  obtain ⟨a1, c1, rfl, _⟩ := h1
  obtain ⟨n, hn⟩ : ∃ n, n = f.length := ⟨_, rfl⟩
  obtain ⟨m, hm⟩ : ∃ n, n = l.length := ⟨_, rfl⟩
  obtain ⟨N, hN⟩ : ∃ N, N = min n m := ⟨_, rfl⟩
  obtain ⟨r, hr⟩ : ∃ r, r = cost f l := ⟨_, rfl⟩
  rw [← hn] at hf HI0 ⊢
  rw [← hm] at hl HI1 ⊢
  rw [← hr]
  have HR := hide hr
  have HCELLS : Hid (∀ (k : Nat) (W : World), k < N → Fr [] w W → ∃ x y, a0 = some x ∧ a1 = some y ∧ W.cell? (x.add k) = some (.int .i64 (f.getD k 0)) ∧ W.cell? (y.add k) = some (.int .i64 (l.getD k 0)) ∧ k < n ∧ k < m) := by
    show ∀ (k : Nat) (W : World), _ → _ → _
    intro k W hk hW
    obtain ⟨b0, c0', e0, g0⟩ := HI0.out.fr hW
    obtain ⟨b1, c1', e1, g1⟩ := HI1.out.fr hW
    injection e0 with e0 _ _
    injection e1 with e1 _ _
    obtain ⟨x, hx, hx2⟩ := g0 k (by omega)
    obtain ⟨y, hy, hy2⟩ := g1 k (by omega)
    exact ⟨x, y, by rw [e0, hx], by rw [e1, hy], hx2, hy2, by omega, by omega⟩
  have HRN : Hid (r = cs f l N) := by
    show _ = _
    rw [hr, hN, hn, hm]
    rfl
  have hN2 : N ≤ 100000 := by omega
  have hmin : ((n : Int) ≤ (m : Int) ∧ N = n) ∨ ((m : Int) < (n : Int) ∧ N = m) := by omega
  exact cost16_walk f l a0 a1 n m c0 c1 N w r HCELLS HRN hN2 hmin

set_option maxRecDepth 100000 in
set_option maxHeartbeats 1000000 in
theorem rcost17_walk (f l : List Int) (a0 a1 : Option Addr) (n m c0 c1 N : Nat) (w : World) (r : Int)
    (HC : Hid (∀ (k : Nat) (W : World), k < N → Fr [] w W → ∃ x y, a0 = some x ∧ a1 = some y ∧ W.cell? (x.add k) = some (.int .i64 (f.getD k 0)) ∧ W.cell? (y.add k) = some (.int .i64 (l.getD k 0)) ∧ k < n ∧ k < m))
    (HRN : Hid (r = cs f l N)) (hN2 : N ≤ 100000) (hmin : ((n : Int) ≤ (m : Int) ∧ N = n) ∨ ((m : Int) < (n : Int) ∧ N = m)) :
    Calls Try.prog 17 #[.slice a0 n c0, .slice a1 m c1] w fun e w' => e = .returned (.int .i64 r) ∧ Fr [] w w' := by
  rcases hmin with ⟨hmin, rfl⟩ | ⟨hmin, rfl⟩
  all_goals
    go_enter Try.func17, Try.ntmps17
    go_wp2_with fail
    go_loopg [5, 6] (N + 1) (fun gk s i wr => ∃ (k : Nat), gk = N + 1 - k ∧ k ≤ N ∧ i = .int .i64 k ∧ s = .int .i64 (cs f l k) ∧ Fr [] w wr)
    case atStart => exact ⟨0, rfl, by omega, rfl, rfl, Fr.refl _ _⟩
    case round =>
      obtain ⟨k, hgk, hk, rfl, rfl, hf⟩ := hrel
      have HGK := hide hgk
      have HF := hide hf
      have hcs := cs_bd f l k
      have HCS := hide (show cs f l (k + 1) = cs f l k + lim (f.getD k 0) 0 1048576 * lim (l.getD k 0) 0 15 from rfl)
      clear hgk
      by_cases hlt : k < N
      · obtain ⟨x, y, rfl, rfl, hx, hy, hkn, hkm⟩ := HC.out k wr hlt hf
        have hxb := World.block_lt_of_cell? wr _ hx
        have hyb := World.block_lt_of_cell? wr _ hy
        obtain ⟨p, hp⟩ : ∃ y, y = f.getD k 0 := ⟨_, rfl⟩
        obtain ⟨q, hq⟩ : ∃ y, y = l.getD k 0 := ⟨_, rfl⟩
        obtain ⟨s, hs⟩ : ∃ y, y = cs f l k := ⟨_, rfl⟩
        rw [← hp] at hx HCS
        rw [← hq] at hy HCS
        rw [← hs] at hcs HCS ⊢
        clear hp hq hs hf
        have hpl := lim_f p
        have b0 : (0 : Int) ≤ (k : Int) := by omega
        have b1 := Int.ofNat_lt.2 hkn
        have b2 := Int.ofNat_lt.2 hkm
        have d1 : decide (k < N) = true := by simpa using hlt
        go_upto_region 5 with (fail)
        have hq3 : q < 0 ∨ (0 ≤ q ∧ q ≤ 15) ∨ 15 < q := by omega
        rcases hq3 with hq3 | hq3 | hq3
        · rw [show lim q 0 15 = 0 by unfold lim; omega] at HCS
          go_quiet (exact quiet_same (freq27_any _ _))
          go_wp2_with fail
          go_roundg (N + 1 - (k + 1))
          case measure => have := HGK.out; omega
          case rel => exact ⟨k + 1, rfl, by omega, by go_num, by rw [HCS.out]; simp, (HF.out.drewN _)⟩
        · rw [show lim q 0 15 = q by unfold lim; omega] at HCS
          have hpr := lim_prod _ _ hpl hq3
          go_quiet (exact quiet_same (freq27_any _ _))
          go_wp2_with fail
          go_roundg (N + 1 - (k + 1))
          case measure => have := HGK.out; omega
          case rel => exact ⟨k + 1, rfl, by omega, by go_num, by rw [HCS.out], (HF.out.drewN _)⟩
        · rw [show lim q 0 15 = 15 by unfold lim; omega] at HCS
          go_quiet (exact quiet_same (freq27_any _ _))
          go_wp2_with fail
          go_roundg (N + 1 - (k + 1))
          case measure => have := HGK.out; omega
          case rel => exact ⟨k + 1, rfl, by omega, by go_num, by rw [HCS.out], (HF.out.drewN _)⟩
      · obtain rfl : k = N := by omega
        go_wp2
        go_ret
        exact ⟨ret_i HRN.out.symm, HF.out⟩

theorem rcost17_any (v0 v1 : Value) (f l : List Int) (w : World) (h0 : IR w v0 f) (h1 : IR w v1 l) (hf : f.length ≤ 100000) (hl : l.length ≤ 100000) :
    Calls Try.prog 17 #[v0, v1] w fun e w' => e = .returned (.int .i64 (cost f l)) ∧ Fr [] w w' := by
  have HI0 := hide h0
  have HI1 := hide h1
  obtain ⟨a0, c0, rfl, _⟩ := h0
  obtain ⟨a1, c1, rfl, _⟩ := h1
  have HCELLS : Hid (∀ (k : Nat) (W : World), k < min f.length l.length → Fr [] w W → ∃ x y, a0 = some x ∧ a1 = some y ∧ W.cell? (x.add k) = some (.int .i64 (f.getD k 0)) ∧ W.cell? (y.add k) = some (.int .i64 (l.getD k 0)) ∧ k < f.length ∧ k < l.length) := by
    show ∀ (k : Nat) (W : World), _ → _ → _
    intro k W hk hW
    obtain ⟨b0, c0', e0, g0⟩ := HI0.out.fr hW
    obtain ⟨b1, c1', e1, g1⟩ := HI1.out.fr hW
    injection e0 with e0 _ _
    injection e1 with e1 _ _
    obtain ⟨x, hx, hx2⟩ := g0 k (by omega)
    obtain ⟨y, hy, hy2⟩ := g1 k (by omega)
    exact ⟨x, y, by rw [e0, hx], by rw [e1, hy], hx2, hy2, by omega, by omega⟩
  exact rcost17_walk f l a0 a1 _ _ c0 c1 _ w _ HCELLS (hide rfl) (by omega) (by omega)

set_option maxRecDepth 100000 in
set_option maxHeartbeats 1000000 in
theorem same13_any (v0 v1 : Value) (l : List Int) (w : World) (h0 : IR w v0 l) (h1 : IR w v1 l) (hl : l.length ≤ 100000) :
    Calls Try.prog 13 #[v0, v1] w fun e w' => e = .returned (.bool true) ∧ Fr [] w w' := by
  have HI0 := hide h0
  have HI1 := hide h1
  obtain ⟨a0, c0, rfl, _⟩ := h0
  obtain ⟨a1, c1, rfl, _⟩ := h1
  obtain ⟨n, hn⟩ : ∃ n, n = l.length := ⟨_, rfl⟩
  have HC : Hid (∀ (k : Nat) (W : World), k < n → Fr [] w W → ∃ x y, a0 = some x ∧ a1 = some y ∧ W.cell? (x.add k) = some (.int .i64 (l.getD k 0)) ∧ W.cell? (y.add k) = some (.int .i64 (l.getD k 0))) := by
    show ∀ (k : Nat) (W : World), _ → _ → _
    intro k W hk hW
    obtain ⟨b0, c0', e0, g0⟩ := HI0.out.fr hW
    obtain ⟨b1, c1', e1, g1⟩ := HI1.out.fr hW
    injection e0 with e0 _ _
    injection e1 with e1 _ _
    obtain ⟨x, hx, hx2⟩ := g0 k (by omega)
    obtain ⟨y, hy, hy2⟩ := g1 k (by omega)
    exact ⟨x, y, by rw [e0, hx], by rw [e1, hy], hx2, hy2⟩
  rw [← hn] at hl ⊢
  clear hn HI0 HI1
  go_enter Try.func13, Try.ntmps13
  go_wp2_with fail
  go_loopg [5] (n + 1) (fun gk i wr => ∃ (k : Nat), gk = n + 1 - k ∧ k ≤ n ∧ i = .int .i64 k ∧ Fr [] w wr)
  case atStart => exact ⟨0, rfl, by omega, rfl, Fr.refl _ _⟩
  case round =>
    obtain ⟨k, hgk, hk, rfl, hf⟩ := hrel
    have HGK := hide hgk
    have HF := hide hf
    clear hgk
    by_cases hlt : k < n
    · obtain ⟨x, y, rfl, rfl, hx, hy⟩ := HC.out k wr hlt hf
      have hxb := World.block_lt_of_cell? wr _ hx
      have hyb := World.block_lt_of_cell? wr _ hy
      obtain ⟨p, hp⟩ : ∃ y, y = l.getD k 0 := ⟨_, rfl⟩
      rw [← hp] at hx hy
      clear hp hf
      have b0 : (0 : Int) ≤ (k : Int) ∧ (k : Int) < (n : Int) := by omega
      go_upto_region 6 with (fail)
      go_quiet (fail)
      go_wp2_with fail
      go_roundg (n + 1 - (k + 1))
      case measure => have := HGK.out; omega
      case rel => exact ⟨k + 1, rfl, by omega, by go_num, (HF.out.drewN _)⟩
    · obtain rfl : k = n := by omega
      go_wp2
      go_ret
      exact ⟨rfl, HF.out⟩
end Go.Proofs.Ythmhcnnigepohaa

