/- Arguments of type []int; Check, in the program and in the reference. -/
import Derived.Test.YthmhcnnigepohaaGreatDoorM02
import Derived.Test.YthmhcnnigepohaaGreatDoorM03
import Derived.Test.YthmhcnnigepohaaGreatDoorProg
import Derived.IntWalk
namespace Go.Proofs.YthmhcnnigepohaaGreatDoor.Hf
open Go.RowKit

/-- A slice of ints, read alone. -/
def IR (w : World) (v : Value) (l : List Int) : Prop :=
  ∃ a cap, v = .slice a l.length cap ∧ ∀ i, i < l.length → ∃ x, a = some x ∧ w.cell? (x.add i) = some (.int .i64 (l.getD i 0))
theorem IR.fr {w w' : World} {v : Value} {l : List Int} (h : IR w v l) (hf : Fr [] w w') : IR w' v l := by
  obtain ⟨a, cap, h1, h2⟩ := h
  refine ⟨a, cap, h1, fun i hi => ?_⟩
  obtain ⟨x, h3, h4⟩ := h2 i hi
  exact ⟨x, h3, by rw [World.cell?_of_block (w := w) (hf.block _ (World.block_lt_of_cell? w _ h4) (by simp))]; exact h4⟩

def ks (l : List Int) : Nat → Int
  | 0 => 0
  | k + 1 => ks l k + if 0 < l.getD k 0 then 2 ^ (15 - l.getD k 0).toNat else 0
def us (l : List Int) : Nat → Int
  | 0 => 0
  | k + 1 => us l k + if 0 < l.getD k 0 then 1 else 0
def ms (l : List Int) : Nat → Int
  | 0 => 0
  | k + 1 => if 0 < l.getD k 0 then max (ms l k) (l.getD k 0) else ms l k
def bad (l : List Int) : Bool := l.any (fun n => decide (n < 0) || decide (15 < n))
/-- Check. -/
def chk (l : List Int) : Int :=
  if 320 < l.length then 3 else if bad l then 4 else if 32768 < ks l l.length then 2 else if ks l l.length = 32768 ∨ us l l.length = 0 ∨ us l l.length = 1 ∧ ks l l.length = 16384 then 0 else 1

theorem bad_at {l : List Int} {k : Nat} (hk : k < l.length) (h : l.getD k 0 < 0 ∨ 15 < l.getD k 0) : bad l = true := by
  unfold bad
  rw [List.any_eq_true]
  refine ⟨l[k], List.getElem_mem hk, ?_⟩
  have e : l.getD k 0 = l[k] := by simp [List.getD, List.getElem?_eq_getElem hk]
  rw [e] at h
  simpa using h
theorem good_of {l : List Int} (h : ∀ i, i < l.length → 0 ≤ l.getD i 0 ∧ l.getD i 0 ≤ 15) : bad l = false := by
  unfold bad
  rw [List.any_eq_false]
  intro x hx
  obtain ⟨i, hi, rfl⟩ := List.mem_iff_getElem.1 hx
  have := h i hi
  have e : l.getD i 0 = l[i] := by simp [List.getD, List.getElem?_eq_getElem hi]
  rw [e] at this
  simp
  omega
theorem ks_bd (l : List Int) : ∀ k, 0 ≤ ks l k ∧ ks l k ≤ k * 16384
  | 0 => by simp [ks]
  | k + 1 => by
    have ih := ks_bd l k
    rw [ks]
    split
    · rename_i h
      have h1 : (15 - l.getD k 0).toNat ≤ 14 := by omega
      have h2 : (2 : Int) ^ (15 - l.getD k 0).toNat ≤ 16384 := by
        have := Nat.pow_le_pow_right (n := 2) (by omega) h1
        have e : ((2 ^ (15 - l.getD k 0).toNat : Nat) : Int) = (2 : Int) ^ (15 - l.getD k 0).toNat := by simp
        omega
      have h3 : (0 : Int) < (2 : Int) ^ (15 - l.getD k 0).toNat := Int.pow_pos (by omega)
      omega
    · omega
theorem us_bd (l : List Int) : ∀ k, 0 ≤ us l k ∧ us l k ≤ k
  | 0 => by simp [us]
  | k + 1 => by
    have ih := us_bd l k
    rw [us]
    split <;> omega
theorem ms_bd (l : List Int) : ∀ k, (∀ i, i < k → l.getD i 0 ≤ 15) → 0 ≤ ms l k ∧ ms l k ≤ 15
  | 0, _ => by simp [ms]
  | k + 1, h => by
    have ih := ms_bd l k (fun i hi => h i (by omega))
    have := h k (by omega)
    rw [ms]
    split <;> omega
/-- With none used; with one used. -/
theorem one_used (l : List Int) : ∀ k, (∀ i, i < k → 0 ≤ l.getD i 0 ∧ l.getD i 0 ≤ 15) → (us l k = 0 → ks l k = 0 ∧ ms l k = 0) ∧ (us l k = 1 → ks l k = 2 ^ (15 - ms l k).toNat ∧ 1 ≤ ms l k)
  | 0, _ => by simp [us, ks, ms]
  | k + 1, h => by
    obtain ⟨i1, i2⟩ := one_used l k (fun i hi => h i (by omega))
    have hk := h k (by omega)
    have hu := us_bd l k
    rw [us, ks, ms]
    split
    · rename_i h0
      refine ⟨fun h1 => by omega, fun h1 => ?_⟩
      obtain ⟨e1, e2⟩ := i1 (by omega)
      rw [e1, e2, show max 0 (l.getD k 0) = l.getD k 0 by omega]
      exact ⟨by omega, by omega⟩
    · rename_i h0
      refine ⟨fun h1 => ?_, fun h1 => ?_⟩
      · have := i1 (by omega); omega
      · have := i2 (by omega); omega
theorem short_iff (l : List Int) (h : ∀ i, i < l.length → 0 ≤ l.getD i 0 ∧ l.getD i 0 ≤ 15) (_hk : ks l l.length < 32768) (hu : us l l.length = 1) : 1 < ms l l.length ↔ ks l l.length ≠ 16384 := by
  obtain ⟨_, i2⟩ := one_used l l.length h
  obtain ⟨e1, e2⟩ := i2 hu
  have hb := ms_bd l l.length (fun i hi => (h i hi).2)
  rw [e1]
  constructor
  · intro h1 he
    have h3 : (15 - ms l l.length).toNat ≤ 13 := by omega
    have := Nat.pow_le_pow_right (n := 2) (by omega) h3
    have e : ((2 ^ (15 - ms l l.length).toNat : Nat) : Int) = (2 : Int) ^ (15 - ms l l.length).toNat := by simp
    omega
  · intro h1
    refine Classical.byContradiction fun h2 => h1 ?_
    rw [show ms l l.length = 1 by omega]
    rfl

theorem ret_i {k : IntKind} {a b : Int} (h : a = b) : Ending.returned (.int k a) = .returned (.int k b) := by rw [h]
theorem ret_b {a b : Bool} (h : a = b) : Ending.returned (.bool a) = .returned (.bool b) := by rw [h]
theorem pow_bd (m : Nat) (h1 : 1 ≤ m) : (1 : Int) ≤ 2 ^ (15 - m) ∧ (2 : Int) ^ (15 - m) ≤ 16384 := by
  have h2 := Nat.pow_le_pow_right (n := 2) (by omega) (show 15 - m ≤ 14 by omega)
  have h3 : 0 < 2 ^ (15 - m) := Nat.pow_pos (by omega)
  have e : ((2 ^ (15 - m) : Nat) : Int) = (2 : Int) ^ (15 - m) := by simp
  omega

set_option maxRecDepth 100000 in
set_option maxHeartbeats 1000000 in
theorem check11_any (v : Value) (l : List Int) (w : World) (h : IR w v l) (hl : l.length ≤ 100000) :
    Calls Tryz.prog 56 #[v] w fun e w' => e = .returned (.int .i64 (chk l)) ∧ w = w' := by
  obtain ⟨a, cap, rfl, hc⟩ := h
  have HC := hide hc
  clear hc
  obtain ⟨n, hn⟩ : ∃ n, n = l.length := ⟨_, rfl⟩
  rw [← hn] at hl HC ⊢
  have HN := hide hn
  by_cases h3 : 320 < n
  · have HR : Hid (chk l = 3) := by show _ = _; unfold chk; rw [if_pos (by omega)]
    rw [HR.out]
    clear hn
    go_enter Tryz.func56, Tryz.ntmps56
    go_wp2
    go_ret
    exact ⟨rfl, rfl⟩
  clear hn
  have hn3 : n ≤ 320 := by omega
  obtain ⟨r, hr⟩ : ∃ r, r = chk l := ⟨_, rfl⟩
  rw [← hr]
  have HR := hide hr
  clear hr
  go_enter Tryz.func56, Tryz.ntmps56
  go_wp2_with fail
  go_loopg [3, 4, 5, 13] (n + 1) (fun gk s u m i wr => ∃ (k : Nat), gk = n + 1 - k ∧ k ≤ n ∧ i = .int .i64 k ∧ s = .int .i64 (ks l k) ∧ u = .int .i64 (us l k) ∧ m = .int .i64 (ms l k) ∧ (∀ i, i < k → 0 ≤ l.getD i 0 ∧ l.getD i 0 ≤ 15) ∧ w = wr)
  case atStart => exact ⟨0, rfl, by omega, rfl, rfl, rfl, rfl, by simp, rfl⟩
  case round =>
    obtain ⟨k, hgk, hk, rfl, rfl, rfl, rfl, hgd, rfl⟩ := hrel
    have HGK := hide hgk
    have HG := hide hgd
    have hks := ks_bd l k
    have hus := us_bd l k
    have hms := ms_bd l k (fun i hi => (hgd i hi).2)
    have HKS := hide (show ks l (k + 1) = ks l k + if 0 < l.getD k 0 then 2 ^ (15 - l.getD k 0).toNat else 0 from rfl)
    have HUS := hide (show us l (k + 1) = us l k + if 0 < l.getD k 0 then 1 else 0 from rfl)
    have HMS := hide (show ms l (k + 1) = if 0 < l.getD k 0 then max (ms l k) (l.getD k 0) else ms l k from rfl)
    clear hgk hgd
    by_cases hlt : k < n
    · obtain ⟨x, rfl, hc⟩ := HC.out k hlt
      have hx := World.block_lt_of_cell? w _ hc
      obtain ⟨y, hy⟩ : ∃ y, y = l.getD k 0 := ⟨_, rfl⟩
      rw [← hy] at hc HKS HUS HMS
      obtain ⟨sk, hsk⟩ : ∃ s, s = ks l k := ⟨_, rfl⟩
      obtain ⟨uk, huk⟩ : ∃ s, s = us l k := ⟨_, rfl⟩
      obtain ⟨mk, hmk⟩ : ∃ s, s = ms l k := ⟨_, rfl⟩
      rw [← hsk] at hks HKS ⊢
      rw [← huk] at hus HUS ⊢
      rw [← hmk] at hms HMS ⊢
      have HY := hide hy
      clear hy hsk huk hmk
      by_cases hb : y < 0 ∨ 15 < y
      · have hr4 : r = 4 := by
          rw [HR.out]
          unfold chk
          rw [if_neg (by have := HN.out; omega), if_pos (bad_at (k := k) (by have := HN.out; omega) (by rw [← HY.out]; exact hb))]
        rcases hb with hb | hb
        all_goals
          go_wp2
          go_ret
          exact ⟨ret_i hr4.symm, rfl⟩
      · have hy0 : 0 ≤ y ∧ y ≤ 15 := by omega
        clear hb
        by_cases hp : 0 < y
        · obtain ⟨m, rfl⟩ : ∃ m : Nat, y = (m : Int) := ⟨y.toNat, by omega⟩
          have e1 : (15 - (m : Int)).toNat = 15 - m := by omega
          have e2 : (0 : Int) ≤ 15 - (m : Int) ∧ 15 - (m : Int) ≤ 14 := by omega
          obtain ⟨p, hp2⟩ : ∃ p, (2 : Int) ^ (15 - m) = p := ⟨_, rfl⟩
          have hpb := pow_bd m (by omega)
          rw [e1, hp2] at HKS
          rw [hp2] at hpb
          go_wp2
          all_goals
            go_roundg (n + 1 - (k + 1))
            case measure => have := HGK.out; omega
            case rel =>
              refine ⟨k + 1, rfl, by omega, by go_num, ?_, ?_, ?_, ?_, rfl⟩
              · rw [HKS.out, if_pos hp]
              · rw [HUS.out, if_pos hp]
              · rw [HMS.out, if_pos hp]; congr 1; omega
              · intro i hi
                by_cases hik : i = k
                · subst hik; rw [← HY.out]; exact hy0
                · exact HG.out i (by omega)
        · obtain rfl : y = 0 := by omega
          go_wp2
          go_roundg (n + 1 - (k + 1))
          case measure => have := HGK.out; omega
          case rel =>
            refine ⟨k + 1, rfl, by omega, by go_num, ?_, ?_, ?_, ?_, rfl⟩
            · rw [HKS.out, if_neg (Int.lt_irrefl 0)]; go_num
            · rw [HUS.out, if_neg (Int.lt_irrefl 0)]; go_num
            · rw [HMS.out, if_neg (Int.lt_irrefl 0)]
            · intro i hi
              by_cases hik : i = k
              · subst hik; rw [← HY.out]; exact hy0
              · exact HG.out i (by omega)
    · obtain rfl : k = n := by omega
      have hgd := HG.out
      rw [HN.out] at hgd
      have hsi := short_iff l hgd
      rw [← HN.out] at hsi
      obtain ⟨sk, hsk⟩ : ∃ s, s = ks l k := ⟨_, rfl⟩
      obtain ⟨uk, huk⟩ : ∃ s, s = us l k := ⟨_, rfl⟩
      obtain ⟨mk, hmk⟩ : ∃ s, s = ms l k := ⟨_, rfl⟩
      have hre : r = if 32768 < sk then 2 else if sk = 32768 ∨ uk = 0 ∨ uk = 1 ∧ sk = 16384 then 0 else 1 := by
        rw [HR.out]
        unfold chk
        rw [if_neg (by have := HN.out; omega), if_neg (by rw [good_of hgd]; simp), ← HN.out, ← hsk, ← huk]
      have hu0 : uk = 0 → sk = 0 := by
        intro h
        rw [hsk]
        exact ((one_used l k (fun i hi => hgd i (by have := HN.out; omega))).1 (by rw [← huk]; exact h)).1
      rw [← hsk] at hks hsi ⊢
      rw [← huk] at hus hsi ⊢
      rw [← hmk] at hms hsi ⊢
      have HSI := hide hsi
      have HRE := hide hre
      have HU0 := hide hu0
      clear hsi hre hu0 hsk huk hmk hgd
      go_wp2
      all_goals
        go_ret
        refine ⟨ret_i ?_, rfl⟩
        rw [HRE.out]
        have h1 := HSI.out
        have h2 := HU0.out
        clear HSI HRE HU0
        (repeat' split) <;> first | rfl | (exfalso; omega) | trace_state

end Go.Proofs.YthmhcnnigepohaaGreatDoor.Hf

/- limit, Frequency, Cost, Same: in the program and in the reference. -/
namespace Go.Proofs.YthmhcnnigepohaaGreatDoor.Hf
open Go.RowKit

def lim (n lo hi : Int) : Int := max lo (min hi n)
theorem lim_f (n : Int) : 0 ≤ lim n 0 1048576 ∧ lim n 0 1048576 ≤ 1048576 := by unfold lim; omega
theorem lim_l (n : Int) : 0 ≤ lim n 0 15 ∧ lim n 0 15 ≤ 15 := by unfold lim; omega
theorem lim_prod (a b : Int) (ha : 0 ≤ a ∧ a ≤ 1048576) (hb : 0 ≤ b ∧ b ≤ 15) : 0 ≤ a * b ∧ a * b ≤ 15728640 := by
  refine ⟨Int.mul_nonneg ha.1 hb.1, ?_⟩
  have := Int.mul_le_mul ha.2 hb.2 hb.1 (by omega)
  omega
/-- Cost of the first k. -/
def cs (f l : List Int) : Nat → Int
  | 0 => 0
  | k + 1 => cs f l k + lim (f.getD k 0) 0 1048576 * lim (l.getD k 0) 0 15
theorem cs_bd (f l : List Int) : ∀ k, 0 ≤ cs f l k ∧ cs f l k ≤ k * 15728640
  | 0 => by simp [cs]
  | k + 1 => by
    have ih := cs_bd f l k
    have := lim_prod _ _ (lim_f (f.getD k 0)) (lim_l (l.getD k 0))
    rw [cs]
    omega
def cost (f l : List Int) : Int := cs f l (min f.length l.length)

theorem quiet_at_same {P : Program} {f : FuncId} {args : Array Value} {w : World} {n k : Nat} {v : Value}
    (h : Calls P f args (w.drewN (n + k)) fun e w' => e = .returned v ∧ w.drewN (n + k) = w') : Calls P f args (w.drewN (n + k)) fun e w'' => e = .returned v ∧ ∃ m, w'' = w.drewN (n + m) :=
  h.mono fun _ _ ⟨he, hm⟩ => ⟨he, k, hm.symm⟩

theorem limit26_any (n lo hi : Int) (w : World) : Calls Tryz.prog 53 #[.int .i64 n, .int .i64 lo, .int .i64 hi] w fun e w' => e = .returned (.int .i64 (lim n lo hi)) ∧ w = w' := by
  obtain ⟨r, hr⟩ : ∃ r, r = lim n lo hi := ⟨_, rfl⟩
  have HR := hide hr
  rw [← hr]
  clear hr
  go_enter Tryz.func53, Tryz.ntmps53
  go_wp2
  all_goals
    go_ret
    exact ⟨ret_i (by rw [HR.out]; unfold lim; omega), rfl⟩
end Go.Proofs.YthmhcnnigepohaaGreatDoor.Hf
