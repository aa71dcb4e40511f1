/- What Check's OK says, and a step of decoding: no program in sight. -/
import Derived.Test.YthmhcnnigepohaaArg
namespace Go.Proofs.Ythmhcnnigepohaa

theorem kr_snoc (A : List Nat) (x : Nat) : kr (A ++ [x]) = kr A + if x = 0 then 0 else 2 ^ (15 - x) := by simp [kr]
theorem ks_kr (L : List Nat) (hL : ∀ x ∈ L, x ≤ 15) : ∀ k, k ≤ L.length → ks (zI L) k = (kr (L.take k) : Int)
  | 0, _ => by simp [ks, kr]
  | k + 1, h => by
    have ih := ks_kr L hL k (by omega)
    rw [ks, ih, take_get (by omega), kr_snoc, zI_get]
    obtain ⟨y, hy⟩ : ∃ y, y = L.getD k 0 := ⟨_, rfl⟩
    have hy15 : y ≤ 15 := by
      have e : L.getD k 0 = L[k] := by simp [List.getD, List.getElem?_eq_getElem (show k < L.length by omega)]
      rw [hy, e]; exact hL _ (List.getElem_mem _)
    rw [← hy]
    by_cases h0 : y = 0
    · subst h0; simp
    · rw [if_pos (by omega), if_neg h0, show (15 - (y : Int)).toNat = 15 - y by omega]
      simp
theorem ks_all (L : List Nat) (hL : ∀ x ∈ L, x ≤ 15) : ks (zI L) (zI L).length = (kr L : Int) := by
  rw [zI_len, ks_kr L hL _ (Nat.le_refl _), List.take_length]
theorem us_zero (l : List Int) : ∀ k, us l k = 0 → ∀ i, i < k → ¬ 0 < l.getD i 0
  | 0, _, i, hi => by omega
  | k + 1, h, i, hi => by
    have hb := us_bd l k
    rw [us] at h
    by_cases h0 : 0 < l.getD k 0
    · rw [if_pos h0] at h; omega
    · rw [if_neg h0] at h
      by_cases hik : i = k
      · subst hik; exact h0
      · exact us_zero l k (by omega) i (by omega)
theorem ms_ge (l : List Int) : ∀ k i, i < k → 0 < l.getD i 0 → l.getD i 0 ≤ ms l k
  | 0, i, hi, _ => by omega
  | k + 1, i, hi, h0 => by
    rw [ms]
    by_cases hik : i = k
    · subst hik
      rw [if_pos h0]; omega
    · have := ms_ge l k i (by omega) h0
      split <;> omega
theorem us_count (L : List Nat) : ∀ k, k ≤ L.length → ((L.take k).count 1 : Int) ≤ us (zI L) k
  | 0, _ => by simp [us]
  | k + 1, h => by
    have ih := us_count L k (by omega)
    rw [us, take_get (by omega), List.count_append, List.count_singleton, zI_get]
    obtain ⟨y, hy⟩ : ∃ y, y = L.getD k 0 := ⟨_, rfl⟩
    rw [← hy]
    by_cases h1 : y = 1
    · subst h1; simp; omega
    · have h2 : ¬ (y == 1) = true := by simpa using h1
      rw [if_neg h2]
      split <;> simp <;> omega

/-- Complete, or none used, or one with the length 1. -/
def Good (L : List Nat) : Prop := kr L = 2 ^ 15 ∨ ((∀ i, i < L.length → L.getD i 0 ≤ 1) ∧ L.count 1 ≤ 1)
theorem chk_good {l : List Int} (h : chk l = 0) : ∃ L : List Nat, l = zI L ∧ (∀ x ∈ L, x ≤ 15) ∧ L.length ≤ 320 ∧ Good L := by
  obtain ⟨L, rfl, hL, hlen, hk⟩ := chk_ok (.inl h)
  refine ⟨L, rfl, hL, hlen, ?_⟩
  unfold chk at h
  rw [if_neg (by rw [zI_len]; omega)] at h
  cases hb : bad (zI L) with
  | true => rw [hb] at h; simp at h
  | false =>
    rw [hb] at h
    simp only [Bool.false_eq_true, if_false] at h
    rw [if_neg (by omega)] at h
    by_cases hc : ks (zI L) (zI L).length = 32768 ∨ us (zI L) (zI L).length = 0 ∨ us (zI L) (zI L).length = 1 ∧ ks (zI L) (zI L).length = 16384
    · rcases hc with hc | hc | ⟨hc, hc2⟩
      · left
        rw [ks_all L hL] at hc
        omega
      · right
        have hz := us_zero (zI L) _ hc
        rw [zI_len] at hz
        refine ⟨fun i hi => ?_, ?_⟩
        · have := hz i hi
          rw [zI_get] at this
          omega
        · have h1 := us_count L L.length (Nat.le_refl _)
          rw [List.take_length] at h1
          rw [zI_len] at hc
          omega
      · right
        have hv := bad_false hb
        obtain ⟨_, i2⟩ := one_used (zI L) _ hv
        obtain ⟨e1, e2⟩ := i2 hc
        have hmb := ms_bd (zI L) _ (fun i hi => (hv i hi).2)
        have hm1 : ms (zI L) (zI L).length = 1 := by
          refine Classical.byContradiction fun hne => ?_
          have h3 : (15 - ms (zI L) (zI L).length).toNat ≤ 13 := by omega
          have h4 := Nat.pow_le_pow_right (n := 2) (by omega) h3
          have e : ((2 ^ (15 - ms (zI L) (zI L).length).toNat : Nat) : Int) = (2 : Int) ^ (15 - ms (zI L) (zI L).length).toNat := by simp
          omega
        refine ⟨fun i hi => ?_, ?_⟩
        · have h3 := ms_ge (zI L) (zI L).length i (by rw [zI_len]; exact hi)
          rw [zI_get, hm1] at h3
          omega
        · have h1 := us_count L L.length (Nat.le_refl _)
          rw [List.take_length] at h1
          rw [zI_len] at hc
          omega
    · rw [if_neg hc] at h; omega

theorem bgk_true {L : List Nat} {m c i : Nat} : ∀ k, i < k → m < L.getD i 0 → code L i / 2 ^ (L.getD i 0 - m) = c → bgk L m c k = true
  | 0, h, _, _ => by omega
  | k + 1, h, h1, h2 => by
    rw [bgk]
    by_cases hik : i = k
    · subst hik
      rw [decide_eq_true h1, decide_eq_true h2]; simp
    · rw [bgk_true k (by omega) h1 h2]; simp
theorem bgk_false {L : List Nat} {m c : Nat} : ∀ k, (∀ i, i < k → ¬ m < L.getD i 0) → bgk L m c k = false
  | 0, _ => rfl
  | k + 1, h => by
    rw [bgk, bgk_false k (fun i hi => h i (by omega)), decide_eq_false (h k (by omega))]; simp

/-- The state between two steps. -/
def St (L : List Nat) (n c : Nat) : Prop := (n = 0 ∧ c = 0) ∨ (n < lgs L 15 ∧ fst L n + cnt L n ≤ c ∧ c < 2 ^ n)
/-- What a step comes to. -/
inductive Out (L : List Nat) (n c : Nat) : Prop where
  | hit (x : Nat) (h1 : n + 1 ≤ lgs L 15 ∧ fst L (n + 1) ≤ c ∧ c < fst L (n + 1) + cnt L (n + 1) ∧ (syk L (n + 1) L.length)[c - fst L (n + 1)]? = some x) (h2 : x < L.length ∧ L.getD x 0 = n + 1 ∧ code L x = c)
  | on (h1 : 1 ≤ n + 1 ∧ n + 1 < lgs L 15 ∧ fst L (n + 1) + cnt L (n + 1) ≤ c) (h2 : ∀ k, k < L.length → ¬ (L.getD k 0 = n + 1 ∧ code L k = c)) (h3 : bgk L (n + 1) c L.length = true) (h4 : St L (n + 1) c)
  | off (h0 : kr L ≠ 2 ^ 15) (h1 : lgs L 15 < n + 1 ∨ (lgs L 15 = n + 1 ∧ fst L (n + 1) + cnt L (n + 1) ≤ c)) (h2 : ∀ k, k < L.length → ¬ (L.getD k 0 = n + 1 ∧ code L k = c)) (h3 : bgk L (n + 1) c L.length = false)

theorem hit_of {L : List Nat} {n c : Nat} (hn : n + 1 ≤ 15) (h1 : fst L (n + 1) ≤ c) (h2 : c < fst L (n + 1) + cnt L (n + 1)) : Out L n c := by
  have hc : cnt L (n + 1) = L.count (n + 1) := by unfold cnt; rw [if_neg (by omega)]
  obtain ⟨i, i1, i2, i3⟩ := nth (n + 1) L (c - fst L (n + 1)) (by omega)
  refine .hit i ⟨lgs_ge 15 hn (by omega), h1, h2, ?_⟩ ⟨i1, i2, ?_⟩
  · have := syk_get i1 i2 L.length i1 (Nat.le_refl _)
    rw [i3] at this
    exact this
  · unfold code
    rw [i2, if_neg (by omega), i3]
    omega
theorem no_fit {L : List Nat} (hL : ∀ x ∈ L, x ≤ 15) {n c : Nat} (h : fst L (n + 1) + cnt L (n + 1) ≤ c) : ∀ k, k < L.length → ¬ (L.getD k 0 = n + 1 ∧ code L k = c) := by
  intro k hk ⟨h1, h2⟩
  have := (code_in hL hk (by omega)).2.1
  rw [h1] at this
  omega

theorem step_out {L : List Nat} (hL : ∀ x ∈ L, x ≤ 15) (hg : Good L) {n c r : Nat} (hs : St L n c) (hr : r < 2) : Out L n (c * 2 + r) := by
  have hl15 := lgs_le L 15
  rcases hg with hk | ⟨h1, h2⟩
  · have hn : n + 1 ≤ 15 := by
      rcases hs with ⟨rfl, _⟩ | ⟨h, _⟩ <;> omega
    have hf : fst L (n + 1) ≤ c * 2 + r := by
      rw [fst]
      rcases hs with ⟨rfl, rfl⟩ | ⟨_, h, _⟩
      · simp [fst, cnt]
      · omega
    have hc2 : c * 2 + r < 2 ^ (n + 1) := by
      rw [Nat.pow_succ]
      rcases hs with ⟨rfl, rfl⟩ | ⟨_, _, h⟩
      · simp; omega
      · omega
    by_cases hlt : c * 2 + r < fst L (n + 1) + cnt L (n + 1)
    · exact hit_of hn hf hlt
    · obtain ⟨i, i1, i2, i3, i4⟩ := begins hL hk hn (Nat.le_of_not_lt hlt) hc2
      have hgi : L.getD i 0 ≤ lgs L 15 := lgs_ge 15 i3 (by
        unfold cnt
        rw [if_neg (by omega)]
        have := pre_lt i1 (rfl : L.getD i 0 = L.getD i 0)
        omega)
      exact .on ⟨by omega, by omega, by omega⟩ (no_fit hL (by omega)) (bgk_true _ i1 i2 i4) (.inr ⟨by omega, by omega, hc2⟩)
  · have hcm : ∀ m, 2 ≤ m → cnt L m = 0 := by
      intro m hm
      unfold cnt
      rw [if_neg (by omega), List.count_eq_zero]
      intro hx
      obtain ⟨i, hi, he⟩ := List.mem_iff_getElem.1 hx
      have := h1 i hi
      have e : L.getD i 0 = L[i] := by simp [List.getD, List.getElem?_eq_getElem hi]
      omega
    have hlg : lgs L 15 ≤ 1 := by
      rcases lgs_cnt L 15 with h | h
      · omega
      · refine Nat.le_of_not_lt fun h3 => h (hcm _ (by omega))
    obtain ⟨rfl, rfl⟩ : n = 0 ∧ c = 0 := by
      rcases hs with h | ⟨h, h3, h4⟩
      · exact h
      · obtain rfl : n = 0 := by omega
        exact ⟨rfl, by simp at h4; exact h4⟩
    have hf1 : fst L (0 + 1) = 0 := by simp [fst, cnt]
    have hc1 : cnt L (0 + 1) = L.count 1 := by simp [cnt]
    have hkr : kr L ≠ 2 ^ 15 := by
      have h3 : ∀ M : List Nat, (∀ x ∈ M, x ≤ 1) → kr M = M.count 1 * 2 ^ 14 := by
        intro M
        induction M with
        | nil => intro _; rfl
        | cons x M ih =>
          intro hx
          have h4 := ih (fun y hy => hx y (by simp [hy]))
          have h5 := hx x (by simp)
          unfold kr at h4 ⊢
          rw [List.map_cons, List.sum_cons, h4, List.count_cons]
          rcases Nat.le_one_iff_eq_zero_or_eq_one.1 h5 with rfl | rfl
          · simp
          · simp; omega
      have h4 := h3 L (fun x hx => by
        obtain ⟨i, hi, rfl⟩ := List.mem_iff_getElem.1 hx
        have := h1 i hi
        have e : L.getD i 0 = L[i] := by simp [List.getD, List.getElem?_eq_getElem hi]
        omega)
      rw [h4]
      omega
    by_cases hlt : 0 * 2 + r < fst L (0 + 1) + cnt L (0 + 1)
    · exact hit_of (by omega) (by omega) hlt
    · refine .off hkr ?_ (no_fit hL (by omega)) (bgk_false _ (fun i hi => by have := h1 i hi; omega))
      by_cases h0 : lgs L 15 = 0
      · exact .inl (by omega)
      · exact .inr ⟨by omega, by omega⟩
theorem st_zero (L : List Nat) : St L 0 0 := .inl ⟨rfl, rfl⟩
theorem st_bd {L : List Nat} {n c : Nat} (h : St L n c) : n ≤ 14 ∧ c ≤ 32768 := by
  have hl15 := lgs_le L 15
  rcases h with ⟨rfl, rfl⟩ | ⟨h1, h2, h3⟩
  · omega
  · have := Nat.pow_le_pow_right (n := 2) (by omega) (show n ≤ 15 by omega)
    omega
end Go.Proofs.Ythmhcnnigepohaa

