/- Canonical codes on lists of lengths: no program in sight. -/
namespace Go.Proofs.Ythmhcnnigepohaa

def cnt (L : List Nat) (n : Nat) : Nat := if n = 0 then 0 else L.count n
/-- The least code of length n. -/
def fst (L : List Nat) : Nat → Nat
  | 0 => 0
  | n + 1 => (fst L n + cnt L n) * 2
def pre (L : List Nat) (n i : Nat) : Nat := (L.take i).count n
def code (L : List Nat) (i : Nat) : Nat := if L.getD i 0 = 0 then 0 else fst L (L.getD i 0) + pre L (L.getD i 0) i
/-- Where the codes of length n begin, in units of 2^-15. -/
def beg (L : List Nat) : Nat → Nat
  | 0 => 0
  | n + 1 => beg L n + cnt L n * 2 ^ (15 - n)
def kr (L : List Nat) : Nat := (L.map (fun n => if n = 0 then 0 else 2 ^ (15 - n))).sum

theorem fst_beg (L : List Nat) : ∀ n, n ≤ 15 → fst L n * 2 ^ (15 - n) = beg L n
  | 0, _ => by simp [fst, beg]
  | n + 1, h => by
    rw [beg, ← fst_beg L n (by omega), fst, show 15 - n = 15 - (n + 1) + 1 by omega, Nat.pow_succ, Nat.add_mul, Nat.add_mul]
    rw [Nat.mul_assoc, Nat.mul_assoc, Nat.mul_comm 2 (2 ^ _)]
theorem beg_mono (L : List Nat) {a b : Nat} (h : a ≤ b) : beg L a ≤ beg L b := by
  induction b with
  | zero => obtain rfl : a = 0 := by omega
            exact Nat.le_refl _
  | succ b ih =>
    by_cases hb : a = b + 1
    · subst hb; exact Nat.le_refl _
    · have := ih (by omega)
      rw [beg]; omega
theorem end_beg (L : List Nat) (n : Nat) (h : n ≤ 15) : (fst L n + cnt L n) * 2 ^ (15 - n) = beg L (n + 1) := by
  rw [beg, Nat.add_mul, fst_beg L n h]

theorem beg_cons (x : Nat) (L : List Nat) : ∀ n, beg (x :: L) n = beg L n + (if 0 < x ∧ x < n then 2 ^ (15 - x) else 0)
  | 0 => by simp [beg]
  | n + 1 => by
    rw [beg, beg, beg_cons x L n]
    have hc : cnt (x :: L) n = cnt L n + if 0 < x ∧ x = n then 1 else 0 := by
      unfold cnt
      by_cases hn : n = 0
      · rw [if_pos hn, if_pos hn, if_neg (by omega)]
      · rw [if_neg hn, if_neg hn, List.count_cons]
        by_cases hx : x = n
        · subst hx
          simp; omega
        · simp [hx]
    rw [hc, Nat.add_mul]
    by_cases h1 : 0 < x ∧ x = n
    · obtain ⟨h1, rfl⟩ := h1
      rw [if_neg (by omega), if_pos ⟨h1, rfl⟩, if_pos (by omega)]
      omega
    · rw [if_neg h1]
      by_cases h2 : 0 < x ∧ x < n
      · rw [if_pos h2, if_pos (by omega)]; omega
      · rw [if_neg h2, if_neg (by omega)]; omega
theorem beg_end : ∀ L : List Nat, (∀ x ∈ L, x ≤ 15) → beg L 16 = kr L
  | [], _ => by
    have : ∀ n, beg [] n = 0 := by
      intro n; induction n with
      | zero => rfl
      | succ n ih => rw [beg, ih]; simp [cnt]
    rw [this]; rfl
  | x :: L, h => by
    have hx := h x (by simp)
    rw [beg_cons, beg_end L (fun y hy => h y (by simp [hy]))]
    unfold kr
    rw [List.map_cons, List.sum_cons]
    by_cases h0 : x = 0
    · rw [if_pos h0, if_neg (by omega)]; omega
    · rw [if_neg h0, if_pos (by omega)]; omega

theorem pre_lt {L : List Nat} {i n : Nat} (hi : i < L.length) (h : L.getD i 0 = n) : pre L n i < L.count n := by
  unfold pre
  have h1 : L[i] = n := by rw [← h]; simp [List.getD, List.getElem?_eq_getElem hi]
  have h2 : (L.take (i + 1)).count n = (L.take i).count n + 1 := by
    rw [List.take_succ_eq_append_getElem hi, List.count_append, h1]
    simp
  have h3 : (L.take (i + 1)).count n ≤ L.count n := (List.take_sublist _ _).count_le _
  omega
theorem pre_strict {L : List Nat} {i j n : Nat} (hi : i < L.length) (hij : i < j) (h : L.getD i 0 = n) : pre L n i < pre L n j := by
  unfold pre
  have h1 : L[i] = n := by rw [← h]; simp [List.getD, List.getElem?_eq_getElem hi]
  have h2 : (L.take (i + 1)).count n = (L.take i).count n + 1 := by
    rw [List.take_succ_eq_append_getElem hi, List.count_append, h1]
    simp
  have h3 : (L.take (i + 1)).Sublist (L.take j) := by
    rw [show L.take (i + 1) = (L.take j).take (i + 1) by rw [List.take_take]; congr 1; omega]
    exact List.take_sublist _ _
  have := h3.count_le n
  omega
theorem pre_inj {L : List Nat} {i j n : Nat} (hi : i < L.length) (hj : j < L.length) (h1 : L.getD i 0 = n) (h2 : L.getD j 0 = n) (h : pre L n i = pre L n j) : i = j := by
  rcases Nat.lt_trichotomy i j with h3 | h3 | h3
  · have := pre_strict hi h3 h1; omega
  · exact h3
  · have := pre_strict hj h3 h2; omega
theorem nth (n : Nat) : ∀ (L : List Nat) (k : Nat), k < L.count n → ∃ i, i < L.length ∧ L.getD i 0 = n ∧ pre L n i = k
  | [], k, h => by simp at h
  | x :: L, k, h => by
    rw [List.count_cons] at h
    by_cases hx : x = n
    · subst hx
      simp only [BEq.rfl, if_true] at h
      cases k with
      | zero => exact ⟨0, by simp, by simp, by simp [pre]⟩
      | succ k =>
        obtain ⟨i, h1, h2, h3⟩ := nth x L k (by omega)
        exact ⟨i + 1, by simpa using h1, by simpa using h2, by unfold pre at h3 ⊢; simp [h3]⟩
    · rw [if_neg (by simpa using hx)] at h
      obtain ⟨i, h1, h2, h3⟩ := nth n L k (by omega)
      exact ⟨i + 1, by simpa using h1, by simpa using h2, by unfold pre at h3 ⊢; simp [h3, hx]⟩

/-- A code and its interval. -/
theorem code_in {L : List Nat} (hL : ∀ x ∈ L, x ≤ 15) {i : Nat} (hi : i < L.length) (h0 : 0 < L.getD i 0) :
    fst L (L.getD i 0) ≤ code L i ∧ code L i < fst L (L.getD i 0) + cnt L (L.getD i 0) ∧ L.getD i 0 ≤ 15 := by
  have h1 : L.getD i 0 ≤ 15 := by
    have : L.getD i 0 = L[i] := by simp [List.getD, List.getElem?_eq_getElem hi]
    rw [this]; exact hL _ (List.getElem_mem hi)
  have h2 := pre_lt hi (rfl : L.getD i 0 = L.getD i 0)
  unfold code cnt
  rw [if_neg (by omega), if_neg (by omega)]
  exact ⟨by omega, by omega, h1⟩

/-- The codes fit. -/
theorem code_fits {L : List Nat} (hL : ∀ x ∈ L, x ≤ 15) (hk : kr L ≤ 2 ^ 15) {i : Nat} (hi : i < L.length) (h0 : 0 < L.getD i 0) : code L i < 2 ^ (L.getD i 0) := by
  obtain ⟨h1, h2, h3⟩ := code_in hL hi h0
  have h4 := end_beg L (L.getD i 0) h3
  have h5 := beg_mono L (show L.getD i 0 + 1 ≤ 16 by omega)
  rw [beg_end L hL] at h5
  have h6 : (fst L (L.getD i 0) + cnt L (L.getD i 0)) * 2 ^ (15 - L.getD i 0) ≤ 2 ^ (L.getD i 0) * 2 ^ (15 - L.getD i 0) := by
    rw [← Nat.pow_add, show L.getD i 0 + (15 - L.getD i 0) = 15 by omega]; omega
  have := Nat.le_of_mul_le_mul_right h6 (Nat.pow_pos (by omega))
  omega

/-- A longer code lies behind. -/
theorem code_apart {L : List Nat} (hL : ∀ x ∈ L, x ≤ 15) {i k : Nat} (hi : i < L.length) (hk : k < L.length) (h0 : 0 < L.getD i 0) (hlt : L.getD i 0 < L.getD k 0) :
    code L i < code L k / 2 ^ (L.getD k 0 - L.getD i 0) := by
  obtain ⟨a1, a2, a3⟩ := code_in hL hi h0
  obtain ⟨b1, b2, b3⟩ := code_in hL hk (by omega)
  have h1 := end_beg L (L.getD i 0) a3
  have h2 := beg_mono L (show L.getD i 0 + 1 ≤ L.getD k 0 by omega)
  have h3 := fst_beg L (L.getD k 0) b3
  have h4 : (code L i + 1) * 2 ^ (L.getD k 0 - L.getD i 0) ≤ code L k := by
    refine Nat.le_of_mul_le_mul_right (c := 2 ^ (15 - L.getD k 0)) ?_ (Nat.pow_pos (by omega))
    rw [Nat.mul_assoc, ← Nat.pow_add, show L.getD k 0 - L.getD i 0 + (15 - L.getD k 0) = 15 - L.getD i 0 by omega]
    have h5 : (code L i + 1) * 2 ^ (15 - L.getD i 0) ≤ (fst L (L.getD i 0) + cnt L (L.getD i 0)) * 2 ^ (15 - L.getD i 0) := Nat.mul_le_mul_right _ (by omega)
    have h6 : fst L (L.getD k 0) * 2 ^ (15 - L.getD k 0) ≤ code L k * 2 ^ (15 - L.getD k 0) := Nat.mul_le_mul_right _ b1
    omega
  exact (Nat.le_div_iff_mul_le (Nat.pow_pos (by omega))).2 h4
theorem code_next {L : List Nat} {i k : Nat} (hi : i < L.length) (h0 : 0 < L.getD i 0) (hik : i < k) (he : L.getD k 0 = L.getD i 0) : code L i < code L k := by
  have := pre_strict hi hik (rfl : L.getD i 0 = L.getD i 0)
  unfold code
  rw [if_neg (by omega), if_neg (by omega), he]
  omega
theorem code_inj {L : List Nat} {i k : Nat} (hi : i < L.length) (hk : k < L.length) (h0 : 0 < L.getD i 0) (he : L.getD k 0 = L.getD i 0) (hc : code L i = code L k) : i = k := by
  rcases Nat.lt_trichotomy i k with h | h | h
  · have := code_next hi h0 h he; omega
  · exact h
  · have := code_next (L := L) (i := k) (k := i) hk (by omega) h (by omega); omega

/-- A point of a complete code lies in a symbol's interval. -/
theorem find {L : List Nat} {x : Nat} : ∀ (d n : Nat), n + d = 16 → beg L n ≤ x → x < beg L 16 → ∃ m, n ≤ m ∧ m ≤ 15 ∧ beg L m ≤ x ∧ x < beg L (m + 1)
  | 0, n, h, h1, h2 => by rw [show n = 16 by omega] at h1; omega
  | d + 1, n, h, h1, h2 => by
    by_cases hlt : x < beg L (n + 1)
    · exact ⟨n, by omega, by omega, h1, hlt⟩
    · obtain ⟨m, a, b⟩ := find d (n + 1) (by omega) (by omega) h2
      exact ⟨m, by omega, b⟩
theorem begins {L : List Nat} (hL : ∀ x ∈ L, x ≤ 15) (hk : kr L = 2 ^ 15) {n c : Nat} (hn : n ≤ 15) (hc : fst L n + cnt L n ≤ c) (hc2 : c < 2 ^ n) :
    ∃ i, i < L.length ∧ n < L.getD i 0 ∧ L.getD i 0 ≤ 15 ∧ code L i / 2 ^ (L.getD i 0 - n) = c := by
  have h1 : beg L (n + 1) ≤ c * 2 ^ (15 - n) := by rw [← end_beg L n hn]; exact Nat.mul_le_mul_right _ hc
  have h2 : c * 2 ^ (15 - n) < beg L 16 := by
    rw [beg_end L hL, hk]
    calc c * 2 ^ (15 - n) < 2 ^ n * 2 ^ (15 - n) := Nat.mul_lt_mul_of_pos_right hc2 (Nat.pow_pos (by omega))
      _ = 2 ^ 15 := by rw [← Nat.pow_add, show n + (15 - n) = 15 by omega]
  obtain ⟨m, m1, m2, m3, m4⟩ := find (L := L) (15 - n) (n + 1) (by omega) h1 h2
  have h0 : cnt L m ≠ 0 := by
    intro h0
    rw [beg, h0] at m4
    omega
  have hm0 : m ≠ 0 := by omega
  have hcm : cnt L m = L.count m := by unfold cnt; rw [if_neg hm0]
  obtain ⟨y, hy⟩ : ∃ y, y = c * 2 ^ (15 - n) / 2 ^ (15 - m) := ⟨_, rfl⟩
  have hP : 0 < 2 ^ (15 - m) := Nat.pow_pos (by omega)
  have hy0 : y = c * 2 ^ (m - n) := by
    rw [hy, show 15 - n = (m - n) + (15 - m) by omega, Nat.pow_add, ← Nat.mul_assoc, Nat.mul_div_cancel _ hP]
  have hy1 : fst L m ≤ y := by
    rw [hy, Nat.le_div_iff_mul_le hP, fst_beg L m m2]
    exact m3
  have hy2 : y < fst L m + cnt L m := by
    rw [hy, Nat.div_lt_iff_lt_mul hP, end_beg L m m2]
    exact m4
  obtain ⟨i, i1, i2, i3⟩ := nth m L (y - fst L m) (by omega)
  refine ⟨i, i1, by omega, by omega, ?_⟩
  have hcode : code L i = y := by
    unfold code
    rw [i2, if_neg hm0, i3]
    omega
  rw [hcode, i2, hy0, Nat.mul_div_cancel _ (Nat.pow_pos (by omega))]

/-- Where a code's first n bits stand that are not yet all. -/
theorem on_way {L : List Nat} (hL : ∀ x ∈ L, x ≤ 15) {s n : Nat} (hs : s < L.length) (hn : n < L.getD s 0) : fst L n + cnt L n ≤ code L s / 2 ^ (L.getD s 0 - n) := by
  obtain ⟨b1, b2, b3⟩ := code_in hL hs (by omega)
  rw [Nat.le_div_iff_mul_le (Nat.pow_pos (by omega))]
  refine Nat.le_of_mul_le_mul_right (c := 2 ^ (15 - L.getD s 0)) ?_ (Nat.pow_pos (by omega))
  rw [Nat.mul_assoc, ← Nat.pow_add, show L.getD s 0 - n + (15 - L.getD s 0) = 15 - n by omega, end_beg L n (by omega)]
  refine Nat.le_trans (beg_mono L (show n + 1 ≤ L.getD s 0 by omega)) ?_
  rw [← fst_beg L _ b3]
  exact Nat.mul_le_mul_right _ b1

/-- The symbols of a length, and where those of a length begin among all. -/
def symb (L : List Nat) (n : Nat) : List Nat := (List.range L.length).filter (fun i => L.getD i 0 == n)
def symbs (L : List Nat) : Nat → List Nat
  | 0 => []
  | n + 1 => symbs L n ++ symb L (n + 1)
end Go.Proofs.Ythmhcnnigepohaa
