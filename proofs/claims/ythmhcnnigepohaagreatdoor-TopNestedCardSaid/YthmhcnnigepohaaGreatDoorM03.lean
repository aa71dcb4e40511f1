/- Canonical codes on lists of lengths: no program in sight. -/

namespace Go.Proofs.YthmhcnnigepohaaGreatDoor.Hf

def cnt (L : List Nat) (n : Nat) : Nat := if n = 0 then 0 else L.count n
/-- The least code of length n. -/
def fst (L : List Nat) : Nat → Nat
  | 0 => 0
  | n + 1 => (fst L n + cnt L n) * 2
def pre (L : List Nat) (n i : Nat) : Nat := (L.take i).count n
def code (L : List Nat) (i : Nat) : Nat := if L.getD i 0 = 0 then 0 else fst L (L.getD i 0) + pre L (L.getD i 0) i
/-- Where the codes of length n begin, in units of 2^-15. -/
def beg (L : List Nat) : Nat → Nat
  | 0 => 0
  | n + 1 => beg L n + cnt L n * 2 ^ (15 - n)
def kr (L : List Nat) : Nat := (L.map (fun n => if n = 0 then 0 else 2 ^ (15 - n))).sum

theorem fst_beg (L : List Nat) : ∀ n, n ≤ 15 → fst L n * 2 ^ (15 - n) = beg L n
  | 0, _ => by simp [fst, beg]
  | n + 1, h => by
    rw [beg, ← fst_beg L n (by omega), fst, show 15 - n = 15 - (n + 1) + 1 by omega, Nat.pow_succ, Nat.add_mul, Nat.add_mul]
    rw [Nat.mul_assoc, Nat.mul_assoc, Nat.mul_comm 2 (2 ^ _)]
theorem beg_mono (L : List Nat) {a b : Nat} (h : a ≤ b) : beg L a ≤ beg L b := by
  induction b with
  | zero => obtain rfl : a = 0 := by omega
            exact Nat.le_refl _
  | succ b ih =>
    by_cases hb : a = b + 1
    · subst hb; exact Nat.le_refl _
    · have := ih (by omega)
      rw [beg]; omega
theorem end_beg (L : List Nat) (n : Nat) (h : n ≤ 15) : (fst L n + cnt L n) * 2 ^ (15 - n) = beg L (n + 1) := by
  rw [beg, Nat.add_mul, fst_beg L n h]

theorem beg_cons (x : Nat) (L : List Nat) : ∀ n, beg (x :: L) n = beg L n + (if 0 < x ∧ x < n then 2 ^ (15 - x) else 0)
  | 0 => by simp [beg]
  | n + 1 => by
    rw [beg, beg, beg_cons x L n]
    have hc : cnt (x :: L) n = cnt L n + if 0 < x ∧ x = n then 1 else 0 := by
      unfold cnt
      by_cases hn : n = 0
      · rw [if_pos hn, if_pos hn, if_neg (by omega)]
      · rw [if_neg hn, if_neg hn, List.count_cons]
        by_cases hx : x = n
        · subst hx
          simp; omega
        · simp [hx]
    rw [hc, Nat.add_mul]
    by_cases h1 : 0 < x ∧ x = n
    · obtain ⟨h1, rfl⟩ := h1
      rw [if_neg (by omega), if_pos ⟨h1, rfl⟩, if_pos (by omega)]
      omega
    · rw [if_neg h1]
      by_cases h2 : 0 < x ∧ x < n
      · rw [if_pos h2, if_pos (by omega)]; omega
      · rw [if_neg h2, if_neg (by omega)]; omega
theorem beg_end : ∀ L : List Nat, (∀ x ∈ L, x ≤ 15) → beg L 16 = kr L
  | [], _ => by
    have : ∀ n, beg [] n = 0 := by
      intro n; induction n with
      | zero => rfl
      | succ n ih => rw [beg, ih]; simp [cnt]
    rw [this]; rfl
  | x :: L, h => by
    have hx := h x (by simp)
    rw [beg_cons, beg_end L (fun y hy => h y (by simp [hy]))]
    unfold kr
    rw [List.map_cons, List.sum_cons]
    by_cases h0 : x = 0
    · rw [if_pos h0, if_neg (by omega)]; omega
    · rw [if_neg h0, if_pos (by omega)]; omega

theorem pre_lt {L : List Nat} {i n : Nat} (hi : i < L.length) (h : L.getD i 0 = n) : pre L n i < L.count n := by
  unfold pre
  have h1 : L[i] = n := by rw [← h]; simp [List.getD, List.getElem?_eq_getElem hi]
  have h2 : (L.take (i + 1)).count n = (L.take i).count n + 1 := by
    rw [List.take_succ_eq_append_getElem hi, List.count_append, h1]
    simp
  have h3 : (L.take (i + 1)).count n ≤ L.count n := (List.take_sublist _ _).count_le _
  omega
theorem pre_strict {L : List Nat} {i j n : Nat} (hi : i < L.length) (hij : i < j) (h : L.getD i 0 = n) : pre L n i < pre L n j := by
  unfold pre
  have h1 : L[i] = n := by rw [← h]; simp [List.getD, List.getElem?_eq_getElem hi]
  have h2 : (L.take (i + 1)).count n = (L.take i).count n + 1 := by
    rw [List.take_succ_eq_append_getElem hi, List.count_append, h1]
    simp
  have h3 : (L.take (i + 1)).Sublist (L.take j) := by
    rw [show L.take (i + 1) = (L.take j).take (i + 1) by rw [List.take_take]; congr 1; omega]
    exact List.take_sublist _ _
  have := h3.count_le n
  omega
theorem pre_inj {L : List Nat} {i j n : Nat} (hi : i < L.length) (hj : j < L.length) (h1 : L.getD i 0 = n) (h2 : L.getD j 0 = n) (h : pre L n i = pre L n j) : i = j := by
  rcases Nat.lt_trichotomy i j with h3 | h3 | h3
  · have := pre_strict hi h3 h1; omega
  · exact h3
  · have := pre_strict hj h3 h2; omega
theorem nth (n : Nat) : ∀ (L : List Nat) (k : Nat), k < L.count n → ∃ i, i < L.length ∧ L.getD i 0 = n ∧ pre L n i = k
  | [], k, h => by simp at h
  | x :: L, k, h => by
    rw [List.count_cons] at h
    by_cases hx : x = n
    · subst hx
      simp only [BEq.rfl, if_true] at h
      cases k with
      | zero => exact ⟨0, by simp, by simp, by simp [pre]⟩
      | succ k =>
        obtain ⟨i, h1, h2, h3⟩ := nth x L k (by omega)
        exact ⟨i + 1, by simpa using h1, by simpa using h2, by unfold pre at h3 ⊢; simp [h3]⟩
    · rw [if_neg (by simpa using hx)] at h
      obtain ⟨i, h1, h2, h3⟩ := nth n L k (by omega)
      exact ⟨i + 1, by simpa using h1, by simpa using h2, by unfold pre at h3 ⊢; simp [h3, hx]⟩

/-- A code and its interval. -/
theorem code_in {L : List Nat} (hL : ∀ x ∈ L, x ≤ 15) {i : Nat} (hi : i < L.length) (h0 : 0 < L.getD i 0) :
    fst L (L.getD i 0) ≤ code L i ∧ code L i < fst L (L.getD i 0) + cnt L (L.getD i 0) ∧ L.getD i 0 ≤ 15 := by
  have h1 : L.getD i 0 ≤ 15 := by
    have : L.getD i 0 = L[i] := by simp [List.getD, List.getElem?_eq_getElem hi]
    rw [this]; exact hL _ (List.getElem_mem hi)
  have h2 := pre_lt hi (rfl : L.getD i 0 = L.getD i 0)
  unfold code cnt
  rw [if_neg (by omega), if_neg (by omega)]
  exact ⟨by omega, by omega, h1⟩

/-- The codes fit. -/
theorem code_fits {L : List Nat} (hL : ∀ x ∈ L, x ≤ 15) (hk : kr L ≤ 2 ^ 15) {i : Nat} (hi : i < L.length) (h0 : 0 < L.getD i 0) : code L i < 2 ^ (L.getD i 0) := by
  obtain ⟨h1, h2, h3⟩ := code_in hL hi h0
  have h4 := end_beg L (L.getD i 0) h3
  have h5 := beg_mono L (show L.getD i 0 + 1 ≤ 16 by omega)
  rw [beg_end L hL] at h5
  have h6 : (fst L (L.getD i 0) + cnt L (L.getD i 0)) * 2 ^ (15 - L.getD i 0) ≤ 2 ^ (L.getD i 0) * 2 ^ (15 - L.getD i 0) := by
    rw [← Nat.pow_add, show L.getD i 0 + (15 - L.getD i 0) = 15 by omega]; omega
  have := Nat.le_of_mul_le_mul_right h6 (Nat.pow_pos (by omega))
  omega

/-- A longer code lies behind. -/
theorem code_apart {L : List Nat} (hL : ∀ x ∈ L, x ≤ 15) {i k : Nat} (hi : i < L.length) (hk : k < L.length) (h0 : 0 < L.getD i 0) (hlt : L.getD i 0 < L.getD k 0) :
    code L i < code L k / 2 ^ (L.getD k 0 - L.getD i 0) := by
  obtain ⟨a1, a2, a3⟩ := code_in hL hi h0
  obtain ⟨b1, b2, b3⟩ := code_in hL hk (by omega)
  have h1 := end_beg L (L.getD i 0) a3
  have h2 := beg_mono L (show L.getD i 0 + 1 ≤ L.getD k 0 by omega)
  have h3 := fst_beg L (L.getD k 0) b3
  have h4 : (code L i + 1) * 2 ^ (L.getD k 0 - L.getD i 0) ≤ code L k := by
    refine Nat.le_of_mul_le_mul_right (c := 2 ^ (15 - L.getD k 0)) ?_ (Nat.pow_pos (by omega))
    rw [Nat.mul_assoc, ← Nat.pow_add, show L.getD k 0 - L.getD i 0 + (15 - L.getD k 0) = 15 - L.getD i 0 by omega]
    have h5 : (code L i + 1) * 2 ^ (15 - L.getD i 0) ≤ (fst L (L.getD i 0) + cnt L (L.getD i 0)) * 2 ^ (15 - L.getD i 0) := Nat.mul_le_mul_right _ (by omega)
    have h6 : fst L (L.getD k 0) * 2 ^ (15 - L.getD k 0) ≤ code L k * 2 ^ (15 - L.getD k 0) := Nat.mul_le_mul_right _ b1
    omega
  exact (Nat.le_div_iff_mul_le (Nat.pow_pos (by omega))).2 h4
theorem code_next {L : List Nat} {i k : Nat} (hi : i < L.length) (h0 : 0 < L.getD i 0) (hik : i < k) (he : L.getD k 0 = L.getD i 0) : code L i < code L k := by
  have := pre_strict hi hik (rfl : L.getD i 0 = L.getD i 0)
  unfold code
  rw [if_neg (by omega), if_neg (by omega), he]
  omega
theorem code_inj {L : List Nat} {i k : Nat} (hi : i < L.length) (hk : k < L.length) (h0 : 0 < L.getD i 0) (he : L.getD k 0 = L.getD i 0) (hc : code L i = code L k) : i = k := by
  rcases Nat.lt_trichotomy i k with h | h | h
  · have := code_next hi h0 h he; omega
  · exact h
  · have := code_next (L := L) (i := k) (k := i) hk (by omega) h (by omega); omega

/-- A point of a complete code lies in a symbol's interval. -/
theorem find {L : List Nat} {x : Nat} : ∀ (d n : Nat), n + d = 16 → beg L n ≤ x → x < beg L 16 → ∃ m, n ≤ m ∧ m ≤ 15 ∧ beg L m ≤ x ∧ x < beg L (m + 1)
  | 0, n, h, h1, h2 => by rw [show n = 16 by omega] at h1; omega
  | d + 1, n, h, h1, h2 => by
    by_cases hlt : x < beg L (n + 1)
    · exact ⟨n, by omega, by omega, h1, hlt⟩
    · obtain ⟨m, a, b⟩ := find d (n + 1) (by omega) (by omega) h2
      exact ⟨m, by omega, b⟩
theorem begins {L : List Nat} (hL : ∀ x ∈ L, x ≤ 15) (hk : kr L = 2 ^ 15) {n c : Nat} (hn : n ≤ 15) (hc : fst L n + cnt L n ≤ c) (hc2 : c < 2 ^ n) :
    ∃ i, i < L.length ∧ n < L.getD i 0 ∧ L.getD i 0 ≤ 15 ∧ code L i / 2 ^ (L.getD i 0 - n) = c := by
  have h1 : beg L (n + 1) ≤ c * 2 ^ (15 - n) := by rw [← end_beg L n hn]; exact Nat.mul_le_mul_right _ hc
  have h2 : c * 2 ^ (15 - n) < beg L 16 := by
    rw [beg_end L hL, hk]
    calc c * 2 ^ (15 - n) < 2 ^ n * 2 ^ (15 - n) := Nat.mul_lt_mul_of_pos_right hc2 (Nat.pow_pos (by omega))
      _ = 2 ^ 15 := by rw [← Nat.pow_add, show n + (15 - n) = 15 by omega]
  obtain ⟨m, m1, m2, m3, m4⟩ := find (L := L) (15 - n) (n + 1) (by omega) h1 h2
  have h0 : cnt L m ≠ 0 := by
    intro h0
    rw [beg, h0] at m4
    omega
  have hm0 : m ≠ 0 := by omega
  have hcm : cnt L m = L.count m := by unfold cnt; rw [if_neg hm0]
  obtain ⟨y, hy⟩ : ∃ y, y = c * 2 ^ (15 - n) / 2 ^ (15 - m) := ⟨_, rfl⟩
  have hP : 0 < 2 ^ (15 - m) := Nat.pow_pos (by omega)
  have hy0 : y = c * 2 ^ (m - n) := by
    rw [hy, show 15 - n = (m - n) + (15 - m) by omega, Nat.pow_add, ← Nat.mul_assoc, Nat.mul_div_cancel _ hP]
  have hy1 : fst L m ≤ y := by
    rw [hy, Nat.le_div_iff_mul_le hP, fst_beg L m m2]
    exact m3
  have hy2 : y < fst L m + cnt L m := by
    rw [hy, Nat.div_lt_iff_lt_mul hP, end_beg L m m2]
    exact m4
  obtain ⟨i, i1, i2, i3⟩ := nth m L (y - fst L m) (by omega)
  refine ⟨i, i1, by omega, by omega, ?_⟩
  have hcode : code L i = y := by
    unfold code
    rw [i2, if_neg hm0, i3]
    omega
  rw [hcode, i2, hy0, Nat.mul_div_cancel _ (Nat.pow_pos (by omega))]

/-- Where a code's first n bits stand that are not yet all. -/
theorem on_way {L : List Nat} (hL : ∀ x ∈ L, x ≤ 15) {s n : Nat} (hs : s < L.length) (hn : n < L.getD s 0) : fst L n + cnt L n ≤ code L s / 2 ^ (L.getD s 0 - n) := by
  obtain ⟨b1, b2, b3⟩ := code_in hL hs (by omega)
  rw [Nat.le_div_iff_mul_le (Nat.pow_pos (by omega))]
  refine Nat.le_of_mul_le_mul_right (c := 2 ^ (15 - L.getD s 0)) ?_ (Nat.pow_pos (by omega))
  rw [Nat.mul_assoc, ← Nat.pow_add, show L.getD s 0 - n + (15 - L.getD s 0) = 15 - n by omega, end_beg L n (by omega)]
  refine Nat.le_trans (beg_mono L (show n + 1 ≤ L.getD s 0 by omega)) ?_
  rw [← fst_beg L _ b3]
  exact Nat.mul_le_mul_right _ b1

/-- The symbols of a length, and where those of a length begin among all. -/
def symb (L : List Nat) (n : Nat) : List Nat := (List.range L.length).filter (fun i => L.getD i 0 == n)
def symbs (L : List Nat) : Nat → List Nat
  | 0 => []
  | n + 1 => symbs L n ++ symb L (n + 1)
end Go.Proofs.YthmhcnnigepohaaGreatDoor.Hf

/- Bits, least or most significant first, and how they lie in bytes: no program in sight. -/
namespace Go.Proofs.YthmhcnnigepohaaGreatDoor.En

/-- n bits of v, the least significant one first. -/
def lsb : Nat → Nat → List Nat
  | _, 0 => []
  | v, n + 1 => v % 2 :: lsb (v / 2) n
/-- n bits of v, the most significant one first. -/
def msb (v : Nat) : Nat → List Nat
  | 0 => []
  | n + 1 => v / 2 ^ n % 2 :: msb v n
theorem lsb_len : ∀ (v n : Nat), (lsb v n).length = n
  | _, 0 => rfl
  | v, n + 1 => by simp [lsb, lsb_len]
theorem msb_len (v : Nat) : ∀ n : Nat, (msb v n).length = n
  | 0 => rfl
  | n + 1 => by simp [msb, msb_len]
theorem lsb_get : ∀ (v n i : Nat), i < n → (lsb v n).getD i 0 = v / 2 ^ i % 2
  | v, 0, i, h => by omega
  | v, n + 1, 0, h => by simp [lsb]
  | v, n + 1, i + 1, h => by
    rw [lsb, List.getD_cons_succ, lsb_get _ n i (by omega), Nat.div_div_eq_div_mul, Nat.pow_succ, Nat.mul_comm]
theorem msb_get (v : Nat) : ∀ (n i : Nat), i < n → (msb v n).getD i 0 = v / 2 ^ (n - 1 - i) % 2
  | 0, i, h => by omega
  | n + 1, 0, h => by simp [msb]
  | n + 1, i + 1, h => by
    rw [msb, List.getD_cons_succ, msb_get v n i (by omega)]
    congr 3
    omega
theorem lsb_le : ∀ (v n : Nat), ∀ x ∈ lsb v n, x ≤ 1
  | _, 0 => by simp [lsb]
  | v, n + 1 => by
    intro x hx
    rcases List.mem_cons.1 hx with rfl | hx
    · omega
    · exact lsb_le _ n x hx
theorem msb_le (v : Nat) : ∀ n : Nat, ∀ x ∈ msb v n, x ≤ 1
  | 0 => by simp [msb]
  | n + 1 => by
    intro x hx
    rcases List.mem_cons.1 hx with rfl | hx
    · omega
    · exact msb_le v n x hx
theorem lsb_snoc : ∀ (v n : Nat), lsb v (n + 1) = lsb v n ++ [v / 2 ^ n % 2]
  | v, 0 => by simp [lsb]
  | v, n + 1 => by
    rw [lsb, lsb_snoc (v / 2) n, lsb, List.cons_append, Nat.div_div_eq_div_mul, Nat.pow_succ, Nat.mul_comm 2]

/-! ### bytes -/
/-- The value of the bits from i on, n of them. -/
def val (W : List Nat) (i : Nat) : Nat → Nat
  | 0 => 0
  | n + 1 => val W i n + W.getD (i + n) 0 * 2 ^ n
theorem val_lt (W : List Nat) (h : ∀ x ∈ W, x ≤ 1) (i : Nat) : ∀ n, val W i n < 2 ^ n
  | 0 => by simp [val]
  | n + 1 => by
    have ih := val_lt W h i n
    have hx : W.getD (i + n) 0 ≤ 1 := by
      by_cases hl : i + n < W.length
      · have e : W.getD (i + n) 0 = W[i + n] := by simp [List.getD, List.getElem?_eq_getElem hl]
        rw [e]; exact h _ (List.getElem_mem _)
      · simp [List.getD, List.getElem?_eq_none (Nat.le_of_not_lt hl)]
    rw [val, Nat.pow_succ]
    have := Nat.mul_le_mul_right (2 ^ n) hx
    omega
theorem val_bit (W : List Nat) (h : ∀ x ∈ W, x ≤ 1) (i k : Nat) : ∀ n, k < n → val W i n / 2 ^ k % 2 = W.getD (i + k) 0
  | 0, hk => by omega
  | n + 1, hk => by
    have hx : ∀ j, W.getD j 0 ≤ 1 := fun j => by
      by_cases hl : j < W.length
      · have e : W.getD j 0 = W[j] := by simp [List.getD, List.getElem?_eq_getElem hl]
        rw [e]; exact h _ (List.getElem_mem _)
      · simp [List.getD, List.getElem?_eq_none (Nat.le_of_not_lt hl)]
    rw [val]
    by_cases hkn : k = n
    · subst hkn
      rw [Nat.add_mul_div_right _ _ (Nat.pow_pos (by omega)), Nat.div_eq_of_lt (val_lt W h i k)]
      have := hx (i + k)
      omega
    · have ih := val_bit W h i k n (by omega)
      rw [show n = (n - k - 1) + 1 + k by omega, Nat.pow_add, ← Nat.mul_assoc, Nat.add_mul_div_right _ _ (Nat.pow_pos (by omega)), Nat.pow_succ, ← Nat.mul_assoc, Nat.add_mul_mod_self_right]
      rw [show (n - k - 1) + 1 + k = n by omega]
      exact ih
theorem val_append (W V : List Nat) (i : Nat) : ∀ n, i + n ≤ W.length → val (W ++ V) i n = val W i n
  | 0, _ => rfl
  | n + 1, h => by
    rw [val, val, val_append W V i n (by omega)]
    congr 2
    simp only [List.getD, List.getElem?_append_left (show i + n < W.length by omega)]
theorem val_over (W : List Nat) (i : Nat) : ∀ n m, n ≤ m → W.length ≤ i + n → val W i m = val W i n
  | n, 0, h, _ => by obtain rfl : n = 0 := by omega
                     rfl
  | n, m + 1, h, hl => by
    by_cases he : n = m + 1
    · rw [he]
    · rw [val, val_over W i n m (by omega) hl]
      rw [show W.getD (i + m) 0 = 0 by simp [List.getD, List.getElem?_eq_none (show W.length ≤ i + m by omega)]]
      omega
def nb (n : Nat) : Nat := (n + 7) / 8
/-- The bits in bytes. -/
def packB (W : List Nat) : List UInt8 := (List.range (nb W.length)).map (fun i => UInt8.ofNat (val W (8 * i) 8))
theorem packB_len (W : List Nat) : (packB W).length = nb W.length := by simp [packB]
theorem packB_get (W : List Nat) (i : Nat) (hi : i < nb W.length) : (packB W).getD i 0 = UInt8.ofNat (val W (8 * i) 8) := by
  simp [packB, List.getD, hi]
theorem packB_bit (W : List Nat) (h : ∀ x ∈ W, x ≤ 1) (i k : Nat) (hi : i < nb W.length) (hk : k < 8) : ((packB W).getD i 0).toNat / 2 ^ k % 2 = W.getD (8 * i + k) 0 := by
  rw [packB_get W i hi, UInt8.toNat_ofNat', Nat.mod_eq_of_lt (val_lt W h _ 8)]
  exact val_bit W h _ k 8 hk
/-- The unused bits of the last byte. -/
def free (n : Nat) : Nat := (8 - n % 8) % 8
theorem packB_new (W : List Nat) (x : Nat) (h : W.length % 8 = 0) : packB (W ++ [x]) = packB W ++ [UInt8.ofNat x] := by
  have h1 : nb (W ++ [x]).length = nb W.length + 1 := by simp [nb]; omega
  unfold packB
  rw [h1, List.range_succ, List.map_append]
  have h2 : 8 * nb W.length = W.length := by unfold nb; omega
  congr 1
  · refine List.map_congr_left fun i hi => ?_
    have hi := List.mem_range.1 hi
    rw [val_append W [x] (8 * i) 8 (by omega)]
  · simp only [List.map_cons, List.map_nil, h2]
    rw [val_over (W ++ [x]) W.length 1 8 (by omega) (by simp)]
    simp [val]
theorem packB_old (W : List Nat) (x : Nat) (h : W.length % 8 ≠ 0) : packB (W ++ [x]) = (packB W).set (nb W.length - 1) (UInt8.ofNat (((packB W).getD (nb W.length - 1) 0).toNat + x * 2 ^ (W.length % 8))) := by
  have h1 : nb (W ++ [x]).length = nb W.length := by simp [nb]; omega
  have hn : nb W.length - 1 + 1 = nb W.length := by unfold nb; omega
  have h8 : 8 * (nb W.length - 1) + W.length % 8 = W.length := by unfold nb; omega
  refine List.ext_getElem (by rw [packB_len, h1, List.length_set, packB_len]) fun i hi1 hi2 => ?_
  rw [packB_len, h1] at hi1
  rw [List.getElem_set]
  have e1 : (packB (W ++ [x]))[i] = UInt8.ofNat (val (W ++ [x]) (8 * i) 8) := by simp [packB]
  have e2 : (packB W)[i]'(by rw [packB_len]; exact hi1) = UInt8.ofNat (val W (8 * i) 8) := by simp [packB]
  rw [e1]
  split
  · rename_i hi
    subst hi
    rw [packB_get W _ (by omega), UInt8.toNat_ofNat']
    have h3 : val (W ++ [x]) (8 * (nb W.length - 1)) 8 = val (W ++ [x]) (8 * (nb W.length - 1)) (W.length % 8 + 1) := val_over _ _ _ _ (by omega) (by simp; omega)
    have h4 : val W (8 * (nb W.length - 1)) 8 = val W (8 * (nb W.length - 1)) (W.length % 8) := val_over _ _ _ _ (by omega) (by omega)
    rw [h3, val, val_append W [x] _ _ (by omega), h8, h4]
    rw [show (W ++ [x]).getD W.length 0 = x by simp]
    apply UInt8.toNat_inj.1
    simp only [UInt8.toNat_ofNat']
    omega
  · rename_i hi
    rw [e2, val_append W [x] (8 * i) 8 (by omega)]
theorem packB_nil : packB [] = [] := rfl
end Go.Proofs.YthmhcnnigepohaaGreatDoor.En
