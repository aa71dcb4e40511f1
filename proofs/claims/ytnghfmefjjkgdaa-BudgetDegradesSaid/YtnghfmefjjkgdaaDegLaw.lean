/- The plain law of BudgetDegrades: marks stand in order; what stays in the map; who goes. -/
import Derived.Test.YtnghfmefjjkgdaaPoolLaw
import Derived.Test.YtnghfmefjjkgdaaAwake
namespace Go.Proofs.Ytnghfmefjjkgdaa
open Go.RowKit

/-- The features that are off are the first ones. -/
def Pref (off : Nat → Bool) : Prop := ∀ i, 1 ≤ i → i < 6 → off (i + 1) = true → off i = true

theorem pref_ticked {off : Nat → Bool} (h : Pref off) {t u : Int} (ht : 0 ≤ t) : Pref (ticked t u off 6) := by
  intro i h1 h6 hi
  have hm : t * (8 + ((i : Nat) : Int)) / 16 ≤ t * (8 + ((i + 1 : Nat) : Int)) / 16 := Int.ediv_le_ediv (by omega) (Int.mul_le_mul_of_nonneg_left (by omega) ht)
  have hm2 : t * (9 + ((i : Nat) : Int)) / 16 ≤ t * (9 + ((i + 1 : Nat) : Int)) / 16 := Int.ediv_le_ediv (by omega) (Int.mul_le_mul_of_nonneg_left (by omega) ht)
  have hm3 : t * (8 + ((i : Nat) : Int)) / 16 ≤ t * (9 + ((i : Nat) : Int)) / 16 := Int.ediv_le_ediv (by omega) (Int.mul_le_mul_of_nonneg_left (by omega) ht)
  have hp := h i h1 h6
  unfold ticked at hi ⊢
  rw [if_pos (by omega)] at hi ⊢
  unfold tickB at hi ⊢
  generalize t * (8 + ((i : Nat) : Int)) / 16 = A at *
  generalize t * (8 + ((i + 1 : Nat) : Int)) / 16 = B at *
  generalize t * (9 + ((i : Nat) : Int)) / 16 = C at *
  generalize t * (9 + ((i + 1 : Nat) : Int)) / 16 = D at *
  cases h0 : off i <;> cases h2 : off (i + 1) <;> simp [h0, h2] at hi hp ⊢ <;> omega

theorem pref_setPl {p : Pl} (h : Pref p.off) (ht : 0 ≤ p.total) (o n v : Int) : Pref (setPl p o n v).off := by
  unfold setPl
  split
  · exact h
  · exact pref_ticked h ht

theorem pref_off {p : Pl} (h : Pref p.off) (f : Nat) (h1 : 1 ≤ f) (h6 : f ≤ 6) : p.off f = decide (f ≤ pcnt p 6) := by
  have a1 := h 1 (by omega) (by omega)
  have a2 := h 2 (by omega) (by omega)
  have a3 := h 3 (by omega) (by omega)
  have a4 := h 4 (by omega) (by omega)
  have a5 := h 5 (by omega) (by omega)
  have hp : pcnt p 6 = (if p.off 1 = true then 1 else 0) + (if p.off 2 = true then 1 else 0) + (if p.off 3 = true then 1 else 0) + (if p.off 4 = true then 1 else 0) + (if p.off 5 = true then 1 else 0) + (if p.off 6 = true then 1 else 0) := by
    simp only [pcnt]
    split <;> split <;> split <;> split <;> split <;> split <;> simp
  rw [hp]
  obtain rfl | rfl | rfl | rfl | rfl | rfl : f = 1 ∨ f = 2 ∨ f = 3 ∨ f = 4 ∨ f = 5 ∨ f = 6 := by omega
  all_goals
    cases e1 : p.off 1 <;> cases e2 : p.off 2 <;> cases e3 : p.off 3 <;> cases e4 : p.off 4 <;> cases e5 : p.off 5 <;> cases e6 : p.off 6 <;> simp_all

theorem mem_set {p : Pl} {k : Nat} (h : PInv p k) {o n v : Int} (hg : ¬ setBad o n v = true) (x : Int) (a : Int × Int) :
    (x, a) ∈ (setPl p o n v).M ↔ (if x = o then n ≠ 0 ∧ a = (n, v) else (x, a) ∈ p.M) := by
  unfold setPl
  rw [if_neg hg]
  dsimp only
  have hoth : (x, a) ∈ oth p.M o ↔ (x ≠ o ∧ (x, a) ∈ p.M) := by
    unfold oth
    rw [List.mem_filter]
    simp
    exact And.comm
  by_cases hn : n = 0
  · rw [if_pos hn]
    show (x, a) ∈ oth p.M o ↔ _
    rw [hoth]
    by_cases hx : x = o
    · rw [if_pos hx]; simp [hx, hn]
    · rw [if_neg hx]; simp [hx]
  · rw [if_neg hn, (mput_perm p.M o (n, v) h.keys).mem_iff, List.mem_append, hoth]
    by_cases hx : x = o
    · rw [if_pos hx]; simp [hx, hn]
    · rw [if_neg hx]; simp [hx]

theorem len_del {p : Pl} {v : Int} {a : Int × Int} (hg : ¬ setBad v 0 0 = true) (ha : (v, a) ∈ p.M) : (setPl p v 0 0).M.length + 1 ≤ p.M.length := by
  unfold setPl
  rw [if_neg hg]
  show (mdel p.M v).length + 1 ≤ _
  unfold mdel
  have : (p.M.filter (fun q => !decide (q.1 = v))).length < p.M.length := by
    rw [List.length_filter_lt_length_iff_exists]
    exact ⟨_, ha, by simp⟩
  omega

theorem total_set (p : Pl) (o n v : Int) : (setPl p o n v).total = p.total := by
  unfold setPl
  split <;> rfl

/-- What lies in the map: the accounts whose size is not 0 and that are not gone, of the first k. -/
def Has (p : Pl) (z q : Nat → Int) (gone : Nat → Bool) (k : Nat) : Prop :=
  ∀ x a, (x, a) ∈ p.M ↔ ∃ i, i < k ∧ x = ((i + 1 : Nat) : Int) ∧ a = (z i, (q i).tmod 4) ∧ z i ≠ 0 ∧ gone (i + 1) = false

theorem Has.put {p : Pl} {z q : Nat → Int} {k m : Nat} (h : Has p z q (fun _ => false) k) (inv : PInv p m) (hz : 0 ≤ z k ∧ z k ≤ 65535) (hq : 0 ≤ q k ∧ q k ≤ 255) :
    Has (setPl p ((k : Int) + 1) (z k) ((q k).tmod 4)) z q (fun _ => false) (k + 1) := by
  intro x a
  have hm : 0 ≤ (q k).tmod 4 ∧ (q k).tmod 4 ≤ 3 := by rw [Int.tmod_eq_emod_of_nonneg hq.1]; omega
  have hb : ¬ setBad ((k : Int) + 1) (z k) ((q k).tmod 4) = true := by
    unfold setBad
    simp only [decide_eq_true_eq]
    omega
  rw [mem_set inv hb, h x a]
  by_cases hx : x = (k : Int) + 1
  · rw [if_pos hx]
    constructor
    · rintro ⟨h1, h2⟩
      exact ⟨k, by omega, by omega, h2, h1, rfl⟩
    · rintro ⟨i, h1, h2, h3, h4, _⟩
      obtain rfl : i = k := by omega
      exact ⟨h4, h3⟩
  · rw [if_neg hx]
    constructor
    · rintro ⟨i, h1, h2⟩
      exact ⟨i, by omega, h2⟩
    · rintro ⟨i, h1, h2, h3⟩
      exact ⟨i, by omega, h2, h3⟩

theorem Has.del {p : Pl} {z q : Nat → Int} {gone : Nat → Bool} {k m v : Nat} (h : Has p z q gone k) (inv : PInv p m) (hv : 1 ≤ v) :
    Has (setPl p v 0 0) z q (fun i => if i = v then true else gone i) k := by
  intro x a
  have hb : ¬ setBad (v : Int) 0 0 = true := by
    unfold setBad
    simp only [decide_eq_true_eq]
    omega
  rw [mem_set inv hb, h x a]
  by_cases hx : x = (v : Int)
  · rw [if_pos hx]
    constructor
    · rintro ⟨h1, h2⟩
      exact absurd rfl h1
    · rintro ⟨i, h1, h2, h3, h4, h5⟩
      dsimp only at h5
      rw [if_pos (by omega)] at h5
      cases h5
  · rw [if_neg hx]
    constructor
    · rintro ⟨i, h1, h2, h3, h4, h5⟩
      exact ⟨i, h1, h2, h3, h4, by dsimp only; rw [if_neg (by omega)]; exact h5⟩
    · rintro ⟨i, h1, h2, h3, h4, h5⟩
      exact ⟨i, h1, h2, h3, h4, by dsimp only at h5; rw [if_neg (by omega)] at h5; exact h5⟩

/-- What is known of a victim. -/
theorem vic_is {p : Pl} {z q : Nat → Int} {gone : Nat → Bool} {k : Nat} (h : Has p z q gone k) {v : Int} (hv : VicOf p v) :
    (v = 0 ∧ p.used ≤ p.total) ∨ ∃ i, i < k ∧ v = ((i + 1 : Nat) : Int) ∧ z i ≠ 0 ∧ gone (i + 1) = false ∧ p.total < p.used ∧ (∃ a, (v, a) ∈ p.M) ∧
      ∀ j, j < k → gone (j + 1) = false → z j ≠ 0 → ¬ (q j).tmod 4 < (q i).tmod 4 := by
  unfold VicOf at hv
  by_cases hu : p.used ≤ p.total
  · rw [if_pos hu] at hv
    exact .inl ⟨hv, hu⟩
  · rw [if_neg hu] at hv
    obtain ⟨a, ha, hw⟩ := hv
    obtain ⟨i, h1, h2, h3, h4, h5⟩ := (h v a).1 ha
    refine .inr ⟨i, h1, h2, h4, h5, by omega, ⟨a, ha⟩, fun j hj hg hz => ?_⟩
    have hm := (h _ _).2 ⟨j, hj, rfl, rfl, hz, hg⟩
    rcases hw _ hm with h6 | h6
    · have := congrArg (fun x => x.2.2) h6
      simp only [h3] at this
      omega
    · unfold worse at h6
      simp only [h3] at h6
      omega
end Go.Proofs.Ytnghfmefjjkgdaa
