/- The plain law of layer 54: the program's pool and the reference's go side by side. -/
import Derived.Test.YtnghfmefjjkgdaaSet
namespace Go.Proofs.Ytnghfmefjjkgdaa
open Go.RowKit

abbrev AM := List (Int × (Int × Int))
def sumN (M : AM) : Int := (M.map (fun x => x.2.1)).sum
def oth (M : AM) (o : Int) : AM := M.filter (fun x => !decide (x.1 = o))

theorem sumN_perm {M L : AM} (h : M.Perm L) : sumN M = sumN L := by
  induction h with
  | nil => rfl
  | cons x _ ih => simp only [sumN, List.map_cons, List.sum_cons] at ih ⊢; omega
  | swap x y l => simp only [sumN, List.map_cons, List.sum_cons]; omega
  | trans _ _ ih1 ih2 => omega
theorem sumN_append (M L : AM) : sumN (M ++ L) = sumN M + sumN L := by simp [sumN]

theorem oth_of_not {M : AM} {o : Int} (h : ∀ x ∈ M, x.1 ≠ o) : oth M o = M := by
  unfold oth
  rw [List.filter_eq_self]
  intro x hx
  simpa using h x hx

theorem mput_perm : ∀ (M : AM) (o : Int) (x : Int × Int), (M.map (·.1)).Nodup → (mput M o x).Perm (oth M o ++ [(o, x)])
  | [], o, x, _ => by simp [mput, oth]
  | q :: M, o, x, hn => by
    simp only [List.map_cons, List.nodup_cons] at hn
    by_cases hq : q.1 = o
    · have hne : ∀ y ∈ M, y.1 ≠ o := fun y hy he => hn.1 (by rw [hq, ← he]; exact List.mem_map_of_mem hy)
      have h1 : mput (q :: M) o x = (o, x) :: M := by
        unfold mput
        rw [if_pos (by simp [hq])]
        simp only [List.map_cons, hq, if_true]
        congr 1
        rw [List.map_congr_left (g := id)]
        · simp
        · intro y hy
          rw [if_neg (hne y hy)]
          rfl
      have h2 : oth (q :: M) o = M := by
        have := oth_of_not hne
        unfold oth at this ⊢
        rw [List.filter_cons_of_neg (by simp [hq])]
        exact this
      rw [h1, h2]
      exact (List.perm_append_singleton _ _).symm
    · have ih := mput_perm M o x hn.2
      have h1 : mput (q :: M) o x = q :: mput M o x := by
        unfold mput
        by_cases ha : M.any (fun p => decide (p.1 = o)) = true
        · rw [if_pos ha, if_pos (by simp [ha])]
          simp [hq]
        · rw [if_neg ha, if_neg (by simpa [hq] using ha)]
          rfl
      have h2 : oth (q :: M) o = q :: oth M o := by
        unfold oth
        rw [List.filter_cons_of_pos (by simpa using hq)]
      rw [h1, h2]
      exact ih.cons q

theorem acc_sum : ∀ (M : AM) (o : Int), (M.map (·.1)).Nodup → sumN (oth M o) = sumN M - ((mget M o).getD (0, 0)).1
  | [], o, _ => by simp [oth, sumN, mget]
  | q :: M, o, hn => by
    simp only [List.map_cons, List.nodup_cons] at hn
    by_cases hq : q.1 = o
    · have hne : ∀ y ∈ M, y.1 ≠ o := fun y hy he => hn.1 (by rw [hq, ← he]; exact List.mem_map_of_mem hy)
      have h2 : oth (q :: M) o = M := by
        have := oth_of_not hne
        unfold oth at this ⊢
        rw [List.filter_cons_of_neg (by simp [hq])]
        exact this
      have h3 : mget (q :: M) o = some q.2 := by
        unfold mget
        rw [List.find?_cons_of_pos (by simpa using hq)]
        rfl
      rw [h2, h3]
      simp [sumN]
      omega
    · have ih := acc_sum M o hn.2
      have h2 : oth (q :: M) o = q :: oth M o := by
        unfold oth
        rw [List.filter_cons_of_pos (by simpa using hq)]
      have h3 : mget (q :: M) o = mget M o := by
        unfold mget
        rw [List.find?_cons_of_neg (by simpa using hq)]
      rw [h2, h3]
      simp only [sumN, List.map_cons, List.sum_cons] at ih ⊢
      omega

/-- What holds of a pool after at most k calls of Set. -/
structure PInv (p : Pl) (k : Nat) : Prop where
  total : 1024 ≤ p.total ∧ p.total ≤ 1073741824
  left : 0 ≤ p.left ∧ p.left ≤ 1048576
  keys : (p.M.map (·.1)).Nodup
  acc : ∀ x ∈ p.M, 1 ≤ x.1 ∧ 1 ≤ x.2.1 ∧ x.2.1 ≤ 1073741824 ∧ 0 ≤ x.2.2 ∧ x.2.2 ≤ 3
  used : p.used = sumN p.M
  len : p.M.length ≤ k

theorem sumN_bound : ∀ (M : AM), (∀ x ∈ M, 1 ≤ x.2.1 ∧ x.2.1 ≤ 1073741824) → (M.length : Int) ≤ sumN M ∧ sumN M ≤ M.length * 1073741824
  | [], _ => by simp [sumN]
  | q :: M, h => by
    have ih := sumN_bound M (fun x hx => h x (by simp [hx]))
    have h1 := h q (by simp)
    simp only [sumN, List.map_cons, List.sum_cons, List.length_cons] at ih ⊢
    omega

theorem PInv.ok {p : Pl} {k : Nat} (h : PInv p k) (hk : k ≤ 900) : p.Ok := by
  have hb := sumN_bound p.M (fun x hx => ⟨(h.acc x hx).2.1, (h.acc x hx).2.2.1⟩)
  have := h.used
  have := h.len
  refine ⟨h.total, by omega, fun x hx => ?_⟩
  have := h.acc x hx
  omega

theorem setBad_false {o n v : Int} (h : ¬ setBad o n v = true) : 1 ≤ o ∧ 0 ≤ n ∧ n ≤ 1073741824 ∧ 0 ≤ v ∧ v ≤ 3 := by
  unfold setBad at h
  simp only [decide_eq_true_eq] at h
  omega

/-- The reference's Set. -/
def rsetPl (p : Pl) (o n v : Int) : Pl :=
  if setBad o n v = true then p else
    let L := if 0 < n then oth p.M o ++ [(o, (n, v))] else oth p.M o
    { p with used := sumN L, peak := max p.peak (sumN L), off := ticked p.total (sumN L) p.off 6, M := L }

structure PTwin (p r : Pl) : Prop where
  total : p.total = r.total
  used : p.used = r.used
  peak : p.peak = r.peak
  left : p.left = r.left
  off : p.off = r.off
  M : p.M.Perm r.M

theorem oth_len (M : AM) (o : Int) : (oth M o).length ≤ M.length := List.length_filter_le _ _

theorem PInv.set {p : Pl} {k : Nat} (h : PInv p k) (o n v : Int) : PInv (setPl p o n v) (k + 1) := by
  unfold setPl
  by_cases hb : setBad o n v = true
  · rw [if_pos hb]
    exact ⟨h.total, h.left, h.keys, h.acc, h.used, by have := h.len; omega⟩
  rw [if_neg hb]
  have hg := setBad_false hb
  dsimp only
  have hperm := mput_perm p.M o (n, v) h.keys
  have hacc := acc_sum p.M o h.keys
  have hlen := oth_len p.M o
  have hkeys : ((oth p.M o).map (·.1)).Nodup := h.keys.sublist ((List.filter_sublist).map _)
  by_cases hn : n = 0
  · rw [if_pos hn]
    refine ⟨h.total, h.left, hkeys, fun x hx => h.acc x (List.mem_filter.1 hx).1, ?_, ?_⟩
    · show p.used + (n - (accOf p o).1) = sumN (oth p.M o)
      rw [hacc, h.used]
      unfold accOf
      omega
    · show (oth p.M o).length ≤ _
      have := h.len
      omega
  · rw [if_neg hn]
    refine ⟨h.total, h.left, ?_, ?_, ?_, ?_⟩
    · show ((mput p.M o (n, v)).map (·.1)).Nodup
      rw [(hperm.map (·.1)).nodup_iff, List.map_append, List.nodup_append]
      refine ⟨hkeys, by simp, ?_⟩
      intro a ha b hb2
      simp at hb2
      obtain ⟨y, hy, rfl⟩ := List.mem_map.1 ha
      have := (List.mem_filter.1 hy).2
      simp at this
      rw [hb2]
      exact this
    · intro x hx
      rcases List.mem_append.1 (hperm.mem_iff.1 hx) with h1 | h1
      · exact h.acc x (List.mem_filter.1 h1).1
      · simp at h1
        subst h1
        simp
        omega
    · show p.used + (n - (accOf p o).1) = sumN (mput p.M o (n, v))
      rw [sumN_perm hperm, sumN_append, hacc, h.used]
      unfold accOf
      simp [sumN]
      omega
    · show (mput p.M o (n, v)).length ≤ _
      rw [hperm.length_eq, List.length_append]
      have := h.len
      simp
      omega

theorem PTwin.set {p r : Pl} {k : Nat} (t : PTwin p r) (h : PInv p k) (o n v : Int) : PTwin (setPl p o n v) (rsetPl r o n v) := by
  have h2 := (h.set o n v).used
  unfold setPl rsetPl at *
  by_cases hb : setBad o n v = true
  · rw [if_pos hb, if_pos hb]
    exact t
  rw [if_neg hb] at h2 ⊢
  rw [if_neg hb]
  have hg := setBad_false hb
  dsimp only at h2 ⊢
  have hM : (if n = 0 then mdel p.M o else mput p.M o (n, v)).Perm (if 0 < n then oth r.M o ++ [(o, (n, v))] else oth r.M o) := by
    by_cases hn : n = 0
    · rw [if_pos hn, if_neg (by omega)]
      exact t.M.filter _
    · rw [if_neg hn, if_pos (by omega)]
      exact (mput_perm p.M o (n, v) h.keys).trans ((t.M.filter _).append_right _)
  rw [sumN_perm hM] at h2
  refine ⟨t.total, h2, ?_, t.left, ?_, hM⟩
  · dsimp only
    rw [h2, t.peak]
  · dsimp only
    rw [h2, t.off, t.total]

/-- Which of two accounts is the victim. -/
def worse (a b : Int × (Int × Int)) : Prop := a.2.2 < b.2.2 ∨ (a.2.2 = b.2.2 ∧ (b.2.1 < a.2.1 ∨ (a.2.1 = b.2.1 ∧ a.1 < b.1)))
theorem worse_asymm {a b : Int × (Int × Int)} (h : worse a b) : ¬ worse b a := by unfold worse at *; omega
theorem worse_trans {a b c : Int × (Int × Int)} (h : worse a b) (k : worse b c) : worse a c := by unfold worse at *; omega
theorem worse_total {a b : Int × (Int × Int)} (h : ¬ worse a b) (k : ¬ worse b a) : a.1 = b.1 := by unfold worse at *; omega
def IsVic (M : AM) (v : Int) : Prop := ∃ a, (v, a) ∈ M ∧ ∀ x ∈ M, x = (v, a) ∨ worse (v, a) x
theorem IsVic.unique {M L : AM} (hp : M.Perm L) {v u : Int} (h : IsVic M v) (k : IsVic L u) : v = u := by
  obtain ⟨a, ha, h1⟩ := h
  obtain ⟨b, hb, h2⟩ := k
  rcases h1 _ (hp.mem_iff.2 hb) with h3 | h3
  · exact (congrArg Prod.fst h3).symm
  · rcases h2 _ (hp.mem_iff.1 ha) with h4 | h4
    · exact congrArg Prod.fst h4
    · exact absurd h4 (worse_asymm h3)
def VicOf (p : Pl) (v : Int) : Prop := if p.used ≤ p.total then v = 0 else IsVic p.M v
theorem VicOf.unique {p r : Pl} (t : PTwin p r) {v u : Int} (h : VicOf p v) (k : VicOf r u) : v = u := by
  unfold VicOf at *
  rw [t.used, t.total] at h
  by_cases hc : r.used ≤ r.total
  · rw [if_pos hc] at h k
    rw [h, k]
  · rw [if_neg hc] at h k
    exact h.unique t.M k
end Go.Proofs.Ytnghfmefjjkgdaa
