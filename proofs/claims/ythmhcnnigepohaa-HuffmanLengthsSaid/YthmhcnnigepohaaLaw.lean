/- The plain law of Lengths: its answer is a complete code, and none is cheaper. -/
import Derived.Test.YthmhcnnigepohaaDcd
namespace Go.Proofs.Ythmhcnnigepohaa
open Go.RowKit

/-! ### sums over the used symbols -/
theorem used_sum (g : Nat → Nat) : ∀ (F : List Int) (k : Nat), ((usedAt F k).map g).sum = ((List.range F.length).map (fun i => if 0 < F.getD i 0 then g (k + i) else 0)).sum
  | [], _ => by simp [usedAt]
  | f :: F, k => by
    have ih := used_sum g F (k + 1)
    rw [List.length_cons, List.range_succ_eq_map, List.map_cons, List.sum_cons, List.map_map]
    have e : (List.range F.length).map ((fun i => if 0 < (f :: F).getD i 0 then g (k + i) else 0) ∘ Nat.succ) = (List.range F.length).map (fun i => if 0 < F.getD i 0 then g (k + 1 + i) else 0) := by
      refine List.map_congr_left fun i _ => ?_
      simp only [Function.comp, Nat.succ_eq_add_one, List.getD_cons_succ]
      rw [show k + (i + 1) = k + 1 + i by omega]
    rw [e, ← ih]
    rw [usedAt]
    simp only [List.getD_cons_zero, Nat.add_zero]
    split <;> simp
theorem used_sumZ (g : Nat → Int) : ∀ (F : List Int) (k : Nat), ((usedAt F k).map g).sum = ((List.range F.length).map (fun i => if 0 < F.getD i 0 then g (k + i) else 0)).sum
  | [], _ => by simp [usedAt]
  | f :: F, k => by
    have ih := used_sumZ g F (k + 1)
    rw [List.length_cons, List.range_succ_eq_map, List.map_cons, List.sum_cons, List.map_map]
    have e : (List.range F.length).map ((fun i => if 0 < (f :: F).getD i 0 then g (k + i) else 0) ∘ Nat.succ) = (List.range F.length).map (fun i => if 0 < F.getD i 0 then g (k + 1 + i) else 0) := by
      refine List.map_congr_left fun i _ => ?_
      simp only [Function.comp, Nat.succ_eq_add_one, List.getD_cons_succ]
      rw [show k + (i + 1) = k + 1 + i by omega]
    rw [e, ← ih]
    rw [usedAt]
    simp only [List.getD_cons_zero, Nat.add_zero]
    split <;> simp
theorem leaves_head : ∀ (F : List Int) (k : Nat), (leavesAt F k).map (fun p => p.s.headD 0) = usedAt F k
  | [], _ => rfl
  | f :: F, k => by
    have ih := leaves_head F (k + 1)
    unfold leavesAt usedAt
    split
    · rw [List.map_cons, ih]; rfl
    · exact ih
theorem used_len (F : List Int) : (usedAt F 0).length = (leavesAt F 0).length := by
  rw [← leaves_head]; simp
theorem sumZ_perm {a b : List Int} (h : a.Perm b) : a.sum = b.sum := by
  induction h with
  | nil => rfl
  | cons x _ ih => simp [ih]
  | swap x y l => simp only [List.sum_cons]; omega
  | trans _ _ i1 i2 => exact i1.trans i2
theorem sumN_perm {a b : List Nat} (h : a.Perm b) : a.sum = b.sum := by
  induction h with
  | nil => rfl
  | cons x _ ih => simp [ih]
  | swap x y l => simp only [List.sum_cons]; omega
  | trans _ _ i1 i2 => exact i1.trans i2
theorem sum_le {f g : Nat → Nat} : ∀ l : List Nat, (∀ x ∈ l, f x ≤ g x) → (l.map f).sum ≤ (l.map g).sum
  | [], _ => by simp
  | a :: l, h => by
    have := sum_le l (fun x hx => h x (by simp [hx]))
    have := h a (by simp)
    simp only [List.map_cons, List.sum_cons]
    omega
theorem sumZ_le {f g : Nat → Int} : ∀ l : List Nat, (∀ x ∈ l, f x ≤ g x) → (l.map f).sum ≤ (l.map g).sum
  | [], _ => by simp
  | a :: l, h => by
    have := sumZ_le l (fun x hx => h x (by simp [hx]))
    have := h a (by simp)
    simp only [List.map_cons, List.sum_cons]
    omega
theorem sum_mul (c : Nat) (f : Nat → Nat) : ∀ l : List Nat, (l.map (fun x => c * f x)).sum = c * (l.map f).sum
  | [] => by simp
  | a :: l => by
    simp only [List.map_cons, List.sum_cons, sum_mul c f l, Nat.mul_add]
/-! ### Kraft's sum over the used symbols -/
theorem kr_range (L : List Nat) : kr L = ((List.range L.length).map (fun i => if L.getD i 0 = 0 then 0 else 2 ^ (15 - L.getD i 0))).sum := by
  rw [map_range (fun n => if n = 0 then 0 else 2 ^ (15 - n)) L]
  rfl
/-- A code that serves: it gives each used symbol a length. -/
structure Serves (F : List Int) (L : List Nat) (M : Nat) : Prop where
  len : L.length = F.length
  le : ∀ i, i < L.length → L.getD i 0 ≤ M
  pos : ∀ i, i < F.length → 0 < F.getD i 0 → 0 < L.getD i 0
  kr : kr L ≤ 2 ^ 15
theorem Serves.sum {F : List Int} {L : List Nat} {M : Nat} (h : Serves F L M) (hM : M ≤ 15) : ((usedAt F 0).map (fun i => 2 ^ (M - L.getD i 0))).sum ≤ 2 ^ M := by
  have h1 : ((usedAt F 0).map (fun i => 2 ^ (15 - L.getD i 0))).sum ≤ 2 ^ 15 := by
    refine Nat.le_trans ?_ h.kr
    rw [used_sum, kr_range, h.len]
    refine sum_le _ fun i hi => ?_
    have hi := List.mem_range.1 hi
    split
    · rename_i h0
      rw [if_neg (by have := h.pos i hi h0; omega), Nat.zero_add]
      exact Nat.le_refl _
    · omega
  have h2 : (usedAt F 0).map (fun i => 2 ^ (15 - L.getD i 0)) = (usedAt F 0).map (fun i => 2 ^ (15 - M) * 2 ^ (M - L.getD i 0)) := by
    refine List.map_congr_left fun i hi => ?_
    have h3 := used_ge F 0 i hi
    have h4 := h.le i (by rw [h.len]; omega)
    rw [← Nat.pow_add]
    congr 1
    omega
  rw [h2, sum_mul, show 2 ^ 15 = 2 ^ (15 - M) * 2 ^ M by rw [← Nat.pow_add]; congr 1; omega] at h1
  exact Nat.le_of_mul_le_mul_left h1 (Nat.pow_pos (by omega))
theorem Serves.card {F : List Int} {L : List Nat} {M : Nat} (h : Serves F L M) (hM : M ≤ 15) : (leavesAt F 0).length ≤ 2 ^ M := by
  refine Nat.le_trans ?_ (h.sum hM)
  have h1 := sum_le (f := fun _ => 1) (g := fun i => 2 ^ (M - L.getD i 0)) (usedAt F 0) (fun x _ => Nat.one_le_two_pow)
  rw [List.map_const', List.sum_replicate_nat, used_len] at h1
  omega

/-! ### the answer -/
def lensN (F : List Int) (M : Nat) : List Nat :=
  if (leavesAt F 0).length < 2 then (List.range F.length).map (fun i => if 0 < F.getD i 0 then 1 else 0) else lens F (M - 1)
theorem lensOf_eq (F : List Int) (most : Int) (hl : F.length ≤ 320) (hc : (leavesAt F 0).length ≤ 2 ^ (lim most 1 15).toNat) : lensOf F most = zI (lensN F (lim most 1 15).toNat) := by
  unfold lensOf lensN zI
  rw [if_neg (by omega)]
  split
  · rw [List.map_map]
    refine List.map_congr_left fun i _ => ?_
    simp only [Function.comp]
    split <;> rfl
  · unfold lens
    rw [List.map_map]
    rfl
theorem lensN_len (F : List Int) (M : Nat) : (lensN F M).length = F.length := by
  unfold lensN lens
  split <;> simp
theorem lensN_get (F : List Int) (M i : Nat) (hi : i < F.length) : (lensN F M).getD i 0 = if (leavesAt F 0).length < 2 then (if 0 < F.getD i 0 then 1 else 0) else (top F (M - 1)).count i := by
  unfold lensN lens
  split <;> simp [List.getD, hi]
theorem lensN_le (F : List Int) (M : Nat) (h1 : 1 ≤ M) (hc : (leavesAt F 0).length ≤ 2 ^ M) (i : Nat) (hi : i < F.length) : (lensN F M).getD i 0 ≤ M := by
  rw [lensN_get F M i hi]
  split
  · split <;> omega
  · have h := (top_facts F (M - 1) (by omega) (by rw [show M - 1 + 1 = M by omega]; exact hc)).2.1 i
    omega
theorem lensN_pos (F : List Int) (M : Nat) (h1 : 1 ≤ M) (hc : (leavesAt F 0).length ≤ 2 ^ M) (i : Nat) (hi : i < F.length) : 0 < (lensN F M).getD i 0 ↔ 0 < F.getD i 0 := by
  rw [lensN_get F M i hi]
  split
  · split <;> simp_all
  · have h := (top_facts F (M - 1) (by omega) (by rw [show M - 1 + 1 = M by omega]; exact hc)).2.2.1 i
    have h2 := used_mem F 0 i hi
    rw [Nat.zero_add] at h2
    rw [← h, h2]
theorem lensN_kr (F : List Int) (M : Nat) (h1 : 1 ≤ M) (hM : M ≤ 15) (h2 : 2 ≤ (leavesAt F 0).length) (hc : (leavesAt F 0).length ≤ 2 ^ M) : kr (lensN F M) = 2 ^ 15 := by
  obtain ⟨_, _, _, hs⟩ := top_facts F (M - 1) h2 (by rw [show M - 1 + 1 = M by omega]; exact hc)
  rw [show M - 1 + 1 = M by omega, used_sum] at hs
  rw [kr_range, lensN_len, show 2 ^ 15 = 2 ^ (15 - M) * 2 ^ M by rw [← Nat.pow_add]; congr 1; omega, ← hs, ← sum_mul]
  congr 1
  refine List.map_congr_left fun i hi => ?_
  have hi := List.mem_range.1 hi
  have hp := lensN_pos F M h1 hc i hi
  have hle := lensN_le F M h1 hc i hi
  have hg := lensN_get F M i hi
  rw [if_neg (by omega)] at hg
  by_cases h0 : 0 < F.getD i 0
  · rw [if_pos h0, if_neg (by have := hp.2 h0; omega), Nat.zero_add, ← hg, ← Nat.pow_add]
    congr 1
    omega
  · rw [if_neg h0, if_pos (by
      refine Classical.byContradiction fun h3 => h0 (hp.1 (by omega))), Nat.mul_zero]
theorem few (F : List Int) (M : Nat) (h2 : (leavesAt F 0).length < 2) : ∀ k, k ≤ F.length → us (zI (lensN F M)) k = ((leavesAt (F.take k) 0).length : Int) ∧ ks (zI (lensN F M)) k = ((leavesAt (F.take k) 0).length : Int) * 16384
  | 0, _ => by simp [us, ks, leavesAt]
  | k + 1, h => by
    obtain ⟨i1, i2⟩ := few F M h2 k (by omega)
    rw [us, ks, i1, i2, leaves_take (by omega), zI_get, lensN_get F M k (by omega), if_pos h2, List.length_append]
    by_cases h0 : 0 < F.getD k 0
    · rw [if_pos h0, if_pos h0]
      simp
      omega
    · rw [if_neg h0, if_neg h0]
      simp
theorem chk_lensN (F : List Int) (M : Nat) (h1 : 1 ≤ M) (hM : M ≤ 15) (hl : F.length ≤ 320) (hc : (leavesAt F 0).length ≤ 2 ^ M) : chk (zI (lensN F M)) = 0 := by
  have hb : bad (zI (lensN F M)) = false := by
    refine good_of fun i hi => ?_
    rw [zI_len, lensN_len] at hi
    have := lensN_le F M h1 hc i hi
    rw [zI_get]
    omega
  have hle : ∀ x ∈ lensN F M, x ≤ 15 := by
    intro x hx
    obtain ⟨i, hi, rfl⟩ := List.mem_iff_getElem.1 hx
    have hi2 := hi
    rw [lensN_len] at hi2
    have := lensN_le F M h1 hc i hi2
    have e : (lensN F M).getD i 0 = (lensN F M)[i] := by simp [List.getD, List.getElem?_eq_getElem hi]
    omega
  unfold chk
  rw [if_neg (by rw [zI_len, lensN_len]; omega), hb]
  simp only [Bool.false_eq_true, if_false]
  by_cases h2 : (leavesAt F 0).length < 2
  · obtain ⟨e1, e2⟩ := few F M h2 F.length (Nat.le_refl _)
    rw [List.take_length] at e1 e2
    rw [zI_len, lensN_len, e1, e2, if_neg (by omega), if_pos (by omega)]
  · have hk := lensN_kr F M h1 hM (by omega) hc
    rw [ks_all _ hle, hk, if_neg (by decide), if_pos (.inl (by decide))]

/-! ### the cost -/
theorem cs_sum (F : List Int) (L : List Nat) (hL : ∀ i, i < L.length → L.getD i 0 ≤ 15) : ∀ k, k ≤ L.length → cs F (zI L) k = ((List.range k).map (fun i => phi F i * ((L.getD i 0 : Nat) : Int))).sum
  | 0, _ => by simp [cs]
  | k + 1, h => by
    rw [cs, cs_sum F L hL k (by omega), List.range_succ, List.map_append, List.sum_append, zI_get]
    have h1 := hL k (by omega)
    have e1 : lim (F.getD k 0) 0 1048576 = phi F k := by unfold lim phi; omega
    have e2 : lim ((L.getD k 0 : Nat) : Int) 0 15 = ((L.getD k 0 : Nat) : Int) := by unfold lim; omega
    rw [e1, e2]
    simp
theorem cost_sum (F : List Int) (L : List Nat) (hlen : L.length = F.length) (hL : ∀ i, i < L.length → L.getD i 0 ≤ 15) : cost F (zI L) = ((List.range F.length).map (fun i => phi F i * ((L.getD i 0 : Nat) : Int))).sum := by
  unfold cost
  rw [zI_len, hlen, Nat.min_self, cs_sum F L hL _ (by omega)]
theorem optimal {F : List Int} {L : List Nat} {M : Nat} (h : Serves F L M) (h1 : 1 ≤ M) (hM : M ≤ 15) : cost F (zI (lensN F M)) ≤ cost F (zI L) := by
  have hc := h.card hM
  rw [cost_sum F L h.len (fun i hi => by have := h.le i hi; omega), cost_sum F (lensN F M) (lensN_len F M) (fun i hi => by rw [lensN_len] at hi; have := lensN_le F M h1 hc i hi; omega)]
  by_cases h2 : (leavesAt F 0).length < 2
  · refine sumZ_le _ fun i hi => ?_
    have hi := List.mem_range.1 hi
    rw [lensN_get F M i hi, if_pos h2]
    have hp := phi_bd F i
    refine Int.mul_le_mul_of_nonneg_left ?_ hp.1
    split
    · rename_i h0
      have := h.pos i hi h0
      omega
    · omega
  obtain ⟨S, hS⟩ : ∃ S, S = packs (leavesAt F 0) := ⟨_, rfl⟩
  have hperm : S.Perm (leavesAt F 0) := hS ▸ packs_perm _
  have hlen := hperm.length_eq
  obtain ⟨hw, _, _, _⟩ := top_facts F (M - 1) (by omega) (by rw [show M - 1 + 1 = M by omega]; exact hc)
  have hmem : ∀ x ∈ S, ∃ i, x.s = [i] ∧ i < F.length ∧ x.w = phi F i ∧ 0 < x.w := by
    intro x hx
    obtain ⟨i, a1, a2, a3, a4, _⟩ := leaves_one F 0 x (hperm.mem_iff.1 hx)
    exact ⟨i, by rw [a1, Nat.zero_add], a2, a3, a4⟩
  have hfst : (S.map (fun p => (p, L.getD (p.s.headD 0) 0))).map (·.1) = S := by
    rw [List.map_map]
    exact List.map_id' S
  have ho := opt (S.map (fun p => (p, L.getD (p.s.headD 0) 0))) (M - 1) (by rw [hfst, hS]; exact packs_srt _) (by
      rw [hfst]
      intro x hx
      obtain ⟨_, _, _, _, h4⟩ := hmem x hx
      exact h4) (by
      intro x hx
      obtain ⟨p, hp, rfl⟩ := List.mem_map.1 hx
      obtain ⟨i, a1, a2, _⟩ := hmem p hp
      have := h.le i (by rw [h.len]; exact a2)
      simp only [a1, List.headD_cons]
      omega) (by rw [List.length_map]; omega) (by
      rw [show M - 1 + 1 = M by omega]
      unfold kraftS
      rw [List.map_map]
      have e := sumN_perm (hperm.map (fun p => 2 ^ (M - L.getD (p.s.headD 0) 0)))
      have e2 : (leavesAt F 0).map (fun p => 2 ^ (M - L.getD (p.s.headD 0) 0)) = (usedAt F 0).map (fun i => 2 ^ (M - L.getD i 0)) := by
        rw [← leaves_head, List.map_map]
        rfl
      rw [e2] at e
      show (S.map (fun p => 2 ^ (M - L.getD (p.s.headD 0) 0))).sum ≤ 2 ^ M
      rw [e]
      exact h.sum hM)
  rw [hfst, List.length_map, hlen] at ho
  have hcost : costS (S.map (fun p => (p, L.getD (p.s.headD 0) 0))) = ((List.range F.length).map (fun i => phi F i * ((L.getD i 0 : Nat) : Int))).sum := by
    unfold costS
    rw [List.map_map]
    have e := sumZ_perm (hperm.map (fun p => p.w * ((L.getD (p.s.headD 0) 0 : Nat) : Int)))
    have e2 : (leavesAt F 0).map (fun p => p.w * ((L.getD (p.s.headD 0) 0 : Nat) : Int)) = (usedAt F 0).map (fun i => phi F i * ((L.getD i 0 : Nat) : Int)) := by
      rw [← leaves_head, List.map_map]
      refine List.map_congr_left fun p hp => ?_
      obtain ⟨i, a1, _, a3, _⟩ := hmem p (hperm.mem_iff.2 hp)
      simp only [Function.comp, a1, a3, List.headD_cons]
    rw [e2, used_sumZ] at e
    refine e.trans ?_
    congr 1
    refine List.map_congr_left fun i hi => ?_
    rw [Nat.zero_add]
    split
    · rfl
    · rename_i h0
      rw [show phi F i = 0 by unfold phi; omega, Int.zero_mul]
  have htop : wsum ((lev S (M - 1)).take (2 * (leavesAt F 0).length - 2)) = ((List.range F.length).map (fun i => phi F i * (((lensN F M).getD i 0 : Nat) : Int))).sum := by
    rw [wsum_syms F _ (fun x hx => wt_lev F S (fun y hy => wt_leaf F y (hperm.mem_iff.1 hy)) _ x (List.mem_of_mem_take hx))]
    have e : syms ((lev S (M - 1)).take (2 * (leavesAt F 0).length - 2)) = top F (M - 1) := by rw [hS]; rfl
    rw [e, sum_count (phi F) F.length _ (fun x hx => by
      have h3 := (top_facts F (M - 1) (by omega) (by rw [show M - 1 + 1 = M by omega]; exact hc)).2.2.1 x
      have h4 := used_ge F 0 x (h3.2 (List.count_pos_iff.2 hx))
      omega)]
    congr 1
    refine List.map_congr_left fun i hi => ?_
    rw [lensN_get F M i (List.mem_range.1 hi), if_neg h2]
  rw [← htop, ← hcost]
  exact ho
end Go.Proofs.Ythmhcnnigepohaa

