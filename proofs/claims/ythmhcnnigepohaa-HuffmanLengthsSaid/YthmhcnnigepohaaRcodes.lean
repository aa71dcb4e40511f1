/- Codes: in the reference. -/
import Derived.Test.YthmhcnnigepohaaCodes
namespace Go.Proofs.Ythmhcnnigepohaa
open Go.RowKit

/-- What is filled in: all shorter codes, and those of length s of the first k. -/
def og (L : List Nat) (s k i : Nat) : Int := if (0 < L.getD i 0 ∧ L.getD i 0 < s) ∨ (L.getD i 0 = s ∧ i < k) then (code L i : Int) else 0
theorem og_next {L : List Nat} {s : Nat} (i : Nat) (hs : 0 < s) (hi : i < L.length) : og L s L.length i = og L (s + 1) 0 i := by
  unfold og
  by_cases h : (0 < L.getD i 0 ∧ L.getD i 0 < s) ∨ (L.getD i 0 = s ∧ i < L.length)
  · rw [if_pos h, if_pos (by omega)]
  · rw [if_neg h, if_neg (by omega)]
theorem og_last {L : List Nat} (hL : ∀ k, k < L.length → L.getD k 0 ≤ 15) (i : Nat) (hi : i < L.length) : og L 16 0 i = (code L i : Int) := by
  unfold og
  have := hL i hi
  by_cases h : L.getD i 0 = 0
  · rw [if_neg (by omega)]
    unfold code
    rw [if_pos h]; rfl
  · rw [if_pos (by omega)]
theorem og_first (L : List Nat) (i : Nat) : og L 1 0 i = 0 := by
  unfold og
  rw [if_neg (by omega)]

/-- IPost, and the list is new. -/
def IPostN (l : List Int) (w : World) (e : Ending) (w' : World) : Prop := ∃ v, e = .returned v ∧ IR w' v l ∧ Fr [] w w' ∧ ∀ x n c, v = .slice (some x) n c → w.heap.size ≤ x.block

set_option maxRecDepth 100000 in
set_option maxHeartbeats 2000000 in
theorem rcodes15_new (v : Value) (l : List Int) (w : World) (h : IR w v l) (hl : l.length ≤ 1000) :
    Calls Try.prog 15 #[v] w (IPostN (codesOf l) w) := by
  have HI := hide h
  have HCHK := hide (rcheck12_any v l w h (by omega))
  obtain ⟨c, hc⟩ : ∃ c, c = chk l := ⟨_, rfl⟩
  rw [← hc] at HCHK
  by_cases hok : c = 0 ∨ c = 1
  · obtain ⟨L, rfl, hL, hlen, hks⟩ := chk_ok (by rw [← hc]; exact hok)
    have hco : codesOf (zI L) = (List.range L.length).map (fun i => (code L i : Int)) := by
      unfold codesOf
      rw [if_pos (by rw [← hc]; exact hok), zI_nat, zI_len]
    rw [hco]
    obtain ⟨a, cap, rfl, _⟩ := h
    rw [zI_len] at HI HCHK ⊢
    obtain ⟨n, hn⟩ : ∃ n, n = L.length := ⟨_, rfl⟩
    have HC : Hid (∀ (k : Nat) (W : World), k < n → Fr [] w W → ∃ x, a = some x ∧ W.cell? (x.add k) = some (.int .i64 (L.getD k 0 : Nat))) := by
      show ∀ (k : Nat) (W : World), _ → _ → _
      intro k W hk hW
      obtain ⟨b0, c0', e0, g0⟩ := HI.out.fr hW
      injection e0 with e0 _ _
      obtain ⟨x, hx, hx2⟩ := g0 k (by rw [zI_len]; omega)
      rw [zI_get] at hx2
      exact ⟨x, by rw [e0, hx], hx2⟩
    rw [← hn] at hlen HI HCHK ⊢
    have HN := hide hn
    have HL : Hid (∀ k, k < n → L.getD k 0 ≤ 15) := by
      show ∀ k, _ → _
      intro k hk
      have e : L.getD k 0 = L[k] := by simp [List.getD, List.getElem?_eq_getElem (show k < L.length by omega)]
      rw [e]; exact hL _ (List.getElem_mem _)
    have HLL := hide hL
    have hmk := fun w => mk_ints n (by omega) w
    have HCC := hide hc
    clear hn HI hL hks hco hc
    go_enter Try.func15, Try.ntmps15
    rcases hok with rfl | rfl
    all_goals
      go_wp2_with fail
      refine (unhide HCHK).mono ?_
      rintro e w1 ⟨rfl, rfl⟩
      go_wp2_with fail
      obtain ⟨O, hO⟩ : ∃ O, O = w.heap.size := ⟨_, rfl⟩
      have HO0 : Hid (Ar (w.alloc (.cells (madeCells #[.int .i64 0] n) 3)) O 3 n (fun _ => 0)) := hide (by rw [hO]; exact made_ar n w)
      have HF0 := hide ((Fr.refl [] w).alloc (.cells (madeCells #[.int .i64 0] n) 3))
      have HNW : Hid (w.heap.size ≤ O) := hide (by omega)
      rw [← hO]
      clear hO hmk
      generalize w.alloc (.cells (madeCells #[.int .i64 0] n) 3) = w2 at *
      go_loopg [5, 6] 17 (fun gk nv i wr => ∃ (s : Nat) (x : Nat), gk = 18 - s ∧ 1 ≤ s ∧ s ≤ 16 ∧ i = .int .i64 s ∧ nv = .int .i64 x ∧ x = fst L (s - 1) + cnt L (s - 1) ∧ Ar wr O 3 n (og L s 0) ∧ Fr [] w wr)
      case atStart => exact ⟨1, 0, rfl, by omega, by omega, rfl, rfl, by simp [fst, cnt], HO0.out.ext (fun i _ => (og_first L i).symm), HF0.out⟩
      case round =>
        obtain ⟨s, nx0, hgk, hs1, hs, rfl, rfl, hnx, ho, hf⟩ := hrel
        have HGK := hide hgk
        have HO := hide ho
        have HF := hide hf
        by_cases hlt : s < 16
        · have hxb : 2 * nx0 = fst L s := by
            obtain ⟨j, rfl⟩ : ∃ j, s = j + 1 := ⟨s - 1, by omega⟩
            rw [fst, ← show j + 1 - 1 = j by omega, ← hnx]; omega
          have hfb := fst_le HLL.out s (by omega)
          have hnn := HN.out
          have hxb2 : nx0 ≤ 10000000 := by omega
          have HXB := hide hxb
          obtain ⟨wo, rfl⟩ : ∃ wo : World, wo = wr := ⟨_, rfl⟩
          have HFB : Hid (fst L s ≤ 10000000) := hide (by omega)
          have hds : decide ((s : Int) ≤ 15) = true := by simp; omega
          clear hgk hnx ho hf hxb hfb hnn
          go_wp2_with fail
          go_loopg [5, 7] (n + 1) (fun gk nv i wr => ∃ (k x : Nat), gk = n + 1 - k ∧ k ≤ n ∧ i = .int .i64 k ∧ nv = .int .i64 x ∧ x = fst L s + pre L s k ∧ Ar wr O 3 n (og L s k) ∧ Fr [] w wr)
          case atStart => exact ⟨0, 2 * nx0, rfl, by omega, rfl, by go_num, by rw [HXB.out]; simp [pre], HO.out, HF.out⟩
          case round =>
            obtain ⟨k, x, hgk, hk, rfl, rfl, hx, ho, hf⟩ := hrel
            have HGM := hide hgk
            have HX := hide hx
            have HO := hide ho
            have HF := hide hf
            have hxb : x ≤ 10001000 := by
              have h1 := HFB.out
              have h2 : pre L s k ≤ n := by
                unfold pre
                have h3 := List.count_le_length (a := s) (l := L.take k)
                simp at h3
                have := HN.out
                omega
              omega
            clear hgk hx
            by_cases hlt2 : k < n
            · obtain ⟨ad, rfl, hx⟩ := HC.out k wr hlt2 hf
              have hadb := World.block_lt_of_cell? wr _ hx
              obtain ⟨y, hy⟩ : ∃ y, y = L.getD k 0 := ⟨_, rfl⟩
              rw [← hy] at hx
              have HY := hide hy
              have HPRE : Hid (pre L s (k + 1) = pre L s k + if y = s then 1 else 0) := by
                show _ = _
                unfold pre
                rw [take_get (by have := HN.out; omega), List.count_append, List.count_singleton, ← hy]
                by_cases he : y = s <;> simp [he]
              by_cases he : y = s
              · subst he
                have hoc := ho.cell (i := k) hlt2
                have hofz := ho.froz k
                have hOl := ho.lt
                have b1 : (0 : Int) ≤ (k : Int) ∧ (k : Int) < (n : Int) := by omega
                clear hy ho hf
                go_wp2_with fail
                go_roundg (n + 1 - (k + 1))
                case measure => have := HGM.out; omega
                case rel =>
                  refine ⟨k + 1, x + 1, rfl, by omega, by go_num, by go_num, ?_, ?_, HF.out.setCell (.inr (by have := HNW.out; simp; omega)) _⟩
                  · rw [HPRE.out, HX.out]; simp; omega
                  · refine (HO.out.set (m := k) hlt2 x).ext fun i hi => ?_
                    by_cases he : i = k
                    · subst he
                      simp only [if_true]
                      unfold og
                      rw [if_pos (by have := HY.out; omega)]
                      unfold code
                      rw [← HY.out, if_neg (by omega), HX.out]
                    · simp only [if_neg he]
                      unfold og
                      by_cases h1 : (0 < L.getD i 0 ∧ L.getD i 0 < y) ∨ (L.getD i 0 = y ∧ i < k)
                      · rw [if_pos h1, if_pos (by omega)]
                      · rw [if_neg h1, if_neg (by omega)]
              · have hne : ((y : Int) == (s : Int)) = false := by simp; omega
                clear hy ho hf
                go_wp2_with fail
                go_roundg (n + 1 - (k + 1))
                case measure => have := HGM.out; omega
                case rel =>
                  refine ⟨k + 1, x, rfl, by omega, by go_num, rfl, ?_, HO.out.ext fun i hi => ?_, HF.out⟩
                  · rw [HPRE.out, HX.out, if_neg he]; omega
                  · unfold og
                    by_cases hik : i = k
                    · subst hik
                      have := HY.out
                      by_cases h1 : (0 < L.getD i 0 ∧ L.getD i 0 < s) ∨ (L.getD i 0 = s ∧ i < i)
                      · rw [if_pos h1, if_pos (by omega)]
                      · rw [if_neg h1, if_neg (by omega)]
                    · by_cases h1 : (0 < L.getD i 0 ∧ L.getD i 0 < s) ∨ (L.getD i 0 = s ∧ i < k)
                      · rw [if_pos h1, if_pos (by omega)]
                      · rw [if_neg h1, if_neg (by omega)]
            · obtain rfl : k = n := by omega
              clear ho hf
              go_wp2_with fail
              go_roundg (18 - (s + 1))
              case measure => have := HGK.out; omega
              case rel =>
                refine ⟨s + 1, x, rfl, by omega, by omega, by go_num, rfl, ?_, HO.out.ext fun i hi => ?_, HF.out⟩
                · rw [HX.out, show s + 1 - 1 = s by omega, HN.out]
                  unfold pre cnt
                  rw [List.take_length, if_neg (by omega)]
                · have h1 := og_next (L := L) (s := s) i (by omega) (by have := HN.out; omega)
                  rw [← HN.out] at h1
                  exact h1
        · obtain rfl : s = 16 := by omega
          have HRES : Hid (IR wr (.slice (some ⟨O, 0, none⟩) n n) ((List.range n).map (fun i => (code L i : Int)))) := hide ((ho.ext (fun i hi => og_last (fun k hk => HL.out k (by have := HN.out; omega)) i (by have := HN.out; omega))).ints)
          clear ho hf hnx
          go_wp2
          go_ret
          exact ⟨_, rfl, HRES.out, HF.out, fun x n c hx => by injection hx with hx _ _; injection hx with hx; subst hx; exact HNW.out⟩
  · have hco : codesOf l = [] := by unfold codesOf; rw [if_neg (by rw [← hc]; exact hok)]
    rw [hco]
    obtain ⟨a, cap, rfl, _⟩ := h
    have d1 : (c != 0) = true := by simp; omega
    have d2 : (c != 1) = true := by simp; omega
    clear hc hco hok
    go_enter Try.func15, Try.ntmps15
    go_wp2_with fail
    refine (unhide HCHK).mono ?_
    rintro e w1 ⟨rfl, rfl⟩
    go_wp2
    go_ret
    exact ⟨_, rfl, IR.nil _, Fr.refl _ _, fun x n c hx => by injection hx with hx _ _; cases hx⟩
theorem rcodes15_any (v : Value) (l : List Int) (w : World) (h : IR w v l) (hl : l.length ≤ 1000) :
    Calls Try.prog 15 #[v] w (IPost (codesOf l) w) :=
  (rcodes15_new v l w h hl).mono fun _ _ ⟨v, h1, h2, h3, _⟩ => ⟨v, h1, h2, h3⟩
end Go.Proofs.Ythmhcnnigepohaa

