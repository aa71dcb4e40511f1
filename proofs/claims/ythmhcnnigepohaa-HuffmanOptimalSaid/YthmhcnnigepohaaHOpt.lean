/-
  For all frequencies and lengths, no complete code is cheaper than Lengths' answer. Conditions: none.
  (The row's frame began as the shell that the seat's proof-skeleton.mjs writes.)
-/
import Derived.Test.YthmhcnnigepohaaArg
import Derived.WalkKit
import Derived.ProofKit
import Derived.OpenShut
import Derived.Deep.LoopGhost
import Derived.Test.YthmhcnnigepohaaLaw
namespace Go.Proofs.Ythmhcnnigepohaa.huffmanOptimal
open Go.ChangeShapes Go.WideShapes Go.ChangeAt Go.RowKit

theorem own : ownKnob Try.prog.godebug = none := by kernel_rfl

set_option maxRecDepth 100000 in
set_option maxHeartbeats 4000000 in
theorem walk_good (v0 : Value) (F : List Int) (v1 : Value) (L : List Nat) (w : World) (h0 : IR w v0 F) (h1 : IR w v1 (zI L)) (hL : ∀ x ∈ L, x ≤ 15) (hlen : L.length = F.length) (hF : F.length ≤ 20) (hkr : kr L ≤ 2 ^ 15) (hok : chk (zI L) = 0) :
    Calls Try.prog 9 #[v0, v1] w fun e w' => e = .returned (.bool true) ∧ Fr [] w w' := by
  have HI0 := hide h0
  have HI1 := hide h1
  obtain ⟨a0, c0, rfl, _⟩ := h0
  obtain ⟨a1, c1, rfl, _⟩ := h1
  rw [zI_len, hlen] at HI1 ⊢
  obtain ⟨n, hn⟩ : ∃ n, n = F.length := ⟨_, rfl⟩
  have HN := hide hn
  have HLEN := hide hlen
  rw [← hn] at HI0 HI1 hF ⊢
  have HKR := hide hkr
  have HOK := hide hok
  have HLIM : Hid (∀ k, k < n → L.getD k 0 ≤ 15) := by
    show ∀ k, _ → _
    intro k hk
    have e : L.getD k 0 = L[k]'(by omega) := by simp [List.getD, List.getElem?_eq_getElem (show k < L.length by omega)]
    rw [e]; exact hL _ (List.getElem_mem _)
  clear hn hL hlen hkr hok
  go_enter Try.func9, Try.ntmps9
  go_wp2_with fail
  refine (lives_any _).mono ?_
  rintro e w1 ⟨rfl, hf⟩
  have HF := hide hf
  have hck := check11_any _ (zI L) w1 (HI1.out.fr hf) (by rw [zI_len]; have := HLEN.out; have := HN.out; omega)
  rw [HOK.out] at hck
  have H1 := hide hck
  have HC : Hid (∀ k, k < n → ∃ x y, a0 = some x ∧ a1 = some y ∧ (x.add k).block < w1.heap.size ∧ (y.add k).block < w1.heap.size ∧ w1.cell? (x.add k) = some (.int .i64 (F.getD k 0)) ∧ w1.cell? (y.add k) = some (.int .i64 ((L.getD k 0 : Nat) : Int))) := by
    show ∀ k, _ → _
    intro k hk
    obtain ⟨b1, p1, q1, r1⟩ := HI0.out.fr hf
    obtain ⟨b2, p2, q2, r2⟩ := HI1.out.fr hf
    injection q1 with q1 _ _
    injection q2 with q2 _ _
    obtain ⟨x, x1, x2⟩ := r1 k (by have := HN.out; omega)
    obtain ⟨y, y1, y2⟩ := r2 k (by rw [zI_len]; have := HN.out; have := HLEN.out; omega)
    rw [zI_get] at y2
    exact ⟨x, y, by rw [q1, x1], by rw [q2, y1], World.block_lt_of_cell? w1 _ x2, World.block_lt_of_cell? w1 _ y2, x2, y2⟩
  clear hf hck
  go_wp2_with fail
  refine (unhide H1).mono ?_
  rintro e w1 ⟨rfl, rfl⟩
  go_wp2_with fail
  go_loopg [5, 6] (n + 1) (fun gk m i wr => ∃ (k t : Nat), gk = n + 1 - k ∧ k ≤ n ∧ i = .int .i64 k ∧ m = .int .i64 t ∧ 1 ≤ t ∧ t ≤ 15 ∧ (∀ j, j < k → L.getD j 0 ≤ t ∧ (0 < F.getD j 0 → 0 < L.getD j 0)) ∧ wr = w1)
  case atStart => exact ⟨0, 1, rfl, by omega, rfl, rfl, by omega, by omega, fun j hj => by omega, rfl⟩
  case round =>
    obtain ⟨k, t, hgk, hk, rfl, rfl, ht1, ht2, hall, rfl⟩ := hrel
    have HGK := hide hgk
    have HALL := hide hall
    clear hgk hall
    by_cases hlt : k < n
    · obtain ⟨x1, y1, rfl, rfl, hxb, hyb, hx, hy⟩ := HC.out k hlt
      have hy15 := HLIM.out k hlt
      obtain ⟨f, hf⟩ : ∃ y, y = F.getD k 0 := ⟨_, rfl⟩
      obtain ⟨y, hyd⟩ : ∃ y, y = L.getD k 0 := ⟨_, rfl⟩
      have HFD := hide hf
      have HYD := hide hyd
      rw [← hf] at hx
      rw [← hyd] at hy hy15
      have b0 : (0 : Int) ≤ (k : Int) ∧ (k : Int) < (n : Int) := by omega
      clear hf hyd
      by_cases hbad : 0 < f ∧ y = 0
      · obtain ⟨hf0, rfl⟩ := hbad
        go_wp2
        go_ret
        exact ⟨rfl, HF.out⟩
      · have HB := hide hbad
        have hnext : Hid (∀ t2 : Nat, t ≤ t2 → y ≤ t2 → ∀ j, j < k + 1 → L.getD j 0 ≤ t2 ∧ (0 < F.getD j 0 → 0 < L.getD j 0)) := hide (by
          intro t2 h1 h2 j hj
          by_cases hjk : j = k
          · subst hjk
            rw [← HYD.out, ← HFD.out]
            exact ⟨h2, fun h3 => by have := HB.out; omega⟩
          · have := HALL.out j (by omega)
            exact ⟨by omega, this.2⟩)
        by_cases hf0 : 0 < f
        · have g1 : ((y : Int) == 0) = false := by simp; omega
          clear hbad
          by_cases hty : t ≤ y
          · have m1 : max (t : Int) (y : Int) = (y : Int) := by omega
            go_wp2
            all_goals
              go_roundg (n + 1 - (k + 1))
              case measure => have := HGK.out; omega
              case rel => exact ⟨k + 1, y, rfl, by omega, by go_num, by first | rfl | (congr 1; omega), by omega, by omega, hnext.out y hty (Nat.le_refl _), rfl⟩
          · have m1 : max (t : Int) (y : Int) = (t : Int) := by omega
            go_wp2
            all_goals
              go_roundg (n + 1 - (k + 1))
              case measure => have := HGK.out; omega
              case rel => exact ⟨k + 1, t, rfl, by omega, by go_num, by first | rfl | (congr 1; omega), by omega, by omega, hnext.out t (Nat.le_refl _) (by omega), rfl⟩
        · clear hbad
          by_cases hty : t ≤ y
          · have m1 : max (t : Int) (y : Int) = (y : Int) := by omega
            go_wp2
            all_goals
              go_roundg (n + 1 - (k + 1))
              case measure => have := HGK.out; omega
              case rel => exact ⟨k + 1, y, rfl, by omega, by go_num, by first | rfl | (congr 1; omega), by omega, by omega, hnext.out y hty (Nat.le_refl _), rfl⟩
          · have m1 : max (t : Int) (y : Int) = (t : Int) := by omega
            go_wp2
            all_goals
              go_roundg (n + 1 - (k + 1))
              case measure => have := HGK.out; omega
              case rel => exact ⟨k + 1, t, rfl, by omega, by go_num, by first | rfl | (congr 1; omega), by omega, by omega, hnext.out t (Nat.le_refl _) (by omega), rfl⟩
    · obtain rfl : k = n := by omega
      have HSV : Hid (Serves F L t) := hide (by
        have h1 := HLEN.out
        have h2 := HN.out
        exact ⟨h1, fun i hi => (HALL.out i (by omega)).1, fun i hi h => (HALL.out i (by omega)).2 h, HKR.out⟩)
      have elim : (lim (t : Int) 1 15).toNat = t := by unfold lim; omega
      have hlo := lensOf_eq F t (by have := HN.out; omega) (by rw [elim]; exact HSV.out.card ht2)
      rw [elim] at hlo
      have h18 := lengths18_any _ F (t : Int) wr (HI0.out.fr HF.out) (by have := HN.out; omega)
      rw [hlo] at h18
      have H18 := hide h18
      clear elim hlo h18
      go_wp2_with fail
      refine (unhide H18).mono ?_
      rintro e w3 ⟨v, rfl, hi, hf⟩
      have HF3 := hide (HF.out.trans hf)
      have HI3 := hide hi
      obtain ⟨av, cv, hv, _⟩ := hi
      rw [zI_len, lensN_len, ← HN.out] at hv
      subst hv
      have hlk : (zI (lensN F t)).length ≤ 100000 := by rw [zI_len, lensN_len]; have := HN.out; omega
      have hc2 := check11_any _ _ w3 HI3.out hlk
      rw [chk_lensN F t ht1 ht2 (by have := HN.out; omega) (HSV.out.card ht2)] at hc2
      have H11 := hide hc2
      have H16 := hide (cost16_any _ _ F _ w3 (HI0.out.fr HF3.out) HI3.out (by have := HN.out; omega) hlk)
      have HOPT := hide (optimal HSV.out ht1 ht2)
      have HLK := hide hlk
      clear hf hlk hc2
      go_wp2_with fail
      refine (unhide H11).mono ?_
      rintro e w3 ⟨rfl, rfl⟩
      go_wp2_with fail
      refine (unhide H16).mono ?_
      rintro e w4 ⟨rfl, hf4⟩
      have HF4 := hide (HF3.out.trans hf4)
      have H16b := hide (cost16_any _ _ F (zI L) w4 (HI0.out.fr HF4.out) (HI1.out.fr HF4.out) (by have := HN.out; omega) (by rw [zI_len]; have := HLEN.out; have := HN.out; omega))
      have hopt := HOPT.out
      obtain ⟨p, hp⟩ : ∃ p, p = cost F (zI (lensN F t)) := ⟨_, rfl⟩
      obtain ⟨q, hq⟩ : ∃ p, p = cost F (zI L) := ⟨_, rfl⟩
      rw [← hq] at H16b hopt
      rw [← hp] at hopt ⊢
      clear hf4 hp hq
      go_wp2_with fail
      refine (unhide H16b).mono ?_
      rintro e w5 ⟨rfl, hf5⟩
      have HF5 := hide (HF4.out.trans hf5)
      clear hf5
      go_wp2
      go_ret
      exact ⟨rfl, HF5.out⟩

set_option maxRecDepth 100000 in
set_option maxHeartbeats 2000000 in
theorem walk (v0 : Value) (f : List Int) (v1 : Value) (l : List Int) (w : World) (hev0 : IR w v0 f ∧ f.length ≤ 9223372036854775807) (hev1 : IR w v1 l ∧ l.length ≤ 9223372036854775807) :
    Calls Try.prog 9 #[v0, v1] w fun e w' => e = .returned (.bool true) ∧ Fr [] w w' := by
  obtain ⟨h0, hL0⟩ := hev0
  obtain ⟨h1, hL1⟩ := hev1
  by_cases hgood : f.length ≤ 20 ∧ l.length = f.length ∧ chk l = 0
  · obtain ⟨hf20, hle, hok⟩ := hgood
    obtain ⟨L, rfl, hL, hlen, hks⟩ := chk_ok (.inl hok)
    rw [ks_all L hL] at hks
    rw [zI_len] at hle
    exact walk_good v0 f v1 L w h0 h1 hL hle hf20 (by omega) hok
  have HI1 := hide h1
  obtain ⟨a0, c0, rfl, _⟩ := h0
  obtain ⟨a1, c1, rfl, _⟩ := h1
  obtain ⟨n, hn⟩ : ∃ n, n = f.length := ⟨_, rfl⟩
  obtain ⟨m, hm⟩ : ∃ n, n = l.length := ⟨_, rfl⟩
  obtain ⟨q, hq⟩ : ∃ q, q = chk l := ⟨_, rfl⟩
  rw [← hn, ← hm, ← hq] at hgood
  rw [← hn] at hL0 ⊢
  rw [← hm] at hL1 HI1 ⊢
  have HM := hide hm
  have HQ := hide hq
  clear hn hm hq
  by_cases hbig : 20 < n
  · clear hgood
    go_enter Try.func9, Try.ntmps9
    go_wp2_with fail
    refine (lives_any _).mono ?_
    rintro e w1 ⟨rfl, hf⟩
    have HF := hide hf
    clear hf
    go_wp2
    go_ret
    exact ⟨rfl, HF.out⟩
  by_cases hne : m = n
  · subst hne
    have d1 : (q != 0) = true := by simp; omega
    clear hgood
    go_enter Try.func9, Try.ntmps9
    go_wp2_with fail
    refine (lives_any _).mono ?_
    rintro e w1 ⟨rfl, hf⟩
    have HF := hide hf
    have H1 := hide (check11_any _ l w1 (HI1.out.fr hf) (by have := HM.out; omega))
    rw [← HQ.out] at H1
    clear hf
    go_wp2_with fail
    refine (unhide H1).mono ?_
    rintro e w1 ⟨rfl, rfl⟩
    go_wp2
    go_ret
    exact ⟨rfl, HF.out⟩
  · have d1 : ((m : Int) != (n : Int)) = true := by simp; omega
    clear hgood
    go_enter Try.func9, Try.ntmps9
    go_wp2_with fail
    refine (lives_any _).mono ?_
    rintro e w1 ⟨rfl, hf⟩
    have HF := hide hf
    clear hf
    go_wp2
    go_ret
    exact ⟨rfl, HF.out⟩
/-! ### The row -/
set_option maxRecDepth 100000 in
theorem lifted (os : Os) (started : os.Started) (H : Type) (enc : TypeId × Value → H) :
    ReturnsInHanded {} Try.checked os 9 .any (Rows.huffmanOptimalSpec.pre6 enc Try.prog Try.f9 Rows.huffmanOptimalRow.domain false) (Rows.huffmanOptimalSpec.post enc Try.prog Try.f9 false true false false) := by
  refine returnsInHanded_of_change (C := Try.checked) own started (by kernel_rfl) Try.func9
    (ChangeSpec.witness6 (enc := enc) (C := Try.checked) false ⟨#[], #[.slice none 0 0, .slice none 0 0], []⟩ 8 (by kernel_rfl) (by kernel_rfl) (by kernel_rfl) (by kernel_rfl)) ?_
  intro W base args ds gs before hval0 hW hcnd _
  have hval : ∀ (j : Nat) t v, Try.f9.params[j]? = some t → args[j]? = some v → Value.okWide Try.prog W .any base t v := hval0
  have hW' := hW
  obtain ⟨p, q, hA0, hV, rfl, hfz, hnd⟩ := hW
  have hA : DataW.TrodAll enc Try.prog W 0 (fun _ => true) true Try.f9.params.toList args.toList ds p := hA0
  rw [Try.params9] at hA hval
  obtain ⟨v0, vs0, d0, ds0, p0, q0, hargs, rfl, rfl, h0, r0⟩ := trodAll_cons hA
  obtain ⟨v1, vs1, d1, ds1, p1, q1, rfl, rfl, rfl, h1, r1⟩ := trodAll_cons r0
  obtain ⟨rfl, rfl, rfl⟩ := trodAll_nil r1
  obtain rfl : args = #[v0, v1] := by cases args; simp_all
  obtain ⟨rfl, rfl⟩ := trodVars_none hV
  have h0k := h0
  obtain ⟨l0, hev0⟩ := open_ints22 (hval 0 22 v0 rfl rfl) h0
  have h1k := h1
  obtain ⟨l1, hev1⟩ := open_ints22 (hval 1 22 v1 rfl rfl) h1
  clear hA0 hval0
  simp only [List.append_nil] at hW'
  refine (walk v0 l0 v1 l1 W hev0 hev1).mono fun e W' ⟨he, hg⟩ => ?_
  subst he
  exact ⟨_, rfl, _, _, _, [], _, [], hW', (trodAll_cons_mk (shut_bool Try.underlying4 _) trodAll_mk0), (trodAll_cons_mk (Below.trod laid read22 row22 h0k hg.below (fun x hx => by simpa using hW'.lt x (by simp [hx]))) (trodAll_cons_mk (Below.trod laid read22 row22 h1k hg.below (fun x hx => by simpa using hW'.lt x (by simp [hx]))) trodAll_mk0)), rfl, hg.below.frame _, fun h => by cases h⟩

theorem over : Rows.huffmanOptimalRow.holds Try.pinned (OpenSpec.ofChange Rows.huffmanOptimalSpec) :=
  OpenClaim.holds_of_wide 9 Try.f9 rfl rfl rfl rfl rfl rfl rfl ⟨rfl, rfl, rfl, rfl, rfl⟩ rfl rfl rfl rfl rfl (by kernel_rfl) Try.func9 (by kernel_rfl)
    (of_decide_eq_true (by kernel_rfl)) (by unfold Func.isWrapper; first | (rw [if_pos (by decide +kernel)]; kernel_rfl) | (rw [if_neg (by decide +kernel)]; exact ⟨rfl, rfl⟩))
    (fun os started H enc _ => lifted os started H enc)

theorem proved : Rows.HuffmanOptimalSaid :=
  over
#print axioms proved
end Go.Proofs.Ythmhcnnigepohaa.huffmanOptimal

