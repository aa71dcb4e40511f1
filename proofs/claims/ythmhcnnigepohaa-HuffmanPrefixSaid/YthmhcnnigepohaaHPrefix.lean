/-
  For all lengths, bits and symbols, a complete code decodes every bit and its own codes. Conditions: none.
  (The row's frame began as the shell that the seat's proof-skeleton.mjs writes.)
-/
import Derived.Test.YthmhcnnigepohaaArg
import Derived.WalkKit
import Derived.ProofKit
import Derived.OpenShut
import Derived.Deep.LoopGhost
import Derived.Test.YthmhcnnigepohaaPfx
namespace Go.Proofs.Ythmhcnnigepohaa.huffmanPrefix
open Go.ChangeShapes Go.WideShapes Go.ChangeAt Go.RowKit

theorem own : ownKnob Try.prog.godebug = none := by kernel_rfl

set_option maxRecDepth 100000 in
set_option maxHeartbeats 8000000 in
theorem walk_main (v0 : Value) (L : List Nat) (v1 : Value) (B : List Int) (v2 : Value) (T : List Int) (w : World) (h0 : IR w v0 (zI L)) (h1 : IR w v1 B) (h2 : IR w v2 T) (hL : ∀ x ∈ L, x ≤ 15) (hlen : L.length ≤ 60) (hB : B.length ≤ 200) (hT : T.length ≤ 30)
    (hgo : Good L) (hkr : kr L ≤ 2 ^ 15) (hok : chk (zI L) = 0) :
    Calls Try.prog 7 #[v0, v1, v2] w fun e w' => e = .returned (.bool true) ∧ Fr [] w w' := by
  have HI0 := hide h0
  have HI1 := hide h1
  have HI2 := hide h2
  obtain ⟨a0, c0, rfl, _⟩ := h0
  obtain ⟨a1, c1, rfl, _⟩ := h1
  obtain ⟨a2, c2, rfl, _⟩ := h2
  rw [zI_len] at HI0 ⊢
  obtain ⟨n, hn⟩ : ∃ n, n = L.length := ⟨_, rfl⟩
  obtain ⟨m, hm⟩ : ∃ n, n = B.length := ⟨_, rfl⟩
  obtain ⟨p, hp⟩ : ∃ n, n = T.length := ⟨_, rfl⟩
  have HN := hide hn
  have HM := hide hm
  have HP := hide hp
  rw [← hn] at hlen HI0 ⊢
  rw [← hm] at hB HI1 ⊢
  rw [← hp] at hT HI2 ⊢
  have HL := hide hL
  have HGO := hide hgo
  have HKR := hide hkr
  have HOK := hide hok
  have HC0 : Hid (∀ (k : Nat) (W : World), k < n → Fr [] w W → ∃ x, a0 = some x ∧ (x.add k).block < W.heap.size ∧ W.cell? (x.add k) = some (.int .i64 ((L.getD k 0 : Nat) : Int))) := by
    show ∀ (k : Nat) (W : World), _ → _ → _
    intro k W hk hW
    obtain ⟨b0, d0, e0, g0⟩ := HI0.out.fr hW
    injection e0 with e0 _ _
    obtain ⟨x, hx, hx2⟩ := g0 k (by rw [zI_len]; have := HN.out; omega)
    rw [zI_get] at hx2
    exact ⟨x, by rw [e0, hx], World.block_lt_of_cell? W _ hx2, hx2⟩
  have HC1 : Hid (∀ (k : Nat) (W : World), k < m → Fr [] w W → ∃ x, a1 = some x ∧ (x.add k).block < W.heap.size ∧ W.cell? (x.add k) = some (.int .i64 (B.getD k 0))) := by
    show ∀ (k : Nat) (W : World), _ → _ → _
    intro k W hk hW
    obtain ⟨b0, d0, e0, g0⟩ := HI1.out.fr hW
    injection e0 with e0 _ _
    obtain ⟨x, hx, hx2⟩ := g0 k (by have := HM.out; omega)
    exact ⟨x, by rw [e0, hx], World.block_lt_of_cell? W _ hx2, hx2⟩
  have HC2 : Hid (∀ (k : Nat) (W : World), k < p → Fr [] w W → ∃ x, a2 = some x ∧ (x.add k).block < W.heap.size ∧ W.cell? (x.add k) = some (.int .i64 (T.getD k 0))) := by
    show ∀ (k : Nat) (W : World), _ → _ → _
    intro k W hk hW
    obtain ⟨b0, d0, e0, g0⟩ := HI2.out.fr hW
    injection e0 with e0 _ _
    obtain ⟨x, hx, hx2⟩ := g0 k (by have := HP.out; omega)
    exact ⟨x, by rw [e0, hx], World.block_lt_of_cell? W _ hx2, hx2⟩
  clear hn hm hp hL hgo hkr hok
  go_enter Try.func7, Try.ntmps7
  go_wp2_with fail
  refine (lives_any _).mono ?_
  rintro e w1 ⟨rfl, hf⟩
  have HF := hide hf
  have H1 := hide (newdec20_any _ L w1 (HI0.out.fr hf) HL.out (by have := HN.out; omega) HOK.out)
  clear hf
  go_wp2_with fail
  refine (unhide H1).mono ?_
  rintro e w2 ⟨D, g, sv, rfl, hD, hdb, hna, hgb, hf2⟩
  have HS : Hid (Sure w L D g) := hide ⟨by have := HF.out.size; omega, fun b hb => (hgb b hb).2, HL.out, by have := HN.out; omega, HGO.out, HKR.out⟩
  have HO : Hid (One w L D g sv 0 0 w2) := hide ⟨hdb, hna, HF.out.trans hf2⟩
  clear H1 hD hdb hna hgb hf2
  go_wp2_with fail
  go_loopg [9, 10] (n + 1) (fun gk u i wr => ∃ k : Nat, gk = n + 1 - k ∧ k ≤ n ∧ i = .int .i64 k ∧ u = .int .i64 (us (zI L) k) ∧ wr = w2)
  case atStart => exact ⟨0, rfl, by omega, rfl, rfl, rfl⟩
  case round =>
    obtain ⟨k, hgk, hk, rfl, rfl, rfl⟩ := hrel
    have HGK := hide hgk
    have hub := us_bd (zI L) k
    have HUS := hide (show us (zI L) (k + 1) = us (zI L) k + (if 0 < (zI L).getD k 0 then 1 else 0) from rfl)
    clear hgk
    by_cases hlt : k < n
    · obtain ⟨x, rfl, hxb, hx⟩ := HC0.out k wr hlt HO.out.fr
      obtain ⟨u, hu⟩ : ∃ u, u = us (zI L) k := ⟨_, rfl⟩
      rw [zI_get] at HUS
      obtain ⟨y, hy⟩ : ∃ y, y = L.getD k 0 := ⟨_, rfl⟩
      rw [← hy] at hx HUS
      rw [← hu] at HUS hub ⊢
      have b0 : (0 : Int) ≤ (k : Int) ∧ (k : Int) < (n : Int) := by omega
      clear hy hu
      by_cases hy0 : 0 < y
      · go_wp2
        go_roundg (n + 1 - (k + 1))
        case measure => have := HGK.out; omega
        case rel => exact ⟨k + 1, rfl, by omega, by go_num, by rw [HUS.out, if_pos (by omega)], rfl⟩
      · obtain rfl : y = 0 := by omega
        go_wp2
        go_roundg (n + 1 - (k + 1))
        case measure => have := HGK.out; omega
        case rel => exact ⟨k + 1, rfl, by omega, by go_num, by rw [HUS.out, if_neg (by simp)]; go_num, rfl⟩
    · obtain rfl : k = n := by omega
      obtain ⟨u, hu⟩ : ∃ u, u = us (zI L) k := ⟨_, rfl⟩
      rw [← hu] at hub ⊢
      have HU := hide hu
      have HFULL : Hid (1 < u → kr L = 2 ^ 15) := hide (fun h => full HGO.out (by rw [← HN.out, ← HU.out]; exact h))
      clear hu
      obtain ⟨w2, rfl⟩ : ∃ x : World, x = wr := ⟨_, rfl⟩
      go_wp2_with fail
      go_loopg [11] (m + 1) (fun gk i wr => ∃ (j q c : Nat), gk = m + 1 - j ∧ j ≤ m ∧ i = .int .i64 j ∧ St L q c ∧ One w L D g sv q c wr)
      case atStart => exact ⟨0, 0, 0, rfl, by omega, rfl, st_zero L, HO.out⟩
      case round =>
        obtain ⟨j, q, c, hgj, hj, rfl, hst, hone⟩ := hrel
        have HGJ := hide hgj
        have HST := hide hst
        have HON := hide hone
        clear hgj hst hone
        by_cases hgo2 : j < m ∧ 1 < u
        · obtain ⟨hlt2, hu1⟩ := hgo2
          obtain ⟨x1, rfl, hxb, hx⟩ := HC1.out j wr hlt2 HON.out.fr
          obtain ⟨x, b, q', c', hst', hres, h22⟩ := HON.out.any HS.out (HFULL.out hu1) HST.out (B.getD j 0)
          obtain ⟨bit, hbit⟩ : ∃ y, y = B.getD j 0 := ⟨_, rfl⟩
          rw [← hbit] at hx h22
          have H22 := hide h22
          have HST2 := hide hst'
          have b0 : (0 : Int) ≤ (j : Int) ∧ (j : Int) < (m : Int) := by omega
          clear hbit h22 hst'
          rcases hres with ⟨rfl, hxl, hx0⟩ | ⟨rfl, rfl⟩
          · rw [← HN.out] at hxl
            go_wp2_with fail
            refine (unhide H22).mono ?_
            rintro e wa ⟨rfl, hda, hfa⟩
            have HNX := hide (HON.out.step HS.out hda hfa)
            obtain ⟨x0, rfl, hyb, hy⟩ := HC0.out x wa hxl HNX.out.fr
            obtain ⟨y, hyd⟩ : ∃ y, y = L.getD x 0 := ⟨_, rfl⟩
            rw [← hyd] at hy hx0
            have g1 : ((y : Int) == 0) = false := by simp; omega
            have b1 : (0 : Int) ≤ (x : Int) ∧ (x : Int) < (k : Int) := by omega
            clear hda hfa hyd hxb hx
            go_wp2_with fail
            go_roundg (m + 1 - (j + 1))
            case measure => have := HGJ.out; omega
            case rel => exact ⟨j + 1, q', c', rfl, by omega, by go_num, HST2.out, HNX.out⟩
          · go_wp2_with fail
            refine (unhide H22).mono ?_
            rintro e wa ⟨rfl, hda, hfa⟩
            have HNX := hide (HON.out.step HS.out hda hfa)
            clear hda hfa hxb hx
            go_wp2_with fail
            go_roundg (m + 1 - (j + 1))
            case measure => have := HGJ.out; omega
            case rel => exact ⟨j + 1, q', c', rfl, by omega, by go_num, HST2.out, HNX.out⟩
        · have hex : (j = m) ∨ (j < m ∧ u ≤ 1) := by omega
          have hc14 := codes14_any _ (zI L) wr (HI0.out.fr HON.out.fr) (by rw [zI_len]; have := HN.out; omega)
          rw [codesOf_ok (.inl HOK.out)] at hc14
          have H14 := hide hc14
          clear hgo2 hc14
          rcases hex with rfl | ⟨hjm, hu1⟩
          all_goals
            go_wp2_with fail
            refine (unhide H14).mono ?_
            rintro e w3 ⟨cv, rfl, hi, hf3⟩
            have HCI := hide hi
            have HF3 := hide (HON.out.fr.trans hf3)
            obtain ⟨ca, cc, hcv, _⟩ := hi
            rw [codesI_len, ← HN.out] at hcv
            subst hcv
            have H20 := hide (newdec20_any _ L w3 (HI0.out.fr HF3.out) HL.out (by have := HN.out; omega) HOK.out)
            clear hf3
            go_wp2_with fail
            refine (unhide H20).mono ?_
            rintro e w4 ⟨E, g2, sv2, rfl, hE, hdb, hna, hgb, hf4⟩
            have HS2 : Hid (Sure w L E g2) := hide ⟨by have := HF3.out.size; omega, fun b hb => (hgb b hb).2, HL.out, by have := HN.out; omega, HGO.out, HKR.out⟩
            have HO2 : Hid (One w L E g2 sv2 0 0 w4) := hide ⟨hdb, hna, HF3.out.trans hf4⟩
            have HIC := hide (HCI.out.away hf4 hE)
            have HCC : Hid (∀ (i : Nat) (W : World), i < k → Fr [E] w4 W → ∃ y, ca = some y ∧ (y.add i).block < W.heap.size ∧ W.cell? (y.add i) = some (.int .i64 ((code L i : Nat) : Int))) := by
              show ∀ (i : Nat) (W : World), _ → _ → _
              intro i W hi hW
              obtain ⟨b0, d0, e0, g0⟩ := HIC.out.fr hW
              injection e0 with e0 _ _
              obtain ⟨x, hx, _, hx2⟩ := g0 i (by rw [codesI_len]; have := HN.out; omega)
              rw [codesI_get L i (by have := HN.out; omega)] at hx2
              exact ⟨x, by rw [e0, hx], World.block_lt_of_cell? W _ hx2, hx2⟩
            clear hE hdb hna hgb hf4 H14 H20
            go_wp2_with fail
            go_loopg [18] (p + 1) (fun gk i wr => ∃ (t : Nat), gk = p + 1 - t ∧ t ≤ p ∧ i = .int .i64 t ∧ One w L E g2 sv2 0 0 wr ∧ Fr [E] w4 wr)
            case atStart => exact ⟨0, rfl, by omega, rfl, HO2.out, Fr.refl _ _⟩
            case round =>
              obtain ⟨t, hgt, ht, rfl, hone, hfe⟩ := hrel
              have HGT := hide hgt
              have HON2 := hide hone
              have HFE := hide hfe
              clear hgt hone hfe
              by_cases hlt3 : t < p
              · obtain ⟨x2, rfl, hxb, hx⟩ := HC2.out t wr hlt3 HON2.out.fr
                obtain ⟨s, hs⟩ : ∃ y, y = T.getD t 0 := ⟨_, rfl⟩
                rw [← hs] at hx
                have b0 : (0 : Int) ≤ (t : Int) ∧ (t : Int) < (p : Int) := by omega
                clear hs
                by_cases hs0 : s < 0
                · go_wp2_with fail
                  go_roundg (p + 1 - (t + 1))
                  case measure => have := HGT.out; omega
                  case rel => exact ⟨t + 1, rfl, by omega, by go_num, HON2.out, HFE.out⟩
                by_cases hsn : (k : Int) ≤ s
                · go_wp2_with fail
                  go_roundg (p + 1 - (t + 1))
                  case measure => have := HGT.out; omega
                  case rel => exact ⟨t + 1, rfl, by omega, by go_num, HON2.out, HFE.out⟩
                obtain ⟨i, rfl⟩ : ∃ i : Nat, s = (i : Int) := ⟨s.toNat, by omega⟩
                have hik : i < k := by omega
                have b1 : (0 : Int) ≤ (i : Int) ∧ (i : Int) < (k : Int) := by omega
                obtain ⟨x0, rfl, hyb, hy⟩ := HC0.out i wr hik HON2.out.fr
                obtain ⟨y, hyd⟩ : ∃ y, y = L.getD i 0 := ⟨_, rfl⟩
                rw [← hyd] at hy
                have HYD := hide hyd
                clear hyd hs0 hsn
                by_cases hy0 : y < 1
                · obtain rfl : y = 0 := by omega
                  go_wp2_with fail
                  go_roundg (p + 1 - (t + 1))
                  case measure => have := HGT.out; omega
                  case rel => exact ⟨t + 1, rfl, by omega, by go_num, HON2.out, HFE.out⟩
                have hcbd := code_bd HS2.out (s := i) (by have := HN.out; omega) (by have := HYD.out; omega)
                have HFIT : Hid (code L i < 2 ^ y) := hide (by rw [HYD.out]; exact code_fits HL.out HKR.out (by have := HN.out; omega) (by have := HYD.out; omega))
                obtain ⟨cd, hcd⟩ : ∃ c, c = code L i := ⟨_, rfl⟩
                have HCD := hide hcd
                rw [← hcd, ← HYD.out] at hcbd
                rw [← hcd] at HFIT
                have HIL : Hid (i < L.length) := hide (by have := HN.out; omega)
                clear hcd
                obtain ⟨wo, rfl⟩ : ∃ x : World, x = wr := ⟨_, rfl⟩
                have hy1 : 1 ≤ y := by omega
                have hyi : (1 : Int) ≤ (y : Int) := by omega
                have d1 : decide ((i : Int) < 0) = false := by simp
                have d2 : decide (k ≤ i) = false := by simp; omega
                have d3 : decide ((y : Int) < 1) = false := by simp; omega
                have d4 : decide (y < 1) = false := by simp; omega
                go_wp2_with fail
                clear hxb hx hyb
                go_loopg [20] (y + 1) (fun gk i wr => ∃ (r : Nat) (iv : Int), gk = r + 1 ∧ r ≤ y ∧ i = .int .i64 iv ∧ iv = (r : Int) - 1 ∧ One w L E g2 sv2 (if r = 0 then 0 else y - r) (if r = 0 then 0 else cd / 2 ^ r) wr ∧ Fr [E] w4 wr)
                case atStart =>
                  refine ⟨y, _, rfl, by omega, rfl, by first | rfl | go_num, ?_, HFE.out⟩
                  rw [if_neg (by omega), if_neg (by omega), Nat.sub_self, Nat.div_eq_of_lt HFIT.out]
                  exact HON2.out
                case round =>
                  obtain ⟨r, iv, hgr, hr, rfl, hiv, hone, hfe⟩ := hrel
                  have HGR := hide hgr
                  have HON3 := hide hone
                  have HFE3 := hide hfe
                  clear hgr hone hfe
                  by_cases hr0 : r = 0
                  · subst hr0
                    have hneg : iv < 0 := by omega
                    clear hiv
                    rw [if_pos rfl, if_pos rfl] at HON3
                    go_wp2_with fail
                    go_roundg (p + 1 - (t + 1))
                    case measure => have := HGT.out; omega
                    case rel => exact ⟨t + 1, rfl, by omega, by go_num, HON3.out, HFE3.out⟩
                  obtain ⟨tt, rfl⟩ : ∃ tt, r = tt + 1 := ⟨r - 1, by omega⟩
                  rw [if_neg (by omega), if_neg (by omega)] at HON3
                  obtain ⟨yc, rfl, hcb, hcell⟩ := HCC.out i wr hik HFE3.out
                  rw [← HCD.out] at hcell
                  by_cases ht0 : tt = 0
                  · subst ht0
                    obtain rfl : iv = 0 := by omega
                    have H22 := hide (HON3.out.last HS2.out HIL.out (by rw [← HYD.out]; omega) (by rw [HCD.out]) (cd : Int) (by rw [HCD.out]))
                    clear hiv hr0
                    go_wp2_with fail
                    refine (unhide H22).mono ?_
                    rintro e wa ⟨rfl, hda, hfa⟩
                    have HNX := hide (HON3.out.step HS2.out hda hfa)
                    have HFN := hide (HFE3.out.trans hfa)
                    clear hda hfa hcb hcell
                    go_wp2_with fail
                    go_roundg (0 + 1)
                    case measure => have := HGR.out; omega
                    case rel => exact ⟨0, _, rfl, by omega, rfl, by first | rfl | go_num, HNX.out, HFN.out⟩
                  · obtain rfl : iv = (tt : Int) := by omega
                    obtain ⟨qq, hqq⟩ : ∃ x : Nat, x = cd / 2 ^ tt := ⟨_, rfl⟩
                    have s5 : (cd : Int) / 2 ^ tt = (qq : Int) := by rw [hqq]; simp
                    have s3 : IntKind.u64.wrap (tt : Int) = (tt : Int) := by rw [IntWalk.u64_in _ (by omega)]
                    have g1 : ((tt : Int) == 0) = false := by simp; omega
                    have H22 := hide (HON3.out.more HS2.out HIL.out (show 0 < tt by omega) (by rw [← HYD.out]; omega) (by rw [HCD.out]) (qq : Int) (by rw [hqq, HCD.out]))
                    clear hiv hr0 hqq
                    go_wp2_with fail
                    refine (unhide H22).mono ?_
                    rintro e wa ⟨rfl, hda, hfa⟩
                    have HNX := hide (HON3.out.step HS2.out hda hfa)
                    have HFN := hide (HFE3.out.trans hfa)
                    rw [← HCD.out, show y - (tt + 1) + 1 = y - tt by omega] at HNX
                    clear hda hfa hcb hcell s5 s3
                    go_wp2_with fail
                    go_roundg (tt + 1)
                    case measure => have := HGR.out; omega
                    case rel =>
                      refine ⟨tt, _, rfl, by omega, rfl, by first | rfl | go_num, ?_, HFN.out⟩
                      rw [if_neg ht0, if_neg ht0]
                      exact HNX.out
              · obtain rfl : t = p := by omega
                go_wp2
                go_ret
                exact ⟨rfl, HON2.out.fr⟩

set_option maxRecDepth 100000 in
set_option maxHeartbeats 4000000 in
theorem walk_bad (a0 a1 a2 : Option Addr) (n m p c0 c1 c2 : Nat) (q : Int) (w : World) (hn : n ≤ 9223372036854775807) (hm : m ≤ 9223372036854775807) (hp : p ≤ 9223372036854775807) (hq : q ≠ 0)
    (H : Hid (∀ w', Fr [] w w' → Calls Try.prog 20 #[.slice a0 n c0] w' fun e w'' => e = .returned (.tuple #[.pointer none, .int .i64 q]) ∧ w' = w'')) :
    Calls Try.prog 7 #[.slice a0 n c0, .slice a1 m c1, .slice a2 p c2] w fun e w' => e = .returned (.bool true) ∧ Fr [] w w' := by
  have d1 : (q != 0) = true := by simpa using hq
  clear hq
  have hcs : 60 < n ∨ (n ≤ 60 ∧ 200 < m) ∨ (n ≤ 60 ∧ m ≤ 200 ∧ 30 < p) ∨ (n ≤ 60 ∧ m ≤ 200 ∧ p ≤ 30) := by omega
  rcases hcs with h1 | ⟨h1, h2⟩ | ⟨h1, h2, h3⟩ | ⟨h1, h2, h3⟩
  all_goals
    go_enter Try.func7, Try.ntmps7
    go_wp2_with fail
    refine (lives_any _).mono ?_
    rintro e w1 ⟨rfl, hf⟩
    have HF := hide hf
    have H1 := hide (H.out w1 hf)
    clear hf
    go_wp2_with fail
    refine (unhide H1).mono ?_
    rintro e w1 ⟨rfl, rfl⟩
    go_wp2
    go_ret
    exact ⟨rfl, HF.out⟩
set_option maxRecDepth 100000 in
set_option maxHeartbeats 4000000 in
theorem walk_big (a0 a1 a2 : Option Addr) (n m p c0 c1 c2 : Nat) (L : List Nat) (w : World) (hn : n ≤ 9223372036854775807) (hm : m ≤ 9223372036854775807) (hp : p ≤ 9223372036854775807) (hbig : 60 < n ∨ (n ≤ 60 ∧ 200 < m) ∨ (n ≤ 60 ∧ m ≤ 200 ∧ 30 < p))
    (H : Hid (∀ w', Fr [] w w' → Calls Try.prog 20 #[.slice a0 n c0] w' (NPost L w'))) :
    Calls Try.prog 7 #[.slice a0 n c0, .slice a1 m c1, .slice a2 p c2] w fun e w' => e = .returned (.bool true) ∧ Fr [] w w' := by
  rcases hbig with h1 | ⟨h1, h2⟩ | ⟨h1, h2, h3⟩
  all_goals
    go_enter Try.func7, Try.ntmps7
    go_wp2_with fail
    refine (lives_any _).mono ?_
    rintro e w1 ⟨rfl, hf⟩
    have HF := hide hf
    have H1 := hide (H.out w1 hf)
    clear hf
    go_wp2_with fail
    refine (unhide H1).mono ?_
    rintro e w2 ⟨D, g, sv, rfl, hD, hdb, hna, hgb, hf2⟩
    have HF2 := hide (HF.out.trans hf2)
    clear hD hdb hna hgb hf2
    go_wp2
    go_ret
    exact ⟨rfl, HF2.out⟩

theorem walk (v0 : Value) (l0 : List Int) (v1 : Value) (l1 : List Int) (v2 : Value) (l2 : List Int) (w : World) (hev0 : IR w v0 l0 ∧ l0.length ≤ 9223372036854775807) (hev1 : IR w v1 l1 ∧ l1.length ≤ 9223372036854775807) (hev2 : IR w v2 l2 ∧ l2.length ≤ 9223372036854775807) :
    Calls Try.prog 7 #[v0, v1, v2] w fun e w' => e = .returned (.bool true) ∧ Fr [] w w' := by
  obtain ⟨h0, hL0⟩ := hev0
  obtain ⟨h1, hL1⟩ := hev1
  obtain ⟨h2, hL2⟩ := hev2
  by_cases hc : chk l0 = 0
  · obtain ⟨_, e1, _, _, hks⟩ := chk_ok (.inl hc)
    obtain ⟨L, rfl, hL, hlen, hgo⟩ := chk_good hc
    rw [ks_all L hL] at hks
    by_cases hs : L.length ≤ 60 ∧ l1.length ≤ 200 ∧ l2.length ≤ 30
    · exact walk_main v0 L v1 l1 v2 l2 w h0 h1 h2 hL hs.1 hs.2.1 hs.2.2 hgo (by omega) hc
    · have H0 := h0
      obtain ⟨a0, c0, rfl, _⟩ := h0
      obtain ⟨a1, c1, rfl, _⟩ := h1
      obtain ⟨a2, c2, rfl, _⟩ := h2
      rw [zI_len] at hL0 H0 ⊢
      exact walk_big a0 a1 a2 _ _ _ c0 c1 c2 L w hL0 hL1 hL2 (by omega) (hide fun w' hf => newdec20_any _ L w' (H0.fr hf) hL hlen hc)
  · have H0 := h0
    obtain ⟨a0, c0, rfl, _⟩ := h0
    obtain ⟨a1, c1, rfl, _⟩ := h1
    obtain ⟨a2, c2, rfl, _⟩ := h2
    by_cases hl : l0.length ≤ 1000
    · exact walk_bad a0 a1 a2 _ _ _ c0 c1 c2 _ w hL0 hL1 hL2 hc (hide fun w' hf => newdec20_bad _ l0 w' (H0.fr hf) hl hc)
    · exact walk_bad a0 a1 a2 _ _ _ c0 c1 c2 3 w hL0 hL1 hL2 (by decide) (hide fun w' hf => newdec20_over _ _ _ w' (by omega) hL0)
/-! ### The row -/
set_option maxRecDepth 100000 in
theorem lifted (os : Os) (started : os.Started) (H : Type) (enc : TypeId × Value → H) :
    ReturnsInHanded {} Try.checked os 7 .any (Rows.huffmanPrefixSpec.pre6 enc Try.prog Try.f7 Rows.huffmanPrefixRow.domain false) (Rows.huffmanPrefixSpec.post enc Try.prog Try.f7 false true false false) := by
  refine returnsInHanded_of_change (C := Try.checked) own started (by kernel_rfl) Try.func7
    (ChangeSpec.witness6 (enc := enc) (C := Try.checked) false ⟨#[], #[.slice none 0 0, .slice none 0 0, .slice none 0 0], []⟩ 8 (by kernel_rfl) (by kernel_rfl) (by kernel_rfl) (by kernel_rfl)) ?_
  intro W base args ds gs before hval0 hW hcnd _
  have hval : ∀ (j : Nat) t v, Try.f7.params[j]? = some t → args[j]? = some v → Value.okWide Try.prog W .any base t v := hval0
  have hW' := hW
  obtain ⟨p, q, hA0, hV, rfl, hfz, hnd⟩ := hW
  have hA : DataW.TrodAll enc Try.prog W 0 (fun _ => true) true Try.f7.params.toList args.toList ds p := hA0
  rw [Try.params7] at hA hval
  obtain ⟨v0, vs0, d0, ds0, p0, q0, hargs, rfl, rfl, h0, r0⟩ := trodAll_cons hA
  obtain ⟨v1, vs1, d1, ds1, p1, q1, rfl, rfl, rfl, h1, r1⟩ := trodAll_cons r0
  obtain ⟨v2, vs2, d2, ds2, p2, q2, rfl, rfl, rfl, h2, r2⟩ := trodAll_cons r1
  obtain ⟨rfl, rfl, rfl⟩ := trodAll_nil r2
  obtain rfl : args = #[v0, v1, v2] := by cases args; simp_all
  obtain ⟨rfl, rfl⟩ := trodVars_none hV
  have h0k := h0
  obtain ⟨l0, hev0⟩ := open_ints22 (hval 0 22 v0 rfl rfl) h0
  have h1k := h1
  obtain ⟨l1, hev1⟩ := open_ints22 (hval 1 22 v1 rfl rfl) h1
  have h2k := h2
  obtain ⟨l2, hev2⟩ := open_ints22 (hval 2 22 v2 rfl rfl) h2
  clear hA0 hval0
  simp only [List.append_nil] at hW'
  refine (walk v0 l0 v1 l1 v2 l2 W hev0 hev1 hev2).mono fun e W' ⟨he, hg⟩ => ?_
  subst he
  exact ⟨_, rfl, _, _, _, [], _, [], hW', (trodAll_cons_mk (shut_bool Try.underlying4 _) trodAll_mk0), (trodAll_cons_mk (Below.trod laid read22 row22 h0k hg.below (fun x hx => by simpa using hW'.lt x (by simp [hx]))) (trodAll_cons_mk (Below.trod laid read22 row22 h1k hg.below (fun x hx => by simpa using hW'.lt x (by simp [hx]))) (trodAll_cons_mk (Below.trod laid read22 row22 h2k hg.below (fun x hx => by simpa using hW'.lt x (by simp [hx]))) trodAll_mk0))), rfl, hg.below.frame _, fun h => by cases h⟩

theorem over : Rows.huffmanPrefixRow.holds Try.pinned (OpenSpec.ofChange Rows.huffmanPrefixSpec) :=
  OpenClaim.holds_of_wide 7 Try.f7 rfl rfl rfl rfl rfl rfl rfl ⟨rfl, rfl, rfl, rfl, rfl⟩ rfl rfl rfl rfl rfl (by kernel_rfl) Try.func7 (by kernel_rfl)
    (of_decide_eq_true (by kernel_rfl)) (by unfold Func.isWrapper; first | (rw [if_pos (by decide +kernel)]; kernel_rfl) | (rw [if_neg (by decide +kernel)]; exact ⟨rfl, rfl⟩))
    (fun os started H enc _ => lifted os started H enc)

theorem proved : Rows.HuffmanPrefixSaid :=
  over
#print axioms proved
end Go.Proofs.Ythmhcnnigepohaa.huffmanPrefix

