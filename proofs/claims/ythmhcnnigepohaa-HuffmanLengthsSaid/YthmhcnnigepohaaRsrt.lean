/- The reference's sort of packages. -/
import Derived.Test.YthmhcnnigepohaaRpk
namespace Go.Proofs.Ythmhcnnigepohaa
open Go.RowKit

def QPost (l : List Rw) (w : World) (e : Ending) (w' : World) : Prop :=
  ∃ v g, e = .returned v ∧ QAt w' v g l ∧ (∀ b, g = some b → w.heap.size ≤ b) ∧ Fr [] w w'

set_option maxRecDepth 100000 in
set_option maxHeartbeats 8000000 in
theorem sorted29_any (v : Value) (g : Option Nat) (l : List Rw) (w : World) (h : QAt w v g l) (hl : l.length ≤ 100000) :
    Calls Try.prog 29 #[v] w (QPost (packsR l) w) := by
  have HP := hide h
  obtain ⟨av, cv, hv⟩ := SlAt.shape h
  obtain ⟨n, hn⟩ : ∃ n, n = l.length := ⟨_, rfl⟩
  rw [← hn] at hv hl
  subst hv
  have HN := hide hn
  clear h hn
  go_enter Try.func29, Try.ntmps29
  go_wp2_with fail
  go_loopg [3, 4] (n + 1) (fun gk ov i wr => ∃ (k : Nat) (q : Option Nat), gk = n + 1 - k ∧ k ≤ n ∧ i = .int .i64 k ∧ QAt wr ov q (packsR (l.take k)) ∧ (∀ b, q = some b → w.heap.size ≤ b) ∧ Fr [] w wr)
  case atStart => exact ⟨0, none, rfl, by omega, rfl, SlAt.nil_ _, by simp, Fr.refl _ _⟩
  case round =>
    obtain ⟨k, q, hgk, hk, rfl, hq, hqb, hf⟩ := hrel
    have HGK := hide hgk
    have HQ := hide hq
    have HQB := hide hqb
    have HF := hide hf
    obtain ⟨ao, co, ho⟩ := SlAt.shape hq
    have hql : (packsR (l.take k)).length = k := by rw [packsR_len]; simp; have := HN.out; omega
    rw [hql] at ho
    subst ho
    by_cases hlt : k < n
    · obtain ⟨x, hx⟩ : ∃ x, l[k]? = some x := ⟨l[k]'(by have := HN.out; omega), List.getElem?_eq_getElem _⟩
      have hpr : QAt wr (.slice av n cv) g l := SlAt.fr HP.out hf (by simp)
      obtain ⟨b, off, cap, hgb, hvv, hbl, c0, c1, -⟩ := hpr.get hx
      rw [← HN.out] at hvv
      injection hvv with hva _ hvc
      subst hva
      subst hvc
      have HGB : Hid (g = some b) := hide hgb
      obtain ⟨P, hP⟩ : ∃ P, P = packsR (l.take k) := ⟨_, rfl⟩
      rw [← hP] at hq hql
      have HPS : Hid (SrtR P) := hide (by rw [hP]; exact packsR_srt _)
      have HPL := hide hql
      obtain ⟨v', w', g', happ, hp', hf', hg'⟩ := QAt.push hq x (by omega)
      obtain ⟨xw, xa, xn, xc⟩ := x
      simp only at c0 c1 happ
      have HTK : Hid (packsR (l.take (k + 1)) = insR ⟨xw, xa, xn, xc⟩ P) := hide (by
        rw [List.take_add_one, hx, hP]
        exact packsR_snoc _ _)
      have HBW : Hid (b < w.heap.size) := hide (by
        obtain ⟨cur, hc⟩ := SlAt.lt HP.out b hgb
        exact lt_of_blk hc)
      obtain ⟨b', off', cap', hgb', hvv', hbl', d0, d1, -⟩ := hp'.get (i := k) (x := ⟨xw, xa, xn, xc⟩) (by rw [List.getElem?_append_right (by omega), hql]; simp)
      rw [List.length_append, hql, List.length_singleton] at hvv'
      subst hvv'
      have HB' : Hid (w.heap.size ≤ b') := hide (by
        rcases hg' with h | ⟨b2, h1, h2⟩
        · exact HQB.out b' (h ▸ hgb')
        · rw [h1] at hgb'
          injection hgb' with hgb'
          have := HF.out.size
          omega)
      have HBB : Hid (b ≠ b') := hide (by have := HBW.out; have := HB'.out; omega)
      have HF' := hide (HF.out.andThen hf' (fun y hy => .inr (HQB.out y (by simpa using hy))))
      have HP' := hide hp'
      have HG' := hide hgb'
      have HX := hide hx
      clear hgk hq hqb hf hx hpr hgb hP hp' hf' hg' hgb' d0 d1 hbl' hql
      go_wp2_with (at_builtin; refine wpList_append_run rfl _ _ 57 rfl happ rfl rfl ?_)
      obtain ⟨wo, rfl⟩ : ∃ wo : World, wo = wr := ⟨_, rfl⟩
      clear c0 c1 hbl happ
      go_loopg [5] (k + 1) (fun gk i wr => ∃ (j : Nat) (z : Rw), gk = j + 1 ∧ j ≤ k ∧ i = .int .i64 j ∧ QAt wr (.slice (some ⟨b', off', none⟩) (k + 1) cap') g' (P.take j ++ z :: P.drop j) ∧ (∀ i y, j ≤ i → P[i]? = some y → xw < y.w) ∧ Fr [b'] w' wr)
      case atStart =>
        refine ⟨k, ⟨xw, xa, xn, xc⟩, rfl, by omega, rfl, ?_, fun j y hj hy => by have := (List.getElem?_eq_some_iff.1 hy).1; have := HPL.out; omega, Fr.refl _ _⟩
        rw [List.take_of_length_le (by have := HPL.out; omega), List.drop_eq_nil_of_le (by have := HPL.out; omega)]
        exact HP'.out
      case round =>
        obtain ⟨j, z, hgj, hj, rfl, hq, hgt, hf⟩ := hrel
        have HGJ := hide hgj
        have HQ2 := hide hq
        have HGT := hide hgt
        have HF2 := hide hf
        have hfw : Fr [] w wr := HF'.out.andThen hf (by intro y hy; right; have : y = b' := by simpa using hy
                                                        have := HB'.out; omega)
        have hpr : QAt wr (.slice (some ⟨b, off, none⟩) n cv) g l := SlAt.fr HP.out hfw (by simp)
        have hx : l[k]? = some ⟨xw, xa, xn, xc⟩ := HX.out
        obtain ⟨b2, off2, cap2, hgb2, hvv2, hbl, c0, c1, -⟩ := hpr.get hx
        rw [HGB.out] at hgb2
        injection hgb2 with hgb2
        subst hgb2
        injection hvv2 with hvv2 hvl2 hvv3
        clear hvl2
        injection hvv2 with hvv2
        injection hvv2 with _ hvv2 _
        subst hvv2 hvv3
        simp only at c0 c1
        have b0 : (0 : Int) ≤ (k : Int) ∧ (k : Int) < (n : Int) := by omega
        have y0 : wr.frozen? ⟨b', off' + j * 2, none⟩ = false := by
          obtain ⟨cur, hc⟩ := SlAt.lt hq b' HG'.out
          exact froz_blk hc _
        have y1 : wr.frozen? ⟨b', off' + j * 2 + 1, none⟩ = false := by
          obtain ⟨cur, hc⟩ := SlAt.lt hq b' HG'.out
          exact froz_blk hc _
        have hzj : (P.take j ++ z :: P.drop j)[j]? = some z := by
          have := HPL.out
          rw [List.getElem?_append_right (by simp; omega)]
          simp [Nat.min_eq_left (show j ≤ P.length by omega)]
        obtain ⟨b5, off5, cap5, hgb5, hvv5, _, t0, t1, -⟩ := hq.get hzj
        rw [HG'.out] at hgb5
        injection hgb5 with hgb5
        subst hgb5
        injection hvv5 with hvv5 hvl5 hvv6
        injection hvv5 with hvv5
        injection hvv5 with _ hvv5 _
        subst hvv5 hvv6
        clear hvl5 hzj
        have hbl2 : b' < wr.heap.size := by
          obtain ⟨cur, hc⟩ := SlAt.lt hq b' HG'.out
          exact lt_of_blk hc
        have HFW := hide hfw
        clear hgj hgt hf hpr hx hfw
        by_cases hgo : ∃ y, P[j - 1]? = some y ∧ j ≠ 0 ∧ xw < y.w
        · obtain ⟨y, hy, h0, hlt2⟩ := hgo
          have hyl : (P.take j ++ z :: P.drop j)[j - 1]? = some y := by
            obtain ⟨i, rfl⟩ : ∃ i, j = i + 1 := ⟨j - 1, by omega⟩
            rw [show i + 1 - 1 = i by omega] at hy ⊢
            rw [split_get P i z (by have := HPL.out; omega)]
            exact hy
          obtain ⟨b3, off3, cap3, hgb3, hvv3, _, d0, d1, -⟩ := hq.get hyl
          rw [HG'.out] at hgb3
          injection hgb3 with hgb3
          subst hgb3
          injection hvv3 with hvv3 hvl hvv4
          injection hvv3 with hvv3
          injection hvv3 with _ hvv3 _
          subst hvv3 hvv4
          have HPUT : Hid (∀ m, QAt (((wr.drewN m).setCell ⟨b', off' + j * 2, none⟩ (.int .i64 y.w)).setCell ⟨b', off' + j * 2 + 1, none⟩ (.slice y.a y.n y.c)) (.slice (some ⟨b', off', none⟩) (k + 1) cap') g' (P.take (j - 1) ++ y :: P.drop (j - 1))) := hide (by
            intro m
            have hqm : QAt (wr.drewN m) (.slice (some ⟨b', off', none⟩) (k + 1) cap') g' (P.take j ++ z :: P.drop j) := SlAt.fr hq ((Fr.refl [] wr).drewN m) (by simp)
            have := hqm.put j y (by rw [← hvl]; omega)
            obtain ⟨i, rfl⟩ : ∃ i, j = i + 1 := ⟨j - 1, by omega⟩
            rw [split_step P i y z hy] at this
            exact this)
          have HY := hide hy
          obtain ⟨yw, ya, yn, yc⟩ := y
          simp only at d0 d1 hlt2
          have g0 : decide ((0 : Int) < (j : Int)) = true := by simp; omega
          have g0' : decide (0 < j) = true := by simp; omega
          have z1 : IntKind.i64.wrap ((j : Int) - 1) = (j : Int) - 1 := IntWalk.i64_in _ (by omega)
          have hk1 : (0 : Int) ≤ (j : Int) - 1 ∧ (j : Int) - 1 < ((k + 1 : Nat) : Int) := by omega
          have hk2 : (1 : Int) ≤ (j : Int) := by omega
          have hk3 : ((j : Int) - 1).toNat = j - 1 := by omega
          have g1 : decide (xw < yw) = true := by simpa using hlt2
          have hk4 : (0 : Int) ≤ (j : Int) ∧ (j : Int) < ((k + 1 : Nat) : Int) := by omega
          clear hq hy h0 hyl hvl hlt2
          go_upto_region 7 with (fail)
          go_quiet (fail)
          go_wp2_with fail
          go_roundg j
          case measure => have := HGJ.out; omega
          case rel =>
            refine ⟨j - 1, _, by omega, by omega, by rw [show ((j - 1 : Nat) : Int) = (j : Int) - 1 by omega], HPUT.out _, fun i y hi hiy => ?_, ((HF2.out.drewN _).setCell (.inl (by simp)) _).setCell (.inl (by simp)) _⟩
            by_cases hij : i = j - 1
            · subst hij
              have h1 := HY.out
              rw [h1] at hiy
              injection hiy with hiy
              subst hiy
              exact of_decide_eq_true g1
            · exact HGT.out i y (by omega) hiy
        · have hex : j = 0 ∨ (j ≠ 0 ∧ ∃ y, P[j - 1]? = some y ∧ y.w ≤ xw) := by
            by_cases h0 : j = 0
            · exact .inl h0
            · have hy : P[j - 1]? = some (P[j - 1]'(by have := HPL.out; omega)) := List.getElem?_eq_getElem _
              refine .inr ⟨h0, _, hy, ?_⟩
              refine Int.not_lt.1 fun hlt => hgo ⟨_, hy, h0, hlt⟩
          have HRES : Hid (∀ m, QAt (((wr.drewN m).setCell ⟨b', off' + j * 2, none⟩ (.int .i64 xw)).setCell ⟨b', off' + j * 2 + 1, none⟩ (.slice xa xn xc)) (.slice (some ⟨b', off', none⟩) (k + 1) cap') g' (packsR (l.take (k + 1)))) := hide (by
            intro m
            have hqm : QAt (wr.drewN m) (.slice (some ⟨b', off', none⟩) (k + 1) cap') g' (P.take j ++ z :: P.drop j) := SlAt.fr hq ((Fr.refl [] wr).drewN m) (by simp)
            have := hqm.put j ⟨xw, xa, xn, xc⟩ (by have := HPL.out; simp; omega)
            rw [insR_split _ P j z (by have := HPL.out; omega)] at this
            rw [HTK.out, insR_at _ P j (by have := HPL.out; omega) HPS.out HGT.out (by
              rcases hex with h | ⟨_, h⟩
              · exact .inl h
              · exact .inr h)]
            exact this)
          have hk4 : (0 : Int) ≤ (j : Int) ∧ (j : Int) < ((k + 1 : Nat) : Int) := by omega
          clear hgo
          rcases hex with hk0 | ⟨h0, y, hy, hle⟩
          focus
            have g0 : decide ((0 : Int) < (j : Int)) = false := by simp; omega
            have g0' : decide (0 < j) = false := by simp; omega
            clear hq hk0
            go_upto_region 7 with (fail)
            go_quiet (fail)
            clear g0 g0'
          rotate_left
          focus
            have hyl : (P.take j ++ z :: P.drop j)[j - 1]? = some y := by
              obtain ⟨i, rfl⟩ : ∃ i, j = i + 1 := ⟨j - 1, by omega⟩
              rw [show i + 1 - 1 = i by omega] at hy ⊢
              rw [split_get P i z (by have := HPL.out; omega)]
              exact hy
            obtain ⟨b3, off3, cap3, hgb3, hvv3, _, d0, d1, -⟩ := hq.get hyl
            rw [HG'.out] at hgb3
            injection hgb3 with hgb3
            subst hgb3
            injection hvv3 with hvv3 hvl hvv4
            injection hvv3 with hvv3
            injection hvv3 with _ hvv3 _
            subst hvv3 hvv4
            obtain ⟨yw, ya, yn, yc⟩ := y
            simp only at d0 d1 hle
            have g0 : decide ((0 : Int) < (j : Int)) = true := by simp; omega
            have g0' : decide (0 < j) = true := by simp; omega
            have z1 : IntKind.i64.wrap ((j : Int) - 1) = (j : Int) - 1 := IntWalk.i64_in _ (by omega)
            have hk1 : (0 : Int) ≤ (j : Int) - 1 ∧ (j : Int) - 1 < ((k + 1 : Nat) : Int) := by omega
            have hk2 : (1 : Int) ≤ (j : Int) := by omega
            have hk3 : ((j : Int) - 1).toNat = j - 1 := by omega
            have g1 : decide (xw < yw) = false := by simpa using hle
            clear hq hy h0 hyl hvl hle
            go_upto_region 7 with (fail)
            go_quiet (fail)
            clear g0 g0' z1 hk1 hk2 hk3 g1 d0 d1
          all_goals
            go_wp2_with fail
            go_roundg (n + 1 - (k + 1))
            case measure => have := HGK.out; omega
            case rel =>
              refine ⟨k + 1, _, rfl, by omega, by go_num, HRES.out _, fun b hb => ?_, HF'.out.andThen (((HF2.out.drewN _).setCell (.inl (by simp)) _).setCell (.inl (by simp)) _) ?_⟩
              · rw [HG'.out] at hb
                injection hb with hb
                rw [← hb]
                exact HB'.out
              · intro y hy
                right
                have : y = b' := by simpa using hy
                have := HB'.out
                omega
    · obtain rfl : k = n := by omega
      have HSE : Hid (QAt wr (.slice ao k co) q (packsR l)) := hide (by
        have h1 := hq
        rw [List.take_of_length_le (by have := HN.out; omega)] at h1
        exact h1)
      clear hgk hq hqb hf
      go_wp2
      go_ret
      exact ⟨_, _, rfl, HSE.out, HQB.out, HF.out⟩
end Go.Proofs.Ythmhcnnigepohaa

