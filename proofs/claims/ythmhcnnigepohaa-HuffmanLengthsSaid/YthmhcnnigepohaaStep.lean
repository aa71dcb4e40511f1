/- Step: in the program. -/
import Derived.Test.YthmhcnnigepohaaNew
import Derived.Laws.Bits128
namespace Go.Proofs.Ythmhcnnigepohaa
open Go.RowKit

theorem i64_and1 (n : Int) : bits .and .i64 n 1 = n % 2 := by
  have h1 : (BitVec.ofInt 64 1).toNat = 2 ^ 1 - 1 := by decide
  have key : (BitVec.ofInt 64 n &&& BitVec.ofInt 64 1).toNat = (n % ((2 ^ 64 : Nat) : Int)).toNat % 2 ^ 1 := by
    rw [BitVec.toNat_and, BitVec.toNat_ofInt, h1, Nat.and_two_pow_sub_one_eq_mod]
  show IntKind.i64.wrap ((BitVec.ofInt 64 n &&& BitVec.ofInt 64 1).toNat : Nat) = n % 2
  rw [key, IntKind.wrap_i64]
  omega
theorem i64_or1 (x r : Int) (h0 : 0 ≤ x) (h1 : x < 4611686018427387904) (hr : 0 ≤ r ∧ r ≤ 1) : bits .or .i64 (x * 2) r = x * 2 + r :=
  bits_join .i64 63 (by decide) (fun n h0 h1 => by rw [IntKind.wrap_i64]; omega) 1 (x * 2) r (by omega) (by omega) (by omega) (by omega) (by omega) (by omega)

set_option maxRecDepth 100000 in
set_option maxHeartbeats 4000000 in
theorem step22_hit (D : Nat) (L : List Nat) (c n r : Nat) (g : Option Nat) (sv : Value) (bit : Int) (w : World) (hd : DB w D L (stt L) (lgs L 15) c n sv) (hs : NAt w sv g (sys L 15)) (hg : ∀ b, g = some b → b ≠ D)
    (hL : ∀ x ∈ L, x ≤ 15) (hl : L.length ≤ 1000) (hc : c ≤ 100000) (hn : n ≤ 1000) (hr : (r : Int) = bit % 2) (x : Nat) (hyp : n + 1 ≤ lgs L 15 ∧ fst L (n + 1) ≤ c * 2 + r ∧ c * 2 + r < fst L (n + 1) + cnt L (n + 1) ∧ (syk L (n + 1) L.length)[c * 2 + r - fst L (n + 1)]? = some x) :
    Calls Try.prog 22 #[.pointer (some ⟨D, 0, none⟩), .int .i64 bit] w fun e w' => e = .returned (.tuple #[.int .i64 x, .bool true, .int .i64 0]) ∧ DB w' D L (stt L) (lgs L 15) 0 0 sv ∧ Fr [D] w w' := by
  have HD := hide hd
  have HS := hide hs
  have HG := hide hg
  have hlg := lgs_le L 15
  obtain ⟨lg, hlgd⟩ : ∃ lg, lg = lgs L 15 := ⟨_, rfl⟩
  rw [← hlgd] at HD hd hlg
  have HLG := hide hlgd
  have c50 := hd.gc
  have c51 := hd.gn
  have f50 := hd.froz 50
  have f51 := hd.froz 51
  have hDl := hd.lt
  have hb1 : bits .and .i64 bit 1 = (r : Int) := by rw [hr]; exact i64_and1 bit
  have hr2 : r < 2 := by omega
  have hor := i64_or1 (c : Int) (r : Int) (by omega) (by omega) (by omega)
  obtain ⟨c1, hc1⟩ : ∃ x : Nat, x = c * 2 + r := ⟨_, rfl⟩
  have hor2 : bits .or .i64 ((c : Int) * 2) (r : Int) = (c1 : Int) := by rw [hor]; omega
  have HC1 := hide hc1
  have hc1b : c1 ≤ 1000000 := by omega
  have HHY := hide hyp
  clear hor hd hs hg hr hc1 hyp hlgd
  go_enter Try.func22, Try.ntmps22
  go_upto_region 3 with (fail)
  go_region
  have hn1 : ((n + 1 : Nat) : Int) = (n : Int) + 1 := by omega
  rw [← hn1]
  obtain ⟨w1, hw1⟩ : ∃ w1, w1 = ((w.setCell ⟨D, 50, none⟩ (.int .i64 c1)).setCell ⟨D, 51, none⟩ (.int .i64 ((n + 1 : Nat) : Int))).drew := ⟨_, rfl⟩
  have HD1 : Hid (DB w1 D L (stt L) lg c1 ((n + 1 : Nat) : Int) sv) := hide (by rw [hw1]; exact ((HD.out.setC c1).setN _).keep rfl)
  have HF1 : Hid (Fr [D] w w1) := hide (by rw [hw1]; exact (((Fr.refl [D] w).setCell (.inl (by simp)) _).setCell (.inl (by simp)) _).drew)
  have HS1 : Hid (NAt w1 sv g (sys L 15)) := hide (SlAt.fr HS.out HF1.out (fun b hb => by have := HG.out b hb; simpa using this))
  rw [← hw1]
  clear hw1 c50 c51 f50 f51 hDl hb1 hor2 hn1
  obtain ⟨m, hm⟩ : ∃ m, m = n + 1 := ⟨_, rfl⟩
  rw [← hm] at HD1 HHY ⊢
  have hml : m ≤ 1001 := by omega
  clear hm hn
  have hd := HD1.out
  have c49 := hd.glg
  have c50 := hd.gc
  have c51 := hd.gn
  have f50 := hd.froz 50
  have f51 := hd.froz 51
  have hDl := hd.lt
  obtain ⟨y1, y2, y3, y4⟩ := HHY.out
  rw [← HLG.out] at y1
  have hm1 : 1 ≤ m := by
    refine Nat.pos_of_ne_zero fun h0 => ?_
    subst h0
    simp [cnt] at y3
    omega
  have hmt := hd.gtab (i := m) (by omega)
  have hmf := hd.gtab (i := 16 + m) (by omega)
  have hms := hd.gst (i := m) (by omega)
  have hmc : tg L m = (cnt L m : Int) := by unfold tg; rw [if_pos (by omega)]
  have hmd : tg L (16 + m) = (fst L m : Int) := by unfold tg; rw [if_neg (by omega), show 16 + m - 16 = m by omega]
  rw [hmc] at hmt
  rw [hmd] at hmf
  obtain ⟨kc, hkc⟩ : ∃ x, x = cnt L m := ⟨_, rfl⟩
  obtain ⟨kf, hkf⟩ : ∃ x, x = fst L m := ⟨_, rfl⟩
  rw [← hkc] at hmt
  rw [← hkf] at hmf
  have hkfb : kf ≤ 16384000 := by
    have := fst_le hL m (by omega)
    omega
  have b0 : (0 : Int) ≤ (m : Int) ∧ (m : Int) < 16 := by omega
  have y5 := sys_get hm1 (by omega) y4
  obtain ⟨b, off, cap, hgb, hsv, hbl, hsc⟩ := HS1.out.read y5
  have hsl := (List.getElem?_eq_some_iff.1 y5).1
  have hst : stt L m = ((sys L (m - 1)).length : Int) := by unfold stt; rw [if_neg (by omega)]
  rw [hst] at hms
  obtain ⟨q, hq⟩ : ∃ q, q = (sys L (m - 1)).length := ⟨_, rfl⟩
  obtain ⟨Q, hQ⟩ : ∃ q, q = (sys L 15).length := ⟨_, rfl⟩
  have hqb := sys_le L (m - 1)
  have hqb2 : (m - 1) * L.length ≤ 15 * 1000 := Nat.mul_le_mul (by omega) hl
  have HD1g := hide (HG.out b hgb)
  rw [← hq] at hms hsl hsc hqb
  rw [← hQ] at hsl hsv
  rw [← HC1.out, ← hkf] at y2 y3 y4
  rw [← HC1.out, ← hkf] at hsl hsc
  rw [← hkc] at y3
  have csy := hd.gsym
  rw [hsv] at csy
  have HSV := hide hsv
  have hidx : (q : Int) + (c1 : Int) - (kf : Int) = ((q + (c1 - kf) : Nat) : Int) := by omega
  have hidx2 : (0 : Int) ≤ (q : Int) + (c1 : Int) - (kf : Int) ∧ (q : Int) + (c1 : Int) - (kf : Int) < (Q : Int) := by omega
  have hidn : ((q : Int) + (c1 : Int) - (kf : Int)).toNat = q + (c1 - kf) := by omega
  have g1 : decide (m ≤ lg) = true := by simp; omega
  have g2 : decide ((c1 : Int) - (kf : Int) < (kc : Int)) = true := by simp; omega
  have g3 : decide (kf ≤ c1) = true := by simp; omega
  have z1 : IntKind.i64.wrap ((q : Int) + (c1 : Int)) = (q : Int) + (c1 : Int) := IntWalk.i64_in _ (by omega)
  have z2 : IntKind.i64.wrap ((q : Int) + (c1 : Int) - (kf : Int)) = (q : Int) + (c1 : Int) - (kf : Int) := IntWalk.i64_in _ (by omega)
  have z3 : IntKind.i64.wrap ((c1 : Int) - (kf : Int)) = (c1 : Int) - (kf : Int) := IntWalk.i64_in _ (by omega)
  clear hd y1 y2 y3 y4 y5 hst hq hQ hqb hqb2 hkc hkf hmc hmd hidx hsv hgb
  go_upto_region 5 with (fail)
  go_quiet (fail)
  go_upto_region 6 with (fail)
  go_quiet (fail)
  go_wp2_with fail
  go_ret3
  refine ⟨rfl, ?_, ((HF1.out.drewN _).setCell (.inl (by simp)) _).setCell (.inl (by simp)) _⟩
  rw [← HLG.out]
  exact ((DB.keep (w := w1) HD1.out rfl).setC 0).setN 0
set_option maxRecDepth 100000 in
set_option maxHeartbeats 4000000 in
theorem step22_on (D : Nat) (L : List Nat) (c n r : Nat) (g : Option Nat) (sv : Value) (bit : Int) (w : World) (hd : DB w D L (stt L) (lgs L 15) c n sv) (hs : NAt w sv g (sys L 15)) (hg : ∀ b, g = some b → b ≠ D)
    (hL : ∀ x ∈ L, x ≤ 15) (hl : L.length ≤ 1000) (hc : c ≤ 100000) (hn : n ≤ 1000) (hr : (r : Int) = bit % 2) (hyp : 1 ≤ n + 1 ∧ n + 1 < lgs L 15 ∧ fst L (n + 1) + cnt L (n + 1) ≤ c * 2 + r) :
    Calls Try.prog 22 #[.pointer (some ⟨D, 0, none⟩), .int .i64 bit] w fun e w' => e = .returned (.tuple #[.int .i64 0, .bool false, .int .i64 0]) ∧ DB w' D L (stt L) (lgs L 15) ((c * 2 + r : Nat) : Int) ((n + 1 : Nat) : Int) sv ∧ Fr [D] w w' := by
  have HD := hide hd
  have HS := hide hs
  have HG := hide hg
  have hlg := lgs_le L 15
  obtain ⟨lg, hlgd⟩ : ∃ lg, lg = lgs L 15 := ⟨_, rfl⟩
  rw [← hlgd] at HD hd hlg
  have HLG := hide hlgd
  have c50 := hd.gc
  have c51 := hd.gn
  have f50 := hd.froz 50
  have f51 := hd.froz 51
  have hDl := hd.lt
  have hb1 : bits .and .i64 bit 1 = (r : Int) := by rw [hr]; exact i64_and1 bit
  have hr2 : r < 2 := by omega
  have hor := i64_or1 (c : Int) (r : Int) (by omega) (by omega) (by omega)
  obtain ⟨c1, hc1⟩ : ∃ x : Nat, x = c * 2 + r := ⟨_, rfl⟩
  have hor2 : bits .or .i64 ((c : Int) * 2) (r : Int) = (c1 : Int) := by rw [hor]; omega
  have HC1 := hide hc1
  have hc1b : c1 ≤ 1000000 := by omega
  have HHY := hide hyp
  clear hor hd hs hg hr hc1 hyp hlgd
  have HM := hide (show n + 1 = n + 1 from rfl)
  go_enter Try.func22, Try.ntmps22
  go_upto_region 3 with (fail)
  go_region
  have hn1 : ((n + 1 : Nat) : Int) = (n : Int) + 1 := by omega
  rw [← hn1]
  obtain ⟨w1, hw1⟩ : ∃ w1, w1 = ((w.setCell ⟨D, 50, none⟩ (.int .i64 c1)).setCell ⟨D, 51, none⟩ (.int .i64 ((n + 1 : Nat) : Int))).drew := ⟨_, rfl⟩
  have HD1 : Hid (DB w1 D L (stt L) lg c1 ((n + 1 : Nat) : Int) sv) := hide (by rw [hw1]; exact ((HD.out.setC c1).setN _).keep rfl)
  have HF1 : Hid (Fr [D] w w1) := hide (by rw [hw1]; exact (((Fr.refl [D] w).setCell (.inl (by simp)) _).setCell (.inl (by simp)) _).drew)
  have HS1 : Hid (NAt w1 sv g (sys L 15)) := hide (SlAt.fr HS.out HF1.out (fun b hb => by have := HG.out b hb; simpa using this))
  rw [← hw1]
  clear hw1 c50 c51 f50 f51 hDl hb1 hor2 hn1
  obtain ⟨m, hm⟩ : ∃ m, m = n + 1 := ⟨_, rfl⟩
  rw [← hm] at HD1 HHY ⊢
  have hml : m ≤ 1001 := by omega
  have HMM := hide hm
  clear hm hn
  have hd := HD1.out
  have c49 := hd.glg
  have c50 := hd.gc
  have c51 := hd.gn
  have f50 := hd.froz 50
  have f51 := hd.froz 51
  have hDl := hd.lt
  obtain ⟨hm1, y1, y2⟩ := HHY.out
  rw [← HLG.out] at y1
  have hmt := hd.gtab (i := m) (by omega)
  have hmf := hd.gtab (i := 16 + m) (by omega)
  have hms := hd.gst (i := m) (by omega)
  have hmc : tg L m = (cnt L m : Int) := by unfold tg; rw [if_pos (by omega)]
  have hmd : tg L (16 + m) = (fst L m : Int) := by unfold tg; rw [if_neg (by omega), show 16 + m - 16 = m by omega]
  rw [hmc] at hmt
  rw [hmd] at hmf
  obtain ⟨kc, hkc⟩ : ∃ x, x = cnt L m := ⟨_, rfl⟩
  obtain ⟨kf, hkf⟩ : ∃ x, x = fst L m := ⟨_, rfl⟩
  rw [← hkc] at hmt
  rw [← hkf] at hmf
  have hkfb : kf ≤ 16384000 := by
    have := fst_le hL m (by omega)
    omega
  have b0 : (0 : Int) ≤ (m : Int) ∧ (m : Int) < 16 := by omega
  rw [← HC1.out, ← hkf, ← hkc] at y2
  have g1 : decide (m ≤ lg) = true := by simp; omega
  have g2 : decide ((c1 : Int) - (kf : Int) < (kc : Int)) = false := by simp; omega
  have g4 : decide (m < lg) = true := by simp; omega
  have z3 : IntKind.i64.wrap ((c1 : Int) - (kf : Int)) = (c1 : Int) - (kf : Int) := IntWalk.i64_in _ (by omega)
  clear hd y1 y2 hkc hkf hmc hmd
  go_upto_region 5 with (fail)
  go_quiet (fail)
  go_wp2_with fail
  go_ret3
  refine ⟨rfl, ?_, HF1.out.drewN _⟩
  rw [← HLG.out, show (c : Int) * 2 + (r : Int) = (c1 : Int) by have := HC1.out; omega, show (n : Int) + 1 = ((m : Nat) : Int) by have := HMM.out; omega]
  exact DB.keep (w := w1) HD1.out rfl
set_option maxRecDepth 100000 in
set_option maxHeartbeats 4000000 in
theorem step22_bad1 (D : Nat) (L : List Nat) (c n r : Nat) (g : Option Nat) (sv : Value) (bit : Int) (w : World) (hd : DB w D L (stt L) (lgs L 15) c n sv) (hs : NAt w sv g (sys L 15)) (hg : ∀ b, g = some b → b ≠ D)
    (_hL : ∀ x ∈ L, x ≤ 15) (_hl : L.length ≤ 1000) (hc : c ≤ 100000) (hn : n ≤ 1000) (hr : (r : Int) = bit % 2) (hyp : lgs L 15 < n + 1) :
    Calls Try.prog 22 #[.pointer (some ⟨D, 0, none⟩), .int .i64 bit] w fun e w' => e = .returned (.tuple #[.int .i64 0, .bool false, .int .i64 2]) ∧ DB w' D L (stt L) (lgs L 15) 0 0 sv ∧ Fr [D] w w' := by
  have HD := hide hd
  have HS := hide hs
  have HG := hide hg
  have hlg := lgs_le L 15
  obtain ⟨lg, hlgd⟩ : ∃ lg, lg = lgs L 15 := ⟨_, rfl⟩
  rw [← hlgd] at HD hd hlg
  have HLG := hide hlgd
  have c50 := hd.gc
  have c51 := hd.gn
  have f50 := hd.froz 50
  have f51 := hd.froz 51
  have hDl := hd.lt
  have hb1 : bits .and .i64 bit 1 = (r : Int) := by rw [hr]; exact i64_and1 bit
  have hr2 : r < 2 := by omega
  have hor := i64_or1 (c : Int) (r : Int) (by omega) (by omega) (by omega)
  obtain ⟨c1, hc1⟩ : ∃ x : Nat, x = c * 2 + r := ⟨_, rfl⟩
  have hor2 : bits .or .i64 ((c : Int) * 2) (r : Int) = (c1 : Int) := by rw [hor]; omega
  have HC1 := hide hc1
  have hc1b : c1 ≤ 1000000 := by omega
  have HHY := hide hyp
  clear hor hd hs hg hr hc1 hyp hlgd
  go_enter Try.func22, Try.ntmps22
  go_upto_region 3 with (fail)
  go_region
  have hn1 : ((n + 1 : Nat) : Int) = (n : Int) + 1 := by omega
  rw [← hn1]
  obtain ⟨w1, hw1⟩ : ∃ w1, w1 = ((w.setCell ⟨D, 50, none⟩ (.int .i64 c1)).setCell ⟨D, 51, none⟩ (.int .i64 ((n + 1 : Nat) : Int))).drew := ⟨_, rfl⟩
  have HD1 : Hid (DB w1 D L (stt L) lg c1 ((n + 1 : Nat) : Int) sv) := hide (by rw [hw1]; exact ((HD.out.setC c1).setN _).keep rfl)
  have HF1 : Hid (Fr [D] w w1) := hide (by rw [hw1]; exact (((Fr.refl [D] w).setCell (.inl (by simp)) _).setCell (.inl (by simp)) _).drew)
  have HS1 : Hid (NAt w1 sv g (sys L 15)) := hide (SlAt.fr HS.out HF1.out (fun b hb => by have := HG.out b hb; simpa using this))
  rw [← hw1]
  clear hw1 c50 c51 f50 f51 hDl hb1 hor2 hn1
  obtain ⟨m, hm⟩ : ∃ m, m = n + 1 := ⟨_, rfl⟩
  rw [← hm] at HD1 HHY ⊢
  have hml : m ≤ 1001 := by omega
  clear hm hn
  have hd := HD1.out
  have c49 := hd.glg
  have c50 := hd.gc
  have c51 := hd.gn
  have f50 := hd.froz 50
  have f51 := hd.froz 51
  have hDl := hd.lt
  have y1 := HHY.out
  rw [← HLG.out] at y1
  have g1 : decide (m ≤ lg) = false := by simp; omega
  have g4 : decide (m < lg) = false := by simp; omega
  clear hd y1
  go_upto_region 5 with (fail)
  go_quiet (fail)
  go_wp2_with fail
  go_ret3
  refine ⟨rfl, ?_, ((HF1.out.drewN _).setCell (.inl (by simp)) _).setCell (.inl (by simp)) _⟩
  rw [← HLG.out]
  exact ((DB.keep (w := w1) HD1.out rfl).setC 0).setN 0
set_option maxRecDepth 100000 in
set_option maxHeartbeats 4000000 in
theorem step22_bad2 (D : Nat) (L : List Nat) (c n r : Nat) (g : Option Nat) (sv : Value) (bit : Int) (w : World) (hd : DB w D L (stt L) (lgs L 15) c n sv) (hs : NAt w sv g (sys L 15)) (hg : ∀ b, g = some b → b ≠ D)
    (hL : ∀ x ∈ L, x ≤ 15) (hl : L.length ≤ 1000) (hc : c ≤ 100000) (hn : n ≤ 1000) (hr : (r : Int) = bit % 2) (hyp : lgs L 15 = n + 1 ∧ fst L (n + 1) + cnt L (n + 1) ≤ c * 2 + r) :
    Calls Try.prog 22 #[.pointer (some ⟨D, 0, none⟩), .int .i64 bit] w fun e w' => e = .returned (.tuple #[.int .i64 0, .bool false, .int .i64 2]) ∧ DB w' D L (stt L) (lgs L 15) 0 0 sv ∧ Fr [D] w w' := by
  have HD := hide hd
  have HS := hide hs
  have HG := hide hg
  have hlg := lgs_le L 15
  obtain ⟨lg, hlgd⟩ : ∃ lg, lg = lgs L 15 := ⟨_, rfl⟩
  rw [← hlgd] at HD hd hlg
  have HLG := hide hlgd
  have c50 := hd.gc
  have c51 := hd.gn
  have f50 := hd.froz 50
  have f51 := hd.froz 51
  have hDl := hd.lt
  have hb1 : bits .and .i64 bit 1 = (r : Int) := by rw [hr]; exact i64_and1 bit
  have hr2 : r < 2 := by omega
  have hor := i64_or1 (c : Int) (r : Int) (by omega) (by omega) (by omega)
  obtain ⟨c1, hc1⟩ : ∃ x : Nat, x = c * 2 + r := ⟨_, rfl⟩
  have hor2 : bits .or .i64 ((c : Int) * 2) (r : Int) = (c1 : Int) := by rw [hor]; omega
  have HC1 := hide hc1
  have hc1b : c1 ≤ 1000000 := by omega
  have HHY := hide hyp
  clear hor hd hs hg hr hc1 hyp hlgd
  have HM := hide (show n + 1 = n + 1 from rfl)
  go_enter Try.func22, Try.ntmps22
  go_upto_region 3 with (fail)
  go_region
  have hn1 : ((n + 1 : Nat) : Int) = (n : Int) + 1 := by omega
  rw [← hn1]
  obtain ⟨w1, hw1⟩ : ∃ w1, w1 = ((w.setCell ⟨D, 50, none⟩ (.int .i64 c1)).setCell ⟨D, 51, none⟩ (.int .i64 ((n + 1 : Nat) : Int))).drew := ⟨_, rfl⟩
  have HD1 : Hid (DB w1 D L (stt L) lg c1 ((n + 1 : Nat) : Int) sv) := hide (by rw [hw1]; exact ((HD.out.setC c1).setN _).keep rfl)
  have HF1 : Hid (Fr [D] w w1) := hide (by rw [hw1]; exact (((Fr.refl [D] w).setCell (.inl (by simp)) _).setCell (.inl (by simp)) _).drew)
  have HS1 : Hid (NAt w1 sv g (sys L 15)) := hide (SlAt.fr HS.out HF1.out (fun b hb => by have := HG.out b hb; simpa using this))
  rw [← hw1]
  clear hw1 c50 c51 f50 f51 hDl hb1 hor2 hn1
  obtain ⟨m, hm⟩ : ∃ m, m = n + 1 := ⟨_, rfl⟩
  rw [← hm] at HD1 HHY ⊢
  have hml : m ≤ 1001 := by omega
  have HMM := hide hm
  clear hm hn
  have hd := HD1.out
  have c49 := hd.glg
  have c50 := hd.gc
  have c51 := hd.gn
  have f50 := hd.froz 50
  have f51 := hd.froz 51
  have hDl := hd.lt
  obtain ⟨y1, y2⟩ := HHY.out
  rw [← HLG.out] at y1
  have hmt := hd.gtab (i := m) (by omega)
  have hmf := hd.gtab (i := 16 + m) (by omega)
  have hms := hd.gst (i := m) (by omega)
  have hmc : tg L m = (cnt L m : Int) := by unfold tg; rw [if_pos (by omega)]
  have hmd : tg L (16 + m) = (fst L m : Int) := by unfold tg; rw [if_neg (by omega), show 16 + m - 16 = m by omega]
  rw [hmc] at hmt
  rw [hmd] at hmf
  obtain ⟨kc, hkc⟩ : ∃ x, x = cnt L m := ⟨_, rfl⟩
  obtain ⟨kf, hkf⟩ : ∃ x, x = fst L m := ⟨_, rfl⟩
  rw [← hkc] at hmt
  rw [← hkf] at hmf
  have hkfb : kf ≤ 16384000 := by
    have := fst_le hL m (by omega)
    omega
  have b0 : (0 : Int) ≤ (m : Int) ∧ (m : Int) < 16 := by omega
  rw [← HC1.out, ← hkf, ← hkc] at y2
  have g1 : decide (m ≤ lg) = true := by simp; omega
  have g2 : decide ((c1 : Int) - (kf : Int) < (kc : Int)) = false := by simp; omega
  have g4 : decide (m < lg) = false := by simp; omega
  have z3 : IntKind.i64.wrap ((c1 : Int) - (kf : Int)) = (c1 : Int) - (kf : Int) := IntWalk.i64_in _ (by omega)
  clear hd y1 y2 hkc hkf hmc hmd
  go_upto_region 5 with (fail)
  go_quiet (fail)
  go_wp2_with fail
  go_ret3
  refine ⟨rfl, ?_, ((HF1.out.drewN _).setCell (.inl (by simp)) _).setCell (.inl (by simp)) _⟩
  rw [← HLG.out]
  exact ((DB.keep (w := w1) HD1.out rfl).setC 0).setN 0
end Go.Proofs.Ythmhcnnigepohaa

