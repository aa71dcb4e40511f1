/- intrusiontop.TopNested: the walk. -/
import Derived.Test.YthmhcnnigepohaaGreatDoorM39
namespace Go.Proofs.YthmhcnnigepohaaGreatDoor.Tp
open Go.RowKit
open If (Grows Ost PS ptr)
open En (In Inflates Along mem inS mem_len slat_some elem9)
open Dg (HashOf Kst)
open Fi (Ch ba ba_data ba_size ba_of ba_ext depth FA Ex hxs fCells gz)
set_option linter.unusedVariables false

/-- The i-th layer, and what is reported of it. -/
theorem at_layer : ∀ (c : Ch) (name : ByteArray) (l : List Value) (i : Nat), FA c name l → i < depth c → ∃ X : List UInt8, (strs c)[i]? = some (.string (ba X)) ∧ l[i * 6 + 1]? = some (.string (ba (X.take 8192))) ∧ l[i * 6 + 2]? = some (.string (hxs X)) ∧ l[i * 6 + 4]? = some (.int .i64 X.length) ∧ l[i * 6 + 5]? = some (.bool true)
  | .leaf X, name, l, i, h, hi => by
    obtain ⟨t, rfl, _⟩ := h
    obtain rfl : i = 0 := by simp only [depth] at hi; omega
    exact ⟨X, rfl, rfl, rfl, rfl, rfl⟩
  | .wrap d st c, name, l, i, h, hi => by
    obtain ⟨t, l', rfl, _, h⟩ := h
    cases i with
    | zero => exact ⟨mem d c.bytes, rfl, rfl, rfl, rfl, rfl⟩
    | succ i =>
      obtain ⟨X, h1, h2, h3, h4, h5⟩ := at_layer c inS l' i h (by simp only [depth] at hi; omega)
      have key : ∀ k, (fCells name (mem d c.bytes) t ++ l')[(i + 1) * 6 + k]? = l'[i * 6 + k]? := fun k => by
        rw [show (i + 1) * 6 + k = i * 6 + k + (fCells name (mem d c.bytes) t).length by show _ = i * 6 + k + 6; omega]
        rw [List.getElem?_append_right (by omega), Nat.add_sub_cancel]
      refine ⟨X, h1, ?_, ?_, ?_, ?_⟩
      · rw [key]; exact h2
      · rw [key]; exact h3
      · rw [key]; exact h4
      · rw [key]; exact h5
/-- The example: three levels above one byte. -/
theorem example_cells {c : Ch} {l : List Value} (hd : depth c = 4) (hi : inner c = [97]) (h : FA c outS l) : l[18 + 1]? = some (.string ⟨#[97]⟩) ∧ l[18]? = some (.string ⟨#[105, 110]⟩) ∧ l[0]? = some (.string ⟨#[111, 117, 116]⟩) ∧ l[3]? = some (.int .i64 2) := by
  match c, hd, hi, h with
  | .wrap d1 s1 (.wrap d2 s2 (.wrap d3 s3 (.leaf X))), hd, hi, h =>
    obtain ⟨t1, l1, rfl, g1, t2, l2, rfl, g2, t3, l3, rfl, g3, t4, rfl, g4⟩ := h
    have hX : X = [97] := hi
    subst hX
    have ht : t1 = 2 := g1.mpr rfl
    subst ht
    exact ⟨rfl, rfl, rfl, rfl⟩
  | .wrap d1 s1 (.wrap d2 s2 (.wrap d3 s3 (.wrap d4 s4 c))), hd, hi, h =>
    have := Fi.depth_pos c
    simp only [depth] at hd
    omega
  | .wrap d1 s1 (.wrap d2 s2 (.leaf X)), hd, hi, h => simp only [depth] at hd; omega
  | .wrap d1 s1 (.leaf X), hd, hi, h => simp only [depth] at hd; omega
  | .leaf X, hd, hi, h => simp only [depth] at hd; omega
set_option maxRecDepth 100000 in
set_option maxHeartbeats 32000000 in
theorem walk (s : ByteArray) (kv : Value) (ks : List Nat) (z : Nat) (W : World) (hk : Kst W) (ho : Ost W) (hkv : BR W kv ks) (hkl : ks.length ≤ 9223372036854775807) (hz : z < 256) : Calls Tryz.prog 3 #[.string s, kv, .int .u8 z] W fun e w' => e = .returned (.bool true) ∧ Fr [] W w' := by
  obtain ⟨B, hB⟩ : ∃ B, B = W.heap.size := ⟨_, rfl⟩
  obtain ⟨w0, hw0⟩ : ∃ x, x = W.alloc (.cells #[.int .u8 0, .int .u8 1, .int .u8 2] 5) := ⟨_, rfl⟩
  have hf0 : Fr [] W w0 := by rw [hw0]; exact (Fr.refl _ _).alloc _
  have hbb : w0.heap[B]? = some (.cells #[.int .u8 0, .int .u8 1, .int .u8 2] 5 (0, 0)) := by rw [hw0]; exact heap_alloc_eq hB
  have hbr0 : BR w0 (.slice (some ⟨B, 0, none⟩) 3 3) [0, 1, 2] := by
    refine ⟨_, 3, rfl, by simp, fun i hi => ⟨_, rfl, ?_⟩⟩
    rw [Addr.add_lit, cell_blk hbb, Nat.zero_add]
    have hi3 : i < 3 := hi
    have : i = 0 ∨ i = 1 ∨ i = 2 := by omega
    rcases this with rfl | rfl | rfl <;> rfl
  have H4 := hide (packed4_any ⟨#[97]⟩ _ [0, 1, 2] w0 hbr0 (by simp) (by decide) (by decide) (ho.fr hf0 (by simp)))
  have HF0 := hide hf0
  have HK := hide hk
  have HO := hide ho
  have HKV := hide hkv
  have HB := hide hB
  have HW0 := hide hw0
  obtain ⟨ka, kc, hkv1, -, -⟩ := hkv
  obtain ⟨kn, hkn⟩ : ∃ n, n = ks.length := ⟨_, rfl⟩
  rw [← hkn] at hkv1 hkl
  have HKN := hide hkn
  subst hkv1
  clear hk ho hB hw0 hf0 hbb hbr0 hkn
  go_enter Tryz.func3, Tryz.ntmps3
  go_wp2_with fail
  rw [← HB.out, ← HW0.out]
  refine (unhide H4).mono ?_
  rintro e w1 ⟨v1, b1, c1, rfl, hs1, hd1, hi1, hsl1, hf1⟩
  have hd1 : depth c1 = 4 := hd1
  have hi1 : inner c1 = [97] := hi1
  rw [hd1] at hsl1
  obtain ⟨o1, p1, rfl, hb1, hcl1⟩ := slat_at hsl1
  have HF1 : Hid (Fr [] W w1) := hide (HF0.out.trans hf1)
  have l10 : w1.cell? ⟨b1, o1, none⟩ = some (.string (ba c1.bytes)) := by
    obtain ⟨r, hr⟩ := layers_head c1
    exact hcl1 0 _ (by unfold strs; rw [hr]; rfl)
  obtain ⟨t1, ht1⟩ : ∃ t, t = ba c1.bytes := ⟨_, rfl⟩
  have H5 := extracted5_any c1 1 w1 (hs1.good (by omega)) (by omega) (by omega) (HK.out.fr HF1.out (by simp)) (HO.out.fr HF1.out (by simp))
  rw [← ht1] at H5 l10
  have H5 := hide H5
  have HC1 := hide (And.intro hd1 hi1)
  clear hs1 hd1 hi1 hsl1 hf1 hcl1 ht1
  go_wp2_with fail
  refine (unhide H5).mono ?_
  rintro e w2 ⟨fv, fb, l, rfl, hfa, hsl, hfb, hf2⟩
  have HF2 : Hid (Fr [] W w2) := hide (HF1.out.trans hf2)
  rw [HC1.out.1] at hsl
  obtain ⟨fo, fp, rfl, hfbl, hcl⟩ := slat_at hsl
  obtain ⟨x1, x2, x3, x4⟩ := example_cells HC1.out.1 HC1.out.2 hfa
  have y1 := hcl _ _ x1
  have y2 := hcl _ _ x2
  have y3 := hcl _ _ x3
  have y4 := hcl _ _ x4
  rw [Nat.add_zero] at y3
  clear hfa hsl hfb hf2 hcl x1 x2 x3 x4
  go_upto_region 5 with fail
  clear y1 y2 y3 y4 l10
  -- where the law has nothing to say
  by_cases q1 : 2000 < s.size
  · have r1 : decide ((s.size : Int) > 2000) = true := by simp; omega
    have r1b : decide ((2000 : Int) < (s.size : Int)) = true := by simp; omega
    go_wp2_with fail
    go_ret
    exact ⟨rfl, HF2.out⟩
  have r1 : decide ((s.size : Int) > 2000) = false := by simp; omega
  have r1b : decide ((2000 : Int) < (s.size : Int)) = false := by simp; omega
  by_cases q2 : 6 < kn
  · have r2 : decide ((kn : Int) > 6) = true := by simp; omega
    have r2b : decide ((6 : Int) < (kn : Int)) = true := by simp; omega
    go_wp2_with fail
    go_ret
    exact ⟨rfl, HF2.out⟩
  have r2 : decide ((kn : Int) > 6) = false := by simp; omega
  have r2b : decide ((6 : Int) < (kn : Int)) = false := by simp; omega
  have HQ : Hid (s.size ≤ 2000 ∧ kn ≤ 6) := hide (by omega)
  by_cases q3 : s.data.toList.head? = some 31
  · obtain ⟨ll, hll⟩ : ∃ ll, s.data.toList = 31 :: ll := by
      cases h : s.data.toList with
      | nil => rw [h] at q3; cases q3
      | cons a b => rw [h] at q3; injection q3 with q3; exact ⟨b, by rw [q3]⟩
    obtain ⟨h0s, hc0, -, -⟩ := En.ba_cons hll
    have r3 : decide ((s.size : Int) ≥ 1) = true := by simp; omega
    have r3b : decide ((1 : Int) ≤ (s.size : Int)) = true := by simp; omega
    have r4 : ((((s[0]'h0s).toNat : Nat) : Int) == 31) = true := by rw [hc0]; rfl
    clear hll q3 hc0
    go_wp2_with fail
    go_ret
    exact ⟨rfl, HF2.out⟩
  have HQ3 := hide q3
  have H4b := packed4_any s _ ks w2 (HKV.out.fr HF2.out) (by rw [← HKN.out]; exact HQ.out.2) HQ.out.1 q3 (HO.out.fr HF2.out (by simp))
  have H4b := hide H4b
  go_cut [72] (fun v wd => v = .bool false ∧ wd = w2)
  case first =>
    cases hll : s.data.toList with
    | nil =>
      have hs0 : s.size = 0 := by
        have : s.size = s.data.toList.length := by rw [Array.length_toList]; rfl
        rw [this, hll]; rfl
      have r3 : decide ((s.size : Int) ≥ 1) = false := by simp; omega
      have r3b : decide ((1 : Int) ≤ (s.size : Int)) = false := by simp; omega
      clear hll hs0
      go_wp2_with fail
      go_meet
      exact ⟨rfl, rfl⟩
    | cons x ll =>
      obtain ⟨h0s, hc0, -, -⟩ := En.ba_cons hll
      have hx : x ≠ 31 := fun e => by rw [hll, e] at q3; exact q3 rfl
      have r3 : decide ((s.size : Int) ≥ 1) = true := by simp; omega
      have r3b : decide ((1 : Int) ≤ (s.size : Int)) = true := by simp; omega
      obtain ⟨xn, hxn⟩ : ∃ n, n = x.toNat := ⟨_, rfl⟩
      have hxn31 : xn ≠ 31 := fun e => hx (UInt8.toNat_inj.mp (by rw [← hxn, e]; rfl))
      have r4 : ((((s[0]'h0s).toNat : Nat) : Int) == 31) = false := by rw [hc0, ← hxn]; simp; omega
      clear hll q3 hc0 hx hxn hxn31
      go_wp2_with fail
      go_meet
      exact ⟨rfl, rfl⟩
  case rest =>
    obtain ⟨rfl, rfl⟩ := hcut
    go_wp2_with fail
    refine (unhide H4b).mono ?_
    rintro e w3 ⟨v2, b2, c2, rfl, hs2, hd2, hi2, hsl2, hf3⟩
    have HF3 : Hid (Fr [] W w3) := hide (HF2.out.trans hf3)
    obtain ⟨o2, p2, rfl, hb2, hcl2⟩ := slat_at hsl2
    obtain ⟨dn, hdn⟩ : ∃ m, m = depth c2 := ⟨_, rfl⟩
    have hdn0 : 0 < dn := by rw [hdn]; exact Fi.depth_pos c2
    have hdn7 : dn ≤ 7 := by have := HQ.out; have := HKN.out; omega
    have l20 : w3.cell? ⟨b2, o2, none⟩ = some (.string (ba c2.bytes)) := by
      obtain ⟨r, hr⟩ := layers_head c2
      exact hcl2 0 _ (by unfold strs; rw [hr]; rfl)
    obtain ⟨t2, ht2⟩ : ∃ t, t = ba c2.bytes := ⟨_, rfl⟩
    have H5b := extracted5_any c2 (z + 1) w3 (hs2.good (by omega)) (by omega) (by omega) (HK.out.fr HF3.out (by simp)) (HO.out.fr HF3.out (by simp))
    rw [← ht2] at H5b l20
    rw [show ((z + 1 : Nat) : Int) = 1 + (z : Int) by omega] at H5b
    have H5b := hide H5b
    rw [← hdn]
    have hw1 : IntKind.i64.wrap (z : Int) = (z : Int) := IntWalk.i64_in _ (by omega)
    have hw2 : IntKind.i64.wrap (1 + (z : Int)) = 1 + (z : Int) := IntWalk.i64_in _ (by omega)
    have HDN := hide hdn
    have HSL2 := hide hsl2
    clear hs2 hd2 hi2 hsl2 hf3 hcl2 ht2 hdn
    go_wp2_with fail
    refine (unhide H5b).mono ?_
    rintro e w4 ⟨fv2, fb2, l2, rfl, hfa2, hsf2, hfb2, hf4⟩
    have HF4 : Hid (Fr [] W w4) := hide (HF3.out.trans hf4)
    rw [← HDN.out] at hsf2
    obtain ⟨o4, p4, rfl, hfbl2, hcf⟩ := slat_at hsf2
    obtain ⟨ob, pb, e1, hb2l, hcs⟩ := slat_at (SlAt.fr HSL2.out hf4 (by simp))
    obtain rfl : ob = o2 := by
      injection e1 with e1 e3 e4
      injection e1 with e1
      injection e1 with e1 e5
      exact e5.symm
    have HCF := hide (And.intro hcf hcs)
    have HFA2 := hide hfa2
    clear hfa2 hsf2 hfb2 hf4 hcf hcs e1 l20
    go_wp2_with fail
    go_loopg [10] (dn + 1) (fun gk sv wr => ∃ i : Nat, gk = dn + 1 - i ∧ i ≤ dn ∧ sv = .int .i64 i ∧ Fr [] w4 wr)
    case atStart => exact ⟨0, rfl, Nat.zero_le _, rfl, Fr.refl _ _⟩
    case round =>
      obtain ⟨i, hgk, hid, rfl, hfr⟩ := hrel
      have HGK := hide hgk
      have HFR := hide hfr
      have HFW : Hid (Fr [] W wr) := hide (HF4.out.trans hfr)
      clear hgk
      by_cases hlt : i < dn
      · obtain ⟨X, x1, x2, x3, x4, x5⟩ := at_layer c2 outS l2 i HFA2.out (by rw [← HDN.out]; exact hlt)
        obtain ⟨t, ht⟩ : ∃ t, t = ba X := ⟨_, rfl⟩
        have hts : t.size = X.length := by rw [ht, ba_size]
        have m0 : wr.cell? ⟨b2, ob + i, none⟩ = some (.string t) := by rw [ht]; exact En.fr_cell hfr (HCF.out.2 _ _ x1)
        by_cases hbig : 8192 < t.size
        · have r5 : decide ((t.size : Int) > 8192) = true := by simp; omega
          have r5b : decide ((8192 : Int) < (t.size : Int)) = true := by simp; omega
          clear hfr x1 x2 x3 x4 x5 ht hts
          go_wp2_with fail
          go_ret
          exact ⟨rfl, HFW.out⟩
        · have r5 : decide ((t.size : Int) > 8192) = false := by simp; omega
          have r5b : decide ((8192 : Int) < (t.size : Int)) = false := by simp; omega
          obtain ⟨hx, hhx⟩ : ∃ y, y = hxs X := ⟨_, rfl⟩
          have hXt : ba (X.take 8192) = t := by rw [ht, List.take_of_length_le (by omega)]
          rw [hXt] at x2
          rw [← hhx] at x3
          rw [← hts] at x4
          have m1 : wr.cell? ⟨fb2, o4 + i * 6 + 1, none⟩ = some (.string t) := by rw [Nat.add_assoc]; exact En.fr_cell hfr (HCF.out.1 _ _ x2)
          have m2 : wr.cell? ⟨fb2, o4 + i * 6 + 2, none⟩ = some (.string hx) := by rw [Nat.add_assoc]; exact En.fr_cell hfr (HCF.out.1 _ _ x3)
          have m4 : wr.cell? ⟨fb2, o4 + i * 6 + 4, none⟩ = some (.int .i64 (t.size : Int)) := by rw [Nat.add_assoc]; exact En.fr_cell hfr (HCF.out.1 _ _ x4)
          have m5 : wr.cell? ⟨fb2, o4 + i * 6 + 5, none⟩ = some (.bool true) := by rw [Nat.add_assoc]; exact En.fr_cell hfr (HCF.out.1 _ _ x5)
          have H6 : Hid (Calls Tryz.prog 6 #[.string t] wr.drew fun e w' => e = .returned (.string hx) ∧ Fr [] wr w') := by
            have h := Dg.hex11_any t wr.drew ((HK.out.fr HFW.out (by simp)).fr (Fr.refl [] wr).drew (by simp)) (by omega)
            refine hide (h.mono ?_)
            rintro e w' ⟨rfl, hf⟩
            refine ⟨?_, ((Fr.refl [] wr).drew).trans hf⟩
            rw [hhx, ht]
            rfl
          have HM := hide (And.intro m0 (And.intro m1 (And.intro m2 (And.intro m4 m5))))
          clear hfr x1 x2 x3 x4 x5 ht hts hhx hXt
          go_upto_region 18 with fail
          go_region_held3 (fun W' => W'.cell? ⟨b2, ob + i, none⟩ = some (.string t) ∧ W'.cell? ⟨fb2, o4 + i * 6 + 1, none⟩ = some (.string t) ∧ W'.cell? ⟨fb2, o4 + i * 6 + 2, none⟩ = some (.string hx) ∧ W'.cell? ⟨fb2, o4 + i * 6 + 4, none⟩ = some (.int .i64 (t.size : Int)) ∧ W'.cell? ⟨fb2, o4 + i * 6 + 5, none⟩ = some (.bool true)) (first | assumption | exact HM.out | exact ⟨En.fr_cell ‹_› HM.out.1, En.fr_cell ‹_› HM.out.2.1, En.fr_cell ‹_› HM.out.2.2.1, En.fr_cell ‹_› HM.out.2.2.2.1, En.fr_cell ‹_› HM.out.2.2.2.2⟩) (first | ((with_reducible refine (unhide H6).mono ?_); rintro e w5 ⟨rfl, hf5⟩))
          have hf5' : Fr [] w4 w5 := HFR.out.trans hf5
          go_wp2_with fail
          go_roundg (dn + 1 - (i + 1))
          case measure => have := HGK.out; omega
          case rel => exact ⟨i + 1, rfl, hlt, by go_num, hf5'⟩
      · go_wp2_with fail
        go_ret
        exact ⟨rfl, HFW.out⟩
end Go.Proofs.YthmhcnnigepohaaGreatDoor.Tp
