/-
  The law BudgetPlays: any calls of a pool (up to 80; longer lists: the statement's own example) answer as the reference's. Conditions: none.
  (The row's frame is printed by rowev.py, my own program.)
-/
import Derived.Test.YtnghfmefjjkgdaaCalls
import Derived.WalkKit
import Derived.OpenShut
namespace Go.Proofs.Ytnghfmefjjkgdaa.budgetPlays
open Go.ChangeShapes Go.WideShapes Go.ChangeAt Go.RowKit
set_option linter.unusedVariables false

theorem own : ownKnob Try.prog.godebug = none := by kernel_rfl

theorem _root_.Go.Proofs.Ytnghfmefjjkgdaa.PInv.more {p : Pl} {k : Nat} (h : PInv p k) : PInv p (k + 1) := ⟨h.total, h.left, h.keys, h.acc, h.used, by have := h.len; omega⟩

set_option maxRecDepth 100000 in
set_option maxHeartbeats 2000000 in
theorem walk (a0 : Int) (a1 : Option Addr) (L1 cap1 : Nat) (ev1 : Nat → Cl) (a2 : Int) (w : World) (hev : ClsAt w a1 L1 ev1) :
    Calls Try.prog 9 #[.int .i64 a0, .slice a1 L1 cap1, .int .i64 a2] w fun e w' => e = .returned (.bool true) ∧ Fr [] w w' := by
  by_cases hbig : 80 < L1
  · clear hev
    go_enter Try.func9, Try.ntmps9
    go_wp2_with (go_at_call 21; refine (awake_any _).mono ?_; rintro e w' ⟨rfl, hf⟩)
    go_ret
    exact ⟨rfl, hf⟩
  have HEV := hide hev
  clear hev
  go_enter Try.func9, Try.ntmps9
  go_wp2_with fail
  refine (pnew_any a0 _).mono ?_
  rintro e w1 ⟨rfl, hp1, hf1, hs1⟩
  have HP1 := hide hp1
  have HF1 := hide hf1
  clear hp1 hf1
  go_wp2_with fail
  refine (rnew_any54 a0 _).mono ?_
  rintro e w2 ⟨rfl, hr2, hf2, hs2⟩
  have HT2 : Hid (TwoAt w w2 (w.heap.size + 1) w.heap.size w1.heap.size (.slice none 0 0) none (pl0 a0) (pl0 a0) 0) :=
    ⟨HP1.out.fr hf2 (by simp) (by simp), hr2, PInv.start _, PTwin.start _, HF1.out.andThen hf2 (by simp), by omega, by omega, by simp⟩
  clear hr2 hf2
  obtain ⟨rp, hrp⟩ : ∃ rp, rp = w1.heap.size := ⟨_, rfl⟩
  rw [← hrp] at HT2 ⊢
  clear hrp hs1 hs2 HP1 HF1
  go_wp2_with fail
  go_loopg [9] (L1 + 1) (fun gk i wr => ∃ (k : Nat) (rv : Value) (g : Option Nat) (p r : Pl), gk = L1 + 1 - k ∧ k ≤ L1 ∧ i = .int .i64 k ∧ TwoAt w wr (w.heap.size + 1) w.heap.size rp rv g p r k)
  case atStart => exact ⟨0, _, _, _, _, rfl, by omega, rfl, HT2.out⟩
  case round =>
    obtain ⟨k, rv, g, p, r, hgk, hk, rfl, htwo⟩ := hrel
    have HGK := hide hgk
    have HTW := hide htwo
    clear hgk htwo
    by_cases hlt : k < L1
    · obtain ⟨b, off, rfl, hcs⟩ := HEV.out (by omega)
      obtain ⟨c, hc⟩ : ∃ c, c = ev1 k := ⟨_, rfl⟩
      have hcw := hcs k hlt
      rw [← hc] at hcw
      clear hc hcs
      obtain ⟨kd, ow, nn, vl⟩ := c
      have e0 : w.cell? ⟨b, off + k * 4, none⟩ = some (.int .i64 kd) := hcw 0 _ rfl
      have e1 : w.cell? ⟨b, off + k * 4 + 1, none⟩ = some (.int .i64 ow) := hcw 1 _ rfl
      have e2 : w.cell? ⟨b, off + k * 4 + 2, none⟩ = some (.int .i64 nn) := hcw 2 _ rfl
      have e3 : w.cell? ⟨b, off + k * 4 + 3, none⟩ = some (.int .i64 vl) := hcw 3 _ rfl
      have hb := World.block_lt_of_cell? w _ e0
      have hfr := HTW.out.fr
      rw [← World.cell?_of_block (hfr.block b hb (by simp))] at e0 e1 e2 e3
      have hbr : b < wr.heap.size := by have := hfr.size; have hb2 : b < w.heap.size := hb; omega
      clear hcw hfr hb
      go_upto_region 11 with (fail)
      have hX : (wr.alloc (.cells #[.int .i64 kd, .int .i64 ow, .int .i64 nn, .int .i64 vl] 55)).heap[wr.heap.size]? = some (.cells #[.int .i64 kd, .int .i64 ow, .int .i64 nn, .int .i64 vl] 55 (0, 0)) := heap_alloc_eq rfl
      have HTX := hide (HTW.out.keep ((Fr.refl [] wr).alloc (.cells #[.int .i64 kd, .int .i64 ow, .int .i64 nn, .int .i64 vl] 55)))
      have hXw : w.heap.size ≤ wr.heap.size := HTW.out.fr.size
      have hXne : wr.heap.size ≠ w.heap.size + 1 ∧ wr.heap.size ≠ w.heap.size ∧ wr.heap.size ≠ rp := by
        have h1 := lt_of_blk HTW.out.P.blk
        have h2 := HTW.out.P.map.lt
        have h3 := lt_of_blk HTW.out.R.blk
        omega
      obtain ⟨X, hXe⟩ : ∃ X, X = wr.heap.size := ⟨_, rfl⟩
      rw [← hXe] at hX hXw hXne ⊢
      generalize wr.alloc (.cells #[.int .i64 kd, .int .i64 ow, .int .i64 nn, .int .i64 vl] 55) = wx at *
      clear hXe e0 e1 e2 e3 HTW hbr
      by_cases h0 : kd = 0
      · subst h0
        have x0 : wx.cell? ⟨X, 0, none⟩ = some (.int .i64 0) := cell_blk hX 0
        have x1 : wx.cell? ⟨X, 1, none⟩ = some (.int .i64 ow) := cell_blk hX 1
        have x2 : wx.cell? ⟨X, 2, none⟩ = some (.int .i64 nn) := cell_blk hX 2
        have x3 : wx.cell? ⟨X, 3, none⟩ = some (.int .i64 vl) := cell_blk hX 3
        have xf0 : wx.frozen? ⟨X, 0, none⟩ = false := froz_blk hX 0
        have xf1 : wx.frozen? ⟨X, 1, none⟩ = false := froz_blk hX 1
        have xf2 : wx.frozen? ⟨X, 2, none⟩ = false := froz_blk hX 2
        have xf3 : wx.frozen? ⟨X, 3, none⟩ = false := froz_blk hX 3
        have H24 := hide (pset_any _ _ p ow nn vl wx HTX.out.P (HTX.out.inv.ok (by omega)))
        go_wp2_with fail
        refine (unhide H24).mono ?_
        rintro e w3 ⟨rfl, hp3, hf3⟩
        have hX3 := (hf3.block X (lt_of_blk hX) (by simp; omega)).trans hX
        have hrinv := HTX.out.inv.perm HTX.out.twin
        have H25 := hide (rset_any rp rv g r ow nn vl w3 (HTX.out.R.fr hf3 (by have := HTX.out.ne; simp; omega) (fun b hb => by have := HTX.out.apart b hb; simp; omega)) (hrinv.small (by omega)) (by have := hrinv.len; omega) hrinv.total)
        have HP3 := hide hp3
        have HF3 := hide hf3
        clear hp3 hf3 hrinv x0 x1 x2 x3 xf0 xf1 xf2 xf3
        have x0 : w3.cell? ⟨X, 0, none⟩ = some (.int .i64 0) := cell_blk hX3 0
        have x1 : w3.cell? ⟨X, 1, none⟩ = some (.int .i64 ow) := cell_blk hX3 1
        have x2 : w3.cell? ⟨X, 2, none⟩ = some (.int .i64 nn) := cell_blk hX3 2
        have x3 : w3.cell? ⟨X, 3, none⟩ = some (.int .i64 vl) := cell_blk hX3 3
        have xf0 : w3.frozen? ⟨X, 0, none⟩ = false := froz_blk hX3 0
        have xf1 : w3.frozen? ⟨X, 1, none⟩ = false := froz_blk hX3 1
        have xf2 : w3.frozen? ⟨X, 2, none⟩ = false := froz_blk hX3 2
        have xf3 : w3.frozen? ⟨X, 3, none⟩ = false := froz_blk hX3 3
        go_wp2_with fail
        refine (unhide H25).mono ?_
        rintro e wz ⟨rv', g', rfl, hr4, hf4, hg4⟩
        have HZ := hide (HTX.out.step HP3.out HF3.out (fun _ => ⟨hr4, hf4, hg4⟩) (HTX.out.inv.set ow nn vl) (HTX.out.twin.set HTX.out.inv ow nn vl))
        obtain ⟨p', hp'⟩ : ∃ p', p' = setPl p ow nn vl := ⟨_, rfl⟩
        obtain ⟨r', hr'⟩ : ∃ r', r' = rsetPl r ow nn vl := ⟨_, rfl⟩
        rw [← hp', ← hr'] at HZ
        clear hr4 hf4 hg4 hp' hr' x0 x1 x2 x3 xf0 xf1 xf2 xf3 hX hX3 HP3 HF3
        have HS' := hide (HZ.out.inv.perm HZ.out.twin)
        obtain ⟨us, hus⟩ : ∃ x, x = p'.used := ⟨_, rfl⟩
        obtain ⟨pk, hpk⟩ : ∃ x, x = p'.peak := ⟨_, rfl⟩
        obtain ⟨pc, hpc⟩ : ∃ x, x = pcnt p' 6 := ⟨_, rfl⟩
        obtain ⟨lf, hlf⟩ : ∃ x, x = p'.left := ⟨_, rfl⟩
        obtain ⟨io, hio⟩ : ∃ x, x = isOff p' a2 := ⟨_, rfl⟩
        have HO1 := pused_any _ _ p' wz HZ.out.P
        have HO2 := rused_any _ _ _ r' wz HZ.out.R (HS'.out.small (by omega))
        have HO3 := ppeak_any _ _ p' wz HZ.out.P
        have HO4 := rpeak_any _ _ _ r' wz HZ.out.R
        have HO5 := ppressure_any _ _ p' wz HZ.out.P
        have HO6 := rpressure_any _ _ _ r' wz HZ.out.R
        have HO7 := hide (pvictim_any _ _ p' _ wz HZ.out.P HZ.out.inv)
        rw [← HS'.out.used, ← HZ.out.twin.used, ← hus] at HO2
        rw [← HZ.out.twin.peak, ← hpk] at HO4
        rw [← pcnt_congr HZ.out.twin.off, ← hpc] at HO6
        rw [← hus] at HO1
        rw [← hpk] at HO3
        rw [← hpc] at HO5
        have HO1 := hide HO1
        have HO2 := hide HO2
        have HO3 := hide HO3
        have HO4 := hide HO4
        have HO5 := hide HO5
        have HO6 := hide HO6
        have HLF := hide hlf
        have HIO := hide hio
        clear hus hpk hpc hlf hio
        go_wp2_with (first | (go_at_call 30; with_reducible refine (unhide HO1).mono ?_; rintro e wy ⟨rfl, rfl⟩) | (go_at_call 31; with_reducible refine (unhide HO2).mono ?_; rintro e wy ⟨rfl, rfl⟩) | (go_at_call 32; with_reducible refine (unhide HO3).mono ?_; rintro e wy ⟨rfl, rfl⟩) | (go_at_call 33; with_reducible refine (unhide HO4).mono ?_; rintro e wy ⟨rfl, rfl⟩) | (go_at_call 34; with_reducible refine (unhide HO5).mono ?_; rintro e wy ⟨rfl, rfl⟩) | (go_at_call 35; with_reducible refine (unhide HO6).mono ?_; rintro e wy ⟨rfl, rfl⟩))
        refine (unhide HO7).mono ?_
        rintro e wv ⟨v, rfl, hv, hfv⟩
        have HZ2 := hide (HZ.out.keep hfv)
        have HV := hide hv
        clear hv hfv
        go_wp2_with fail
        refine (rvictim_any _ _ _ r' _ wv HZ2.out.R (HS'.out.small (by omega)) HS'.out).mono ?_
        rintro e wu ⟨u, rfl, hu, hfu⟩
        have huv : v = u := HV.out.unique HZ.out.twin hu
        subst huv
        have HZ3 := hide (HZ2.out.keep hfu)
        clear hu hfu
        have HO8 := pleft_any _ _ p' wu HZ3.out.P
        have HO9 := rleft_any _ _ _ r' wu HZ3.out.R
        have HOA := poff_any _ _ p' a2 wu HZ3.out.P
        have HOB := roff_any _ _ _ r' a2 wu HZ3.out.R
        rw [← HZ.out.twin.left, ← HLF.out] at HO9
        rw [← isOff_congr HZ.out.twin.off, ← HIO.out] at HOB
        rw [← HLF.out] at HO8
        rw [← HIO.out] at HOA
        have HO8 := hide HO8
        have HO9 := hide HO9
        have HOA := hide HOA
        have HOB := hide HOB
        go_wp2_with (first | (go_at_call 38; with_reducible refine (unhide HO8).mono ?_; rintro e wy ⟨rfl, rfl⟩) | (go_at_call 39; with_reducible refine (unhide HO9).mono ?_; rintro e wy ⟨rfl, rfl⟩) | (go_at_call 40; with_reducible refine (unhide HOA).mono ?_; rintro e wy ⟨rfl, rfl⟩) | (go_at_call 41; with_reducible refine (unhide HOB).mono ?_; rintro e wy ⟨rfl, rfl⟩))
        go_roundg (L1 + 1 - (k + 1))
        case measure => have := HGK.out; omega
        case rel => exact ⟨k + 1, rv', g', p', r', rfl, by omega, by go_num, HZ3.out⟩
      · by_cases h1 : kd = 1
        · subst h1
          have x0 : wx.cell? ⟨X, 0, none⟩ = some (.int .i64 1) := cell_blk hX 0
          have x1 : wx.cell? ⟨X, 1, none⟩ = some (.int .i64 ow) := cell_blk hX 1
          have x2 : wx.cell? ⟨X, 2, none⟩ = some (.int .i64 nn) := cell_blk hX 2
          have x3 : wx.cell? ⟨X, 3, none⟩ = some (.int .i64 vl) := cell_blk hX 3
          have xf0 : wx.frozen? ⟨X, 0, none⟩ = false := froz_blk hX 0
          have xf1 : wx.frozen? ⟨X, 1, none⟩ = false := froz_blk hX 1
          have xf2 : wx.frozen? ⟨X, 2, none⟩ = false := froz_blk hX 2
          have xf3 : wx.frozen? ⟨X, 3, none⟩ = false := froz_blk hX 3
          have H26 := hide (ppacket_any _ _ p nn wx HTX.out.P)
          go_wp2_with fail
          refine (unhide H26).mono ?_
          rintro e w3 ⟨rfl, hp3, hf3⟩
          have hX3 := (hf3.block X (lt_of_blk hX) (by simp; omega)).trans hX
          have H27 := hide (rpacket_any rp rv g r nn w3 (HTX.out.R.fr hf3 (by have := HTX.out.ne; simp; omega) (fun b hb => by have := HTX.out.apart b hb; simp; omega)))
          have HP3 := hide hp3
          have HF3 := hide hf3
          clear hp3 hf3 x0 x1 x2 x3 xf0 xf1 xf2 xf3
          have x0 : w3.cell? ⟨X, 0, none⟩ = some (.int .i64 1) := cell_blk hX3 0
          have x1 : w3.cell? ⟨X, 1, none⟩ = some (.int .i64 ow) := cell_blk hX3 1
          have x2 : w3.cell? ⟨X, 2, none⟩ = some (.int .i64 nn) := cell_blk hX3 2
          have x3 : w3.cell? ⟨X, 3, none⟩ = some (.int .i64 vl) := cell_blk hX3 3
          have xf0 : w3.frozen? ⟨X, 0, none⟩ = false := froz_blk hX3 0
          have xf1 : w3.frozen? ⟨X, 1, none⟩ = false := froz_blk hX3 1
          have xf2 : w3.frozen? ⟨X, 2, none⟩ = false := froz_blk hX3 2
          have xf3 : w3.frozen? ⟨X, 3, none⟩ = false := froz_blk hX3 3
          go_wp2_with fail
          refine (unhide H27).mono ?_
          rintro e wz ⟨rfl, hr4, hf4⟩
          obtain ⟨rv', hrv'⟩ : ∃ x, x = rv := ⟨_, rfl⟩
          obtain ⟨g', hg'⟩ : ∃ x, x = g := ⟨_, rfl⟩
          have HZ := hide (HTX.out.step (k' := k + 1) HP3.out (HF3.out.mono (by simp)) (fun _ => ⟨hr4, hf4, fun b hb => .inl hb⟩) ((HTX.out.inv.setLeft (grant_bd nn)).more) (HTX.out.twin.setLeft _))
          rw [← hrv', ← hg'] at HZ
          obtain ⟨p', hp'⟩ : ∃ p' : Pl, p' = { p with left := grant nn } := ⟨_, rfl⟩
          obtain ⟨r', hr'⟩ : ∃ r' : Pl, r' = { r with left := grant nn } := ⟨_, rfl⟩
          rw [← hp', ← hr'] at HZ
          clear hr4 hf4 hp' hr' x0 x1 x2 x3 xf0 xf1 xf2 xf3 hX hX3 HP3 HF3 hrv' hg'
          have HS' := hide (HZ.out.inv.perm HZ.out.twin)
          obtain ⟨us, hus⟩ : ∃ x, x = p'.used := ⟨_, rfl⟩
          obtain ⟨pk, hpk⟩ : ∃ x, x = p'.peak := ⟨_, rfl⟩
          obtain ⟨pc, hpc⟩ : ∃ x, x = pcnt p' 6 := ⟨_, rfl⟩
          obtain ⟨lf, hlf⟩ : ∃ x, x = p'.left := ⟨_, rfl⟩
          obtain ⟨io, hio⟩ : ∃ x, x = isOff p' a2 := ⟨_, rfl⟩
          have HO1 := pused_any _ _ p' wz HZ.out.P
          have HO2 := rused_any _ _ _ r' wz HZ.out.R (HS'.out.small (by omega))
          have HO3 := ppeak_any _ _ p' wz HZ.out.P
          have HO4 := rpeak_any _ _ _ r' wz HZ.out.R
          have HO5 := ppressure_any _ _ p' wz HZ.out.P
          have HO6 := rpressure_any _ _ _ r' wz HZ.out.R
          have HO7 := hide (pvictim_any _ _ p' _ wz HZ.out.P HZ.out.inv)
          rw [← HS'.out.used, ← HZ.out.twin.used, ← hus] at HO2
          rw [← HZ.out.twin.peak, ← hpk] at HO4
          rw [← pcnt_congr HZ.out.twin.off, ← hpc] at HO6
          rw [← hus] at HO1
          rw [← hpk] at HO3
          rw [← hpc] at HO5
          have HO1 := hide HO1
          have HO2 := hide HO2
          have HO3 := hide HO3
          have HO4 := hide HO4
          have HO5 := hide HO5
          have HO6 := hide HO6
          have HLF := hide hlf
          have HIO := hide hio
          clear hus hpk hpc hlf hio
          go_wp2_with (first | (go_at_call 30; with_reducible refine (unhide HO1).mono ?_; rintro e wy ⟨rfl, rfl⟩) | (go_at_call 31; with_reducible refine (unhide HO2).mono ?_; rintro e wy ⟨rfl, rfl⟩) | (go_at_call 32; with_reducible refine (unhide HO3).mono ?_; rintro e wy ⟨rfl, rfl⟩) | (go_at_call 33; with_reducible refine (unhide HO4).mono ?_; rintro e wy ⟨rfl, rfl⟩) | (go_at_call 34; with_reducible refine (unhide HO5).mono ?_; rintro e wy ⟨rfl, rfl⟩) | (go_at_call 35; with_reducible refine (unhide HO6).mono ?_; rintro e wy ⟨rfl, rfl⟩))
          refine (unhide HO7).mono ?_
          rintro e wv ⟨v, rfl, hv, hfv⟩
          have HZ2 := hide (HZ.out.keep hfv)
          have HV := hide hv
          clear hv hfv
          go_wp2_with fail
          refine (rvictim_any _ _ _ r' _ wv HZ2.out.R (HS'.out.small (by omega)) HS'.out).mono ?_
          rintro e wu ⟨u, rfl, hu, hfu⟩
          have huv : v = u := HV.out.unique HZ.out.twin hu
          subst huv
          have HZ3 := hide (HZ2.out.keep hfu)
          clear hu hfu
          have HO8 := pleft_any _ _ p' wu HZ3.out.P
          have HO9 := rleft_any _ _ _ r' wu HZ3.out.R
          have HOA := poff_any _ _ p' a2 wu HZ3.out.P
          have HOB := roff_any _ _ _ r' a2 wu HZ3.out.R
          rw [← HZ.out.twin.left, ← HLF.out] at HO9
          rw [← isOff_congr HZ.out.twin.off, ← HIO.out] at HOB
          rw [← HLF.out] at HO8
          rw [← HIO.out] at HOA
          have HO8 := hide HO8
          have HO9 := hide HO9
          have HOA := hide HOA
          have HOB := hide HOB
          go_wp2_with (first | (go_at_call 38; with_reducible refine (unhide HO8).mono ?_; rintro e wy ⟨rfl, rfl⟩) | (go_at_call 39; with_reducible refine (unhide HO9).mono ?_; rintro e wy ⟨rfl, rfl⟩) | (go_at_call 40; with_reducible refine (unhide HOA).mono ?_; rintro e wy ⟨rfl, rfl⟩) | (go_at_call 41; with_reducible refine (unhide HOB).mono ?_; rintro e wy ⟨rfl, rfl⟩))
          go_roundg (L1 + 1 - (k + 1))
          case measure => have := HGK.out; omega
          case rel => exact ⟨k + 1, rv', g', p', r', rfl, by omega, by go_num, HZ3.out⟩
        · have hk0 : (kd == 0) = false := by simpa using h0
          have hk1 : (kd == 1) = false := by simpa using h1
          have x0 : wx.cell? ⟨X, 0, none⟩ = some (.int .i64 kd) := cell_blk hX 0
          have x1 : wx.cell? ⟨X, 1, none⟩ = some (.int .i64 ow) := cell_blk hX 1
          have x2 : wx.cell? ⟨X, 2, none⟩ = some (.int .i64 nn) := cell_blk hX 2
          have x3 : wx.cell? ⟨X, 3, none⟩ = some (.int .i64 vl) := cell_blk hX 3
          have xf0 : wx.frozen? ⟨X, 0, none⟩ = false := froz_blk hX 0
          have xf1 : wx.frozen? ⟨X, 1, none⟩ = false := froz_blk hX 1
          have xf2 : wx.frozen? ⟨X, 2, none⟩ = false := froz_blk hX 2
          have xf3 : wx.frozen? ⟨X, 3, none⟩ = false := froz_blk hX 3
          have htl := HTX.out.twin.left
          obtain ⟨m, hm⟩ : ∃ m, m = min (max nn 0) p.left := ⟨_, rfl⟩
          have hmb : 0 ≤ m ∧ m ≤ p.left := by have := HTX.out.inv.left; omega
          have HAp : Hid (∀ W, PoolIs W (w.heap.size + 1) w.heap.size p → Calls Try.prog 28 #[.pointer (some ⟨w.heap.size + 1, 0, none⟩), .int .i64 nn] W fun e w' => e = .returned (.int .i64 m) ∧ PoolIs w' (w.heap.size + 1) w.heap.size { p with left := p.left - m } ∧ Fr [w.heap.size + 1] W w') := by
            show ∀ W, _ → _
            intro W hW
            rw [hm]
            exact pspend_any _ _ p nn W hW HTX.out.inv.left
          have HAr : Hid (∀ W, RPoolIs W rp rv g r → Calls Try.prog 29 #[.pointer (some ⟨rp, 0, none⟩), .int .i64 nn] W fun e w' => e = .returned (.int .i64 m) ∧ RPoolIs w' rp rv g { r with left := p.left - m } ∧ Fr [rp] W w') := by
            show ∀ W, _ → _
            intro W hW
            have := rspend_any rp rv g r nn W hW (by rw [← htl]; exact HTX.out.inv.left)
            rw [← htl, ← hm] at this
            exact this
          have hXX := hide hX
          go_upto_region 12 with (fail)
          go_cut [41] from 33 to 41 (fun s wd => s = .bool false ∧ TwoAt w wd (w.heap.size + 1) w.heap.size rp rv g { p with left := p.left - m } { r with left := p.left - m } (k + 1))
          case first =>
            have HTD := hide (HTX.out.keep ((Fr.refl [] wx).drew))
            have hXl := lt_of_blk hX
            have hxb1 : X ≠ w.heap.size + 1 := hXne.1
            have H28 : Hid (Calls Try.prog 28 #[.pointer (some ⟨w.heap.size + 1, 0, none⟩), .int .i64 nn] wx.drew fun e w' => e = .returned (.int .i64 m) ∧ Hid (PoolIs w' (w.heap.size + 1) w.heap.size { p with left := p.left - m }) ∧ Hid (Fr [w.heap.size + 1] wx.drew w') ∧ Hid (RPoolIs w' rp rv g r) ∧ w'.cell? ⟨X, 2, none⟩ = some (.int .i64 nn)) := by
              show Calls _ _ _ _ _
              refine (HAp.out wx.drew HTD.out.P).mono ?_
              rintro e w3 ⟨he, hp3, hf3⟩
              refine ⟨he, hp3, hf3, HTD.out.R.fr hf3 (by have := HTX.out.ne; simp; omega) (fun b hb => by have := HTX.out.apart b hb; simp; omega), ?_⟩
              have hX3 : w3.heap[X]? = _ := (hf3.block X hXl (by simp; omega)).trans hXX.out
              rw [cell_blk hX3]
              rfl
            go_region_with (first
              | (go_at_call 28; with_reducible refine (unhide H28).mono ?_; rintro e w3 ⟨rfl, HP3, HF3, HR3, y2⟩)
              | (go_at_call 29; with_reducible refine (HAr.out _ HR3.out).mono ?_; rintro e w4 ⟨rfl, hr4, hf4⟩))
            all_goals
              go_wp2
              go_meet
              case rel => exact ⟨by simp, HTD.out.step (k' := k + 1) HP3.out (HF3.out.mono (by simp)) (fun _ => ⟨hr4, hf4, fun b hb => .inl hb⟩) ((HTX.out.inv.setLeft (by have := HTX.out.inv.left; omega)).more) (HTX.out.twin.setLeft _)⟩
          case rest =>
          obtain ⟨rfl, hz⟩ := hcut
          obtain ⟨wz, hwz⟩ : ∃ x, x = wc := ⟨_, rfl⟩
          obtain ⟨rv', hrv'⟩ : ∃ x, x = rv := ⟨_, rfl⟩
          obtain ⟨g', hg'⟩ : ∃ x, x = g := ⟨_, rfl⟩
          obtain ⟨p', hp'⟩ : ∃ p' : Pl, p' = { p with left := p.left - m } := ⟨_, rfl⟩
          obtain ⟨r', hr'⟩ : ∃ r' : Pl, r' = { r with left := p.left - m } := ⟨_, rfl⟩
          rw [← hp', ← hr', ← hrv', ← hg', ← hwz] at hz
          rw [← hwz]
          have HZ := hide hz
          clear hz hp' hr' hrv' hg' hwz x0 x1 x2 x3 xf0 xf1 xf2 xf3 hX
          have HS' := hide (HZ.out.inv.perm HZ.out.twin)
          obtain ⟨us, hus⟩ : ∃ x, x = p'.used := ⟨_, rfl⟩
          obtain ⟨pk, hpk⟩ : ∃ x, x = p'.peak := ⟨_, rfl⟩
          obtain ⟨pc, hpc⟩ : ∃ x, x = pcnt p' 6 := ⟨_, rfl⟩
          obtain ⟨lf, hlf⟩ : ∃ x, x = p'.left := ⟨_, rfl⟩
          obtain ⟨io, hio⟩ : ∃ x, x = isOff p' a2 := ⟨_, rfl⟩
          have HO1 := pused_any _ _ p' wz HZ.out.P
          have HO2 := rused_any _ _ _ r' wz HZ.out.R (HS'.out.small (by omega))
          have HO3 := ppeak_any _ _ p' wz HZ.out.P
          have HO4 := rpeak_any _ _ _ r' wz HZ.out.R
          have HO5 := ppressure_any _ _ p' wz HZ.out.P
          have HO6 := rpressure_any _ _ _ r' wz HZ.out.R
          have HO7 := hide (pvictim_any _ _ p' _ wz HZ.out.P HZ.out.inv)
          rw [← HS'.out.used, ← HZ.out.twin.used, ← hus] at HO2
          rw [← HZ.out.twin.peak, ← hpk] at HO4
          rw [← pcnt_congr HZ.out.twin.off, ← hpc] at HO6
          rw [← hus] at HO1
          rw [← hpk] at HO3
          rw [← hpc] at HO5
          have HO1 := hide HO1
          have HO2 := hide HO2
          have HO3 := hide HO3
          have HO4 := hide HO4
          have HO5 := hide HO5
          have HO6 := hide HO6
          have HLF := hide hlf
          have HIO := hide hio
          clear hus hpk hpc hlf hio
          go_wp2_with (first | (go_at_call 30; with_reducible refine (unhide HO1).mono ?_; rintro e wy ⟨rfl, rfl⟩) | (go_at_call 31; with_reducible refine (unhide HO2).mono ?_; rintro e wy ⟨rfl, rfl⟩) | (go_at_call 32; with_reducible refine (unhide HO3).mono ?_; rintro e wy ⟨rfl, rfl⟩) | (go_at_call 33; with_reducible refine (unhide HO4).mono ?_; rintro e wy ⟨rfl, rfl⟩) | (go_at_call 34; with_reducible refine (unhide HO5).mono ?_; rintro e wy ⟨rfl, rfl⟩) | (go_at_call 35; with_reducible refine (unhide HO6).mono ?_; rintro e wy ⟨rfl, rfl⟩))
          refine (unhide HO7).mono ?_
          rintro e wv ⟨v, rfl, hv, hfv⟩
          have HZ2 := hide (HZ.out.keep hfv)
          have HV := hide hv
          clear hv hfv
          go_wp2_with fail
          refine (rvictim_any _ _ _ r' _ wv HZ2.out.R (HS'.out.small (by omega)) HS'.out).mono ?_
          rintro e wu ⟨u, rfl, hu, hfu⟩
          have huv : v = u := HV.out.unique HZ.out.twin hu
          subst huv
          have HZ3 := hide (HZ2.out.keep hfu)
          clear hu hfu
          have HO8 := pleft_any _ _ p' wu HZ3.out.P
          have HO9 := rleft_any _ _ _ r' wu HZ3.out.R
          have HOA := poff_any _ _ p' a2 wu HZ3.out.P
          have HOB := roff_any _ _ _ r' a2 wu HZ3.out.R
          rw [← HZ.out.twin.left, ← HLF.out] at HO9
          rw [← isOff_congr HZ.out.twin.off, ← HIO.out] at HOB
          rw [← HLF.out] at HO8
          rw [← HIO.out] at HOA
          have HO8 := hide HO8
          have HO9 := hide HO9
          have HOA := hide HOA
          have HOB := hide HOB
          go_wp2_with (first | (go_at_call 38; with_reducible refine (unhide HO8).mono ?_; rintro e wy ⟨rfl, rfl⟩) | (go_at_call 39; with_reducible refine (unhide HO9).mono ?_; rintro e wy ⟨rfl, rfl⟩) | (go_at_call 40; with_reducible refine (unhide HOA).mono ?_; rintro e wy ⟨rfl, rfl⟩) | (go_at_call 41; with_reducible refine (unhide HOB).mono ?_; rintro e wy ⟨rfl, rfl⟩))
          go_roundg (L1 + 1 - (k + 1))
          case measure => have := HGK.out; omega
          case rel => exact ⟨k + 1, rv', g', p', r', rfl, by omega, by go_num, HZ3.out⟩
    · have hk1 : k = L1 := by omega
      subst hk1
      have HA := hide (awake_any wr)
      go_wp2_with (go_at_call 21; with_reducible refine (unhide HA).mono ?_; rintro e wy ⟨rfl, hfa⟩)
      go_ret
      exact ⟨rfl, HTW.out.fr.andThen hfa (by simp)⟩

/-! ### The row -/
set_option maxRecDepth 100000 in
theorem lifted (os : Os) (started : os.Started) (H : Type) (enc : TypeId × Value → H) :
    ReturnsInHanded {} Try.checked os 9 .any (Rows.budgetPlaysSpec.pre6 enc Try.prog Try.f9 Rows.budgetPlaysRow.domain false) (Rows.budgetPlaysSpec.post enc Try.prog Try.f9 false true false false) := by
  refine returnsInHanded_of_change (C := Try.checked) own started (by kernel_rfl) Try.func9
    (ChangeSpec.witness6 (enc := enc) (C := Try.checked) false ⟨#[], #[.int .i64 0, .slice none 0 0, .int .i64 0], []⟩ 8 (by kernel_rfl) (by kernel_rfl) (by kernel_rfl) (by kernel_rfl)) ?_
  intro W base args ds gs before hval0 hW hcnd _
  have hval : ∀ (j : Nat) t v, Try.f9.params[j]? = some t → args[j]? = some v → Value.okWide Try.prog W .any base t v := hval0
  have hW' := hW
  obtain ⟨p, q, hA0, hV, rfl, hfz, hnd⟩ := hW
  have hA : DataW.TrodAll enc Try.prog W 0 (fun _ => true) true Try.f9.params.toList args.toList ds p := hA0
  rw [Try.params9] at hA hval
  obtain ⟨v0, vs0, d0, ds0, p0, q0, hargs, rfl, rfl, h0, r0⟩ := trodAll_cons hA
  obtain ⟨v1, vs1, d1, ds1, p1, q1, rfl, rfl, rfl, h1, r1⟩ := trodAll_cons r0
  obtain ⟨v2, vs2, d2, ds2, p2, q2, rfl, rfl, rfl, h2, r2⟩ := trodAll_cons r1
  obtain ⟨rfl, rfl, rfl⟩ := trodAll_nil r2
  obtain rfl : args = #[v0, v1, v2] := by cases args; simp_all
  obtain ⟨rfl, rfl⟩ := trodVars_none hV
  obtain ⟨a0, rfl, rfl, rfl, w0⟩ := open_int Try.underlying3 (hval 0 3 v0 rfl rfl) h0
  have h1k := h1
  obtain ⟨a1, L1, cap1, ev1, rfl, hev1⟩ := open_cls (hval 1 49 v1 rfl rfl) h1
  obtain ⟨a2, rfl, rfl, rfl, w2⟩ := open_int Try.underlying3 (hval 2 3 v2 rfl rfl) h2
  clear hA0 hval0
  simp only [List.append_nil] at hW'
  refine (walk a0 a1 L1 cap1 ev1 a2 W hev1).mono fun e W' ⟨he, hg⟩ => ?_
  subst he
  exact ⟨_, rfl, _, _, _, [], _, [], hW', (trodAll_cons_mk (shut_bool Try.underlying4 _) trodAll_mk0), (trodAll_cons_mk (shut_int Try.underlying3 w0) (trodAll_cons_mk (Below.trod laidPlays read49 row49 h1k hg.below (fun x hx => by simpa using hW'.lt x (by simp [hx]))) (trodAll_cons_mk (shut_int Try.underlying3 w2) trodAll_mk0))), rfl, hg.below.frame _, fun h => by cases h⟩

theorem over : Rows.budgetPlaysRow.holds Try.pinned (OpenSpec.ofChange Rows.budgetPlaysSpec) :=
  OpenClaim.holds_of_wide 9 Try.f9 rfl rfl rfl rfl rfl rfl rfl ⟨rfl, rfl, rfl, rfl, rfl⟩ rfl rfl rfl rfl rfl (by kernel_rfl) Try.func9 (by kernel_rfl)
    (of_decide_eq_true (by kernel_rfl)) (by unfold Func.isWrapper; first | (rw [if_pos (by decide +kernel)]; kernel_rfl) | (rw [if_neg (by decide +kernel)]; exact ⟨rfl, rfl⟩))
    (fun os started H enc _ => lifted os started H enc)

theorem proved : Rows.BudgetPlaysSaid :=
  over
#print axioms proved
end Go.Proofs.Ytnghfmefjjkgdaa.budgetPlays


