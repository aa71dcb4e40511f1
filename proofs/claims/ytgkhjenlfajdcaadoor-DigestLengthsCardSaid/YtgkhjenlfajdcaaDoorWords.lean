/- The reference: words. -/
import Derived.Test.YtgkhjenlfajdcaaDoorConst
namespace Go.Proofs.YtgkhjenlfajdcaaDoor
open Go.RowKit

theorem word_nat (b0 b1 b2 b3 : Nat) (l : List UInt8) (t : Nat) (h0 : (b0 : Int) = byteAt l (4 * t)) (h1 : (b1 : Int) = byteAt l (4 * t + 1)) (h2 : (b2 : Int) = byteAt l (4 * t + 2)) (h3 : (b3 : Int) = byteAt l (4 * t + 3))
    (l0 : b0 < 256) (l1 : b1 < 256) (l2 : b2 < 256) :
    bits .or .u32 (bits .or .u32 (bits .or .u32 ((b0 : Int) * 16777216) ((b1 : Int) * 65536)) ((b2 : Int) * 256)) (b3 : Int) = word l t := by
  unfold word
  rw [← h0, ← h1, ← h2, ← h3, u32_mod, u32_mod, u32_mod]
  rw [show (b0 : Int) * 2 ^ 24 % 4294967296 = (b0 : Int) * 16777216 by omega, show (b1 : Int) * 2 ^ 16 % 4294967296 = (b1 : Int) * 65536 by omega, show (b2 : Int) * 2 ^ 8 % 4294967296 = (b2 : Int) * 256 by omega]

set_option maxRecDepth 100000 in
set_option maxHeartbeats 20000000 in
theorem words23_any (v : Value) (m : List UInt8) (at_ : Nat) (w : World) (h : RAt w v m) (ha : at_ + 64 ≤ m.length) (hm : m.length ≤ 200000) :
    Calls Tryd.prog 23 #[v, .int .i64 at_] w (WPost (sched ((m.drop at_).take 64) 64) w) := by
  obtain ⟨b, off, cap, rfl, hb, hcell⟩ := h
  obtain ⟨l, hl⟩ : ∃ l, l = (m.drop at_).take 64 := ⟨_, rfl⟩
  rw [← hl]
  have HBY : Hid (∀ i, i < 64 → ∃ x : Nat, x < 256 ∧ (x : Int) = byteAt l i ∧ w.cell? ⟨b, off + (at_ + i), none⟩ = some (.int .u8 (x : Int))) := by
    show ∀ i, _ → _
    intro i hi
    have h1 := hcell (at_ + i) (by omega)
    refine ⟨(m[at_ + i]'(by omega)).toNat, UInt8.toNat_lt _, ?_, h1⟩
    unfold byteAt
    rw [hl, List.getD_eq_getElem?_getD, List.getElem?_take, if_pos hi, List.getElem?_drop, List.getElem?_eq_getElem (by omega)]
    rfl
  obtain ⟨len, hlen⟩ : ∃ n, n = m.length := ⟨_, rfl⟩
  rw [← hlen] at ha hm ⊢
  clear hcell hl hlen
  go_enter Tryd.func23, Tryd.ntmps23
  go_wp2_with fail
  go_loopg [5, 6] 17 (fun gk vr i wr => ∃ (t : Nat) (g : Option Nat), gk = 17 - t ∧ t ≤ 16 ∧ i = .int .i64 t ∧ WAt wr vr g (sched l t) ∧ (∀ b, g = some b → w.heap.size ≤ b) ∧ Fr [] w wr)
  case atStart => exact ⟨0, none, rfl, by omega, rfl, SlAt.nil_ _, by simp, Fr.refl _ _⟩
  case round =>
    obtain ⟨t, g, hgk, ht, rfl, hbt, hg, hf⟩ := hrel
    have HGK := hide hgk
    have HB := hide hbt
    have HG := hide hg
    have HF := hide hf
    obtain ⟨av, cv, hv⟩ := SlAt.shape hbt
    rw [sched_len] at hv
    have hbw : b < wr.heap.size := by have := hf.size; omega
    clear hgk hg
    by_cases hlt : t < 16
    · obtain ⟨b0, l0, y0, c0⟩ := HBY.out (4 * t) (by omega)
      obtain ⟨b1, l1, y1, c1⟩ := HBY.out (4 * t + 1) (by omega)
      obtain ⟨b2, l2, y2, c2⟩ := HBY.out (4 * t + 2) (by omega)
      obtain ⟨b3, l3, y3, c3⟩ := HBY.out (4 * t + 3) (by omega)
      have HWD := hide (word_nat b0 b1 b2 b3 l t y0 y1 y2 y3 l0 l1 l2)
      rw [← World.cell?_of_block (hf.block b hb (by simp))] at c0 c1 c2 c3
      have i0 : (0 : Int) ≤ (at_ : Int) + 4 * (t : Int) ∧ (at_ : Int) + 4 * (t : Int) < (len : Int) := by omega
      have i1 : (0 : Int) ≤ (at_ : Int) + 4 * (t : Int) + 1 ∧ (at_ : Int) + 4 * (t : Int) + 1 < (len : Int) := by omega
      have i2 : (0 : Int) ≤ (at_ : Int) + 4 * (t : Int) + 2 ∧ (at_ : Int) + 4 * (t : Int) + 2 < (len : Int) := by omega
      have i3 : (0 : Int) ≤ (at_ : Int) + 4 * (t : Int) + 3 ∧ (at_ : Int) + 4 * (t : Int) + 3 < (len : Int) := by omega
      have q0 : ((at_ : Int) + 4 * (t : Int)).toNat = at_ + 4 * t := by omega
      have q1 : ((at_ : Int) + 4 * (t : Int) + 1).toNat = at_ + (4 * t + 1) := by omega
      have q2 : ((at_ : Int) + 4 * (t : Int) + 2).toNat = at_ + (4 * t + 2) := by omega
      have q3 : ((at_ : Int) + 4 * (t : Int) + 3).toNat = at_ + (4 * t + 3) := by omega
      obtain ⟨wd, hwd⟩ : ∃ x, x = bits .or .u32 (bits .or .u32 (bits .or .u32 ((b0 : Int) * 16777216) ((b1 : Int) * 65536)) ((b2 : Int) * 256)) (b3 : Int) := ⟨_, rfl⟩
      obtain ⟨v', w', g', happ, hb', hf', hg'⟩ := WAt.push (w := wr.drew) (SlAt.fr hbt ((Fr.refl [] wr).drew) (by simp)) (word l t) (by rw [sched_len]; omega)
      rw [← HWD.out] at happ
      have hap : (Builtin.append_ #[36, 36] 36 #[u5, .slice (some ⟨wr.heap.size, 0, none⟩) 1 1]).run Tryd.prog ((wr.alloc (.cells #[.int .u32 (bits .or .u32 (bits .or .u32 (bits .or .u32 ((b0 : Int) * 16777216) ((b1 : Int) * 65536)) ((b2 : Int) * 256)) (b3 : Int))] 35)).drew) = .ok v' w' := happ
      have HB' := hide hb'
      have HF' := hide (HF.out.andThen (((Fr.refl g.toList wr).drew).trans hf') (fun y hy => .inr (HG.out y (by simpa using hy))))
      have HG' := hide hg'
      have z1 : IntKind.i64.wrap ((at_ : Int) + 4 * (t : Int) + 1) = (at_ : Int) + 4 * (t : Int) + 1 := IntWalk.i64_in _ (by omega)
      have z2 : IntKind.i64.wrap ((at_ : Int) + 4 * (t : Int) + 2) = (at_ : Int) + 4 * (t : Int) + 2 := IntWalk.i64_in _ (by omega)
      have z3 : IntKind.i64.wrap ((at_ : Int) + 4 * (t : Int) + 3) = (at_ : Int) + 4 * (t : Int) + 3 := IntWalk.i64_in _ (by omega)
      have k0 : IntKind.u32.wrap (b0 : Int) = b0 := IntWalk.u32_in _ (by omega)
      have k1 : IntKind.u32.wrap (b1 : Int) = b1 := IntWalk.u32_in _ (by omega)
      have k2 : IntKind.u32.wrap (b2 : Int) = b2 := IntWalk.u32_in _ (by omega)
      have k3 : IntKind.u32.wrap (b3 : Int) = b3 := IntWalk.u32_in _ (by omega)
      have j0 : IntKind.u32.wrap ((b0 : Int) * 16777216) = (b0 : Int) * 16777216 := IntWalk.u32_in _ (by omega)
      have j1 : IntKind.u32.wrap ((b1 : Int) * 65536) = (b1 : Int) * 65536 := IntWalk.u32_in _ (by omega)
      have j2 : IntKind.u32.wrap ((b2 : Int) * 256) = (b2 : Int) * 256 := IntWalk.u32_in _ (by omega)
      clear y0 y1 y2 y3 hbt hf happ hb' hf' hg' hv hwd
      go_upto_region 6 with (fail)
      go_region_law (first | (refine step_append_run rfl _ _ 36 rfl hap rfl rfl ?_))
      all_goals
        go_wp2
        go_roundg (17 - (t + 1))
        case measure => have := HGK.out; omega
        case rel =>
          refine ⟨t + 1, g', rfl, by omega, by go_num, ?_, ?_, HF'.out⟩
          · show WAt _ _ _ (sched l t ++ [if t < 16 then word l t else nxt (sched l t) t])
            rw [if_pos hlt]
            exact HB'.out
          · intro b2 hb2
            rcases HG'.out with h1 | ⟨b3, h1, h2⟩
            · exact HG.out b2 (h1 ▸ hb2)
            · rw [h1] at hb2
              injection hb2 with hb2
              have h3 : wr.drew.heap.size = wr.heap.size := rfl
              have := HF.out.size
              omega
    · have HTE := hide (show t = 16 by omega)
      clear hbt hf hv
      go_wp2_with fail
      go_loopg [5, 8] 49 (fun gk vr i wr => ∃ (t : Nat) (g : Option Nat), gk = 65 - t ∧ 16 ≤ t ∧ t ≤ 64 ∧ i = .int .i64 t ∧ WAt wr vr g (sched l t) ∧ (∀ b, g = some b → w.heap.size ≤ b) ∧ Fr [] w wr)
      case atStart => exact ⟨t, g, by omega, by omega, by omega, by rw [HTE.out]; rfl, HB.out, HG.out, HF.out⟩
      case round =>
        obtain ⟨t, g, hgk, ht16, ht64, rfl, hbt, hg, hf⟩ := hrel
        have HGK := hide hgk
        have HB := hide hbt
        have HG := hide hg
        have HF := hide hf
        have hrd := hbt.read (by rw [sched_len]; omega)
        have HRD := hide hrd
        clear hgk hg hf
        by_cases hlt : t < 64
        · obtain ⟨bb, ob, cb, hv, hbb, hce⟩ := hrd
          rw [sched_len] at hv hce
          have e15 := hce (t - 15) (by omega)
          have e2 := hce (t - 2) (by omega)
          have e16 := hce (t - 16) (by omega)
          have e7 := hce (t - 7) (by omega)
          obtain ⟨x15, hx15⟩ : ∃ x, x = (sched l t).getD (t - 15) 0 := ⟨_, rfl⟩
          obtain ⟨x2, hx2⟩ : ∃ x, x = (sched l t).getD (t - 2) 0 := ⟨_, rfl⟩
          obtain ⟨x16, hx16⟩ : ∃ x, x = (sched l t).getD (t - 16) 0 := ⟨_, rfl⟩
          obtain ⟨x7, hx7⟩ : ∃ x, x = (sched l t).getD (t - 7) 0 := ⟨_, rfl⟩
          rw [← hx15] at e15
          rw [← hx2] at e2
          rw [← hx16] at e16
          rw [← hx7] at e7
          have hnx : nxt (sched l t) t = W32 (W32 (W32 (x16 + sg0 x15) + x7) + sg1 x2) := by
            rw [hx15, hx2, hx16, hx7]
            rfl
          obtain ⟨y1, hy1⟩ : ∃ y, y = sg0 x15 := ⟨_, rfl⟩
          obtain ⟨y2, hy2⟩ : ∃ y, y = sg1 x2 := ⟨_, rfl⟩
          rw [← hy1, ← hy2] at hnx
          have hnx2 : nxt (sched l t) t = (x16 + y1 + x7 + y2) % 4294967296 := by
            rw [hnx, u32_mod, u32_mod, u32_mod]
            omega
          have HNX := hide hnx2
          obtain ⟨v', w', g', happ, hb', hf', hg'⟩ := WAt.push (w := wr.drew.drew) (SlAt.fr hbt (((Fr.refl [] wr).drew).drew) (by simp)) (nxt (sched l t) t) (by rw [sched_len]; omega)
          rw [hv, hnx] at happ
          have HAP := hide happ
          have HY1 := hide hy1
          have HY2 := hide hy2
          have HB' := hide hb'
          have HF' := hide (HF.out.andThen ((((Fr.refl g.toList wr).drew).drew).trans hf') (fun y hy => .inr (HG.out y (by simpa using hy))))
          have HG' := hide hg'
          subst hv
          have hb15 : (0 : Int) ≤ (t : Int) - 15 ∧ (t : Int) - 15 < (t : Int) := by omega
          have hb2 : (0 : Int) ≤ (t : Int) - 2 ∧ (t : Int) - 2 < (t : Int) := by omega
          have hb16 : (0 : Int) ≤ (t : Int) - 16 ∧ (t : Int) - 16 < (t : Int) := by omega
          have hb7 : (0 : Int) ≤ (t : Int) - 7 ∧ (t : Int) - 7 < (t : Int) := by omega
          have z16 : IntKind.i64.wrap ((t : Int) - 16) = (t : Int) - 16 := IntWalk.i64_in _ (by omega)
          have z7 : IntKind.i64.wrap ((t : Int) - 7) = (t : Int) - 7 := IntWalk.i64_in _ (by omega)
          have g16 : (16 : Int) ≤ (t : Int) := by omega
          have g7 : (7 : Int) ≤ (t : Int) := by omega
          have n15 : ((t : Int) - 15).toNat = t - 15 := by omega
          have n2 : ((t : Int) - 2).toNat = t - 2 := by omega
          have n16 : ((t : Int) - 16).toNat = t - 16 := by omega
          have n7 : ((t : Int) - 7).toNat = t - 7 := by omega
          clear hce hbt happ hb' hf' hg' hx15 hx2 hx16 hx7 hnx hnx2 hy1 hy2
          go_upto_region 10 with (fail)
          go_cut [9, 10] from 53 to 66 (fun r s wd => r = .int .u32 x15 ∧ s = .int .u32 x2 ∧ wd = wr.drew)
          case first =>
            go_region
            all_goals
              go_wp2
              go_meet
              case rel => exact ⟨rfl, rfl, rfl⟩
          case rest =>
          obtain ⟨rfl, rfl, rfl⟩ := hcut
          go_upto_region 11 with (fail)
          go_cut [11] from 53 to 74 (fun s wd => s = .int .u32 y1 ∧ wd = wr.drew)
          case first =>
            go_wp2_with (go_at_call 27; refine (rot27_any _ _ (by decide) _).mono ?_; rintro e w' ⟨rfl, rfl⟩)
            go_meet
            case rel => exact ⟨by rw [HY1.out]; rfl, rfl⟩
          case rest =>
          obtain ⟨rfl, rfl⟩ := hcut
          go_upto_region 12 with (fail)
          go_cut [12] from 53 to 82 (fun s wd => s = .int .u32 y2 ∧ wd = wr.drew)
          case first =>
            go_wp2_with (go_at_call 27; refine (rot27_any _ _ (by decide) _).mono ?_; rintro e w' ⟨rfl, rfl⟩)
            go_meet
            case rel => exact ⟨by rw [HY2.out]; rfl, rfl⟩
          case rest =>
          obtain ⟨rfl, rfl⟩ := hcut
          have hap := HAP.out
          go_upto_region 13 with (fail)
          go_region_law (first | (refine step_append_run rfl _ _ 36 rfl hap rfl rfl ?_))
          all_goals
            go_wp2
            go_roundg (65 - (t + 1))
            case measure => have := HGK.out; omega
            case rel =>
              refine ⟨t + 1, g', rfl, by omega, by omega, by go_num, ?_, ?_, HF'.out⟩
              · show WAt _ _ _ (sched l t ++ [if t < 16 then word l t else nxt (sched l t) t])
                rw [if_neg (by omega)]
                exact HB'.out
              · intro b2 hb2
                rcases HG'.out with h1 | ⟨b3, h1, h2⟩
                · exact HG.out b2 (h1 ▸ hb2)
                · rw [h1] at hb2
                  injection hb2 with hb2
                  have h3 : wr.drew.drew.heap.size = wr.heap.size := rfl
                  have := HF.out.size
                  omega
        · obtain rfl : t = 64 := by omega
          clear hbt hrd
          go_wp2
          go_ret
          exact ⟨_, rfl, HRD.out, HF.out⟩
end Go.Proofs.YtgkhjenlfajdcaaDoor

