/- The reference: block. -/
import Derived.Test.YtgkhjenlfajdcaaDoorConst
import Derived.StillTailTactics
namespace Go.Proofs.YtgkhjenlfajdcaaDoor
open Go.RowKit

def stl (s : St) : List Int := [s.a, s.b, s.c, s.d, s.e, s.f, s.g, s.h]

theorem quiet_at_same {P : Program} {f : FuncId} {args : Array Value} {w : World} {n k : Nat} {v : Value}
    (h : Calls P f args (w.drewN (n + k)) fun e w' => e = .returned v ∧ w.drewN (n + k) = w') : Calls P f args (w.drewN (n + k)) fun e w'' => e = .returned v ∧ ∃ m, w'' = w.drewN (n + m) :=
  h.mono fun _ _ ⟨he, hm⟩ => ⟨he, k, hm.symm⟩

set_option maxRecDepth 100000 in
set_option maxHeartbeats 4000000 in
theorem block22_any (v0 v1 v2 : Value) (s : St) (S : List Int) (w : World) (h0 : RW w v0 (stl s)) (h1 : RW w v1 S) (h2 : RW w v2 KK) (hS : S.length = 64) :
    Calls Tryd.prog 22 #[v0, v1, v2] w (WPost (stl (plus s (rnds KK S s 64))) w) := by
  obtain ⟨b0, o0, k0, rfl, l0, c0⟩ := h0
  obtain ⟨b1, o1, k1, rfl, l1, c1⟩ := h1
  obtain ⟨b2, o2, k2, rfl, l2, c2⟩ := h2
  rw [show (stl s).length = 8 from rfl] at c0 ⊢
  rw [hS] at c1 ⊢
  rw [show KK.length = 64 from rfl] at c2 ⊢
  obtain ⟨sa, sb, sc, sd, se, sf, sg, sh⟩ := s
  have a0 : w.cell? ⟨b0, o0, none⟩ = some (.int .u32 sa) := c0 0 (by omega)
  have a1 : w.cell? ⟨b0, o0 + 1, none⟩ = some (.int .u32 sb) := c0 1 (by omega)
  have a2 : w.cell? ⟨b0, o0 + 2, none⟩ = some (.int .u32 sc) := c0 2 (by omega)
  have a3 : w.cell? ⟨b0, o0 + 3, none⟩ = some (.int .u32 sd) := c0 3 (by omega)
  have a4 : w.cell? ⟨b0, o0 + 4, none⟩ = some (.int .u32 se) := c0 4 (by omega)
  have a5 : w.cell? ⟨b0, o0 + 5, none⟩ = some (.int .u32 sf) := c0 5 (by omega)
  have a6 : w.cell? ⟨b0, o0 + 6, none⟩ = some (.int .u32 sg) := c0 6 (by omega)
  have a7 : w.cell? ⟨b0, o0 + 7, none⟩ = some (.int .u32 sh) := c0 7 (by omega)
  have HC1 := hide c1
  have HC2 := hide c2
  clear c0 c1 c2 hS
  go_enter Tryd.func22, Tryd.ntmps22
  go_upto_region 1 with (fail)
  go_quiet (fail)
  go_wp2_with fail
  go_loopg [7, 8, 9, 10, 11, 12, 13, 14, 15] 65 (fun gk xa xb xc xd xe xf xg xh i wr => ∃ (t : Nat) (st : St) (nd : Nat), gk = 65 - t ∧ t ≤ 64 ∧ i = .int .i64 t ∧ xa = .int .u32 st.a ∧ xb = .int .u32 st.b ∧ xc = .int .u32 st.c ∧ xd = .int .u32 st.d ∧ xe = .int .u32 st.e ∧ xf = .int .u32 st.f ∧ xg = .int .u32 st.g ∧ xh = .int .u32 st.h ∧ st = rnds KK S ⟨sa, sb, sc, sd, se, sf, sg, sh⟩ t ∧ wr = w.drewN nd)
  case atStart => exact ⟨0, ⟨sa, sb, sc, sd, se, sf, sg, sh⟩, _, rfl, by omega, rfl, rfl, rfl, rfl, rfl, rfl, rfl, rfl, rfl, rfl, rfl⟩
  case round =>
    obtain ⟨t, ⟨va, vb, vc, vd, ve, vf, vg, vh⟩, nd, hgk, ht, rfl, rfl, rfl, rfl, rfl, rfl, rfl, rfl, rfl, hst, rfl⟩ := hrel
    have HGK := hide hgk
    have HST := hide hst
    clear hgk hst
    by_cases hlt : t < 64
    · have ew := HC1.out t hlt
      have ek := HC2.out t hlt
      obtain ⟨kw, hkw⟩ : ∃ x, x = KK.getD t 0 := ⟨_, rfl⟩
      obtain ⟨ww, hww⟩ : ∃ x, x = S.getD t 0 := ⟨_, rfl⟩
      rw [← hkw] at ek
      rw [← hww] at ew
      have HKW := hide hkw
      have HWW := hide hww
      have hb64 : (0 : Int) ≤ (t : Int) ∧ (t : Int) < 64 := by omega
      clear hkw hww
      go_upto_region 5 with (fail)
      go_cut [16] from 42 to 74 (fun s wd => s = .int .u32 (rx kw ww ⟨va, vb, vc, vd, ve, vf, vg, vh⟩) ∧ ∃ m, wd = w.drewN m)
      case first =>
        go_quiet (exact quiet_at_same (rot27_any _ _ (by decide) _))
        go_wp2
        go_meet
        case rel => exact ⟨congrArg (Value.int .u32) (rx_eq kw ww va vb vc vd ve vf vg vh), _, rfl⟩
      case rest =>
      obtain ⟨rfl, m1, rfl⟩ := hcut
      obtain ⟨xx, hxx⟩ : ∃ x, x = rx kw ww ⟨va, vb, vc, vd, ve, vf, vg, vh⟩ := ⟨_, rfl⟩
      rw [← hxx]
      have HXX := hide hxx
      clear hxx
      go_upto_region 6 with (fail)
      go_cut [17] from 42 to 94 (fun s wd => s = .int .u32 (ry ⟨va, vb, vc, vd, ve, vf, vg, vh⟩) ∧ wd = w.drewN m1)
      case first =>
        go_wp2_with (go_at_call 27; refine (rot27_any _ _ (by decide) _).mono ?_; rintro e w' ⟨rfl, rfl⟩)
        go_meet
        case rel => exact ⟨congrArg (Value.int .u32) (ry_eq va vb vc vd ve vf vg vh), rfl⟩
      case rest =>
      obtain ⟨rfl, rfl⟩ := hcut
      obtain ⟨yy, hyy⟩ : ∃ x, x = ry ⟨va, vb, vc, vd, ve, vf, vg, vh⟩ := ⟨_, rfl⟩
      rw [← hyy]
      have HYY := hide hyy
      clear hyy
      go_wp2_with fail
      go_roundg (65 - (t + 1))
      case measure => have := HGK.out; omega
      case rel =>
        refine ⟨t + 1, rnd kw ww ⟨va, vb, vc, vd, ve, vf, vg, vh⟩, m1, rfl, by omega, by go_num, ?_, rfl, rfl, rfl, ?_, rfl, rfl, rfl, ?_, rfl⟩
        · show _ = Value.int .u32 (W32 (rx kw ww ⟨va, vb, vc, vd, ve, vf, vg, vh⟩ + ry ⟨va, vb, vc, vd, ve, vf, vg, vh⟩))
          rw [← HXX.out, ← HYY.out, u32_mod]
        · show _ = Value.int .u32 (W32 (vd + rx kw ww ⟨va, vb, vc, vd, ve, vf, vg, vh⟩))
          rw [← HXX.out, u32_mod]
        · show _ = rnd (KK.getD t 0) (S.getD t 0) (rnds KK S ⟨sa, sb, sc, sd, se, sf, sg, sh⟩ t)
          rw [← HST.out, ← HKW.out, ← HWW.out]
    · obtain rfl : t = 64 := by omega
      go_upto_region 15 with (fail)
      have HFW := hide (((Fr.refl [] w).drewN nd).drew)
      generalize hwn : w.drewN nd = wn at *
      have b0' : ∀ j u, w.cell? ⟨b0, j, none⟩ = some u → wn.cell? ⟨b0, j, none⟩ = some u := by intro j u hj; rw [← hwn]; exact hj
      replace a0 := b0' _ _ a0
      replace a1 := b0' _ _ a1
      replace a2 := b0' _ _ a2
      replace a3 := b0' _ _ a3
      replace a4 := b0' _ _ a4
      replace a5 := b0' _ _ a5
      replace a6 := b0' _ _ a6
      replace a7 := b0' _ _ a7
      clear b0' hwn
      go_still_tail 40, (by kernel_rfl)
      change wpList _ _ _ _ _ wn.drew
      generalize wn.drew = w2 at *
      clear a0 a1 a2 a3 a4 a5 a6 a7
      go_wp2
      go_ret
      have hpl : stl (plus ⟨sa, sb, sc, sd, se, sf, sg, sh⟩ (rnds KK S ⟨sa, sb, sc, sd, se, sf, sg, sh⟩ 64)) = [(sa + va) % 4294967296, (sb + vb) % 4294967296, (sc + vc) % 4294967296, (sd + vd) % 4294967296, (se + ve) % 4294967296, (sf + vf) % 4294967296, (sg + vg) % 4294967296, (sh + vh) % 4294967296] := by
        rw [← HST.out]
        simp only [stl, plus, u32_mod]
      rw [hpl]
      refine ⟨_, rfl, ⟨w2.heap.size, 0, 8, rfl, by simp, fun i hi => ?_⟩, HFW.out.alloc _⟩
      rw [cell_blk (heap_alloc_eq rfl), Nat.zero_add]
      simp only [List.length_cons, List.length_nil] at hi
      match i, hi with
      | 0, _ => rfl
      | 1, _ => rfl
      | 2, _ => rfl
      | 3, _ => rfl
      | 4, _ => rfl
      | 5, _ => rfl
      | 6, _ => rfl
      | 7, _ => rfl
end Go.Proofs.YtgkhjenlfajdcaaDoor

