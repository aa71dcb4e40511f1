/- The reference: Sum and Hex. -/
import Derived.Test.YtgkhjenlfajdcaaDoorWords
import Derived.Test.YtgkhjenlfajdcaaDoorBlock
import Derived.Deep.RegionHeld3
import Derived.Deep.DrawnRows
namespace Go.Proofs.YtgkhjenlfajdcaaDoor
open Go.RowKit

/-- The state behind the first j blocks. -/
def blk (M : List UInt8) (j : Nat) : St := (comp KK s0 (M.take (64 * j))).1
theorem blk_zero (M : List UInt8) : blk M 0 = s0 := by
  unfold blk
  rw [Nat.mul_zero, List.take_zero, comp_lt (by simp)]
theorem blk_succ (M : List UInt8) (j : Nat) (h : 64 * j + 64 ≤ M.length) : blk M (j + 1) = addS KK (blk M j) ((M.drop (64 * j)).take 64) := by
  have h1 : M.take (64 * (j + 1)) = M.take (64 * j) ++ (M.drop (64 * j)).take 64 := by
    rw [show 64 * (j + 1) = 64 * j + 64 by omega, List.take_add]
  have h2 : (comp KK s0 (M.take (64 * j))).2 = [] := by
    have h3 := comp_rest KK s0 (M.take (64 * j))
    rw [List.length_take, show min (64 * j) M.length = 64 * j by omega, show 64 * j % 64 = 0 by omega] at h3
    exact List.length_eq_zero_iff.1 h3
  have h4 : ((M.drop (64 * j)).take 64).length = 64 := by simp; omega
  unfold blk
  rw [h1, comp_append, h2, List.nil_append]
  generalize (M.drop (64 * j)).take 64 = B at h4
  rw [comp_ge (by omega), comp_lt (by simp; omega), List.take_of_length_le (l := B) (by omega)]
theorem pad_blocks (m : List UInt8) : (m ++ padOf m.length).length % 64 = 0 := by
  simp only [padOf, zeros, len8, List.length_append, List.length_cons, List.length_replicate, List.length_map, List.length_nil]
  omega
theorem pad_len (m : List UInt8) : (m ++ padOf m.length).length ≤ m.length + 80 := by
  simp only [padOf, zeros, len8, List.length_append, List.length_cons, List.length_replicate, List.length_map, List.length_nil]
  omega

def outw (L : List Int) : Nat → List UInt8
  | 0 => []
  | t + 1 => outw L t ++ w4 (L.getD t 0)
theorem outw_len (L : List Int) : ∀ t, (outw L t).length = 4 * t
  | 0 => rfl
  | t + 1 => by simp [outw, outw_len L t, w4]; omega
theorem outw_all (s : St) : outw (stl s) 8 = out8 s := by
  unfold out8 stl
  simp only [outw, List.nil_append]
  rfl

theorem lay8 (w : World) : RW (w.alloc (.cells #[.int .u32 1779033703, .int .u32 3144134277, .int .u32 1013904242, .int .u32 2773480762, .int .u32 1359893119, .int .u32 2600822924, .int .u32 528734635, .int .u32 1541459225] 35)) (.slice (some ⟨w.heap.size, 0, none⟩) 8 8) (stl s0) := by
  refine ⟨w.heap.size, 0, 8, rfl, by simp, fun i hi => ?_⟩
  rw [cell_blk (heap_alloc_eq rfl), Nat.zero_add]
  simp only [stl, List.length_cons, List.length_nil] at hi
  match i, hi with
  | 0, _ => rfl
  | 1, _ => rfl
  | 2, _ => rfl
  | 3, _ => rfl
  | 4, _ => rfl
  | 5, _ => rfl
  | 6, _ => rfl
  | 7, _ => rfl

set_option maxRecDepth 100000 in
set_option maxHeartbeats 2000000 in
theorem rsum10_any (s : ByteArray) (w : World) (hs : s.size ≤ 100000) :
    Calls Tryd.prog 10 #[.string s] w fun e w' => e = .returned (.string ⟨(sha KK s.data.toList).toArray⟩) ∧ Fr [] w w' := by
  obtain ⟨M, hM⟩ : ∃ M, M = s.data.toList ++ padOf s.size := ⟨_, rfl⟩
  have hsz : s.data.toList.length = s.size := by simp
  have hMl : M.length ≤ 100080 := by have := pad_len s.data.toList; rw [hM]; rw [hsz] at this; omega
  have hMb : M.length % 64 = 0 := by have := pad_blocks s.data.toList; rw [hsz] at this; rw [hM]; exact this
  obtain ⟨N, hN⟩ : ∃ N, M.length = 64 * N := ⟨M.length / 64, by omega⟩
  have hN2 : N ≤ 1600 := by omega
  have HRES : Hid ((⟨(out8 (blk M N)).toArray⟩ : ByteArray) = ⟨(sha KK s.data.toList).toArray⟩) := by
    show _ = _
    unfold sha blk
    rw [hsz, ← hM, List.take_of_length_le (by omega)]
  rw [← HRES.out]
  have HPAD := hide (fun W => pad20_any s W hs)
  rw [← hM] at HPAD
  have HNL := hide hN
  obtain ⟨ml, hml⟩ : ∃ n, n = M.length := ⟨_, rfl⟩
  have HML := hide hml
  rw [← hml] at hN
  have HNL2 := hide hN
  have hml9 : (ml : Int) ≤ 1000000 := by omega
  clear hM hsz hMl hMb HRES hml hN
  have H8 := hide (lay8 w)
  have HF0 := hide ((Fr.refl [] w).alloc (.cells #[.int .u32 1779033703, .int .u32 3144134277, .int .u32 1013904242, .int .u32 2773480762, .int .u32 1359893119, .int .u32 2600822924, .int .u32 528734635, .int .u32 1541459225] 35))
  go_enter Tryd.func10, Tryd.ntmps10
  go_wp2_with fail
  refine (HPAD.out _).mono ?_
  rintro e w1 ⟨vb, rfl, hb, hf⟩
  have HB1 := hide hb
  have HF1 := hide (HF0.out.trans hf)
  have HV1 := hide (H8.out.fr hf)
  clear hb hf
  go_wp2_with fail
  refine (const21_any _).mono ?_
  rintro e w2 ⟨vk, rfl, hk, hf⟩
  have HK2 := hide hk
  have HF2 := hide (HF1.out.trans hf)
  have HB2 := hide (HB1.out.fr hf)
  have HV2 := hide (HV1.out.fr hf)
  clear hk hf HB1 HV1 HF1
  obtain ⟨bb, bo, bc, hvb, hbb, hbc⟩ := HB2.out
  rw [HML.out.symm] at hvb
  subst hvb
  clear hbb hbc
  go_wp2_with fail
  go_loopg [3, 6] (N + 1) (fun gk vv i wr => ∃ (j a : Nat), gk = N + 1 - j ∧ j ≤ N ∧ a = 64 * j ∧ i = .int .i64 a ∧ RW wr vv (stl (blk M j)) ∧ Fr [] w2 wr)
  case atStart => exact ⟨0, 0, rfl, by omega, rfl, rfl, by rw [blk_zero]; exact HV2.out, Fr.refl _ _⟩
  case round =>
    obtain ⟨j, a, hgk, hj, ha, rfl, hv, hf⟩ := hrel
    have HGK := hide hgk
    have HV := hide hv
    have HF := hide hf
    have HA := hide ha
    by_cases hlt : j < N
    · have hlt2 : a < ml := by have := HNL2.out; omega
      have hai : (a : Int) + 64 ≤ 1000000 := by omega
      have HW23 := hide (words23_any (.slice (some ⟨bb, bo, none⟩) ml bc) M a wr (HB2.out.fr HF.out) (by have := HNL.out; omega) (by have := HNL.out; omega))
      clear hgk hv hf ha
      go_wp2_with fail
      refine (unhide HW23).mono ?_
      rintro e w3 ⟨vw, rfl, hw3, hf3⟩
      have HW3 := hide hw3
      have HF3 := hide (HF.out.trans hf3)
      have HV3 := hide (HV.out.fr hf3)
      clear hw3 hf3
      go_wp2_with fail
      refine (block22_any _ _ _ (blk M j) (sched ((M.drop a).take 64) 64) _ HV3.out HW3.out (HK2.out.fr HF3.out) (sched_len _ _)).mono ?_
      rintro e w4 ⟨vn, rfl, hn4, hf4⟩
      have HN4 := hide hn4
      have HF4 := hide (HF3.out.trans hf4)
      clear hn4 hf4
      go_wp2_with fail
      go_roundg (N + 1 - (j + 1))
      case measure => have := HGK.out; omega
      case rel =>
        refine ⟨j + 1, a + 64, rfl, by omega, by have := HA.out; omega, by go_num, ?_, HF4.out⟩
        rw [blk_succ M j (by have := HNL.out; omega), ← HA.out]
        exact HN4.out
    · obtain rfl : j = N := by omega
      have hge : ml ≤ a := by have := HNL2.out; omega
      have hde : decide (a < ml) = false := by simpa using hge
      clear hgk hv hf ha
      obtain ⟨vbk, vo, vc, hvv, hvl, hvc⟩ := HV.out
      obtain ⟨L, hL⟩ : ∃ L, L = stl (blk M j) := ⟨_, rfl⟩
      have hL8 : L.length = 8 := by rw [hL]; rfl
      rw [← hL] at hvv hvc
      rw [hL8] at hvv hvc
      have HVC := hide hvc
      have HL := hide hL
      clear hvc hL hL8
      subst hvv
      have HF9 := hide (HF2.out.trans HF.out)
      obtain ⟨wo, rfl⟩ : ∃ wo : World, wo = wr := ⟨_, rfl⟩
      go_wp2_with fail
      go_loopg [7, 8] 9 (fun gk vr i wq => ∃ (t : Nat) (g : Option Nat), gk = 9 - t ∧ t ≤ 8 ∧ i = .int .i64 t ∧ BAt wq vr g (outw L t) ∧ (∀ b, g = some b → wo.heap.size ≤ b) ∧ Fr [] wo wq)
      case atStart => exact ⟨0, none, rfl, by omega, rfl, SlAt.nil_ _, by simp, Fr.refl _ _⟩
      case round =>
        obtain ⟨t, g, hgk, ht, rfl, hbt, hg, hf⟩ := hrel
        have HGK := hide hgk
        have HB := hide hbt
        have HG := hide hg
        have HFQ := hide hf
        clear hgk hg
        by_cases hlt2 : t < 8
        · obtain ⟨x, hx⟩ : ∃ x, x = L.getD t 0 := ⟨_, rfl⟩
          have ec := HVC.out t hlt2
          rw [← hx, ← World.cell?_of_block (hf.block vbk hvl (by simp))] at ec
          have hbr : vbk < wr.heap.size := by have := hf.size; omega
          have hb8 : (0 : Int) ≤ (t : Int) ∧ (t : Int) < 8 := by omega
          have hcs : (#[.int .u8 (x / 16777216 % 256), .int .u8 (x / 65536 % 256), .int .u8 (x / 256 % 256), .int .u8 (x % 256)] : Array Value).toList = bcells (w4 x) := by
            unfold bcells w4
            simp only [List.map_cons, List.map_nil]
            rw [ofNat_val _ (by omega), ofNat_val _ (by omega), ofNat_val _ (by omega), ofNat_val _ (by omega)]
            rfl
          have hlen := outw_len L t
          obtain ⟨v', w', g', happ, hb', hf', hg'⟩ := BAt.push (w := wr.drew) (SlAt.fr hbt ((Fr.refl [] wr).drew) (by simp)) (w4 x) _ hcs (by simp [w4]) (by simp [w4]; omega)
          obtain ⟨av, cv, hv⟩ := SlAt.shape hbt
          rw [hv] at happ
          subst hv
          have hap : (Builtin.append_ #[27, 27] 27 #[.slice av (outw L t).length cv, .slice (some ⟨wr.heap.size, 0, none⟩) 4 4]).run Tryd.prog ((wr.alloc (.cells #[.int .u8 (x / 16777216 % 256), .int .u8 (x / 65536 % 256), .int .u8 (x / 256 % 256), .int .u8 (x % 256)] 5)).drew) = .ok v' w' := happ
          have HB' := hide hb'
          have HF' := hide (((Fr.refl g.toList wr).drew).trans hf')
          have HG' := hide hg'
          have ecw : w'.cell? ⟨vbk, vo + t, none⟩ = some (.int .u32 x) := by
            rw [World.cell?_of_block (w := wr) (HF'.out.block vbk hbr (fun hm => by have := HG.out vbk (by simpa using hm); omega))]
            exact ec
          have HX := hide hx
          clear hbt happ hb' hf' hg' hx hcs hf hlen
          go_upto_region 12 with (fail)
          go_region_held3 (fun W => W.cell? ⟨vbk, vo + t, none⟩ = some (.int .u32 x)) (go_keep) ((refine step_append_run rfl _ _ 27 rfl hap rfl rfl ?_))
          all_goals
            go_wp2
            go_roundg (9 - (t + 1))
            case measure => have := HGK.out; omega
            case rel =>
              refine ⟨t + 1, g', rfl, by omega, by go_num, ?_, ?_, HFQ.out.andThen HF'.out (fun y hy => .inr (HG.out y (by simpa using hy)))⟩
              · show BAt _ _ _ (outw L t ++ w4 (L.getD t 0))
                rw [← HX.out]
                exact HB'.out
              · intro b2 hb2
                rcases HG'.out with h1 | ⟨b3, h1, h2⟩
                · exact HG.out b2 (h1 ▸ hb2)
                · rw [h1] at hb2
                  injection hb2 with hb2
                  have h3 : wr.drew.heap.size = wr.heap.size := rfl
                  have := HFQ.out.size
                  omega
        · obtain rfl : t = 8 := by omega
          have HOUT := hide (show outw L 8 = out8 (blk M j) by rw [HL.out, outw_all])
          rw [HOUT.out] at hbt
          obtain ⟨hstr, b, off, cap, rfl⟩ := hbt.str (by simp [out8, w4])
          have HFE := hide (HF9.out.trans hf)
          clear hbt hf
          go_wp2
          go_ret
          exact ⟨rfl, HFE.out⟩
theorem rhex12_any (s : ByteArray) (w : World) (hs : s.size ≤ 100000) :
    Calls Tryd.prog 12 #[.string s] w fun e w' => e = .returned (.string ⟨(hex (sha KK s.data.toList)).toArray⟩) ∧ Fr [] w w' := by
  obtain ⟨sm, hsm⟩ : ∃ x : ByteArray, x = ⟨(sha KK s.data.toList).toArray⟩ := ⟨_, rfl⟩
  have hs32 : sm.size = 32 := by rw [hsm]; show (sha KK s.data.toList).toArray.size = 32; simpa using sha_len KK _
  have h0 := fun W => rsum10_any s W hs
  have h1 := fun W => digits18_any sm W (by omega) (by omega)
  rw [← hsm] at h0
  have h2 : sm.data.toList = sha KK s.data.toList := by rw [hsm]
  rw [h2] at h1
  have HS := hide h0
  have HD := hide h1
  clear h0 h1 h2 hsm
  go_enter Tryd.func12, Tryd.ntmps12
  go_wp2_with fail
  refine (HS.out _).mono ?_
  rintro e w1 ⟨rfl, hf⟩
  have HF1 := hide hf
  clear hf
  go_wp2_with fail
  refine (HD.out _).mono ?_
  rintro e w2 ⟨rfl, hf⟩
  have HF2 := hide (HF1.out.trans hf)
  clear hf
  go_wp2
  go_ret
  exact ⟨rfl, HF2.out⟩
end Go.Proofs.YtgkhjenlfajdcaaDoor

