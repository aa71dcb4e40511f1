/- SHA-256 in the program: sum. -/
import Derived.Test.YthmhcnnigepohaaGreatDoorM10
namespace Go.Proofs.YthmhcnnigepohaaGreatDoor.Dg
open Go.RowKit

/-- The first k of the eight bytes of the length. -/
def lenk (m : Int) : Nat → List UInt8
  | 0 => []
  | k + 1 => lenk m k ++ [UInt8.ofNat (m / 2 ^ (56 - 8 * k) % 256).toNat]
theorem lenk_len (m : Int) : ∀ k, (lenk m k).length = k
  | 0 => rfl
  | k + 1 => by simp [lenk, lenk_len m k]

theorem lenk_all (n : Nat) : lenk ((n : Int) * 8) 8 = len8 n := by
  have h : ∀ k : Nat, (((n : Int) * 8) / ((2 ^ k : Nat) : Int) % 256).toNat = n * 8 / 2 ^ k % 256 := by
    intro k
    have : (((n : Int) * 8) / ((2 ^ k : Nat) : Int) % 256) = ((n * 8 / 2 ^ k % 256 : Nat) : Int) := by
      simp
    rw [this]
    exact Int.toNat_natCast _
  unfold len8
  simp only [lenk, List.nil_append, List.map_cons, List.map_nil, List.cons_append]
  have e : ∀ k : Nat, (2 : Int) ^ k = ((2 ^ k : Nat) : Int) := by intro k; simp
  simp only [e, h]

set_option maxRecDepth 100000 in
set_option maxHeartbeats 1000000 in
theorem sum19_any (hb : Nat) (st : St) (rest : ByteArray) (n : Nat) (w : World) (h : HashIs w hb st rest n) (hk : Kst w) (hn : n ≤ 1000000) (hr : rest.size < 64) (hrn : rest.size = n % 64) :
    Calls Tryz.prog 23 #[.pointer (some ⟨hb, 0, none⟩)] w fun e w' => e = .returned (.string ⟨(out8 (comp KK st (rest.data.toList ++ padOf n)).1).toArray⟩) ∧ Fr [] w w' := by
  have HH := hide h
  have HK := hide hk
  have hhb := lt_of_blk h
  obtain ⟨s0', s1', s2', s3', s4', s5', s6', s7'⟩ := st
  have hblk : w.heap[hb]? = some (.cells #[.int .u32 s0', .int .u32 s1', .int .u32 s2', .int .u32 s3', .int .u32 s4', .int .u32 s5', .int .u32 s6', .int .u32 s7', .string rest, .int .i64 n] 61 (0, 0)) := h
  clear h hk
  have c0 : w.cell? ⟨hb, 0, none⟩ = some (.int .u32 s0') := cell_blk hblk 0
  have c1 : w.cell? ⟨hb, 1, none⟩ = some (.int .u32 s1') := cell_blk hblk 1
  have c2 : w.cell? ⟨hb, 2, none⟩ = some (.int .u32 s2') := cell_blk hblk 2
  have c3 : w.cell? ⟨hb, 3, none⟩ = some (.int .u32 s3') := cell_blk hblk 3
  have c4 : w.cell? ⟨hb, 4, none⟩ = some (.int .u32 s4') := cell_blk hblk 4
  have c5 : w.cell? ⟨hb, 5, none⟩ = some (.int .u32 s5') := cell_blk hblk 5
  have c6 : w.cell? ⟨hb, 6, none⟩ = some (.int .u32 s6') := cell_blk hblk 6
  have c7 : w.cell? ⟨hb, 7, none⟩ = some (.int .u32 s7') := cell_blk hblk 7
  have c8 : w.cell? ⟨hb, 8, none⟩ = some (.string rest) := cell_blk hblk 8
  have c9 : w.cell? ⟨hb, 9, none⟩ = some (.int .i64 n) := cell_blk hblk 9
  have cf0 : w.frozen? ⟨hb, 0, none⟩ = false := froz_blk hblk 0
  have cf1 : w.frozen? ⟨hb, 1, none⟩ = false := froz_blk hblk 1
  have cf2 : w.frozen? ⟨hb, 2, none⟩ = false := froz_blk hblk 2
  have cf3 : w.frozen? ⟨hb, 3, none⟩ = false := froz_blk hblk 3
  have cf4 : w.frozen? ⟨hb, 4, none⟩ = false := froz_blk hblk 4
  have cf5 : w.frozen? ⟨hb, 5, none⟩ = false := froz_blk hblk 5
  have cf6 : w.frozen? ⟨hb, 6, none⟩ = false := froz_blk hblk 6
  have cf7 : w.frozen? ⟨hb, 7, none⟩ = false := froz_blk hblk 7
  have cf8 : w.frozen? ⟨hb, 8, none⟩ = false := froz_blk hblk 8
  have cf9 : w.frozen? ⟨hb, 9, none⟩ = false := froz_blk hblk 9
  clear hblk
  go_enter Tryz.func23, Tryz.ntmps23
  go_upto_region 1 with (fail)
  go_region
  obtain ⟨C, hC⟩ : ∃ C, C = w.heap.size := ⟨_, rfl⟩
  have HC := hide hC
  have H1 : Hid (HashIs ((w.alloc (.cells #[.int .u32 s0', .int .u32 s1', .int .u32 s2', .int .u32 s3', .int .u32 s4', .int .u32 s5', .int .u32 s6', .int .u32 s7', .string rest, .int .i64 0] 61)).drew) C ⟨s0', s1', s2', s3', s4', s5', s6', s7'⟩ rest 0) := heap_alloc_eq hC
  have HF1 : Hid (Fr [] w ((w.alloc (.cells #[.int .u32 s0', .int .u32 s1', .int .u32 s2', .int .u32 s3', .int .u32 s4', .int .u32 s5', .int .u32 s6', .int .u32 s7', .string rest, .int .i64 0] 61)).drew)) := ((Fr.refl _ _).alloc _).drew
  rw [← hC]
  clear hC c0 c1 c2 c3 c4 c5 c6 c7 c8 c9 cf0 cf1 cf2 cf3 cf4 cf5 cf6 cf7 cf8 cf9
  generalize (w.alloc (.cells #[.int .u32 s0', .int .u32 s1', .int .u32 s2', .int .u32 s3', .int .u32 s4', .int .u32 s5', .int .u32 s6', .int .u32 s7', .string rest, .int .i64 0] 61)).drew = w1 at *
  obtain ⟨sv, hsv⟩ : ∃ x : St, x = ⟨s0', s1', s2', s3', s4', s5', s6', s7'⟩ := ⟨_, rfl⟩
  have HSV := hide hsv
  rw [← hsv] at HH H1
  clear hsv
  go_wp2_with fail
  obtain ⟨zn, hzn⟩ : ∃ z, z = zeros n := ⟨_, rfl⟩
  have hz2 : zn = (119 - n % 64) % 64 := hzn
  have HZN := hide hzn
  clear hzn
  go_loopg [4] (zn + 1) (fun gk vr wr => ∃ (z : Nat) (g : Option Nat), gk = zn - z + 1 ∧ z ≤ zn ∧ BAt wr vr g (128 :: List.replicate z 0) ∧ (∀ b, g = some b → w1.heap.size ≤ b) ∧ Fr [] w1 wr)
  case atStart =>
    refine ⟨0, some w1.heap.size, by omega, by omega, .inr ⟨w1.heap.size, 0, 1, _, rfl, rfl, heap_alloc_eq rfl, by simp, by simp, by simp [bcells], ?_⟩, fun b hb => by injection hb with hb; omega, (Fr.refl _ _).alloc _⟩
    intro j u hj
    simpa [bcells] using hj
  case round =>
    obtain ⟨z, g, hgk, hz, hbt, hg, hf⟩ := hrel
    have HGK := hide hgk
    have HB := hide hbt
    have HG := hide hg
    have HF := hide hf
    have hhr : hb < wr.heap.size := by have := HF1.out.size; have := hf.size; omega
    have hhc := (hf.block hb (by have := HF1.out.size; omega) (by simp)).trans ((HF1.out.block hb hhb (by simp)).trans HH.out)
    have e8 : wr.cell? ⟨hb, 8, none⟩ = some (.string rest) := by rw [cell_blk hhc]; rfl
    have e9 : wr.cell? ⟨hb, 9, none⟩ = some (.int .i64 n) := by rw [cell_blk hhc]; rfl
    obtain ⟨av, cv, hv⟩ := SlAt.shape hbt
    have hlen : (128 :: List.replicate z (0 : UInt8)).length = z + 1 := by simp
    rw [hlen] at hv
    clear hgk hg hhc
    by_cases hlt : z < zn
    · have hne : ((rest.size : Int) + ((z : Int) + 1)) % 64 ≠ 56 := by omega
      obtain ⟨v', w', g', happ, hb', hf', hg'⟩ := BAt.push hbt [0] #[.int .u8 0] rfl (by simp) (by simp; omega)
      rw [hv] at happ
      have hap : (Builtin.append_ #[22, 22] 22 #[.slice av (z + 1) cv, .slice (some ⟨wr.heap.size, 0, none⟩) 1 1]).run Tryz.prog (wr.alloc (.cells #[.int .u8 0] 5)) = .ok v' w' := happ
      have HB' := hide hb'
      have HF' := hide hf'
      have HG' := hide hg'
      subst hv
      clear hbt happ hb' hf' hg' hf
      go_wp2_with (at_builtin; refine wpList_append_run rfl _ _ 22 rfl hap rfl rfl ?_)
      go_roundg (zn - (z + 1) + 1)
      case measure => have := HGK.out; omega
      case rel =>
        refine ⟨z + 1, g', rfl, by omega, ?_, ?_, HF.out.andThen HF'.out (fun y hy => .inr (HG.out y (by simpa using hy)))⟩
        · have h1 := HB'.out
          rw [List.cons_append, ← List.replicate_succ'] at h1
          exact h1
        · intro b2 hb2
          rcases HG'.out with h1 | ⟨b3, h1, h2⟩
          · exact HG.out b2 (h1 ▸ hb2)
          · rw [h1] at hb2
            injection hb2 with hb2
            have := HF.out.size
            omega
    · obtain rfl : z = zn := by omega
      have heq : ((rest.size : Int) + ((z : Int) + 1)) % 64 = 56 := by omega
      have hzb : z ≤ 63 := by omega
      subst hv
      clear hbt hf hz2 hrn
      go_wp2_with fail
      clear heq
      go_loopg [4, 36] 9 (fun gk vr i wr => ∃ (t : Nat) (g : Option Nat), gk = 9 - t ∧ t ≤ 8 ∧ i = .int .i64 t ∧ BAt wr vr g (128 :: List.replicate z 0 ++ lenk ((n : Int) * 8) t) ∧ (∀ b, g = some b → w1.heap.size ≤ b) ∧ Fr [] w1 wr)
      case atStart => exact ⟨0, g, rfl, by omega, rfl, by simpa [lenk] using HB.out, HG.out, HF.out⟩
      case round =>
        obtain ⟨t, g, hgk, ht, rfl, hbt, hg, hf⟩ := hrel
        have HGK := hide hgk
        have HB := hide hbt
        have HG := hide hg
        have HF := hide hf
        obtain ⟨av2, cv2, hv⟩ := SlAt.shape hbt
        have hlen : (128 :: List.replicate z (0 : UInt8) ++ lenk ((n : Int) * 8) t).length = z + 1 + t := by simp [lenk_len]; omega
        rw [hlen] at hv
        clear hgk hg
        by_cases hlt : t < 8
        · have n56 : (56 - 8 * (t : Int)).toNat = 56 - 8 * t := by omega
          have hb56 : (0 : Int) ≤ 56 - 8 * (t : Int) ∧ 56 - 8 * (t : Int) ≤ 64 := by omega
          obtain ⟨bv, hbv⟩ : ∃ x : Int, x = (n : Int) * 8 / 2 ^ (56 - 8 * t) % 256 := ⟨_, rfl⟩
          have hbv2 : 0 ≤ bv ∧ bv < 256 := by rw [hbv]; omega
          obtain ⟨v', w', g', happ, hb', hf', hg'⟩ := BAt.push hbt [UInt8.ofNat bv.toNat] #[.int .u8 bv] (by simp only [bcells, List.map_cons, List.map_nil]; rw [ofNat_val _ hbv2]) (by simp) (by rw [hlen]; simp; omega)
          rw [hv] at happ
          have hap : (Builtin.append_ #[22, 22] 22 #[.slice av2 (z + 1 + t) cv2, .slice (some ⟨wr.heap.size, 0, none⟩) 1 1]).run Tryz.prog (wr.alloc (.cells #[.int .u8 bv] 5)) = .ok v' w' := happ
          rw [hbv] at hap
          have HB' := hide hb'
          have HF' := hide hf'
          have HG' := hide hg'
          have HBV := hide hbv
          subst hv
          clear hbt happ hb' hf' hg' hf hbv hbv2
          go_wp2_with (at_builtin; refine wpList_append_run rfl _ _ 22 rfl hap rfl rfl ?_)
          go_roundg (9 - (t + 1))
          case measure => have := HGK.out; omega
          case rel =>
            refine ⟨t + 1, g', rfl, by omega, by go_num, ?_, ?_, HF.out.andThen HF'.out (fun y hy => .inr (HG.out y (by simpa using hy)))⟩
            · have h1 := HB'.out
              rw [HBV.out, List.append_assoc] at h1
              exact h1
            · intro b2 hb2
              rcases HG'.out with h1 | ⟨b3, h1, h2⟩
              · exact HG.out b2 (h1 ▸ hb2)
              · rw [h1] at hb2
                injection hb2 with hb2
                have := HF.out.size
                omega
        · obtain rfl : t = 8 := by omega
          obtain ⟨hstr, b, off, cap, hv2⟩ := hbt.str (by rw [hlen]; omega)
          rw [hlen] at hv2
          have hlist : 128 :: List.replicate z (0 : UInt8) ++ lenk ((n : Int) * 8) 8 = padOf n := by
            rw [lenk_all, HZN.out]
            rfl
          rw [hlist] at hstr
          subst hv2
          obtain ⟨pl, hpl⟩ : ∃ pl : List UInt8, pl = padOf n := ⟨_, rfl⟩
          rw [← hpl] at hstr
          have hpll : pl.length = z + 1 + 8 := by rw [hpl, ← hlist]; exact hlen
          have hC0 : C ≠ 1 := by have := HC.out; have := HK.out.lt; omega
          have HW := hide (write14_any C sv rest ⟨pl.toArray⟩ 0 wr ((hf.block C (lt_of_blk H1.out) (by simp)).trans H1.out) ((HK.out.fr HF1.out (by simp)).fr hf (by simp)) hC0 (by omega) (by show pl.toArray.size ≤ 1000000; simp; omega) (by omega))
          have HPL := hide hpl
          clear hbt hf hpl hv
          go_wp2_with fail
          refine (unhide HW).mono ?_
          rintro e w2 ⟨rfl, hf2, r2, hr2, hh2⟩
          have HF2 := hide ((HF1.out.trans HF.out).andThen hf2 (by have := HC.out; simp; omega))
          have HB26 := hide (bytes26_any C _ _ _ w2 hh2)
          clear hf2 hr2 hh2
          go_wp2_with fail
          refine (unhide HB26).mono ?_
          rintro e w3 ⟨rfl, hf3⟩
          have HF3 := hide (HF2.out.trans hf3)
          clear hf3
          go_wp2
          go_ret
          refine ⟨?_, HF3.out⟩
          rw [← HSV.out, ← HPL.out]
          rfl
end Go.Proofs.YthmhcnnigepohaaGreatDoor.Dg
