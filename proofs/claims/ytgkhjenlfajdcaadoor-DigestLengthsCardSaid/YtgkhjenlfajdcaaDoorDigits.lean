/- The reference's Digits; the law DigestForms. -/
import Derived.Test.YtgkhjenlfajdcaaDoorLives
import Derived.Deep.RegionLaw
namespace Go.Proofs.YtgkhjenlfajdcaaDoor
open Go.RowKit

set_option maxRecDepth 100000 in
set_option maxHeartbeats 1000000 in
theorem digits18_any (s : ByteArray) (w : World) (h0 : 0 < s.size) (hs : s.size ≤ 100000) :
    Calls Tryd.prog 18 #[.string s] w fun e w' => e = .returned (.string ⟨(hex s.data.toList).toArray⟩) ∧ Fr [] w w' := by
  obtain ⟨m, hm⟩ : ∃ m, m = s.data.toList := ⟨_, rfl⟩
  rw [← hm]
  have hml : m.length = s.size := by rw [hm]; simp
  have HM := hide hm
  clear hm
  go_enter Tryd.func18, Tryd.ntmps18
  go_wp2_with fail
  go_loopg [3, 4] (s.size + 1) (fun gk vr i wr => ∃ (t : Nat) (g : Option Nat), gk = s.size + 1 - t ∧ t ≤ s.size ∧ i = .int .i64 t ∧ BAt wr vr g (hex (m.take t)) ∧ (∀ b, g = some b → w.heap.size ≤ b) ∧ Fr [] w wr)
  case atStart => exact ⟨0, none, rfl, by omega, rfl, SlAt.nil_ _, by simp, Fr.refl _ _⟩
  case round =>
    obtain ⟨t, g, hgk, ht, rfl, hbt, hg, hf⟩ := hrel
    have HGK := hide hgk
    have HB := hide hbt
    have HG := hide hg
    have HF := hide hf
    obtain ⟨av, cv, hv⟩ := SlAt.shape hbt
    clear hgk hg
    by_cases hlt : t < s.size
    · obtain ⟨bx, hbx⟩ : ∃ x, x = (m[t]'(by omega)).toNat := ⟨_, rfl⟩
      have hst : (s[t]'hlt).toNat = bx := by
        rw [hbx]
        congr 1
        have hm2 := HM.out
        subst hm2
        rfl
      have hbl : bx < 256 := by rw [hbx]; exact UInt8.toNat_lt _
      obtain ⟨lo, hlo⟩ : ∃ x, x = bx % 16 := ⟨_, rfl⟩
      obtain ⟨hi, hhi⟩ : ∃ x, x = bx / 16 := ⟨_, rfl⟩
      have h15 : bits .and .u8 (bx : Int) 15 = (lo : Int) := by rw [hlo]; exact and15 bx hbl
      have h16 : (bx : Int) / 16 = (hi : Int) := by omega
      have hlo2 : (0 : Int) ≤ (lo : Int) ∧ (lo : Int) < 16 := by omega
      have hhi2 : (0 : Int) ≤ (hi : Int) ∧ (hi : Int) < 16 := by omega
      have hts : (0 : Int) ≤ (t : Int) ∧ (t : Int) < (s.size : Int) := by omega
      have HLO := hide hlo
      have HHI := hide hhi
      have hlo3 : lo < 16 := by omega
      have hhi3 : hi < 16 := by omega
      clear hlo hhi
      have hhl : (hex (m.take t)).length = 2 * t := by rw [hex_len]; simp; omega
      rw [hhl] at hv
      subst hv
      have HBX := hide hbx
      clear hbx hf
      obtain ⟨v', w', g', happ, hb', hf', hg'⟩ := BAt.push (w := wr.drew) (SlAt.fr hbt ((Fr.refl [] wr).drew) (by simp)) [hexd.getD hi 0, hexd.getD lo 0] #[.int .u8 ((({ data := #[48, 49, 50, 51, 52, 53, 54, 55, 56, 57, 97, 98, 99, 100, 101, 102] } : ByteArray)[hi]'hhi3).toNat : Int), .int .u8 ((({ data := #[48, 49, 50, 51, 52, 53, 54, 55, 56, 57, 97, 98, 99, 100, 101, 102] } : ByteArray)[lo]'hlo3).toNat : Int)] (by rw [dig_at, dig_at]; rfl) (by simp) (by rw [hhl]; simp; omega)
      have hap : (Builtin.append_ #[27, 27] 27 #[.slice av (2 * t) cv, .slice (some ⟨wr.heap.size, 0, none⟩) 2 2]).run Tryd.prog ((wr.alloc (.cells #[.int .u8 ((({ data := #[48, 49, 50, 51, 52, 53, 54, 55, 56, 57, 97, 98, 99, 100, 101, 102] } : ByteArray)[hi]'hhi3).toNat : Int), .int .u8 ((({ data := #[48, 49, 50, 51, 52, 53, 54, 55, 56, 57, 97, 98, 99, 100, 101, 102] } : ByteArray)[lo]'hlo3).toNat : Int)] 5)).drew) = .ok v' w' := happ
      have HB' := hide hb'
      have HF' := hide (((Fr.refl g.toList wr).drew).trans hf')
      have HG' := hide hg'
      clear hbt happ hb' hf' hg'
      go_upto_region 5 with (fail)
      go_region_law (first | (refine step_append_run rfl _ _ 27 rfl hap rfl rfl ?_))
      all_goals
        go_wp2
        go_roundg (s.size + 1 - (t + 1))
        case measure => have := HGK.out; omega
        case rel =>
          refine ⟨t + 1, g', rfl, by omega, by go_num, ?_, ?_, HF.out.andThen HF'.out (fun y hy => .inr (HG.out y (by simpa using hy)))⟩
          · have h1 := HB'.out
            rw [hex_take m t (by omega), ← HBX.out, ← HHI.out, ← HLO.out]
            exact h1
          · intro b2 hb2
            rcases HG'.out with h1 | ⟨b3, h1, h2⟩
            · exact HG.out b2 (h1 ▸ hb2)
            · rw [h1] at hb2
              injection hb2 with hb2
              have h3 : wr.drew.heap.size = wr.heap.size := rfl
              have := HF.out.size
              omega
    · obtain rfl : t = s.size := by omega
      rw [List.take_of_length_le (by omega)] at hbt
      obtain ⟨hstr, b, off, cp, hv2⟩ := hbt.str (by rw [hex_len]; omega)
      subst hv2
      clear hbt hv hf
      go_wp2
      go_ret
      exact ⟨rfl, HF.out⟩
end Go.Proofs.YtgkhjenlfajdcaaDoor

