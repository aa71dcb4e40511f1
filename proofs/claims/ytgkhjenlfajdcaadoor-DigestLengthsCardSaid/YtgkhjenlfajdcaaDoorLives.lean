/- The chapter's own examples (lives). -/
import Derived.Test.YtgkhjenlfajdcaaDoorObj
namespace Go.Proofs.YtgkhjenlfajdcaaDoor
open Go.RowKit

set_option maxRecDepth 100000 in
set_option maxHeartbeats 1000000 in
theorem lives_any (w : World) (hk : Kst w) : Calls Tryd.prog 8 #[] w fun e w' => e = .returned (.bool true) ∧ Fr [] w w' := by
  have HK := hide hk
  have h0 := hk.lt
  clear hk
  obtain ⟨lit, hlit⟩ : ∃ x : ByteArray, x = ⟨#[98, 97, 55, 56, 49, 54, 98, 102, 56, 102, 48, 49, 99, 102, 101, 97, 52, 49, 52, 49, 52, 48, 100, 101, 53, 100, 97, 101, 50, 50, 50, 51, 98, 48, 48, 51, 54, 49, 97, 51, 57, 54, 49, 55, 55, 97, 57, 99, 98, 52, 49, 48, 102, 102, 54, 49, 102, 50, 48, 48, 49, 53, 97, 100]⟩ := ⟨_, rfl⟩
  have HLIT : Hid ((⟨(hex (sha KK [97, 98, 99])).toArray⟩ : ByteArray) = lit) := by
    show _ = _
    rw [hlit, sha_abc]
  have HL32 : Hid ((⟨(sha KK []).toArray⟩ : ByteArray).size = 32) := by
    show (sha KK []).toArray.size = 32
    simpa using sha_len KK []
  go_enter Tryd.func8, Tryd.ntmps8
  go_wp2_with fail
  refine (hnew_any _).mono ?_
  rintro e w1 ⟨hb, rfl, hge, hh, hf⟩
  have HF1 := hide hf
  have HW := hide (hwrite_any hb [] ⟨#[97]⟩ w1 hh (HK.out.fr hf (by simp)) (by omega) (by decide))
  clear hh hf
  go_wp2_with fail
  refine (unhide HW).mono ?_
  rintro e w2 ⟨rfl, hh, hf⟩
  have HF2 := hide (HF1.out.andThen hf (by simp; omega))
  have HW2 := hide (hwrite_any hb _ ⟨#[98, 99]⟩ w2 hh (HK.out.fr HF2.out (by simp)) (by omega) (by decide))
  clear hh hf
  go_wp2_with fail
  refine (unhide HW2).mono ?_
  rintro e w3 ⟨rfl, hh, hf⟩
  have HF3 := hide (HF2.out.andThen hf (by simp; omega))
  have hh2 : HashOf w3 hb [97, 98, 99] := hh
  have HLEN := hide (hlen_any hb _ w3 hh2)
  have hk3 := HK.out.fr HF3.out (by simp)
  have hx1 := hhex_any hb _ w3 hh2 hk3 (by decide)
  rw [HLIT.out] at hx1
  have HX1 := hide hx1
  clear hh hf hh2 hk3 hx1
  go_wp2_with (go_at_call 16; with_reducible refine (unhide HLEN).mono ?_; rintro e w' ⟨rfl, rfl⟩)
  refine (unhide HX1).mono ?_
  rintro e w4 ⟨rfl, hf4⟩
  have HF4 := hide (HF3.out.andThen hf4 (by simp))
  have hx2 := hex11_any ⟨#[97, 98, 99]⟩ w4 (HK.out.fr HF4.out (by simp)) (by decide)
  rw [show (⟨#[97, 98, 99]⟩ : ByteArray).data.toList = [97, 98, 99] from rfl, HLIT.out] at hx2
  have HX2 := hide hx2
  clear hf4 hx2
  go_wp2_with fail
  refine (unhide HX2).mono ?_
  rintro e w5 ⟨rfl, hf5⟩
  have HF5 := hide (HF4.out.andThen hf5 (by simp))
  have hx3 := hex11_any ⟨#[97, 98, 99]⟩ w5 (HK.out.fr HF5.out (by simp)) (by decide)
  rw [show (⟨#[97, 98, 99]⟩ : ByteArray).data.toList = [97, 98, 99] from rfl, HLIT.out] at hx3
  have HX3 := hide hx3
  clear hf5 hx3
  go_wp2_with fail
  refine (unhide HX3).mono ?_
  rintro e w6 ⟨rfl, hf6⟩
  have HF6 := hide (HF5.out.andThen hf6 (by simp))
  have HS := hide (sum9_any ⟨#[]⟩ w6 (HK.out.fr HF6.out (by simp)) (by decide))
  clear hf6
  go_wp2_with fail
  refine (unhide HS).mono ?_
  rintro e w7 ⟨rfl, hf7⟩
  have HF7 := hide (HF6.out.andThen hf7 (by simp))
  have h32 : (ByteArray.size ⟨(sha KK (ByteArray.mk #[]).data.toList).toArray⟩) = 32 := HL32.out
  obtain ⟨sb, hsb⟩ : ∃ x : ByteArray, x = ⟨(sha KK (ByteArray.mk #[]).data.toList).toArray⟩ := ⟨_, rfl⟩
  rw [← hsb] at h32 ⊢
  clear hsb hf7
  go_wp2
  go_ret
  exact ⟨rfl, HF7.out⟩
end Go.Proofs.YtgkhjenlfajdcaaDoor

