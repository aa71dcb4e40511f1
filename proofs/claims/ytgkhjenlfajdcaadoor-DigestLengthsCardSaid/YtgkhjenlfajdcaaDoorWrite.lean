/- SHA-256 in the program: Write. -/
import Derived.Test.YtgkhjenlfajdcaaDoorBytes
namespace Go.Proofs.YtgkhjenlfajdcaaDoor
open Go.RowKit

theorem write14_nil (s : ByteArray) (w : World) :
    Calls Tryd.prog 14 #[.pointer none, .string s] w fun e w' => e = .returned (.tuple #[]) ∧ w = w' := by
  go_enter Tryd.func14, Tryd.ntmps14
  go_wp2
  refine bodyPost_ret (results_none rfl _ _ _) rfl ?_
  exact ⟨rfl, rfl⟩

theorem HashF.setRest {w : World} {hb : Nat} {f : Nat → Int} {rest : ByteArray} {n : Int} (h : HashF w hb f rest n) (r : ByteArray) : HashF (w.setCell ⟨hb, 8, none⟩ (.string r)) hb f r n := by
  unfold HashF at *
  rw [heap_set, h]
  rfl
theorem HashF.setN {w : World} {hb : Nat} {f : Nat → Int} {rest : ByteArray} {n : Int} (h : HashF w hb f rest n) (m : Int) : HashF (w.setCell ⟨hb, 9, none⟩ (.int .i64 m)) hb f rest m := by
  unfold HashF at *
  rw [heap_set, h]
  rfl

set_option maxRecDepth 100000 in
set_option maxHeartbeats 1000000 in
theorem write14_any (hb : Nat) (st : St) (rest s : ByteArray) (n : Int) (w : World) (h : HashIs w hb st rest n) (hk : Kst w) (h0 : hb ≠ 0) (hn : 0 ≤ n ∧ n ≤ 1000000) (hs : s.size ≤ 1000000) (hr : rest.size ≤ 1000000) :
    Calls Tryd.prog 14 #[.pointer (some ⟨hb, 0, none⟩), .string s] w fun e w' => e = .returned (.tuple #[]) ∧ Fr [hb] w w' ∧
      ∃ r : ByteArray, r.data.toList = (comp KK st (rest.data.toList ++ s.data.toList)).2 ∧ HashIs w' hb (comp KK st (rest.data.toList ++ s.data.toList)).1 r (n + s.size) := by
  have HH := hide h
  have HK := hide hk
  have hhb := lt_of_blk h
  have d8 : w.cell? ⟨hb, 8, none⟩ = some (.string rest) := by rw [cell_blk h]; rfl
  have d9 : w.cell? ⟨hb, 9, none⟩ = some (.int .i64 n) := by rw [cell_blk h]; rfl
  have f8 : w.frozen? ⟨hb, 8, none⟩ = false := froz_blk h _
  have f9 : w.frozen? ⟨hb, 9, none⟩ = false := froz_blk h _
  obtain ⟨L, hL⟩ : ∃ L, L = comp KK st (rest.data.toList ++ s.data.toList) := ⟨_, rfl⟩
  have HL := hide hL
  rw [← hL]
  clear h hk hL
  go_enter Tryd.func14, Tryd.ntmps14
  go_wp2_with fail
  have HW1 : Hid (HashIs ((w.setCell ⟨hb, 9, none⟩ (.int .i64 (n + s.size))).setCell ⟨hb, 8, none⟩ (.string (rest ++ s))) hb st (rest ++ s) (n + s.size)) := (HH.out.setN _).setRest _
  have HF1 : Hid (Fr [hb] w ((w.setCell ⟨hb, 9, none⟩ (.int .i64 (n + s.size))).setCell ⟨hb, 8, none⟩ (.string (rest ++ s)))) := ((Fr.refl _ _).setCell (.inl (by simp)) _).setCell (.inl (by simp)) _
  have hsz : (rest ++ s).size ≤ 2000000 := by simp; omega
  obtain ⟨r0, hr0⟩ : ∃ r, r = rest ++ s := ⟨_, rfl⟩
  rw [← hr0] at HW1 HF1 hsz ⊢
  have HR0 := hide hr0
  clear hr0
  obtain ⟨nn, hnn⟩ : ∃ m, m = n + (s.size : Int) := ⟨_, rfl⟩
  rw [← hnn] at HW1 HF1 ⊢
  have HNN := hide hnn
  clear hnn
  generalize (w.setCell ⟨hb, 9, none⟩ (.int .i64 nn)).setCell ⟨hb, 8, none⟩ (.string r0) = w1 at *
  clear d8 d9 f8 f9
  go_loopg [] (r0.size + 1) (fun gk wr => ∃ (st' : St) (r : ByteArray), gk = r.size + 1 ∧ r.size ≤ 2000000 ∧ comp KK st' r.data.toList = L ∧ HashIs wr hb st' r nn ∧ Fr [hb] w wr)
  case atStart => exact ⟨st, r0, rfl, hsz, by rw [HL.out, HR0.out]; simp, HW1.out, HF1.out⟩
  case round =>
    obtain ⟨st', r, rfl, hrs, hcmp, hh, hf⟩ := hrel
    have HC := hide hcmp
    have HI := hide hh
    have HF := hide hf
    have d8 : wr.cell? ⟨hb, 8, none⟩ = some (.string r) := by rw [cell_blk hh]; rfl
    have f8 : wr.frozen? ⟨hb, 8, none⟩ = false := froz_blk hh _
    have hhr := lt_of_blk hh
    have hkr := HK.out.fr hf (by simp; omega)
    have HKR := hide hkr
    clear hcmp hh hf hkr
    by_cases hge : 64 ≤ r.size
    · have HA := hide (add25_any hb st' r nn (r.extract 0 64) wr HI.out HKR.out (by simp; omega))
      go_wp2_with fail
      refine (unhide HA).mono ?_
      rintro e w2 ⟨rfl, hh2, hf2⟩
      have d8' : w2.cell? ⟨hb, 8, none⟩ = some (.string r) := by rw [cell_blk hh2]; rfl
      have f8' : w2.frozen? ⟨hb, 8, none⟩ = false := froz_blk hh2 _
      have hh2l := lt_of_blk hh2
      have HI2 := hide hh2
      have HF2 := hide (HF.out.trans hf2)
      clear hh2 hf2 HA d8 f8 hhr
      go_wp2_with fail
      go_roundg (r.size - 64 + 1)
      case measure => omega
      case rel =>
        refine ⟨addS KK st' (r.extract 0 64).data.toList, r.extract 64 r.size, by simp, by simp; omega, ?_, HI2.out.setRest _, HF2.out.setCell (.inl (by simp)) _⟩
        have h1 : (r.extract 0 64).data.toList = r.data.toList.take 64 := by simp
        have h2 : (r.extract 64 r.size).data.toList = r.data.toList.drop 64 := by
          simp
          exact List.take_of_length_le (by simp)
        rw [h1, h2, ← HC.out]
        conv => rhs; rw [comp_ge (by simpa using hge)]
    · go_wp2
      refine bodyPost_end (results_none rfl _ _ _) rfl ?_
      have hcl : comp KK st' r.data.toList = (st', r.data.toList) := comp_lt (by simp; omega)
      have hc := HC.out
      rw [hcl] at hc
      refine ⟨rfl, HF.out, r, by rw [← hc], ?_⟩
      rw [← hc, ← HNN.out]
      exact HI.out
end Go.Proofs.YtgkhjenlfajdcaaDoor

