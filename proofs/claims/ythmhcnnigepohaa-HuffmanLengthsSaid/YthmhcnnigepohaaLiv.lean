/- The chapter's own examples (lives). -/
import Derived.Test.YthmhcnnigepohaaLen
import Derived.Test.YthmhcnnigepohaaRdec
namespace Go.Proofs.Ythmhcnnigepohaa
open Go.RowKit

theorem IR.lay (w : World) (l : List Int) : IR (w.alloc (.cells (l.map (Value.int .i64)).toArray 3)) (.slice (some ⟨w.heap.size, 0, none⟩) l.length l.length) l := by
  refine ⟨_, _, rfl, fun i hi => ⟨_, rfl, ?_⟩⟩
  rw [Addr.add_lit, Nat.zero_add, cell_blk (heap_alloc_eq rfl)]
  simp [List.getD, List.getElem?_eq_getElem hi]
theorem lay3 (w : World) (a b c : Int) : IR (w.alloc (.cells #[.int .i64 a, .int .i64 b, .int .i64 c] 3)) (.slice (some ⟨w.heap.size, 0, none⟩) 3 3) [a, b, c] := IR.lay w [a, b, c]
theorem lay8 (w : World) (a b c d e f g h : Int) : IR (w.alloc (.cells #[.int .i64 a, .int .i64 b, .int .i64 c, .int .i64 d, .int .i64 e, .int .i64 f, .int .i64 g, .int .i64 h] 3)) (.slice (some ⟨w.heap.size, 0, none⟩) 8 8) [a, b, c, d, e, f, g, h] := IR.lay w [a, b, c, d, e, f, g, h]

theorem k1 : chk [1, 2, 2] = 0 := by decide +kernel
theorem k2 : chk [1, 1, 2] = 2 := by decide +kernel
theorem k3 : codesOf [3, 3, 3, 3, 3, 2, 4, 4] = [2, 3, 4, 5, 6, 0, 14, 15] := by decide +kernel
theorem k4 : lensOf [5, 1, 1] 15 = [1, 2, 2] := by decide +kernel
theorem k5 : cost [5, 1, 1] [1, 2, 2] = 9 := by decide +kernel
theorem k6 : chk (zI [2, 1, 2]) = 0 := by decide +kernel
theorem k7 : 1 ≤ 0 + 1 ∧ 0 + 1 < lgs [2, 1, 2] 15 ∧ fst [2, 1, 2] (0 + 1) + cnt [2, 1, 2] (0 + 1) ≤ 0 * 2 + 1 := by decide +kernel
theorem k8 : 1 + 1 ≤ lgs [2, 1, 2] 15 ∧ fst [2, 1, 2] (1 + 1) ≤ 1 * 2 + 1 ∧ 1 * 2 + 1 < fst [2, 1, 2] (1 + 1) + cnt [2, 1, 2] (1 + 1) ∧ (syk [2, 1, 2] (1 + 1) [2, 1, 2].length)[1 * 2 + 1 - fst [2, 1, 2] (1 + 1)]? = some 2 := by decide +kernel

set_option maxRecDepth 100000 in
set_option maxHeartbeats 4000000 in
theorem lives_any (w : World) : Calls Try.prog 10 #[] w fun e w' => e = .returned (.bool true) ∧ Fr [] w w' := by
  have H0 := hide (newdec20_any (.slice (some ⟨w.heap.size, 0, none⟩) 3 3) [2, 1, 2] (w.alloc (.cells #[.int .i64 2, .int .i64 1, .int .i64 2] 3)) (lay3 w 2 1 2) (by decide) (by decide) k6)
  have HF0 := hide ((Fr.refl [] w).alloc (.cells #[.int .i64 2, .int .i64 1, .int .i64 2] 3))
  go_enter Try.func10, Try.ntmps10
  go_wp2_with fail
  refine (unhide H0).mono ?_
  rintro e w1 ⟨D, g, sv, rfl, hD, hd, hs, hg, hf⟩
  have HF1 := hide (HF0.out.trans hf)
  have HDW : Hid (w.heap.size ≤ D) := hide (by have := HF0.out.size; omega)
  have HGD : Hid (∀ b, g = some b → b ≠ D) := hide (fun b hb => (hg b hb).2)
  have H1 := hide (step22_on D [2, 1, 2] 0 0 1 g sv 1 w1 hd hs HGD.out (by decide) (by decide) (by omega) (by omega) (by decide) k7)
  have HS := hide hs
  clear hd hs hg hf hD
  go_wp2_with fail
  refine (unhide H1).mono ?_
  rintro e w2 ⟨rfl, hd, hf⟩
  have HF2 := hide (HF1.out.andThen hf (by have := HDW.out; simp; omega))
  have HS2 : Hid (NAt w2 sv g (sys [2, 1, 2] 15)) := hide (SlAt.fr HS.out hf (fun b hb => by have := HGD.out b hb; simpa using this))
  have H2 := hide (step22_hit D [2, 1, 2] 1 1 1 g sv 1 w2 hd HS2.out HGD.out (by decide) (by decide) (by omega) (by omega) (by decide) 2 k8)
  clear hd hf
  go_wp2_with fail
  refine (unhide H2).mono ?_
  rintro e w3 ⟨rfl, hd, hf⟩
  have HF3 := hide (HF2.out.andThen hf (by have := HDW.out; simp; omega))
  clear hd hf
  have h4 := check11_any _ _ _ (lay3 w3 1 2 2) (by decide)
  rw [k1] at h4
  have H4 := hide h4
  have HF4 := hide (HF3.out.alloc (.cells #[.int .i64 1, .int .i64 2, .int .i64 2] 3))
  clear h4
  go_wp2_with fail
  refine (unhide H4).mono ?_
  rintro e w4 ⟨rfl, hw4⟩
  rw [hw4] at HF4
  clear hw4
  have h5 := check11_any _ _ _ (lay3 w4 1 1 2) (by decide)
  rw [k2] at h5
  have H5 := hide h5
  have HF5 := hide (HF4.out.alloc (.cells #[.int .i64 1, .int .i64 1, .int .i64 2] 3))
  clear h5
  go_wp2_with fail
  refine (unhide H5).mono ?_
  rintro e w5 ⟨rfl, hw5⟩
  rw [hw5] at HF5
  clear hw5
  have h6 := codes14_any _ _ _ (lay8 w5 3 3 3 3 3 2 4 4) (by decide)
  rw [k3] at h6
  have H6 := hide h6
  have HF6 := hide (HF5.out.alloc (.cells #[.int .i64 3, .int .i64 3, .int .i64 3, .int .i64 3, .int .i64 3, .int .i64 2, .int .i64 4, .int .i64 4] 3))
  clear h6
  go_wp2_with fail
  refine (unhide H6).mono ?_
  rintro e w6 ⟨v6, rfl, hi6, hf⟩
  have HF7 := hide (HF6.out.trans hf)
  have HI6 := hide (hi6.fr ((Fr.refl [] w6).alloc (.cells #[.int .i64 2, .int .i64 3, .int .i64 4, .int .i64 5, .int .i64 6, .int .i64 0, .int .i64 14, .int .i64 15] 3)))
  have H7 := hide (same13_any _ _ _ _ HI6.out (lay8 w6 2 3 4 5 6 0 14 15) (by decide))
  have HF8 := hide (HF7.out.alloc (.cells #[.int .i64 2, .int .i64 3, .int .i64 4, .int .i64 5, .int .i64 6, .int .i64 0, .int .i64 14, .int .i64 15] 3))
  clear hi6 hf
  go_wp2_with fail
  refine (unhide H7).mono ?_
  rintro e w7 ⟨rfl, hf⟩
  have HF9 := hide (HF8.out.trans hf)
  clear hf
  have h8 := lengths18_any _ [5, 1, 1] 15 _ (lay3 w7 5 1 1) (by decide)
  rw [k4] at h8
  have H8 := hide h8
  have HFA := hide (HF9.out.alloc (.cells #[.int .i64 5, .int .i64 1, .int .i64 1] 3))
  clear h8
  go_wp2_with fail
  refine (unhide H8).mono ?_
  rintro e w8 ⟨v8, rfl, hi8, hf⟩
  have HFB := hide (HFA.out.trans hf)
  have HI8 := hide (hi8.fr ((Fr.refl [] w8).alloc (.cells #[.int .i64 1, .int .i64 2, .int .i64 2] 3)))
  have H9 := hide (same13_any _ _ _ _ HI8.out (lay3 w8 1 2 2) (by decide))
  have HFC := hide (HFB.out.alloc (.cells #[.int .i64 1, .int .i64 2, .int .i64 2] 3))
  clear hi8 hf
  go_wp2_with fail
  refine (unhide H9).mono ?_
  rintro e w9 ⟨rfl, hf⟩
  have HFD := hide (HFC.out.trans hf)
  clear hf
  have HIA := hide ((lay3 w9 5 1 1).fr ((Fr.refl [] _).alloc (.cells #[.int .i64 1, .int .i64 2, .int .i64 2] 3)))
  have hib := lay3 (w9.alloc (.cells #[.int .i64 5, .int .i64 1, .int .i64 1] 3)) 1 2 2
  have hsz : (w9.alloc (.cells #[.int .i64 5, .int .i64 1, .int .i64 1] 3)).heap.size = w9.heap.size + 1 := by simp
  rw [hsz] at hib
  have ha := cost16_any _ _ _ _ _ HIA.out hib (by decide) (by decide)
  rw [k5] at ha
  have HA := hide ha
  have HFE := hide ((HFD.out.alloc (.cells #[.int .i64 5, .int .i64 1, .int .i64 1] 3)).alloc (.cells #[.int .i64 1, .int .i64 2, .int .i64 2] 3))
  clear ha hib hsz
  go_wp2_with fail
  refine (unhide HA).mono ?_
  rintro e wa ⟨rfl, hf⟩
  have HFF := hide (HFE.out.trans hf)
  clear hf
  go_wp2
  go_ret
  exact ⟨rfl, HFF.out⟩
end Go.Proofs.Ythmhcnnigepohaa

