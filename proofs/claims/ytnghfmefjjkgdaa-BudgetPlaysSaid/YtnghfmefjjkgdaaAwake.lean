/- The examples of the chapter (awake), and EscalateSteps' law's walk. -/
import Derived.Test.YtnghfmefjjkgdaaVic
namespace Go.Proofs.Ytnghfmefjjkgdaa
open Go.RowKit

theorem PInv.start (n : Int) : PInv (pl0 n) 0 := by
  refine ⟨?_, ?_, ?_, ?_, ?_, ?_⟩ <;> simp [pl0, sumN]
  omega
theorem PInv.setLeft {p : Pl} {k : Nat} (h : PInv p k) {n : Int} (hn : 0 ≤ n ∧ n ≤ 1048576) : PInv { p with left := n } k :=
  ⟨h.total, hn, h.keys, h.acc, h.used, h.len⟩
theorem grant_bd (n : Int) : 0 ≤ grant n ∧ grant n ≤ 1048576 := by unfold grant; omega

def aw0 := pl0 1600
def aw1 := setPl aw0 1 1001 1
def aw2 := setPl aw1 1 900 1
def aw3 := setPl aw2 2 500 0
def aw4 := setPl aw3 3 500 0
theorem awI0 : PInv aw0 0 := PInv.start _
theorem awI1 : PInv aw1 1 := awI0.set _ _ _
theorem awI2 : PInv aw2 2 := awI1.set _ _ _
theorem awI3 : PInv aw3 3 := awI2.set _ _ _
theorem awI4 : PInv aw4 4 := awI3.set _ _ _
theorem aw1_is : isOff aw1 1 = true ∧ isOff aw1 2 = false ∧ pcnt aw1 6 = 1 := by decide +kernel
theorem aw2_is : pcnt aw2 6 = 1 := by decide +kernel
theorem aw4_is : aw4.used = 1900 ∧ aw4.peak = 1900 ∧ aw4.total = 1600 ∧ aw4.M = [(1, (900, 1)), (2, (500, 0)), (3, (500, 0))] := by decide +kernel
theorem aw4_vic {v : Int} (h : VicOf aw4 v) : v = 2 := by
  have h2 : VicOf aw4 2 := by
    unfold VicOf
    rw [aw4_is.1, aw4_is.2.2.1, aw4_is.2.2.2, if_neg (by omega)]
    exact ⟨(500, 0), by simp, by unfold worse; simp⟩
  exact VicOf.unique ⟨rfl, rfl, rfl, rfl, rfl, .refl _⟩ h h2

set_option maxRecDepth 100000 in
set_option maxHeartbeats 1000000 in
theorem awake_any (w : World) : Calls Try.prog 21 #[] w fun e w' => e = .returned (.bool true) ∧ Fr [] w w' := by
  obtain ⟨q0, e0⟩ : ∃ q, q = aw0 := ⟨_, rfl⟩
  obtain ⟨q1, e1⟩ : ∃ q, q = aw1 := ⟨_, rfl⟩
  obtain ⟨q2, e2⟩ : ∃ q, q = aw2 := ⟨_, rfl⟩
  obtain ⟨q3, e3⟩ : ∃ q, q = aw3 := ⟨_, rfl⟩
  obtain ⟨q4, e4⟩ : ∃ q, q = aw4 := ⟨_, rfl⟩
  obtain ⟨q5, e5⟩ : ∃ q, q = { q4 with left := grant 10 } := ⟨_, rfl⟩
  obtain ⟨q6, e6⟩ : ∃ q, q = { q5 with left := 3 } := ⟨_, rfl⟩
  obtain ⟨q7, e7⟩ : ∃ q, q = { q6 with left := 0 } := ⟨_, rfl⟩
  have s0 : pl0 1600 = q0 := by rw [e0]; rfl
  have s1 : setPl q0 1 1001 1 = q1 := by rw [e0, e1]; rfl
  have s2 : setPl q1 1 900 1 = q2 := by rw [e1, e2]; rfl
  have s3 : setPl q2 2 500 0 = q3 := by rw [e2, e3]; rfl
  have s4 : setPl q3 3 500 0 = q4 := by rw [e3, e4]; rfl
  have l5 : q5.left = 10 := by rw [e5]; rfl
  have l6 : q6.left = 3 := by rw [e6]
  have l7 : q7.left = 0 := by rw [e7]
  have i0 : PInv q0 0 := by rw [e0]; exact awI0
  have i1 : PInv q1 1 := by rw [e1]; exact awI1
  have i2 : PInv q2 2 := by rw [e2]; exact awI2
  have i3 : PInv q3 3 := by rw [e3]; exact awI3
  have i4 : PInv q4 4 := by rw [e4]; exact awI4
  have o1 : isOff q1 1 = true := by rw [e1]; exact aw1_is.1
  have o2 : isOff q1 2 = false := by rw [e1]; exact aw1_is.2.1
  have p1 : pcnt q1 6 = 1 := by rw [e1]; exact aw1_is.2.2
  have p2 : pcnt q2 6 = 1 := by rw [e2]; exact aw2_is
  have u4 : q4.used = 1900 := by rw [e4]; exact aw4_is.1
  have k4 : q4.peak = 1900 := by rw [e4]; exact aw4_is.2.1
  have v4 : ∀ v, VicOf q4 v → v = 2 := by rw [e4]; exact fun v => aw4_vic
  have E5 := hide e5.symm
  have E6 := hide e6.symm
  have E7 := hide e7.symm
  clear e0 e1 e2 e3 e4 e5 e6 e7
  go_enter Try.func21, Try.ntmps21
  go_wp2_with fail
  refine (pnew_any 1600 _).mono ?_
  rintro e w0 ⟨rfl, hp0, hf0, _⟩
  rw [s0] at hp0
  have hS : ∀ x ∈ [w.heap.size + 1, w.heap.size], x ∈ ([] : List Nat) ∨ w.heap.size ≤ x := by simp
  have HF0 := hide hf0
  have h1 := hide (pset_any _ _ q0 1 1001 1 w0 hp0 (i0.ok (by omega)))
  clear hp0 hf0
  go_wp2_with fail
  refine (unhide h1).mono ?_
  rintro e w1 ⟨rfl, hp1, hf1⟩
  rw [s1] at hp1
  have HF1 := hide (HF0.out.andThen hf1 hS)
  have HP1 := hide hp1
  have HO1 := hide (poff_any _ _ q1 1 w1 hp1)
  have HO2 := hide (poff_any _ _ q1 2 w1 hp1)
  have HR := hide (ppressure_any _ _ q1 w1 hp1)
  rw [o1] at HO1
  rw [o2] at HO2
  rw [p1] at HR
  clear hp1 hf1
  go_wp2_with (first | (go_at_call 40; (first | with_reducible refine (unhide HO1).mono ?_ | with_reducible refine (unhide HO2).mono ?_); rintro e w' ⟨rfl, rfl⟩) | (go_at_call 34; refine (unhide HR).mono ?_; rintro e w' ⟨rfl, rfl⟩))
  have h2 := hide (pset_any _ _ q1 1 900 1 w1 HP1.out (i1.ok (by omega)))
  go_wp2_with fail
  refine (unhide h2).mono ?_
  rintro e w2 ⟨rfl, hp2, hf2⟩
  rw [s2] at hp2
  have HF2 := hide (HF1.out.andThen hf2 hS)
  have HR2 := hide (ppressure_any _ _ q2 w2 hp2)
  rw [p2] at HR2
  have h3 := hide (pset_any _ _ q2 2 500 0 w2 hp2 (i2.ok (by omega)))
  clear hp2 hf2
  go_wp2_with (go_at_call 34; refine (unhide HR2).mono ?_; rintro e w' ⟨rfl, rfl⟩)
  refine (unhide h3).mono ?_
  rintro e w3 ⟨rfl, hp3, hf3⟩
  rw [s3] at hp3
  have HF3 := hide (HF2.out.andThen hf3 hS)
  have h4 := hide (pset_any _ _ q3 3 500 0 w3 hp3 (i3.ok (by omega)))
  clear hp3 hf3
  go_wp2_with fail
  refine (unhide h4).mono ?_
  rintro e w4 ⟨rfl, hp4, hf4⟩
  rw [s4] at hp4
  have HF4 := hide (HF3.out.andThen hf4 hS)
  have hlt0 : w.heap.size + 1 < w4.heap.size := lt_of_blk hp4.blk
  have hlt1 : w.heap.size < w4.heap.size := by omega
  have hv := hide (pvictim_any _ _ q4 4 w4 hp4 i4)
  have HP4 := hide hp4
  clear hp4 hf4
  go_wp2_with fail
  refine (unhide hv).mono ?_
  rintro e w5 ⟨v, rfl, hv2, hf5⟩
  obtain rfl := v4 _ hv2
  have HP5 := hide (HP4.out.fr hf5 (by simp) (by simp))
  have HF5 := hide (HF4.out.andThen hf5 (by simp))
  have HU := hide (pused_any _ _ q4 w5 HP5.out)
  have HK := hide (ppeak_any _ _ q4 w5 HP5.out)
  rw [u4] at HU
  rw [k4] at HK
  have h6 := hide (ppacket_any _ _ q4 10 w5 HP5.out)
  clear hf5 hv2
  go_wp2_with (first | (go_at_call 30; refine (unhide HU).mono ?_; rintro e w' ⟨rfl, rfl⟩) | (go_at_call 32; refine (unhide HK).mono ?_; rintro e w' ⟨rfl, rfl⟩))
  refine (unhide h6).mono ?_
  rintro e w6 ⟨rfl, hp6, hf6⟩
  rw [E5.out] at hp6
  have hS2 : ∀ x ∈ [w.heap.size + 1], x ∈ ([] : List Nat) ∨ w.heap.size ≤ x := by simp
  have HF6 := hide (HF5.out.andThen hf6 hS2)
  have h7 := pspend_any _ _ q5 7 w6 hp6 (by omega)
  rw [l5, show min (max (7 : Int) 0) 10 = 7 by decide, show (10 : Int) - 7 = 3 by decide, E6.out] at h7
  have h7 := hide h7
  clear hp6 hf6
  go_wp2_with fail
  refine (unhide h7).mono ?_
  rintro e w7 ⟨rfl, hp7, hf7⟩
  have HF7 := hide (HF6.out.andThen hf7 hS2)
  have h8 := pspend_any _ _ q6 7 w7 hp7 (by omega)
  rw [l6, show min (max (7 : Int) 0) 3 = 3 by decide, show (3 : Int) - 3 = 0 by decide, E7.out] at h8
  have h8 := hide h8
  clear hp7 hf7
  go_wp2_with fail
  refine (unhide h8).mono ?_
  rintro e w8 ⟨rfl, hp8, hf8⟩
  have HF8 := hide (HF7.out.andThen hf8 hS2)
  have h9 := pleft_any _ _ q7 w8 hp8
  rw [l7] at h9
  have h9 := hide h9
  clear hp8 hf8
  go_wp2_with (go_at_call 38; refine (unhide h9).mono ?_; rintro e w' ⟨rfl, rfl⟩)
  go_ret
  exact ⟨rfl, HF8.out⟩
end Go.Proofs.Ytnghfmefjjkgdaa

