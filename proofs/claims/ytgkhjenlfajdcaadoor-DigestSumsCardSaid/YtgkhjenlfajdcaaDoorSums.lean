/-
  The law DigestSums: for all strings of at most 600 bytes, Sum and Hex return what the reference returns. Conditions: none; the program's table of constants is tied to the program's text (the card).
  (The row's frame began as the shell that the seat's proof-skeleton.mjs writes.)
-/
import Derived.Test.YtgkhjenlfajdcaaDoorLaid
import Derived.Test.YtgkhjenlfajdcaaDoorRsum
import Derived.Test.YtgkhjenlfajdcaaDoorCards
import Derived.Test.YtgkhjenlfajdcaaDoorTie
import Derived.SevenTiedAt
namespace Go.Proofs.YtgkhjenlfajdcaaDoor.digestSums
open Go Go.ChangeShapes Go.WideShapes Go.ChangeAt Go.RowKit
open Go.ChangeMaps (open_string shut_string)
set_option linter.unusedVariables false

set_option maxRecDepth 100000 in
set_option maxHeartbeats 2000000 in
theorem walk (s : ByteArray) (w : World) (hk : Kst w) :
    Calls Tryd.prog 3 #[.string s] w fun e w' => e = .returned (.bool true) ∧ Fr [] w w' := by
  have HK := hide hk
  by_cases hbig : 600 < s.size
  · have HLV := hide (lives_any w hk)
    clear hk
    go_enter Tryd.func3, Tryd.ntmps3
    go_wp2_with fail
    refine (unhide HLV).mono ?_
    rintro e w1 ⟨rfl, hf1⟩
    have HF1 := hide hf1
    clear hf1
    go_wp2
    go_ret
    exact ⟨rfl, HF1.out⟩
  have hs6 : s.size ≤ 600 := by omega
  clear hbig
  obtain ⟨sm, hsm⟩ : ∃ x : ByteArray, x = ⟨(sha KK s.data.toList).toArray⟩ := ⟨_, rfl⟩
  obtain ⟨hx, hhx⟩ : ∃ x : ByteArray, x = ⟨(hex (sha KK s.data.toList)).toArray⟩ := ⟨_, rfl⟩
  have HSUM : Hid (∀ W, Kst W → Calls Tryd.prog 9 #[.string s] W fun e w' => e = .returned (.string sm) ∧ Fr [] W w') := by
    show ∀ W, _ → _
    intro W hW
    rw [hsm]
    exact sum9_any s W hW (by omega)
  have HRS : Hid (∀ W, Calls Tryd.prog 10 #[.string s] W fun e w' => e = .returned (.string sm) ∧ Fr [] W w') := by
    show ∀ W, _
    intro W
    rw [hsm]
    exact rsum10_any s W (by omega)
  have HHEX : Hid (∀ W, Kst W → Calls Tryd.prog 11 #[.string s] W fun e w' => e = .returned (.string hx) ∧ Fr [] W w') := by
    show ∀ W, _ → _
    intro W hW
    rw [hhx]
    exact hex11_any s W hW (by omega)
  have HRH : Hid (∀ W, Calls Tryd.prog 12 #[.string s] W fun e w' => e = .returned (.string hx) ∧ Fr [] W w') := by
    show ∀ W, _
    intro W
    rw [hhx]
    exact rhex12_any s W (by omega)
  clear hk hsm hhx
  go_enter Tryd.func3, Tryd.ntmps3
  go_wp2_with fail
  refine (HSUM.out _ HK.out).mono ?_
  rintro e w1 ⟨rfl, hf⟩
  have HF1 := hide hf
  clear hf
  go_wp2_with fail
  refine (HRS.out _).mono ?_
  rintro e w2 ⟨rfl, hf⟩
  have HF2 := hide (HF1.out.trans hf)
  clear hf HF1
  go_wp2_with fail
  refine (HHEX.out _ (HK.out.fr HF2.out (by simp))).mono ?_
  rintro e w3 ⟨rfl, hf⟩
  have HF3 := hide (HF2.out.trans hf)
  clear hf HF2
  go_wp2_with fail
  refine (HRH.out _).mono ?_
  rintro e w4 ⟨rfl, hf⟩
  have HF4 := hide (HF3.out.trans hf)
  clear hf HF3
  go_wp2_with fail
  refine (lives_any _ (HK.out.fr HF4.out (by simp))).mono ?_
  rintro e w5 ⟨rfl, hf⟩
  have HF5 := hide (HF4.out.trans hf)
  clear hf HF4
  go_wp2
  go_ret
  exact ⟨rfl, HF5.out⟩
/-! ### The row -/
set_option maxRecDepth 100000 in
theorem lifted (os : Os) (started : os.Started) (H : Type) (enc : TypeId × Value → H) :
    ReturnsInHanded {} Tryd.checked os 3 .any (fun w args => (Rows.digestSumsSpec.pre enc Tryd.prog Tryd.f3 [] false w args ∧ laidMetH Tryd.prog laid1 w) ∧ sizedMet enc Tryd.prog Tryd.f3 (OpenSpec.ofChange Rows.digestSumsSpec) false w args)
      (Rows.digestSumsSpec.post enc Tryd.prog Tryd.f3 false true false false) := by
  refine returnsInHanded_of_change_and (C := Tryd.checked) (X := fun w _ => laidMetH Tryd.prog laid1 w) (fun _ _ _ hh h => h.of_heap hh) own started (by kernel_rfl) Tryd.func3
    (ChangeSpec.witness_shaped (enc := enc) (C := Tryd.checked) (os := os) (X := fun w _ => laidMetH Tryd.prog laid1 w) false (World.doorLaid Tryd.prog 2000 os) #[.string ByteArray.empty] 8 rfl (World.shaped_of_RefB (by kernel_rfl) (by kernel_rfl)) (by kernel_rfl) (by kernel_rfl) (by kernel_rfl) (door_met os _)) ?_
  intro W base args ds gs before hval0 hW _ _ hL _
  have hval : ∀ (j : Nat) t v, Tryd.f3.params[j]? = some t → args[j]? = some v → Value.okWide Tryd.prog W .any base t v := hval0
  have hW' := hW
  obtain ⟨p, q, hA0, hV, rfl, hfz, hnd⟩ := hW
  have hA : DataW.TrodAll enc Tryd.prog W 0 (fun _ => true) true Tryd.f3.params.toList args.toList ds p := hA0
  rw [Tryd.params3] at hA hval
  obtain ⟨v0, vs0, d0, ds0, p0, q0, hargs, rfl, rfl, h0, r0⟩ := trodAll_cons hA
  obtain ⟨rfl, rfl, rfl⟩ := trodAll_nil r0
  obtain rfl : args = #[v0] := by cases args; simp_all
  obtain ⟨rfl, rfl⟩ := trodVars_none hV
  obtain ⟨a0, rfl, rfl, rfl, w0⟩ := open_string Tryd.underlying9 (hval 0 9 v0 rfl rfl) h0
  clear hA0 hval0
  simp only [List.append_nil] at hW'
  refine (walk a0 W (of_laid hL) ).mono fun e W' ⟨he, hg⟩ => ?_
  subst he
  exact ⟨_, rfl, _, _, _, [], _, [], hW', (trodAll_cons_mk (shut_bool Tryd.underlying4 _) trodAll_mk0), (trodAll_cons_mk (shut_string Tryd.underlying9 w0) trodAll_mk0), rfl, hg.below.frame _, fun h => by cases h⟩

theorem over : Rows.digestSumsRow.holds Tryd.pinned (OpenSpec.ofChange Rows.digestSumsSpec) :=
  OpenClaim.holds_of_wide 3 Tryd.f3 rfl rfl rfl rfl rfl rfl rfl ⟨rfl, rfl, rfl, rfl, rfl⟩ rfl rfl rfl rfl rfl (by kernel_rfl) Tryd.func3 (by kernel_rfl)
    (of_decide_eq_true (by kernel_rfl)) (by unfold Func.isWrapper; first | (rw [if_pos (by decide +kernel)]; kernel_rfl) | (rw [if_neg (by decide +kernel)]; exact ⟨rfl, rfl⟩))
    (fun os started H enc _ => lifted os started H enc)

/-- The tied card. -/
theorem proved : Rows.DigestSumsCardSaid :=
  Claim7.holds_tied_plain_at .later [] [.data] true (true, "16db3c700e57575b252f3a94394bf1581548418de5986824bf55eeca07a9e40a") false
    over (fun _ h => by cases h) (by kernel_rfl) (fun _ h => by cases h) digestSums_row_tie rfl ⟨rfl, rfl⟩ (by kernel_rfl) rfl
    (fun f fn hf hfn => by
      obtain rfl : f = 3 := Option.some.inj ((show Tryd.prog.funcNamed "intrusion/intrusionlaw03.DigestSums" = some 3 by kernel_rfl).symm.trans hf) |>.symm
      obtain rfl : fn = Tryd.f3 := (Option.some.inj (Tryd.func3.symm.trans hfn)).symm
      exact ⟨by kernel_rfl, fun j t ht => by
        rw [Tryd.params3] at ht
        have hm : t ∈ [9] := by
          have h1 := Array.mem_of_getElem? ht
          simp at h1
          simp
          omega
        have hall : ([9].all fun u => !Tryd.prog.wantsStandIn u) = true := by kernel_rfl
        exact (show Tryd.prog.wantsStandIn t = false by simpa using List.all_eq_true.1 hall t hm)⟩)
    (by kernel_rfl)
#print axioms proved
end Go.Proofs.YtgkhjenlfajdcaaDoor.digestSums

