/-
  The law DigestForms: Hex is Sum in digits, and objects do not influence each other, for all strings of at most 600 bytes. Conditions: none; the program's table of constants is tied to the program's text (the card).
  (The row's frame began as the shell that the seat's proof-skeleton.mjs writes.)
-/
import Derived.Test.YtgkhjenlfajdcaaDoorLaid
import Derived.Test.YtgkhjenlfajdcaaDoorCards
import Derived.Test.YtgkhjenlfajdcaaDoorTie
import Derived.SevenTiedAt
namespace Go.Proofs.YtgkhjenlfajdcaaDoor.digestForms
open Go Go.ChangeShapes Go.WideShapes Go.ChangeAt Go.RowKit
open Go.ChangeMaps (open_string shut_string)
set_option linter.unusedVariables false

set_option maxRecDepth 100000 in
set_option maxHeartbeats 2000000 in
theorem walk (s t : ByteArray) (w : World) (hk : Kst w) :
    Calls Tryd.prog 7 #[.string s, .string t] w fun e w' => e = .returned (.bool true) ∧ Fr [] w w' := by
  have HK := hide hk
  have h0 := hk.lt
  have HLV := hide (lives_any w hk)
  clear hk
  by_cases hbig : 600 < s.size ∨ 600 < t.size
  · go_enter Tryd.func7, Tryd.ntmps7
    go_wp2_with (go_at_call 8; refine (unhide HLV).mono ?_; rintro e w1 ⟨rfl, hf1⟩)
    all_goals first
      | (exfalso; omega)
      | (go_ret; exact ⟨rfl, hf1⟩)
      | skip
  have hs6 : s.size ≤ 600 := by omega
  have ht6 : t.size ≤ 600 := by omega
  clear hbig
  obtain ⟨sm, hsm⟩ : ∃ x : ByteArray, x = ⟨(sha KK s.data.toList).toArray⟩ := ⟨_, rfl⟩
  obtain ⟨hx, hhx⟩ : ∃ x : ByteArray, x = ⟨(hex (sha KK s.data.toList)).toArray⟩ := ⟨_, rfl⟩
  obtain ⟨ht, hht⟩ : ∃ x : ByteArray, x = ⟨(hex (sha KK t.data.toList)).toArray⟩ := ⟨_, rfl⟩
  have hs32 : sm.size = 32 := by rw [hsm]; show (sha KK s.data.toList).toArray.size = 32; simpa using sha_len KK _
  have hx64 : hx.size = 64 := by rw [hhx]; show (hex (sha KK s.data.toList)).toArray.size = 64; simp [hex_len, sha_len]
  have HSUM : Hid (∀ W, Kst W → Calls Tryd.prog 9 #[.string s] W fun e w' => e = .returned (.string sm) ∧ Fr [] W w') := by
    show ∀ W, _ → _
    intro W hW
    rw [hsm]
    exact sum9_any s W hW (by omega)
  have HHEX : Hid (∀ W, Kst W → Calls Tryd.prog 11 #[.string s] W fun e w' => e = .returned (.string hx) ∧ Fr [] W w') := by
    show ∀ W, _ → _
    intro W hW
    rw [hhx]
    exact hex11_any s W hW (by omega)
  have HHET : Hid (∀ W, Kst W → Calls Tryd.prog 11 #[.string t] W fun e w' => e = .returned (.string ht) ∧ Fr [] W w') := by
    show ∀ W, _ → _
    intro W hW
    rw [hht]
    exact hex11_any t W hW (by omega)
  have HDIG : Hid (∀ W, Calls Tryd.prog 18 #[.string sm] W fun e w' => e = .returned (.string hx) ∧ Fr [] W w') := by
    show ∀ W, _
    intro W
    have h1 := digits18_any sm W (by omega) (by omega)
    have h2 : (⟨(hex sm.data.toList).toArray⟩ : ByteArray) = hx := by rw [hhx, hsm]
    rw [h2] at h1
    exact h1
  have HHA : Hid (∀ W hb, HashOf W hb s.data.toList → Kst W → Calls Tryd.prog 15 #[.pointer (some ⟨hb, 0, none⟩)] W fun e w' => e = .returned (.string hx) ∧ Fr [] W w') := by
    show ∀ W hb, _ → _ → _
    intro W hb h1 h2
    rw [hhx]
    exact hhex_any hb _ W h1 h2 (by simp; omega)
  have HHB : Hid (∀ W hb, HashOf W hb t.data.toList → Kst W → Calls Tryd.prog 15 #[.pointer (some ⟨hb, 0, none⟩)] W fun e w' => e = .returned (.string ht) ∧ Fr [] W w') := by
    show ∀ W hb, _ → _ → _
    intro W hb h1 h2
    rw [hht]
    exact hhex_any hb _ W h1 h2 (by simp; omega)
  clear hsm hhx hht
  go_enter Tryd.func7, Tryd.ntmps7
  go_wp2_with (go_at_call 8; refine (unhide HLV).mono ?_; rintro e w1 ⟨rfl, hf1⟩)
  have HF1 := hide hf1
  clear hf1 HLV
  refine (HSUM.out _ (HK.out.fr HF1.out (by simp))).mono ?_
  rintro e w2 ⟨rfl, hf2⟩
  have HF2 := hide (HF1.out.andThen hf2 (by simp))
  clear hf2
  go_wp2_with fail
  refine (HHEX.out _ (HK.out.fr HF2.out (by simp))).mono ?_
  rintro e w3 ⟨rfl, hf3⟩
  have HF3 := hide (HF2.out.andThen hf3 (by simp))
  clear hf3
  go_wp2_with fail
  refine (HDIG.out _).mono ?_
  rintro e w4 ⟨rfl, hf4⟩
  have HF4 := hide (HF3.out.andThen hf4 (by simp))
  clear hf4
  go_wp2_with fail
  refine (hnew_any _).mono ?_
  rintro e w5 ⟨ha, rfl, hga, hha, hf5⟩
  have HF5 := hide (HF4.out.andThen hf5 (by simp))
  have HHA5 := hide hha
  clear hf5 hha
  go_wp2_with fail
  refine (hnew_any _).mono ?_
  rintro e w6 ⟨hb, rfl, hgb, hhb, hf6⟩
  have HF6 := hide (HF5.out.andThen hf6 (by simp))
  have HHA6 := hide (HHA5.out.fr hf6 (by simp))
  have hab : ha < hb := by have := HHA5.out.lt; omega
  have hwa : w.heap.size ≤ ha := by have := HF4.out.size; omega
  have HHB6 := hide hhb
  clear hf6 hhb hga hgb
  go_wp2_with fail
  refine (hwrite_any ha [] s w6 HHA6.out (HK.out.fr HF6.out (by simp)) (by omega) (by simp; omega)).mono ?_
  rintro e w7 ⟨rfl, hh7, hf7⟩
  have HF7 := hide (HF6.out.andThen hf7 (by simp; omega))
  have HHA7 := hide hh7
  have HHB7 := hide (HHB6.out.fr hf7 (by simp; omega))
  clear hf7 hh7
  go_wp2_with fail
  refine (hwrite_any hb [] t w7 HHB7.out (HK.out.fr HF7.out (by simp)) (by omega) (by simp; omega)).mono ?_
  rintro e w8 ⟨rfl, hh8, hf8⟩
  have HF8 := hide (HF7.out.andThen hf8 (by simp; omega))
  have HHA8 := hide (HHA7.out.fr hf8 (by simp; omega))
  have HHB8 := hide hh8
  clear hf8 hh8
  go_wp2_with (go_at_call 14; refine (write14_nil s _).mono ?_; rintro e w9 ⟨rfl, rfl⟩)
  refine (HHA.out _ _ (by simpa using HHA8.out) (HK.out.fr HF8.out (by simp))).mono ?_
  rintro e wa ⟨rfl, hfa⟩
  have HFA := hide (HF8.out.andThen hfa (by simp))
  have HHBA := hide (HHB8.out.fr hfa (by simp))
  clear hfa
  go_wp2_with fail
  refine (HHB.out _ _ (by simpa using HHBA.out) (HK.out.fr HFA.out (by simp))).mono ?_
  rintro e wb ⟨rfl, hfb⟩
  have HFB := hide (HFA.out.andThen hfb (by simp))
  clear hfb
  go_wp2_with fail
  refine (HHET.out _ (HK.out.fr HFB.out (by simp))).mono ?_
  rintro e wc ⟨rfl, hfc⟩
  have HFC := hide (HFB.out.andThen hfc (by simp))
  clear hfc
  go_wp2_with (first | (go_at_call 16; refine (hlen_nil _).mono ?_; rintro e wd ⟨rfl, rfl⟩) | (go_at_call 15; refine (hhex_nil _).mono ?_; rintro e wd ⟨rfl, rfl⟩))
  go_ret
  exact ⟨rfl, HFC.out⟩
/-! ### The row -/
set_option maxRecDepth 100000 in
theorem lifted (os : Os) (started : os.Started) (H : Type) (enc : TypeId × Value → H) :
    ReturnsInHanded {} Tryd.checked os 7 .any (fun w args => (Rows.digestFormsSpec.pre enc Tryd.prog Tryd.f7 [] false w args ∧ laidMetH Tryd.prog laid1 w) ∧ sizedMet enc Tryd.prog Tryd.f7 (OpenSpec.ofChange Rows.digestFormsSpec) false w args)
      (Rows.digestFormsSpec.post enc Tryd.prog Tryd.f7 false true false false) := by
  refine returnsInHanded_of_change_and (C := Tryd.checked) (X := fun w _ => laidMetH Tryd.prog laid1 w) (fun _ _ _ hh h => h.of_heap hh) own started (by kernel_rfl) Tryd.func7
    (ChangeSpec.witness_shaped (enc := enc) (C := Tryd.checked) (os := os) (X := fun w _ => laidMetH Tryd.prog laid1 w) false (World.doorLaid Tryd.prog 2000 os) #[.string ByteArray.empty, .string ByteArray.empty] 8 rfl (World.shaped_of_RefB (by kernel_rfl) (by kernel_rfl)) (by kernel_rfl) (by kernel_rfl) (by kernel_rfl) (door_met os _)) ?_
  intro W base args ds gs before hval0 hW _ _ hL _
  have hval : ∀ (j : Nat) t v, Tryd.f7.params[j]? = some t → args[j]? = some v → Value.okWide Tryd.prog W .any base t v := hval0
  have hW' := hW
  obtain ⟨p, q, hA0, hV, rfl, hfz, hnd⟩ := hW
  have hA : DataW.TrodAll enc Tryd.prog W 0 (fun _ => true) true Tryd.f7.params.toList args.toList ds p := hA0
  rw [Tryd.params7] at hA hval
  obtain ⟨v0, vs0, d0, ds0, p0, q0, hargs, rfl, rfl, h0, r0⟩ := trodAll_cons hA
  obtain ⟨v1, vs1, d1, ds1, p1, q1, rfl, rfl, rfl, h1, r1⟩ := trodAll_cons r0
  obtain ⟨rfl, rfl, rfl⟩ := trodAll_nil r1
  obtain rfl : args = #[v0, v1] := by cases args; simp_all
  obtain ⟨rfl, rfl⟩ := trodVars_none hV
  obtain ⟨a0, rfl, rfl, rfl, w0⟩ := open_string Tryd.underlying9 (hval 0 9 v0 rfl rfl) h0
  obtain ⟨a1, rfl, rfl, rfl, w1⟩ := open_string Tryd.underlying9 (hval 1 9 v1 rfl rfl) h1
  clear hA0 hval0
  simp only [List.append_nil] at hW'
  refine (walk a0 a1 W (of_laid hL) ).mono fun e W' ⟨he, hg⟩ => ?_
  subst he
  exact ⟨_, rfl, _, _, _, [], _, [], hW', (trodAll_cons_mk (shut_bool Tryd.underlying4 _) trodAll_mk0), (trodAll_cons_mk (shut_string Tryd.underlying9 w0) (trodAll_cons_mk (shut_string Tryd.underlying9 w1) trodAll_mk0)), rfl, hg.below.frame _, fun h => by cases h⟩

theorem over : Rows.digestFormsRow.holds Tryd.pinned (OpenSpec.ofChange Rows.digestFormsSpec) :=
  OpenClaim.holds_of_wide 7 Tryd.f7 rfl rfl rfl rfl rfl rfl rfl ⟨rfl, rfl, rfl, rfl, rfl⟩ rfl rfl rfl rfl rfl (by kernel_rfl) Tryd.func7 (by kernel_rfl)
    (of_decide_eq_true (by kernel_rfl)) (by unfold Func.isWrapper; first | (rw [if_pos (by decide +kernel)]; kernel_rfl) | (rw [if_neg (by decide +kernel)]; exact ⟨rfl, rfl⟩))
    (fun os started H enc _ => lifted os started H enc)

/-- The tied card. -/
theorem proved : Rows.DigestFormsCardSaid :=
  Claim7.holds_tied_plain_at .later [] [.data] true (true, "16db3c700e57575b252f3a94394bf1581548418de5986824bf55eeca07a9e40a") false
    over (fun _ h => by cases h) (by kernel_rfl) (fun _ h => by cases h) digestForms_row_tie rfl ⟨rfl, rfl⟩ (by kernel_rfl) rfl
    (fun f fn hf hfn => by
      obtain rfl : f = 7 := Option.some.inj ((show Tryd.prog.funcNamed "intrusion/intrusionlaw03.DigestForms" = some 7 by kernel_rfl).symm.trans hf) |>.symm
      obtain rfl : fn = Tryd.f7 := (Option.some.inj (Tryd.func7.symm.trans hfn)).symm
      exact ⟨by kernel_rfl, fun j t ht => by
        rw [Tryd.params7] at ht
        have hm : t ∈ [9] := by
          have h1 := Array.mem_of_getElem? ht
          simp at h1
          simp
          omega
        have hall : ([9].all fun u => !Tryd.prog.wantsStandIn u) = true := by kernel_rfl
        exact (show Tryd.prog.wantsStandIn t = false by simpa using List.all_eq_true.1 hall t hm)⟩)
    (by kernel_rfl)
#print axioms proved
end Go.Proofs.YtgkhjenlfajdcaaDoor.digestForms


