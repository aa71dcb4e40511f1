/-
  The law DigestObjects: after each of at most 8 writes with at most 600 bytes together, Len and Hex return the length and the reference's hash of what was written. Conditions: none; the program's table of constants is tied to the program's text (the card).
  (The row's frame began as the shell that the seat's proof-skeleton.mjs writes.)
-/
import Derived.Test.YtgkhjenlfajdcaaDoorStrs
import Derived.Test.YtgkhjenlfajdcaaDoorRsum
import Derived.Test.YtgkhjenlfajdcaaDoorCards
import Derived.Test.YtgkhjenlfajdcaaDoorTie
import Derived.SevenTiedAt
import Derived.Below
namespace Go.Proofs.YtgkhjenlfajdcaaDoor.digestObjects
open Go Go.ChangeShapes Go.WideShapes Go.ChangeAt Go.RowKit
open Go.ChangeMaps (open_string shut_string)
set_option linter.unusedVariables false

theorem laidOut : laidOutB Tryd.prog = true := by kernel_rfl
theorem read32 : Tryd.prog.readableRec 32 = true := by kernel_rfl
theorem row32 : 32 < Tryd.prog.types.size := of_decide_eq_true (by kernel_rfl)

set_option maxRecDepth 100000 in
set_option maxHeartbeats 2000000 in
theorem walk (a : Option Addr) (L cap : Nat) (ev : Nat → ByteArray) (w : World) (hk : Kst w) (hev : StrsAt w a L ev ∧ L ≤ 9223372036854775807) :
    Calls Tryd.prog 5 #[.slice a L cap] w fun e w' => e = .returned (.bool true) ∧ Fr [] w w' := by
  have HK := hide hk
  have h0 := hk.lt
  have HEV := hide hev.1
  have hL := hev.2
  clear hk hev
  go_enter Tryd.func5, Tryd.ntmps5
  go_wp2_with fail
  refine (hnew_any _).mono ?_
  rintro e w1 ⟨ha, rfl, hga, hha, hf1⟩
  have HF1 := hide hf1
  have HHA1 := hide hha
  clear hf1 hha
  go_wp2_with fail
  refine (long17_any a L cap ev _ (HEV.out.fr HF1.out) hL).mono ?_
  rintro e w' ⟨r, rfl, hr, rfl⟩
  have HLV := hide (lives_any w1 (HK.out.fr HF1.out (by simp)))
  by_cases hbig : r = true ∨ 8 < L
  · clear hr
    cases r with
    | true =>
      go_wp2_with fail
      refine (unhide HLV).mono ?_
      rintro e w2 ⟨rfl, hf2⟩
      have HF2 := hide (HF1.out.trans hf2)
      clear hf2
      go_wp2
      go_ret
      exact ⟨rfl, HF2.out⟩
    | false =>
      have hL8 : (8 : Int) < (L : Int) := by simp at hbig; omega
      clear hbig
      go_wp2_with fail
      refine (unhide HLV).mono ?_
      rintro e w2 ⟨rfl, hf2⟩
      have HF2 := hide (HF1.out.trans hf2)
      clear hf2
      go_wp2
      go_ret
      exact ⟨rfl, HF2.out⟩
  obtain rfl : r = false := by
    cases r
    · rfl
    · exact absurd (.inl rfl) hbig
  have hr2 := hr rfl
  have HT := hide hr2.2
  have hL8 : L ≤ 8 := by simp at hbig; omega
  clear hbig hr hr2 HLV
  go_wp2_with fail
  go_loopg [4, 5] (L + 1) (fun gk sv i wr => ∃ (k : Nat) (sb : ByteArray), gk = L + 1 - k ∧ k ≤ L ∧ i = .int .i64 k ∧ sv = .string sb ∧ sb.data.toList = cat ev k ∧ HashOf wr ha (cat ev k) ∧ Fr [] w wr)
  case atStart => exact ⟨0, ⟨#[]⟩, rfl, by omega, rfl, rfl, rfl, HHA1.out, HF1.out⟩
  case round =>
    obtain ⟨k, sb, hgk, hk, rfl, rfl, hsb, hha, hf⟩ := hrel
    have HGK := hide hgk
    have HSB := hide hsb
    have HHA := hide hha
    have HF := hide hf
    have hsz : sb.size = tot ev k := by have := congrArg List.length hsb; rw [cat_len] at this; simpa using this
    have htm := tot_mono ev hk
    have ht6 := HT.out
    have hwa : w.heap.size ≤ ha := hga
    clear hgk hsb hha
    by_cases hlt : k < L
    · obtain ⟨x, rfl, hc0⟩ := HEV.out k hlt
      obtain ⟨s, hs⟩ : ∃ s, s = ev k := ⟨_, rfl⟩
      rw [← hs] at hc0
      have hx0 := World.block_lt_of_cell? w _ hc0
      have HCW : Hid (∀ W, Fr [] w W → W.cell? (x.add k) = some (.string s) ∧ (x.add k).block < W.heap.size) := by
        show ∀ W, _ → _
        intro W hW
        have h1 : W.cell? (x.add k) = some (.string s) := by rw [World.cell?_of_block (w := w) (hW.block _ hx0 (by simp))]; exact hc0
        exact ⟨h1, World.block_lt_of_cell? W _ h1⟩
      obtain ⟨hc, hx⟩ := HCW.out wr hf
      clear hc0 hx0
      have htk : tot ev (k + 1) = tot ev k + s.size := by rw [hs]; rfl
      have hts := tot_mono ev (show k + 1 ≤ L by omega)
      have HCAT := hide (show cat ev (k + 1) = cat ev k ++ s.data.toList by rw [hs]; rfl)
      have hcl := cat_len ev k
      have HW := hide (hwrite_any ha (cat ev k) s wr HHA.out (HK.out.fr hf (by simp)) (by omega) (by rw [hcl]; omega))
      have hss : (sb ++ s).size ≤ 600 := by simp; omega
      have hss2 : ((sb.size : Int) + (s.size : Int)) ≤ 600 := by omega
      obtain ⟨hx9, hhx9⟩ : ∃ y : ByteArray, y = ⟨(hex (sha KK (cat ev k ++ s.data.toList))).toArray⟩ := ⟨_, rfl⟩
      have hnl : (cat ev k ++ s.data.toList).length = sb.size + s.size := by rw [List.length_append, hcl, hsz]; simp
      have HLEN : Hid (∀ W, HashOf W ha (cat ev k ++ s.data.toList) → Calls Tryd.prog 16 #[.pointer (some ⟨ha, 0, none⟩)] W fun e w' => e = .returned (.int .i64 ((sb.size : Int) + (s.size : Int))) ∧ W = w') := by
        show ∀ W, _ → _
        intro W h1
        have h2 := hlen_any ha _ W h1
        rw [hnl, Int.natCast_add] at h2
        exact h2
      have HHH : Hid (∀ W, HashOf W ha (cat ev k ++ s.data.toList) → Kst W → Calls Tryd.prog 15 #[.pointer (some ⟨ha, 0, none⟩)] W fun e w' => e = .returned (.string hx9) ∧ Fr [] W w') := by
        show ∀ W, _ → _ → _
        intro W h1 h2
        rw [hhx9]
        exact hhex_any ha _ W h1 h2 (by omega)
      have HRH : Hid (∀ W, Calls Tryd.prog 12 #[.string (sb ++ s)] W fun e w' => e = .returned (.string hx9) ∧ Fr [] W w') := by
        show ∀ W, _
        intro W
        rw [hhx9, ← HSB.out]
        have h2 := rhex12_any (sb ++ s) W (by omega)
        rw [show (sb ++ s).data.toList = sb.data.toList ++ s.data.toList by simp] at h2
        exact h2
      clear hs hf hhx9 hnl hcl htk hts hsz
      go_wp2_with fail
      refine (unhide HW).mono ?_
      rintro e w7 ⟨rfl, hh7, hf7⟩
      have HF7 := hide (HF.out.andThen hf7 (by simp; omega))
      have HHA7 := hide hh7
      obtain ⟨hc7, hx7⟩ := HCW.out w7 HF7.out
      clear hf7 hh7 hc hx
      go_wp2_with fail
      refine (HLEN.out _ HHA7.out).mono ?_
      rintro e w8 ⟨rfl, rfl⟩
      go_wp2_with fail
      refine (HHH.out _ HHA7.out (HK.out.fr HF7.out (by simp))).mono ?_
      rintro e w9 ⟨rfl, hf9⟩
      have HF9 := hide (HF7.out.trans hf9)
      have HHA9 := hide (HHA7.out.fr hf9 (by simp))
      clear hf9 hc7 hx7
      go_wp2_with fail
      refine (HRH.out _).mono ?_
      rintro e wa ⟨rfl, hfa⟩
      have HFA := hide (HF9.out.trans hfa)
      have HHAA := hide (HHA9.out.fr hfa (by simp))
      clear hfa
      go_wp2_with fail
      go_roundg (L + 1 - (k + 1))
      case measure => have := HGK.out; omega
      case rel => exact ⟨k + 1, sb ++ s, rfl, by omega, by go_num, rfl, by rw [HCAT.out, ← HSB.out]; simp, by rw [HCAT.out]; exact HHAA.out, HFA.out⟩
    · obtain rfl : k = L := by omega
      have HLV := hide (lives_any wr (HK.out.fr hf (by simp)))
      clear hf hsz
      go_wp2_with fail
      refine (unhide HLV).mono ?_
      rintro e w2 ⟨rfl, hf2⟩
      have HF2 := hide (HF.out.trans hf2)
      clear hf2
      go_wp2
      go_ret
      exact ⟨rfl, HF2.out⟩
/-! ### The row -/
set_option maxRecDepth 100000 in
theorem lifted (os : Os) (started : os.Started) (H : Type) (enc : TypeId × Value → H) :
    ReturnsInHanded {} Tryd.checked os 5 .any (fun w args => (Rows.digestObjectsSpec.pre enc Tryd.prog Tryd.f5 [] false w args ∧ laidMetH Tryd.prog laid1 w) ∧ sizedMet enc Tryd.prog Tryd.f5 (OpenSpec.ofChange Rows.digestObjectsSpec) false w args)
      (Rows.digestObjectsSpec.post enc Tryd.prog Tryd.f5 false true false false) := by
  refine returnsInHanded_of_change_and (C := Tryd.checked) (X := fun w _ => laidMetH Tryd.prog laid1 w) (fun _ _ _ hh h => h.of_heap hh) own started (by kernel_rfl) Tryd.func5
    (ChangeSpec.witness_shaped (enc := enc) (C := Tryd.checked) (os := os) (X := fun w _ => laidMetH Tryd.prog laid1 w) false (World.doorLaid Tryd.prog 2000 os) #[.slice none 0 0] 8 rfl (World.shaped_of_RefB (by kernel_rfl) (by kernel_rfl)) (by kernel_rfl) (by kernel_rfl) (by kernel_rfl) (door_met os _)) ?_
  intro W base args ds gs before hval0 hW _ _ hL _
  have hval : ∀ (j : Nat) t v, Tryd.f5.params[j]? = some t → args[j]? = some v → Value.okWide Tryd.prog W .any base t v := hval0
  have hW' := hW
  obtain ⟨p, q, hA0, hV, rfl, hfz, hnd⟩ := hW
  have hA : DataW.TrodAll enc Tryd.prog W 0 (fun _ => true) true Tryd.f5.params.toList args.toList ds p := hA0
  rw [Tryd.params5] at hA hval
  obtain ⟨v0, vs0, d0, ds0, p0, q0, hargs, rfl, rfl, h0, r0⟩ := trodAll_cons hA
  obtain ⟨rfl, rfl, rfl⟩ := trodAll_nil r0
  obtain rfl : args = #[v0] := by cases args; simp_all
  obtain ⟨rfl, rfl⟩ := trodVars_none hV
  have h0k := h0
  obtain ⟨a0, L0, cap0, ev0, rfl, hev0⟩ := open_strs32 (hval 0 32 v0 rfl rfl) h0
  clear hA0 hval0
  simp only [List.append_nil] at hW'
  refine (walk a0 L0 cap0 ev0 W (of_laid hL) hev0).mono fun e W' ⟨he, hg⟩ => ?_
  subst he
  exact ⟨_, rfl, _, _, _, [], _, [], hW', (trodAll_cons_mk (shut_bool Tryd.underlying4 _) trodAll_mk0), (trodAll_cons_mk (Below.trod laidOut read32 row32 h0k hg.below (fun x hx => by simpa using hW'.lt x (by simp [hx]))) trodAll_mk0), rfl, hg.below.frame _, fun h => by cases h⟩

theorem over : Rows.digestObjectsRow.holds Tryd.pinned (OpenSpec.ofChange Rows.digestObjectsSpec) :=
  OpenClaim.holds_of_wide 5 Tryd.f5 rfl rfl rfl rfl rfl rfl rfl ⟨rfl, rfl, rfl, rfl, rfl⟩ rfl rfl rfl rfl rfl (by kernel_rfl) Tryd.func5 (by kernel_rfl)
    (of_decide_eq_true (by kernel_rfl)) (by unfold Func.isWrapper; first | (rw [if_pos (by decide +kernel)]; kernel_rfl) | (rw [if_neg (by decide +kernel)]; exact ⟨rfl, rfl⟩))
    (fun os started H enc _ => lifted os started H enc)

/-- The tied card. -/
theorem proved : Rows.DigestObjectsCardSaid :=
  Claim7.holds_tied_plain_at .later [] [.data] true (true, "16db3c700e57575b252f3a94394bf1581548418de5986824bf55eeca07a9e40a") false
    over (fun _ h => by cases h) (by kernel_rfl) (fun _ h => by cases h) digestObjects_row_tie rfl ⟨rfl, rfl⟩ (by kernel_rfl) rfl
    (fun f fn hf hfn => by
      obtain rfl : f = 5 := Option.some.inj ((show Tryd.prog.funcNamed "intrusion/intrusionlaw03.DigestObjects" = some 5 by kernel_rfl).symm.trans hf) |>.symm
      obtain rfl : fn = Tryd.f5 := (Option.some.inj (Tryd.func5.symm.trans hfn)).symm
      exact ⟨by kernel_rfl, fun j t ht => by
        rw [Tryd.params5] at ht
        have hm : t ∈ [32] := by
          have h1 := Array.mem_of_getElem? ht
          simp at h1
          simp
          omega
        have hall : ([32].all fun u => !Tryd.prog.wantsStandIn u) = true := by kernel_rfl
        exact (show Tryd.prog.wantsStandIn t = false by simpa using List.all_eq_true.1 hall t hm)⟩)
    (by kernel_rfl)
#print axioms proved
end Go.Proofs.YtgkhjenlfajdcaaDoor.digestObjects

