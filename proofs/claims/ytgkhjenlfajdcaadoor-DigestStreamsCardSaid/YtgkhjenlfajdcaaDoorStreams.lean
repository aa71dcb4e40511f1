/-
  The law DigestStreams: however at most 600 bytes are divided into at most 40 pieces, writing them in order gives the hash of the whole. Conditions: none; the program's table of constants is tied to the program's text (the card).
-/
import Derived.Test.YtgkhjenlfajdcaaDoorStrs
import Derived.Test.YtgkhjenlfajdcaaDoorCards
import Derived.Test.YtgkhjenlfajdcaaDoorTie
import Derived.SevenTiedAt
import Derived.Below
namespace Go.Proofs.YtgkhjenlfajdcaaDoor.digestStreams
open Go Go.ChangeShapes Go.WideShapes Go.ChangeAt Go.RowKit
open Go.ChangeMaps (open_string shut_string)
set_option linter.unusedVariables false

theorem laidOut : laidOutB Tryd.prog = true := by kernel_rfl
theorem read32 : Tryd.prog.readableRec 32 = true := by kernel_rfl
theorem row32 : 32 < Tryd.prog.types.size := of_decide_eq_true (by kernel_rfl)

set_option maxRecDepth 100000 in
set_option maxHeartbeats 2000000 in
theorem walk (a : Option Addr) (L cap : Nat) (ev : Nat → ByteArray) (w : World) (hk : Kst w) (hev : StrsAt w a L ev ∧ L ≤ 9223372036854775807) :
    Calls Tryd.prog 6 #[.slice a L cap] w fun e w' => e = .returned (.bool true) ∧ Fr [] w w' := by
  have HK := hide hk
  have h0 := hk.lt
  have HLV := hide (lives_any w hk)
  have HEV := hide hev.1
  have hL := hev.2
  clear hk hev
  go_enter Tryd.func6, Tryd.ntmps6
  go_wp2_with (go_at_call 8; refine (unhide HLV).mono ?_; rintro e w1 ⟨rfl, hf1⟩)
  have HF1 := hide hf1
  clear hf1 HLV
  refine (long17_any a L cap ev _ (HEV.out.fr HF1.out) hL).mono ?_
  rintro e w' ⟨r, rfl, hr, rfl⟩
  cases r
  · have hr2 := hr rfl
    have hL40 := hr2.1
    have HT := hide hr2.2
    clear hr hr2
    go_wp2_with fail
    refine (hnew_any _).mono ?_
    rintro e w5 ⟨ha, rfl, hga, hha, hf5⟩
    have HF5 := hide (HF1.out.andThen hf5 (by simp))
    have HHA5 := hide hha
    clear hf5 hha
    go_wp2_with fail
    refine (hnew_any _).mono ?_
    rintro e w6 ⟨hb, rfl, hgb, hhb, hf6⟩
    have HF6 := hide (HF5.out.andThen hf6 (by simp))
    have HHA6 := hide (HHA5.out.fr hf6 (by simp))
    have hab : ha < hb := by have := HHA5.out.lt; omega
    have hwa : w.heap.size ≤ ha := by have := HF1.out.size; omega
    have HHB6 := hide hhb
    clear hf6 hhb hga hgb
    go_wp2_with fail
    go_loopg [5, 6] (L + 1) (fun gk sv i wr => ∃ (k : Nat) (sb : ByteArray), gk = L + 1 - k ∧ k ≤ L ∧ i = .int .i64 k ∧ sv = .string sb ∧ sb.data.toList = cat ev k ∧ HashOf wr ha (cat ev k) ∧ HashOf wr hb (cat ev k) ∧ Fr [] w wr)
    case atStart => exact ⟨0, ⟨#[]⟩, rfl, by omega, rfl, rfl, rfl, HHA6.out, HHB6.out, HF6.out⟩
    case round =>
      obtain ⟨k, sb, hgk, hk, rfl, rfl, hsb, hha, hhb, hf⟩ := hrel
      have HGK := hide hgk
      have HSB := hide hsb
      have HHA := hide hha
      have HHB := hide hhb
      have HF := hide hf
      have hsz : sb.size = tot ev k := by have := congrArg List.length hsb; rw [cat_len] at this; simpa using this
      have htm := tot_mono ev hk
      have ht6 := HT.out
      clear hgk hsb hha hhb
      by_cases hlt : k < L
      · obtain ⟨x, rfl, hc0⟩ := HEV.out k hlt
        obtain ⟨s, hs⟩ : ∃ s, s = ev k := ⟨_, rfl⟩
        rw [← hs] at hc0
        have hx0 := World.block_lt_of_cell? w _ hc0
        have HCW : Hid (∀ W, Fr [] w W → W.cell? (x.add k) = some (.string s) ∧ (x.add k).block < W.heap.size) := by
          show ∀ W, _ → _
          intro W hW
          have h1 : W.cell? (x.add k) = some (.string s) := by rw [World.cell?_of_block (w := w) (hW.block _ hx0 (by simp))]; exact hc0
          exact ⟨h1, World.block_lt_of_cell? W _ h1⟩
        obtain ⟨hc, hx⟩ := HCW.out wr hf
        clear hc0 hx0
        have htk : tot ev (k + 1) = tot ev k + s.size := by rw [hs]; rfl
        have hts := tot_mono ev (show k + 1 ≤ L by omega)
        have HCAT := hide (show cat ev (k + 1) = cat ev k ++ s.data.toList by rw [hs]; rfl)
        have hcl := cat_len ev k
        have h1 := hide (hwrite_any ha (cat ev k) s wr HHA.out (HK.out.fr hf (by simp)) (by omega) (by rw [hcl]; omega))
        clear hs hf
        go_wp2_with fail
        refine (unhide h1).mono ?_
        rintro e w7 ⟨rfl, hh7, hf7⟩
        have HF7 := hide (HF.out.andThen hf7 (by simp; omega))
        have HHA7 := hide hh7
        have HHB7 := hide (HHB.out.fr hf7 (by simp; omega))
        obtain ⟨hc7, hx7⟩ := HCW.out w7 HF7.out
        have h2 := hide (hwrite_any hb (cat ev k) s w7 HHB7.out (HK.out.fr HF7.out (by simp)) (by omega) (by rw [hcl]; omega))
        clear hf7 hh7
        go_wp2_with fail
        refine (unhide h2).mono ?_
        rintro e w8 ⟨rfl, hh8, hf8⟩
        have HF8 := hide (HF7.out.andThen hf8 (by simp; omega))
        have HHA8 := hide (HHA7.out.fr hf8 (by simp; omega))
        have HHB8 := hide hh8
        have h3 := hide (hhex_any hb _ w8 hh8 (HK.out.fr HF8.out (by simp)) (by rw [List.length_append, hcl]; simp; omega))
        clear hf8 hh8
        go_wp2_with fail
        refine (unhide h3).mono ?_
        rintro e w9 ⟨rfl, hf9⟩
        have HF9 := hide (HF8.out.andThen hf9 (by simp))
        have HHA9 := hide (HHA8.out.fr hf9 (by simp))
        have HHB9 := hide (HHB8.out.fr hf9 (by simp))
        obtain ⟨hx9, hhx9⟩ : ∃ y : ByteArray, y = ⟨(hex (sha KK (cat ev k ++ s.data.toList))).toArray⟩ := ⟨_, rfl⟩
        have h64 : hx9.size = 64 := by rw [hhx9]; show (hex (sha KK (cat ev k ++ s.data.toList))).toArray.size = 64; simp [hex_len, sha_len]
        rw [← hhx9]
        obtain ⟨hc9, hx9l⟩ := HCW.out w9 HF9.out
        clear hf9 hhx9
        go_wp2_with fail
        go_roundg (L + 1 - (k + 1))
        case measure => have := HGK.out; omega
        case rel => exact ⟨k + 1, sb ++ s, rfl, by omega, by go_num, rfl, by rw [HCAT.out, ← HSB.out]; simp, by rw [HCAT.out]; exact HHA9.out, by rw [HCAT.out]; exact HHB9.out, HF9.out⟩
      · have hk2 : k = L := by omega
        subst hk2
        obtain ⟨hl, hhl⟩ : ∃ y : ByteArray, y = ⟨(hex (sha KK (cat ev k))).toArray⟩ := ⟨_, rfl⟩
        have hlen6 : (cat ev k).length ≤ 100000 := by rw [cat_len]; omega
        have HXA : Hid (∀ W, HashOf W ha (cat ev k) → Kst W → Calls Tryd.prog 15 #[.pointer (some ⟨ha, 0, none⟩)] W fun e w' => e = .returned (.string hl) ∧ Fr [] W w') := by
          show ∀ W, _ → _ → _
          intro W h1 h2
          rw [hhl]
          exact hhex_any ha _ W h1 h2 hlen6
        have HXB : Hid (∀ W, HashOf W hb (cat ev k) → Kst W → Calls Tryd.prog 15 #[.pointer (some ⟨hb, 0, none⟩)] W fun e w' => e = .returned (.string hl) ∧ Fr [] W w') := by
          show ∀ W, _ → _ → _
          intro W h1 h2
          rw [hhl]
          exact hhex_any hb _ W h1 h2 hlen6
        have HX11 : Hid (∀ W, Kst W → Calls Tryd.prog 11 #[.string sb] W fun e w' => e = .returned (.string hl) ∧ Fr [] W w') := by
          show ∀ W, _ → _
          intro W h2
          rw [hhl, ← HSB.out]
          exact hex11_any sb W h2 (by omega)
        have hcz : (cat ev k).length = sb.size := by rw [cat_len]; exact hsz.symm
        have HNA : Hid (∀ W, HashOf W ha (cat ev k) → Calls Tryd.prog 16 #[.pointer (some ⟨ha, 0, none⟩)] W fun e w' => e = .returned (.int .i64 sb.size) ∧ W = w') := by
          show ∀ W, _ → _
          intro W h1
          rw [← hcz]
          exact hlen_any ha _ W h1
        have HNB : Hid (∀ W, HashOf W hb (cat ev k) → Calls Tryd.prog 16 #[.pointer (some ⟨hb, 0, none⟩)] W fun e w' => e = .returned (.int .i64 sb.size) ∧ W = w') := by
          show ∀ W, _ → _
          intro W h1
          rw [← hcz]
          exact hlen_any hb _ W h1
        have h1 := hide (HXA.out wr HHA.out (HK.out.fr hf (by simp)))
        clear hhl hf hcz
        go_wp2_with fail
        refine (unhide h1).mono ?_
        rintro e w7 ⟨rfl, hf7⟩
        have HF7 := hide (HF.out.andThen hf7 (by simp))
        have HHA7 := hide (HHA.out.fr hf7 (by simp))
        have HHB7 := hide (HHB.out.fr hf7 (by simp))
        clear hf7
        go_wp2_with fail
        refine (HX11.out _ (HK.out.fr HF7.out (by simp))).mono ?_
        rintro e w8 ⟨rfl, hf8⟩
        have HF8 := hide (HF7.out.andThen hf8 (by simp))
        have HHA8 := hide (HHA7.out.fr hf8 (by simp))
        have HHB8 := hide (HHB7.out.fr hf8 (by simp))
        clear hf8
        go_wp2_with fail
        refine (HXB.out _ HHB8.out (HK.out.fr HF8.out (by simp))).mono ?_
        rintro e w9 ⟨rfl, hf9⟩
        have HF9 := hide (HF8.out.andThen hf9 (by simp))
        have HHA9 := hide (HHA8.out.fr hf9 (by simp))
        have HHB9 := hide (HHB8.out.fr hf9 (by simp))
        clear hf9
        go_wp2_with fail
        refine (HX11.out _ (HK.out.fr HF9.out (by simp))).mono ?_
        rintro e wa ⟨rfl, hfa⟩
        have HFA := hide (HF9.out.andThen hfa (by simp))
        have HHAA := hide (HHA9.out.fr hfa (by simp))
        have HHBA := hide (HHB9.out.fr hfa (by simp))
        clear hfa
        have HL1 := hide (HNA.out wa HHAA.out)
        have HL2 := hide (HNB.out wa HHBA.out)
        go_wp2_with (go_at_call 16; (first | with_reducible refine (unhide HL1).mono ?_ | with_reducible refine (unhide HL2).mono ?_); rintro e wd ⟨rfl, rfl⟩)
        go_ret
        exact ⟨rfl, HFA.out⟩
  · go_wp2
    go_ret
    exact ⟨rfl, HF1.out⟩
/-! ### The row -/
set_option maxRecDepth 100000 in
theorem lifted (os : Os) (started : os.Started) (H : Type) (enc : TypeId × Value → H) :
    ReturnsInHanded {} Tryd.checked os 6 .any (fun w args => (Rows.digestStreamsSpec.pre enc Tryd.prog Tryd.f6 [] false w args ∧ laidMetH Tryd.prog laid1 w) ∧ sizedMet enc Tryd.prog Tryd.f6 (OpenSpec.ofChange Rows.digestStreamsSpec) false w args)
      (Rows.digestStreamsSpec.post enc Tryd.prog Tryd.f6 false true false false) := by
  refine returnsInHanded_of_change_and (C := Tryd.checked) (X := fun w _ => laidMetH Tryd.prog laid1 w) (fun _ _ _ hh h => h.of_heap hh) own started (by kernel_rfl) Tryd.func6
    (ChangeSpec.witness_shaped (enc := enc) (C := Tryd.checked) (os := os) (X := fun w _ => laidMetH Tryd.prog laid1 w) false (World.doorLaid Tryd.prog 2000 os) #[.slice none 0 0] 8 rfl (World.shaped_of_RefB (by kernel_rfl) (by kernel_rfl)) (by kernel_rfl) (by kernel_rfl) (by kernel_rfl) (door_met os _)) ?_
  intro W base args ds gs before hval0 hW _ _ hL _
  have hval : ∀ (j : Nat) t v, Tryd.f6.params[j]? = some t → args[j]? = some v → Value.okWide Tryd.prog W .any base t v := hval0
  have hW' := hW
  obtain ⟨p, q, hA0, hV, rfl, hfz, hnd⟩ := hW
  have hA : DataW.TrodAll enc Tryd.prog W 0 (fun _ => true) true Tryd.f6.params.toList args.toList ds p := hA0
  rw [Tryd.params6] at hA hval
  obtain ⟨v0, vs0, d0, ds0, p0, q0, hargs, rfl, rfl, h0, r0⟩ := trodAll_cons hA
  obtain ⟨rfl, rfl, rfl⟩ := trodAll_nil r0
  obtain rfl : args = #[v0] := by cases args; simp_all
  obtain ⟨rfl, rfl⟩ := trodVars_none hV
  have h0k := h0
  obtain ⟨a0, L0, cap0, ev0, rfl, hev0⟩ := open_strs32 (hval 0 32 v0 rfl rfl) h0
  clear hA0 hval0
  simp only [List.append_nil] at hW'
  refine (walk a0 L0 cap0 ev0 W (of_laid hL) hev0).mono fun e W' ⟨he, hg⟩ => ?_
  subst he
  exact ⟨_, rfl, _, _, _, [], _, [], hW', (trodAll_cons_mk (shut_bool Tryd.underlying4 _) trodAll_mk0), (trodAll_cons_mk (Below.trod laidOut read32 row32 h0k hg.below (fun x hx => by simpa using hW'.lt x (by simp [hx]))) trodAll_mk0), rfl, hg.below.frame _, fun h => by cases h⟩

theorem over : Rows.digestStreamsRow.holds Tryd.pinned (OpenSpec.ofChange Rows.digestStreamsSpec) :=
  OpenClaim.holds_of_wide 6 Tryd.f6 rfl rfl rfl rfl rfl rfl rfl ⟨rfl, rfl, rfl, rfl, rfl⟩ rfl rfl rfl rfl rfl (by kernel_rfl) Tryd.func6 (by kernel_rfl)
    (of_decide_eq_true (by kernel_rfl)) (by unfold Func.isWrapper; first | (rw [if_pos (by decide +kernel)]; kernel_rfl) | (rw [if_neg (by decide +kernel)]; exact ⟨rfl, rfl⟩))
    (fun os started H enc _ => lifted os started H enc)

/-- The tied card. -/
theorem proved : Rows.DigestStreamsCardSaid :=
  Claim7.holds_tied_plain_at .later [] [.data] true (true, "16db3c700e57575b252f3a94394bf1581548418de5986824bf55eeca07a9e40a") false
    over (fun _ h => by cases h) (by kernel_rfl) (fun _ h => by cases h) digestStreams_row_tie rfl ⟨rfl, rfl⟩ (by kernel_rfl) rfl
    (fun f fn hf hfn => by
      obtain rfl : f = 6 := Option.some.inj ((show Tryd.prog.funcNamed "intrusion/intrusionlaw03.DigestStreams" = some 6 by kernel_rfl).symm.trans hf) |>.symm
      obtain rfl : fn = Tryd.f6 := (Option.some.inj (Tryd.func6.symm.trans hfn)).symm
      exact ⟨by kernel_rfl, fun j t ht => by
        rw [Tryd.params6] at ht
        have hm : t ∈ [32] := by
          have h1 := Array.mem_of_getElem? ht
          simp at h1
          simp
          omega
        have hall : ([32].all fun u => !Tryd.prog.wantsStandIn u) = true := by kernel_rfl
        exact (show Tryd.prog.wantsStandIn t = false by simpa using List.all_eq_true.1 hall t hm)⟩)
    (by kernel_rfl)
#print axioms proved
end Go.Proofs.YtgkhjenlfajdcaaDoor.digestStreams


