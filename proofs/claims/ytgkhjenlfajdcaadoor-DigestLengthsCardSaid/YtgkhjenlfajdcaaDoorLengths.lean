/-
  The law DigestLengths: for a string of n equal bytes, n at most 300, Hex returns what the reference returns, and so does a Hash to which the bytes are written one by one. Conditions: none; the program's table of constants is tied to the program's text (the card).
  (The row's frame began as the shell that the seat's proof-skeleton.mjs writes.)
-/
import Derived.Test.YtgkhjenlfajdcaaDoorLaid
import Derived.Test.YtgkhjenlfajdcaaDoorRsum
import Derived.Test.YtgkhjenlfajdcaaDoorCards
import Derived.Test.YtgkhjenlfajdcaaDoorTie
import Derived.SevenTiedAt
namespace Go.Proofs.YtgkhjenlfajdcaaDoor.digestLengths
open Go Go.ChangeShapes Go.WideShapes Go.ChangeAt Go.RowKit
open Go.ChangeMaps (open_string shut_string)
set_option linter.unusedVariables false

theorem str_any {w : World} {v : Value} {g : Option Nat} {l : List UInt8} (h : BAt w v g l) : (convert 27 9 v).run Tryd.prog w = .ok (.string ⟨l.toArray⟩) w := by
  rcases h with ⟨h0, _, h1, h2⟩ | ⟨b, off, cap, cur, hg, hv, hblk, hnc, hfit, hxs, hcells⟩
  · obtain rfl : l = [] := List.length_eq_zero_iff.1 h1
    subst h0
    rw [run_convert_bytes_string w 27 9 5 none 0 0 Tryd.underlying27 Tryd.underlying5 Tryd.underlying9]
    rfl
  · subst hv
    refine run_convert_bytes_back w 27 9 5 ⟨b, off, none⟩ cap l Tryd.underlying27 Tryd.underlying5 Tryd.underlying9 (fun j hj => ?_)
    rw [Addr.add_lit, cell_blk hblk]
    exact hcells j _ (by simp [bcells, List.getElem?_eq_getElem hj])
theorem one_str (w : World) (c : Int) (hc : 0 ≤ c ∧ c < 256) : (convert 27 9 (.slice (some ⟨w.heap.size, 0, none⟩) 1 1)).run Tryd.prog (w.alloc (.cells #[.int .u8 c] 5)) = .ok (.string ⟨#[UInt8.ofNat c.toNat]⟩) (w.alloc (.cells #[.int .u8 c] 5)) := by
  refine run_convert_bytes_back _ 27 9 5 ⟨w.heap.size, 0, none⟩ 1 [UInt8.ofNat c.toNat] Tryd.underlying27 Tryd.underlying5 Tryd.underlying9 (fun j hj => ?_)
  obtain rfl : j = 0 := by simpa using hj
  rw [Addr.add_lit, cell_blk (heap_alloc_eq rfl)]
  have h1 := ofNat_val c hc
  simp only [List.getElem_cons_zero, h1]
  rfl

set_option maxRecDepth 100000 in
set_option maxHeartbeats 2000000 in
theorem walk (n c : Int) (w : World) (hk : Kst w) (hcw : (Lit.int .u8 c).wf = true) :
    Calls Tryd.prog 4 #[.int .i64 n, .int .u8 c] w fun e w' => e = .returned (.bool true) ∧ Fr [] w w' := by
  have HK := hide hk
  have h0 := hk.lt
  have hc : 0 ≤ c ∧ c < 256 := by have := bounds_u8 hcw; omega
  clear hk hcw
  by_cases hbig : n < 0 ∨ 300 < n
  · rcases hbig with hneg | hbig
    all_goals
      go_enter Tryd.func4, Tryd.ntmps4
      go_wp2_with fail
      refine (hnew_any _).mono ?_
      rintro e w1 ⟨ha, rfl, hga, hha, hf1⟩
      have HF1 := hide hf1
      clear hf1 hha
      go_wp2_with fail
      refine (lives_any _ (HK.out.fr HF1.out (by simp))).mono ?_
      rintro e w2 ⟨rfl, hf2⟩
      have HF2 := hide (HF1.out.trans hf2)
      clear hf2
      go_wp2
      go_ret
      exact ⟨rfl, HF2.out⟩
  obtain ⟨N, rfl⟩ : ∃ N : Nat, n = (N : Int) := ⟨n.toNat, by omega⟩
  have hN : N ≤ 300 := by omega
  clear hbig
  obtain ⟨cb, hcb⟩ : ∃ b : UInt8, b = UInt8.ofNat c.toNat := ⟨_, rfl⟩
  have HCB : Hid ((cb.toNat : Int) = c) := by
    show _ = _
    rw [hcb]
    exact ofNat_val c hc
  have HCV : Hid (∀ W : World, (convert 27 9 (.slice (some ⟨W.heap.size, 0, none⟩) 1 1)).run Tryd.prog (W.alloc (.cells #[.int .u8 c] 5)) = .ok (.string ⟨#[cb]⟩) (W.alloc (.cells #[.int .u8 c] 5))) := by
    show ∀ W : World, _
    intro W
    rw [hcb]
    exact one_str W c hc
  clear hcb
  go_enter Tryd.func4, Tryd.ntmps4
  go_wp2_with fail
  refine (hnew_any _).mono ?_
  rintro e w1 ⟨ha, rfl, hga, hha, hf1⟩
  have HF1 := hide hf1
  have HHA1 := hide hha
  clear hf1 hha
  go_wp2_with fail
  go_loopg [6, 7] (N + 1) (fun gk vb i wr => ∃ (k : Nat) (g : Option Nat), gk = N + 1 - k ∧ k ≤ N ∧ i = .int .i64 k ∧ BAt wr vb g (List.replicate k cb) ∧ (∀ b, g = some b → w.heap.size ≤ b ∧ b ≠ ha) ∧ HashOf wr ha (List.replicate k cb) ∧ Fr [] w wr)
  case atStart => exact ⟨0, none, rfl, by omega, rfl, SlAt.nil_ _, by simp, HHA1.out, HF1.out⟩
  case round =>
    obtain ⟨k, g, hgk, hk, rfl, hbt, hg, hha, hf⟩ := hrel
    have HGK := hide hgk
    have HG := hide hg
    have HHA := hide hha
    have HF := hide hf
    have HB := hide hbt
    by_cases hlt : k < N
    · obtain ⟨av, cv, hv⟩ := SlAt.shape hbt
      rw [List.length_replicate] at hv
      obtain ⟨v', w', g', happ, hb', hf', hg'⟩ := BAt.push hbt [cb] #[.int .u8 c] (by simp [bcells, HCB.out]) (by simp) (by simp; omega)
      rw [hv] at happ
      have hap : (Builtin.append_ #[27, 27] 27 #[.slice av k cv, .slice (some ⟨wr.heap.size, 0, none⟩) 1 1]).run Tryd.prog (wr.alloc (.cells #[.int .u8 c] 5)) = .ok v' w' := happ
      have hal : ha < wr.heap.size := hha.lt
      have HB' := hide hb'
      have HF' := hide (HF.out.andThen hf' (fun y hy => .inr (HG.out y (by simpa using hy)).1))
      have HHA' := hide (hha.fr hf' (fun hm => (HG.out ha (by simpa using hm)).2 rfl))
      have HG' : Hid (∀ b, g' = some b → w.heap.size ≤ b ∧ b ≠ ha) := by
        show ∀ b, _ → _
        intro b hb
        rcases hg' with h1 | ⟨b3, h1, h2⟩
        · exact HG.out b (h1 ▸ hb)
        · rw [h1] at hb
          injection hb with hb
          have := HF.out.size
          exact ⟨by omega, by omega⟩
      have hcv := HCV.out w'
      have HHN : Hid (HashOf (w'.alloc (.cells #[.int .u8 c] 5)) ha (List.replicate k cb)) := HHA'.out.fr ((Fr.refl [] w').alloc _) (by simp)
      have HFN : Hid (Fr [] w (w'.alloc (.cells #[.int .u8 c] 5))) := HF'.out.alloc _
      have HBN : Hid (BAt (w'.alloc (.cells #[.int .u8 c] 5)) v' g' (List.replicate k cb ++ [cb])) := SlAt.fr HB'.out ((Fr.refl [] w').alloc _) (by simp)
      have HW := hide (hwrite_any ha (List.replicate k cb) ⟨#[cb]⟩ _ HHN.out (HK.out.fr HFN.out (by simp)) (by omega) (by simp [ByteArray.size]; omega))
      subst hv
      clear hgk hg hha hf hbt happ hb' hf' hg'
      go_wp2_with (at_builtin; refine wpList_append_run rfl _ _ 27 rfl hap rfl rfl ?_)
      refine (unhide HW).mono ?_
      rintro e w7 ⟨rfl, hh7, hf7⟩
      have HF7 := hide (HFN.out.andThen hf7 (by simp; omega))
      have HHA7 := hide hh7
      have HB7 := hide (SlAt.fr HBN.out hf7 (fun b hb => by have := (HG'.out b hb).2; simpa using this))
      clear hf7 hh7 hcv hap
      go_wp2_with fail
      go_roundg (N + 1 - (k + 1))
      case measure => have := HGK.out; omega
      case rel =>
        refine ⟨k + 1, g', rfl, by omega, by go_num, ?_, HG'.out, ?_, HF7.out⟩
        · have h1 := HB7.out
          rw [← List.replicate_succ'] at h1
          exact h1
        · have h1 := HHA7.out
          have h2 : HashOf w7 ha (List.replicate k cb ++ [cb]) := h1
          rw [← List.replicate_succ'] at h2
          exact h2
    · obtain rfl : k = N := by omega
      have HSTR : Hid (∀ W, Fr [] wr W → (convert 27 9 u6).run Tryd.prog W = .ok (.string ⟨(List.replicate k cb).toArray⟩) W) := by
        show ∀ W, _ → _
        intro W hW
        exact str_any (SlAt.fr HB.out hW (by simp))
      obtain ⟨sb, hsb⟩ : ∃ x : ByteArray, x = ⟨(List.replicate k cb).toArray⟩ := ⟨_, rfl⟩
      have hsd : sb.data.toList = List.replicate k cb := by rw [hsb]
      have hss : sb.size = k := by rw [hsb]; show (List.replicate k cb).toArray.size = k; simp
      rw [← hsb] at HSTR
      obtain ⟨hx, hhx⟩ : ∃ x : ByteArray, x = ⟨(hex (sha KK (List.replicate k cb))).toArray⟩ := ⟨_, rfl⟩
      have HRH : Hid (∀ W, Calls Tryd.prog 12 #[.string sb] W fun e w' => e = .returned (.string hx) ∧ Fr [] W w') := by
        show ∀ W, _
        intro W
        rw [hhx, ← hsd]
        exact rhex12_any sb W (by omega)
      have HHX : Hid (∀ W, Kst W → Calls Tryd.prog 11 #[.string sb] W fun e w' => e = .returned (.string hx) ∧ Fr [] W w') := by
        show ∀ W, _ → _
        intro W hW
        rw [hhx, ← hsd]
        exact hex11_any sb W hW (by omega)
      have HHH : Hid (∀ W, HashOf W ha (List.replicate k cb) → Kst W → Calls Tryd.prog 15 #[.pointer (some ⟨ha, 0, none⟩)] W fun e w' => e = .returned (.string hx) ∧ Fr [] W w') := by
        show ∀ W, _ → _ → _
        intro W h1 h2
        rw [hhx]
        exact hhex_any ha _ W h1 h2 (by simp; omega)
      have HLEN : Hid (∀ W, HashOf W ha (List.replicate k cb) → Calls Tryd.prog 16 #[.pointer (some ⟨ha, 0, none⟩)] W fun e w' => e = .returned (.int .i64 k) ∧ W = w') := by
        show ∀ W, _ → _
        intro W h1
        have h2 := hlen_any ha _ W h1
        rw [List.length_replicate] at h2
        exact h2
      have hs1 := HSTR.out wr (Fr.refl _ _)
      clear hgk hg hha hf hbt hsb hsd hss hhx
      go_wp2_with fail
      refine (HRH.out _).mono ?_
      rintro e w5 ⟨rfl, hf5⟩
      have HF5 := hide (HF.out.trans hf5)
      have HHA5 := hide (HHA.out.fr hf5 (by simp))
      have hs2 := HSTR.out w5 hf5
      clear hf5 hs1
      go_wp2_with fail
      refine (HHX.out _ (HK.out.fr HF5.out (by simp))).mono ?_
      rintro e w6 ⟨rfl, hf6⟩
      have HF6 := hide (HF5.out.trans hf6)
      have HHA6 := hide (HHA5.out.fr hf6 (by simp))
      clear hf6 hs2
      go_wp2_with fail
      refine (HHH.out _ HHA6.out (HK.out.fr HF6.out (by simp))).mono ?_
      rintro e w7 ⟨rfl, hf7⟩
      have HF7 := hide (HF6.out.trans hf7)
      have HHA7 := hide (HHA6.out.fr hf7 (by simp))
      clear hf7
      go_wp2_with fail
      refine (HLEN.out _ HHA7.out).mono ?_
      rintro e w8 ⟨rfl, rfl⟩
      go_wp2_with fail
      refine (lives_any _ (HK.out.fr HF7.out (by simp))).mono ?_
      rintro e w9 ⟨rfl, hf9⟩
      have HF9 := hide (HF7.out.trans hf9)
      clear hf9
      go_wp2
      go_ret
      exact ⟨rfl, HF9.out⟩
/-! ### The row -/
set_option maxRecDepth 100000 in
theorem lifted (os : Os) (started : os.Started) (H : Type) (enc : TypeId × Value → H) :
    ReturnsInHanded {} Tryd.checked os 4 .any (fun w args => (Rows.digestLengthsSpec.pre enc Tryd.prog Tryd.f4 [] false w args ∧ laidMetH Tryd.prog laid1 w) ∧ sizedMet enc Tryd.prog Tryd.f4 (OpenSpec.ofChange Rows.digestLengthsSpec) false w args)
      (Rows.digestLengthsSpec.post enc Tryd.prog Tryd.f4 false true false false) := by
  refine returnsInHanded_of_change_and (C := Tryd.checked) (X := fun w _ => laidMetH Tryd.prog laid1 w) (fun _ _ _ hh h => h.of_heap hh) own started (by kernel_rfl) Tryd.func4
    (ChangeSpec.witness_shaped (enc := enc) (C := Tryd.checked) (os := os) (X := fun w _ => laidMetH Tryd.prog laid1 w) false (World.doorLaid Tryd.prog 2000 os) #[.int .i64 0, .int .u8 0] 8 rfl (World.shaped_of_RefB (by kernel_rfl) (by kernel_rfl)) (by kernel_rfl) (by kernel_rfl) (by kernel_rfl) (door_met os _)) ?_
  intro W base args ds gs before hval0 hW _ _ hL _
  have hval : ∀ (j : Nat) t v, Tryd.f4.params[j]? = some t → args[j]? = some v → Value.okWide Tryd.prog W .any base t v := hval0
  have hW' := hW
  obtain ⟨p, q, hA0, hV, rfl, hfz, hnd⟩ := hW
  have hA : DataW.TrodAll enc Tryd.prog W 0 (fun _ => true) true Tryd.f4.params.toList args.toList ds p := hA0
  rw [Tryd.params4] at hA hval
  obtain ⟨v0, vs0, d0, ds0, p0, q0, hargs, rfl, rfl, h0, r0⟩ := trodAll_cons hA
  obtain ⟨v1, vs1, d1, ds1, p1, q1, rfl, rfl, rfl, h1, r1⟩ := trodAll_cons r0
  obtain ⟨rfl, rfl, rfl⟩ := trodAll_nil r1
  obtain rfl : args = #[v0, v1] := by cases args; simp_all
  obtain ⟨rfl, rfl⟩ := trodVars_none hV
  obtain ⟨a0, rfl, rfl, rfl, w0⟩ := open_int Tryd.underlying3 (hval 0 3 v0 rfl rfl) h0
  obtain ⟨a1, rfl, rfl, rfl, w1⟩ := open_int Tryd.underlying5 (hval 1 5 v1 rfl rfl) h1
  clear hA0 hval0
  simp only [List.append_nil] at hW'
  refine (walk a0 a1 W (of_laid hL) w1).mono fun e W' ⟨he, hg⟩ => ?_
  subst he
  exact ⟨_, rfl, _, _, _, [], _, [], hW', (trodAll_cons_mk (shut_bool Tryd.underlying4 _) trodAll_mk0), (trodAll_cons_mk (shut_int Tryd.underlying3 w0) (trodAll_cons_mk (shut_int Tryd.underlying5 w1) trodAll_mk0)), rfl, hg.below.frame _, fun h => by cases h⟩

theorem over : Rows.digestLengthsRow.holds Tryd.pinned (OpenSpec.ofChange Rows.digestLengthsSpec) :=
  OpenClaim.holds_of_wide 4 Tryd.f4 rfl rfl rfl rfl rfl rfl rfl ⟨rfl, rfl, rfl, rfl, rfl⟩ rfl rfl rfl rfl rfl (by kernel_rfl) Tryd.func4 (by kernel_rfl)
    (of_decide_eq_true (by kernel_rfl)) (by unfold Func.isWrapper; first | (rw [if_pos (by decide +kernel)]; kernel_rfl) | (rw [if_neg (by decide +kernel)]; exact ⟨rfl, rfl⟩))
    (fun os started H enc _ => lifted os started H enc)

/-- The tied card. -/
theorem proved : Rows.DigestLengthsCardSaid :=
  Claim7.holds_tied_plain_at .later [] [.data] true (true, "16db3c700e57575b252f3a94394bf1581548418de5986824bf55eeca07a9e40a") false
    over (fun _ h => by cases h) (by kernel_rfl) (fun _ h => by cases h) digestLengths_row_tie rfl ⟨rfl, rfl⟩ (by kernel_rfl) rfl
    (fun f fn hf hfn => by
      obtain rfl : f = 4 := Option.some.inj ((show Tryd.prog.funcNamed "intrusion/intrusionlaw03.DigestLengths" = some 4 by kernel_rfl).symm.trans hf) |>.symm
      obtain rfl : fn = Tryd.f4 := (Option.some.inj (Tryd.func4.symm.trans hfn)).symm
      exact ⟨by kernel_rfl, fun j t ht => by
        rw [Tryd.params4] at ht
        have hm : t ∈ [3, 5] := by
          have h1 := Array.mem_of_getElem? ht
          simp at h1
          simp
          omega
        have hall : ([3, 5].all fun u => !Tryd.prog.wantsStandIn u) = true := by kernel_rfl
        exact (show Tryd.prog.wantsStandIn t = false by simpa using List.all_eq_true.1 hall t hm)⟩)
    (by kernel_rfl)
#print axioms proved
end Go.Proofs.YtgkhjenlfajdcaaDoor.digestLengths

