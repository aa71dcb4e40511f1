/-
  The law BudgetSteps: of the steps that a packet is granted no more are spent than were granted, and all if they are wanted (any grant, up to 60 calls; longer lists: the statement's own example). Conditions: none.
  (The row's frame began as the shell that the seat's proof-skeleton.mjs writes.)
-/
import Derived.Test.YtnghfmefjjkgdaaAwake
import Derived.Deep.LoopGhost
import Derived.Test.YtnghfmefjjkgdaaRows
import Derived.WalkKit
import Derived.ProofKit
import Derived.OpenShut
import Derived.ShutString
import Derived.ChangeOld
import Derived.Below
namespace Go.Proofs.Ytnghfmefjjkgdaa.budgetSteps
open Go.ChangeShapes Go.WideShapes Go.ChangeAt Go.RowKit
open Go.ChangeMaps (open_string shut_string)
set_option linter.unusedVariables false

theorem own : ownKnob Try.prog.godebug = none := by kernel_rfl
theorem laidOut : laidOutB Try.prog = true := by kernel_rfl

/-- WHAT THE WALK IS TOLD OF A SLICE OF INTEGERS THAT CAME IN: it is nil; or it leads to a row of 'cap' cells, the numbers 'zs' (the first 'len' are its elements, the rest its spare room), each fitting its kind. -/
def IsRow (k : IntKind) (w : World) (a : Option Addr) (len cap : Nat) (zs : List Int) : Prop :=
  (a = none ∧ len = 0 ∧ cap = 0 ∧ zs = []) ∨
  ∃ x, a = some x ∧ len ≤ cap ∧ cap ≤ maxLen ∧ zs.length = cap ∧ (∀ i, i < zs.length → w.cell? (x.add i) = some (.int k (zs.getD i 0))) ∧ ∀ n ∈ zs, (Lit.int k n).wf = true

/-! ### STEP 1: THE WALK: the Go text returns true, AND WRITES NOTHING THAT WAS THERE: 'Below w.heap.size w w'' (Derived/Below.lean: '.refl', '.alloc', '.drew', '.setCell' at a new block, '.trans'). Open each 'IsRow' by 'rcases' AHEAD of 'go_enter'; part every test ahead of the walk. -/
theorem walk (a0 : Int) (a1 : Option Addr) (len1 cap1 : Nat) (z1 : List Int) (w : World) (w0 : (Lit.int .u32 a0).wf = true) (w1 : IsRow .u16 w a1 len1 cap1 z1) :
    Calls Try.prog 11 #[.int .u32 a0, .slice a1 len1 cap1] w fun e w' => e = .returned (.bool true) ∧ Below w.heap.size w w' := by
  have ha0 : 0 ≤ a0 ∧ a0 ≤ 4294967295 := by
    have h : IntKind.u32.min ≤ a0 ∧ a0 ≤ IntKind.u32.max := by simpa [Lit.wf] using w0
    exact h
  have hel : ∃ f : Nat → Int, ∀ i, i < len1 → ∃ x, a1 = some x ∧ w.cell? (x.add i) = some (.int .u16 (f i)) ∧ 0 ≤ f i ∧ f i ≤ 65535 := by
    rcases w1 with ⟨rfl, rfl, rfl, rfl⟩ | ⟨x, rfl, hl, hm, hz, hc, hwf⟩
    · exact ⟨fun _ => 0, fun i hi => by omega⟩
    · refine ⟨fun i => z1.getD i 0, fun i hi => ⟨x, rfl, hc i (by omega), ?_⟩⟩
      have h1 : z1.getD i 0 ∈ z1 := by
        rw [List.getD_eq_getElem?_getD, List.getElem?_eq_getElem (by omega)]
        exact List.getElem_mem _
      have h2 : IntKind.u16.min ≤ z1.getD i 0 ∧ z1.getD i 0 ≤ IntKind.u16.max := by simpa [Lit.wf] using hwf _ h1
      exact h2
  have hlen : len1 ≤ 9223372036854775807 := by
    rcases w1 with ⟨rfl, rfl, rfl, rfl⟩ | ⟨x, rfl, hl, hm, hz, hc, hwf⟩
    · omega
    · unfold maxLen at hm; omega
  clear w0 w1
  by_cases hbig : 60 < len1
  · go_enter Try.func11, Try.ntmps11
    go_wp2_with (go_at_call 21; refine (awake_any _).mono ?_; rintro e w' ⟨rfl, hf⟩)
    go_ret
    exact ⟨rfl, hf.below⟩
  obtain ⟨f, hf⟩ := hel
  obtain ⟨L, hL⟩ : ∃ L, L = grant a0 := ⟨_, rfl⟩
  have hL0 : 0 ≤ L ∧ L ≤ 1048576 := by rw [hL]; exact grant_bd _
  have hL1 : L = a0 ∨ (1048576 < a0 ∧ L = 1048576) := by unfold grant at hL; omega
  have HEL := hide hf
  clear hf
  go_enter Try.func11, Try.ntmps11
  go_wp2_with fail
  refine (pnew_any 0 _).mono ?_
  rintro e w1 ⟨rfl, hp1, hf1, hs1⟩
  obtain ⟨p0, hp0⟩ : ∃ p, p = pl0 0 := ⟨_, rfl⟩
  rw [← hp0] at hp1
  clear hp0
  have HF1 := hide hf1
  have h2 := ppacket_any _ _ p0 a0 w1 hp1
  rw [← hL] at h2
  have H2 := hide h2
  clear hp1 hf1 h2 hL
  go_wp2_with fail
  refine (unhide H2).mono ?_
  rintro e w2 ⟨rfl, hp2, hf2⟩
  have hS : ∀ x ∈ [w.heap.size + 1], x ∈ ([] : List Nat) ∨ w.heap.size ≤ x := by simp
  have HF2 := hide (HF1.out.andThen hf2 hS)
  have H3 := hide (pleft_any _ _ _ w2 hp2)
  have HP2 := hide hp2
  clear hp2 hf2
  go_wp2_with fail
  refine (unhide H3).mono ?_
  rintro e w' ⟨rfl, rfl⟩
  go_upto_region 8 with (fail)
  go_cut [6, 40] from 23 to 40 (fun l s wd => l = .int .i64 L ∧ s = .bool false ∧ w2 = wd)
  case first =>
    go_wp2
    all_goals
      go_meet
      case rel =>
        refine ⟨by first | rfl | exact congrArg (Value.int .i64) (by omega), congrArg Value.bool ?_, rfl⟩
        first | rfl | (simp; omega) | (simp [*]; omega)
  case rest =>
  obtain ⟨rfl, rfl, rfl⟩ := hcut
  go_wp2_with fail
  go_loopg [7, 8, 9] (len1 + 1) (fun gk wa sp i wr => ∃ (k : Nat) (Wt S : Int), gk = len1 + 1 - k ∧ k ≤ len1 ∧ i = .int .i64 k ∧ wa = .int .i64 Wt ∧ 0 ≤ Wt ∧ Wt ≤ k * 65535 ∧ sp = .int .i64 S ∧ S = min Wt L ∧ PoolIs wr (w.heap.size + 1) w.heap.size { p0 with left := L - S } ∧ Fr [] w wr)
  case atStart => exact ⟨0, 0, 0, rfl, by omega, rfl, rfl, by omega, by omega, rfl, by omega, by rw [Int.sub_zero]; exact HP2.out, HF2.out⟩
  case round =>
    obtain ⟨k, Wt, S, hgk, hk, rfl, rfl, hW0, hW1, rfl, hSm, hp, hfr⟩ := hrel
    have HGK := hide hgk
    have HSM := hide hSm
    have hS0 : 0 ≤ S ∧ S ≤ L ∧ S ≤ Wt := by omega
    have HFR := hide hfr
    clear hgk hSm
    by_cases hlt : k < len1
    · obtain ⟨x, rfl, hcell, hz0, hz1⟩ := HEL.out k hlt
      obtain ⟨z, hz⟩ : ∃ z, z = f k := ⟨_, rfl⟩
      rw [← hz] at hcell hz0 hz1
      clear hz
      obtain ⟨dx, hdx⟩ : ∃ d, d = min (max z 0) (L - S) := ⟨_, rfl⟩
      have hdx1 : 0 ≤ dx ∧ dx ≤ z := by omega
      have HDX := hide hdx
      have hxb : (x.add k).block < w.heap.size := World.block_lt_of_cell? w _ hcell
      have hcr : wr.cell? (x.add k) = some (.int .u16 z) := by rw [World.cell?_of_block (w := w) (hfr.block _ hxb (by simp))]; exact hcell
      have H7 := hide (by have h7 := pspend_any _ _ _ z wr hp (by dsimp only; omega); dsimp only at h7; rw [← hdx] at h7; exact h7 : _)
      clear hdx hp hfr
      go_wp2_with (go_at_call 28; refine (unhide H7).mono ?_; rintro e w3 ⟨rfl, hp3, hf3⟩; have HF3 := hide (HFR.out.andThen hf3 hS); have HP3 := hide hp3; have hc3 : w3.cell? (x.add k) = some (.int .u16 z) := (by rw [World.cell?_of_block (w := w) (HF3.out.block _ hxb (by simp))]; exact hcell); clear hp3 hf3)
      go_roundg (len1 + 1 - (k + 1))
      case measure => have := HGK.out; omega
      case rel =>
        exact ⟨k + 1, Wt + z, S + dx, rfl, by omega, by go_num, rfl, by omega, by omega, rfl, by have := HSM.out; have := HDX.out; omega, by rw [show L - (S + dx) = L - S - dx by omega]; exact HP3.out, HF3.out⟩
    · have hk1 : k = len1 := by omega
      subst hk1
      have h9 := pleft_any _ _ _ wr hp
      dsimp only at h9
      have H9 := hide h9
      clear hp hfr h9
      have HA := hide (awake_any wr)
      by_cases hw : L < Wt
      · have hSL : S = L := by have := HSM.out; omega
        go_wp2_with (first | (go_at_call 38; refine (unhide H9).mono ?_; rintro e w' ⟨rfl, rfl⟩) | (go_at_call 21; refine (unhide HA).mono ?_; rintro e w' ⟨rfl, hfa⟩))
        go_ret
        exact ⟨rfl, (HFR.out.andThen hfa (by simp)).below⟩
      · have hSL : S = Wt := by have := HSM.out; omega
        go_wp2_with (first | (go_at_call 38; refine (unhide H9).mono ?_; rintro e w' ⟨rfl, rfl⟩) | (go_at_call 21; refine (unhide HA).mono ?_; rintro e w' ⟨rfl, hfa⟩))
        go_ret
        exact ⟨rfl, (HFR.out.andThen hfa (by simp)).below⟩

/-! ### THE ROW's STEP: WRITTEN OUT: LEAVE IT -/
set_option maxRecDepth 100000 in
theorem lifted (os : Os) (started : os.Started) (H : Type) (enc : TypeId × Value → H) :
    ReturnsInHanded {} Try.checked os 11 .any (Rows.budgetStepsSpec.pre6 enc Try.prog Try.f11 Rows.budgetStepsRow.domain false) (Rows.budgetStepsSpec.post enc Try.prog Try.f11 false true false false) := by
  refine returnsInHanded_of_change (C := Try.checked) own started (by kernel_rfl) Try.func11
    (ChangeSpec.witness6 (enc := enc) (C := Try.checked) false ⟨#[], #[.int .u32 0, .slice none 0 0], []⟩ 8 (by kernel_rfl) (by kernel_rfl) (by kernel_rfl) (by kernel_rfl)) ?_
  intro W base args ds gs before hval0 hW hcnd _
  have hval : ∀ (j : Nat) t v, Try.f11.params[j]? = some t → args[j]? = some v → Value.okWide Try.prog W .any base t v := hval0
  have hW' := hW
  obtain ⟨p, q, hA0, hV, rfl, hfz, hnd⟩ := hW
  have hA : DataW.TrodAll enc Try.prog W 0 (fun _ => true) true Try.f11.params.toList args.toList ds p := hA0
  rw [Try.params11] at hA hval
  obtain ⟨v0, vs0, d0, ds0, p0, q0, hargs, rfl, rfl, h0, r0⟩ := trodAll_cons hA
  obtain ⟨v1, vs1, d1, ds1, p1, q1, rfl, rfl, rfl, h1, r1⟩ := trodAll_cons r0
  obtain ⟨rfl, rfl, rfl⟩ := trodAll_nil r1
  obtain rfl : args = #[v0, v1] := by cases args; simp_all
  obtain ⟨rfl, rfl⟩ := trodVars_none hV
  obtain ⟨a0, rfl, rfl, rfl, w0⟩ := open_int Try.underlying66 (hval 0 66 v0 rfl rfl) h0
  obtain ⟨a1, len1, cap1, rfl⟩ := okWide_slice Try.underlying62 (hval 1 62 v1 rfl rfl)
  have k1 := h1
  have lt1 : ∀ x ∈ p1, x.block < W.heap.size := by obtain ⟨m, hm⟩ := k1; exact DataW.trod_lt m _ _ _ hm
  obtain ⟨z1, w1⟩ : ∃ zs, IsRow .u16 W a1 len1 cap1 zs := by
    obtain ⟨fuel, hf⟩ := h1
    rcases open_ints Try.underlying62 Try.underlying61 (by kernel_rfl) hf with ⟨hcs, _⟩ | ⟨x, l, c, zs, hcs, _, hl, hm, hz, _, hcell, hwz⟩
    · simp [Value.cells] at hcs
      obtain ⟨rfl, rfl, rfl⟩ := hcs
      exact ⟨[], .inl ⟨rfl, rfl, rfl, rfl⟩⟩
    · simp [Value.cells] at hcs
      obtain ⟨rfl, rfl, rfl⟩ := hcs
      exact ⟨zs, .inr ⟨_, rfl, hl, hm, by simpa using hz, hcell, hwz⟩⟩
  clear hA0 hval0
  refine (walk a0 a1 len1 cap1 z1 W w0 w1).mono fun e W' ⟨he, bel⟩ => ?_
  subst he
  exact ⟨_, rfl, _, _, _, [], _, [], hW', trodAll_mk1 (shut_bool Try.underlying4 _), (trodAll_cons_mk (shut_int Try.underlying66 w0) (trodAll_cons_mk (Below.trod laidOut (by kernel_rfl) (of_decide_eq_true (by kernel_rfl)) k1 bel lt1) trodAll_mk0)), rfl, bel.frame _, fun h => by cases h⟩

theorem over : Rows.budgetStepsRow.holds Try.pinned (OpenSpec.ofChange Rows.budgetStepsSpec) :=
  OpenClaim.holds_of_wide 11 Try.f11 rfl rfl rfl rfl rfl rfl rfl ⟨rfl, rfl, rfl, rfl, rfl⟩ rfl rfl rfl rfl rfl (by kernel_rfl) Try.func11 (by kernel_rfl)
    (of_decide_eq_true (by kernel_rfl)) (by unfold Func.isWrapper; first | (rw [if_pos (by decide +kernel)]; kernel_rfl) | (rw [if_neg (by decide +kernel)]; exact ⟨rfl, rfl⟩))
    (fun os started H enc _ => lifted os started H enc)

/-- ████ THE STATEMENT ████ -/
theorem proved : Rows.BudgetStepsSaid := over
#print axioms proved
end Go.Proofs.Ytnghfmefjjkgdaa.budgetSteps

