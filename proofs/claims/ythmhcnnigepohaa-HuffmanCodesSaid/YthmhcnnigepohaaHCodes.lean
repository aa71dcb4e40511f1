/-
  For all lists of at most 400 lengths, Check and Codes return what the reference returns. Conditions: none.
  (The row's frame began as the shell that the seat's proof-skeleton.mjs writes.)
-/
import Derived.Test.YthmhcnnigepohaaArg
import Derived.WalkKit
import Derived.ProofKit
import Derived.OpenShut
import Derived.Deep.LoopGhost
namespace Go.Proofs.Ythmhcnnigepohaa.huffmanCodes
open Go.ChangeShapes Go.WideShapes Go.ChangeAt Go.RowKit

theorem own : ownKnob Try.prog.godebug = none := by kernel_rfl

set_option maxRecDepth 100000 in
set_option maxHeartbeats 2000000 in
theorem walk (v : Value) (l : List Int) (w : World) (hev : IR w v l ∧ l.length ≤ 9223372036854775807) :
    Calls Try.prog 3 #[v] w fun e w' => e = .returned (.bool true) ∧ Fr [] w w' := by
  obtain ⟨hir, hL⟩ := hev
  by_cases hbig : 400 < l.length
  · have HLV := hide (lives_any w)
    obtain ⟨a, cap, rfl, _⟩ := hir
    obtain ⟨n, hn⟩ : ∃ n, n = l.length := ⟨_, rfl⟩
    rw [← hn] at hbig hL ⊢
    clear hn
    go_enter Try.func3, Try.ntmps3
    go_wp2_with fail
    refine (unhide HLV).mono ?_
    rintro e w1 ⟨rfl, hf⟩
    have HF := hide hf
    clear hf
    go_wp2
    go_ret
    exact ⟨rfl, HF.out⟩
  have H1 := hide (check11_any v l w hir (by omega))
  have H2 := hide (rcheck12_any v l w hir (by omega))
  have H3 := hide (codes14_any v l w hir (by omega))
  have HI := hide hir
  obtain ⟨a, cap, rfl, _⟩ := hir
  obtain ⟨n, hn⟩ : ∃ n, n = l.length := ⟨_, rfl⟩
  have hcl : (codesOf l).length ≤ 1000 := by unfold codesOf; split <;> simp; omega
  have HCL := hide hcl
  rw [← hn] at hbig hL H1 H2 H3 HI ⊢
  have HN := hide hn
  clear hn hcl
  go_enter Try.func3, Try.ntmps3
  go_wp2_with fail
  refine (unhide H1).mono ?_
  rintro e w1 ⟨rfl, rfl⟩
  go_wp2_with fail
  refine (unhide H2).mono ?_
  rintro e w1 ⟨rfl, rfl⟩
  go_wp2_with fail
  refine (unhide H3).mono ?_
  rintro e w1 ⟨v1, rfl, hi1, hf1⟩
  have HF1 := hide hf1
  have HI1 := hide hi1
  have H4 := hide (rcodes15_any _ l w1 (HI.out.fr hf1) (by have := HN.out; omega))
  clear hi1 hf1
  go_wp2_with fail
  refine (unhide H4).mono ?_
  rintro e w2 ⟨v2, rfl, hi2, hf2⟩
  have HF2 := hide (HF1.out.trans hf2)
  have H5 := hide (same13_any v1 v2 (codesOf l) w2 (HI1.out.fr hf2) hi2 (by have := HCL.out; omega))
  clear hi2 hf2
  go_wp2_with fail
  refine (unhide H5).mono ?_
  rintro e w3 ⟨rfl, hf3⟩
  have HF3 := hide (HF2.out.trans hf3)
  clear hf3
  go_wp2_with fail
  refine (lives_any _).mono ?_
  rintro e w4 ⟨rfl, hf4⟩
  have HF4 := hide (HF3.out.trans hf4)
  clear hf4
  go_wp2
  go_ret
  exact ⟨rfl, HF4.out⟩
/-! ### The row -/
set_option maxRecDepth 100000 in
theorem lifted (os : Os) (started : os.Started) (H : Type) (enc : TypeId × Value → H) :
    ReturnsInHanded {} Try.checked os 3 .any (Rows.huffmanCodesSpec.pre6 enc Try.prog Try.f3 Rows.huffmanCodesRow.domain false) (Rows.huffmanCodesSpec.post enc Try.prog Try.f3 false true false false) := by
  refine returnsInHanded_of_change (C := Try.checked) own started (by kernel_rfl) Try.func3
    (ChangeSpec.witness6 (enc := enc) (C := Try.checked) false ⟨#[], #[.slice none 0 0], []⟩ 8 (by kernel_rfl) (by kernel_rfl) (by kernel_rfl) (by kernel_rfl)) ?_
  intro W base args ds gs before hval0 hW hcnd _
  have hval : ∀ (j : Nat) t v, Try.f3.params[j]? = some t → args[j]? = some v → Value.okWide Try.prog W .any base t v := hval0
  have hW' := hW
  obtain ⟨p, q, hA0, hV, rfl, hfz, hnd⟩ := hW
  have hA : DataW.TrodAll enc Try.prog W 0 (fun _ => true) true Try.f3.params.toList args.toList ds p := hA0
  rw [Try.params3] at hA hval
  obtain ⟨v0, vs0, d0, ds0, p0, q0, hargs, rfl, rfl, h0, r0⟩ := trodAll_cons hA
  obtain ⟨rfl, rfl, rfl⟩ := trodAll_nil r0
  obtain rfl : args = #[v0] := by cases args; simp_all
  obtain ⟨rfl, rfl⟩ := trodVars_none hV
  have h0k := h0
  obtain ⟨l0, hev0⟩ := open_ints22 (hval 0 22 v0 rfl rfl) h0
  clear hA0 hval0
  simp only [List.append_nil] at hW'
  refine (walk v0 l0 W hev0).mono fun e W' ⟨he, hg⟩ => ?_
  subst he
  exact ⟨_, rfl, _, _, _, [], _, [], hW', (trodAll_cons_mk (shut_bool Try.underlying4 _) trodAll_mk0), (trodAll_cons_mk (Below.trod laid read22 row22 h0k hg.below (fun x hx => by simpa using hW'.lt x (by simp [hx]))) trodAll_mk0), rfl, hg.below.frame _, fun h => by cases h⟩

theorem over : Rows.huffmanCodesRow.holds Try.pinned (OpenSpec.ofChange Rows.huffmanCodesSpec) :=
  OpenClaim.holds_of_wide 3 Try.f3 rfl rfl rfl rfl rfl rfl rfl ⟨rfl, rfl, rfl, rfl, rfl⟩ rfl rfl rfl rfl rfl (by kernel_rfl) Try.func3 (by kernel_rfl)
    (of_decide_eq_true (by kernel_rfl)) (by unfold Func.isWrapper; first | (rw [if_pos (by decide +kernel)]; kernel_rfl) | (rw [if_neg (by decide +kernel)]; exact ⟨rfl, rfl⟩))
    (fun os started H enc _ => lifted os started H enc)

theorem proved : Rows.HuffmanCodesSaid :=
  over
#print axioms proved
end Go.Proofs.Ythmhcnnigepohaa.huffmanCodes

