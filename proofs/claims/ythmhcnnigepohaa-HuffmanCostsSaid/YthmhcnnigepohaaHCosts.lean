/-
  For all lists of at most 400 numbers, Cost returns what the reference returns. Conditions: none.
  (The row's frame began as the shell that the seat's proof-skeleton.mjs writes.)
-/
import Derived.Test.YthmhcnnigepohaaArg
import Derived.WalkKit
import Derived.ProofKit
import Derived.OpenShut
import Derived.Deep.LoopGhost
namespace Go.Proofs.Ythmhcnnigepohaa.huffmanCosts
open Go.ChangeShapes Go.WideShapes Go.ChangeAt Go.RowKit

theorem own : ownKnob Try.prog.godebug = none := by kernel_rfl

set_option maxRecDepth 100000 in
set_option maxHeartbeats 2000000 in
theorem walk (v0 : Value) (f : List Int) (v1 : Value) (l : List Int) (w : World) (hev0 : IR w v0 f ∧ f.length ≤ 9223372036854775807) (hev1 : IR w v1 l ∧ l.length ≤ 9223372036854775807) :
    Calls Try.prog 4 #[v0, v1] w fun e w' => e = .returned (.bool true) ∧ Fr [] w w' := by
  obtain ⟨h0, hL0⟩ := hev0
  obtain ⟨h1, hL1⟩ := hev1
  by_cases hbig : 400 < f.length ∨ 400 < l.length
  · have HLV := hide (lives_any w)
    obtain ⟨a0, c0, rfl, _⟩ := h0
    obtain ⟨a1, c1, rfl, _⟩ := h1
    obtain ⟨n, hn⟩ : ∃ n, n = f.length := ⟨_, rfl⟩
    obtain ⟨m, hm⟩ : ∃ n, n = l.length := ⟨_, rfl⟩
    rw [← hn] at hbig hL0 ⊢
    rw [← hm] at hbig hL1 ⊢
    clear hn hm
    by_cases h4 : 400 < n
    · clear hbig
      go_enter Try.func4, Try.ntmps4
      go_wp2_with fail
      refine (unhide HLV).mono ?_
      rintro e w1 ⟨rfl, hf⟩
      have HF := hide hf
      clear hf
      go_wp2
      go_ret
      exact ⟨rfl, HF.out⟩
    · have h5 : 400 < m := by omega
      clear hbig
      go_enter Try.func4, Try.ntmps4
      go_wp2_with fail
      refine (unhide HLV).mono ?_
      rintro e w1 ⟨rfl, hf⟩
      have HF := hide hf
      clear hf
      go_wp2
      go_ret
      exact ⟨rfl, HF.out⟩
  have hf4 : f.length ≤ 400 := by omega
  have hl4 : l.length ≤ 400 := by omega
  have H1 := hide (cost16_any v0 v1 f l w h0 h1 (by omega) (by omega))
  have HI0 := hide h0
  have HI1 := hide h1
  obtain ⟨a0, c0, rfl, _⟩ := h0
  obtain ⟨a1, c1, rfl, _⟩ := h1
  obtain ⟨n, hn⟩ : ∃ n, n = f.length := ⟨_, rfl⟩
  obtain ⟨m, hm⟩ : ∃ n, n = l.length := ⟨_, rfl⟩
  rw [← hn] at hf4 H1 HI0 ⊢
  rw [← hm] at hl4 H1 HI1 ⊢
  have HN := hide hn
  have HM := hide hm
  clear hn hm hbig hL0 hL1
  go_enter Try.func4, Try.ntmps4
  go_wp2_with fail
  refine (unhide H1).mono ?_
  rintro e w1 ⟨rfl, hf⟩
  have HF1 := hide hf
  have H2 := hide (rcost17_any _ _ f l w1 (HI0.out.fr hf) (HI1.out.fr hf) (by have := HN.out; omega) (by have := HM.out; omega))
  clear hf
  go_wp2_with fail
  refine (unhide H2).mono ?_
  rintro e w2 ⟨rfl, hf⟩
  have HF2 := hide (HF1.out.trans hf)
  clear hf
  go_wp2_with fail
  refine (lives_any _).mono ?_
  rintro e w3 ⟨rfl, hf⟩
  have HF3 := hide (HF2.out.trans hf)
  clear hf
  go_wp2
  go_ret
  exact ⟨rfl, HF3.out⟩
/-! ### The row -/
set_option maxRecDepth 100000 in
theorem lifted (os : Os) (started : os.Started) (H : Type) (enc : TypeId × Value → H) :
    ReturnsInHanded {} Try.checked os 4 .any (Rows.huffmanCostsSpec.pre6 enc Try.prog Try.f4 Rows.huffmanCostsRow.domain false) (Rows.huffmanCostsSpec.post enc Try.prog Try.f4 false true false false) := by
  refine returnsInHanded_of_change (C := Try.checked) own started (by kernel_rfl) Try.func4
    (ChangeSpec.witness6 (enc := enc) (C := Try.checked) false ⟨#[], #[.slice none 0 0, .slice none 0 0], []⟩ 8 (by kernel_rfl) (by kernel_rfl) (by kernel_rfl) (by kernel_rfl)) ?_
  intro W base args ds gs before hval0 hW hcnd _
  have hval : ∀ (j : Nat) t v, Try.f4.params[j]? = some t → args[j]? = some v → Value.okWide Try.prog W .any base t v := hval0
  have hW' := hW
  obtain ⟨p, q, hA0, hV, rfl, hfz, hnd⟩ := hW
  have hA : DataW.TrodAll enc Try.prog W 0 (fun _ => true) true Try.f4.params.toList args.toList ds p := hA0
  rw [Try.params4] at hA hval
  obtain ⟨v0, vs0, d0, ds0, p0, q0, hargs, rfl, rfl, h0, r0⟩ := trodAll_cons hA
  obtain ⟨v1, vs1, d1, ds1, p1, q1, rfl, rfl, rfl, h1, r1⟩ := trodAll_cons r0
  obtain ⟨rfl, rfl, rfl⟩ := trodAll_nil r1
  obtain rfl : args = #[v0, v1] := by cases args; simp_all
  obtain ⟨rfl, rfl⟩ := trodVars_none hV
  have h0k := h0
  obtain ⟨l0, hev0⟩ := open_ints22 (hval 0 22 v0 rfl rfl) h0
  have h1k := h1
  obtain ⟨l1, hev1⟩ := open_ints22 (hval 1 22 v1 rfl rfl) h1
  clear hA0 hval0
  simp only [List.append_nil] at hW'
  refine (walk v0 l0 v1 l1 W hev0 hev1).mono fun e W' ⟨he, hg⟩ => ?_
  subst he
  exact ⟨_, rfl, _, _, _, [], _, [], hW', (trodAll_cons_mk (shut_bool Try.underlying4 _) trodAll_mk0), (trodAll_cons_mk (Below.trod laid read22 row22 h0k hg.below (fun x hx => by simpa using hW'.lt x (by simp [hx]))) (trodAll_cons_mk (Below.trod laid read22 row22 h1k hg.below (fun x hx => by simpa using hW'.lt x (by simp [hx]))) trodAll_mk0)), rfl, hg.below.frame _, fun h => by cases h⟩

theorem over : Rows.huffmanCostsRow.holds Try.pinned (OpenSpec.ofChange Rows.huffmanCostsSpec) :=
  OpenClaim.holds_of_wide 4 Try.f4 rfl rfl rfl rfl rfl rfl rfl ⟨rfl, rfl, rfl, rfl, rfl⟩ rfl rfl rfl rfl rfl (by kernel_rfl) Try.func4 (by kernel_rfl)
    (of_decide_eq_true (by kernel_rfl)) (by unfold Func.isWrapper; first | (rw [if_pos (by decide +kernel)]; kernel_rfl) | (rw [if_neg (by decide +kernel)]; exact ⟨rfl, rfl⟩))
    (fun os started H enc _ => lifted os started H enc)

theorem proved : Rows.HuffmanCostsSaid :=
  over
#print axioms proved
end Go.Proofs.Ythmhcnnigepohaa.huffmanCosts

