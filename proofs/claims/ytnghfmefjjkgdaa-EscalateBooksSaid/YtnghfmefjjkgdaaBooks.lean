/-
  For at most 60 alerts and cases, the levels, notifications and numbers of subjects are those of the reference. Conditions: none.
-/
import Derived.Test.YtnghfmefjjkgdaaArg
import Derived.WalkKit
import Derived.ProofKit
import Derived.OpenShut
import Derived.Deep.LoopGhost
namespace Go.Proofs.Ytnghfmefjjkgdaa.escalateBooks
open Go.ChangeShapes Go.WideShapes Go.ChangeAt Go.RowKit

theorem own : ownKnob Try.prog.godebug = none := by kernel_rfl

set_option maxRecDepth 100000 in
set_option maxHeartbeats 1000000 in
theorem walk (a0 : Int) (a : Option Addr) (L cap : Nat) (ev : Nat → Ev) (w : World) (hev : EvsAt w a L ev) :
    Calls Try.prog 4 #[.int .i64 a0, .slice a L cap] w fun e w' => e = .returned (.bool true) ∧ Fr [] w w' := by
  have HEV := hide hev
  clear hev
  by_cases hbad : 60 < L
  · go_enter Try.func4, Try.ntmps4
    go_wp2_with (first | (go_at_call 14; refine (lives_any _).mono ?_; rintro e w3 ⟨rfl, hf3⟩; have HF3 := hide hf3; clear hf3) | (go_at_call 15; refine (new_bk a0 _).mono ?_; rintro e w1 ⟨rfl, hB1, hf1, hs1⟩; have HF1 := hide hf1; clear hB1 hf1 hs1) | (go_at_call 16; refine (rnew_any a0 _).mono ?_; rintro e w2 ⟨rfl, hB2, hf2, hs2⟩; have HF2 := hide hf2; clear hB2 hf2 hs2))
    all_goals first
      | (go_ret; exact ⟨rfl, (HF1.out.trans HF2.out).trans HF3.out⟩)
      | (exfalso; omega)
  go_enter Try.func4, Try.ntmps4
  go_wp2_with (first | (go_at_call 15; refine (new_bk a0 _).mono ?_; rintro e w1 ⟨rfl, hB1, hf1, hs1⟩; have HB1 := hide hB1; have HF1 := hide hf1; have HS1 := hide hs1; clear hB1 hf1 hs1) | (go_at_call 16; refine (rnew_any a0 _).mono ?_; rintro e w2 ⟨rfl, hB2, hf2, hs2⟩; have HF2 := hide hf2; have HB2 := hide hB2; clear hB2 hf2 hs2))
  obtain ⟨pb, hpb⟩ : ∃ pb, pb = w.heap.size + 1 := ⟨_, rfl⟩
  obtain ⟨rp, hrp⟩ : ∃ rp, rp = w1.heap.size := ⟨_, rfl⟩
  have HBO := hide (both_new a0 HB1.out HB2.out HF2.out rfl)
  rw [← hpb, ← hrp] at HBO ⊢
  have HPB := hide hpb
  have HRP := hide hrp
  clear hpb hrp
  go_loopg [7] (L + 1) (fun gk i wr => ∃ k : Nat, gk = L + 1 - k ∧ k ≤ L ∧ i = .int .i64 k ∧ BothIs wr pb w.heap.size rp k ∧ Fr [] w wr)
  case atStart => exact ⟨0, by omega, by omega, rfl, ⟨_, _, _, _, HBO.out, rfl⟩, HF1.out.trans HF2.out⟩
  case round =>
    obtain ⟨k, hgk, hk, rfl, ⟨v, g, B, R, hboth, hcl⟩, hfr⟩ := hrel
    have HGK := hide hgk
    have HBT := hide hboth
    have HCL := hide hcl
    have HFR := hide hfr
    clear hgk hboth hcl hfr
    by_cases hlt : k < L
    · have hle := hide (lawenter_any pb w.heap.size rp v g B R (ev k) _ HBT.out (by rw [HCL.out]; omega))
      obtain ⟨b, off, rfl, hcs⟩ := (HEV.out.keep HFR.out.below.block) (by omega)
      have HCS := hide (fun j u hj => (by rw [Addr.add_lit]; exact hcs k hlt j u hj : wr.cell? ((⟨b, off + k * 34, none⟩ : Addr).add j) = some u))
      clear hcs
      go_wp2_with (first | ((with_reducible refine wpList_load_agg rfl 41 (.tmp 30) rfl ⟨b, off + k * 34, none⟩ (ev k).cells _ ?_ Try.underlying41 ?_ ?_ HCS.out ?_); rfl; rfl; exact size41) | (go_at_call 17; refine (unhide hle).mono ?_; rintro e w3 ⟨rfl, hb3, hf3⟩; have HB3 := hide hb3; have HF3 := hide hf3; clear hb3 hf3))
      go_roundg (L + 1 - (k + 1))
      case measure => have := HGK.out; omega
      case rel =>
        have hb3 := HB3.out
        rw [HCL.out] at hb3
        have hs1 := HF1.out.size
        exact ⟨k + 1, rfl, by omega, by go_num, hb3, HFR.out.andThen HF3.out (by have := HPB.out; have := HRP.out; simp; omega)⟩
    · go_wp2_with (first | (go_at_call 14; refine (lives_any _).mono ?_; rintro e w3 ⟨rfl, hf3⟩; have HF3 := hide hf3; clear hf3))
      all_goals
        go_ret
        exact ⟨rfl, HFR.out.trans HF3.out⟩
/-! ### The row -/
set_option maxRecDepth 100000 in
theorem lifted (os : Os) (started : os.Started) (H : Type) (enc : TypeId × Value → H) :
    ReturnsInHanded {} Try.checked os 4 .any (Rows.escalateBooksSpec.pre6 enc Try.prog Try.f4 Rows.escalateBooksRow.domain false) (Rows.escalateBooksSpec.post enc Try.prog Try.f4 false true false false) := by
  refine returnsInHanded_of_change (C := Try.checked) own started (by kernel_rfl) Try.func4
    (ChangeSpec.witness6 (enc := enc) (C := Try.checked) false ⟨#[], #[.int .i64 0, .slice none 0 0], []⟩ 8 (by kernel_rfl) (by kernel_rfl) (by kernel_rfl) (by kernel_rfl)) ?_
  intro W base args ds gs before hval0 hW hcnd _
  have hval : ∀ (j : Nat) t v, Try.f4.params[j]? = some t → args[j]? = some v → Value.okWide Try.prog W .any base t v := hval0
  have hW' := hW
  obtain ⟨p, q, hA0, hV, rfl, hfz, hnd⟩ := hW
  have hA : DataW.TrodAll enc Try.prog W 0 (fun _ => true) true Try.f4.params.toList args.toList ds p := hA0
  rw [Try.params4] at hA hval
  obtain ⟨v0, vs0, d0, ds0, p0, q0, hargs, rfl, rfl, h0, r0⟩ := trodAll_cons hA
  obtain ⟨v1, vs1, d1, ds1, p1, q1, rfl, rfl, rfl, h1, r1⟩ := trodAll_cons r0
  obtain ⟨rfl, rfl, rfl⟩ := trodAll_nil r1
  obtain rfl : args = #[v0, v1] := by cases args; simp_all
  obtain ⟨rfl, rfl⟩ := trodVars_none hV
  obtain ⟨a0, rfl, rfl, rfl, w0⟩ := open_int Try.underlying3 (hval 0 3 v0 rfl rfl) h0
  have h1k := h1
  obtain ⟨a1, L1, cap1, ev1, rfl, hev1⟩ := open_evs (hval 1 25 v1 rfl rfl) h1
  clear hA0 hval0
  simp only [List.append_nil] at hW'
  refine (walk a0 a1 L1 cap1 ev1 W hev1).mono fun e W' ⟨he, hg⟩ => ?_
  subst he
  exact ⟨_, rfl, _, _, _, [], _, [], hW', (trodAll_cons_mk (shut_bool Try.underlying4 _) trodAll_mk0), (trodAll_cons_mk (shut_int Try.underlying3 w0) (trodAll_cons_mk (Below.trod laid read25 row25 h1k hg.below (fun x hx => by simpa using hW'.lt x (by simp [hx]))) trodAll_mk0)), rfl, hg.below.frame _, fun h => by cases h⟩

theorem over : Rows.escalateBooksRow.holds Try.pinned (OpenSpec.ofChange Rows.escalateBooksSpec) :=
  OpenClaim.holds_of_wide 4 Try.f4 rfl rfl rfl rfl rfl rfl rfl ⟨rfl, rfl, rfl, rfl, rfl⟩ rfl rfl rfl rfl rfl (by kernel_rfl) Try.func4 (by kernel_rfl)
    (of_decide_eq_true (by kernel_rfl)) (by unfold Func.isWrapper; first | (rw [if_pos (by decide +kernel)]; kernel_rfl) | (rw [if_neg (by decide +kernel)]; exact ⟨rfl, rfl⟩))
    (fun os started H enc _ => lifted os started H enc)

theorem proved : Rows.EscalateBooksSaid :=
  over
#print axioms proved
end Go.Proofs.Ytnghfmefjjkgdaa.escalateBooks

