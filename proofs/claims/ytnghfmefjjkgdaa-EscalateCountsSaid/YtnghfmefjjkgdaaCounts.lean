/-
  Of n equal alerts within the quiet time, n at most 150, the first one has the severity, the 10th one level more, the 100th two, and exactly those that rise notify. Conditions: none.
-/
import Derived.Test.YtnghfmefjjkgdaaLives
import Derived.WalkKit
import Derived.ProofKit
import Derived.OpenShut
import Derived.Deep.LoopGhost
namespace Go.Proofs.Ytnghfmefjjkgdaa.escalateCounts
open Go.ChangeShapes Go.WideShapes Go.ChangeAt Go.RowKit

theorem ret_bool {b : Bool} (h : b = true) : Ending.returned (.bool b) = .returned (.bool true) := by rw [h]

theorem own : ownKnob Try.prog.godebug = none := by kernel_rfl

def want (p v : Int) (k : Nat) : Int := if k = 0 then 0 else sev p v + (if 100 ≤ k then 2 else if 10 ≤ k then 1 else 0)
def sub7 : Sub := ⟨7, ⟨#[]⟩, true, false, 0, 0⟩
def al7 (i p : Int) : Al := ⟨i, 7, p, false, 0, 0, zi, zi, zi, zi, .bool false, .int .u64 0, .int .u64 0, zi, zi, zi, zi, zi, zi, zi, .bool false⟩
/-- The book behind k alerts. -/
def cntBk (p v : Int) (k : Nat) : Bk := ⟨5, k, k, decide (0 < k), if k = 0 then [] else [(sub7, ⟨k, k, k, want p v k⟩)]⟩

theorem age_one (k : Nat) : stale 5 ((k : Int) + 1) k = false := by
  unfold stale age
  have e1 : IntKind.u64.wrap 5 = 5 := by decide
  have e2 : IntKind.u64.wrap (IntKind.u64.wrap ((k : Int) + 1) - IntKind.u64.wrap k) = 1 := by
    simp only [IntKind.wrap, IntKind.signed, IntKind.bits]
    simp
    omega
  rw [e1, e2]
  decide

theorem later_cnt (p v : Int) (k : Nat) : later (cntBk p v k).bg (cntBk p v k).nw ((k : Int) + 1) = (k : Int) + 1 := by
  unfold later
  rw [if_pos]
  by_cases hk : k = 0
  · left; simp [cntBk, hk]
  · right; simp [cntBk]; omega

theorem ent_cnt (p v : Int) (k : Nat) : (entOf 5 ((k : Int) + 1) (cntBk p v k).M sub7).level = want p v k ∧ (entOf 5 ((k : Int) + 1) (cntBk p v k).M sub7).count = k := by
  by_cases hk : k = 0
  · subst hk
    exact ⟨rfl, rfl⟩
  · have hm : mget (cntBk p v k).M sub7 = some ⟨k, k, k, want p v k⟩ := by
      simp [cntBk, hk, mget]
    unfold entOf
    rw [hm]
    dsimp only
    rw [age_one]
    exact ⟨rfl, rfl⟩

theorem step_cnt (p v : Int) (k : Nat) : stepM (cntBk p v k) ((k : Int) + 1) sub7 (alertLevel p v) = (want p v (k + 1), decide (want p v k < want p v (k + 1)), cntBk p v (k + 1)) := by
  have hb := sev_bd p v
  have hw : alertLevel p v ((k : Int) + 1) = want p v (k + 1) := by
    unfold alertLevel want
    simp
    omega
  have hle : want p v k ≤ want p v (k + 1) := by
    unfold want
    split <;> simp <;> omega
  obtain ⟨e1, e2⟩ := ent_cnt p v k
  have hq : (cntBk p v k).q = 5 := rfl
  have hr : sub7.rule = true := rfl
  have hput : ∀ e, mput (cntBk p v k).M sub7 e = [(sub7, e)] := by
    intro e
    by_cases hk : k = 0 <;> simp [cntBk, hk, mput]
  have hmax : max (want p v k) (want p v (k + 1)) = want p v (k + 1) := by omega
  simp only [stepM, later_cnt, hq, hr, if_true, e1, e2, hw, hput, entBehind, hmax]
  simp [cntBk]

theorem cnt_ok (p v : Int) (k : Nat) (h : k ≤ 1000) : (cntBk p v k).Ok := by
  refine ⟨⟨by simp [cntBk], by simp [cntBk]; omega⟩, fun q hq => ?_⟩
  by_cases hk : k = 0
  · subst hk; simp [cntBk] at hq
  · simp [cntBk, hk] at hq
    subst hq
    simp [cntBk]
    omega

theorem cnt_len (p v : Int) (k : Nat) : ((cntBk p v k).M.length : Int) = min k 1 := by
  by_cases hk : k = 0
  · subst hk; rfl
  · simp [cntBk, hk]
    omega

set_option maxRecDepth 100000 in
set_option maxHeartbeats 1000000 in
theorem walk (a0 a1 a2 : Int) (w : World) :
    Calls Try.prog 6 #[.int .i64 a0, .int .i64 a1, .int .i64 a2] w fun e w' => e = .returned (.bool true) ∧ Fr [] w w' := by
  by_cases h0 : a0 < 0
  · go_enter Try.func6, Try.ntmps6
    go_wp2_with (go_at_call 14; refine (lives_any _).mono ?_; rintro e w' ⟨rfl, hf⟩)
    go_ret
    exact ⟨rfl, hf⟩
  by_cases h1 : 150 < a0
  · go_enter Try.func6, Try.ntmps6
    go_wp2_with (go_at_call 14; refine (lives_any _).mono ?_; rintro e w' ⟨rfl, hf⟩)
    go_ret
    exact ⟨rfl, hf⟩
  obtain ⟨N, rfl⟩ : ∃ N : Nat, a0 = N := ⟨a0.toNat, by omega⟩
  have hN : N ≤ 150 := by omega
  have hs := fun W => sev_any a1 a2 W
  have hb := sev_bd a1 a2
  obtain ⟨s, hsv⟩ : ∃ s, s = sev a1 a2 := ⟨_, rfl⟩
  have HS := hide hs
  rw [← hsv] at HS hb
  have HSV := hide hsv
  clear hs hsv
  go_enter Try.func6, Try.ntmps6
  go_wp2_with (first | (go_at_call 14; refine (lives_any _).mono ?_; rintro e w1 ⟨rfl, hf1⟩) | (go_at_call 15; refine (new_bk 5 _).mono ?_; rintro e w2 ⟨rfl, hB2, hf2, hs2⟩; have HB2 := hide hB2; have HF2 := hide hf2; have HS2 := hide hs2; clear hB2 hf2 hs2) | (go_at_call 12; refine ((unhide HS) _).mono ?_; rintro e w' ⟨rfl, rfl⟩))
  go_loopg [9, 10] (N + 1) (fun gk last i wr => ∃ k : Nat, gk = N + 1 - k ∧ k ≤ N ∧ last = .int .i64 (want a1 a2 k) ∧ i = .int .i64 ((k : Int) + 1) ∧ BookIs wr (w1.heap.size + 1) w1.heap.size (cntBk a1 a2 k) ∧ Fr [] w wr)
  case atStart => exact ⟨0, by omega, by omega, rfl, rfl, HB2.out, hf1.andThen HF2.out (by simp)⟩
  case round =>
    obtain ⟨k, hgk, hk, rfl, rfl, hB, hfr⟩ := hrel
    have HB := hide hB
    have HFR := hide hfr
    have HGK := hide hgk
    have hle1 := hf1.size
    clear hB hfr hgk hf1
    by_cases hlt : k < N
    · have hal := hide (fun W (hW : BookIs W (w1.heap.size + 1) w1.heap.size (cntBk a1 a2 k)) => alert_any _ _ (al7 ((k : Int) + 1) a1) a2 _ W hW (cnt_ok a1 a2 k (by omega)))
      simp only [Al.cells, al7, zi] at hal
      obtain ⟨u, hu⟩ : ∃ u, u = want a1 a2 (k + 1) := ⟨_, rfl⟩
      obtain ⟨l, hl⟩ : ∃ l, l = want a1 a2 k := ⟨_, rfl⟩
      have hu2 : Hid (u = s + (if 99 ≤ k then 2 else if 9 ≤ k then 1 else 0)) := by
        show u = _
        rw [hu, HSV.out]
        simp [want]
      rw [← hl]
      have HU := hide hu
      have HLL := hide hl
      clear hu hl
      have hlu : l ≤ u := by
        rw [HU.out, HLL.out]
        have := sev_bd a1 a2
        unfold want
        split <;> simp <;> omega
      have hstep := hide (fun (n : Int) (t : Bool) (B' : Bk) (hE : Enters (cntBk a1 a2 k) ((k : Int) + 1) sub7 (alertLevel a1 a2) n t B') => (step3 hE (by have := cnt_len a1 a2 k; omega) (step_cnt a1 a2 k) : n = want a1 a2 (k + 1) ∧ t = decide (want a1 a2 k < want a1 a2 (k + 1)) ∧ B' = cntBk a1 a2 (k + 1)))
      rw [← HU.out, ← HLL.out] at hstep
      rcases (by omega : k < 9 ∨ (9 ≤ k ∧ k < 99) ∨ 99 ≤ k) with h | h | h
      · obtain rfl : u = s := by have := hu2.out; omega
        go_wp2_with (go_at_call 19; refine ((unhide hal) _ HB.out).mono ?_; rintro e w3 ⟨n, t, B', hE, rfl, hB', hf3⟩; obtain ⟨rfl, rfl, rfl⟩ := (unhide hstep) _ _ _ hE; have HE3 := hide hE; have HB3 := hide hB'; have HF3 := hide hf3; clear hE hB' hf3)
        all_goals
          go_roundg (N + 1 - (k + 1))
          case measure => have := HGK.out; omega
          case rel => exact ⟨k + 1, rfl, by omega, by rw [← HU.out] <;> first | rfl | (congr 1; omega), by go_num, HB3.out, HFR.out.andThen HF3.out (by simp; omega)⟩
      · obtain rfl : u = s + 1 := by have := hu2.out; omega
        go_wp2_with (go_at_call 19; refine ((unhide hal) _ HB.out).mono ?_; rintro e w3 ⟨n, t, B', hE, rfl, hB', hf3⟩; obtain ⟨rfl, rfl, rfl⟩ := (unhide hstep) _ _ _ hE; have HE3 := hide hE; have HB3 := hide hB'; have HF3 := hide hf3; clear hE hB' hf3)
        all_goals
          go_roundg (N + 1 - (k + 1))
          case measure => have := HGK.out; omega
          case rel => exact ⟨k + 1, rfl, by omega, by rw [← HU.out] <;> first | rfl | (congr 1; omega), by go_num, HB3.out, HFR.out.andThen HF3.out (by simp; omega)⟩
      · obtain rfl : u = s + 2 := by have := hu2.out; omega
        go_wp2_with (go_at_call 19; refine ((unhide hal) _ HB.out).mono ?_; rintro e w3 ⟨n, t, B', hE, rfl, hB', hf3⟩; obtain ⟨rfl, rfl, rfl⟩ := (unhide hstep) _ _ _ hE; have HE3 := hide hE; have HB3 := hide hB'; have HF3 := hide hf3; clear hE hB' hf3)
        all_goals
          go_roundg (N + 1 - (k + 1))
          case measure => have := HGK.out; omega
          case rel => exact ⟨k + 1, rfl, by omega, by rw [← HU.out] <;> first | rfl | (congr 1; omega), by go_num, HB3.out, HFR.out.andThen HF3.out (by simp; omega)⟩
    · have hkN : k = N := by omega
      subst hkN
      have hlen := hide (cnt_len a1 a2 k)
      have hmin : min (k : Int) 1 = min 1 (k : Int) := by omega
      go_wp2_with (go_at_call 18; refine (len_bk _ _ _ _ HB.out).mono ?_; rintro e w' ⟨rfl, rfl⟩)
      all_goals
        go_ret
        exact ⟨ret_bool (by rw [beq_iff_eq]; have := hlen.out; omega), HFR.out⟩

/-! ### The row -/
set_option maxRecDepth 100000 in
theorem lifted (os : Os) (started : os.Started) (H : Type) (enc : TypeId × Value → H) :
    ReturnsInHanded {} Try.checked os 6 .any (Rows.escalateCountsSpec.pre6 enc Try.prog Try.f6 Rows.escalateCountsRow.domain false) (Rows.escalateCountsSpec.post enc Try.prog Try.f6 false true false false) := by
  refine returnsInHanded_of_change (C := Try.checked) own started (by kernel_rfl) Try.func6
    (ChangeSpec.witness6 (enc := enc) (C := Try.checked) false ⟨#[], #[.int .i64 0, .int .i64 0, .int .i64 0], []⟩ 8 (by kernel_rfl) (by kernel_rfl) (by kernel_rfl) (by kernel_rfl)) ?_
  intro W base args ds gs before hval0 hW hcnd _
  have hval : ∀ (j : Nat) t v, Try.f6.params[j]? = some t → args[j]? = some v → Value.okWide Try.prog W .any base t v := hval0
  have hW' := hW
  obtain ⟨p, q, hA0, hV, rfl, hfz, hnd⟩ := hW
  have hA : DataW.TrodAll enc Try.prog W 0 (fun _ => true) true Try.f6.params.toList args.toList ds p := hA0
  rw [Try.params6] at hA hval
  obtain ⟨v0, vs0, d0, ds0, p0, q0, hargs, rfl, rfl, h0, r0⟩ := trodAll_cons hA
  obtain ⟨v1, vs1, d1, ds1, p1, q1, rfl, rfl, rfl, h1, r1⟩ := trodAll_cons r0
  obtain ⟨v2, vs2, d2, ds2, p2, q2, rfl, rfl, rfl, h2, r2⟩ := trodAll_cons r1
  obtain ⟨rfl, rfl, rfl⟩ := trodAll_nil r2
  obtain rfl : args = #[v0, v1, v2] := by cases args; simp_all
  obtain ⟨rfl, rfl⟩ := trodVars_none hV
  obtain ⟨a0, rfl, rfl, rfl, w0⟩ := open_int Try.underlying3 (hval 0 3 v0 rfl rfl) h0
  obtain ⟨a1, rfl, rfl, rfl, w1⟩ := open_int Try.underlying3 (hval 1 3 v1 rfl rfl) h1
  obtain ⟨a2, rfl, rfl, rfl, w2⟩ := open_int Try.underlying3 (hval 2 3 v2 rfl rfl) h2
  clear hA0 hval0
  simp only [List.append_nil] at hW'
  refine (walk a0 a1 a2 W).mono fun e W' ⟨he, hg⟩ => ?_
  subst he
  exact ⟨_, rfl, _, _, _, [], [], [], hW', (trodAll_cons_mk (shut_bool Try.underlying4 _) trodAll_mk0), (trodAll_cons_mk (shut_int Try.underlying3 w0) (trodAll_cons_mk (shut_int Try.underlying3 w1) (trodAll_cons_mk (shut_int Try.underlying3 w2) trodAll_mk0))), rfl, hg.below.frame _, fun h => by cases h⟩

theorem over : Rows.escalateCountsRow.holds Try.pinned (OpenSpec.ofChange Rows.escalateCountsSpec) :=
  OpenClaim.holds_of_wide 6 Try.f6 rfl rfl rfl rfl rfl rfl rfl ⟨rfl, rfl, rfl, rfl, rfl⟩ rfl rfl rfl rfl rfl (by kernel_rfl) Try.func6 (by kernel_rfl)
    (of_decide_eq_true (by kernel_rfl)) (by unfold Func.isWrapper; first | (rw [if_pos (by decide +kernel)]; kernel_rfl) | (rw [if_neg (by decide +kernel)]; exact ⟨rfl, rfl⟩))
    (fun os started H enc _ => lifted os started H enc)

theorem proved : Rows.EscalateCountsSaid :=
  over
#print axioms proved
end Go.Proofs.Ytnghfmefjjkgdaa.escalateCounts


