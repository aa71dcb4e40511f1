/-
  For at most 40 frequencies, and for more than 320, Lengths returns a complete code as specified, at the reference's cost. Conditions: none.
  (The row's frame began as the shell that the seat's proof-skeleton.mjs writes.)
-/
import Derived.Test.YthmhcnnigepohaaArg
import Derived.WalkKit
import Derived.ProofKit
import Derived.OpenShut
import Derived.Deep.LoopGhost
import Derived.Test.YthmhcnnigepohaaLaw
import Derived.Test.YthmhcnnigepohaaRlen
namespace Go.Proofs.Ythmhcnnigepohaa.huffmanLengths
open Go.ChangeShapes Go.WideShapes Go.ChangeAt Go.RowKit

theorem own : ownKnob Try.prog.godebug = none := by kernel_rfl

/-- What is asked of the answer. -/
theorem facts (F : List Int) (most : Int) (hN : F.length ≤ 400) :
    (lensOf F most).length ≤ F.length ∧ chk (lensOf F most) = 0 ∧ ∀ i, i < (lensOf F most).length → 0 ≤ (lensOf F most).getD i 0 ∧ (lensOf F most).getD i 0 ≤ lim most 1 15 ∧ (0 < (lensOf F most).getD i 0 ↔ 0 < F.getD i 0) := by
  have hM := lim_m most
  by_cases hb : 320 < F.length ∨ 2 ^ (lim most 1 15).toNat < (leavesAt F 0).length
  · have h0 : lensOf F most = [] := by unfold lensOf; rw [if_pos hb]
    rw [h0]
    exact ⟨by simp, by decide, fun i hi => by simp at hi⟩
  · have hc : (leavesAt F 0).length ≤ 2 ^ (lim most 1 15).toNat := by omega
    have hl : F.length ≤ 320 := by omega
    have h1 : 1 ≤ (lim most 1 15).toNat := by omega
    have h2 : (lim most 1 15).toNat ≤ 15 := by omega
    rw [lensOf_eq F most hl hc, chk_lensN F _ h1 h2 hl hc, zI_len, lensN_len]
    refine ⟨Nat.le_refl _, rfl, fun i hi => ?_⟩
    rw [zI_get]
    have h3 := lensN_le F _ h1 hc i hi
    have h4 := lensN_pos F _ h1 hc i hi
    exact ⟨by omega, by omega, by rw [← h4]; omega⟩

set_option maxRecDepth 100000 in
set_option maxHeartbeats 4000000 in
theorem walk_big (v0 : Value) (F : List Int) (most : Int) (w : World) (h0 : IR w v0 F) (hL : F.length ≤ 9223372036854775807) (hb : 400 < F.length ∨ (40 < F.length ∧ F.length < 321)) :
    Calls Try.prog 5 #[v0, .int .i64 most] w fun e w' => e = .returned (.bool true) ∧ Fr [] w w' := by
  obtain ⟨a0, c0, rfl, _⟩ := h0
  obtain ⟨n, hn⟩ : ∃ n, n = F.length := ⟨_, rfl⟩
  rw [← hn] at hb hL ⊢
  clear hn
  rcases hb with h1 | ⟨h1, h2⟩
  all_goals
    go_enter Try.func5, Try.ntmps5
    go_wp2_with fail
    refine (lives_any _).mono ?_
    rintro e w1 ⟨rfl, hf⟩
    have HF := hide hf
    clear hf
    go_wp2
    go_ret
    exact ⟨rfl, HF.out⟩

set_option maxRecDepth 100000 in
set_option maxHeartbeats 4000000 in
theorem walk_main (v0 : Value) (F : List Int) (most : Int) (w : World) (h0 : IR w v0 F) (hs : F.length ≤ 40 ∨ (321 ≤ F.length ∧ F.length ≤ 400)) :
    Calls Try.prog 5 #[v0, .int .i64 most] w fun e w' => e = .returned (.bool true) ∧ Fr [] w w' := by
  have HI0 := hide h0
  obtain ⟨a0, c0, rfl, _⟩ := h0
  obtain ⟨n, hn⟩ : ∃ n, n = F.length := ⟨_, rfl⟩
  have HN := hide hn
  have H18 := hide (lengths18_any _ F most w HI0.out (by omega))
  have hfacts := facts F most (by omega)
  obtain ⟨r, hr⟩ : ∃ r, r = lensOf F most := ⟨_, rfl⟩
  have HR := hide hr
  obtain ⟨M, hM⟩ : ∃ M, M = lim most 1 15 := ⟨_, rfl⟩
  have hMb := lim_m most
  obtain ⟨mx, m1⟩ : ∃ mx, (if most < 1 then 1 else most) = mx := ⟨_, rfl⟩
  have m2 : (if 15 < mx then 15 else mx) = M := by rw [hM, ← m1]; unfold lim; omega
  rw [← hr, ← hM] at hfacts
  rw [← hr] at H18
  rw [← hM] at hMb
  obtain ⟨f1, f2, f3⟩ := hfacts
  obtain ⟨m, hm⟩ : ∃ m, m = r.length := ⟨_, rfl⟩
  rw [← hn, ← hm] at f1
  have HRM := hide hm
  have HCHK := hide f2
  have HFAC := hide f3
  have HM1 := hide m1
  have HM2 := hide m2
  rw [← hn] at HI0 H18 hs ⊢
  clear hn hr hM hm f2 f3 m1 m2
  have hL : (n : Int) ≤ 400 := by omega
  rcases hs with hs | ⟨hs, hs'⟩
  all_goals
    go_enter Try.func5, Try.ntmps5
    go_wp2_with fail
    refine (unhide H18).mono ?_
    rintro e w1 ⟨va, rfl, hi, hf⟩
    have HF := hide hf
    have HI1 := hide hi
    obtain ⟨aa, ca, hv, _⟩ := hi
    rw [← HRM.out] at hv
    subst hv
    have h19 := rlengths19_any _ F most w1 (HI0.out.fr hf) (by have := HN.out; omega)
    rw [← HR.out] at h19
    have H19 := hide h19
    clear hf h19
    go_wp2_with fail
    refine (unhide H19).mono ?_
    rintro e w2 ⟨vb, rfl, hi, hf⟩
    have HF2 := hide (HF.out.trans hf)
    have HI2 := hide hi
    obtain ⟨ab, cb, hv, _⟩ := hi
    rw [← HRM.out] at hv
    subst hv
    have HI1b := hide (HI1.out.fr hf)
    have HC : Hid (∀ k, k < m → ∃ x y, aa = some x ∧ a0 = some y ∧ (x.add k).block < w2.heap.size ∧ (y.add k).block < w2.heap.size ∧ w2.cell? (x.add k) = some (.int .i64 (r.getD k 0)) ∧ w2.cell? (y.add k) = some (.int .i64 (F.getD k 0))) := by
      show ∀ k, _ → _
      intro k hk
      obtain ⟨b1, p1, q1, r1⟩ := HI1b.out
      obtain ⟨b2, p2, q2, r2⟩ := HI0.out.fr HF2.out
      injection q1 with q1 _ _
      injection q2 with q2 _ _
      obtain ⟨x, x1, x2⟩ := r1 k (by have := HRM.out; omega)
      obtain ⟨y, y1, y2⟩ := r2 k (by have := HN.out; omega)
      exact ⟨x, y, by rw [q1, x1], by rw [q2, y1], World.block_lt_of_cell? w2 _ x2, World.block_lt_of_cell? w2 _ y2, x2, y2⟩
    have HM64 : Hid (m ≤ 400) := hide (by omega)
    clear hf
    go_wp2_with fail
    go_loopg [7] (m + 1) (fun gk i wr => ∃ (k : Nat), gk = m + 1 - k ∧ k ≤ m ∧ i = .int .i64 k ∧ ∃ n, wr = w2.drewN n)
    case atStart => exact ⟨0, rfl, by omega, rfl, 0, rfl⟩
    case round =>
      obtain ⟨k, hgk, hk, rfl, nd, rfl⟩ := hrel
      have HGK := hide hgk
      clear hgk
      by_cases hlt : k < m
      · obtain ⟨x, z, rfl, rfl, hxb, hzb, hx, hz⟩ := HC.out k hlt
        obtain ⟨g1, g2, g3⟩ := HFAC.out k (by have := HRM.out; omega)
        obtain ⟨y, hy⟩ : ∃ y, y = r.getD k 0 := ⟨_, rfl⟩
        obtain ⟨f, hf⟩ : ∃ y, y = F.getD k 0 := ⟨_, rfl⟩
        rw [← hy] at hx g1 g2 g3
        rw [← hf] at hz g3
        have m1 := HM1.out
        have m2 := HM2.out
        have b0 : (0 : Int) ≤ (k : Int) ∧ (k : Int) < (m : Int) := by omega
        have b1 : (0 : Int) ≤ (k : Int) ∧ (k : Int) < (n : Int) := by omega
        have d1 : decide (y < 0) = false := by simp; omega
        have d2 : decide (M < y) = false := by simp; omega
        have hcs : (decide (0 < y) = true ∧ decide (0 < f) = true) ∨ (decide (0 < y) = false ∧ decide (0 < f) = false) := by
          by_cases h : 0 < y
          · exact .inl ⟨by simpa using h, by simpa using g3.1 h⟩
          · exact .inr ⟨by simpa using h, by simpa using fun h2 => h (g3.2 h2)⟩
        clear hy hf g1 g2 g3
        rcases hcs with ⟨d3, d4⟩ | ⟨d3, d4⟩
        all_goals
          go_upto_region 9 with (fail)
          go_quiet (fail)
          go_wp2_with fail
          go_roundg (m + 1 - (k + 1))
          case measure => have := HGK.out; omega
          case rel => exact ⟨k + 1, rfl, by omega, by go_num, _, rfl⟩
      · obtain rfl : k = m := by omega
        have hck := check11_any _ r (w2.drewN nd) (HI1b.out.fr ((Fr.refl _ _).drewN nd)) (by have := HRM.out; have := HM64.out; omega)
        rw [HCHK.out] at hck
        have H1 := hide hck
        have H17 := hide (rcost17_any _ _ F r (w2.drewN nd) (HI0.out.fr (HF2.out.drewN nd)) (HI1b.out.fr ((Fr.refl _ _).drewN nd)) (by have := HN.out; omega) (by have := HRM.out; have := HM64.out; omega))
        obtain ⟨c, hc⟩ : ∃ c, c = cost F r := ⟨_, rfl⟩
        rw [← hc] at H17
        have HCO := hide hc
        clear hck hc
        go_wp2_with fail
        refine (unhide H1).mono ?_
        rintro e w3 ⟨rfl, rfl⟩
        go_wp2_with fail
        refine (unhide H17).mono ?_
        rintro e w4 ⟨rfl, hf4⟩
        have HF4 := hide ((HF2.out.drewN nd).trans hf4)
        have H17b := hide (rcost17_any _ _ F r w4 (HI0.out.fr HF4.out) (HI2.out.fr (((Fr.refl _ _).drewN nd).trans hf4)) (by have := HN.out; omega) (by have := HRM.out; have := HM64.out; omega))
        rw [← HCO.out] at H17b
        clear hf4
        go_wp2_with fail
        refine (unhide H17b).mono ?_
        rintro e w5 ⟨rfl, hf5⟩
        have HF5 := hide (HF4.out.trans hf5)
        clear hf5
        go_wp2_with fail
        refine (lives_any _).mono ?_
        rintro e w6 ⟨rfl, hf6⟩
        have HF6 := hide (HF5.out.trans hf6)
        clear hf6
        go_wp2
        go_ret
        exact ⟨rfl, HF6.out⟩

theorem walk (v0 : Value) (F : List Int) (most : Int) (w : World) (hev0 : IR w v0 F ∧ F.length ≤ 9223372036854775807) :
    Calls Try.prog 5 #[v0, .int .i64 most] w fun e w' => e = .returned (.bool true) ∧ Fr [] w w' := by
  by_cases hb : 400 < F.length ∨ (40 < F.length ∧ F.length < 321)
  · exact walk_big v0 F most w hev0.1 hev0.2 hb
  · exact walk_main v0 F most w hev0.1 (by omega)
/-! ### The row -/
set_option maxRecDepth 100000 in
theorem lifted (os : Os) (started : os.Started) (H : Type) (enc : TypeId × Value → H) :
    ReturnsInHanded {} Try.checked os 5 .any (Rows.huffmanLengthsSpec.pre6 enc Try.prog Try.f5 Rows.huffmanLengthsRow.domain false) (Rows.huffmanLengthsSpec.post enc Try.prog Try.f5 false true false false) := by
  refine returnsInHanded_of_change (C := Try.checked) own started (by kernel_rfl) Try.func5
    (ChangeSpec.witness6 (enc := enc) (C := Try.checked) false ⟨#[], #[.slice none 0 0, .int .i64 0], []⟩ 8 (by kernel_rfl) (by kernel_rfl) (by kernel_rfl) (by kernel_rfl)) ?_
  intro W base args ds gs before hval0 hW hcnd _
  have hval : ∀ (j : Nat) t v, Try.f5.params[j]? = some t → args[j]? = some v → Value.okWide Try.prog W .any base t v := hval0
  have hW' := hW
  obtain ⟨p, q, hA0, hV, rfl, hfz, hnd⟩ := hW
  have hA : DataW.TrodAll enc Try.prog W 0 (fun _ => true) true Try.f5.params.toList args.toList ds p := hA0
  rw [Try.params5] at hA hval
  obtain ⟨v0, vs0, d0, ds0, p0, q0, hargs, rfl, rfl, h0, r0⟩ := trodAll_cons hA
  obtain ⟨v1, vs1, d1, ds1, p1, q1, rfl, rfl, rfl, h1, r1⟩ := trodAll_cons r0
  obtain ⟨rfl, rfl, rfl⟩ := trodAll_nil r1
  obtain rfl : args = #[v0, v1] := by cases args; simp_all
  obtain ⟨rfl, rfl⟩ := trodVars_none hV
  have h0k := h0
  obtain ⟨l0, hev0⟩ := open_ints22 (hval 0 22 v0 rfl rfl) h0
  obtain ⟨a1, rfl, rfl, rfl, w1⟩ := open_int Try.underlying3 (hval 1 3 v1 rfl rfl) h1
  clear hA0 hval0
  simp only [List.append_nil] at hW'
  refine (walk v0 l0 a1 W hev0).mono fun e W' ⟨he, hg⟩ => ?_
  subst he
  exact ⟨_, rfl, _, _, _, [], _, [], hW', (trodAll_cons_mk (shut_bool Try.underlying4 _) trodAll_mk0), (trodAll_cons_mk (Below.trod laid read22 row22 h0k hg.below (fun x hx => by simpa using hW'.lt x (by simp [hx]))) (trodAll_cons_mk (shut_int Try.underlying3 w1) trodAll_mk0)), rfl, hg.below.frame _, fun h => by cases h⟩

theorem over : Rows.huffmanLengthsRow.holds Try.pinned (OpenSpec.ofChange Rows.huffmanLengthsSpec) :=
  OpenClaim.holds_of_wide 5 Try.f5 rfl rfl rfl rfl rfl rfl rfl ⟨rfl, rfl, rfl, rfl, rfl⟩ rfl rfl rfl rfl rfl (by kernel_rfl) Try.func5 (by kernel_rfl)
    (of_decide_eq_true (by kernel_rfl)) (by unfold Func.isWrapper; first | (rw [if_pos (by decide +kernel)]; kernel_rfl) | (rw [if_neg (by decide +kernel)]; exact ⟨rfl, rfl⟩))
    (fun os started H enc _ => lifted os started H enc)

theorem proved : Rows.HuffmanLengthsSaid :=
  over
#print axioms proved
end Go.Proofs.Ythmhcnnigepohaa.huffmanLengths

