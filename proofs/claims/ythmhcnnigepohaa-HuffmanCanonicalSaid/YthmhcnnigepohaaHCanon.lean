/-
  For all lists of lengths, the codes are canonical. Conditions: none.
  (The row's frame began as the shell that the seat's proof-skeleton.mjs writes.)
-/
import Derived.Test.YthmhcnnigepohaaArg
import Derived.WalkKit
import Derived.ProofKit
import Derived.OpenShut
import Derived.Deep.LoopGhost
import Derived.Test.YthmhcnnigepohaaDcd
import Derived.BigQuiet
namespace Go.Proofs.Ythmhcnnigepohaa.huffmanCanonical
open Go.ChangeShapes Go.WideShapes Go.ChangeAt Go.RowKit

theorem own : ownKnob Try.prog.godebug = none := by kernel_rfl

/-- What the codes' reads give. -/
def Reads (L : List Nat) (la ca : Option Addr) (N : Nat) (w1 : World) : Prop :=
  ∀ k, k < N → ∃ x y, la = some x ∧ ca = some y ∧ (x.add k).block < w1.heap.size ∧ (y.add k).block < w1.heap.size ∧ w1.cell? (x.add k) = some (.int .i64 ((L.getD k 0 : Nat) : Int)) ∧ w1.cell? (y.add k) = some (.int .i64 ((code L k : Nat) : Int))
set_option maxRecDepth 100000 in
theorem check11_long (a : Option Addr) (n cap : Nat) (w : World) (h : 320 < n) (hn : n ≤ 9223372036854775807) :
    Calls Try.prog 11 #[.slice a n cap] w fun e w' => e = .returned (.int .i64 3) ∧ w = w' := by
  go_enter Try.func11, Try.ntmps11
  go_wp2
  go_ret
  exact ⟨rfl, rfl⟩
theorem pow_le15 (y : Nat) (h : y ≤ 15) : 2 ^ y ≤ 32768 := Nat.pow_le_pow_right (n := 2) (by omega) h

set_option maxRecDepth 100000 in
set_option maxHeartbeats 4000000 in
theorem walk_good (v : Value) (L : List Nat) (w : World) (h0 : IR w v (zI L)) (hL : ∀ x ∈ L, x ≤ 15) (hlen : L.length ≤ 60) (hkr : kr L ≤ 2 ^ 15) (hok : chk (zI L) = 0 ∨ chk (zI L) = 1) :
    Calls Try.prog 8 #[v] w fun e w' => e = .returned (.bool true) ∧ Fr [] w w' := by
  have HI0 := hide h0
  obtain ⟨a0, c0, rfl, _⟩ := h0
  rw [zI_len] at HI0 ⊢
  obtain ⟨n, hn⟩ : ∃ n, n = L.length := ⟨_, rfl⟩
  have HN := hide hn
  have HLEN := hide hlen
  rw [← hn] at hlen HI0 ⊢
  have HL := hide hL
  have HKR := hide hkr
  obtain ⟨q, hq⟩ : ∃ q, q = chk (zI L) := ⟨_, rfl⟩
  have HOK := hide hok
  have HQ := hide hq
  rw [← hq] at hok
  clear hn hL hkr hq
  have HLIM : Hid (∀ k, k < n → L.getD k 0 ≤ 15) := by
    show ∀ k, _ → _
    intro k hk
    have e : L.getD k 0 = L[k]'(by have := HN.out; omega) := by simp [List.getD, List.getElem?_eq_getElem (show k < L.length by have := HN.out; omega)]
    rw [e]; exact HL.out _ (List.getElem_mem _)
  go_enter Try.func8, Try.ntmps8
  rcases hok with rfl | rfl
  all_goals
    go_wp2_with fail
    refine (lives_any _).mono ?_
    rintro e w1 ⟨rfl, hf⟩
    have HF := hide hf
    have H1 := hide (check11_any _ (zI L) w1 (HI0.out.fr hf) (by rw [zI_len]; have := HLEN.out; omega))
    have H2 := hide (codes14_any _ (zI L) w1 (HI0.out.fr hf) (by rw [zI_len]; have := HLEN.out; omega))
    rw [← HQ.out] at H1
    rw [codesOf_ok HOK.out] at H2
    clear hf
    go_wp2_with fail
    refine (unhide H1).mono ?_
    rintro e w1 ⟨rfl, rfl⟩
    go_wp2_with fail
    refine (unhide H2).mono ?_
    rintro e w2 ⟨cv, rfl, hi, hf2⟩
    have HF2 := hide (HF.out.trans hf2)
    have HCI := hide hi
    obtain ⟨ca, cc, hcv, _⟩ := hi
    rw [codesI_len, ← HN.out] at hcv
    subst hcv
    have HCE : Hid (Reads L a0 ca n w2) := by
      show ∀ k, _ → _
      intro k hk
      obtain ⟨b1, p1, q1, r1⟩ := HI0.out.fr HF2.out
      obtain ⟨b2, p2, q2, r2⟩ := HCI.out
      injection q1 with q1 _ _
      injection q2 with q2 _ _
      obtain ⟨x, x1, x2⟩ := r1 k (by rw [zI_len]; have := HN.out; omega)
      obtain ⟨y, y1, y2⟩ := r2 k (by rw [codesI_len]; have := HN.out; omega)
      rw [zI_get] at x2
      rw [codesI_get L k (by have := HN.out; omega)] at y2
      exact ⟨x, y, by rw [q1, x1], by rw [q2, y1], World.block_lt_of_cell? w2 _ x2, World.block_lt_of_cell? w2 _ y2, x2, y2⟩
    clear hf2 H1 H2
    go_wp2_with fail
    go_loopg [5] (n + 1) (fun gk i wr => ∃ (k nd : Nat), gk = n + 1 - k ∧ k ≤ n ∧ i = .int .i64 k ∧ wr = w2.drewN nd)
    case atStart => exact ⟨0, 0, rfl, by omega, rfl, rfl⟩
    case round =>
      obtain ⟨k, nd, hgk, hk, rfl, rfl⟩ := hrel
      have HGK := hide hgk
      clear hgk
      by_cases hlt : k < n
      · obtain ⟨x1, y1, rfl, rfl, hxb, hyb, hx, hy⟩ := HCE.out k hlt
        have hy15 := HLIM.out k hlt
        have hfit : (L.getD k 0 = 0 ∧ code L k = 0) ∨ (0 < L.getD k 0 ∧ code L k < 2 ^ L.getD k 0) := by
          by_cases h0 : L.getD k 0 = 0
          · exact .inl ⟨h0, by unfold code; rw [if_pos h0]⟩
          · exact .inr ⟨by omega, code_fits HL.out HKR.out (by have := HN.out; omega) (by omega)⟩
        obtain ⟨y, hyd⟩ : ∃ y, y = L.getD k 0 := ⟨_, rfl⟩
        obtain ⟨cd, hcd⟩ : ∃ y, y = code L k := ⟨_, rfl⟩
        have HYD := hide hyd
        have HCD := hide hcd
        rw [← hyd, ← hcd] at hfit
        rw [← hyd] at hx hy15
        rw [← hcd] at hy
        have b0 : (0 : Int) ≤ (k : Int) ∧ (k : Int) < (n : Int) := by omega
        clear hyd hcd
        rcases hfit with ⟨rfl, rfl⟩ | ⟨h0, hc⟩
        · go_upto_region 12 with (fail)
          go_quiet (fail)
          go_wp2_with fail
          go_loopg [6] (n + 1) (fun gk i wr => ∃ (j nd : Nat), gk = n + 1 - j ∧ j ≤ n ∧ i = .int .i64 j ∧ wr = w2.drewN nd)
          case atStart => exact ⟨0, nd + _, rfl, by omega, rfl, World.drewN_drewN _ _ _⟩
          case round =>
            obtain ⟨j, nd2, hgj, hj, rfl, rfl⟩ := hrel
            have HGJ := hide hgj
            clear hgj
            by_cases hlt2 : j < n
            · have b1 : (0 : Int) ≤ (j : Int) ∧ (j : Int) < (n : Int) := by omega
              go_upto_region 17 with (fail)
              go_quiet (fail)
              go_wp2_with fail
              go_roundg (n + 1 - (j + 1))
              case measure => have := HGJ.out; omega
              case rel => exact ⟨j + 1, _, rfl, by omega, by go_num, rfl⟩
            · obtain rfl : j = n := by omega
              go_wp2_with fail
              go_roundg (j + 1 - (k + 1))
              case measure => have := HGK.out; omega
              case rel => exact ⟨k + 1, _, rfl, by omega, by go_num, rfl⟩
        · have g1 : ((y : Int) == 0) = false := by simp; omega
          have hpb := pow_le15 y hy15
          obtain ⟨P, hP⟩ : ∃ p : Nat, 2 ^ y = p := ⟨_, rfl⟩
          have hP2 : (2 : Int) ^ y = (P : Int) := by rw [← hP]; simp
          rw [hP] at hc hpb
          have HC := hide hc
          clear hP
          have s1 : (y : Int).toNat = y := by omega
          have s3 : IntKind.u64.wrap (y : Int) = (y : Int) := by rw [IntWalk.u64_in _ (by omega)]
          have s7 : IntKind.i64.wrap (P : Int) = (P : Int) := IntWalk.i64_in _ (by omega)
          have d8 : decide ((cd : Int) < 0) = false := by simp
          have d9 : decide (P ≤ cd) = false := by simp; omega
          go_upto_region 12 with (fail)
          go_quiet (fail)
          go_wp2_with fail
          clear hP2 s1 s3 s7 hc d8 d9
          go_loopg [6] (n + 1) (fun gk i wr => ∃ (j nd : Nat), gk = n + 1 - j ∧ j ≤ n ∧ i = .int .i64 j ∧ wr = w2.drewN nd)
          case atStart => exact ⟨0, nd + _, rfl, by omega, rfl, World.drewN_drewN _ _ _⟩
          case round =>
            obtain ⟨j, nd2, hgj, hj, rfl, rfl⟩ := hrel
            have HGJ := hide hgj
            clear hgj
            by_cases hlt2 : j < n
            · obtain ⟨x2, y2, hx2, hy2, hxb2, hyb2, hxj, hyj⟩ := HCE.out j hlt2
              injection hx2 with hx2
              injection hy2 with hy2
              subst hx2 hy2
              have hz15 := HLIM.out j hlt2
              have hcs : L.getD j 0 = 0 ∨ (0 < L.getD j 0 ∧ (k = j ∨ (k ≠ j ∧ (L.getD j 0 < y ∨ (y < L.getD j 0 ∧ cd < code L j / 2 ^ (L.getD j 0 - y)) ∨ (L.getD j 0 = y ∧ ((k < j ∧ cd < code L j) ∨ (j < k ∧ code L j < cd))))))) := by
                by_cases h2 : L.getD j 0 = 0
                · exact .inl h2
                refine .inr ⟨by omega, ?_⟩
                by_cases h3 : k = j
                · exact .inl h3
                refine .inr ⟨h3, ?_⟩
                have := HN.out
                have hyd := HYD.out
                rcases Nat.lt_trichotomy (L.getD j 0) y with h4 | h4 | h4
                · exact .inl h4
                · refine .inr (.inr ⟨h4, ?_⟩)
                  rw [HCD.out]
                  rcases Nat.lt_or_gt_of_ne h3 with h5 | h5
                  · exact .inl ⟨h5, code_next (by omega) (by omega) h5 (by omega)⟩
                  · exact .inr ⟨h5, code_next (by omega) (by omega) h5 (by omega)⟩
                · refine .inr (.inl ⟨h4, ?_⟩)
                  rw [HCD.out, hyd]
                  exact code_apart HL.out (by omega) (by omega) (by omega) (by omega)
              have hcdb : code L j ≤ 20000000 := by
                unfold code
                split
                · omega
                · have h1 := fst_le HL.out (L.getD j 0) hz15
                  have h2 := pre_le L (L.getD j 0) j
                  have := HN.out
                  omega
              obtain ⟨z, hzd⟩ : ∃ y, y = L.getD j 0 := ⟨_, rfl⟩
              obtain ⟨ce, hce⟩ : ∃ y, y = code L j := ⟨_, rfl⟩
              rw [← hzd, ← hce] at hcs
              rw [← hzd] at hxj hz15
              rw [← hce] at hyj hcdb
              have b1 : (0 : Int) ≤ (j : Int) ∧ (j : Int) < (n : Int) := by omega
              clear hzd hce
              rcases hcs with rfl | ⟨hz0, hcs⟩
              · go_upto_region 17 with (fail)
                go_quiet (fail)
                go_wp2_with fail
                go_roundg (n + 1 - (j + 1))
                case measure => have := HGJ.out; omega
                case rel => exact ⟨j + 1, _, rfl, by omega, by go_num, rfl⟩
              have g2 : ((z : Int) == 0) = false := by simp; omega
              rcases hcs with rfl | ⟨hkj, hcs⟩
              · go_upto_region 17 with (fail)
                go_quiet (fail)
                go_wp2_with fail
                go_roundg (n + 1 - (k + 1))
                case measure => have := HGJ.out; omega
                case rel => exact ⟨k + 1, _, rfl, by omega, by go_num, rfl⟩
              have g3 : ((k : Int) == (j : Int)) = false := by simp; omega
              clear hkj
              rcases hcs with hcs | ⟨h4, h5⟩ | ⟨hzy, h4⟩
              · go_upto_region 17 with (fail)
                go_quiet (fail)
                go_wp2_with fail
                go_roundg (n + 1 - (j + 1))
                case measure => have := HGJ.out; omega
                case rel => exact ⟨j + 1, _, rfl, by omega, by go_num, rfl⟩
              · have s1 : ((z : Int) - (y : Int)).toNat = z - y := by omega
                have s2 : (0 : Int) ≤ (z : Int) - (y : Int) ∧ (z : Int) - (y : Int) ≤ 15 := by omega
                have s3 : IntKind.u64.wrap ((z : Int) - (y : Int)) = (z : Int) - (y : Int) := by rw [IntWalk.u64_in _ (by omega)]
                have s4 : IntKind.i64.wrap ((z : Int) - (y : Int)) = (z : Int) - (y : Int) := IntWalk.i64_in _ (by omega)
                obtain ⟨qq, hqq⟩ : ∃ x : Nat, x = ce / 2 ^ (z - y) := ⟨_, rfl⟩
                have s5 : (ce : Int) / 2 ^ (z - y) = (qq : Int) := by rw [hqq]; simp
                rw [← hqq] at h5
                have s6 : decide (qq ≤ cd) = false := by simp; omega
                clear hqq
                go_upto_region 17 with (fail)
                go_quiet (fail)
                go_upto_region 18 with (fail)
                go_quiet (fail)
                go_wp2_with fail
                go_roundg (n + 1 - (j + 1))
                case measure => have := HGJ.out; omega
                case rel => exact ⟨j + 1, _, rfl, by omega, by go_num, rfl⟩
              · have s1 : ((z : Int) - (y : Int)).toNat = z - y := by omega
                have s2 : (0 : Int) ≤ (z : Int) - (y : Int) ∧ (z : Int) - (y : Int) ≤ 15 := by omega
                have s3 : IntKind.u64.wrap ((z : Int) - (y : Int)) = (z : Int) - (y : Int) := by rw [IntWalk.u64_in _ (by omega)]
                have s4 : IntKind.i64.wrap ((z : Int) - (y : Int)) = (z : Int) - (y : Int) := IntWalk.i64_in _ (by omega)
                obtain ⟨qq, hqq⟩ : ∃ x : Nat, x = ce / 2 ^ (z - y) := ⟨_, rfl⟩
                have s5 : (ce : Int) / 2 ^ (z - y) = (qq : Int) := by rw [hqq]; simp
                have hqc : qq = ce := by rw [hqq, hzy]; simp
                clear hqq
                have s9 : ¬ (z : Int) < (y : Int) := by omega
                have s7 : decide (y < z) = false := by simp; omega
                rcases h4 with ⟨h4, h5⟩ | ⟨h4, h5⟩
                · have s6 : decide (qq ≤ cd) = false := by simp; omega
                  clear hzy hqc
                  go_upto_region 17 with (fail)
                  go_quiet (fail)
                  go_upto_region 18 with (fail)
                  go_quiet (fail)
                  go_wp2_with fail
                  go_roundg (n + 1 - (j + 1))
                  case measure => have := HGJ.out; omega
                  case rel => exact ⟨j + 1, _, rfl, by omega, by go_num, rfl⟩
                · have s6 : decide (qq ≤ cd) = true := by simp; omega
                  have s8 : decide (k < j) = false := by simp; omega
                  clear hzy hqc
                  go_upto_region 17 with (fail)
                  go_quiet (fail)
                  go_upto_region 18 with (fail)
                  go_quiet (fail)
                  go_wp2_with fail
                  go_roundg (n + 1 - (j + 1))
                  case measure => have := HGJ.out; omega
                  case rel => exact ⟨j + 1, _, rfl, by omega, by go_num, rfl⟩
            · obtain rfl : j = n := by omega
              go_wp2_with fail
              go_roundg (j + 1 - (k + 1))
              case measure => have := HGK.out; omega
              case rel => exact ⟨k + 1, _, rfl, by omega, by go_num, rfl⟩
      · obtain rfl : k = n := by omega
        go_wp2
        go_ret
        exact ⟨rfl, HF2.out.drewN _⟩

set_option maxRecDepth 100000 in
set_option maxHeartbeats 2000000 in
theorem walk (v : Value) (l : List Int) (w : World) (hev : IR w v l ∧ l.length ≤ 9223372036854775807) :
    Calls Try.prog 8 #[v] w fun e w' => e = .returned (.bool true) ∧ Fr [] w w' := by
  obtain ⟨hir, hLL⟩ := hev
  by_cases hgood : l.length ≤ 60 ∧ (chk l = 0 ∨ chk l = 1)
  · obtain ⟨hl60, hok⟩ := hgood
    obtain ⟨L, rfl, hL, hlen, hks⟩ := chk_ok hok
    rw [ks_all L hL] at hks
    exact walk_good v L w hir hL (by rw [zI_len] at hl60; exact hl60) (by omega) hok
  have H0 := hide hir
  obtain ⟨a, cap, rfl, _⟩ := hir
  obtain ⟨n, hn⟩ : ∃ n, n = l.length := ⟨_, rfl⟩
  obtain ⟨q, hq⟩ : ∃ q, q = chk l := ⟨_, rfl⟩
  rw [← hn, ← hq] at hgood
  rw [← hn] at hLL H0 ⊢
  have HN := hide hn
  have HQ := hide hq
  by_cases hbig : 60 < n
  · by_cases hlong : 320 < n
    · clear hn hq hgood
      go_enter Try.func8, Try.ntmps8
      go_wp2_with fail
      refine (lives_any _).mono ?_
      rintro e w1 ⟨rfl, hf⟩
      have HF := hide hf
      clear hf
      go_wp2_with fail
      refine (check11_long _ _ _ _ hlong hLL).mono ?_
      rintro e w1 ⟨rfl, rfl⟩
      go_wp2
      go_ret
      exact ⟨rfl, HF.out⟩
    · clear hn hq hgood
      go_enter Try.func8, Try.ntmps8
      go_wp2_with fail
      refine (lives_any _).mono ?_
      rintro e w1 ⟨rfl, hf⟩
      have HF := hide hf
      have H1 := hide (check11_any _ l w1 (H0.out.fr hf) (by have := HN.out; omega))
      rw [← HQ.out] at H1
      clear hf
      go_wp2_with fail
      refine (unhide H1).mono ?_
      rintro e w1 ⟨rfl, rfl⟩
      go_wp2
      go_ret
      exact ⟨rfl, HF.out⟩
  · have d1 : (q != 0) = true := by simp; omega
    have d2 : (q != 1) = true := by simp; omega
    clear hn hq hgood
    go_enter Try.func8, Try.ntmps8
    go_wp2_with fail
    refine (lives_any _).mono ?_
    rintro e w1 ⟨rfl, hf⟩
    have HF := hide hf
    have H1 := hide (check11_any _ l w1 (H0.out.fr hf) (by have := HN.out; omega))
    rw [← HQ.out] at H1
    clear hf
    go_wp2_with fail
    refine (unhide H1).mono ?_
    rintro e w1 ⟨rfl, rfl⟩
    go_wp2
    go_ret
    exact ⟨rfl, HF.out⟩
/-! ### The row -/
set_option maxRecDepth 100000 in
theorem lifted (os : Os) (started : os.Started) (H : Type) (enc : TypeId × Value → H) :
    ReturnsInHanded {} Try.checked os 8 .any (Rows.huffmanCanonicalSpec.pre6 enc Try.prog Try.f8 Rows.huffmanCanonicalRow.domain false) (Rows.huffmanCanonicalSpec.post enc Try.prog Try.f8 false true false false) := by
  refine returnsInHanded_of_change (C := Try.checked) own started (by kernel_rfl) Try.func8
    (ChangeSpec.witness6 (enc := enc) (C := Try.checked) false ⟨#[], #[.slice none 0 0], []⟩ 8 (by kernel_rfl) (by kernel_rfl) (by kernel_rfl) (by kernel_rfl)) ?_
  intro W base args ds gs before hval0 hW hcnd _
  have hval : ∀ (j : Nat) t v, Try.f8.params[j]? = some t → args[j]? = some v → Value.okWide Try.prog W .any base t v := hval0
  have hW' := hW
  obtain ⟨p, q, hA0, hV, rfl, hfz, hnd⟩ := hW
  have hA : DataW.TrodAll enc Try.prog W 0 (fun _ => true) true Try.f8.params.toList args.toList ds p := hA0
  rw [Try.params8] at hA hval
  obtain ⟨v0, vs0, d0, ds0, p0, q0, hargs, rfl, rfl, h0, r0⟩ := trodAll_cons hA
  obtain ⟨rfl, rfl, rfl⟩ := trodAll_nil r0
  obtain rfl : args = #[v0] := by cases args; simp_all
  obtain ⟨rfl, rfl⟩ := trodVars_none hV
  have h0k := h0
  obtain ⟨l0, hev0⟩ := open_ints22 (hval 0 22 v0 rfl rfl) h0
  clear hA0 hval0
  simp only [List.append_nil] at hW'
  refine (walk v0 l0 W hev0).mono fun e W' ⟨he, hg⟩ => ?_
  subst he
  exact ⟨_, rfl, _, _, _, [], _, [], hW', (trodAll_cons_mk (shut_bool Try.underlying4 _) trodAll_mk0), (trodAll_cons_mk (Below.trod laid read22 row22 h0k hg.below (fun x hx => by simpa using hW'.lt x (by simp [hx]))) trodAll_mk0), rfl, hg.below.frame _, fun h => by cases h⟩

theorem over : Rows.huffmanCanonicalRow.holds Try.pinned (OpenSpec.ofChange Rows.huffmanCanonicalSpec) :=
  OpenClaim.holds_of_wide 8 Try.f8 rfl rfl rfl rfl rfl rfl rfl ⟨rfl, rfl, rfl, rfl, rfl⟩ rfl rfl rfl rfl rfl (by kernel_rfl) Try.func8 (by kernel_rfl)
    (of_decide_eq_true (by kernel_rfl)) (by unfold Func.isWrapper; first | (rw [if_pos (by decide +kernel)]; kernel_rfl) | (rw [if_neg (by decide +kernel)]; exact ⟨rfl, rfl⟩))
    (fun os started H enc _ => lifted os started H enc)

theorem proved : Rows.HuffmanCanonicalSaid :=
  over
#print axioms proved
end Go.Proofs.Ythmhcnnigepohaa.huffmanCanonical

