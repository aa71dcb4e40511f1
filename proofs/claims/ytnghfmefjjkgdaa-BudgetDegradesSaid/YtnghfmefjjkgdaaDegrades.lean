/-
  The law BudgetDegrades: features are given up in order, and after eviction at most the total is in use, the least valuable owners first (up to 30 accounts; longer lists: the statement's own example). Conditions: none.
  (The row's frame began as the shell that the seat's proof-skeleton.mjs writes.)
-/
import Derived.Test.YtnghfmefjjkgdaaDegLaw
import Derived.Deep.LoopGhost
import Derived.Deep.DeepCutAuto
import Derived.Deep.QuietTactic
import Derived.BigQuiet
import Derived.Deep.RegionWith
import Derived.Test.YtnghfmefjjkgdaaRows
import Derived.WalkKit
import Derived.ProofKit
import Derived.OpenShut
import Derived.ShutString
import Derived.ChangeOld
import Derived.Below
namespace Go.Proofs.Ytnghfmefjjkgdaa.budgetDegrades
open Go.ChangeShapes Go.WideShapes Go.ChangeAt Go.RowKit
open Go.ChangeMaps (open_string shut_string)
set_option linter.unusedVariables false

theorem own : ownKnob Try.prog.godebug = none := by kernel_rfl
theorem laidOut : laidOutB Try.prog = true := by kernel_rfl

/-- WHAT THE WALK IS TOLD OF A SLICE OF INTEGERS THAT CAME IN: it is nil; or it leads to a row of 'cap' cells, the numbers 'zs' (the first 'len' are its elements, the rest its spare room), each fitting its kind. -/
def IsRow (k : IntKind) (w : World) (a : Option Addr) (len cap : Nat) (zs : List Int) : Prop :=
  (a = none ∧ len = 0 ∧ cap = 0 ∧ zs = []) ∨
  ∃ x, a = some x ∧ len ≤ cap ∧ cap ≤ maxLen ∧ zs.length = cap ∧ (∀ i, i < zs.length → w.cell? (x.add i) = some (.int k (zs.getD i 0))) ∧ ∀ n ∈ zs, (Lit.int k n).wf = true

/-- The elements of such a slice, wherever only new blocks came. -/
theorem IsRow.els {k : IntKind} {w : World} {a : Option Addr} {len cap : Nat} {zs : List Int} (h : IsRow k w a len cap zs) :
    (∃ f : Nat → Int, ∀ (W : World) i, Fr [] w W → i < len → ∃ x, a = some x ∧ W.cell? (x.add i) = some (.int k (f i)) ∧ k.min ≤ f i ∧ f i ≤ k.max) ∧ len ≤ 9223372036854775807 := by
  rcases h with ⟨rfl, rfl, rfl, rfl⟩ | ⟨x, rfl, hl, hm, hz, hc, hwf⟩
  · exact ⟨⟨fun _ => 0, fun W i _ hi => by omega⟩, by omega⟩
  · refine ⟨⟨fun i => zs.getD i 0, fun W i hf hi => ⟨x, rfl, ?_, ?_⟩⟩, by unfold maxLen at hm; omega⟩
    · have h1 := hc i (by omega)
      rw [World.cell?_of_block (w := w) (hf.block _ (World.block_lt_of_cell? w _ h1) (by simp))]
      exact h1
    · have h1 : zs.getD i 0 ∈ zs := by
        rw [List.getD_eq_getElem?_getD, List.getElem?_eq_getElem (by omega)]
        exact List.getElem_mem _
      simpa [Lit.wf] using hwf _ h1

def GoneIs (w : World) (G : Nat) (gone : Nat → Bool) : Prop := ∃ cs, w.heap[G]? = some (.cells cs 64 (0, 0)) ∧ cs.size = 32 ∧ ∀ i, i < 32 → cs[i]? = some (.bool (gone i))
theorem GoneIs.keep {w w' : World} {G : Nat} {gone : Nat → Bool} (h : GoneIs w G gone) (e : w'.heap[G]? = w.heap[G]?) : GoneIs w' G gone := by
  obtain ⟨cs, h1, h2⟩ := h
  exact ⟨cs, e.trans h1, h2⟩
theorem GoneIs.fr {S : List Nat} {w w' : World} {G : Nat} {gone : Nat → Bool} (h : GoneIs w G gone) (hf : Fr S w w') (hn : G ∉ S) : GoneIs w' G gone := by
  obtain ⟨cs, h1, h2⟩ := h
  exact GoneIs.keep ⟨cs, h1, h2⟩ (hf.block _ (lt_of_blk h1) hn)
theorem GoneIs.at_ {w : World} {G : Nat} {gone : Nat → Bool} (h : GoneIs w G gone) (i : Nat) (hi : i < 32) : w.cell? ⟨G, i, none⟩ = some (.bool (gone i)) ∧ w.frozen? ⟨G, i, none⟩ = false ∧ G < w.heap.size := by
  obtain ⟨cs, h1, h2, h3⟩ := h
  exact ⟨by rw [cell_blk h1]; exact h3 i hi, froz_blk h1 _, lt_of_blk h1⟩
theorem GoneIs.set {w : World} {G : Nat} {gone : Nat → Bool} (h : GoneIs w G gone) (v : Nat) : GoneIs (w.setCell ⟨G, v, none⟩ (.bool true)) G (fun i => if i = v then true else gone i) := by
  obtain ⟨cs, h1, h2, h3⟩ := h
  refine ⟨_, heap_set_same h1, by simpa using h2, fun i hi => ?_⟩
  rw [Array.getElem?_setIfInBounds]
  by_cases hv : v = i
  · subst hv
    rw [if_pos rfl, if_pos (by omega)]
    simp
  · rw [if_neg hv, h3 i hi]
    dsimp only
    rw [if_neg (fun e => hv e.symm)]

/-! ### STEP 1: THE WALK: the Go text returns true, AND WRITES NOTHING THAT WAS THERE: 'Below w.heap.size w w'' (Derived/Below.lean: '.refl', '.alloc', '.drew', '.setCell' at a new block, '.trans'). Open each 'IsRow' by 'rcases' AHEAD of 'go_enter'; part every test ahead of the walk. -/
set_option maxRecDepth 100000 in
set_option maxHeartbeats 1000000 in
theorem walk (a0 : Int) (a1 : Option Addr) (len1 cap1 : Nat) (z1 : List Int) (a2 : Option Addr) (len2 cap2 : Nat) (z2 : List Int) (w : World) (w0 : (Lit.int .u16 a0).wf = true) (w1 : IsRow .u16 w a1 len1 cap1 z1) (w2 : IsRow .u8 w a2 len2 cap2 z2) :
    Calls Try.prog 10 #[.int .u16 a0, .slice a1 len1 cap1, .slice a2 len2 cap2] w fun e w' => e = .returned (.bool true) ∧ Below w.heap.size w w' := by
  have ha0 : 0 ≤ a0 ∧ a0 ≤ 65535 := by
    have h : IntKind.u16.min ≤ a0 ∧ a0 ≤ IntKind.u16.max := by simpa [Lit.wf] using w0
    exact h
  obtain ⟨⟨z, hz0⟩, hl1⟩ := w1.els
  obtain ⟨⟨q, hq0⟩, hl2⟩ := w2.els
  have hz : ∀ (W : World) i, Fr [] w W → i < len1 → ∃ x, a1 = some x ∧ W.cell? (x.add i) = some (.int .u16 (z i)) ∧ 0 ≤ z i ∧ z i ≤ 65535 := hz0
  have hq : ∀ (W : World) i, Fr [] w W → i < len2 → ∃ x, a2 = some x ∧ W.cell? (x.add i) = some (.int .u8 (q i)) ∧ 0 ≤ q i ∧ q i ≤ 255 := hq0
  clear w0 w1 w2 hz0 hq0
  by_cases hbig : 30 < len1 ∨ len2 < len1
  · go_enter Try.func10, Try.ntmps10
    go_wp2_with (go_at_call 21; refine (awake_any _).mono ?_; rintro e w' ⟨rfl, hf⟩)
    all_goals first
      | (exfalso; omega)
      | (go_ret; exact ⟨rfl, hf.below⟩)
      | skip
  obtain ⟨most, hmost⟩ : ∃ m, m = 1024 + a0 := ⟨_, rfl⟩
  have hmb : 1024 ≤ most ∧ most ≤ 66559 := by omega
  have HMO := hide hmost
  have HZ := hide hz
  have HQ := hide hq
  have hb1 : len1 ≤ 30 ∧ len1 ≤ len2 := by omega
  clear hz hq hbig
  go_enter Try.func10, Try.ntmps10
  go_wp2_with fail
  rw [← HMO.out]
  refine (pnew_any most _).mono ?_
  rintro e w1 ⟨rfl, hp1, hf1, hs1⟩
  have hT0 : (pl0 most).total = most := by simp [pl0]; omega
  have HT0 := hide hT0
  have HF1 := hide hf1
  have HP1 := hide hp1
  clear hp1 hf1 hT0
  have hS : ∀ x ∈ [w.heap.size + 1, w.heap.size], x ∈ ([] : List Nat) ∨ w.heap.size ≤ x := by simp
  go_wp2_with fail
  go_loopg [9] (len1 + 1) (fun gk i wr => ∃ (k : Nat) (p : Pl), gk = len1 + 1 - k ∧ k ≤ len1 ∧ i = .int .i64 k ∧ PoolIs wr (w.heap.size + 1) w.heap.size p ∧ Fr [] w wr ∧ PInv p k ∧ Pref p.off ∧ p.total = most ∧ Has p z q (fun _ => false) k)
  case atStart =>
    exact ⟨0, pl0 most, rfl, by omega, rfl, HP1.out, HF1.out, PInv.start _, fun i h1 h2 h3 => by simp [pl0] at h3, HT0.out, fun x a => by simp [pl0]⟩
  case round =>
    obtain ⟨k, p, hgk, hk, rfl, hp, hfr, inv, hpref, htot, hhas⟩ := hrel
    have HGK := hide hgk
    have HPR := hide hpref
    have HTO := hide htot
    have HHAS := hide hhas
    have HFR := hide hfr
    have HP := hide hp
    have HINV := hide inv
    clear hgk hpref htot hhas hfr hp inv
    by_cases hlt : k < len1
    · obtain ⟨x1, rfl, hc1, hz1⟩ := HZ.out wr k HFR.out hlt
      obtain ⟨x2, rfl, hc2, hq1⟩ := HQ.out wr k HFR.out (by omega)
      have hx1 := World.block_lt_of_cell? wr _ hc1
      have hx2 := World.block_lt_of_cell? wr _ hc2
      have hmod : 0 ≤ (q k).tmod 4 ∧ (q k).tmod 4 ≤ 3 := by rw [Int.tmod_eq_emod_of_nonneg hq1.1]; omega
      obtain ⟨p', hp'⟩ : ∃ p', p' = setPl p ((k : Int) + 1) (z k) ((q k).tmod 4) := ⟨_, rfl⟩
      have HNEW : Hid (PInv p' (k + 1) ∧ Pref p'.off ∧ p'.total = most ∧ Has p' z q (fun _ => false) (k + 1)) := by
        show _ ∧ _
        rw [hp']
        exact ⟨HINV.out.set _ _ _, pref_setPl HPR.out (by rw [HTO.out]; omega) _ _ _, by rw [total_set]; exact HTO.out, HHAS.out.put HINV.out hz1 hq1⟩
      have HS : Hid (Calls Try.prog 24 #[.pointer (some ⟨w.heap.size + 1, 0, none⟩), .int .i64 ((k : Int) + 1), .int .i64 (z k), .int .i64 ((q k).tmod 4)] wr.drew fun e w' => e = .returned (.tuple #[]) ∧ PoolIs w' (w.heap.size + 1) w.heap.size p' ∧ Fr [w.heap.size + 1, w.heap.size] wr.drew w') := by
        show Calls _ _ _ _ _
        rw [hp']
        exact pset_any _ _ p _ _ _ _ (HP.out.keep rfl rfl) (HINV.out.ok (by omega))
      obtain ⟨zk, hzk⟩ : ∃ x, x = z k := ⟨_, rfl⟩
      obtain ⟨qk, hqk⟩ : ∃ x, x = q k := ⟨_, rfl⟩
      rw [← hqk, ← hzk] at HS
      rw [← hzk] at hc1 hz1
      rw [← hqk] at hc2 hq1 hmod
      have HWQ : Hid (IntKind.i64.wrap qk = qk) := IntWalk.i64_in _ (by omega)
      have HWZ : Hid (IntKind.i64.wrap zk = zk) := IntWalk.i64_in _ (by omega)
      clear hzk hqk hp'
      go_upto_region 10 with (fail)
      go_cut [] from 37 to 53 (fun wd => PoolIs wd (w.heap.size + 1) w.heap.size p' ∧ Fr [] w wd)
      case first =>
        go_region_with (go_at_call 24; (try rw [HWQ.out]); (try rw [HWZ.out]); with_reducible refine (unhide HS).mono ?_; rintro e w' ⟨rfl, hp2, hf2⟩)
        all_goals
          go_wp2
          go_meet
          case rel => exact ⟨hp2, (HFR.out.drew).andThen hf2 hS⟩
      case rest =>
      obtain ⟨hp2, hf2⟩ := hcut
      have HP2 := hide hp2
      have HF2 := hide hf2
      have HPR2 := hide HNEW.out.2.1
      clear hp2 hf2 hc1 hc2 hx1 hx2 hmod
      go_wp2_with fail
      go_loopg [10] 7 (fun gk f wq => ∃ g : Nat, gk = 7 - g ∧ g ≤ 6 ∧ f = .int .i64 ((g : Int) + 1) ∧ wc = wq)
      case atStart => exact ⟨0, rfl, by omega, rfl, rfl⟩
      case round =>
        obtain ⟨g, hgk2, hg6, rfl, rfl⟩ := hrel
        have HGK2 := hide hgk2
        clear hgk2
        by_cases hlt2 : g < 6
        · have HO := hide (poff_any _ _ p' ((g : Int) + 1) wc HP2.out)
          have HR := hide (ppressure_any _ _ p' wc HP2.out)
          have hof : isOff p' ((g : Int) + 1) = decide (g + 1 ≤ pcnt p' 6) := by
            rw [← pref_off HPR2.out (g + 1) (by omega) (by omega)]
            unfold isOff
            rw [decide_eq_true (by omega), decide_eq_true (by omega)]
            simp
          rw [hof] at HO
          have hple := pcnt_le p' 6
          obtain ⟨pc, hpc⟩ : ∃ x, x = pcnt p' 6 := ⟨_, rfl⟩
          rw [← hpc] at HO HR hple
          clear hof hpc
          by_cases hcmp : g + 1 ≤ pc
          · have hd : decide ((g : Int) + 1 ≤ (pc : Int)) = true := decide_eq_true (by omega)
            rw [decide_eq_true hcmp] at HO
            go_wp2_with (first | (go_at_call 40; with_reducible refine (unhide HO).mono ?_; rintro e w' ⟨rfl, rfl⟩) | (go_at_call 34; with_reducible refine (unhide HR).mono ?_; rintro e w' ⟨rfl, rfl⟩))
            go_roundg (7 - (g + 1))
            case measure => have := HGK2.out; omega
            case rel => exact ⟨g + 1, rfl, by omega, by go_num, rfl⟩
          · have hd : decide ((g : Int) + 1 ≤ (pc : Int)) = false := decide_eq_false (by omega)
            rw [decide_eq_false hcmp] at HO
            go_wp2_with (first | (go_at_call 40; with_reducible refine (unhide HO).mono ?_; rintro e w' ⟨rfl, rfl⟩) | (go_at_call 34; with_reducible refine (unhide HR).mono ?_; rintro e w' ⟨rfl, rfl⟩))
            go_roundg (7 - (g + 1))
            case measure => have := HGK2.out; omega
            case rel => exact ⟨g + 1, rfl, by omega, by go_num, rfl⟩
        · go_wp2_with fail
          all_goals
            go_roundg (len1 + 1 - (k + 1))
            case measure => have := HGK.out; omega
            case rel => exact ⟨k + 1, p', rfl, by omega, by go_num, HP2.out, HF2.out, HNEW.out⟩
    · have hk1 : k = len1 := by omega
      subst hk1
      go_wp2_with fail
      obtain ⟨G, hG⟩ : ∃ G, G = wr.heap.size := ⟨_, rfl⟩
      have hGlt : w.heap.size + 1 < G := by have := lt_of_blk HP.out.blk; omega
      have HG := hide hG
      rw [← hG]
      clear hG
      go_loopg [12] (k + 1) (fun gk n wq => ∃ (it : Nat) (p : Pl) (gone : Nat → Bool), gk = k + 1 - it ∧ it ≤ k ∧ n = .int .i64 it ∧ PoolIs wq (w.heap.size + 1) w.heap.size p ∧ Fr [] w wq ∧ PInv p (k + it) ∧ p.total = most ∧ Has p z q gone k ∧ p.M.length + it ≤ k ∧ GoneIs wq G gone)
      case atStart =>
        refine ⟨0, p, fun _ => false, rfl, by omega, rfl, HP.out.fr ((Fr.refl [] wr).alloc _) (by simp) (by simp), HFR.out.alloc _, HINV.out, HTO.out, HHAS.out, HINV.out.len, ⟨_, heap_alloc_eq HG.out, by simp, ?_⟩⟩
        intro i hi
        show (Array.replicate 32 (Value.bool false))[i]? = some (Value.bool false)
        rw [Array.getElem?_replicate, if_pos hi]
      case round =>
        obtain ⟨it, p, gone, hgk, hk, rfl, hp, hfr, inv, htot, hhas, hlen, hgone⟩ := hrel
        have HGK := hide hgk
        have HTO := hide htot
        have HHAS := hide hhas
        have HFR := hide hfr
        have HP := hide hp
        have HINV := hide inv
        have HLEN := hide hlen
        have HGO := hide hgone
        have HV := hide (pvictim_any _ _ p _ wr hp inv)
        clear hgk htot hhas hfr hp inv hlen hgone
        go_wp2_with fail
        refine (unhide HV).mono ?_
        rintro e w2 ⟨v, rfl, hv, hf2⟩
        have HF2 := hide (HFR.out.andThen hf2 (by simp))
        have HP2 := hide (HP.out.fr hf2 (by simp) (by simp))
        have HGO2 := hide (HGO.out.fr hf2 (by simp))
        have hvi := vic_is HHAS.out hv
        have HU := hide (pused_any _ _ p w2 HP2.out)
        clear hv hf2 HV
        rcases hvi with ⟨rfl, hu⟩ | ⟨i, hi, rfl, hzi, hgi, hlt, ⟨av, hav⟩, hw⟩
        · have hu2 : p.used ≤ 1024 + a0 := by have := HTO.out; have := HMO.out; omega
          have HA := hide (awake_any w2)
          clear hu
          go_wp2_with (first | (go_at_call 30; with_reducible refine (unhide HU).mono ?_; rintro e w' ⟨rfl, rfl⟩) | (go_at_call 21; with_reducible refine (unhide HA).mono ?_; rintro e w' ⟨rfl, hfa⟩))
          go_ret
          exact ⟨rfl, (HF2.out.andThen hfa (by simp)).below⟩
        · have hu2 : 1024 + a0 < p.used := by have := HTO.out; have := HMO.out; omega
          have HAV := hide hav
          have HW := hide hw
          have HZI := hide hzi
          have HGI := hide hgi
          obtain ⟨x1, rfl, hc1, hz1⟩ := HZ.out w2 i HF2.out hi
          obtain ⟨x2, rfl, hc2, hq1⟩ := HQ.out w2 i HF2.out (by omega)
          obtain ⟨cG, fG, lG⟩ := HGO2.out.at_ (i + 1) (by omega)
          rw [hgi] at cG
          have hzi2 : ((z i) == 0) = false := by simpa using hzi
          obtain ⟨zi, hzi3⟩ : ∃ x, x = z i := ⟨_, rfl⟩
          rw [← hzi3] at hc1 hz1 hzi2
          have HZ3 := hide hzi3
          have hi1 : ((i + 1 : Nat) : Int) = (i : Int) + 1 := by omega
          rw [hi1]
          clear hav hw hzi hgi hlt hzi3
          go_wp2_with ((go_at_call 30; with_reducible refine (unhide HU).mono ?_; rintro e w' ⟨rfl, rfl⟩))
          have HC1 := hide hc1
          have HC2 := hide hc2
          clear hc1 hc2 cG fG
          go_loopg [14] (k + 1) (fun gk f wq => ∃ (j nd : Nat), gk = k + 1 - j ∧ j ≤ k ∧ f = .int .i64 ((j : Int) + 1) ∧ wq = w2.drewN nd)
          case atStart => exact ⟨0, 0, rfl, by omega, rfl, rfl⟩
          case round =>
            obtain ⟨j, nd, hgk2, hj, rfl, rfl⟩ := hrel
            have HGK2 := hide hgk2
            clear hgk2
            have hc2 : w2.cell? (x2.add i) = some (.int .u8 (q i)) := HC2.out
            by_cases hjl : j < k
            · obtain ⟨y1, e1, hd1, hzj⟩ := HZ.out w2 j HF2.out hjl
              obtain ⟨y2, e2, hd2, hqj⟩ := HQ.out w2 j HF2.out (by omega)
              obtain rfl : x1 = y1 := by injection e1
              obtain rfl : x2 = y2 := by injection e2
              have cg : w2.cell? ⟨G, j + 1, none⟩ = some (.bool (gone (j + 1))) := (HGO2.out.at_ (j + 1) (by omega)).1
              have HWj := hide (HW.out j hjl)
              obtain ⟨zj, hzj3⟩ : ∃ x, x = z j := ⟨_, rfl⟩
              obtain ⟨qj, hqj3⟩ : ∃ x, x = q j := ⟨_, rfl⟩
              obtain ⟨qi, hqi3⟩ : ∃ x, x = q i := ⟨_, rfl⟩
              obtain ⟨gj, hgj3⟩ : ∃ x, x = gone (j + 1) := ⟨_, rfl⟩
              rw [← hzj3] at hd1 hzj HWj
              rw [← hqj3] at hd2 hqj HWj
              rw [← hqi3] at hc2 hq1 HWj
              rw [← hgj3] at cg HWj
              clear hzj3 hqj3 hqi3 hgj3 e1 e2
              have hb2 : (0 : Int) ≤ (j : Int) + 1 ∧ (j : Int) + 1 < 32 := by omega
              have hb3 : (0 : Int) ≤ (j : Int) ∧ (j : Int) < (k : Int) := by omega
              have hb4 : (0 : Int) ≤ (j : Int) ∧ (j : Int) < (len2 : Int) := by omega
              have hb5 : (0 : Int) ≤ (i : Int) ∧ (i : Int) < (len2 : Int) := by omega
              cases gj
              · by_cases hz0 : zj = 0
                · subst hz0
                  clear HWj
                  go_upto_region 28 with (fail)
                  go_quiet (fail)
                  go_wp2
                  go_roundg (k + 1 - (j + 1))
                  case measure => have := HGK2.out; omega
                  case rel => exact ⟨j + 1, _, rfl, by omega, by go_num, rfl⟩
                · have hd0 : decide (0 < zj) = true := decide_eq_true (by omega)
                  have hd3 : decide (qj % 4 < qi % 4) = false := decide_eq_false (by have h := HWj.out rfl hz0; rw [Int.tmod_eq_emod_of_nonneg hqj.1, Int.tmod_eq_emod_of_nonneg hq1.1] at h; omega)
                  clear HWj hz0
                  go_upto_region 28 with (fail)
                  go_quiet (fail)
                  go_wp2
                  go_roundg (k + 1 - (j + 1))
                  case measure => have := HGK2.out; omega
                  case rel => exact ⟨j + 1, _, rfl, by omega, by go_num, rfl⟩
              · go_upto_region 28 with (fail)
                go_quiet (fail)
                go_wp2
                go_roundg (k + 1 - (j + 1))
                case measure => have := HGK2.out; omega
                case rel => exact ⟨j + 1, _, rfl, by omega, by go_num, rfl⟩
            · clear hc2
              obtain rfl : j = k := by omega
              obtain ⟨cG, fG, lG2⟩ := HGO2.out.at_ (i + 1) (by omega)
              have hb2 : (0 : Int) ≤ (i : Int) + 1 ∧ (i : Int) + 1 < 32 := by omega
              obtain ⟨W3, hW3⟩ : ∃ W3, W3 = (w2.drewN nd).setCell ⟨G, i + 1, none⟩ (.bool true) := ⟨_, rfl⟩
              have hP3 : PoolIs W3 (w.heap.size + 1) w.heap.size p := by
                rw [hW3]
                exact HP2.out.keep (heap_set_other (by simp; omega)) (heap_set_other (by simp; omega))
              have HF3 : Hid (Fr [] w W3) := by
                show Fr [] w W3
                rw [hW3]
                exact ((HF2.out).drewN nd).setCell (.inr (by simp; omega)) _
              have HGO3 : Hid (GoneIs W3 G (fun x => if x = i + 1 then true else gone x)) := by
                show GoneIs W3 G _
                rw [hW3]
                exact (HGO2.out.keep rfl).set (i + 1)
              have HS := hide (pset_any _ _ p ((i : Int) + 1) 0 0 W3 hP3 (HINV.out.ok (by omega)))
              have hl3 : W3.heap.size = w2.heap.size := by rw [hW3]; simp
              have HW3 := hide hW3
              clear hP3 hW3
              have hb : ¬ setBad ((i + 1 : Nat) : Int) 0 0 = true := by
                unfold setBad
                simp only [decide_eq_true_eq]
                omega
              have hld := len_del hb HAV.out
              have hpos : 1 ≤ p.M.length := by
                have := List.length_pos_of_mem HAV.out
                omega
              have hln := HLEN.out
              have hdel := HHAS.out.del HINV.out (v := i + 1) (by omega)
              rw [hi1] at hld hdel
              have HLD := hide hld
              have HDEL := hide hdel
              have HIT : Hid (it + 1 ≤ j ∧ (setPl p ((i : Int) + 1) 0 0).M.length + (it + 1) ≤ j) := by
                show _ ∧ _
                omega
              clear hb hld hpos hln hdel
              go_wp2_with fail
              rw [← HW3.out]
              refine (unhide HS).mono ?_
              rintro e w4 ⟨rfl, hp4, hf4⟩
              have HP4 := hide hp4
              have HF4 := hide (HF3.out.andThen hf4 hS)
              have HGO4 := hide (HGO3.out.fr hf4 (by simp; omega))
              clear hp4 hf4
              go_wp2_with fail
              go_roundg (j + 1 - (it + 1))
              case measure => have := HGK.out; have := HIT.out; omega
              case rel => exact ⟨it + 1, _, _, rfl, HIT.out.1, by go_num, HP4.out, HF4.out, HINV.out.set _ _ _, by rw [total_set]; exact HTO.out, HDEL.out, HIT.out.2, HGO4.out⟩

/-! ### THE ROW's STEP: WRITTEN OUT: LEAVE IT -/
set_option maxRecDepth 100000 in
theorem lifted (os : Os) (started : os.Started) (H : Type) (enc : TypeId × Value → H) :
    ReturnsInHanded {} Try.checked os 10 .any (Rows.budgetDegradesSpec.pre6 enc Try.prog Try.f10 Rows.budgetDegradesRow.domain false) (Rows.budgetDegradesSpec.post enc Try.prog Try.f10 false true false false) := by
  refine returnsInHanded_of_change (C := Try.checked) own started (by kernel_rfl) Try.func10
    (ChangeSpec.witness6 (enc := enc) (C := Try.checked) false ⟨#[], #[.int .u16 0, .slice none 0 0, .slice none 0 0], []⟩ 8 (by kernel_rfl) (by kernel_rfl) (by kernel_rfl) (by kernel_rfl)) ?_
  intro W base args ds gs before hval0 hW hcnd _
  have hval : ∀ (j : Nat) t v, Try.f10.params[j]? = some t → args[j]? = some v → Value.okWide Try.prog W .any base t v := hval0
  have hW' := hW
  obtain ⟨p, q, hA0, hV, rfl, hfz, hnd⟩ := hW
  have hA : DataW.TrodAll enc Try.prog W 0 (fun _ => true) true Try.f10.params.toList args.toList ds p := hA0
  rw [Try.params10] at hA hval
  obtain ⟨v0, vs0, d0, ds0, p0, q0, hargs, rfl, rfl, h0, r0⟩ := trodAll_cons hA
  obtain ⟨v1, vs1, d1, ds1, p1, q1, rfl, rfl, rfl, h1, r1⟩ := trodAll_cons r0
  obtain ⟨v2, vs2, d2, ds2, p2, q2, rfl, rfl, rfl, h2, r2⟩ := trodAll_cons r1
  obtain ⟨rfl, rfl, rfl⟩ := trodAll_nil r2
  obtain rfl : args = #[v0, v1, v2] := by cases args; simp_all
  obtain ⟨rfl, rfl⟩ := trodVars_none hV
  obtain ⟨a0, rfl, rfl, rfl, w0⟩ := open_int Try.underlying61 (hval 0 61 v0 rfl rfl) h0
  obtain ⟨a1, len1, cap1, rfl⟩ := okWide_slice Try.underlying62 (hval 1 62 v1 rfl rfl)
  have k1 := h1
  have lt1 : ∀ x ∈ p1, x.block < W.heap.size := by obtain ⟨m, hm⟩ := k1; exact DataW.trod_lt m _ _ _ hm
  obtain ⟨z1, w1⟩ : ∃ zs, IsRow .u16 W a1 len1 cap1 zs := by
    obtain ⟨fuel, hf⟩ := h1
    rcases open_ints Try.underlying62 Try.underlying61 (by kernel_rfl) hf with ⟨hcs, _⟩ | ⟨x, l, c, zs, hcs, _, hl, hm, hz, _, hcell, hwz⟩
    · simp [Value.cells] at hcs
      obtain ⟨rfl, rfl, rfl⟩ := hcs
      exact ⟨[], .inl ⟨rfl, rfl, rfl, rfl⟩⟩
    · simp [Value.cells] at hcs
      obtain ⟨rfl, rfl, rfl⟩ := hcs
      exact ⟨zs, .inr ⟨_, rfl, hl, hm, by simpa using hz, hcell, hwz⟩⟩
  obtain ⟨a2, len2, cap2, rfl⟩ := okWide_slice Try.underlying63 (hval 2 63 v2 rfl rfl)
  have k2 := h2
  have lt2 : ∀ x ∈ p2, x.block < W.heap.size := by obtain ⟨m, hm⟩ := k2; exact DataW.trod_lt m _ _ _ hm
  obtain ⟨z2, w2⟩ : ∃ zs, IsRow .u8 W a2 len2 cap2 zs := by
    obtain ⟨fuel, hf⟩ := h2
    rcases open_ints Try.underlying63 Try.underlying5 (by kernel_rfl) hf with ⟨hcs, _⟩ | ⟨x, l, c, zs, hcs, _, hl, hm, hz, _, hcell, hwz⟩
    · simp [Value.cells] at hcs
      obtain ⟨rfl, rfl, rfl⟩ := hcs
      exact ⟨[], .inl ⟨rfl, rfl, rfl, rfl⟩⟩
    · simp [Value.cells] at hcs
      obtain ⟨rfl, rfl, rfl⟩ := hcs
      exact ⟨zs, .inr ⟨_, rfl, hl, hm, by simpa using hz, hcell, hwz⟩⟩
  clear hA0 hval0
  refine (walk a0 a1 len1 cap1 z1 a2 len2 cap2 z2 W w0 w1 w2).mono fun e W' ⟨he, bel⟩ => ?_
  subst he
  exact ⟨_, rfl, _, _, _, [], _, [], hW', trodAll_mk1 (shut_bool Try.underlying4 _), (trodAll_cons_mk (shut_int Try.underlying61 w0) (trodAll_cons_mk (Below.trod laidOut (by kernel_rfl) (of_decide_eq_true (by kernel_rfl)) k1 bel lt1) (trodAll_cons_mk (Below.trod laidOut (by kernel_rfl) (of_decide_eq_true (by kernel_rfl)) k2 bel lt2) trodAll_mk0))), rfl, bel.frame _, fun h => by cases h⟩

theorem over : Rows.budgetDegradesRow.holds Try.pinned (OpenSpec.ofChange Rows.budgetDegradesSpec) :=
  OpenClaim.holds_of_wide 10 Try.f10 rfl rfl rfl rfl rfl rfl rfl ⟨rfl, rfl, rfl, rfl, rfl⟩ rfl rfl rfl rfl rfl (by kernel_rfl) Try.func10 (by kernel_rfl)
    (of_decide_eq_true (by kernel_rfl)) (by unfold Func.isWrapper; first | (rw [if_pos (by decide +kernel)]; kernel_rfl) | (rw [if_neg (by decide +kernel)]; exact ⟨rfl, rfl⟩))
    (fun os started H enc _ => lifted os started H enc)

/-- ████ THE STATEMENT ████ -/
theorem proved : Rows.BudgetDegradesSaid := over
#print axioms proved
end Go.Proofs.Ytnghfmefjjkgdaa.budgetDegrades

