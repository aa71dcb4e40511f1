/-
  For one subject, a notification is sent exactly when the level is greater than all before, or than all since the last silence; at most 60 alerts. Conditions: none.
-/
import Derived.Test.YtnghfmefjjkgdaaArg
import Derived.WalkKit
import Derived.ProofKit
import Derived.OpenShut
import Derived.Deep.LoopGhost
import Derived.Deep.RegionLaw
import Derived.Deep.RegionHeld3
namespace Go.Proofs.Ytnghfmefjjkgdaa.escalateRises
open Go.ChangeShapes Go.WideShapes Go.ChangeAt Go.RowKit

theorem own : ownKnob Try.prog.godebug = none := by kernel_rfl

def rsub : Sub := ⟨1, ⟨#[]⟩, true, false, 0, 0⟩
def rAl (a : Al) : Al := ⟨a.at_, 1, a.prio, false, 0, 0, a.z2, a.z4, a.z5, .int .i64 0, .bool false, .int .u64 0, .int .u64 0, .int .i64 0, .int .i64 0, a.z15, a.z16, a.z17, a.z18, a.z19, a.z20⟩

structure RiseInv (q : Int) (k : Nat) (best now : Int) (B : Bk) : Prop where
  qq : B.q = q
  best0 : 0 ≤ best
  now0 : 0 ≤ now ∧ now ≤ 1099511627776
  zero : k = 0 → B.M = [] ∧ B.bg = false ∧ best = 0 ∧ now = 0
  more : 0 < k → B.bg = true ∧ B.nw = now ∧ ∃ e, B.M = [(rsub, e)] ∧ e.last = now ∧ e.level = best

def best1 (q : Int) (k : Nat) (best now at_ : Int) : Int := if (0 < k ∧ now < at_) ∧ q ≤ at_ - now then 0 else best

theorem rise_stale {q now at_ : Int} (hq : 1 ≤ q ∧ q ≤ 1099511627776) (hn : 0 ≤ now ∧ now ≤ 1099511627776) (ha : 0 ≤ at_ ∧ at_ ≤ 1099511627776) : stale q (max now at_) now = decide (now < at_ ∧ q ≤ at_ - now) := by
  have hw : IntKind.u64.wrap q = q := by simp only [IntKind.wrap, IntKind.bits, IntKind.signed]; simp; omega
  have hg : age (max now at_) now = max now at_ - now := by
    simp only [age, IntKind.wrap, IntKind.bits, IntKind.signed]
    simp
    omega
  unfold stale
  rw [hw, hg, decide_eq_decide]
  omega

theorem rise_step {q : Int} {k : Nat} {best now at_ n : Int} {nt : Bool} {B B' : Bk} {g : Int → Int} (h : RiseInv q k best now B) (hq : 1 ≤ q ∧ q ≤ 1099511627776) (ha : 0 ≤ at_ ∧ at_ ≤ 1099511627776)
    (hE : Enters B at_ rsub g n nt B') : nt = decide (best1 q k best now at_ < n) ∧ RiseInv q (k + 1) (max (best1 q k best now at_) n) (max now at_) B' ∧ ∃ c, n = g c := by
  have hlen : B.M.length < 256 := by
    rcases Nat.eq_zero_or_pos k with hk | hk
    · rw [(h.zero hk).1]; simp
    · obtain ⟨_, _, e, he, _⟩ := h.more hk; rw [he]; simp
  have hs := hE.short hlen
  have hlat : later B.bg B.nw at_ = max now at_ := by
    unfold later
    rcases Nat.eq_zero_or_pos k with hk | hk
    · obtain ⟨_, h1, _, h2⟩ := h.zero hk
      rw [h1, h2, if_pos (.inl rfl)]; omega
    · obtain ⟨h1, h2, _⟩ := h.more hk
      rw [h1, h2]
      split
      · rename_i h3; rcases h3 with h3 | h3
        · cases h3
        · omega
      · rename_i h3; have : ¬ now < at_ := fun h4 => h3 (.inr h4)
        omega
  have hent : (entOf B.q (max now at_) B.M rsub).level = best1 q k best now at_ := by
    rw [h.qq]
    unfold entOf best1
    rcases Nat.eq_zero_or_pos k with hk | hk
    · obtain ⟨h1, _, h2, _⟩ := h.zero hk
      rw [h1, h2]
      simp [mget, zEnt]
    · obtain ⟨_, _, e, h3, h4, h5⟩ := h.more hk
      have hm : mget B.M rsub = some e := by rw [h3]; simp [mget]
      rw [hm]
      dsimp only
      rw [h4, rise_stale hq h.now0 ha, h5.symm]
      by_cases hc : now < at_ ∧ q ≤ at_ - now
      · rw [decide_eq_true hc, if_pos rfl, if_pos ⟨⟨hk, hc.1⟩, hc.2⟩]; rfl
      · rw [decide_eq_false hc, if_neg (by simp), if_neg (fun hh => hc ⟨hh.1.2, hh.2⟩)]
  have hput : ∀ e, mput B.M rsub e = [(rsub, e)] := by
    intro e
    rcases Nat.eq_zero_or_pos k with hk | hk
    · rw [(h.zero hk).1]; simp [mput]
    · obtain ⟨_, _, e', he, _⟩ := h.more hk; rw [he]; simp [mput]
  have hb1 : 0 ≤ best1 q k best now at_ := by unfold best1; have := h.best0; split <;> omega
  simp only [stepM, hlat, hput, Prod.mk.injEq] at hs
  obtain ⟨h1, h2, h3⟩ := hs
  rw [← h1, hent] at h2
  refine ⟨h2, ⟨?_, by omega, by have := h.now0; omega, fun hk => absurd hk (by omega), fun _ => ?_⟩, _, h1⟩
  · rw [h3]; exact h.qq
  · rw [h3]
    refine ⟨rfl, rfl, _, rfl, rfl, ?_⟩
    simp only [entBehind]
    rw [hent, ← h1]

theorem alertLevel_bd (p v c : Int) : 1 ≤ alertLevel p v c ∧ alertLevel p v c ≤ 9 := by
  have := sev_bd p v
  unfold alertLevel
  split <;> (try split) <;> omega

theorem inv0 (q : Int) (hq : 1 ≤ q ∧ q ≤ 1099511627776) : RiseInv q 0 0 0 (bk0 q) := ⟨by simp only [bk0]; omega, by omega, by omega, fun _ => ⟨rfl, rfl, rfl, rfl⟩, fun h => absurd h (by omega)⟩

set_option maxRecDepth 100000 in
set_option maxHeartbeats 1000000 in
theorem walk (a0 : Int) (a : Option Addr) (L cap : Nat) (ev : Nat → Ev) (w : World) (hev : EvsAt w a L ev) (hone : ∀ i, (ev i).One) :
    Calls Try.prog 7 #[.int .i64 a0, .slice a L cap] w fun e w' => e = .returned (.bool true) ∧ Fr [] w w' := by
  have HEV := hide hev
  clear hev
  by_cases hbad : 60 < L ∨ a0 < 1 ∨ 1099511627776 < a0
  · go_enter Try.func7, Try.ntmps7
    go_wp2_with (first | (go_at_call 14; refine (lives_any _).mono ?_; rintro e w3 ⟨rfl, hf3⟩; have HF3 := hide hf3; clear hf3))
    all_goals first
      | (go_ret; exact ⟨rfl, HF3.out⟩)
      | (exfalso; omega)
  have hq : 1 ≤ a0 ∧ a0 ≤ 1099511627776 := by omega
  have hL : L ≤ 60 := by omega
  clear hbad
  go_enter Try.func7, Try.ntmps7
  go_wp2_with (first | (go_at_call 14; refine (lives_any _).mono ?_; rintro e w0 ⟨rfl, hf0⟩; have HF0 := hide hf0; clear hf0) | (go_at_call 15; refine (new_bk a0 _).mono ?_; rintro e w1 ⟨rfl, hB1, hf1, hs1⟩; have HB1 := hide hB1; have HF1 := hide hf1; have HS1 := hide hs1; clear hB1 hf1 hs1))
  obtain ⟨pb, hpb⟩ : ∃ pb, pb = w0.heap.size + 1 := ⟨_, rfl⟩
  have HB2 := HB1
  rw [← hpb] at HB2 ⊢
  have HPB := hide hpb
  clear hpb
  go_loopg [6, 7, 8] (L + 1) (fun gk best now i wr => ∃ (k : Nat) (bs nw : Int) (B : Bk), gk = L + 1 - k ∧ k ≤ L ∧ i = .int .i64 k ∧ best = .int .i64 bs ∧ now = .int .i64 nw ∧ BookIs wr pb w0.heap.size B ∧ B.Ok ∧ B.cl = k ∧ RiseInv a0 k bs nw B ∧ Fr [] w wr)
  case atStart => exact ⟨0, 0, 0, _, by omega, by omega, rfl, rfl, rfl, HB2.out, bk0_ok _, rfl, inv0 _ hq, HF0.out.trans HF1.out⟩
  case round =>
    obtain ⟨k, bs, nw, B, hgk, hk, rfl, rfl, rfl, hbk, hok, hcl, hinv, hfr⟩ := hrel
    have HGK := hide hgk
    have HBK := hide hbk
    have HOK := hide hok
    have HCL := hide hcl
    have HINV := hide hinv
    have HFR := hide hfr
    have hnow := hinv.now0
    have hbs := hinv.best0
    clear hgk hbk hok hcl hinv hfr
    by_cases hlt : k < L
    · obtain ⟨b, off, rfl, hcs⟩ := (HEV.out.keep HFR.out.below.block) (by omega)
      have hON := hide (hone k)
      obtain ⟨e, he⟩ : ∃ e, e = ev k := ⟨_, rfl⟩
      have hcs2 : ∀ j u, e.cells.toList[j]? = some u → wr.cell? ⟨b, off + k * 34 + j, none⟩ = some u := by rw [he]; exact hcs k hlt
      rw [← he] at hON
      have HE := hide he
      clear he hcs
      obtain ⟨cse, al, ca, val⟩ := e
      have c33 : wr.cell? ⟨b, off + k * 34 + 33, none⟩ = some (.int .i64 val) := hcs2 33 _ rfl
      have HAL := hide (fun j u (hj : al.cells.toList[j]? = some u) => (by rw [Addr.add_lit]; have := hcs2 (1 + j) u (by rw [Array.getElem?_toList]; exact Ev.alert _ j u hj); rw [show off + k * 34 + 1 + j = off + k * 34 + (1 + j) by omega]; exact this : wr.cell? ((⟨b, off + k * 34 + 1, none⟩ : Addr).add j) = some u))
      have hbw : b < wr.heap.size := by
        cases hb : wr.heap[b]? with
        | none => simp [World.cell?, hb] at c33
        | some o => exact (Array.getElem?_eq_some_iff.1 hb).1
      clear hcs2
      have xl : b < wr.heap.size := by omega
      have xe0 : b ≤ wr.heap.size := by omega
      have xe1 : b ≤ wr.heap.size + 1 := by omega
      have xe2 : b ≤ wr.heap.size + 2 := by omega
      go_upto_region 11 with (first | ((with_reducible refine wpList_load_agg rfl 37 (.tmp 36) rfl ⟨b, off + k * 34 + 1, none⟩ al.cells _ ?_ Try.underlying37 ?_ ?_ HAL.out ?_); rfl; rfl; exact size37) | ((with_reducible refine wpList_var' rfl rfl 37 9 37 rfl rfl rfl rfl z37 al.cells zero37 ?_ ?_ ?_ ?_ ?_ ?_ ?_); decide; exact of_decide_eq_true rfl; exact size37; rfl; exact hON.out.1; rfl; go_frame))
      simp only [Al.cells]
      by_cases hat : al.at_ < 0 ∨ 1099511627776 < al.at_
      · go_wp2
        all_goals first
          | (go_ret; exact ⟨rfl, HFR.out.alloc _⟩)
          | (exfalso; omega)
      have hat2 : 0 ≤ al.at_ ∧ al.at_ ≤ 1099511627776 := by omega
      clear hat
      obtain ⟨bs2, hb2⟩ : ∃ x, x = best1 a0 k bs nw al.at_ := ⟨_, rfl⟩
      have HBS := hide hb2
      clear hb2
      go_upto_region 15 with (fail)
      go_cut [64] from 27 to 95 (fun s64 wd => s64 = .bool (decide ((0 < k ∧ nw < al.at_) ∧ a0 ≤ al.at_ - nw)) ∧ wd = wr.alloc (.cells #[.int .i64 al.at_, .int .i64 1, al.z2, .int .i64 al.prio, al.z4, al.z5, .int .i64 0, .bool false, .int .u64 0, .int .u64 0, .bool false, .int .u64 0, .int .u64 0, .int .i64 0, .int .i64 0, al.z15, al.z16, al.z17, al.z18, al.z19, al.z20] 37))
      case first =>
        go_wp2
        all_goals
          go_meet
          case rel =>
            refine ⟨congrArg _ ?_, rfl⟩
            first
              | (symm; simp; omega)
              | (simp; omega)
              | (trace_state; fail)
      case rest =>
      obtain ⟨h64, rfl⟩ := hcut
      go_upto_if 64 with (fail)
      go_cut [6] from 27 to 95 (fun bs' wd => bs' = .int .i64 bs2 ∧ wd = wr.alloc (.cells #[.int .i64 al.at_, .int .i64 1, al.z2, .int .i64 al.prio, al.z4, al.z5, .int .i64 0, .bool false, .int .u64 0, .int .u64 0, .bool false, .int .u64 0, .int .u64 0, .int .i64 0, .int .i64 0, al.z15, al.z16, al.z17, al.z18, al.z19, al.z20] 37))
      case first =>
        by_cases hr : (0 < k ∧ nw < al.at_) ∧ a0 ≤ al.at_ - nw
        · have hbb : Hid (bs2 = 0) := by show bs2 = 0; rw [HBS.out]; unfold best1; rw [if_pos hr]
          rw [decide_eq_true hr] at h64
          subst h64
          go_wp2
          go_meet
          case rel => exact ⟨by rw [hbb.out], rfl⟩
        · have hbb : Hid (bs2 = bs) := by show bs2 = bs; rw [HBS.out]; unfold best1; rw [if_neg hr]
          rw [decide_eq_false hr] at h64
          subst h64
          go_wp2
          go_meet
          case rel => exact ⟨by rw [hbb.out], rfl⟩
      case rest =>
      obtain ⟨rfl, rfl⟩ := hcut
      obtain ⟨nw2, hn2⟩ : ∃ x, x = max nw al.at_ := ⟨_, rfl⟩
      have hn3 : nw2 = if nw < al.at_ then al.at_ else nw := by rw [hn2]; split <;> omega
      have HN2 := hide hn2
      have HN3 := hide hn3
      clear hn2 hn3
      have hwn : wr.heap.size ∉ [pb, w0.heap.size] := by
        have h1 := lt_of_blk HBK.out.blk
        have h2 := HBK.out.map.lt
        simp; omega
      have hbn : b ∉ [pb, w0.heap.size] := by
        have h1 := HEV.out.lt (by omega)
        have h2 := HF0.out.size
        have h3 := HPB.out
        simp; omega
      have hblk2 : (wr.alloc (.cells #[.int .i64 al.at_, .int .i64 1, al.z2, .int .i64 al.prio, al.z4, al.z5, .int .i64 0, .bool false, .int .u64 0, .int .u64 0, .bool false, .int .u64 0, .int .u64 0, .int .i64 0, .int .i64 0, al.z15, al.z16, al.z17, al.z18, al.z19, al.z20] 37)).heap[wr.heap.size]? = some (.cells #[.int .i64 al.at_, .int .i64 1, al.z2, .int .i64 al.prio, al.z4, al.z5, .int .i64 0, .bool false, .int .u64 0, .int .u64 0, .bool false, .int .u64 0, .int .u64 0, .int .i64 0, .int .i64 0, al.z15, al.z16, al.z17, al.z18, al.z19, al.z20] 37 (0, 0)) := heap_alloc_eq rfl
      have c33b : (wr.alloc (.cells #[.int .i64 al.at_, .int .i64 1, al.z2, .int .i64 al.prio, al.z4, al.z5, .int .i64 0, .bool false, .int .u64 0, .int .u64 0, .bool false, .int .u64 0, .int .u64 0, .int .i64 0, .int .i64 0, al.z15, al.z16, al.z17, al.z18, al.z19, al.z20] 37)).cell? ⟨b, off + k * 34 + 33, none⟩ = some (.int .i64 val) := by
        simp only [World.cell?, heap_alloc_lt hbw]
        exact c33
      have HFA := hide ((HFR.out.alloc (.cells #[.int .i64 al.at_, .int .i64 1, al.z2, .int .i64 al.prio, al.z4, al.z5, .int .i64 0, .bool false, .int .u64 0, .int .u64 0, .bool false, .int .u64 0, .int .u64 0, .int .i64 0, .int .i64 0, al.z15, al.z16, al.z17, al.z18, al.z19, al.z20] 37)))
      have HBKA := hide (HBK.out.fr ((Fr.refl [] wr).alloc (.cells #[.int .i64 al.at_, .int .i64 1, al.z2, .int .i64 al.prio, al.z4, al.z5, .int .i64 0, .bool false, .int .u64 0, .int .u64 0, .bool false, .int .u64 0, .int .u64 0, .int .i64 0, .int .i64 0, al.z15, al.z16, al.z17, al.z18, al.z19, al.z20] 37)) (by simp) (by simp))
      generalize hwa : wr.alloc (.cells #[.int .i64 al.at_, .int .i64 1, al.z2, .int .i64 al.prio, al.z4, al.z5, .int .i64 0, .bool false, .int .u64 0, .int .u64 0, .bool false, .int .u64 0, .int .u64 0, .int .i64 0, .int .i64 0, al.z15, al.z16, al.z17, al.z18, al.z19, al.z20] 37) = wa at hblk2 c33b HFA HBKA ⊢
      clear hwa c33
      have r0 : wa.cell? ⟨wr.heap.size, 0, none⟩ = some (.int .i64 al.at_) := cell_blk hblk2 0
      have r1 : wa.cell? ⟨wr.heap.size, 1, none⟩ = some (.int .i64 1) := cell_blk hblk2 1
      have r2 : wa.cell? ⟨wr.heap.size, 2, none⟩ = some (al.z2) := cell_blk hblk2 2
      have r3 : wa.cell? ⟨wr.heap.size, 3, none⟩ = some (.int .i64 al.prio) := cell_blk hblk2 3
      have r4 : wa.cell? ⟨wr.heap.size, 4, none⟩ = some (al.z4) := cell_blk hblk2 4
      have r5 : wa.cell? ⟨wr.heap.size, 5, none⟩ = some (al.z5) := cell_blk hblk2 5
      have r6 : wa.cell? ⟨wr.heap.size, 6, none⟩ = some (.int .i64 0) := cell_blk hblk2 6
      have r7 : wa.cell? ⟨wr.heap.size, 7, none⟩ = some (.bool false) := cell_blk hblk2 7
      have r8 : wa.cell? ⟨wr.heap.size, 8, none⟩ = some (.int .u64 0) := cell_blk hblk2 8
      have r9 : wa.cell? ⟨wr.heap.size, 9, none⟩ = some (.int .u64 0) := cell_blk hblk2 9
      have r10 : wa.cell? ⟨wr.heap.size, 10, none⟩ = some (.bool false) := cell_blk hblk2 10
      have r11 : wa.cell? ⟨wr.heap.size, 11, none⟩ = some (.int .u64 0) := cell_blk hblk2 11
      have r12 : wa.cell? ⟨wr.heap.size, 12, none⟩ = some (.int .u64 0) := cell_blk hblk2 12
      have r13 : wa.cell? ⟨wr.heap.size, 13, none⟩ = some (.int .i64 0) := cell_blk hblk2 13
      have r14 : wa.cell? ⟨wr.heap.size, 14, none⟩ = some (.int .i64 0) := cell_blk hblk2 14
      have r15 : wa.cell? ⟨wr.heap.size, 15, none⟩ = some (al.z15) := cell_blk hblk2 15
      have r16 : wa.cell? ⟨wr.heap.size, 16, none⟩ = some (al.z16) := cell_blk hblk2 16
      have r17 : wa.cell? ⟨wr.heap.size, 17, none⟩ = some (al.z17) := cell_blk hblk2 17
      have r18 : wa.cell? ⟨wr.heap.size, 18, none⟩ = some (al.z18) := cell_blk hblk2 18
      have r19 : wa.cell? ⟨wr.heap.size, 19, none⟩ = some (al.z19) := cell_blk hblk2 19
      have r20 : wa.cell? ⟨wr.heap.size, 20, none⟩ = some (al.z20) := cell_blk hblk2 20
      go_upto_region 17 with (fail)
      go_cut [7] from 27 to 95 (fun s7 wd => s7 = .int .i64 nw2 ∧ wa = wd)
      case first =>
        go_wp2
        all_goals
          go_meet
          case rel => exact ⟨congrArg _ (by rw [HN2.out]; omega), rfl⟩
      case rest =>
      obtain ⟨rfl, rfl⟩ := hcut
      have hbw2 : BookIs wa.drew pb w0.heap.size B := HBKA.out.fr (Fr.refl [] wa).drew (by simp) (by simp)
      have hal := hide (alert_any pb w0.heap.size (rAl al) val B _ hbw2 HOK.out)
      simp only [Al.cells, rAl] at hal
      clear hbw2
      have hstep := hide (fun (n : Int) (nt : Bool) (B' : Bk) (hE : Enters B al.at_ rsub (alertLevel al.prio val) n nt B') => rise_step HINV.out hq hat2 hE)
      have hokc := hide (fun (n : Int) (nt : Bool) (B' : Bk) (hE : Enters B al.at_ rsub (alertLevel al.prio val) n nt B') => (⟨hE.ok HOK.out (by rw [HCL.out]; omega), by obtain ⟨M1, _, _, _, rfl⟩ := hE; show B.cl + 1 = _; rw [HCL.out]⟩ : B'.Ok ∧ B'.cl = (k : Int) + 1))
      rw [← HBS.out, ← HN2.out] at hstep
      have hcell : Hid (∀ (w3 : World), Fr [pb, w0.heap.size] wa.drew w3 → ∀ j u, ([.int .i64 al.at_, .int .i64 1, al.z2, .int .i64 al.prio, al.z4, al.z5, .int .i64 0, .bool false, .int .u64 0, .int .u64 0, .bool false, .int .u64 0, .int .u64 0, .int .i64 0, .int .i64 0, al.z15, al.z16, al.z17, al.z18, al.z19, al.z20] : List Value)[j]? = some u → w3.cell? ⟨wr.heap.size, j, none⟩ = some u) := by
        show ∀ (w3 : World), Fr [pb, w0.heap.size] wa.drew w3 → ∀ j u, ([.int .i64 al.at_, .int .i64 1, al.z2, .int .i64 al.prio, al.z4, al.z5, .int .i64 0, .bool false, .int .u64 0, .int .u64 0, .bool false, .int .u64 0, .int .u64 0, .int .i64 0, .int .i64 0, al.z15, al.z16, al.z17, al.z18, al.z19, al.z20] : List Value)[j]? = some u → w3.cell? ⟨wr.heap.size, j, none⟩ = some u
        intro w3 hf j u hj
        have h1 : w3.heap[wr.heap.size]? = some (.cells #[.int .i64 al.at_, .int .i64 1, al.z2, .int .i64 al.prio, al.z4, al.z5, .int .i64 0, .bool false, .int .u64 0, .int .u64 0, .bool false, .int .u64 0, .int .u64 0, .int .i64 0, .int .i64 0, al.z15, al.z16, al.z17, al.z18, al.z19, al.z20] 37 (0, 0)) := (hf.block wr.heap.size (lt_of_blk hblk2) hwn).trans hblk2
        rw [cell_blk h1]
        simpa using hj
      have hcell2 : ∀ (w3 : World), Fr [pb, w0.heap.size] wa.drew w3 → w3.cell? ⟨b, off + k * 34 + 33, none⟩ = some (.int .i64 val) := by
        intro w3 hf
        rw [← c33b]
        simp only [World.cell?]
        rw [hf.block b (by have := lt_of_blk hblk2; show b < wa.heap.size; omega) hbn]
        rfl
      have HKEEP := hide (fun (w3 : World) (hf : Fr [pb, w0.heap.size] wa.drew w3) => (⟨fun j u hj => by rw [Nat.zero_add]; exact hcell.out w3 hf j u hj, hcell2 w3 hf⟩ : w3.rangeAt wr.heap.size 0 [.int .i64 al.at_, .int .i64 1, al.z2, .int .i64 al.prio, al.z4, al.z5, .int .i64 0, .bool false, .int .u64 0, .int .u64 0, .bool false, .int .u64 0, .int .u64 0, .int .i64 0, .int .i64 0, al.z15, al.z16, al.z17, al.z18, al.z19, al.z20] ∧ w3.cell? ⟨b, off + k * 34 + 33, none⟩ = some (.int .i64 val)))
      have hi : (Try.prog.info? 37).map (·.size) = some ([.int .i64 al.at_, .int .i64 1, al.z2, .int .i64 al.prio, al.z4, al.z5, .int .i64 0, .bool false, .int .u64 0, .int .u64 0, .bool false, .int .u64 0, .int .u64 0, .int .i64 0, .int .i64 0, al.z15, al.z16, al.z17, al.z18, al.z19, al.z20] : List Value).length := size37
      clear hcell hcell2
      have hlw : wr.heap.size < wa.heap.size := lt_of_blk hblk2
      have hlb : b < wa.heap.size := by omega
      clear hblk2
      go_upto_region 18 with (fail)
      go_cut [10, 11] from 27 to 95 (fun s10 s11 wd => ∃ n B', s10 = .int .i64 n ∧ s11 = .bool (decide (bs2 < n)) ∧ (1 ≤ n ∧ n ≤ 9) ∧ BookIs wd pb w0.heap.size B' ∧ B'.Ok ∧ B'.cl = (k : Int) + 1 ∧ RiseInv a0 (k + 1) (max bs2 n) nw2 B' ∧ Fr [] w wd)
      case first =>
        refine wp_region_held_drew (S := (fun w' => w'.rangeAt wr.heap.size 0 [.int .i64 al.at_, .int .i64 1, al.z2, .int .i64 al.prio, al.z4, al.z5, .int .i64 0, .bool false, .int .u64 0, .int .u64 0, .bool false, .int .u64 0, .int .u64 0, .int .i64 0, .int .i64 0, al.z15, al.z16, al.z17, al.z18, al.z19, al.z20] ∧ w'.cell? ⟨b, off + k * 34 + 33, none⟩ = some (.int .i64 val))) (by kernel_rfl) (HKEEP.out _ (Fr.refl _ _)) (fun hHeld => ?_)
        refine' wpAnyH_take (i := 1) (oi := { dst := some 71, op := Op.load 37 (Operand.tmp 9), type := 37, pos := "law.go:130", after := #[], guard := none }) (v := _) rfl (by kernel_rfl) (by kernel_rfl) (by kernel_rfl) (fun _ _ _ h => h) (yieldsIf_load_mid (by rfl) _ _ rfl _ _ rfl _ _ (fun w h => h.1) Try.underlying37 rfl hi) (by assumption) ?_
        try simp only [Act.put, List.setIfInBounds_toArray, List.set_cons_zero, List.set_cons_succ]
        refine wpAnyH_take (i := 0) (oi := { dst := some 70, op := Op.move (Operand.tmp 5), type := 26, pos := "law.go:130", after := #[], guard := none }) (v := .pointer (some ⟨pb, 0, none⟩)) rfl (by kernel_rfl) (by kernel_rfl) (by kernel_rfl) (fun _ _ _ h => h) (Or.inl ⟨by rfl, fun W hSw => ?_⟩) (by assumption) ?_
        · go_simp
        try simp only [Act.put, List.setIfInBounds_toArray, List.set_cons_zero, List.set_cons_succ]
        refine wpAnyH_take (i := 2) (oi := { dst := some 72, op := Op.move (Operand.tmp 1), type := 25, pos := "law.go:130", after := #[], guard := none }) (v := .slice (some ⟨b, off, none⟩) L cap) rfl (by kernel_rfl) (by kernel_rfl) (by kernel_rfl) (fun _ _ _ h => h) (Or.inl ⟨by rfl, fun W hSw => ?_⟩) (by assumption) ?_
        · go_simp
        try simp only [Act.put, List.setIfInBounds_toArray, List.set_cons_zero, List.set_cons_succ]
        refine wpAnyH_take (i := 3) (oi := { dst := some 73, op := Op.move (Operand.tmp 8), type := 3, pos := "law.go:130", after := #[], guard := none }) (v := .int .i64 k) rfl (by kernel_rfl) (by kernel_rfl) (by kernel_rfl) (fun _ _ _ h => h) (Or.inl ⟨by rfl, fun W hSw => ?_⟩) (by assumption) ?_
        · go_simp
        try simp only [Act.put, List.setIfInBounds_toArray, List.set_cons_zero, List.set_cons_succ]
        refine wpAnyH_take (i := 4) (oi := { dst := some 74, op := Op.indexAddr 25 (Operand.tmp 72) (Operand.tmp 73), type := 0, pos := "law.go:130", after := #[{ on := 2, ground := Ground.data }, { on := 3, ground := Ground.data }], guard := none }) (v := .pointer (some ⟨b, off + k * 34, none⟩)) rfl (by kernel_rfl) (by kernel_rfl) (by kernel_rfl) (fun _ _ _ h => h) (Or.inl ⟨by rfl, fun W hSw => ?_⟩) (by assumption) ?_
        · go_simp
        try simp only [Act.put, List.setIfInBounds_toArray, List.set_cons_zero, List.set_cons_succ]
        refine wpAnyH_take (i := 5) (oi := { dst := some 75, op := Op.fieldAddr 41 (Operand.tmp 74) 3, type := 0, pos := "law.go:130", after := #[{ on := 4, ground := Ground.data }], guard := none }) (v := .pointer (some ⟨b, off + k * 34 + 33, none⟩)) rfl (by kernel_rfl) (by kernel_rfl) (by kernel_rfl) (fun _ _ _ h => h) (Or.inl ⟨by rfl, fun W hSw => ?_⟩) (by assumption) ?_
        · go_simp
        try simp only [Act.put, List.setIfInBounds_toArray, List.set_cons_zero, List.set_cons_succ]
        refine wpAnyH_take (i := 6) (oi := { dst := some 76, op := Op.load 3 (Operand.tmp 75), type := 3, pos := "law.go:130", after := #[{ on := 5, ground := Ground.data }], guard := none }) (v := .int .i64 val) rfl (by kernel_rfl) (by kernel_rfl) (by kernel_rfl) (fun _ _ _ h => h) (Or.inl ⟨by rfl, fun W hSw => ?_⟩) (by assumption) ?_
        · have h33 := hSw.2
          go_simp
        try simp only [Act.put, List.setIfInBounds_toArray, List.set_cons_zero, List.set_cons_succ]
        refine wpAnyH_ready (rs := [7]) (by kernel_rfl) (by simp) ?_
        refine AllReadyH.cons (o := { dst := some 77, op := Op.call { callee := Callee.value (Operand.func 19), args := #[Operand.tmp 70, Operand.tmp 71, Operand.tmp 76], argTypes := #[26, 37, 3] }, type := 44, pos := "law.go:130", after := #[{ on := 0, ground := Ground.data }, { on := 1, ground := Ground.data }, { on := 6, ground := Ground.data }], guard := none }) rfl (fun K hK => ?_) AllReadyH.nil
        go_simp
        refine (unhide hal).mono ?_
        rintro e w3 ⟨n, nt, B', hE, rfl, hB', hf3⟩
        have HE3 := hide hE
        have HB3 := hide hB'
        have HF3 := hide hf3
        clear hE hB' hf3
        refine hK.out _ _ (HKEEP.out _ HF3.out) (fun hHeld2 => ?_)
        clear hK
        try simp only [Act.put, List.setIfInBounds_toArray, List.set_cons_zero, List.set_cons_succ]
        refine wpAnyH_take (i := 8) (oi := { dst := some 69, op := Op.move (Operand.tmp 77), type := 44, pos := "law.go:130", after := #[{ on := 7, ground := Ground.data }], guard := none }) (v := .tuple #[.int .i64 n, .bool nt]) rfl (by kernel_rfl) (by kernel_rfl) (by kernel_rfl) (fun _ _ _ h => h) (Or.inl ⟨by rfl, fun W hSw => ?_⟩) (by assumption) ?_
        · go_simp
        try simp only [Act.put, List.setIfInBounds_toArray, List.set_cons_zero, List.set_cons_succ]
        refine wpAnyH_take (i := 9) (oi := { dst := some 78, op := Op.extract (Operand.tmp 69) 0, type := 3, pos := "law.go:130", after := #[{ on := 8, ground := Ground.data }], guard := none }) (v := .int .i64 n) rfl (by kernel_rfl) (by kernel_rfl) (by kernel_rfl) (fun _ _ _ h => h) (Or.inl ⟨by rfl, fun W hSw => ?_⟩) (by assumption) ?_
        · go_simp
        try simp only [Act.put, List.setIfInBounds_toArray, List.set_cons_zero, List.set_cons_succ]
        refine wpAnyH_take (i := 10) (oi := { dst := some 79, op := Op.extract (Operand.tmp 69) 1, type := 4, pos := "law.go:130", after := #[{ on := 8, ground := Ground.data }, { on := 11, ground := Ground.gcOnly Departure.lateStores }], guard := none }) (v := .bool nt) rfl (by kernel_rfl) (by kernel_rfl) (by kernel_rfl) (fun _ _ _ h => h) (Or.inl ⟨by rfl, fun W hSw => ?_⟩) (by assumption) ?_
        · go_simp
        try simp only [Act.put, List.setIfInBounds_toArray, List.set_cons_zero, List.set_cons_succ]
        refine wpAnyH_take (i := 11) (oi := { dst := some 10, op := Op.assign (Operand.tmp 78), type := 3, pos := "law.go:130", after := #[{ on := 9, ground := Ground.data }, { on := 7, ground := Ground.chain }, { on := 0, ground := Ground.phase }, { on := 1, ground := Ground.phase }, { on := 2, ground := Ground.phase }, { on := 3, ground := Ground.phase }, { on := 4, ground := Ground.phase }, { on := 5, ground := Ground.phase }, { on := 6, ground := Ground.phase }, { on := 7, ground := Ground.phase }, { on := 8, ground := Ground.phase }, { on := 9, ground := Ground.phase }, { on := 10, ground := Ground.textOnly Departure.lateStores }], guard := none }) (v := .int .i64 n) rfl (by kernel_rfl) (by kernel_rfl) (by kernel_rfl) (fun _ _ _ h => h) (Or.inl ⟨by rfl, fun W hSw => ?_⟩) (by assumption) ?_
        · go_simp
        try simp only [Act.put, List.setIfInBounds_toArray, List.set_cons_zero, List.set_cons_succ]
        refine wpAnyH_take (i := 12) (oi := { dst := some 11, op := Op.assign (Operand.tmp 79), type := 4, pos := "law.go:130", after := #[{ on := 10, ground := Ground.data }, { on := 11, ground := Ground.chain }, { on := 0, ground := Ground.phase }, { on := 1, ground := Ground.phase }, { on := 2, ground := Ground.phase }, { on := 3, ground := Ground.phase }, { on := 4, ground := Ground.phase }, { on := 5, ground := Ground.phase }, { on := 6, ground := Ground.phase }, { on := 7, ground := Ground.phase }, { on := 8, ground := Ground.phase }, { on := 9, ground := Ground.phase }, { on := 10, ground := Ground.phase }, { on := 11, ground := Ground.phase }], guard := none }) (v := .bool nt) rfl (by kernel_rfl) (by kernel_rfl) (by kernel_rfl) (fun _ _ _ h => h) (Or.inl ⟨by rfl, fun W hSw => ?_⟩) (by assumption) ?_
        · go_simp
        try simp only [Act.put, List.setIfInBounds_toArray, List.set_cons_zero, List.set_cons_succ]
        refine wpAnyH_done (by kernel_rfl) ?_ _
        all_goals
          go_wp2
          go_meet
          case rel =>
            obtain ⟨h1, h2, c, h3⟩ := (unhide hstep) _ _ _ HE3.out
            obtain ⟨h4, h5⟩ := (unhide hokc) _ _ _ HE3.out
            have hs1 := HF1.out.size
            have hs0 := HF0.out.size
            exact ⟨n, B', rfl, congrArg _ h1, by rw [h3]; exact alertLevel_bd _ _ _, HB3.out, h4, h5, h2, (HFA.out.drew).andThen HF3.out (by have := HPB.out; simp; omega)⟩
      case rest =>
      obtain ⟨n, B', rfl, rfl, hn9, hbk2, hok2, hcl2, hinv2, hfr2⟩ := hcut
      have HBK2 := hide hbk2
      have HOK2 := hide hok2
      have HCL2 := hide hcl2
      have HINV2 := hide hinv2
      have HFR2 := hide hfr2
      clear hbk2 hok2 hcl2 hinv2 hfr2
      go_wp2
      all_goals first
        | (exfalso; omega)
        | (go_roundg (L + 1 - (k + 1))
           case measure => have := HGK.out; omega
           case rel => exact ⟨k + 1, max bs2 n, nw2, B', rfl, by omega, by go_num, congrArg _ (by omega), rfl, HBK2.out, HOK2.out, by rw [HCL2.out]; omega, HINV2.out, HFR2.out⟩)
    · go_wp2
      all_goals
        go_ret
        exact ⟨rfl, HFR.out⟩

/-! ### The row -/
set_option maxRecDepth 100000 in
theorem lifted (os : Os) (started : os.Started) (H : Type) (enc : TypeId × Value → H) :
    ReturnsInHanded {} Try.checked os 7 .any (Rows.escalateRisesSpec.pre6 enc Try.prog Try.f7 Rows.escalateRisesRow.domain false) (Rows.escalateRisesSpec.post enc Try.prog Try.f7 false true false false) := by
  refine returnsInHanded_of_change (C := Try.checked) own started (by kernel_rfl) Try.func7
    (ChangeSpec.witness6 (enc := enc) (C := Try.checked) false ⟨#[], #[.int .i64 0, .slice none 0 0], []⟩ 8 (by kernel_rfl) (by kernel_rfl) (by kernel_rfl) (by kernel_rfl)) ?_
  intro W base args ds gs before hval0 hW hcnd _
  have hval : ∀ (j : Nat) t v, Try.f7.params[j]? = some t → args[j]? = some v → Value.okWide Try.prog W .any base t v := hval0
  have hW' := hW
  obtain ⟨p, q, hA0, hV, rfl, hfz, hnd⟩ := hW
  have hA : DataW.TrodAll enc Try.prog W 0 (fun _ => true) true Try.f7.params.toList args.toList ds p := hA0
  rw [Try.params7] at hA hval
  obtain ⟨v0, vs0, d0, ds0, p0, q0, hargs, rfl, rfl, h0, r0⟩ := trodAll_cons hA
  obtain ⟨v1, vs1, d1, ds1, p1, q1, rfl, rfl, rfl, h1, r1⟩ := trodAll_cons r0
  obtain ⟨rfl, rfl, rfl⟩ := trodAll_nil r1
  obtain rfl : args = #[v0, v1] := by cases args; simp_all
  obtain ⟨rfl, rfl⟩ := trodVars_none hV
  obtain ⟨a0, rfl, rfl, rfl, w0⟩ := open_int Try.underlying3 (hval 0 3 v0 rfl rfl) h0
  have h1k := h1
  obtain ⟨a1, L1, cap1, ev1, rfl, hev1, hone1⟩ := open_evs1 (hval 1 25 v1 rfl rfl) h1
  clear hA0 hval0
  simp only [List.append_nil] at hW'
  refine (walk a0 a1 L1 cap1 ev1 W hev1 hone1).mono fun e W' ⟨he, hg⟩ => ?_
  subst he
  exact ⟨_, rfl, _, _, _, [], _, [], hW', (trodAll_cons_mk (shut_bool Try.underlying4 _) trodAll_mk0), (trodAll_cons_mk (shut_int Try.underlying3 w0) (trodAll_cons_mk (Below.trod laid read25 row25 h1k hg.below (fun x hx => by simpa using hW'.lt x (by simp [hx]))) trodAll_mk0)), rfl, hg.below.frame _, fun h => by cases h⟩

theorem over : Rows.escalateRisesRow.holds Try.pinned (OpenSpec.ofChange Rows.escalateRisesSpec) :=
  OpenClaim.holds_of_wide 7 Try.f7 rfl rfl rfl rfl rfl rfl rfl ⟨rfl, rfl, rfl, rfl, rfl⟩ rfl rfl rfl rfl rfl (by kernel_rfl) Try.func7 (by kernel_rfl)
    (of_decide_eq_true (by kernel_rfl)) (by unfold Func.isWrapper; first | (rw [if_pos (by decide +kernel)]; kernel_rfl) | (rw [if_neg (by decide +kernel)]; exact ⟨rfl, rfl⟩))
    (fun os started H enc _ => lifted os started H enc)

theorem proved : Rows.EscalateRisesSaid :=
  over
#print axioms proved
end Go.Proofs.Ytnghfmefjjkgdaa.escalateRises

