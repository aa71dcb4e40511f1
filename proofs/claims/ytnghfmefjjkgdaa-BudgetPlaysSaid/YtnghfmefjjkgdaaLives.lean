/- The book's steps stay within bounds; the example that every statement of layer 53 asks first. -/
import Derived.Test.YtnghfmefjjkgdaaBook
import Derived.Test.YtnghfmefjjkgdaaVar
namespace Go.Proofs.Ytnghfmefjjkgdaa
open Go.RowKit

theorem mem_mput {κ ν : Type} [DecidableEq κ] {M : List (κ × ν)} {k : κ} {v : ν} {p : κ × ν} (h : p ∈ mput M k v) : p ∈ M ∨ p = (k, v) := by
  unfold mput at h
  split at h
  · obtain ⟨q, hq, rfl⟩ := List.mem_map.1 h
    split
    · exact .inr rfl
    · exact .inl hq
  · simpa using h

theorem Made.sub {M M1 : List (Sub × Ent)} {s : Sub} (h : Made M s M1) : ∀ p ∈ M1, p ∈ M := by
  unfold Made at h
  split at h
  · obtain ⟨f, e, _, _, rfl⟩ := h
    intro p hp
    exact (List.mem_filter.1 hp).1
  · rw [h]; exact fun p hp => hp

theorem Made.short {M M1 : List (Sub × Ent)} {s : Sub} (h : Made M s M1) (hl : M.length < 256) : M1 = M := by
  unfold Made at h
  rwa [if_neg (by omega)] at h

theorem Enters.ok {B B' : Bk} {at_ : Int} {s : Sub} {g : Int → Int} {n : Int} {nt : Bool} (h : Enters B at_ s g n nt B') (ok : B.Ok) (hc : B.cl < 1000000) : B'.Ok := by
  obtain ⟨M1, hm, _, _, rfl⟩ := h
  have h0 := ok.cl
  have hcnt := entOf_cnt ok (later B.bg B.nw at_) s
  refine ⟨⟨by dsimp only; omega, by dsimp only; omega⟩, fun p hp => ?_⟩
  rcases mem_mput hp with h1 | rfl
  · have := ok.ent p (hm.sub p h1)
    dsimp only
    omega
  · simp only [entBehind]
    refine ⟨by omega, by omega, ?_, ?_⟩ <;> split <;> omega

/-- The step where nothing is forgotten. -/
def stepM (B : Bk) (at_ : Int) (s : Sub) (g : Int → Int) : Int × Bool × Bk :=
  let nw := later B.bg B.nw at_
  let e := entOf B.q nw B.M s
  let n := g (if s.rule = true then e.count + 1 else e.count)
  (n, decide (e.level < n), ⟨B.q, B.cl + 1, nw, true, mput B.M s (entBehind nw B.cl e s.rule n)⟩)

theorem Enters.short {B B' : Bk} {at_ : Int} {s : Sub} {g : Int → Int} {n : Int} {nt : Bool} (h : Enters B at_ s g n nt B') (hl : B.M.length < 256) : (n, nt, B') = stepM B at_ s g := by
  obtain ⟨M1, hm, rfl, rfl, rfl⟩ := h
  rw [hm.short hl]
  rfl

def bk0 (q : Int) : Bk := ⟨max 1 (min 1099511627776 q), 0, 0, false, []⟩
theorem bk0_ok (q : Int) : (bk0 q).Ok := ⟨⟨by simp [bk0], by simp [bk0]⟩, fun p hp => by cases hp⟩

theorem new_bk (q : Int) (w : World) :
    Calls Try.prog 15 #[.int .i64 q] w fun e w' => e = .returned (.pointer (some ⟨w.heap.size + 1, 0, none⟩)) ∧ BookIs w' (w.heap.size + 1) w.heap.size (bk0 q) ∧ Fr [] w w' ∧ w'.heap.size = w.heap.size + 2 := by
  refine (new_any q w).mono ?_
  rintro e w' ⟨rfl, rfl⟩
  refine ⟨rfl, ⟨by rw [heap_alloc_eq (by simp)]; rfl, ⟨#[], 0, ?_, ⟨rfl, by simp [bk0], by simp, by simp⟩⟩⟩, ((Fr.refl _ _).alloc _).alloc _, by simp⟩
  rw [heap_alloc_lt (by simp), heap_alloc_eq rfl]

theorem len_bk (pb bm : Nat) (B : Bk) (w : World) (hB : BookIs w pb bm B) :
    Calls Try.prog 18 #[.pointer (some ⟨pb, 0, none⟩)] w fun e w' => e = .returned (.int .i64 B.M.length) ∧ w = w' :=
  len_any pb bm _ B.M w hB.blk rfl hB.map

def zi : Value := .int .i64 0
def alOne : Al := ⟨0, 1, 3, false, 0, 0, zi, zi, zi, zi, .bool false, .int .u64 0, .int .u64 0, zi, zi, zi, zi, zi, zi, zi, .bool false⟩
def caOne : Ca := ⟨⟨#[110]⟩, 0, false, 0, 0, 7, zi, .bool false, .int .u64 0, .int .u64 0, .bool false⟩

def lv1 := stepM (bk0 1000) 0 alOne.sub (alertLevel 3 1)
def lv2 := stepM lv1.2.2 0 alOne.sub (alertLevel 3 1)
def lv3 := stepM lv2.2.2 0 caOne.sub (fun _ => caseLevel 7 3)
theorem lv1_is : lv1.1 = 3 ∧ lv1.2.1 = true ∧ lv1.2.2.M.length = 1 := by decide +kernel
theorem lv2_is : lv2.1 = 3 ∧ lv2.2.1 = false ∧ lv2.2.2.M.length = 1 := by decide +kernel
theorem lv3_is : lv3.1 = 9 ∧ lv3.2.1 = true ∧ lv3.2.2.M.length = 2 := by decide +kernel

theorem step3 {B B' : Bk} {at_ : Int} {s : Sub} {g : Int → Int} {n : Int} {nt : Bool} {L : Int × Bool × Bk} (h : Enters B at_ s g n nt B') (hl : B.M.length < 256) (hL : stepM B at_ s g = L) : n = L.1 ∧ nt = L.2.1 ∧ B' = L.2.2 := by
  have h1 := h.short hl
  rw [hL] at h1
  rw [← h1]
  exact ⟨rfl, rfl, rfl⟩

def z37 : Array Value := #[.int .i64 0, .int .i64 0, .int .i64 0, .int .i64 0, .int .i64 0, .int .i64 0, .int .i64 0, .bool false, .int .u64 0, .int .u64 0, .bool false, .int .u64 0, .int .u64 0, .int .i64 0, .int .i64 0, .int .i64 0, .int .i64 0, .int .i64 0, .int .i64 0, .int .i64 0, .bool false]
theorem zero37 (W : World) : (zeroValue 37).run Try.prog W = .ok (.agg z37) W := by kernel_rfl
theorem size37 : (Try.prog.info? 37).map (·.size) = some 21 := by kernel_rfl
theorem struct37 : ∃ fs, Try.prog.underlying 37 = some (.struct fs) := ⟨_, Try.underlying37⟩

theorem alOne_one : alOne.cells.toList.all (·.oneCell') = true := rfl

set_option maxRecDepth 100000 in
set_option maxHeartbeats 1000000 in
theorem lives_any (w : World) : Calls Try.prog 14 #[] w fun e w' => e = .returned (.bool true) ∧ Fr [] w w' := by
  go_enter Try.func14, Try.ntmps14
  go_wp2_with fail
  refine (new_bk 1000 _).mono ?_
  rintro e w1 ⟨rfl, hB0, hf1, hs1⟩
  have HB0 := hide hB0
  have HF1 := hide hf1
  have hsz := hs1
  clear hB0 hf1 hs1
  have hblk := heap_alloc_eq (w := w1) (o := .cells alOne.cells 37) hsz.symm
  have HB1 := hide (HB0.out.fr (((Fr.refl [] w1).alloc (.cells alOne.cells 37))) (by simp) (by simp))
  go_wp2_with (first | (refine wpList_var rfl rfl 37 2 (.tmp 12) rfl rfl rfl rfl (by simp) z37 alOne.cells zero37 size37 rfl alOne_one rfl ?_) | (refine wpList_load_row rfl 37 (.tmp 2) rfl (w.heap.size + 2) rfl 37 alOne.cells (0, 0) _ hblk Try.underlying37 rfl size37 ?_))
  refine (alert_any _ _ alOne 1 _ _ HB1.out (bk0_ok _)).mono ?_
  rintro e w2 ⟨n1, t1, B1, hE1, rfl, hB1, hf2⟩
  obtain ⟨rfl, rfl, rfl⟩ := step3 (L := lv1) hE1 (by decide) rfl
  have OK1 := hide (hE1.ok (bk0_ok _) (by decide))
  have hblk2 := (hf2.block _ (lt_of_blk hblk) (by simp)).trans hblk
  have HF2 := hide hf2
  have HB2 := hide hB1
  clear hE1 hB1 hf2 hblk
  go_wp2_with ((refine wpList_load_row rfl 37 (.tmp 2) rfl (w.heap.size + 2) rfl 37 alOne.cells (0, 0) _ hblk2 Try.underlying37 rfl size37 ?_))
  refine (alert_any _ _ alOne 1 _ _ HB2.out OK1.out).mono ?_
  rintro e w3 ⟨n2, t2, B2, hE2, rfl, hB2, hf3⟩
  obtain ⟨rfl, rfl, rfl⟩ := step3 (L := lv2) hE2 (by have := lv1_is.2.2; omega) rfl
  have OK2 := hide (hE2.ok OK1.out (by decide +kernel))
  have HF3 := hide hf3
  have HB3 := hide hB2
  clear hE2 hB2 hf3 hblk2
  have hcase := hide (case_any _ _ caOne 3 _ _ HB3.out OK2.out)
  simp only [Ca.cells, caOne, zi] at hcase
  go_wp2_with fail
  refine (unhide hcase).mono ?_
  rintro e w4 ⟨n3, t3, B3, hE3, rfl, hB3, hf4⟩
  obtain ⟨rfl, rfl, rfl⟩ := step3 (L := lv3) hE3 (by have := lv2_is.2.2; omega) rfl
  have HF4 := hide hf4
  have HB4 := hide hB3
  clear hE3 hB3 hf4
  have hn1 : lv1.1 = 3 := lv1_is.1
  have hn2 : lv2.1 = 3 := lv2_is.1
  have hn3 : lv3.1 = 9 := lv3_is.1
  have ht1 : lv1.2.1 = true := lv1_is.2.1
  have ht2 : lv2.2.1 = false := lv2_is.2.1
  have ht3 : lv3.2.1 = true := lv3_is.2.1
  have hsev : sev 1 3 = 7 := by decide
  have hl2 : lv3.2.2.M.length = 2 := lv3_is.2.2
  go_wp2_with (first | (go_at_call 12; refine (sev_any _ _ _).mono ?_; rintro e w' ⟨rfl, rfl⟩) | (go_at_call 18; refine (len_bk _ _ _ _ HB4.out).mono ?_; rintro e w' ⟨rfl, rfl⟩))
  go_ret
  refine ⟨rfl, ?_⟩
  have hT : ∀ x ∈ [w.heap.size + 1, w.heap.size], x ∈ ([] : List Nat) ∨ w.heap.size ≤ x := by simp
  exact (((HF1.out.alloc _).andThen HF2.out hT).andThen HF3.out hT).andThen HF4.out hT

/-! ### EscalateSeverities -/
theorem limit43_any (n lo hi : Int) (w : World) :
    Calls Try.prog 43 #[.int .i64 n, .int .i64 lo, .int .i64 hi] w fun e w' => e = .returned (.int .i64 (min (max n lo) hi)) ∧ w = w' := by
  go_enter Try.func43, Try.ntmps43
  go_wp2
  all_goals
    go_ret
    exact ⟨ret_int (by omega), rfl⟩

theorem sev13_any (p v : Int) (w : World) :
    Calls Try.prog 13 #[.int .i64 p, .int .i64 v] w fun e w' => e = .returned (.int .i64 (sev p v)) ∧ w = w' := by
  obtain ⟨a, ha⟩ : ∃ a, a = min (max p 1) 4 := ⟨_, rfl⟩
  obtain ⟨b, hb⟩ : ∃ b, b = min (max v 0) 3 := ⟨_, rfl⟩
  have ha1 : 1 ≤ a ∧ a ≤ 4 := by omega
  have hb1 : 0 ≤ b ∧ b ≤ 3 := by omega
  have h1 := hide (limit43_any p 1 4 w)
  have h2 := hide (limit43_any v 0 3 w)
  rw [← ha] at h1
  rw [← hb] at h2
  have hs : Hid (sev p v = 5 - a + b) := by
    show sev p v = 5 - a + b
    unfold sev
    omega
  clear ha hb
  go_enter Try.func13, Try.ntmps13
  go_wp2_with fail
  refine (unhide h1).mono ?_
  rintro e w' ⟨rfl, rfl⟩
  go_wp2_with fail
  refine (unhide h2).mono ?_
  rintro e w' ⟨rfl, rfl⟩
  go_wp2_with fail
  go_ret
  exact ⟨ret_int hs.out.symm, rfl⟩
end Go.Proofs.Ytnghfmefjjkgdaa

