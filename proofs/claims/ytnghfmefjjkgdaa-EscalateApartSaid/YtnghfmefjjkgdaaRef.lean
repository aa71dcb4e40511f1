/- The reference's book: put, Alert, Case, Len, New. -/
import Derived.Test.YtnghfmefjjkgdaaTake
import Derived.Test.YtnghfmefjjkgdaaLives
import Derived.Deep.RegionLaw
namespace Go.Proofs.Ytnghfmefjjkgdaa
open Go.RowKit

theorem step_append_run {P : Program} {ops : Array Oper} {o : Oper} {a : Act} {w : World} {K : Act → World → Prop} {Q : Exit → Act → World → Prop} {E : Prop} (hg : o.guard = none) (s x : Operand) (t : TypeId)
    (ho : o.op = .call { callee := .builtin .append, args := #[s, x], argTypes := #[t, t] }) {v y v' : Value} {w' : World} (hrun : (Builtin.append_ #[t, t] o.type #[v, y]).run P w = .ok v' w')
    (hs : a.eval s = v) (hx : a.eval x = y) (h : K (a.put o.dst v') w') : if Region.wanted o (yielded ops a.tmps) = true then Oper.wp P o a w K Q else E := by
  have hw : Region.wanted o (yielded ops a.tmps) = true := by simp [Region.wanted, hg]
  rw [if_pos hw]
  unfold Oper.wp execOp
  simp only [ho, resolve, invoke, builtin, Sem.run_bind, Sem.run_pure, Result.andThen_ok, List.map_toArray, List.map_cons, List.map_nil, hs, hx, hrun]
  exact h

def PutPost (B : RBk) (s : Sub) (la c l lvl : Int) (rp : Nat) (g : Option Nat) (w : World) (e : Ending) (w' : World) : Prop :=
  ∃ v' g', e = .returned (.bool (decide (l < lvl))) ∧ RIs w' rp v' g' ⟨B.q, B.nw, B.bg, B.L ++ [⟨s, la, c, max l lvl⟩]⟩ ∧ Fr (rp :: g.toList) w w' ∧ ∀ b, g' = some b → g = some b ∨ w.heap.size ≤ b

theorem RIs.ne {w : World} {rp : Nat} {v : Value} {g : Option Nat} {B : RBk} (h : RIs w rp v g B) : ∀ b, g = some b → b ≠ rp := by
  rintro b hb rfl
  obtain ⟨cur, hc⟩ := h.sl.lt _ hb
  rw [h.blk] at hc
  cases hc

set_option maxRecDepth 100000 in
set_option maxHeartbeats 1000000 in
theorem put_any (rp : Nat) (v : Value) (g : Option Nat) (B : RBk) (s : Sub) (la c l lvl : Int) (cb : Bool) (w : World) (hB : RIs w rp v g B) (hcb : cb = !s.rule) (hlen : B.L.length ≤ 256) :
    Calls Try.prog 53 #[.pointer (some ⟨rp, 0, none⟩), .agg #[.bool cb, .int .i64 s.sid, .string s.name, .bool s.v6, .int .u64 s.hi, .int .u64 s.lo, .int .i64 la, .int .i64 c, .int .i64 l], .int .i64 lvl] w (PutPost B s la c l lvl rp g w) := by
  obtain ⟨q, nw, bg, L⟩ := B
  have hrp := lt_of_blk hB.blk
  have HCB := hide hcb
  clear hcb
  have HB := hide hB
  obtain ⟨m, hm⟩ : ∃ m, m = if l < lvl then lvl else l := ⟨_, rfl⟩
  have hsl := HB.out.sl
  have hblk := HB.out.blk
  dsimp only at hsl hblk hlen
  clear hB
  have key : ∃ v' w' g', (Builtin.append_ #[72, 72] 72 #[v, .slice (some ⟨w.heap.size + 1, 0, none⟩) 1 1]).run Try.prog (((w.alloc (.cells #[.bool cb, .int .i64 s.sid, .string s.name, .bool s.v6, .int .u64 s.hi, .int .u64 s.lo, .int .i64 la, .int .i64 c, .int .i64 (if l < lvl then lvl else l)] 91)).alloc (.cells #[.bool cb, .int .i64 s.sid, .string s.name, .bool s.v6, .int .u64 s.hi, .int .u64 s.lo, .int .i64 la, .int .i64 c, .int .i64 (if l < lvl then lvl else l)] 91)).drew) = .ok v' w' ∧
      RIs (w'.setCell ⟨rp, 1, none⟩ v') rp v' g' ⟨q, nw, bg, L ++ [⟨s, la, c, if l < lvl then lvl else l⟩]⟩ ∧ Fr (rp :: g.toList) w (w'.setCell ⟨rp, 1, none⟩ v') ∧ (∀ b, g' = some b → g = some b ∨ w.heap.size ≤ b) ∧
      w'.cell? ⟨rp, 1, none⟩ = some v ∧ w'.frozen? ⟨rp, 1, none⟩ = false ∧ ∃ a n k, v' = .slice a n k := by
    have hlt : ∀ b, g = some b → b < w.heap.size := fun b hb => by obtain ⟨cur, hc⟩ := hsl.lt b hb; exact lt_of_blk hc
    have hsl2 : SlAt 91 9 (((w.alloc (.cells #[.bool cb, .int .i64 s.sid, .string s.name, .bool s.v6, .int .u64 s.hi, .int .u64 s.lo, .int .i64 la, .int .i64 c, .int .i64 (if l < lvl then lvl else l)] 91)).alloc (.cells #[.bool cb, .int .i64 s.sid, .string s.name, .bool s.v6, .int .u64 s.hi, .int .u64 s.lo, .int .i64 la, .int .i64 c, .int .i64 (if l < lvl then lvl else l)] 91)).drew) v g L.length (flatR L) := by
      refine hsl.keep fun b hb => ?_
      have := hlt b hb
      exact (heap_alloc_lt (by simp; omega)).trans (heap_alloc_lt this)
    obtain ⟨v', w', g', happ, hsl', hfr', hg'⟩ := SlAt.append elem91 hsl2 72 ⟨w.heap.size + 1, 0, none⟩ 1 (#[.bool cb, .int .i64 s.sid, .string s.name, .bool s.v6, .int .u64 s.hi, .int .u64 s.lo, .int .i64 la, .int .i64 c, .int .i64 (if l < lvl then lvl else l)] : Array Value).toList rfl (fun j u hj => by
      have hb : (((w.alloc (.cells #[.bool cb, .int .i64 s.sid, .string s.name, .bool s.v6, .int .u64 s.hi, .int .u64 s.lo, .int .i64 la, .int .i64 c, .int .i64 (if l < lvl then lvl else l)] 91)).alloc (.cells #[.bool cb, .int .i64 s.sid, .string s.name, .bool s.v6, .int .u64 s.hi, .int .u64 s.lo, .int .i64 la, .int .i64 c, .int .i64 (if l < lvl then lvl else l)] 91)).drew).heap[w.heap.size + 1]? = some (.cells #[.bool cb, .int .i64 s.sid, .string s.name, .bool s.v6, .int .u64 s.hi, .int .u64 s.lo, .int .i64 la, .int .i64 c, .int .i64 (if l < lvl then lvl else l)] 91 (0, 0)) := heap_alloc_eq (by simp)
      rw [Addr.add_lit, cell_blk hb]; simpa using hj) (by simp [Value.oneCell']) (by omega) (by unfold maxLen; omega)
    have hne := HB.out.ne
    have hrg : rp ∉ g.toList := by
      intro hm
      have : g = some rp := by simpa using hm
      exact hne _ this rfl
    have hrp2 : w'.heap[rp]? = some (.cells #[.int .i64 q, v, .int .i64 nw, .bool bg] 74 (0, 0)) := by
      rw [hfr'.block rp (by simp; omega) hrg]
      refine Eq.trans ?_ hblk
      exact (heap_alloc_lt (by simp; omega)).trans (heap_alloc_lt hrp)
    have hg2 : ∀ b, g' = some b → g = some b ∨ w.heap.size ≤ b := by
      intro b hb
      rcases hg' with h | ⟨h, _⟩
      · exact .inl (by rw [← h]; exact hb)
      · rw [h] at hb
        have := Option.some.inj hb
        simp at this
        exact .inr (by omega)
    refine ⟨v', w', g', happ, ⟨?_, ?_⟩, ?_, hg2, ?_, ?_, ?_⟩
    · rw [heap_set, hrp2]; rfl
    · rw [flatR_snoc, List.length_append]
      rw [HCB.out] at hsl'
      refine SlAt.keep (w' := w'.setCell _ _) hsl' fun b hb => ?_
      rw [heap_set_other]
      rcases hg2 b hb with h | h
      · exact fun e => hne b h e
      · simp; omega
    · refine Fr.setCell (Fr.andThen (S := rp :: g.toList) ((((Fr.refl _ w).alloc _).alloc _).drew) hfr' ?_) (.inl (by simp)) _
      intro b hb
      exact .inl (by simp at hb ⊢; exact .inr hb)
    · rw [cell_blk hrp2]; rfl
    · exact froz_blk hrp2 _
    · obtain ⟨a, c, rfl⟩ := hsl'.shape; exact ⟨_, _, _, rfl⟩
  obtain ⟨v', w', g', happ, hR, hF, hG, c1', f1', a', n', k', rfl⟩ := key
  have HR := hide hR
  have HF := hide hF
  have HG := hide hG
  have HM := hide hm
  clear hm hsl hR hF hG
  have c0 : w.cell? ⟨rp, 0, none⟩ = some (.int .i64 q) := cell_blk hblk 0
  have c1 : w.cell? ⟨rp, 1, none⟩ = some (v) := cell_blk hblk 1
  have c2 : w.cell? ⟨rp, 2, none⟩ = some (.int .i64 nw) := cell_blk hblk 2
  have c3 : w.cell? ⟨rp, 3, none⟩ = some (.bool bg) := cell_blk hblk 3
  have cf0 : w.frozen? ⟨rp, 0, none⟩ = false := froz_blk hblk 0
  have cf1 : w.frozen? ⟨rp, 1, none⟩ = false := froz_blk hblk 1
  have cf2 : w.frozen? ⟨rp, 2, none⟩ = false := froz_blk hblk 2
  have cf3 : w.frozen? ⟨rp, 3, none⟩ = false := froz_blk hblk 3
  have xl : rp < w.heap.size := by omega
  have xe0 : rp ≤ w.heap.size := by omega
  have xe1 : rp ≤ w.heap.size + 1 := by omega
  have xe2 : rp ≤ w.heap.size + 2 := by omega
  clear hblk
  go_enter Try.func53, Try.ntmps53
  go_upto_region 3 with (fail)
  go_region_law (first | (refine step_append_run rfl _ _ 72 rfl happ rfl rfl ?_))
  all_goals
    go_wp2
    all_goals
      go_ret
      have hmx : max l lvl = if l < lvl then lvl else l := by split <;> omega
      refine ⟨_, g', ?_, by rw [hmx]; exact HR.out, HF.out, HG.out⟩
      first
        | rfl
        | exact congrArg (fun b => Ending.returned (.bool b)) (decide_eq_true (by assumption)).symm
        | exact congrArg (fun b => Ending.returned (.bool b)) (decide_eq_false (by assumption)).symm
        | exact congrArg (fun b => Ending.returned (.bool b)) (decide_eq_false (by omega)).symm

theorem RIs.fr {S : List Nat} {w w' : World} {rp : Nat} {v : Value} {g : Option Nat} {B : RBk} (h : RIs w rp v g B) (hf : Fr S w w') (hr : rp ∉ S) (hg : ∀ b, g = some b → b ∉ S) : RIs w' rp v g B :=
  ⟨(hf.block _ (lt_of_blk h.blk) hr).trans h.blk, h.sl.fr hf hg⟩

def stepR (B : RBk) (at_ : Int) (s : Sub) (g : Int → Int) : Int × Bool × RBk :=
  let nw := later B.bg B.nw at_
  let T := tk B.q nw s B.L (0, 0)
  let c := if s.rule then T.1 + 1 else T.1
  (g c, decide (T.2 < g c), ⟨B.q, nw, true, cut256 (others s B.L) ++ [⟨s, nw, c, max T.2 (g c)⟩]⟩)

def RStepPost (rp : Nat) (w : World) (r : Int × Bool × RBk) (e : Ending) (w' : World) : Prop :=
  ∃ v' g', e = .returned (.tuple #[.int .i64 r.1, .bool r.2.1]) ∧ RIs w' rp v' g' r.2.2 ∧ Fr [rp] w w' ∧ ∀ b, g' = some b → w.heap.size ≤ b

theorem cut256_len {M : List RS} (h : M.length ≤ 256) : (cut256 M).length ≤ 255 := by
  unfold cut256
  split
  · simp; omega
  · omega
theorem others_le (s : Sub) (L : List RS) : (others s L).length ≤ L.length := List.length_filter_le _ _

set_option maxRecDepth 100000 in
set_option maxHeartbeats 1000000 in
theorem ralert_any (rp : Nat) (a : Al) (val : Int) (v : Value) (g : Option Nat) (B : RBk) (w : World) (hB : RIs w rp v g B) (hlen : B.L.length ≤ 256) (hcnt : ∀ nw, 0 ≤ (tk B.q nw a.sub B.L (0, 0)).1 ∧ (tk B.q nw a.sub B.L (0, 0)).1 ≤ 1000000) :
    Calls Try.prog 46 #[.pointer (some ⟨rp, 0, none⟩), .agg a.cells, .int .i64 val] w (RStepPost rp w (stepR B a.at_ a.sub (alertLevel a.prio val))) := by
  have hrp := lt_of_blk hB.blk
  obtain ⟨w1, hw1⟩ : ∃ w1, w1 = w.alloc (.cells a.cells 37) := ⟨_, rfl⟩
  have hF1 : Fr [] w w1 := by rw [hw1]; exact (Fr.refl _ _).alloc _
  have hs1 : w1.heap.size = w.heap.size + 1 := by rw [hw1]; simp
  have hblk1 : w1.heap[w.heap.size]? = some (.cells a.cells 37 (0, 0)) := by rw [hw1, heap_alloc_eq rfl]
  obtain ⟨nw', hnw⟩ : ∃ n, n = later B.bg B.nw a.at_ := ⟨_, rfl⟩
  obtain ⟨T, hT⟩ : ∃ T, T = tk B.q nw' a.sub B.L (0, 0) := ⟨_, rfl⟩
  have hc1 := hcnt nw'
  rw [← hT] at hc1
  obtain ⟨c, l⟩ := T
  obtain ⟨M, hM⟩ : ∃ M, M = cut256 (others a.sub B.L) := ⟨_, rfl⟩
  obtain ⟨sv, hsv⟩ : ∃ sv, sv = sev a.prio val := ⟨_, rfl⟩
  have hsb := sev_bd a.prio val
  have hs13 := hide (sev13_any a.prio val)
  rw [← hsv] at hsb hs13
  have hMl : M.length ≤ 255 := by rw [hM]; exact cut256_len (Nat.le_trans (others_le _ _) hlen)
  obtain ⟨n, hn⟩ : ∃ n, n = min (sv + (if 100 ≤ c + 1 then 2 else if 10 ≤ c + 1 then 1 else 0)) 9 := ⟨_, rfl⟩
  have HR : Hid (stepR B a.at_ a.sub (alertLevel a.prio val) = (n, decide (l < n), ⟨B.q, nw', true, M ++ [⟨a.sub, nw', c + 1, max l n⟩]⟩)) := by
    show stepR B a.at_ a.sub (alertLevel a.prio val) = _
    have hr : a.sub.rule = true := rfl
    have hal : alertLevel a.prio val (c + 1) = n := by rw [hn, hsv]; rfl
    unfold stepR
    simp only [hr, ← hnw, ← hT, ← hM, hal, if_true]
  have htk : Hid (Calls Try.prog 52 #[.pointer (some ⟨rp, 0, none⟩), .agg #[.bool false, .int .i64 a.sid, .string ⟨#[]⟩, .bool a.v6, .int .u64 a.hi, .int .u64 a.lo, .int .i64 0, .int .i64 0, .int .i64 0], .int .i64 a.at_] w1
      (fun e w' => ∃ v' g', e = .returned (.agg #[.bool false, .int .i64 a.sid, .string ⟨#[]⟩, .bool a.v6, .int .u64 a.hi, .int .u64 a.lo, .int .i64 nw', .int .i64 c, .int .i64 l]) ∧ RIs w' rp v' g' ⟨B.q, nw', true, M⟩ ∧ Fr [rp] w1 w' ∧ ∀ b, g' = some b → w1.heap.size ≤ b)) := by
    refine (take_any rp v g B a.sub a.at_ false w1 (hB.fr hF1 (by simp) (by simp)) rfl hlen).mono ?_
    rintro e w' ⟨v', g', h1, h2, h3, h4⟩
    rw [← hnw, ← hT] at h1
    rw [← hnw, ← hM] at h2
    exact ⟨v', g', h1, h2, h3, h4⟩
  have HT := hide hT
  have HNW := hide hnw
  have HM := hide hM
  have HSV := hide hsv
  have HN := hide hn
  have HW := hide hw1
  have HF1 := hide hF1
  clear hT hnw hM hsv hn hF1 hcnt hB
  have hw := HW.out
  subst hw
  simp only [Al.cells] at htk HF1 hblk1 hs1 ⊢
  go_enter Try.func46, Try.ntmps46
  go_wp2_with fail
  refine (unhide htk).mono ?_
  rintro e w2 ⟨v2, g2, rfl, hB2, hf2, hg2⟩
  have hblk2 := (hf2.block _ (lt_of_blk hblk1) (by simp; omega)).trans hblk1
  have p3 : w2.cell? ⟨w.heap.size, 3, none⟩ = some (.int .i64 a.prio) := by rw [cell_blk hblk2]; rfl
  have hl2 : w.heap.size < w2.heap.size := lt_of_blk hblk2
  have hrp2 : rp < w2.heap.size := by omega
  have xl : w.heap.size < w2.heap.size := by omega
  have xe0 : w.heap.size ≤ w2.heap.size := by omega
  have xe1 : w.heap.size ≤ w2.heap.size + 1 := by omega
  have hf2a : Fr [] w2 (w2.alloc (.cells #[.bool false, .int .i64 a.sid, .string ⟨#[]⟩, .bool a.v6, .int .u64 a.hi, .int .u64 a.lo, .int .i64 nw', .int .i64 (c + 1), .int .i64 l] 91)) := (Fr.refl _ _).alloc _
  have hput : Hid (∀ n', n' = n → Calls Try.prog 53 #[.pointer (some ⟨rp, 0, none⟩), .agg #[.bool false, .int .i64 a.sid, .string ⟨#[]⟩, .bool a.v6, .int .u64 a.hi, .int .u64 a.lo, .int .i64 nw', .int .i64 (c + 1), .int .i64 l], .int .i64 n'] (w2.alloc (.cells #[.bool false, .int .i64 a.sid, .string ⟨#[]⟩, .bool a.v6, .int .u64 a.hi, .int .u64 a.lo, .int .i64 nw', .int .i64 (c + 1), .int .i64 l] 91))
      (fun e w' => ∃ v' g', e = .returned (.bool (decide (l < n))) ∧ RIs w' rp v' g' ⟨B.q, nw', true, M ++ [⟨a.sub, nw', c + 1, max l n⟩]⟩ ∧ Fr [rp] w w' ∧ ∀ b, g' = some b → w.heap.size ≤ b)) := by
    rintro n' rfl
    refine (put_any rp v2 g2 ⟨B.q, nw', true, M⟩ a.sub nw' (c + 1) l n' false _ (hB2.fr hf2a (by simp) (by simp)) rfl (by dsimp only; omega)).mono ?_
    rintro e w' ⟨v', g', h1, h2, h3, h4⟩
    have h12 : Fr [rp] w w2 := (HF1.out.mono (by simp)).andThen hf2 (by simp)
    have hsz := h12.size
    refine ⟨v', g', h1, h2, (h12.alloc _).andThen h3 ?_, ?_⟩
    · intro b hb
      simp at hb
      rcases hb with rfl | hb
      · exact .inl (by simp)
      · exact .inr (by have := hg2 b hb; omega)
    · intro b hb
      rcases h4 b hb with h | h
      · have := hg2 b h; omega
      · simp at h; omega
  clear hB2 hf2 hg2 hblk2 hf2a
  go_wp2_with (first | ((with_reducible refine wpList_var' rfl rfl 91 8 20 rfl rfl rfl rfl z91 #[.bool false, .int .i64 a.sid, .string ⟨#[]⟩, .bool a.v6, .int .u64 a.hi, .int .u64 a.lo, .int .i64 nw', .int .i64 c, .int .i64 l] zero91 ?_ ?_ ?_ ?_ ?_ ?_ ?_); decide; exact of_decide_eq_true rfl; exact size91; rfl; rfl; rfl; go_frame) | (go_at_call 13; refine (unhide hs13 _).mono ?_; rintro e w' ⟨rfl, rfl⟩) | (go_at_call 53; fail_if_success skip))
  all_goals
    refine (unhide hput _ (by rw [HN.out]; omega)).mono ?_
    rintro e w3 ⟨v3, g3, rfl, hB3, hf3, hg3⟩
    have HB3 := hide hB3
    have HF3 := hide hf3
    have HG3 := hide hg3
    clear hB3 hf3 hg3
    go_wp2_with fail
    go_ret2
    rw [HR.out]
    exact ⟨v3, g3, congrArg (fun x => Ending.returned (.tuple #[.int .i64 x, .bool (decide (l < n))])) (by rw [HN.out]; omega), HB3.out, HF3.out, HG3.out⟩

set_option maxRecDepth 100000 in
set_option maxHeartbeats 1000000 in
theorem rcase_any (rp : Nat) (a : Ca) (val : Int) (v : Value) (g : Option Nat) (B : RBk) (w : World) (hB : RIs w rp v g B) (hlen : B.L.length ≤ 256) :
    Calls Try.prog 44 #[.pointer (some ⟨rp, 0, none⟩), .agg a.cells, .int .i64 val] w (RStepPost rp w (stepR B a.at_ a.sub (fun _ => caseLevel a.level val))) := by
  have hrp := lt_of_blk hB.blk
  obtain ⟨w1, hw1⟩ : ∃ w1, w1 = w.alloc (.cells a.cells 39) := ⟨_, rfl⟩
  have hF1 : Fr [] w w1 := by rw [hw1]; exact (Fr.refl _ _).alloc _
  have hs1 : w1.heap.size = w.heap.size + 1 := by rw [hw1]; simp
  have hblk1 : w1.heap[w.heap.size]? = some (.cells a.cells 39 (0, 0)) := by rw [hw1, heap_alloc_eq rfl]
  obtain ⟨nw', hnw⟩ : ∃ n, n = later B.bg B.nw a.at_ := ⟨_, rfl⟩
  obtain ⟨T, hT⟩ : ∃ T, T = tk B.q nw' a.sub B.L (0, 0) := ⟨_, rfl⟩
  obtain ⟨c, l⟩ := T
  obtain ⟨M, hM⟩ : ∃ M, M = cut256 (others a.sub B.L) := ⟨_, rfl⟩
  obtain ⟨x, hx⟩ : ∃ x, x = min (max a.level 0) 9 := ⟨_, rfl⟩
  obtain ⟨y, hy⟩ : ∃ y, y = min (max val 0) 3 := ⟨_, rfl⟩
  have hxb : 0 ≤ x ∧ x ≤ 9 := by omega
  have hyb : 0 ≤ y ∧ y ≤ 3 := by omega
  have hl1 := fun w => hide (limit43_any a.level 0 9 w)
  have hl2 := fun w => hide (limit43_any val 0 3 w)
  rw [← hx] at hl1
  rw [← hy] at hl2
  have hMl : M.length ≤ 255 := by rw [hM]; exact cut256_len (Nat.le_trans (others_le _ _) hlen)
  obtain ⟨n, hn⟩ : ∃ n, n = min (x + y) 9 := ⟨_, rfl⟩
  have HR : Hid (stepR B a.at_ a.sub (fun _ => caseLevel a.level val) = (n, decide (l < n), ⟨B.q, nw', true, M ++ [⟨a.sub, nw', c, max l n⟩]⟩)) := by
    show stepR B a.at_ a.sub (fun _ => caseLevel a.level val) = _
    have hr : a.sub.rule = false := rfl
    have hal : caseLevel a.level val = n := by rw [hn, hx, hy]; unfold caseLevel; omega
    unfold stepR
    simp only [hr, ← hnw, ← hT, ← hM, hal]
    rfl
  have htk : Hid (Calls Try.prog 52 #[.pointer (some ⟨rp, 0, none⟩), .agg #[.bool true, .int .i64 0, .string a.name, .bool a.v6, .int .u64 a.hi, .int .u64 a.lo, .int .i64 0, .int .i64 0, .int .i64 0], .int .i64 a.at_] w1
      (fun e w' => ∃ v' g', e = .returned (.agg #[.bool true, .int .i64 0, .string a.name, .bool a.v6, .int .u64 a.hi, .int .u64 a.lo, .int .i64 nw', .int .i64 c, .int .i64 l]) ∧ RIs w' rp v' g' ⟨B.q, nw', true, M⟩ ∧ Fr [rp] w1 w' ∧ ∀ b, g' = some b → w1.heap.size ≤ b)) := by
    refine (take_any rp v g B a.sub a.at_ true w1 (hB.fr hF1 (by simp) (by simp)) rfl hlen).mono ?_
    rintro e w' ⟨v', g', h1, h2, h3, h4⟩
    rw [← hnw, ← hT] at h1
    rw [← hnw, ← hM] at h2
    exact ⟨v', g', h1, h2, h3, h4⟩
  have HT := hide hT
  have HNW := hide hnw
  have HM := hide hM
  have HX := hide hx
  have HY := hide hy
  have HN := hide hn
  have HW := hide hw1
  have HF1 := hide hF1
  clear hT hnw hM hx hy hn hF1 hB
  have hw := HW.out
  subst hw
  simp only [Ca.cells] at htk HF1 hblk1 hs1 ⊢
  go_enter Try.func44, Try.ntmps44
  go_wp2_with fail
  refine (unhide htk).mono ?_
  rintro e w2 ⟨v2, g2, rfl, hB2, hf2, hg2⟩
  have hblk2 := (hf2.block _ (lt_of_blk hblk1) (by simp; omega)).trans hblk1
  have p9 : w2.cell? ⟨w.heap.size, 9, none⟩ = some (.int .i64 a.level) := by rw [cell_blk hblk2]; rfl
  have hl2' : w.heap.size < w2.heap.size := lt_of_blk hblk2
  have hrp2 : rp < w2.heap.size := by omega
  have xl : w.heap.size < w2.heap.size := by omega
  have xe0 : w.heap.size ≤ w2.heap.size := by omega
  have xe1 : w.heap.size ≤ w2.heap.size + 1 := by omega
  have hf2a : Fr [] w2 (w2.alloc (.cells #[.bool true, .int .i64 0, .string a.name, .bool a.v6, .int .u64 a.hi, .int .u64 a.lo, .int .i64 nw', .int .i64 c, .int .i64 l] 91)) := (Fr.refl _ _).alloc _
  have hput : Hid (∀ n', n' = n → Calls Try.prog 53 #[.pointer (some ⟨rp, 0, none⟩), .agg #[.bool true, .int .i64 0, .string a.name, .bool a.v6, .int .u64 a.hi, .int .u64 a.lo, .int .i64 nw', .int .i64 c, .int .i64 l], .int .i64 n'] (w2.alloc (.cells #[.bool true, .int .i64 0, .string a.name, .bool a.v6, .int .u64 a.hi, .int .u64 a.lo, .int .i64 nw', .int .i64 c, .int .i64 l] 91))
      (fun e w' => ∃ v' g', e = .returned (.bool (decide (l < n))) ∧ RIs w' rp v' g' ⟨B.q, nw', true, M ++ [⟨a.sub, nw', c, max l n⟩]⟩ ∧ Fr [rp] w w' ∧ ∀ b, g' = some b → w.heap.size ≤ b)) := by
    rintro n' rfl
    refine (put_any rp v2 g2 ⟨B.q, nw', true, M⟩ a.sub nw' c l n' true _ (hB2.fr hf2a (by simp) (by simp)) rfl (by dsimp only; omega)).mono ?_
    rintro e w' ⟨v', g', h1, h2, h3, h4⟩
    have h12 : Fr [rp] w w2 := (HF1.out.mono (by simp)).andThen hf2 (by simp)
    have hsz := h12.size
    refine ⟨v', g', h1, h2, (h12.alloc _).andThen h3 ?_, ?_⟩
    · intro b hb
      simp at hb
      rcases hb with rfl | hb
      · exact .inl (by simp)
      · exact .inr (by have := hg2 b hb; omega)
    · intro b hb
      rcases h4 b hb with h | h
      · have := hg2 b h; omega
      · simp at h; omega
  clear hB2 hf2 hg2 hblk2 hf2a
  go_wp2_with (first | ((with_reducible refine wpList_var' rfl rfl 91 8 19 rfl rfl rfl rfl z91 #[.bool true, .int .i64 0, .string a.name, .bool a.v6, .int .u64 a.hi, .int .u64 a.lo, .int .i64 nw', .int .i64 c, .int .i64 l] zero91 ?_ ?_ ?_ ?_ ?_ ?_ ?_); decide; exact of_decide_eq_true rfl; exact size91; rfl; rfl; rfl; go_frame) | (go_at_call 43; fail_if_success skip))
  refine (unhide (hl1 _)).mono ?_
  rintro e w' ⟨rfl, rfl⟩
  go_wp2_with fail
  refine (unhide (hl2 _)).mono ?_
  rintro e w' ⟨rfl, rfl⟩
  go_wp2_with fail
  all_goals
    refine (unhide hput _ (by rw [HN.out]; omega)).mono ?_
    rintro e w3 ⟨v3, g3, rfl, hB3, hf3, hg3⟩
    have HB3 := hide hB3
    have HF3 := hide hf3
    have HG3 := hide hg3
    clear hB3 hf3 hg3
    go_wp2_with fail
    go_ret2
    rw [HR.out]
    exact ⟨v3, g3, congrArg (fun x => Ending.returned (.tuple #[.int .i64 x, .bool (decide (l < n))])) (by rw [HN.out]; omega), HB3.out, HF3.out, HG3.out⟩

theorem rlen_any (rp : Nat) (v : Value) (g : Option Nat) (B : RBk) (w : World) (hB : RIs w rp v g B) :
    Calls Try.prog 45 #[.pointer (some ⟨rp, 0, none⟩)] w fun e w' => e = .returned (.int .i64 B.L.length) ∧ w = w' := by
  obtain ⟨a, c, rfl⟩ := hB.sl.shape
  have c1 : w.cell? ⟨rp, 1, none⟩ = some (.slice a B.L.length c) := by rw [cell_blk hB.blk]; rfl
  go_enter Try.func45, Try.ntmps45
  go_wp2
  go_ret
  exact ⟨rfl, rfl⟩

def rbk0 (q : Int) : RBk := ⟨max 1 (min 1099511627776 q), 0, false, []⟩

theorem rnew_any (n : Int) (w : World) :
    Calls Try.prog 16 #[.int .i64 n] w fun e w' => e = .returned (.pointer (some ⟨w.heap.size, 0, none⟩)) ∧ RIs w' w.heap.size (.slice none 0 0) none (rbk0 n) ∧ Fr [] w w' ∧ w'.heap.size = w.heap.size + 1 := by
  obtain ⟨m, hm⟩ : ∃ m, m = min (max n 1) 1099511627776 := ⟨_, rfl⟩
  have h1 := hide (limit43_any n 1 1099511627776 w)
  rw [← hm] at h1
  have hr : Hid (rbk0 n = ⟨m, 0, false, []⟩) := by
    show rbk0 n = _
    unfold rbk0
    rw [hm]
    congr 1
    omega
  clear hm
  go_enter Try.func16, Try.ntmps16
  go_wp2_with fail
  refine (unhide h1).mono ?_
  rintro e w' ⟨rfl, rfl⟩
  go_wp2_with fail
  go_ret
  refine ⟨rfl, ?_, (Fr.refl _ _).alloc _, by simp⟩
  rw [hr.out]
  exact ⟨heap_alloc_eq rfl, SlAt.nil_ _⟩
end Go.Proofs.Ytnghfmefjjkgdaa

