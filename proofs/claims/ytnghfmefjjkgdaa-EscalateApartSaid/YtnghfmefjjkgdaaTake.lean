/- The reference's take: the subjects but the one that is asked for, and what of it counts. -/
import Derived.Test.YtnghfmefjjkgdaaBook
import Derived.Test.YtnghfmefjjkgdaaVar
import Derived.Test.YtnghfmefjjkgdaaSl
import Derived.Deep.LoopGhost
import Derived.Deep.DeepCutAuto
namespace Go.Proofs.Ytnghfmefjjkgdaa
open Go.RowKit

structure RS where
  s : Sub
  last : Int
  count : Int
  level : Int

def encR (r : RS) : List Value := [.bool (!r.s.rule), .int .i64 r.s.sid, .string r.s.name, .bool r.s.v6, .int .u64 r.s.hi, .int .u64 r.s.lo, .int .i64 r.last, .int .i64 r.count, .int .i64 r.level]
def flatR (L : List RS) : List Value := L.flatMap encR
theorem encR_len (r : RS) : (encR r).length = 9 := rfl
theorem flatR_len (L : List RS) : (flatR L).length = L.length * 9 := by
  induction L with
  | nil => rfl
  | cons r L ih => simp only [flatR, List.flatMap_cons, List.length_append, List.length_cons] at ih ⊢; rw [encR_len, ih]; omega
theorem flatR_at (L : List RS) : ∀ (k j : Nat) (r : RS), L[k]? = some r → j < 9 → (flatR L)[k * 9 + j]? = (encR r)[j]? := by
  induction L with
  | nil => intro k j r h; simp at h
  | cons a L ih =>
    intro k j r h hj
    simp only [flatR, List.flatMap_cons]
    cases k with
    | zero =>
      simp at h
      subst h
      rw [List.getElem?_append_left (by rw [encR_len]; omega)]
      simp
    | succ k =>
      simp at h
      rw [List.getElem?_append_right (by rw [encR_len]; omega), encR_len]
      have := ih k j r h hj
      rw [← this]
      congr 1
      omega
theorem flatR_snoc (L : List RS) (r : RS) : flatR (L ++ [r]) = flatR L ++ encR r := by simp [flatR]

theorem elem91 : ElemOk Try.prog 72 91 9 80 := ⟨Try.underlying72, by
  have h : (Try.prog.info? 91).map (fun i => (i.zero.map (fun z => z.cells.size), i.size, i.bytes)) = some (some 9, 9, 80) := by kernel_rfl
  cases hq : Try.prog.info? 91 with
  | none => rw [hq] at h; cases h
  | some i =>
    rw [hq] at h
    simp only [Option.map_some, Option.some.injEq, Prod.mk.injEq] at h
    obtain ⟨h1, h2, h3⟩ := h
    cases hz : i.zero with
    | none => rw [hz] at h1; cases h1
    | some z =>
      rw [hz] at h1
      simp only [Option.map_some, Option.some.injEq] at h1
      exact ⟨i, z, rfl, hz, h2, h3, h1⟩, by decide⟩

/-- Does what is known of a subject still count? -/
def live (q now last : Int) : Bool := decide (now ≤ last) || decide (age now last < IntKind.u64.wrap q)
/-- What the loop of take makes of count and level. -/
def tk (q now : Int) (s : Sub) : List RS → Int × Int → Int × Int
  | [], p => p
  | x :: r, p => tk q now s r (if x.s = s ∧ live q now x.last = true then (x.count, x.level) else p)
def others (s : Sub) (L : List RS) : List RS := L.filter (fun x => !decide (x.s = s))
def cut256 (L : List RS) : List RS := if L.length = 256 then L.drop 1 else L
theorem tk_snoc (q now : Int) (s : Sub) (x : RS) : ∀ (L : List RS) (p : Int × Int), tk q now s (L ++ [x]) p = if x.s = s ∧ live q now x.last = true then (x.count, x.level) else tk q now s L p
  | [], _ => rfl
  | _ :: L, _ => tk_snoc q now s x L _
theorem others_len (s : Sub) (L : List RS) (k : Nat) : (others s (L.take k)).length ≤ k := Nat.le_trans (List.length_filter_le _ _) (by simp; omega)
theorem others_snoc (s : Sub) (x : RS) (L : List RS) : others s (L ++ [x]) = if x.s = s then others s L else others s L ++ [x] := by
  unfold others
  rw [List.filter_append]
  by_cases h : x.s = s <;> simp [h]

theorem sub_eq_iff (a b : Sub) : a = b ↔ (!a.rule) = (!b.rule) ∧ a.sid = b.sid ∧ a.name = b.name ∧ a.v6 = b.v6 ∧ a.hi = b.hi ∧ a.lo = b.lo := by
  cases a; cases b; simp; constructor <;> (intro h; simp [h])

/-- The reference's book. -/
structure RBk where
  q : Int
  nw : Int
  bg : Bool
  L : List RS

structure RIs (w : World) (rp : Nat) (v : Value) (g : Option Nat) (B : RBk) : Prop where
  blk : w.heap[rp]? = some (.cells #[.int .i64 B.q, v, .int .i64 B.nw, .bool B.bg] 74 (0, 0))
  sl : SlAt 91 9 w v g B.L.length (flatR B.L)

/-- The state in the middle of take: the book's block, the block of the subject that is asked for, the result's block. -/
structure TkSt (w wd : World) (rp : Nat) (q nw : Int) (bg : Bool) (v : Value) (cb : Bool) (s : Sub) (la c l : Int) : Prop where
  book : wd.heap[rp]? = some (.cells #[.int .i64 q, v, .int .i64 nw, .bool bg] 74 (0, 0))
  sub : wd.heap[w.heap.size]? = some (.cells #[.bool cb, .int .i64 s.sid, .string s.name, .bool s.v6, .int .u64 s.hi, .int .u64 s.lo, .int .i64 la, .int .i64 c, .int .i64 l] 91 (0, 0))
  res : wd.heap[w.heap.size + 1]? = some (.cells #[.bool false, .int .i64 0, .string ⟨#[]⟩, .bool false, .int .u64 0, .int .u64 0, .int .i64 0, .int .i64 0, .int .i64 0] 91 (0, 0))
  fr : Fr [rp] w wd
  lt : rp < w.heap.size

def TakePost (B : RBk) (s : Sub) (at_ : Int) (rp : Nat) (cb : Bool) (w : World) (e : Ending) (w' : World) : Prop :=
  ∃ v' g', e = .returned (.agg #[.bool cb, .int .i64 s.sid, .string s.name, .bool s.v6, .int .u64 s.hi, .int .u64 s.lo, .int .i64 (later B.bg B.nw at_),
      .int .i64 (tk B.q (later B.bg B.nw at_) s B.L (0, 0)).1, .int .i64 (tk B.q (later B.bg B.nw at_) s B.L (0, 0)).2]) ∧
    RIs w' rp v' g' ⟨B.q, later B.bg B.nw at_, true, cut256 (others s B.L)⟩ ∧ Fr [rp] w w' ∧ ∀ b, g' = some b → w.heap.size ≤ b

theorem TkSt.start {w : World} {rp : Nat} {q nw : Int} {bg : Bool} {v : Value} {cb : Bool} {s : Sub} {la c l : Int} (hb : w.heap[rp]? = some (.cells #[.int .i64 q, v, .int .i64 nw, .bool bg] 74 (0, 0))) :
    TkSt w ((w.alloc (.cells #[.bool cb, .int .i64 s.sid, .string s.name, .bool s.v6, .int .u64 s.hi, .int .u64 s.lo, .int .i64 la, .int .i64 c, .int .i64 l] 91)).alloc (.cells #[.bool false, .int .i64 0, .string ⟨#[]⟩, .bool false, .int .u64 0, .int .u64 0, .int .i64 0, .int .i64 0, .int .i64 0] 91)) rp q nw bg v cb s la c l := by
  have hrp := lt_of_blk hb
  refine ⟨?_, ?_, heap_alloc_eq (by simp), ((Fr.refl _ _).alloc _).alloc _, hrp⟩
  · rw [heap_alloc_lt (by simp; omega), heap_alloc_lt hrp]; exact hb
  · rw [heap_alloc_lt (by simp), heap_alloc_eq rfl]

theorem TkSt.setBook {w wd : World} {rp : Nat} {q nw : Int} {bg : Bool} {v : Value} {cb : Bool} {s : Sub} {la c l : Int} (h : TkSt w wd rp q nw bg v cb s la c l) (j : Nat) (u : Value) (q' nw' : Int) (bg' : Bool) (v' : Value)
    (he : (#[.int .i64 q, v, .int .i64 nw, .bool bg] : Array Value).setIfInBounds j u = #[.int .i64 q', v', .int .i64 nw', .bool bg']) : TkSt w (wd.setCell ⟨rp, j, none⟩ u) rp q' nw' bg' v' cb s la c l :=
  ⟨by rw [heap_set, h.book, Option.map_some, setAt_cells, he], by rw [heap_set_other (by have := h.lt; simp; omega)]; exact h.sub, by rw [heap_set_other (by have := h.lt; simp; omega)]; exact h.res, h.fr.setCell (.inl (by simp)) _, h.lt⟩

theorem TkSt.setSub {w wd : World} {rp : Nat} {q nw : Int} {bg : Bool} {v : Value} {cb : Bool} {s : Sub} {la c l : Int} (h : TkSt w wd rp q nw bg v cb s la c l) (j : Nat) (u : Value) (la' c' l' : Int)
    (he : (#[.bool cb, .int .i64 s.sid, .string s.name, .bool s.v6, .int .u64 s.hi, .int .u64 s.lo, .int .i64 la, .int .i64 c, .int .i64 l] : Array Value).setIfInBounds j u = #[.bool cb, .int .i64 s.sid, .string s.name, .bool s.v6, .int .u64 s.hi, .int .u64 s.lo, .int .i64 la', .int .i64 c', .int .i64 l']) :
    TkSt w (wd.setCell ⟨w.heap.size, j, none⟩ u) rp q nw bg v cb s la' c' l' :=
  ⟨by rw [heap_set_other (by have := h.lt; simp; omega)]; exact h.book, by rw [heap_set, h.sub, Option.map_some, setAt_cells, he], by rw [heap_set_other (by simp)]; exact h.res, h.fr.setCell (.inr (Nat.le_refl _)) _, h.lt⟩

/-- A step that turns other blocks. -/
theorem TkSt.step {w wd wd' : World} {rp : Nat} {q nw : Int} {bg : Bool} {v : Value} {cb : Bool} {s : Sub} {la c l : Int} {S : List Nat} (h : TkSt w wd rp q nw bg v cb s la c l) (hf : Fr S wd wd') (hS : ∀ b ∈ S, w.heap.size + 2 ≤ b) : TkSt w wd' rp q nw bg v cb s la c l :=
  ⟨(hf.block _ (lt_of_blk h.book) (fun hm => by have := hS _ hm; have := h.lt; omega)).trans h.book, (hf.block _ (lt_of_blk h.sub) (fun hm => by have := hS _ hm; omega)).trans h.sub, (hf.block _ (lt_of_blk h.res) (fun hm => by have := hS _ hm; omega)).trans h.res,
    h.fr.andThen hf (fun b hb => .inr (by have := hS _ hb; omega)), h.lt⟩

theorem take_end {w wr : World} {rp : Nat} {q nw : Int} {v : Value} {cb : Bool} {s : Sub} {c l : Int} {vr : Value} {gr : Option Nat} {M : List RS} {cs : Array Value} (h : TkSt w wr rp q nw true v cb s 0 c l)
    (hsl : SlAt 91 9 wr vr gr M.length (flatR M)) (hg : ∀ b, gr = some b → w.heap.size + 2 ≤ b) :
    RIs (((wr.setCell ⟨rp, 1, none⟩ vr).setCell ⟨w.heap.size, 6, none⟩ (.int .i64 nw)).setRow (w.heap.size + 1) cs) rp vr gr ⟨q, nw, true, M⟩ ∧
      Fr [rp] w (((wr.setCell ⟨rp, 1, none⟩ vr).setCell ⟨w.heap.size, 6, none⟩ (.int .i64 nw)).setRow (w.heap.size + 1) cs) := by
  have hrl := h.lt
  refine ⟨⟨?_, hsl.keep fun b hb => ?_⟩, ?_⟩
  · rw [setRow_other _ _ _ _ (by omega), heap_set_other (by simp; omega), heap_set, h.book]; rfl
  · have := hg b hb
    rw [setRow_other _ _ _ _ (by omega), heap_set_other (by simp; omega), heap_set_other (by simp; omega)]
  · refine ((h.fr.setCell (.inl (by simp)) _).setCell (.inr (Nat.le_refl _)) _).andThen (T := [w.heap.size + 1]) ⟨rfl, rfl, rfl, by simp, fun k _ hk => setRow_other _ _ _ _ (by simpa using hk)⟩ (by simp)

theorem size91 : (Try.prog.info? 91).map (·.size) = some 9 := by kernel_rfl
def z91 : Array Value := #[.bool false, .int .i64 0, .string ⟨#[]⟩, .bool false, .int .u64 0, .int .u64 0, .int .i64 0, .int .i64 0, .int .i64 0]
theorem zero91 (W : World) : (zeroValue 91).run Try.prog W = .ok (.agg z91) W := by kernel_rfl

section
variable {x s : Sub} {xb cb : Bool} (hd : x = s ↔ xb = cb ∧ x.sid = s.sid ∧ x.name = s.name ∧ x.v6 = s.v6 ∧ x.hi = s.hi ∧ x.lo = s.lo)
include hd
theorem neqA (h1 : xb = cb) (h2 : x.sid = s.sid) (h3 : x.name.toList = s.name.toList) : (!decide (x.v6 = s.v6) || (!decide (x.hi = s.hi) || !decide (x.lo = s.lo))) = !decide (x = s) := by
  rw [toList_inj] at h3
  have : decide (x = s) = decide (x.v6 = s.v6 ∧ x.hi = s.hi ∧ x.lo = s.lo) := by
    rw [decide_eq_decide, hd]
    simp [h1, h2, h3]
  rw [this]
  by_cases a : x.v6 = s.v6 <;> by_cases b : x.hi = s.hi <;> by_cases c : x.lo = s.lo <;> simp [a, b, c]
theorem neqB (h3 : ¬ x.name.toList = s.name.toList) : true = !decide (x = s) := by
  rw [toList_inj] at h3
  have : ¬ x = s := by rw [hd]; simp [h3]
  simp [this]
theorem neqC (h2 : ¬ x.sid = s.sid) : true = !decide (x = s) := by
  have : ¬ x = s := by rw [hd]; simp [h2]
  simp [this]
theorem neqD (h1 : ¬ xb = cb) : true = !decide (x = s) := by
  have : ¬ x = s := by rw [hd]; simp [h1]
  simp [this]
end

theorem guard33 : Try.prog.eqGuardType Try.prog.depth 33 = false := by kernel_rfl
theorem neq33 (W : World) (a b : Bool) (c d e f : Int) : (binOp .neq 33 (.agg #[.bool a, .int .u64 c, .int .u64 e]) (.agg #[.bool b, .int .u64 d, .int .u64 f])).run Try.prog W = .ok (.bool (!decide (a = b ∧ c = d ∧ e = f))) W := by
  rw [run_neq_struct W 33]
  have h := eq33 9998 W a b c d e f
  rw [show (9998 + 2 : Nat) = 10000 from rfl] at h
  rw [h]
  rfl

set_option maxRecDepth 100000 in
set_option maxHeartbeats 1000000 in
theorem take_any (rp : Nat) (v : Value) (g : Option Nat) (B : RBk) (s : Sub) (at_ : Int) (cb : Bool) (w : World) (hB : RIs w rp v g B) (hcb : cb = !s.rule) (hlen : B.L.length ≤ 256) :
    Calls Try.prog 52 #[.pointer (some ⟨rp, 0, none⟩), .agg #[.bool cb, .int .i64 s.sid, .string s.name, .bool s.v6, .int .u64 s.hi, .int .u64 s.lo, .int .i64 0, .int .i64 0, .int .i64 0], .int .i64 at_] w (TakePost B s at_ rp cb w) := by
  obtain ⟨q, nw, bg, L⟩ := B
  have hrp := lt_of_blk hB.blk
  obtain ⟨nw', hnw⟩ : ∃ n, n = later bg nw at_ := ⟨_, rfl⟩
  have HNW := hide hnw
  clear hnw
  have HB := hide hB
  have hblk := hB.blk
  dsimp only at hblk hlen
  clear hB
  have HCB := hide hcb
  clear hcb
  have c0 : w.cell? ⟨rp, 0, none⟩ = some (.int .i64 q) := cell_blk hblk 0
  have c1 : w.cell? ⟨rp, 1, none⟩ = some (v) := cell_blk hblk 1
  have c2 : w.cell? ⟨rp, 2, none⟩ = some (.int .i64 nw) := cell_blk hblk 2
  have c3 : w.cell? ⟨rp, 3, none⟩ = some (.bool bg) := cell_blk hblk 3
  have cf0 : w.frozen? ⟨rp, 0, none⟩ = false := froz_blk hblk 0
  have cf1 : w.frozen? ⟨rp, 1, none⟩ = false := froz_blk hblk 1
  have cf2 : w.frozen? ⟨rp, 2, none⟩ = false := froz_blk hblk 2
  have cf3 : w.frozen? ⟨rp, 3, none⟩ = false := froz_blk hblk 3
  have xl : rp < w.heap.size := by omega
  have xe0 : rp ≤ w.heap.size := by omega
  have xe1 : rp ≤ w.heap.size + 1 := by omega
  have xe2 : rp ≤ w.heap.size + 2 := by omega
  go_enter Try.func52, Try.ntmps52
  go_upto_region 1 with (fail)
  have st0 := hide (TkSt.start (cb := cb) (s := s) (la := 0) (c := 0) (l := 0) hblk)
  go_cut [22] from 10 (fun s22 wd => s22 = .bool (decide (bg = false ∨ nw < at_)) ∧ TkSt w wd rp q nw bg v cb s 0 0 0)
  case first =>
    cases bg
    all_goals
      go_wp2
      go_meet
      case rel => exact ⟨by simp, st0.out⟩
  case rest =>
  obtain ⟨rfl, hst⟩ := hcut
  clear st0 c0 c1 c2 c3 cf0 cf1 cf2 cf3 xl xe0 xe1 xe2 hblk
  have c0 : wc.cell? ⟨rp, 0, none⟩ = some (.int .i64 q) := cell_blk hst.book 0
  have c1 : wc.cell? ⟨rp, 1, none⟩ = some (v) := cell_blk hst.book 1
  have c2 : wc.cell? ⟨rp, 2, none⟩ = some (.int .i64 nw) := cell_blk hst.book 2
  have c3 : wc.cell? ⟨rp, 3, none⟩ = some (.bool bg) := cell_blk hst.book 3
  have cf0 : wc.frozen? ⟨rp, 0, none⟩ = false := froz_blk hst.book 0
  have cf1 : wc.frozen? ⟨rp, 1, none⟩ = false := froz_blk hst.book 1
  have cf2 : wc.frozen? ⟨rp, 2, none⟩ = false := froz_blk hst.book 2
  have cf3 : wc.frozen? ⟨rp, 3, none⟩ = false := froz_blk hst.book 3
  have HST := hide hst
  clear hst
  go_upto_if 22 with (fail)
  go_cut [] from 10 (fun wd => TkSt w wd rp q nw' bg v cb s 0 0 0 ∧ (bg = false → nw' = at_))
  case first =>
    by_cases hb1 : bg = false ∨ nw < at_
    · have hl := hide (later_yes hb1)
      go_wp2
      go_meet
      case rel =>
        have hx : nw' = at_ := HNW.out.trans hl.out
        rw [hx]
        exact ⟨HST.out.setBook 2 _ _ _ _ _ rfl, fun _ => rfl⟩
    · have hl := hide (later_no hb1)
      go_wp2
      go_meet
      case rel =>
        have hx : nw' = nw := HNW.out.trans hl.out.1
        rw [hx]
        exact ⟨HST.out, fun hbg => absurd (.inl hbg) hb1⟩
  case rest =>
  have hst := hcut.1
  clear hcut HST c0 c1 c2 c3 cf0 cf1 cf2 cf3
  have c0 : wc.cell? ⟨rp, 0, none⟩ = some (.int .i64 q) := cell_blk hst.book 0
  have c1 : wc.cell? ⟨rp, 1, none⟩ = some (v) := cell_blk hst.book 1
  have c2 : wc.cell? ⟨rp, 2, none⟩ = some (.int .i64 nw') := cell_blk hst.book 2
  have c3 : wc.cell? ⟨rp, 3, none⟩ = some (.bool bg) := cell_blk hst.book 3
  have cf0 : wc.frozen? ⟨rp, 0, none⟩ = false := froz_blk hst.book 0
  have cf1 : wc.frozen? ⟨rp, 1, none⟩ = false := froz_blk hst.book 1
  have cf2 : wc.frozen? ⟨rp, 2, none⟩ = false := froz_blk hst.book 2
  have cf3 : wc.frozen? ⟨rp, 3, none⟩ = false := froz_blk hst.book 3
  have HST := hide (hst.setBook 3 (.bool true) q nw' true v rfl)
  clear hst
  go_wp2
  go_loopg [7, 8] (L.length + 1) (fun gk vr i wr => ∃ (k : Nat) (gr : Option Nat) (c l : Int), gk = L.length + 1 - k ∧ k ≤ L.length ∧ i = .int .i64 k ∧ TkSt w wr rp q nw' true v cb s 0 c l ∧
      SlAt 91 9 wr vr gr (others s (L.take k)).length (flatR (others s (L.take k))) ∧ (∀ b, gr = some b → w.heap.size + 2 ≤ b) ∧ (c, l) = tk q nw' s (L.take k) (0, 0))
  case atStart => exact ⟨0, none, 0, 0, rfl, by omega, rfl, HST.out, SlAt.nil_ _, by simp, rfl⟩
  case round =>
    obtain ⟨k, gr, c, l, hgk, hk, rfl, hst, hsr, hgr, hcl⟩ := hrel
    have HGK := hide hgk
    have HST2 := hide hst
    have HSR := hide hsr
    have HGR := hide hgr
    have HCL := hide hcl
    clear hgk hsr hgr hcl c0 c1 c2 c3 cf0 cf1 cf2 cf3
    have hwr : w.heap.size + 1 < wr.heap.size := lt_of_blk hst.res
    have hrl := hst.lt
    have c0 : wr.cell? ⟨rp, 0, none⟩ = some (.int .i64 q) := cell_blk hst.book 0
    have c1 : wr.cell? ⟨rp, 1, none⟩ = some (v) := cell_blk hst.book 1
    have c2 : wr.cell? ⟨rp, 2, none⟩ = some (.int .i64 nw') := cell_blk hst.book 2
    have c3 : wr.cell? ⟨rp, 3, none⟩ = some (.bool true) := cell_blk hst.book 3
    have cf0 : wr.frozen? ⟨rp, 0, none⟩ = false := froz_blk hst.book 0
    have cf1 : wr.frozen? ⟨rp, 1, none⟩ = false := froz_blk hst.book 1
    have cf2 : wr.frozen? ⟨rp, 2, none⟩ = false := froz_blk hst.book 2
    have cf3 : wr.frozen? ⟨rp, 3, none⟩ = false := froz_blk hst.book 3
    have s0 : wr.cell? ⟨w.heap.size, 0, none⟩ = some (.bool cb) := cell_blk hst.sub 0
    have s1 : wr.cell? ⟨w.heap.size, 1, none⟩ = some (.int .i64 s.sid) := cell_blk hst.sub 1
    have s2 : wr.cell? ⟨w.heap.size, 2, none⟩ = some (.string s.name) := cell_blk hst.sub 2
    have s3 : wr.cell? ⟨w.heap.size, 3, none⟩ = some (.bool s.v6) := cell_blk hst.sub 3
    have s4 : wr.cell? ⟨w.heap.size, 4, none⟩ = some (.int .u64 s.hi) := cell_blk hst.sub 4
    have s5 : wr.cell? ⟨w.heap.size, 5, none⟩ = some (.int .u64 s.lo) := cell_blk hst.sub 5
    have s6 : wr.cell? ⟨w.heap.size, 6, none⟩ = some (.int .i64 0) := cell_blk hst.sub 6
    have s7 : wr.cell? ⟨w.heap.size, 7, none⟩ = some (.int .i64 c) := cell_blk hst.sub 7
    have s8 : wr.cell? ⟨w.heap.size, 8, none⟩ = some (.int .i64 l) := cell_blk hst.sub 8
    have sf0 : wr.frozen? ⟨w.heap.size, 0, none⟩ = false := froz_blk hst.sub 0
    have sf1 : wr.frozen? ⟨w.heap.size, 1, none⟩ = false := froz_blk hst.sub 1
    have sf2 : wr.frozen? ⟨w.heap.size, 2, none⟩ = false := froz_blk hst.sub 2
    have sf3 : wr.frozen? ⟨w.heap.size, 3, none⟩ = false := froz_blk hst.sub 3
    have sf4 : wr.frozen? ⟨w.heap.size, 4, none⟩ = false := froz_blk hst.sub 4
    have sf5 : wr.frozen? ⟨w.heap.size, 5, none⟩ = false := froz_blk hst.sub 5
    have sf6 : wr.frozen? ⟨w.heap.size, 6, none⟩ = false := froz_blk hst.sub 6
    have sf7 : wr.frozen? ⟨w.heap.size, 7, none⟩ = false := froz_blk hst.sub 7
    have sf8 : wr.frozen? ⟨w.heap.size, 8, none⟩ = false := froz_blk hst.sub 8
    have hsl := HB.out.sl.fr hst.fr (by
      intro b hb hm
      simp at hm
      subst hm
      obtain ⟨cur, hc⟩ := HB.out.sl.lt _ hb
      rw [HB.out.blk] at hc
      cases hc)
    dsimp only at hsl
    have HSL := hide hsl
    obtain ⟨av, cv, hv⟩ := hsl.shape
    clear hsl hst
    by_cases hlt : k < L.length
    · obtain ⟨x, hx⟩ : ∃ x, L[k]? = some x := ⟨_, List.getElem?_eq_getElem hlt⟩
      have hsl := HSL.out
      rcases hsl with ⟨_, _, h0, _⟩ | ⟨b, off, cap, cur, hg, hv2, hbl, hnc, hfit, hfl, hcs⟩
      · omega
      obtain ⟨xb, hxb⟩ : ∃ xb, xb = !x.s.rule := ⟨_, rfl⟩
      have hcx : ∀ (j : Nat) (u : Value), (#[.bool xb, .int .i64 x.s.sid, .string x.s.name, .bool x.s.v6, .int .u64 x.s.hi, .int .u64 x.s.lo, .int .i64 x.last, .int .i64 x.count, .int .i64 x.level] : Array Value).toList[j]? = some u → wr.cell? ((⟨b, off + k * 9, none⟩ : Addr).add j) = some u := by
        intro j u hj
        rw [Addr.add_lit, cell_blk hbl]
        have hj9 : j < 9 := (List.getElem?_eq_some_iff.1 hj).1
        have h1 := flatR_at L k j x hx hj9
        rw [hxb] at hj
        rw [show off + k * 9 + j = off + (k * 9 + j) by omega]
        exact hcs _ _ (h1.trans hj)
      have HCX := hide hcx
      have HXB := hide hxb
      have HX := hide hx
      have HG := hide hg
      clear hcx hxb hx hg hbl hnc hfit hfl hcs hv
      subst hv2
      have yl : w.heap.size < wr.heap.size := by omega
      have ye0 : w.heap.size ≤ wr.heap.size := by omega
      have ye1 : w.heap.size ≤ wr.heap.size + 1 := by omega
      have ye2 : w.heap.size ≤ wr.heap.size + 2 := by omega
      have zl : rp < wr.heap.size := by omega
      have ze0 : rp ≤ wr.heap.size := by omega
      have ze1 : rp ≤ wr.heap.size + 1 := by omega
      have ze2 : rp ≤ wr.heap.size + 2 := by omega
      go_upto_region 9 with (first | ((with_reducible refine wpList_load_agg rfl 91 (.tmp 44) rfl ⟨b, off + k * 9, none⟩ #[.bool xb, .int .i64 x.s.sid, .string x.s.name, .bool x.s.v6, .int .u64 x.s.hi, .int .u64 x.s.lo, .int .i64 x.last, .int .i64 x.count, .int .i64 x.level] _ ?_ Try.underlying91 ?_ ?_ HCX.out ?_); rfl; rfl; exact size91) | ((with_reducible refine wpList_var' rfl rfl 91 9 45 rfl rfl rfl rfl z91 #[.bool xb, .int .i64 x.s.sid, .string x.s.name, .bool x.s.v6, .int .u64 x.s.hi, .int .u64 x.s.lo, .int .i64 x.last, .int .i64 x.count, .int .i64 x.level] zero91 ?_ ?_ ?_ ?_ ?_ ?_ ?_); decide; exact of_decide_eq_true rfl; exact size91; rfl; rfl; rfl; go_frame))
      go_cut [71] from 30 to 105 (fun s71 wd => s71 = .bool (!decide (x.s = s)) ∧ wd = wr.alloc (.cells #[.bool xb, .int .i64 x.s.sid, .string x.s.name, .bool x.s.v6, .int .u64 x.s.hi, .int .u64 x.s.lo, .int .i64 x.last, .int .i64 x.count, .int .i64 x.level] 91))
      case first =>
        have hdx := hide (sub_eq_iff x.s s)
        rw [← HXB.out, ← HCB.out] at hdx
        have hn33 := neq33
        have hg33 := guard33
        go_wp2
        all_goals
          go_meet
          case rel =>
            first
              | exact ⟨congrArg _ (neqA hdx.out (by assumption) (by assumption) (by assumption)), by rw [show xb = cb from by assumption, show x.s.sid = s.sid from by assumption]⟩
              | exact ⟨congrArg _ (neqB hdx.out (by assumption)), by rw [show xb = cb from by assumption, show x.s.sid = s.sid from by assumption]⟩
              | exact ⟨congrArg _ (neqC hdx.out (by assumption)), by rw [show xb = cb from by assumption]⟩
              | exact ⟨congrArg _ (neqD hdx.out (by assumption)), rfl⟩
      case rest =>
      obtain ⟨h71, rfl⟩ := hcut
      have hX : (wr.alloc (.cells #[.bool xb, .int .i64 x.s.sid, .string x.s.name, .bool x.s.v6, .int .u64 x.s.hi, .int .u64 x.s.lo, .int .i64 x.last, .int .i64 x.count, .int .i64 x.level] 91)).heap[wr.heap.size]? = some (.cells #[.bool xb, .int .i64 x.s.sid, .string x.s.name, .bool x.s.v6, .int .u64 x.s.hi, .int .u64 x.s.lo, .int .i64 x.last, .int .i64 x.count, .int .i64 x.level] 91 (0, 0)) := heap_alloc_eq rfl
      have hbs : ∀ W : World, (Instr.buildSlice 72 1 #[(0, .agg #[.bool xb, .int .i64 x.s.sid, .string x.s.name, .bool x.s.v6, .int .u64 x.s.hi, .int .u64 x.s.lo, .int .i64 x.last, .int .i64 x.count, .int .i64 x.level])]).run Try.prog W = .ok (.slice (some ⟨W.heap.size, 0, none⟩) 1 1) (W.alloc (.cells #[.bool xb, .int .i64 x.s.sid, .string x.s.name, .bool x.s.v6, .int .u64 x.s.hi, .int .u64 x.s.lo, .int .i64 x.last, .int .i64 x.count, .int .i64 x.level] 91)) := fun W => by kernel_rfl
      have HOL := hide (others_len s L k)
      have HTK := hide (show L.take (k + 1) = L.take k ++ [x] by rw [List.take_add_one, HX.out]; rfl)
      by_cases hxs : x.s = s
      · have HXS := hide hxs
        rw [show (!decide (x.s = s)) = false by simp [hxs]] at h71
        subst h71
        clear hxs
        have st2 := HST2.out.step (S := []) ((Fr.refl [] wr).alloc (.cells #[.bool xb, .int .i64 x.s.sid, .string x.s.name, .bool x.s.v6, .int .u64 x.s.hi, .int .u64 x.s.lo, .int .i64 x.last, .int .i64 x.count, .int .i64 x.level] 91)) (by simp)
        have HSR2 := hide (HSR.out.keep (fun b hb => heap_alloc_lt (o := .cells #[.bool xb, .int .i64 x.s.sid, .string x.s.name, .bool x.s.v6, .int .u64 x.s.hi, .int .u64 x.s.lo, .int .i64 x.last, .int .i64 x.count, .int .i64 x.level] 91) (by obtain ⟨cur, hc⟩ := HSR.out.lt b hb; exact lt_of_blk hc)))
        generalize hwx : wr.alloc (.cells #[.bool xb, .int .i64 x.s.sid, .string x.s.name, .bool x.s.v6, .int .u64 x.s.hi, .int .u64 x.s.lo, .int .i64 x.last, .int .i64 x.count, .int .i64 x.level] 91) = wx at hX st2 HSR2 ⊢
        clear hwx c0 c1 c2 c3 cf0 cf1 cf2 cf3 s0 s1 s2 s3 s4 s5 s6 s7 s8 sf0 sf1 sf2 sf3 sf4 sf5 sf6 sf7 sf8 hbs
        have c0 : wx.cell? ⟨rp, 0, none⟩ = some (.int .i64 q) := cell_blk st2.book 0
        have c1 : wx.cell? ⟨rp, 1, none⟩ = some (.slice (some ⟨b, off, none⟩) L.length cap) := cell_blk st2.book 1
        have c2 : wx.cell? ⟨rp, 2, none⟩ = some (.int .i64 nw') := cell_blk st2.book 2
        have c3 : wx.cell? ⟨rp, 3, none⟩ = some (.bool true) := cell_blk st2.book 3
        have cf0 : wx.frozen? ⟨rp, 0, none⟩ = false := froz_blk st2.book 0
        have cf1 : wx.frozen? ⟨rp, 1, none⟩ = false := froz_blk st2.book 1
        have cf2 : wx.frozen? ⟨rp, 2, none⟩ = false := froz_blk st2.book 2
        have cf3 : wx.frozen? ⟨rp, 3, none⟩ = false := froz_blk st2.book 3
        have s0 : wx.cell? ⟨w.heap.size, 0, none⟩ = some (.bool cb) := cell_blk st2.sub 0
        have s1 : wx.cell? ⟨w.heap.size, 1, none⟩ = some (.int .i64 s.sid) := cell_blk st2.sub 1
        have s2 : wx.cell? ⟨w.heap.size, 2, none⟩ = some (.string s.name) := cell_blk st2.sub 2
        have s3 : wx.cell? ⟨w.heap.size, 3, none⟩ = some (.bool s.v6) := cell_blk st2.sub 3
        have s4 : wx.cell? ⟨w.heap.size, 4, none⟩ = some (.int .u64 s.hi) := cell_blk st2.sub 4
        have s5 : wx.cell? ⟨w.heap.size, 5, none⟩ = some (.int .u64 s.lo) := cell_blk st2.sub 5
        have s6 : wx.cell? ⟨w.heap.size, 6, none⟩ = some (.int .i64 0) := cell_blk st2.sub 6
        have s7 : wx.cell? ⟨w.heap.size, 7, none⟩ = some (.int .i64 c) := cell_blk st2.sub 7
        have s8 : wx.cell? ⟨w.heap.size, 8, none⟩ = some (.int .i64 l) := cell_blk st2.sub 8
        have sf0 : wx.frozen? ⟨w.heap.size, 0, none⟩ = false := froz_blk st2.sub 0
        have sf1 : wx.frozen? ⟨w.heap.size, 1, none⟩ = false := froz_blk st2.sub 1
        have sf2 : wx.frozen? ⟨w.heap.size, 2, none⟩ = false := froz_blk st2.sub 2
        have sf3 : wx.frozen? ⟨w.heap.size, 3, none⟩ = false := froz_blk st2.sub 3
        have sf4 : wx.frozen? ⟨w.heap.size, 4, none⟩ = false := froz_blk st2.sub 4
        have sf5 : wx.frozen? ⟨w.heap.size, 5, none⟩ = false := froz_blk st2.sub 5
        have sf6 : wx.frozen? ⟨w.heap.size, 6, none⟩ = false := froz_blk st2.sub 6
        have sf7 : wx.frozen? ⟨w.heap.size, 7, none⟩ = false := froz_blk st2.sub 7
        have sf8 : wx.frozen? ⟨w.heap.size, 8, none⟩ = false := froz_blk st2.sub 8
        have x0 : wx.cell? ⟨wr.heap.size, 0, none⟩ = some (.bool xb) := cell_blk hX 0
        have x1 : wx.cell? ⟨wr.heap.size, 1, none⟩ = some (.int .i64 x.s.sid) := cell_blk hX 1
        have x2 : wx.cell? ⟨wr.heap.size, 2, none⟩ = some (.string x.s.name) := cell_blk hX 2
        have x3 : wx.cell? ⟨wr.heap.size, 3, none⟩ = some (.bool x.s.v6) := cell_blk hX 3
        have x4 : wx.cell? ⟨wr.heap.size, 4, none⟩ = some (.int .u64 x.s.hi) := cell_blk hX 4
        have x5 : wx.cell? ⟨wr.heap.size, 5, none⟩ = some (.int .u64 x.s.lo) := cell_blk hX 5
        have x6 : wx.cell? ⟨wr.heap.size, 6, none⟩ = some (.int .i64 x.last) := cell_blk hX 6
        have x7 : wx.cell? ⟨wr.heap.size, 7, none⟩ = some (.int .i64 x.count) := cell_blk hX 7
        have x8 : wx.cell? ⟨wr.heap.size, 8, none⟩ = some (.int .i64 x.level) := cell_blk hX 8
        have xf0 : wx.frozen? ⟨wr.heap.size, 0, none⟩ = false := froz_blk hX 0
        have xf1 : wx.frozen? ⟨wr.heap.size, 1, none⟩ = false := froz_blk hX 1
        have xf2 : wx.frozen? ⟨wr.heap.size, 2, none⟩ = false := froz_blk hX 2
        have xf3 : wx.frozen? ⟨wr.heap.size, 3, none⟩ = false := froz_blk hX 3
        have xf4 : wx.frozen? ⟨wr.heap.size, 4, none⟩ = false := froz_blk hX 4
        have xf5 : wx.frozen? ⟨wr.heap.size, 5, none⟩ = false := froz_blk hX 5
        have xf6 : wx.frozen? ⟨wr.heap.size, 6, none⟩ = false := froz_blk hX 6
        have xf7 : wx.frozen? ⟨wr.heap.size, 7, none⟩ = false := froz_blk hX 7
        have xf8 : wx.frozen? ⟨wr.heap.size, 8, none⟩ = false := froz_blk hX 8
        have ST2 := hide st2
        clear st2
        go_upto_region 11 with (fail)
        go_cut [99] from 30 to 105 (fun s99 wd => s99 = .bool (live q nw' x.last) ∧ ∃ n, wd = wx.drewN n)
        case first =>
          have hlv : Hid (live q nw' x.last = (decide (nw' ≤ x.last) || decide (age nw' x.last < IntKind.u64.wrap q))) := rfl
          by_cases hll : nw' ≤ x.last
          · go_quiet (fail)
            go_wp2
            go_meet
            case rel => exact ⟨by rw [hlv.out]; simp [hll], _, rfl⟩
          · have hd : decide (nw' ≤ x.last) = false := by simpa using hll
            go_quiet (fail)
            go_wp2
            go_meet
            case rel => exact ⟨by rw [hlv.out, hd]; rfl, _, rfl⟩
        case rest =>
        obtain ⟨rfl, nd, hwd⟩ := hcut
        have ST3 := hide (ST2.out.step (S := []) ((Fr.refl [] wx).drewN nd) (by simp))
        have HSR3 := hide (HSR2.out.keep (w' := wx.drewN nd) (fun _ _ => rfl))
        have hX3 : (wx.drewN nd).heap[wr.heap.size]? = _ := hX
        rw [← hwd] at ST3 HSR3 hX3
        clear hwd ST2 HSR2 hX c0 c1 c2 c3 cf0 cf1 cf2 cf3 s0 s1 s2 s3 s4 s5 s6 s7 s8 sf0 sf1 sf2 sf3 sf4 sf5 sf6 sf7 sf8 x0 x1 x2 x3 x4 x5 x6 x7 x8 xf0 xf1 xf2 xf3 xf4 xf5 xf6 xf7 xf8
        have st3 := ST3.out
        have s0 : wc.cell? ⟨w.heap.size, 0, none⟩ = some (.bool cb) := cell_blk st3.sub 0
        have s1 : wc.cell? ⟨w.heap.size, 1, none⟩ = some (.int .i64 s.sid) := cell_blk st3.sub 1
        have s2 : wc.cell? ⟨w.heap.size, 2, none⟩ = some (.string s.name) := cell_blk st3.sub 2
        have s3 : wc.cell? ⟨w.heap.size, 3, none⟩ = some (.bool s.v6) := cell_blk st3.sub 3
        have s4 : wc.cell? ⟨w.heap.size, 4, none⟩ = some (.int .u64 s.hi) := cell_blk st3.sub 4
        have s5 : wc.cell? ⟨w.heap.size, 5, none⟩ = some (.int .u64 s.lo) := cell_blk st3.sub 5
        have s6 : wc.cell? ⟨w.heap.size, 6, none⟩ = some (.int .i64 0) := cell_blk st3.sub 6
        have s7 : wc.cell? ⟨w.heap.size, 7, none⟩ = some (.int .i64 c) := cell_blk st3.sub 7
        have s8 : wc.cell? ⟨w.heap.size, 8, none⟩ = some (.int .i64 l) := cell_blk st3.sub 8
        have sf0 : wc.frozen? ⟨w.heap.size, 0, none⟩ = false := froz_blk st3.sub 0
        have sf1 : wc.frozen? ⟨w.heap.size, 1, none⟩ = false := froz_blk st3.sub 1
        have sf2 : wc.frozen? ⟨w.heap.size, 2, none⟩ = false := froz_blk st3.sub 2
        have sf3 : wc.frozen? ⟨w.heap.size, 3, none⟩ = false := froz_blk st3.sub 3
        have sf4 : wc.frozen? ⟨w.heap.size, 4, none⟩ = false := froz_blk st3.sub 4
        have sf5 : wc.frozen? ⟨w.heap.size, 5, none⟩ = false := froz_blk st3.sub 5
        have sf6 : wc.frozen? ⟨w.heap.size, 6, none⟩ = false := froz_blk st3.sub 6
        have sf7 : wc.frozen? ⟨w.heap.size, 7, none⟩ = false := froz_blk st3.sub 7
        have sf8 : wc.frozen? ⟨w.heap.size, 8, none⟩ = false := froz_blk st3.sub 8
        have x0 : wc.cell? ⟨wr.heap.size, 0, none⟩ = some (.bool xb) := cell_blk hX3 0
        have x1 : wc.cell? ⟨wr.heap.size, 1, none⟩ = some (.int .i64 x.s.sid) := cell_blk hX3 1
        have x2 : wc.cell? ⟨wr.heap.size, 2, none⟩ = some (.string x.s.name) := cell_blk hX3 2
        have x3 : wc.cell? ⟨wr.heap.size, 3, none⟩ = some (.bool x.s.v6) := cell_blk hX3 3
        have x4 : wc.cell? ⟨wr.heap.size, 4, none⟩ = some (.int .u64 x.s.hi) := cell_blk hX3 4
        have x5 : wc.cell? ⟨wr.heap.size, 5, none⟩ = some (.int .u64 x.s.lo) := cell_blk hX3 5
        have x6 : wc.cell? ⟨wr.heap.size, 6, none⟩ = some (.int .i64 x.last) := cell_blk hX3 6
        have x7 : wc.cell? ⟨wr.heap.size, 7, none⟩ = some (.int .i64 x.count) := cell_blk hX3 7
        have x8 : wc.cell? ⟨wr.heap.size, 8, none⟩ = some (.int .i64 x.level) := cell_blk hX3 8
        have xf0 : wc.frozen? ⟨wr.heap.size, 0, none⟩ = false := froz_blk hX3 0
        have xf1 : wc.frozen? ⟨wr.heap.size, 1, none⟩ = false := froz_blk hX3 1
        have xf2 : wc.frozen? ⟨wr.heap.size, 2, none⟩ = false := froz_blk hX3 2
        have xf3 : wc.frozen? ⟨wr.heap.size, 3, none⟩ = false := froz_blk hX3 3
        have xf4 : wc.frozen? ⟨wr.heap.size, 4, none⟩ = false := froz_blk hX3 4
        have xf5 : wc.frozen? ⟨wr.heap.size, 5, none⟩ = false := froz_blk hX3 5
        have xf6 : wc.frozen? ⟨wr.heap.size, 6, none⟩ = false := froz_blk hX3 6
        have xf7 : wc.frozen? ⟨wr.heap.size, 7, none⟩ = false := froz_blk hX3 7
        have xf8 : wc.frozen? ⟨wr.heap.size, 8, none⟩ = false := froz_blk hX3 8
        have hnx : w.heap.size ≠ wr.heap.size := by omega
        have hxn : wr.heap.size ≠ w.heap.size := by omega
        cases hlive : live q nw' x.last
        · go_wp2
          go_roundg (L.length + 1 - (k + 1))
          case measure => have := HGK.out; omega
          case rel =>
            refine ⟨k + 1, gr, c, l, rfl, by omega, by go_num, ST3.out, ?_, HGR.out, ?_⟩
            · rw [HTK.out, others_snoc, if_pos HXS.out]; exact HSR3.out
            · rw [HTK.out, tk_snoc, if_neg (by rw [hlive]; simp)]; exact HCL.out
        · go_wp2
          go_roundg (L.length + 1 - (k + 1))
          case measure => have := HGK.out; omega
          case rel =>
            refine ⟨k + 1, gr, x.count, x.level, rfl, by omega, by go_num, (ST3.out.setSub 7 (.int .i64 x.count) 0 x.count l rfl).setSub 8 (.int .i64 x.level) 0 x.count x.level rfl, ?_, HGR.out, ?_⟩
            · rw [HTK.out, others_snoc, if_pos HXS.out]
              refine HSR3.out.keep (fun b hb => ?_)
              have := HGR.out b hb
              rw [heap_set_other (by simp; omega), heap_set_other (by simp; omega)]
            · rw [HTK.out, tk_snoc, if_pos ⟨HXS.out, hlive⟩]
      · rw [show (!decide (x.s = s)) = true by simp [hxs]] at h71
        subst h71
        obtain ⟨v', w', g', happ, hsl', hfr', hg'⟩ := SlAt.append elem91 ((HSR.out.keep (fun b hb => heap_alloc_lt (by obtain ⟨cur, hc⟩ := HSR.out.lt b hb; exact lt_of_blk hc))).keep (w' := (wr.alloc (.cells #[.bool xb, .int .i64 x.s.sid, .string x.s.name, .bool x.s.v6, .int .u64 x.s.hi, .int .u64 x.s.lo, .int .i64 x.last, .int .i64 x.count, .int .i64 x.level] 91)).alloc (.cells #[.bool xb, .int .i64 x.s.sid, .string x.s.name, .bool x.s.v6, .int .u64 x.s.hi, .int .u64 x.s.lo, .int .i64 x.last, .int .i64 x.count, .int .i64 x.level] 91)) (fun b hb => heap_alloc_lt (by obtain ⟨cur, hc⟩ := HSR.out.lt b hb; have := lt_of_blk hc; simp; omega))) 72 ⟨wr.heap.size + 1, 0, none⟩ 1 (#[.bool xb, .int .i64 x.s.sid, .string x.s.name, .bool x.s.v6, .int .u64 x.s.hi, .int .u64 x.s.lo, .int .i64 x.last, .int .i64 x.count, .int .i64 x.level] : Array Value).toList rfl (fun j u hj => by rw [Addr.add_lit, cell_blk (heap_alloc_eq (by simp))]; simpa using hj) (by simp [Value.oneCell']) (by have := HOL.out; omega) (by have := HOL.out; unfold maxLen; omega)
        go_upto_if 71 with (fail)
        go_wp2_with (at_builtin; refine wpList_append_run rfl _ _ 72 rfl happ rfl rfl ?_)
        go_roundg (L.length + 1 - (k + 1))
        case measure => have := HGK.out; omega
        case rel =>
          refine ⟨k + 1, g', c, l, rfl, by omega, by go_num, (HST2.out.step (S := []) (((Fr.refl [] wr).alloc (.cells #[.bool xb, .int .i64 x.s.sid, .string x.s.name, .bool x.s.v6, .int .u64 x.s.hi, .int .u64 x.s.lo, .int .i64 x.last, .int .i64 x.count, .int .i64 x.level] 91)).alloc (.cells #[.bool xb, .int .i64 x.s.sid, .string x.s.name, .bool x.s.v6, .int .u64 x.s.hi, .int .u64 x.s.lo, .int .i64 x.last, .int .i64 x.count, .int .i64 x.level] 91)) (by simp)).step hfr' (by intro b hb; exact HGR.out b (by simpa using hb)), ?_, ?_, ?_⟩
          · rw [HTK.out, others_snoc, if_neg hxs, flatR_snoc, List.length_append]
            have hxe : encR x = (#[.bool xb, .int .i64 x.s.sid, .string x.s.name, .bool x.s.v6, .int .u64 x.s.hi, .int .u64 x.s.lo, .int .i64 x.last, .int .i64 x.count, .int .i64 x.level] : Array Value).toList := by rw [HXB.out]; rfl
            rw [hxe]
            exact hsl'
          · intro b hb
            rcases hg' with h | ⟨h, _⟩
            · exact HGR.out b (by rw [← h]; exact hb)
            · rw [h] at hb
              have := Option.some.inj hb
              simp at this
              omega
          · rw [HTK.out, tk_snoc, if_neg (fun h => hxs h.1)]; exact HCL.out
    · have hkl : k = L.length := by omega
      have HTL := hide (show L.take k = L by rw [hkl]; exact List.take_length)
      obtain ⟨n, hn⟩ : ∃ n, n = (others s (L.take k)).length := ⟨_, rfl⟩
      have hsr := HSR.out
      rw [← hn] at hsr
      have HN := hide hn
      clear hn HSR hkl
      have hrn : rp ≠ w.heap.size := by omega
      have hrn1 : rp ≠ w.heap.size + 1 := by omega
      have hnr : w.heap.size ≠ rp := by omega
      by_cases h256 : n = 256
      · subst h256
        rcases hsr with ⟨_, _, h0, _⟩ | ⟨b2, off2, cap2, cur2, hg2, rfl, hbl2, hnc2, hfit2, hfl2, hcs2⟩
        · cases h0
        have hsd : SlAt 91 9 wr (.slice (some ⟨b2, off2 + 9, none⟩) 255 (cap2 - 1)) gr 255 ((flatR (others s (L.take k))).drop 9) := SlAt.drop1 (a := ⟨b2, off2, none⟩) (.inr ⟨b2, off2, cap2, cur2, hg2, rfl, hbl2, hnc2, hfit2, hfl2, hcs2⟩) rfl (by omega)
        have HSD := hide hsd
        have hc1 : cap2 ≠ 1 := by omega
        clear hsd hg2 hbl2 hfit2 hfl2 hcs2
        have st4 := HST2.out
        have hblkS : ((wr.setCell ⟨rp, 1, none⟩ (.slice (some ⟨b2, off2 + 9, none⟩) 255 (cap2 - 1))).setCell ⟨w.heap.size, 6, none⟩ (.int .i64 nw')).heap[w.heap.size]? = some (.cells #[.bool cb, .int .i64 s.sid, .string s.name, .bool s.v6, .int .u64 s.hi, .int .u64 s.lo, .int .i64 nw', .int .i64 c, .int .i64 l] 91 (0, 0)) := by
          rw [heap_set, heap_set_other hnr, st4.sub]; rfl
        have hblkR : ((wr.setCell ⟨rp, 1, none⟩ (.slice (some ⟨b2, off2 + 9, none⟩) 255 (cap2 - 1))).setCell ⟨w.heap.size, 6, none⟩ (.int .i64 nw')).heap[w.heap.size + 1]? = some (.cells #[.bool false, .int .i64 0, .string ⟨#[]⟩, .bool false, .int .u64 0, .int .u64 0, .int .i64 0, .int .i64 0, .int .i64 0] 91 (0, 0)) := by
          rw [heap_set_other (by simp), heap_set_other (by simp; omega)]; exact st4.res
        go_wp2_with (first | ((with_reducible refine wpList_load_agg rfl 91 (.tmp 4) rfl ⟨w.heap.size, 0, none⟩ #[.bool cb, .int .i64 s.sid, .string s.name, .bool s.v6, .int .u64 s.hi, .int .u64 s.lo, .int .i64 nw', .int .i64 c, .int .i64 l] _ ?_ Try.underlying91 ?_ ?_ (fun j u hj => by rw [Addr.add_lit, cell_blk hblkS]; simpa using hj) ?_); rfl; rfl; exact size91) | ((with_reducible refine wpList_store_row rfl 91 (.tmp 6) (.tmp 120) rfl rfl (w.heap.size + 1) #[.bool cb, .int .i64 s.sid, .string s.name, .bool s.v6, .int .u64 s.hi, .int .u64 s.lo, .int .i64 nw', .int .i64 c, .int .i64 l] 91 #[.bool false, .int .i64 0, .string ⟨#[]⟩, .bool false, .int .u64 0, .int .u64 0, .int .i64 0, .int .i64 0, .int .i64 0] hblkR ?_ ?_ ?_ ?_ ?_ ?_); rfl; rfl; exact size91; rfl; rfl; go_frame))
        refine bodyPost_ret (results_cell_row rfl _ _ (w.heap.size + 1) 91 #[.bool cb, .int .i64 s.sid, .string s.name, .bool s.v6, .int .u64 s.hi, .int .u64 s.lo, .int .i64 nw', .int .i64 c, .int .i64 l] (0, 0) _ rfl ?_ Try.underlying91 rfl size91) rfl ?_
        · exact setRow_heap _ _ _ _ _ _ hblkR
        · have hcl := HCL.out
          rw [HTL.out] at hcl
          have h256 : (others s L).length = 256 := by have := HN.out; rw [HTL.out] at this; exact this.symm
          have hM : cut256 (others s L) = (others s L).drop 1 := by
            unfold cut256
            rw [if_pos h256]
          have hfd : (flatR (others s L)).drop 9 = flatR ((others s L).drop 1) := by
            cases ho : others s L with
            | nil => rw [ho] at h256; cases h256
            | cons r M => simp only [flatR, List.flatMap_cons, List.drop_succ_cons, List.drop_zero]; exact List.drop_left (l₁ := encR r)
          have he := take_end (cs := #[.bool cb, .int .i64 s.sid, .string s.name, .bool s.v6, .int .u64 s.hi, .int .u64 s.lo, .int .i64 nw', .int .i64 c, .int .i64 l]) HST2.out (M := (others s L).drop 1) (vr := .slice (some ⟨b2, off2 + 9, none⟩) 255 (cap2 - 1)) (gr := gr) (by have hsd := HSD.out; rw [HTL.out, hfd] at hsd; rw [List.length_drop, h256]; exact hsd) HGR.out
          refine ⟨.slice (some ⟨b2, off2 + 9, none⟩) 255 (cap2 - 1), gr, ?_, ?_, he.2, fun b hb => by have := HGR.out b hb; omega⟩
          · dsimp only
            rw [← HNW.out, ← hcl]
          · dsimp only
            rw [← HNW.out, hM]
            exact he.1
      · obtain ⟨av2, cv2, rfl⟩ := hsr.shape
        have hn256 : ((n : Int) == 256) = false := by simp; omega
        have st4 := HST2.out
        have hblkS : ((wr.setCell ⟨rp, 1, none⟩ (.slice av2 n cv2)).setCell ⟨w.heap.size, 6, none⟩ (.int .i64 nw')).heap[w.heap.size]? = some (.cells #[.bool cb, .int .i64 s.sid, .string s.name, .bool s.v6, .int .u64 s.hi, .int .u64 s.lo, .int .i64 nw', .int .i64 c, .int .i64 l] 91 (0, 0)) := by
          rw [heap_set, heap_set_other hnr, st4.sub]; rfl
        have hblkR : ((wr.setCell ⟨rp, 1, none⟩ (.slice av2 n cv2)).setCell ⟨w.heap.size, 6, none⟩ (.int .i64 nw')).heap[w.heap.size + 1]? = some (.cells #[.bool false, .int .i64 0, .string ⟨#[]⟩, .bool false, .int .u64 0, .int .u64 0, .int .i64 0, .int .i64 0, .int .i64 0] 91 (0, 0)) := by
          rw [heap_set_other (by simp), heap_set_other (by simp; omega)]; exact st4.res
        go_wp2_with (first | ((with_reducible refine wpList_load_agg rfl 91 (.tmp 4) rfl ⟨w.heap.size, 0, none⟩ #[.bool cb, .int .i64 s.sid, .string s.name, .bool s.v6, .int .u64 s.hi, .int .u64 s.lo, .int .i64 nw', .int .i64 c, .int .i64 l] _ ?_ Try.underlying91 ?_ ?_ (fun j u hj => by rw [Addr.add_lit, cell_blk hblkS]; simpa using hj) ?_); rfl; rfl; exact size91) | ((with_reducible refine wpList_store_row rfl 91 (.tmp 6) (.tmp 120) rfl rfl (w.heap.size + 1) #[.bool cb, .int .i64 s.sid, .string s.name, .bool s.v6, .int .u64 s.hi, .int .u64 s.lo, .int .i64 nw', .int .i64 c, .int .i64 l] 91 #[.bool false, .int .i64 0, .string ⟨#[]⟩, .bool false, .int .u64 0, .int .u64 0, .int .i64 0, .int .i64 0, .int .i64 0] hblkR ?_ ?_ ?_ ?_ ?_ ?_); rfl; rfl; exact size91; rfl; rfl; go_frame))
        refine bodyPost_ret (results_cell_row rfl _ _ (w.heap.size + 1) 91 #[.bool cb, .int .i64 s.sid, .string s.name, .bool s.v6, .int .u64 s.hi, .int .u64 s.lo, .int .i64 nw', .int .i64 c, .int .i64 l] (0, 0) _ rfl ?_ Try.underlying91 rfl size91) rfl ?_
        · exact setRow_heap _ _ _ _ _ _ hblkR
        · have hcl := HCL.out
          rw [HTL.out] at hcl
          have hM : cut256 (others s L) = others s L := by
            unfold cut256
            rw [if_neg]
            rw [← HTL.out, ← HN.out]
            exact h256
          have he := take_end (cs := #[.bool cb, .int .i64 s.sid, .string s.name, .bool s.v6, .int .u64 s.hi, .int .u64 s.lo, .int .i64 nw', .int .i64 c, .int .i64 l]) HST2.out (M := others s L) (vr := .slice av2 n cv2) (gr := gr) (by rw [HTL.out] at hsr; have := HN.out; rw [HTL.out] at this; rw [← this]; exact hsr) HGR.out
          refine ⟨.slice av2 n cv2, gr, ?_, ?_, he.2, fun b hb => by have := HGR.out b hb; omega⟩
          · dsimp only
            rw [← HNW.out, ← hcl]
          · dsimp only
            rw [← HNW.out, hM]
            exact he.1
end Go.Proofs.Ytnghfmefjjkgdaa

