/- (*escalate.Book).enter: what one alert or case does to a book. -/
import Derived.Test.YtnghfmefjjkgdaaForget
import Derived.Deep.QuietTactic
import Derived.BigQuiet
namespace Go.Proofs.Ytnghfmefjjkgdaa
open Go.RowKit

theorem hide {p : Prop} (h : p) : Hid p := h
theorem unhide {p : Prop} (h : Hid p) : p := h

def age (now last : Int) : Int := IntKind.u64.wrap (IntKind.u64.wrap now - IntKind.u64.wrap last)
def stale (q now last : Int) : Bool := decide (IntKind.u64.wrap q ≤ age now last)
def later (bg : Bool) (nw at_ : Int) : Int := if bg = false ∨ nw < at_ then at_ else nw
def zEnt : Ent := ⟨0, 0, 0, 0⟩
/-- The entry that counts. -/
def entOf (q now : Int) (M : List (Sub × Ent)) (s : Sub) : Ent :=
  match mget M s with
  | some e => if stale q now e.last then zEnt else e
  | none => zEnt
/-- The map behind the forgetting. -/
def Made (M : List (Sub × Ent)) (s : Sub) (M1 : List (Sub × Ent)) : Prop :=
  if (mget M s).isSome = false ∧ 256 ≤ M.length then ∃ f e, (f, e) ∈ M ∧ (∀ p ∈ M, e.call ≤ p.2.call) ∧ M1 = mdel M f else M1 = M
/-- The entry behind the call, given the level. -/
def entBehind (now cl : Int) (e : Ent) (rule : Bool) (n : Int) : Ent := ⟨now, cl + 1, if rule then e.count + 1 else e.count, max e.level n⟩

theorem zero95 (w : World) : (zeroValue 95).run Try.prog w = .ok (eEnt zEnt) w := by kernel_rfl

theorem later_yes {bg : Bool} {nw at_ : Int} (h : bg = false ∨ nw < at_) : later bg nw at_ = at_ := by unfold later; rw [if_pos h]
theorem later_no {bg : Bool} {nw at_ : Int} (h : ¬ (bg = false ∨ nw < at_)) : later bg nw at_ = nw ∧ bg = true := by
  refine ⟨by unfold later; rw [if_neg h], ?_⟩
  cases bg with
  | false => exact absurd (.inl rfl) h
  | true => rfl

theorem enter_cutA {w : World} {pb bm : Nat} {q cl nw at_ : Int} {bg : Bool} {M : List (Sub × Ent)} {cs : Array Value}
    (hb : w.heap[pb]? = some (.cells #[.int .i64 q, .int .i64 cl, .int .i64 nw, .bool bg, .map (some bm)] 71 (0, 0))) (hm : MapIs eSub eEnt w bm M) (hne : pb ≠ bm) :
    let W := ((w.setCell ⟨pb, 2, none⟩ (.int .i64 at_)).setCell ⟨pb, 3, none⟩ (.bool true)).alloc (.cells cs 77)
    W.heap[pb]? = some (.cells #[.int .i64 q, .int .i64 cl, .int .i64 at_, .bool true, .map (some bm)] 71 (0, 0)) ∧ W.heap[w.heap.size]? = some (.cells cs 77 (0, 0)) ∧ MapIs eSub eEnt W bm M ∧ Fr [pb, bm] w W ∧ w.heap.size < W.heap.size := by
  have hpb := lt_of_blk hb
  have hbm := hm.lt
  refine ⟨?_, ?_, hm.keep ?_, (((Fr.refl _ _).setCell (.inl (by simp)) _).setCell (.inl (by simp)) _).alloc _, by simp⟩
  · rw [heap_alloc_lt (by simpa using hpb)]; simp [heap_set, hb, setAt_cells]
  · rw [heap_alloc_eq (by simp)]
  · rw [heap_alloc_lt (by simpa using hbm), heap_set_other hne.symm, heap_set_other hne.symm]

/-- The state in the middle of enter: the book's block, the subject's, the entry's, the map. -/
structure EnSt (w wd : World) (pb bm : Nat) (q cl nw : Int) (s : Sub) (X : Nat) (e : Ent) (M : List (Sub × Ent)) : Prop where
  book : wd.heap[pb]? = some (.cells #[.int .i64 q, .int .i64 cl, .int .i64 nw, .bool true, .map (some bm)] 71 (0, 0))
  sub : wd.heap[w.heap.size]? = some (.cells #[.int .i64 s.sid, .string s.name, .bool s.rule, .bool s.v6, .int .u64 s.hi, .int .u64 s.lo] 77 (0, 0))
  ent : wd.heap[X]? = some (.cells #[.int .i64 e.last, .int .i64 e.call, .int .i64 e.count, .int .i64 e.level] 95 (0, 0))
  map : MapIs eSub eEnt wd bm M
  fr : Fr [pb, bm] w wd
  pw : pb < w.heap.size
  bw : bm < w.heap.size
  xw : w.heap.size < X
  ne : pb ≠ bm

theorem EnSt.drewN {w wd : World} {pb bm X : Nat} {q cl nw : Int} {s : Sub} {e : Ent} {M : List (Sub × Ent)} (h : EnSt w wd pb bm q cl nw s X e M) (n : Nat) : EnSt w (wd.drewN n) pb bm q cl nw s X e M :=
  ⟨h.book, h.sub, h.ent, h.map, h.fr.drewN n, h.pw, h.bw, h.xw, h.ne⟩

theorem EnSt.drew {w wd : World} {pb bm X : Nat} {q cl nw : Int} {s : Sub} {e : Ent} {M : List (Sub × Ent)} (h : EnSt w wd pb bm q cl nw s X e M) : EnSt w wd.drew pb bm q cl nw s X e M :=
  ⟨h.book, h.sub, h.ent, h.map, h.fr.drew, h.pw, h.bw, h.xw, h.ne⟩

theorem EnSt.setEnt {w wd : World} {pb bm X : Nat} {q cl nw : Int} {s : Sub} {e : Ent} {M : List (Sub × Ent)} (h : EnSt w wd pb bm q cl nw s X e M) (j : Nat) (v : Value) (e' : Ent)
    (he : (#[.int .i64 e.last, .int .i64 e.call, .int .i64 e.count, .int .i64 e.level] : Array Value).setIfInBounds j v = #[.int .i64 e'.last, .int .i64 e'.call, .int .i64 e'.count, .int .i64 e'.level]) :
    EnSt w (wd.setCell ⟨X, j, none⟩ v) pb bm q cl nw s X e' M :=
  ⟨by rw [heap_set_other (by have := h.pw; have := h.xw; simp; omega)]; exact h.book, by rw [heap_set_other (by have := h.xw; simp; omega)]; exact h.sub, by rw [heap_set, h.ent, Option.map_some, setAt_cells, he],
    h.map.keep (heap_set_other (by have := h.bw; have := h.xw; simp; omega)), h.fr.setCell (.inr (Nat.le_of_lt h.xw)) _, h.pw, h.bw, h.xw, h.ne⟩

theorem EnSt.setCl {w wd : World} {pb bm X : Nat} {q cl nw : Int} {s : Sub} {e : Ent} {M : List (Sub × Ent)} (h : EnSt w wd pb bm q cl nw s X e M) (n : Int) : EnSt w (wd.setCell ⟨pb, 1, none⟩ (.int .i64 n)) pb bm q n nw s X e M :=
  ⟨by rw [heap_set, h.book]; rfl, by rw [heap_set_other (by have := h.pw; simp; omega)]; exact h.sub, by rw [heap_set_other (by have := h.pw; have := h.xw; simp; omega)]; exact h.ent,
    h.map.keep (heap_set_other (by exact h.ne.symm)), h.fr.setCell (.inl (by simp)) _, h.pw, h.bw, h.xw, h.ne⟩

theorem EnSt.put {w wd : World} {pb bm X : Nat} {q cl nw : Int} {s : Sub} {e : Ent} {M M' : List (Sub × Ent)} (h : EnSt w wd pb bm q cl nw s X e M) {wd' : World} (hm : MapIs eSub eEnt wd' bm M') (hf : Fr [bm] wd wd') :
    EnSt w wd' pb bm q cl nw s X e M' :=
  ⟨(hf.block _ (lt_of_blk h.book) (by simp [h.ne])).trans h.book, (hf.block _ (lt_of_blk h.sub) (by have := h.bw; simp; omega)).trans h.sub, (hf.block _ (lt_of_blk h.ent) (by have := h.bw; have := h.xw; simp; omega)).trans h.ent,
    hm, h.fr.andThen hf (by simp), h.pw, h.bw, h.xw, h.ne⟩

def EnterPost (g : Int → Int) (pb bm : Nat) (q cl nw' : Int) (s : Sub) (e1 : Ent) (M : List (Sub × Ent)) (w : World) (e : Ending) (w' : World) : Prop :=
      ∃ M1 n, Made M s M1 ∧ n = g (if s.rule then e1.count + 1 else e1.count) ∧
        e = .returned (.tuple #[.int .i64 n, .bool (decide (e1.level < n))]) ∧
        w'.heap[pb]? = some (.cells #[.int .i64 q, .int .i64 (cl + 1), .int .i64 nw', .bool true, .map (some bm)] 71 (0, 0)) ∧
        MapIs eSub eEnt w' bm (mput M1 s (entBehind nw' cl e1 s.rule n)) ∧ Fr [pb, bm] w w'

set_option maxRecDepth 100000 in
set_option maxHeartbeats 1000000 in
theorem enter_core (F : FuncId) (hF : ∀ args w, (callFunc F args).run Try.prog w = .ok (.enter F args) w) (x y : Value) (g : Int → Int)
    (pb bm : Nat) (q cl nw at_ nw' : Int) (bg found : Bool) (s : Sub) (e0 e1 : Ent) (M : List (Sub × Ent)) (w : World)
    (hb : w.heap[pb]? = some (.cells #[.int .i64 q, .int .i64 cl, .int .i64 nw, .bool bg, .map (some bm)] 71 (0, 0))) (hm : MapIs eSub eEnt w bm M)
    (hcl : 0 ≤ cl ∧ cl ≤ 1000000) (hpos : ∀ p ∈ M, 1 ≤ p.2.call) (hc1 : 0 ≤ e1.count ∧ e1.count ≤ 1000000)
    (hnw : nw' = later bg nw at_) (hget : mget M s = if found = true then some e0 else none) (hz : found = false → e0 = zEnt)
    (he1 : e1 = if (found && stale q nw' e0.last) = true then zEnt else e0)
    (hlev : ∀ (c : Int) (W : World), 0 ≤ c → c ≤ 1000001 → Fr [pb, bm] w W → Calls Try.prog F #[.int .i64 c, x, y] W fun e W' => e = .returned (.int .i64 (g c)) ∧ ∃ n, W' = W.drewN n) :
    Calls Try.prog 47 #[.pointer (some ⟨pb, 0, none⟩), .int .i64 at_, eSub s, .func (.func F) #[] #[x, y]] w fun e w' =>
      EnterPost g pb bm q cl nw' s e1 M w e w' := by
  have hpb := lt_of_blk hb
  have hbm := hm.lt
  have hne : pb ≠ bm := by
    rintro rfl
    obtain ⟨es, c, h1, _⟩ := hm
    rw [hb] at h1
    cases h1
  have c0 : w.cell? ⟨pb, 0, none⟩ = some (.int .i64 q) := cell_blk hb 0
  have c1 : w.cell? ⟨pb, 1, none⟩ = some (.int .i64 cl) := cell_blk hb 1
  have c2 : w.cell? ⟨pb, 2, none⟩ = some (.int .i64 nw) := cell_blk hb 2
  have c3 : w.cell? ⟨pb, 3, none⟩ = some (.bool bg) := cell_blk hb 3
  have c4 : w.cell? ⟨pb, 4, none⟩ = some (.map (some bm)) := cell_blk hb 4
  have cf0 : w.frozen? ⟨pb, 0, none⟩ = false := froz_blk hb 0
  have cf1 : w.frozen? ⟨pb, 1, none⟩ = false := froz_blk hb 1
  have cf2 : w.frozen? ⟨pb, 2, none⟩ = false := froz_blk hb 2
  have cf3 : w.frozen? ⟨pb, 3, none⟩ = false := froz_blk hb 3
  have cf4 : w.frozen? ⟨pb, 4, none⟩ = false := froz_blk hb 4
  have xl : pb < w.heap.size := by omega
  have xe0 : pb ≤ w.heap.size := by omega
  have xe1 : pb ≤ w.heap.size + 1 := by omega
  have xe2 : pb ≤ w.heap.size + 2 := by omega
  have emn := fun W => run_eql_map_nil (P := Try.prog) W 69 77 95 (some bm) Try.underlying69
  have HL := Lib.hid hlev
  clear hlev
  have HF := Lib.hid hF
  clear hF
  have HNW := Lib.hid hnw
  clear hnw
  have HG := Lib.hid hget
  clear hget
  have HZ := Lib.hid hz
  clear hz
  have HE := Lib.hid he1
  clear he1
  have hm1 := hm.keep (heap_alloc_lt (o := .cells #[.int .i64 s.sid, .string s.name, .bool s.rule, .bool s.v6, .int .u64 s.hi, .int .u64 s.lo] 77) hbm)
  have hA : Fr [pb, bm] w (w.alloc (.cells #[.int .i64 s.sid, .string s.name, .bool s.rule, .bool s.v6, .int .u64 s.hi, .int .u64 s.lo] 77)) := (Fr.refl _ _).alloc _
  have hn0 : w.heap.size < (w.alloc (.cells #[.int .i64 s.sid, .string s.name, .bool s.rule, .bool s.v6, .int .u64 s.hi, .int .u64 s.lo] 77)).heap.size := by simp
  have hb' : (w.alloc (.cells #[.int .i64 s.sid, .string s.name, .bool s.rule, .bool s.v6, .int .u64 s.hi, .int .u64 s.lo] 77)).heap[pb]? = _ := (heap_alloc_lt hpb).trans hb
  have hs' : (w.alloc (.cells #[.int .i64 s.sid, .string s.name, .bool s.rule, .bool s.v6, .int .u64 s.hi, .int .u64 s.lo] 77)).heap[w.heap.size]? = _ := heap_alloc_eq rfl
  have HB := Lib.hid hb'
  have HS := Lib.hid hs'
  clear hb' hs'
  simp only [eSub]
  go_enter Try.func47, Try.ntmps47
  go_upto_region 3 with (fail)
  go_cut [35] from 14 (fun s35 wc => s35 = .bool (decide (bg = false ∨ nw < at_)) ∧ wc = w.alloc (.cells #[.int .i64 s.sid, .string s.name, .bool s.rule, .bool s.v6, .int .u64 s.hi, .int .u64 s.lo] 77))
  case first =>
    cases bg
    all_goals
      go_wp2
      go_meet
      case rel => exact ⟨by simp, rfl⟩
  case rest =>
  obtain ⟨rfl, rfl⟩ := hcut
  go_upto_if 35 with (fail)
  go_cut [] from 14 (fun wc => wc.heap[pb]? = some (.cells #[.int .i64 q, .int .i64 cl, .int .i64 nw', .bool true, .map (some bm)] 71 (0, 0)) ∧
    wc.heap[w.heap.size]? = some (.cells #[.int .i64 s.sid, .string s.name, .bool s.rule, .bool s.v6, .int .u64 s.hi, .int .u64 s.lo] 77 (0, 0)) ∧ MapIs eSub eEnt wc bm M ∧ Fr [pb, bm] w wc ∧ w.heap.size < wc.heap.size)
  case first =>
    by_cases hb1 : bg = false ∨ nw < at_
    · have hl := Lib.hid (later_yes hb1)
      go_wp2
      go_meet
      case rel =>
        have hx : nw' = at_ := HNW.out.trans hl.out
        rw [hx]
        exact enter_cutA hb hm hne
    · have hl := Lib.hid (later_no hb1)
      go_wp2
      go_meet
      case rel =>
        have hx : nw' = nw := HNW.out.trans hl.out.1
        have hy : bg = true := hl.out.2
        rw [hx]
        exact ⟨by rw [HB.out, hy], HS.out, hm1, hA, hn0⟩
  case rest =>
  clear hm1 hA hb hm c0
  obtain ⟨hb1, hs1, hm1, hf1, hz1⟩ := hcut
  clear hn0 HB HS c1 c2 c3 c4 cf0 cf1 cf2 cf3 cf4 xl xe0 xe1 xe2
  have c0 : wc.cell? ⟨pb, 0, none⟩ = some (.int .i64 q) := cell_blk hb1 0
  have c1 : wc.cell? ⟨pb, 1, none⟩ = some (.int .i64 cl) := cell_blk hb1 1
  have c2 : wc.cell? ⟨pb, 2, none⟩ = some (.int .i64 nw') := cell_blk hb1 2
  have c3 : wc.cell? ⟨pb, 3, none⟩ = some (.bool true) := cell_blk hb1 3
  have c4 : wc.cell? ⟨pb, 4, none⟩ = some (.map (some bm)) := cell_blk hb1 4
  have cf0 : wc.frozen? ⟨pb, 0, none⟩ = false := froz_blk hb1 0
  have cf1 : wc.frozen? ⟨pb, 1, none⟩ = false := froz_blk hb1 1
  have cf2 : wc.frozen? ⟨pb, 2, none⟩ = false := froz_blk hb1 2
  have cf3 : wc.frozen? ⟨pb, 3, none⟩ = false := froz_blk hb1 3
  have cf4 : wc.frozen? ⟨pb, 4, none⟩ = false := froz_blk hb1 4
  have s0 : wc.cell? ⟨w.heap.size, 0, none⟩ = some (.int .i64 s.sid) := cell_blk hs1 0
  have s1 : wc.cell? ⟨w.heap.size, 1, none⟩ = some (.string s.name) := cell_blk hs1 1
  have s2 : wc.cell? ⟨w.heap.size, 2, none⟩ = some (.bool s.rule) := cell_blk hs1 2
  have s3 : wc.cell? ⟨w.heap.size, 3, none⟩ = some (.bool s.v6) := cell_blk hs1 3
  have s4 : wc.cell? ⟨w.heap.size, 4, none⟩ = some (.int .u64 s.hi) := cell_blk hs1 4
  have s5 : wc.cell? ⟨w.heap.size, 5, none⟩ = some (.int .u64 s.lo) := cell_blk hs1 5
  have sf0 : wc.frozen? ⟨w.heap.size, 0, none⟩ = false := froz_blk hs1 0
  have sf1 : wc.frozen? ⟨w.heap.size, 1, none⟩ = false := froz_blk hs1 1
  have sf2 : wc.frozen? ⟨w.heap.size, 2, none⟩ = false := froz_blk hs1 2
  have sf3 : wc.frozen? ⟨w.heap.size, 3, none⟩ = false := froz_blk hs1 3
  have sf4 : wc.frozen? ⟨w.heap.size, 4, none⟩ = false := froz_blk hs1 4
  have sf5 : wc.frozen? ⟨w.heap.size, 5, none⟩ = false := froz_blk hs1 5
  have xl : pb < wc.heap.size := by omega
  have xe0 : pb ≤ wc.heap.size := by omega
  have xe1 : pb ≤ wc.heap.size + 1 := by omega
  have xe2 : pb ≤ wc.heap.size + 2 := by omega
  have yl : w.heap.size < wc.heap.size := by omega
  have ye0 : w.heap.size ≤ wc.heap.size := by omega
  have ye1 : w.heap.size ≤ wc.heap.size + 1 := by omega
  have ye2 : w.heap.size ≤ wc.heap.size + 2 := by omega
  have hl0 : ∀ W : World, MapIs eSub eEnt W bm M → (Instr.lookup 69 (.map (some bm)) (.agg #[.int .i64 s.sid, .string s.name, .bool s.rule, .bool s.v6, .int .u64 s.hi, .int .u64 s.lo]) true).run Try.prog W = .ok (.tuple #[.agg #[.int .i64 e0.last, .int .i64 e0.call, .int .i64 e0.count, .int .i64 e0.level], .bool found]) W := by
    intro W hW
    have h := MapIs.lookup keyOk Try.underlying69 (zero95 W) hW s true
    rw [HG.out] at h
    rw [show (Value.agg #[.int .i64 s.sid, .string s.name, .bool s.rule, .bool s.v6, .int .u64 s.hi, .int .u64 s.lo]) = eSub s from rfl, h]
    cases found with
    | false => rw [HZ.out rfl]; rfl
    | true => rfl
  have hl1 := hl0 wc.drew hm1
  have hl2 := fun o => hl0 (wc.alloc o).drew (hm1.keep (heap_alloc_lt hm1.lt))
  clear hl0
  go_wp2
  go_region
  clear hl1 hl2
  go_upto_region 6 with (fail)
  have st1 : EnSt w (wc.alloc (.cells #[.int .i64 e0.last, .int .i64 e0.call, .int .i64 e0.count, .int .i64 e0.level] 95)) pb bm q cl nw' s wc.heap.size e0 M :=
    ⟨(heap_alloc_lt (lt_of_blk hb1)).trans hb1, (heap_alloc_lt hz1).trans hs1, heap_alloc_eq rfl, hm1.keep (heap_alloc_lt hm1.lt), hf1.alloc _, hpb, hbm, hz1, hne⟩
  obtain ⟨X, hX⟩ : ∃ X, X = wc.heap.size := ⟨_, rfl⟩
  go_cut [10, 11, 69] from 14 (fun s10 s11 s69 wd => s10 = .pointer (some ⟨wc.heap.size, 0, none⟩) ∧ s11 = .bool found ∧ s69 = .bool (found && stale q nw' e0.last) ∧ EnSt w wd pb bm q cl nw' s wc.heap.size e0 M)
  case first =>
    clear hX
    cases found
    · have hd : decide (false = true) = false := rfl
      go_quiet (fail)
      go_wp2
      go_meet
      case rel => exact ⟨rfl, rfl, rfl, st1.drewN (1 + nq)⟩
    · go_quiet (fail)
      go_wp2
      go_meet
      case rel => exact ⟨rfl, rfl, rfl, st1.drewN (1 + nq)⟩
  case rest =>
    obtain ⟨rfl, rfl, rfl, st2⟩ := hcut
    clear st1 hb1 hs1 hm1 hf1 c0 c1 c2 c3 c4 cf0 cf1 cf2 cf3 cf4 s0 s1 s2 s3 s4 s5 sf0 sf1 sf2 sf3 sf4 sf5 xl xe0 xe1 xe2 yl ye0 ye1 ye2
    rw [← hX] at st2 hz1 ⊢
    clear hX
    go_upto_if 69 with (fail)
    go_cut [] from 14 (fun wd => EnSt w wd pb bm q cl nw' s X e1 M)
    case first =>
      have x0 : wc.cell? ⟨X, 0, none⟩ = some (.int .i64 e0.last) := cell_blk st2.ent 0
      have x1 : wc.cell? ⟨X, 1, none⟩ = some (.int .i64 e0.call) := cell_blk st2.ent 1
      have x2 : wc.cell? ⟨X, 2, none⟩ = some (.int .i64 e0.count) := cell_blk st2.ent 2
      have x3 : wc.cell? ⟨X, 3, none⟩ = some (.int .i64 e0.level) := cell_blk st2.ent 3
      have xf0 : wc.frozen? ⟨X, 0, none⟩ = false := froz_blk st2.ent 0
      have xf1 : wc.frozen? ⟨X, 1, none⟩ = false := froz_blk st2.ent 1
      have xf2 : wc.frozen? ⟨X, 2, none⟩ = false := froz_blk st2.ent 2
      have xf3 : wc.frozen? ⟨X, 3, none⟩ = false := froz_blk st2.ent 3
      cases hst : (found && stale q nw' e0.last)
      · have he : Hid (e1 = e0) := by have := HE.out; rw [hst] at this; exact this
        go_wp2
        go_meet
        case rel => rw [he.out]; exact st2
      · have he : Hid (e1 = zEnt) := by have := HE.out; rw [hst] at this; exact this
        go_wp2
        go_meet
        case rel =>
          rw [he.out]
          exact (((st2.setEnt 0 _ ⟨0, e0.call, e0.count, e0.level⟩ rfl).setEnt 1 _ ⟨0, 0, e0.count, e0.level⟩ rfl).setEnt 2 _ ⟨0, 0, 0, e0.level⟩ rfl).setEnt 3 _ zEnt rfl
    case rest =>
      have st3 := hcut
      clear hcut st2
      have c4 : wc.cell? ⟨pb, 4, none⟩ = some (.map (some bm)) := cell_blk st3.book 4
      have hlen := MapIs.len (P := Try.prog) Try.underlying69 st3.map 3
      go_upto_region 8 with (fail)
      go_cut [80] from 14 (fun s80 wd => s80 = .bool (!found && decide (256 ≤ M.length)) ∧ wd = wc)
      case first =>
        cases found
        all_goals
          go_wp2
          go_meet
          case rel => exact ⟨by simp <;> omega, rfl⟩
      case rest =>
      obtain ⟨rfl, rfl⟩ := hcut
      go_upto_if 80 with (fail)
      go_cut [] from 14 (fun wd => ∃ M1, Made M s M1 ∧ EnSt w wd pb bm q cl nw' s X e1 M1)
      case first =>
        cases hfo : (!found && decide (256 ≤ M.length))
        · have hmade : Made M s M := by
            unfold Made
            rw [if_neg]
            rintro ⟨h1, h2⟩
            rw [HG.out] at h1
            cases found with
            | true => cases h1
            | false => simp at hfo; omega
          go_wp2
          go_meet
          case rel => exact ⟨M, hmade, st3⟩
        · have hmade : ∀ f e, (f, e) ∈ M → (∀ p ∈ M, e.call ≤ p.2.call) → Made M s (mdel M f) := by
            intro f e h1 h2
            unfold Made
            rw [if_pos]
            · exact ⟨f, e, h1, h2, rfl⟩
            · rw [HG.out]
              cases found with
              | true => cases hfo
              | false => simp at hfo; exact ⟨rfl, hfo⟩
          have HM := Lib.hid hmade
          have hne0 : M ≠ [] := by
            rintro rfl
            cases found <;> simp at hfo
          have hcon := forget_any pb bm _ M wc hne0 hpos st3.book rfl st3.map
          have HC := hide hcon
          clear hmade hcon
          go_wp2_with (go_at_call 54; refine (unhide HC).mono ?_; rintro e w' ⟨rfl, f, en, h1, h2, h3, h4⟩)
          go_meet
          case rel => exact ⟨_, HM.out f en h1 h2, st3.put h3 h4⟩
      case rest =>
      obtain ⟨M1, hmade, st4⟩ := hcut
      have HMade := Lib.hid hmade
      clear hmade c4 hlen st3
      have c0 : wc.cell? ⟨pb, 0, none⟩ = some (.int .i64 q) := cell_blk st4.book 0
      have c1 : wc.cell? ⟨pb, 1, none⟩ = some (.int .i64 cl) := cell_blk st4.book 1
      have c2 : wc.cell? ⟨pb, 2, none⟩ = some (.int .i64 nw') := cell_blk st4.book 2
      have c3 : wc.cell? ⟨pb, 3, none⟩ = some (.bool true) := cell_blk st4.book 3
      have c4 : wc.cell? ⟨pb, 4, none⟩ = some (.map (some bm)) := cell_blk st4.book 4
      have cf0 : wc.frozen? ⟨pb, 0, none⟩ = false := froz_blk st4.book 0
      have cf1 : wc.frozen? ⟨pb, 1, none⟩ = false := froz_blk st4.book 1
      have cf2 : wc.frozen? ⟨pb, 2, none⟩ = false := froz_blk st4.book 2
      have cf3 : wc.frozen? ⟨pb, 3, none⟩ = false := froz_blk st4.book 3
      have cf4 : wc.frozen? ⟨pb, 4, none⟩ = false := froz_blk st4.book 4
      have s0 : wc.cell? ⟨w.heap.size, 0, none⟩ = some (.int .i64 s.sid) := cell_blk st4.sub 0
      have s1 : wc.cell? ⟨w.heap.size, 1, none⟩ = some (.string s.name) := cell_blk st4.sub 1
      have s2 : wc.cell? ⟨w.heap.size, 2, none⟩ = some (.bool s.rule) := cell_blk st4.sub 2
      have s3 : wc.cell? ⟨w.heap.size, 3, none⟩ = some (.bool s.v6) := cell_blk st4.sub 3
      have s4 : wc.cell? ⟨w.heap.size, 4, none⟩ = some (.int .u64 s.hi) := cell_blk st4.sub 4
      have s5 : wc.cell? ⟨w.heap.size, 5, none⟩ = some (.int .u64 s.lo) := cell_blk st4.sub 5
      have sf0 : wc.frozen? ⟨w.heap.size, 0, none⟩ = false := froz_blk st4.sub 0
      have sf1 : wc.frozen? ⟨w.heap.size, 1, none⟩ = false := froz_blk st4.sub 1
      have sf2 : wc.frozen? ⟨w.heap.size, 2, none⟩ = false := froz_blk st4.sub 2
      have sf3 : wc.frozen? ⟨w.heap.size, 3, none⟩ = false := froz_blk st4.sub 3
      have sf4 : wc.frozen? ⟨w.heap.size, 4, none⟩ = false := froz_blk st4.sub 4
      have sf5 : wc.frozen? ⟨w.heap.size, 5, none⟩ = false := froz_blk st4.sub 5
      have x0 : wc.cell? ⟨X, 0, none⟩ = some (.int .i64 e1.last) := cell_blk st4.ent 0
      have x1 : wc.cell? ⟨X, 1, none⟩ = some (.int .i64 e1.call) := cell_blk st4.ent 1
      have x2 : wc.cell? ⟨X, 2, none⟩ = some (.int .i64 e1.count) := cell_blk st4.ent 2
      have x3 : wc.cell? ⟨X, 3, none⟩ = some (.int .i64 e1.level) := cell_blk st4.ent 3
      have xf0 : wc.frozen? ⟨X, 0, none⟩ = false := froz_blk st4.ent 0
      have xf1 : wc.frozen? ⟨X, 1, none⟩ = false := froz_blk st4.ent 1
      have xf2 : wc.frozen? ⟨X, 2, none⟩ = false := froz_blk st4.ent 2
      have xf3 : wc.frozen? ⟨X, 3, none⟩ = false := froz_blk st4.ent 3
      have hxw := st4.xw
      have hpx : pb ≠ X := by omega
      have hpX : X ≠ pb := by omega
      have hnx : w.heap.size ≠ X := by omega
      have hnX : X ≠ w.heap.size := by omega
      have hpn : pb ≠ w.heap.size := by omega
      go_wp2
      go_region
      have st5 := ((st4.setCl (cl + 1)).setEnt 0 (.int .i64 nw') ⟨nw', e1.call, e1.count, e1.level⟩ rfl).setEnt 1 (.int .i64 (cl + 1)) ⟨nw', cl + 1, e1.count, e1.level⟩ rfl
      go_upto_if 101 with (fail)
      go_cut [2] from 14 (fun _ wd => EnSt w wd pb bm q (cl + 1) nw' s X ⟨nw', cl + 1, if s.rule = true then e1.count + 1 else e1.count, e1.level⟩ M1)
      case first =>
        cases hru : s.rule
        · go_wp2
          go_meet
          case rel =>
            rw [if_neg (by rw [hru]; simp)]
            exact st5.drew
        · go_wp2
          go_meet
          case rel =>
            rw [if_pos hru]
            exact (st5.setEnt 2 (.int .i64 (e1.count + 1)) ⟨nw', cl + 1, e1.count + 1, e1.level⟩ rfl).drew
      case rest =>
      have st6 := hcut
      clear hcut st5 st4 c0 c1 c2 c3 c4 cf0 cf1 cf2 cf3 cf4 s0 s1 s2 s3 s4 s5 sf0 sf1 sf2 sf3 sf4 sf5 x0 x1 x2 x3 xf0 xf1 xf2 xf3
      obtain ⟨ct, hct⟩ : ∃ c, c = (if s.rule = true then e1.count + 1 else e1.count) := ⟨_, rfl⟩
      have hc2 : 0 ≤ ct ∧ ct ≤ 1000001 := by rw [hct]; split <;> omega
      rw [← hct] at st6
      have HCT := Lib.hid hct
      clear hct
      have HCF := HF.out
      have x2 : wc.cell? ⟨X, 2, none⟩ = some (.int .i64 ct) := cell_blk st6.ent 2
      go_wp2_with (fail)
      refine (HL.out ct _ hc2.1 hc2.2 st6.fr).mono ?_
      rintro e wy ⟨rfl, nd, hwy⟩
      have st8 : EnSt w wy pb bm q (cl + 1) nw' s X ⟨nw', cl + 1, ct, e1.level⟩ M1 := by rw [hwy]; exact st6.drewN nd
      clear hwy st6 x2
      have st6 := st8
      clear st8
      have c0 : wy.cell? ⟨pb, 0, none⟩ = some (.int .i64 q) := cell_blk st6.book 0
      have c1 : wy.cell? ⟨pb, 1, none⟩ = some (.int .i64 (cl + 1)) := cell_blk st6.book 1
      have c2 : wy.cell? ⟨pb, 2, none⟩ = some (.int .i64 nw') := cell_blk st6.book 2
      have c3 : wy.cell? ⟨pb, 3, none⟩ = some (.bool true) := cell_blk st6.book 3
      have c4 : wy.cell? ⟨pb, 4, none⟩ = some (.map (some bm)) := cell_blk st6.book 4
      have cf0 : wy.frozen? ⟨pb, 0, none⟩ = false := froz_blk st6.book 0
      have cf1 : wy.frozen? ⟨pb, 1, none⟩ = false := froz_blk st6.book 1
      have cf2 : wy.frozen? ⟨pb, 2, none⟩ = false := froz_blk st6.book 2
      have cf3 : wy.frozen? ⟨pb, 3, none⟩ = false := froz_blk st6.book 3
      have cf4 : wy.frozen? ⟨pb, 4, none⟩ = false := froz_blk st6.book 4
      have s0 : wy.cell? ⟨w.heap.size, 0, none⟩ = some (.int .i64 s.sid) := cell_blk st6.sub 0
      have s1 : wy.cell? ⟨w.heap.size, 1, none⟩ = some (.string s.name) := cell_blk st6.sub 1
      have s2 : wy.cell? ⟨w.heap.size, 2, none⟩ = some (.bool s.rule) := cell_blk st6.sub 2
      have s3 : wy.cell? ⟨w.heap.size, 3, none⟩ = some (.bool s.v6) := cell_blk st6.sub 3
      have s4 : wy.cell? ⟨w.heap.size, 4, none⟩ = some (.int .u64 s.hi) := cell_blk st6.sub 4
      have s5 : wy.cell? ⟨w.heap.size, 5, none⟩ = some (.int .u64 s.lo) := cell_blk st6.sub 5
      have sf0 : wy.frozen? ⟨w.heap.size, 0, none⟩ = false := froz_blk st6.sub 0
      have sf1 : wy.frozen? ⟨w.heap.size, 1, none⟩ = false := froz_blk st6.sub 1
      have sf2 : wy.frozen? ⟨w.heap.size, 2, none⟩ = false := froz_blk st6.sub 2
      have sf3 : wy.frozen? ⟨w.heap.size, 3, none⟩ = false := froz_blk st6.sub 3
      have sf4 : wy.frozen? ⟨w.heap.size, 4, none⟩ = false := froz_blk st6.sub 4
      have sf5 : wy.frozen? ⟨w.heap.size, 5, none⟩ = false := froz_blk st6.sub 5
      have x0 : wy.cell? ⟨X, 0, none⟩ = some (.int .i64 nw') := cell_blk st6.ent 0
      have x1 : wy.cell? ⟨X, 1, none⟩ = some (.int .i64 (cl + 1)) := cell_blk st6.ent 1
      have x2 : wy.cell? ⟨X, 2, none⟩ = some (.int .i64 ct) := cell_blk st6.ent 2
      have x3 : wy.cell? ⟨X, 3, none⟩ = some (.int .i64 e1.level) := cell_blk st6.ent 3
      have xf0 : wy.frozen? ⟨X, 0, none⟩ = false := froz_blk st6.ent 0
      have xf1 : wy.frozen? ⟨X, 1, none⟩ = false := froz_blk st6.ent 1
      have xf2 : wy.frozen? ⟨X, 2, none⟩ = false := froz_blk st6.ent 2
      have xf3 : wy.frozen? ⟨X, 3, none⟩ = false := froz_blk st6.ent 3
      by_cases hlt : e1.level < g ct
      · obtain ⟨es', c', hup, hrep⟩ := MapIs.update keyOk Try.underlying69 (w := (wy.setCell ⟨X, 3, none⟩ (.int .i64 (g ct))).drew) (st6.setEnt 3 (.int .i64 (g ct)) ⟨nw', cl + 1, ct, g ct⟩ rfl).map s ⟨nw', cl + 1, ct, g ct⟩
        simp only [eSub, eEnt] at hup
        have st7 := st6.setEnt 3 (.int .i64 (g ct)) ⟨nw', cl + 1, ct, g ct⟩ rfl
        go_wp2
        go_region
        go_wp2
        go_ret2
        refine ⟨M1, g ct, HMade.out, by rw [HCT.out], by simp [hlt], ?_, ?_, ?_⟩
        · exact (heap_blk_other (by exact st7.ne)).trans st7.book
        · refine ⟨es', c', heap_blk_same (by exact st7.map.lt), ?_⟩
          have hv : entBehind nw' cl e1 s.rule (g ct) = ⟨nw', cl + 1, ct, g ct⟩ := by unfold entBehind; rw [← HCT.out, show max e1.level (g ct) = g ct by omega]
          rw [hv]; exact hrep
        · exact st7.fr.drew.setBlock (.inl (by simp)) _
      · obtain ⟨es', c', hup, hrep⟩ := MapIs.update keyOk Try.underlying69 (w := (wy.setCell ⟨X, 3, none⟩ (.int .i64 e1.level)).drew) (st6.setEnt 3 (.int .i64 e1.level) ⟨nw', cl + 1, ct, e1.level⟩ rfl).map s ⟨nw', cl + 1, ct, e1.level⟩
        simp only [eSub, eEnt] at hup
        have st7 := st6.setEnt 3 (.int .i64 e1.level) ⟨nw', cl + 1, ct, e1.level⟩ rfl
        go_wp2
        go_region
        go_wp2
        go_ret2
        refine ⟨M1, g ct, HMade.out, by rw [HCT.out], by simp, ?_, ?_, ?_⟩
        · exact (heap_blk_other (by exact st7.ne)).trans st7.book
        · refine ⟨es', c', heap_blk_same (by exact st7.map.lt), ?_⟩
          have hv : entBehind nw' cl e1 s.rule (g ct) = ⟨nw', cl + 1, ct, e1.level⟩ := by unfold entBehind; rw [← HCT.out, show max e1.level (g ct) = e1.level by omega]
          rw [hv]; exact hrep
        · exact st7.fr.drew.setBlock (.inl (by simp)) _
end Go.Proofs.Ytnghfmefjjkgdaa

