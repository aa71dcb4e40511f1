/- The exported functions of package escalate as steps on a book. -/
import Derived.Test.YtnghfmefjjkgdaaEnter
namespace Go.Proofs.Ytnghfmefjjkgdaa
open Go.RowKit

theorem ret_int {k : IntKind} {a b : Int} (h : a = b) : Ending.returned (.int k a) = .returned (.int k b) := by rw [h]

theorem limit_any (n lo hi : Int) (w : World) :
    Calls Try.prog 42 #[.int .i64 n, .int .i64 lo, .int .i64 hi] w fun e w' => e = .returned (.int .i64 (max lo (min hi n))) ∧ w = w' := by
  go_enter Try.func42, Try.ntmps42
  go_wp2
  all_goals
    go_ret
    exact ⟨ret_int (by omega), rfl⟩

def sev (p v : Int) : Int := 5 - max 1 (min 4 p) + max 0 (min 3 v)
theorem sev_bd (p v : Int) : 1 ≤ sev p v ∧ sev p v ≤ 7 := by unfold sev; omega

theorem sev_any (p v : Int) (w : World) :
    Calls Try.prog 12 #[.int .i64 p, .int .i64 v] w fun e w' => e = .returned (.int .i64 (sev p v)) ∧ w = w' := by
  obtain ⟨a, ha⟩ : ∃ a, a = max 1 (min 4 p) := ⟨_, rfl⟩
  obtain ⟨b, hb⟩ : ∃ b, b = max 0 (min 3 v) := ⟨_, rfl⟩
  have ha1 : 1 ≤ a ∧ a ≤ 4 := by omega
  have hb1 : 0 ≤ b ∧ b ≤ 3 := by omega
  have h1 := hide (limit_any p 1 4 w)
  have h2 := hide (limit_any v 0 3 w)
  rw [← ha] at h1
  rw [← hb] at h2
  have hs : Hid (sev p v = 5 - a + b) := by rw [ha, hb]; rfl
  clear ha hb
  go_enter Try.func12, Try.ntmps12
  go_wp2_with fail
  refine (unhide h1).mono ?_
  rintro e w' ⟨rfl, rfl⟩
  go_wp2_with fail
  refine (unhide h2).mono ?_
  rintro e w' ⟨rfl, rfl⟩
  go_wp2_with fail
  go_ret
  exact ⟨ret_int hs.out.symm, rfl⟩

def alertLevel (p v c : Int) : Int := min (sev p v + (if 100 ≤ c then 2 else if 10 ≤ c then 1 else 0)) 9
def caseLevel (l v : Int) : Int := min (max 0 (min 9 l) + max 0 (min 3 v)) 9

/-- The closure of Alert: block B1 holds the alert, block B2 the value. -/
theorem alert1_any (B1 B2 : Nat) (c p v : Int) (w : World) (hp : w.cell? ⟨B1, 3, none⟩ = some (.int .i64 p)) (hv : w.cell? ⟨B2, 0, none⟩ = some (.int .i64 v)) :
    Calls Try.prog 48 #[.int .i64 c, .pointer (some ⟨B1, 0, none⟩), .pointer (some ⟨B2, 0, none⟩)] w fun e w' => e = .returned (.int .i64 (alertLevel p v c)) ∧ w = w' := by
  have hs := hide (sev_any p v w)
  have hbd := sev_bd p v
  obtain ⟨s, hs1⟩ : ∃ s, s = sev p v := ⟨_, rfl⟩
  have hl : Hid (alertLevel p v c = min (s + (if 100 ≤ c then 2 else if 10 ≤ c then 1 else 0)) 9) := by rw [hs1]; rfl
  rw [← hs1] at hs hbd
  clear hs1
  go_enter Try.func48, Try.ntmps48
  go_wp2_with (go_at_call 12; refine (unhide hs).mono ?_; rintro e w' ⟨rfl, rfl⟩)
  all_goals
    go_ret
    exact ⟨ret_int (by rw [hl.out]; omega), rfl⟩

theorem limit_q (n lo hi : Int) (w : World) :
    Calls Try.prog 42 #[.int .i64 n, .int .i64 lo, .int .i64 hi] w fun e w' => e = .returned (.int .i64 (max lo (min hi n))) ∧ w' = w :=
  (limit_any n lo hi w).mono fun _ _ ⟨h1, h2⟩ => ⟨h1, h2.symm⟩

/-- The closure of Case: block B1 holds the case, block B2 the value. -/
theorem case1_any (B1 B2 : Nat) (c l v : Int) (w : World) (hp : w.cell? ⟨B1, 9, none⟩ = some (.int .i64 l)) (hv : w.cell? ⟨B2, 0, none⟩ = some (.int .i64 v)) :
    Calls Try.prog 49 #[.int .i64 c, .pointer (some ⟨B1, 0, none⟩), .pointer (some ⟨B2, 0, none⟩)] w fun e w' => e = .returned (.int .i64 (caseLevel l v)) ∧ ∃ n, w' = w.drewN n := by
  go_enter Try.func49, Try.ntmps49
  go_wp2
  go_quiet ((go_at_call 42; exact Calls.quiet_of_same (limit_q _ _ _ _)))
  go_wp2
  all_goals
    go_ret
    exact ⟨ret_int (by unfold caseLevel; omega), _, rfl⟩

theorem new_any (n : Int) (w : World) :
    Calls Try.prog 15 #[.int .i64 n] w fun e w' => e = .returned (.pointer (some ⟨w.heap.size + 1, 0, none⟩)) ∧
      w' = (w.alloc (.map #[] 0)).alloc (.cells #[.int .i64 (max 1 (min 1099511627776 n)), .int .i64 0, .int .i64 0, .bool false, .map (some w.heap.size)] 71) := by
  have hmm := @run_makeMap Try.prog
  go_enter Try.func15, Try.ntmps15
  go_wp2_with (go_at_call 42; refine (limit_any _ _ _ _).mono ?_; rintro e w' ⟨rfl, rfl⟩)
  go_ret
  exact ⟨rfl, rfl⟩

theorem len_any (pb bm : Nat) (cs : Array Value) (M : List (Sub × Ent)) (w : World)
    (hb : w.heap[pb]? = some (.cells cs 71 (0, 0))) (h4 : cs[4]? = some (.map (some bm))) (hm : MapIs eSub eEnt w bm M) :
    Calls Try.prog 18 #[.pointer (some ⟨pb, 0, none⟩)] w fun e w' => e = .returned (.int .i64 M.length) ∧ w = w' := by
  have c4 : w.cell? ⟨pb, 4, none⟩ = some (.map (some bm)) := by rw [cell_blk hb, h4]
  have hlen := MapIs.len (P := Try.prog) Try.underlying69 hm 3
  go_enter Try.func18, Try.ntmps18
  go_wp2
  go_ret
  exact ⟨rfl, rfl⟩

structure Bk where
  q : Int
  cl : Int
  nw : Int
  bg : Bool
  M : List (Sub × Ent)

structure BookIs (w : World) (pb bm : Nat) (B : Bk) : Prop where
  blk : w.heap[pb]? = some (.cells #[.int .i64 B.q, .int .i64 B.cl, .int .i64 B.nw, .bool B.bg, .map (some bm)] 71 (0, 0))
  map : MapIs eSub eEnt w bm B.M

theorem BookIs.keep {w w' : World} {pb bm : Nat} {B : Bk} (h : BookIs w pb bm B) (hp : w'.heap[pb]? = w.heap[pb]?) (hb : w'.heap[bm]? = w.heap[bm]?) : BookIs w' pb bm B :=
  ⟨hp.trans h.blk, h.map.keep hb⟩
theorem BookIs.ne {w : World} {pb bm : Nat} {B : Bk} (h : BookIs w pb bm B) : pb ≠ bm := by
  rintro rfl
  obtain ⟨es, c, h1, _⟩ := h.map
  rw [h.blk] at h1
  cases h1
theorem BookIs.fr {w w' : World} {S : List Nat} {pb bm : Nat} {B : Bk} (h : BookIs w pb bm B) (hf : Fr S w w') (hp : pb ∉ S) (hb : bm ∉ S) : BookIs w' pb bm B :=
  h.keep (hf.block _ (lt_of_blk h.blk) hp) (hf.block _ h.map.lt hb)

structure Bk.Ok (B : Bk) : Prop where
  cl : 0 ≤ B.cl ∧ B.cl ≤ 1000000
  ent : ∀ p ∈ B.M, 1 ≤ p.2.call ∧ p.2.call ≤ B.cl ∧ 0 ≤ p.2.count ∧ p.2.count ≤ B.cl

/-- One call of enter, as a step from book to book. -/
def Enters (B : Bk) (at_ : Int) (s : Sub) (g : Int → Int) (n : Int) (nt : Bool) (B' : Bk) : Prop :=
  ∃ M1, Made B.M s M1 ∧ n = g (if s.rule = true then (entOf B.q (later B.bg B.nw at_) B.M s).count + 1 else (entOf B.q (later B.bg B.nw at_) B.M s).count) ∧
    nt = decide ((entOf B.q (later B.bg B.nw at_) B.M s).level < n) ∧
    B' = ⟨B.q, B.cl + 1, later B.bg B.nw at_, true, mput M1 s (entBehind (later B.bg B.nw at_) B.cl (entOf B.q (later B.bg B.nw at_) B.M s) s.rule n)⟩

def StepPost (B : Bk) (at_ : Int) (s : Sub) (g : Int → Int) (pb bm : Nat) (w : World) (e : Ending) (w' : World) : Prop :=
  ∃ n nt B', Enters B at_ s g n nt B' ∧ e = .returned (.tuple #[.int .i64 n, .bool nt]) ∧ BookIs w' pb bm B' ∧ Fr [pb, bm] w w'

theorem entOf_cnt {B : Bk} (ok : B.Ok) (nw : Int) (s : Sub) : 0 ≤ (entOf B.q nw B.M s).count ∧ (entOf B.q nw B.M s).count ≤ B.cl := by
  have hc := ok.cl
  unfold entOf
  cases h : mget B.M s with
  | none => simp [zEnt]; omega
  | some e =>
    have := ok.ent _ (mget_some h)
    dsimp only
    split
    · simp [zEnt]; omega
    · exact ⟨this.2.2.1, this.2.2.2⟩

theorem enter_bk (F : FuncId) (hF : ∀ args w, (callFunc F args).run Try.prog w = .ok (.enter F args) w) (x y : Value) (g : Int → Int)
    (pb bm : Nat) (at_ : Int) (s : Sub) (B : Bk) (w : World) (hB : BookIs w pb bm B) (ok : B.Ok)
    (hlev : ∀ (c : Int) (W : World), 0 ≤ c → c ≤ 1000001 → Fr [pb, bm] w W → Calls Try.prog F #[.int .i64 c, x, y] W fun e W' => e = .returned (.int .i64 (g c)) ∧ ∃ n, W' = W.drewN n) :
    Calls Try.prog 47 #[.pointer (some ⟨pb, 0, none⟩), .int .i64 at_, eSub s, .func (.func F) #[] #[x, y]] w (StepPost B at_ s g pb bm w) := by
  have hc := ok.cl
  have hcnt := entOf_cnt ok (later B.bg B.nw at_) s
  refine (enter_core F hF x y g pb bm B.q B.cl B.nw at_ (later B.bg B.nw at_) B.bg (mget B.M s).isSome s ((mget B.M s).getD zEnt) (entOf B.q (later B.bg B.nw at_) B.M s) B.M w hB.blk hB.map hc
    (fun p hp => (ok.ent p hp).1) ⟨hcnt.1, by omega⟩ rfl ?_ ?_ ?_ hlev).mono ?_
  · cases mget B.M s <;> simp
  · cases mget B.M s <;> simp
  · unfold entOf
    cases mget B.M s <;> simp
  · rintro e w' ⟨M1, n, h1, h2, h3, h4, h5, h6⟩
    exact ⟨n, _, _, ⟨M1, h1, h2, rfl, rfl⟩, h3, ⟨h4, h5⟩, h6⟩

theorem call48 (args : Array Value) (w : World) : (callFunc 48 args).run Try.prog w = .ok (.enter 48 args) w := by kernel_rfl
theorem call49 (args : Array Value) (w : World) : (callFunc 49 args).run Try.prog w = .ok (.enter 49 args) w := by kernel_rfl

structure Al where
  at_ : Int
  sid : Int
  prio : Int
  v6 : Bool
  hi : Int
  lo : Int
  z2 : Value
  z4 : Value
  z5 : Value
  z6 : Value
  z7 : Value
  z8 : Value
  z9 : Value
  z13 : Value
  z14 : Value
  z15 : Value
  z16 : Value
  z17 : Value
  z18 : Value
  z19 : Value
  z20 : Value
def Al.cells (a : Al) : Array Value := #[.int .i64 a.at_, .int .i64 a.sid, a.z2, .int .i64 a.prio, a.z4, a.z5, a.z6, a.z7, a.z8, a.z9, .bool a.v6, .int .u64 a.hi, .int .u64 a.lo, a.z13, a.z14, a.z15, a.z16, a.z17, a.z18, a.z19, a.z20]
def Al.sub (a : Al) : Sub := ⟨a.sid, ⟨#[]⟩, true, a.v6, a.hi, a.lo⟩

structure Ca where
  name : ByteArray
  at_ : Int
  v6 : Bool
  hi : Int
  lo : Int
  level : Int
  z2 : Value
  z6 : Value
  z7 : Value
  z8 : Value
  z10 : Value
def Ca.cells (a : Ca) : Array Value := #[.string a.name, .int .i64 a.at_, a.z2, .bool a.v6, .int .u64 a.hi, .int .u64 a.lo, a.z6, a.z7, a.z8, .int .i64 a.level, a.z10]
def Ca.sub (a : Ca) : Sub := ⟨0, a.name, false, a.v6, a.hi, a.lo⟩

set_option maxHeartbeats 400000 in
theorem alert_any (pb bm : Nat) (a : Al) (v : Int) (B : Bk) (w : World) (hB : BookIs w pb bm B) (ok : B.Ok) :
    Calls Try.prog 19 #[.pointer (some ⟨pb, 0, none⟩), .agg a.cells, .int .i64 v] w (StepPost B a.at_ a.sub (alertLevel a.prio v) pb bm w) := by
  have hpb := lt_of_blk hB.blk
  have hbm := hB.map.lt
  obtain ⟨w2, hw2⟩ : ∃ w2, w2 = (w.alloc (.cells a.cells 37)).alloc (.cells #[.int .i64 v] 3) := ⟨_, rfl⟩
  have hf2 : Fr [pb, bm] w w2 := by rw [hw2]; exact ((Fr.refl _ _).alloc _).alloc _
  have hB2 : BookIs w2 pb bm B := by rw [hw2]; exact (hB.keep (heap_alloc_lt hpb) (heap_alloc_lt hbm)).keep (heap_alloc_lt (by simp; omega)) (heap_alloc_lt (by simp; omega))
  have h1 : w2.heap[w.heap.size]? = some (.cells a.cells 37 (0, 0)) := by rw [hw2, heap_alloc_lt (by simp), heap_alloc_eq rfl]
  have h2 : w2.heap[w.heap.size + 1]? = some (.cells #[.int .i64 v] 3 (0, 0)) := by rw [hw2, heap_alloc_eq (by simp)]
  have hcon := enter_bk 48 call48 (.pointer (some ⟨w.heap.size, 0, none⟩)) (.pointer (some ⟨w.heap.size + 1, 0, none⟩)) (alertLevel a.prio v) pb bm a.at_ a.sub B w2 hB2 ok (fun c W _ _ hf => by
    refine (alert1_any w.heap.size (w.heap.size + 1) c a.prio v W ?_ ?_).mono ?_
    · rw [cell_blk ((hf.block _ (lt_of_blk h1) (by simp; omega)).trans h1)]; rfl
    · rw [cell_blk ((hf.block _ (lt_of_blk h2) (by simp; omega)).trans h2)]; rfl
    · rintro e w' ⟨rfl, rfl⟩; exact ⟨rfl, 0, rfl⟩)
  have HC := hide hcon
  have HW := hide hw2
  clear hcon hw2
  have HB := hide hB2
  clear hB2
  have HF := hide hf2
  clear hf2 h1 h2
  have hw := HW.out
  subst hw
  simp only [Al.cells, Al.sub, eSub] at HC HF ⊢
  go_enter Try.func19, Try.ntmps19
  go_wp2_with fail
  refine (unhide HC).mono ?_
  rintro e w' ⟨n, nt, B', hE, rfl, hB', hf'⟩
  have HE := hide hE
  clear hE
  go_wp2_with fail
  go_ret2
  exact ⟨n, nt, B', HE.out, rfl, hB', HF.out.trans hf'⟩

set_option maxHeartbeats 400000 in
theorem case_any (pb bm : Nat) (a : Ca) (v : Int) (B : Bk) (w : World) (hB : BookIs w pb bm B) (ok : B.Ok) :
    Calls Try.prog 20 #[.pointer (some ⟨pb, 0, none⟩), .agg a.cells, .int .i64 v] w (StepPost B a.at_ a.sub (fun _ => caseLevel a.level v) pb bm w) := by
  have hpb := lt_of_blk hB.blk
  have hbm := hB.map.lt
  obtain ⟨w2, hw2⟩ : ∃ w2, w2 = (w.alloc (.cells a.cells 39)).alloc (.cells #[.int .i64 v] 3) := ⟨_, rfl⟩
  have hf2 : Fr [pb, bm] w w2 := by rw [hw2]; exact ((Fr.refl _ _).alloc _).alloc _
  have hB2 : BookIs w2 pb bm B := by rw [hw2]; exact (hB.keep (heap_alloc_lt hpb) (heap_alloc_lt hbm)).keep (heap_alloc_lt (by simp; omega)) (heap_alloc_lt (by simp; omega))
  have h1 : w2.heap[w.heap.size]? = some (.cells a.cells 39 (0, 0)) := by rw [hw2, heap_alloc_lt (by simp), heap_alloc_eq rfl]
  have h2 : w2.heap[w.heap.size + 1]? = some (.cells #[.int .i64 v] 3 (0, 0)) := by rw [hw2, heap_alloc_eq (by simp)]
  have hcon := enter_bk 49 call49 (.pointer (some ⟨w.heap.size, 0, none⟩)) (.pointer (some ⟨w.heap.size + 1, 0, none⟩)) (fun _ => caseLevel a.level v) pb bm a.at_ a.sub B w2 hB2 ok (fun c W _ _ hf => by
    refine (case1_any w.heap.size (w.heap.size + 1) c a.level v W ?_ ?_)
    · rw [cell_blk ((hf.block _ (lt_of_blk h1) (by simp; omega)).trans h1)]; rfl
    · rw [cell_blk ((hf.block _ (lt_of_blk h2) (by simp; omega)).trans h2)]; rfl)
  have HC := hide hcon
  have HW := hide hw2
  clear hcon hw2
  have HB := hide hB2
  clear hB2
  have HF := hide hf2
  clear hf2 h1 h2
  have hw := HW.out
  subst hw
  simp only [Ca.cells, Ca.sub, eSub] at HC HF ⊢
  go_enter Try.func20, Try.ntmps20
  go_wp2_with fail
  refine (unhide HC).mono ?_
  rintro e w' ⟨n, nt, B', hE, rfl, hB', hf'⟩
  have HE := hide hE
  clear hE
  go_wp2_with fail
  go_ret2
  exact ⟨n, nt, B', HE.out, rfl, hB', HF.out.trans hf'⟩
end Go.Proofs.Ytnghfmefjjkgdaa

