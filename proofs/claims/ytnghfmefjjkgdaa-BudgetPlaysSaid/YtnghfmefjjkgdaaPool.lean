/- Layer 54: the pool as a typed state; the functions that take and give steps. -/
import Derived.Test.YtnghfmefjjkgdaaFr
import Derived.Test.YtnghfmefjjkgdaaLives
namespace Go.Proofs.Ytnghfmefjjkgdaa
open Go.RowKit
def eInt (n : Int) : Value := .int .i64 n
theorem eInt_inj (x y : Int) (h : eInt x = eInt y) : x = y := by simpa [eInt] using h

theorem now3 (x : Int) : ∀ (es : List MapEntry) (i : Nat), (∀ e ∈ es, ∃ y, e.key = eInt y) →
    (Instr.findNow (.int .i64) (eInt x) es i = some none ∧ ∀ e ∈ es, e.key ≠ eInt x) ∨
      ∃ j e, Instr.findNow (.int .i64) (eInt x) es i = some (some (i + j, e.val)) ∧ es[j]? = some e ∧ e.key = eInt x
  | [], i, _ => .inl ⟨rfl, by simp⟩
  | e :: es, i, h => by
    obtain ⟨y, hy⟩ := h e (by simp)
    by_cases hxy : x = y
    · right
      exact ⟨0, e, by simp [Instr.findNow, Instr.sameNow, hy, eInt, hxy], rfl, by rw [hy, hxy]⟩
    · have hbeq : (x == y) = false := by simpa using hxy
      have hno : Instr.findNow (.int .i64) (eInt x) (e :: es) i = Instr.findNow (.int .i64) (eInt x) es (i + 1) := by
        rw [Instr.findNow, hy]
        simp only [eInt, Instr.sameNow, if_true, hbeq]
      rcases now3 x es (i + 1) (fun e he => h e (by simp [he])) with ⟨h1, h2⟩ | ⟨j, e', h1, h2, h3⟩
      · left
        refine ⟨by rw [hno]; exact h1, fun e' he' => ?_⟩
        rcases List.mem_cons.1 he' with rfl | he'
        · rw [hy]; exact fun hc => hxy (eInt_inj _ _ hc).symm
        · exact h2 e' he'
      · right
        exact ⟨j + 1, e', by rw [hno, h1, show i + 1 + j = i + (j + 1) by omega], h2, h3⟩
theorem chk3 (n : Nat) (w : World) (em : Bool) (x : Int) : (Instr.checkKey em (n + 1) 3 (eInt x)).run Try.prog w = .ok () w := by
  simp [eInt, Instr.checkKey, run_underlying Try.underlying3]
theorem keyOk3 : KeyOk Try.prog 3 eInt where
  inj := eInt_inj
  check w em x := chk3 9999 w em x
  find w x es h := by
    unfold Instr.findKey
    rcases now3 x es 0 h with ⟨h1, h2⟩ | ⟨j, e, h1, h2, h3⟩
    · exact .inl ⟨by simp [Sem.run_bind, run_underlying Try.underlying3, h1], h2⟩
    · exact .inr ⟨j, e, by simp [Sem.run_bind, run_underlying Try.underlying3, h1], h2, h3⟩
  stays w x := by simp [eInt, Instr.keyThatStays, Instr.sameBits]

def eAcc (a : Int × Int) : Value := .agg #[.int .i64 a.1, .int .i64 a.2]
structure Pl where
  total : Int
  used : Int
  peak : Int
  left : Int
  off : Nat → Bool
  M : List (Int × (Int × Int))

structure PoolIs (w : World) (pb bm : Nat) (p : Pl) : Prop where
  blk : w.heap[pb]? = some (.cells #[.int .i64 p.total, .int .i64 p.used, .int .i64 p.peak, .int .i64 p.left, .bool (p.off 0), .bool (p.off 1), .bool (p.off 2), .bool (p.off 3), .bool (p.off 4), .bool (p.off 5), .bool (p.off 6), .map (some bm)] 81 (0, 0))
  map : MapIs eInt eAcc w bm p.M

theorem PoolIs.keep {w w' : World} {pb bm : Nat} {p : Pl} (h : PoolIs w pb bm p) (hp : w'.heap[pb]? = w.heap[pb]?) (hb : w'.heap[bm]? = w.heap[bm]?) : PoolIs w' pb bm p := ⟨hp.trans h.blk, h.map.keep hb⟩
theorem PoolIs.fr {w w' : World} {S : List Nat} {pb bm : Nat} {p : Pl} (h : PoolIs w pb bm p) (hf : Fr S w w') (hp : pb ∉ S) (hb : bm ∉ S) : PoolIs w' pb bm p :=
  h.keep (hf.block _ (lt_of_blk h.blk) hp) (hf.block _ h.map.lt hb)
theorem PoolIs.ne {w : World} {pb bm : Nat} {p : Pl} (h : PoolIs w pb bm p) : pb ≠ bm := by
  rintro rfl
  obtain ⟨es, c, h1, _⟩ := h.map
  rw [h.blk] at h1
  cases h1

def pl0 (n : Int) : Pl := ⟨min (max n 1024) 1073741824, 0, 0, 0, fun _ => false, []⟩

theorem pnew_any (n : Int) (w : World) :
    Calls Try.prog 22 #[.int .i64 n] w fun e w' => e = .returned (.pointer (some ⟨w.heap.size + 1, 0, none⟩)) ∧ PoolIs w' (w.heap.size + 1) w.heap.size (pl0 n) ∧ Fr [] w w' ∧ w'.heap.size = w.heap.size + 2 := by
  have hmm := @run_makeMap Try.prog
  obtain ⟨m, hm⟩ : ∃ m, m = min (max n 1024) 1073741824 := ⟨_, rfl⟩
  have HM := hide hm
  clear hm
  go_enter Try.func22, Try.ntmps22
  go_wp2
  all_goals
    go_ret
    refine ⟨rfl, ⟨?_, ⟨#[], 0, ?_, ⟨rfl, by simp [pl0], by simp, by simp⟩⟩⟩, ((Fr.refl _ _).alloc _).alloc _, by simp⟩
    · rw [heap_alloc_eq (by simp)]
      simp only [pl0]
      first | rfl | (congr; omega)
    · rw [heap_alloc_lt (by simp), heap_alloc_eq rfl]

theorem pleft_any (pb bm : Nat) (p : Pl) (w : World) (h : PoolIs w pb bm p) :
    Calls Try.prog 38 #[.pointer (some ⟨pb, 0, none⟩)] w fun e w' => e = .returned (.int .i64 p.left) ∧ w = w' := by
  have c3 : w.cell? ⟨pb, 3, none⟩ = some (.int .i64 p.left) := by rw [cell_blk h.blk]; rfl
  go_enter Try.func38, Try.ntmps38
  go_wp2
  go_ret
  exact ⟨rfl, rfl⟩

theorem PoolIs.setLeft {w : World} {pb bm : Nat} {p : Pl} (h : PoolIs w pb bm p) (n : Int) : PoolIs (w.setCell ⟨pb, 3, none⟩ (.int .i64 n)) pb bm { p with left := n } :=
  ⟨by rw [heap_set, h.blk]; rfl, h.map.keep (heap_set_other (by exact h.ne.symm))⟩

def grant (n : Int) : Int := min (max n 0) 1048576
theorem ppacket_any (pb bm : Nat) (p : Pl) (n : Int) (w : World) (h : PoolIs w pb bm p) :
    Calls Try.prog 26 #[.pointer (some ⟨pb, 0, none⟩), .int .i64 n] w fun e w' => e = .returned (.tuple #[]) ∧ PoolIs w' pb bm { p with left := grant n } ∧ Fr [pb] w w' := by
  have hpb := lt_of_blk h.blk
  have c3 : w.cell? ⟨pb, 3, none⟩ = some (.int .i64 p.left) := by rw [cell_blk h.blk]; rfl
  have f3 : w.frozen? ⟨pb, 3, none⟩ = false := froz_blk h.blk _
  have hn : ∀ x, x = grant n → PoolIs (w.setCell ⟨pb, 3, none⟩ (.int .i64 x)) pb bm { p with left := grant n } ∧ Fr [pb] w (w.setCell ⟨pb, 3, none⟩ (.int .i64 x)) := by
    rintro x rfl
    exact ⟨h.setLeft _, (Fr.refl _ _).setCell (.inl (by simp)) _⟩
  have HN := hide hn
  clear hn
  go_enter Try.func26, Try.ntmps26
  go_wp2
  all_goals
    refine bodyPost_end (results_none rfl _ _ _) rfl ?_
    exact ⟨rfl, HN.out _ (by unfold grant; omega)⟩

theorem pspend_any (pb bm : Nat) (p : Pl) (n : Int) (w : World) (h : PoolIs w pb bm p) (hl : 0 ≤ p.left ∧ p.left ≤ 1048576) :
    Calls Try.prog 28 #[.pointer (some ⟨pb, 0, none⟩), .int .i64 n] w fun e w' => e = .returned (.int .i64 (min (max n 0) p.left)) ∧ PoolIs w' pb bm { p with left := p.left - min (max n 0) p.left } ∧ Fr [pb] w w' := by
  have hpb := lt_of_blk h.blk
  have c3 : w.cell? ⟨pb, 3, none⟩ = some (.int .i64 p.left) := by rw [cell_blk h.blk]; rfl
  have f3 : w.frozen? ⟨pb, 3, none⟩ = false := froz_blk h.blk _
  have hn : ∀ x, x = p.left - min (max n 0) p.left → PoolIs (w.setCell ⟨pb, 3, none⟩ (.int .i64 x)) pb bm { p with left := p.left - min (max n 0) p.left } ∧ Fr [pb] w (w.setCell ⟨pb, 3, none⟩ (.int .i64 x)) := by
    rintro x rfl
    exact ⟨h.setLeft _, (Fr.refl _ _).setCell (.inl (by simp)) _⟩
  have HN := hide hn
  clear hn
  go_enter Try.func28, Try.ntmps28
  go_wp2
  all_goals
    go_ret
    exact ⟨ret_int (by omega), HN.out _ (by omega)⟩

theorem pused_any (pb bm : Nat) (p : Pl) (w : World) (h : PoolIs w pb bm p) :
    Calls Try.prog 30 #[.pointer (some ⟨pb, 0, none⟩)] w fun e w' => e = .returned (.int .i64 p.used) ∧ w = w' := by
  have c1 : w.cell? ⟨pb, 1, none⟩ = some (.int .i64 p.used) := by rw [cell_blk h.blk]; rfl
  go_enter Try.func30, Try.ntmps30
  go_wp2
  go_ret
  exact ⟨rfl, rfl⟩

theorem ppeak_any (pb bm : Nat) (p : Pl) (w : World) (h : PoolIs w pb bm p) :
    Calls Try.prog 32 #[.pointer (some ⟨pb, 0, none⟩)] w fun e w' => e = .returned (.int .i64 p.peak) ∧ w = w' := by
  have c2 : w.cell? ⟨pb, 2, none⟩ = some (.int .i64 p.peak) := by rw [cell_blk h.blk]; rfl
  go_enter Try.func32, Try.ntmps32
  go_wp2
  go_ret
  exact ⟨rfl, rfl⟩

theorem PoolIs.offAt {w : World} {pb bm : Nat} {p : Pl} (h : PoolIs w pb bm p) (i : Nat) (hi : i < 7) : w.cell? ⟨pb, 4 + i, none⟩ = some (.bool (p.off i)) := by
  rw [cell_blk h.blk]
  match i, hi with
  | 0, _ => rfl
  | 1, _ => rfl
  | 2, _ => rfl
  | 3, _ => rfl
  | 4, _ => rfl
  | 5, _ => rfl
  | 6, _ => rfl

def isOff (p : Pl) (f : Int) : Bool := decide (1 ≤ f) && decide (f ≤ 6) && p.off f.toNat

theorem poff_any (pb bm : Nat) (p : Pl) (f : Int) (w : World) (h : PoolIs w pb bm p) :
    Calls Try.prog 40 #[.pointer (some ⟨pb, 0, none⟩), .int .i64 f] w fun e w' => e = .returned (.bool (isOff p f)) ∧ w = w' := by
  by_cases h1 : 1 ≤ f ∧ f ≤ 6
  · obtain ⟨i, rfl⟩ : ∃ i : Nat, f = i := ⟨f.toNat, by omega⟩
    have hi : i < 7 := by omega
    have ci := h.offAt i hi
    have HO : Hid (isOff p i = p.off i) := by
      show isOff p i = p.off i
      unfold isOff
      rw [decide_eq_true h1.1, decide_eq_true h1.2]
      simp
    rw [HO.out]
    go_enter Try.func40, Try.ntmps40
    go_wp2
    all_goals
      go_ret
      exact ⟨rfl, rfl⟩
  · have HO : Hid (isOff p f = false) := by
      show isOff p f = false
      unfold isOff
      by_cases h2 : 1 ≤ f
      · rw [decide_eq_false (fun h3 => h1 ⟨h2, h3⟩)]; simp
      · rw [decide_eq_false h2]; simp
    rw [HO.out]
    go_enter Try.func40, Try.ntmps40
    go_wp2
    all_goals first
      | (exfalso; omega)
      | (go_ret; exact ⟨rfl, rfl⟩)
end Go.Proofs.Ytnghfmefjjkgdaa

