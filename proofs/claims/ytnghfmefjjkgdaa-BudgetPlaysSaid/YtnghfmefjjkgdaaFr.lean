/- Frames: which blocks of the heap a run may have turned; the laws on typed maps at the operations of a walk. -/
import Derived.Test.YtnghfmefjjkgdaaMp
import Derived.Deep.Draws
namespace Go.Proofs.Ytnghfmefjjkgdaa
open Go.ChangeMaps (setBlock)

/-- w' is w with new blocks, and of the old ones those of S alone may have turned. -/
structure Fr (S : List Nat) (w w' : World) : Prop where
  os : w'.os = w.os
  tape : w'.tape = w.tape
  output : w'.output = w.output
  size : w.heap.size ≤ w'.heap.size
  block : ∀ k, k < w.heap.size → k ∉ S → w'.heap[k]? = w.heap[k]?

theorem Fr.refl (S : List Nat) (w : World) : Fr S w w := ⟨rfl, rfl, rfl, Nat.le_refl _, fun _ _ _ => rfl⟩
theorem Fr.trans {S : List Nat} {a b c : World} (h : Fr S a b) (k : Fr S b c) : Fr S a c :=
  ⟨k.os.trans h.os, k.tape.trans h.tape, k.output.trans h.output, Nat.le_trans h.size k.size, fun i hi hn => (k.block i (Nat.lt_of_lt_of_le hi h.size) hn).trans (h.block i hi hn)⟩
theorem Fr.mono {S T : List Nat} {w w' : World} (h : Fr S w w') (hs : ∀ k ∈ S, k < w.heap.size → k ∈ T) : Fr T w w' :=
  ⟨h.os, h.tape, h.output, h.size, fun i hi hn => h.block i hi (fun hm => hn (hs i hm hi))⟩
/-- Behind a frame: a second step that may turn blocks of T: of S, or new. -/
theorem Fr.andThen {S T : List Nat} {a b c : World} (h : Fr S a b) (k : Fr T b c) (hs : ∀ x ∈ T, x ∈ S ∨ a.heap.size ≤ x) : Fr S a c :=
  ⟨k.os.trans h.os, k.tape.trans h.tape, k.output.trans h.output, Nat.le_trans h.size k.size, fun i hi hn => (k.block i (Nat.lt_of_lt_of_le hi h.size) (fun hm => by
    rcases hs i hm with h1 | h1
    · exact hn h1
    · omega)).trans (h.block i hi hn)⟩
theorem Fr.drew {S : List Nat} {a b : World} (h : Fr S a b) : Fr S a b.drew := ⟨h.os, h.tape, h.output, h.size, h.block⟩
theorem Fr.drewN {S : List Nat} {a b : World} (h : Fr S a b) (n : Nat) : Fr S a (b.drewN n) := ⟨h.os, h.tape, h.output, h.size, h.block⟩

theorem heap_alloc_lt {w : World} {o : Obj} {i : Nat} (h : i < w.heap.size) : (w.alloc o).heap[i]? = w.heap[i]? := by
  show (w.heap.push o)[i]? = _
  rw [Array.getElem?_push, if_neg (by omega)]
theorem heap_alloc_eq {w : World} {o : Obj} {i : Nat} (h : i = w.heap.size) : (w.alloc o).heap[i]? = some o := by
  subst h
  show (w.heap.push o)[w.heap.size]? = _
  simp
theorem heap_set_same {w : World} {i j : Nat} {v : Value} {cs : Array Value} {t : TypeId} {f : Nat × Nat} (h : w.heap[i]? = some (.cells cs t f)) :
    (w.setCell ⟨i, j, none⟩ v).heap[i]? = some (.cells (cs.setIfInBounds j v) t f) := by
  simp [World.setCell, Array.getElem?_modify, h]
/-- What a store does to a block. -/
def setAt (j : Nat) (v : Value) : Obj → Obj
  | .cells c e f => .cells (c.setIfInBounds j v) e f
  | o => o
theorem setAt_cells (j : Nat) (v : Value) (c : Array Value) (e : TypeId) (f : Nat × Nat) : setAt j v (.cells c e f) = .cells (c.setIfInBounds j v) e f := rfl
theorem heap_set {w : World} {i j : Nat} {v : Value} : (w.setCell ⟨i, j, none⟩ v).heap[i]? = (w.heap[i]?).map (setAt j v) := by
  simp only [World.setCell, Array.getElem?_modify, if_true]
  cases w.heap[i]? with
  | none => rfl
  | some o => cases o <;> rfl
theorem heap_set_other {w : World} {i : Nat} {a : Addr} {v : Value} (h : i ≠ a.block) : (w.setCell a v).heap[i]? = w.heap[i]? := by
  simp only [World.setCell, Array.getElem?_modify]
  rw [if_neg (fun e => h e.symm)]
theorem heap_drew {w : World} {i : Nat} : w.drew.heap[i]? = w.heap[i]? := rfl
theorem heap_blk_same {w : World} {b : Nat} {o : Obj} (h : b < w.heap.size) : (setBlock w b o).heap[b]? = some o := by
  show (w.heap.setIfInBounds b o)[b]? = _
  simp [h]
theorem heap_blk_other {w : World} {b i : Nat} {o : Obj} (h : i ≠ b) : (setBlock w b o).heap[i]? = w.heap[i]? := by
  show (w.heap.setIfInBounds b o)[i]? = _
  rw [Array.getElem?_setIfInBounds_ne (fun e => h e.symm)]
theorem size_blk {w : World} {b : Nat} {o : Obj} : (setBlock w b o).heap.size = w.heap.size := by
  show (w.heap.setIfInBounds b o).size = _
  simp

theorem Fr.alloc {S : List Nat} {a b : World} (h : Fr S a b) (o : Obj) : Fr S a (b.alloc o) :=
  h.trans ⟨rfl, rfl, rfl, by simp, fun k hk _ => heap_alloc_lt hk⟩
theorem Fr.setCell {S : List Nat} {a b : World} (h : Fr S a b) {p : Addr} (hp : p.block ∈ S ∨ a.heap.size ≤ p.block) (u : Value) : Fr S a (b.setCell p u) :=
  h.andThen (T := [p.block]) ⟨rfl, rfl, rfl, by simp, fun k _ hn => heap_set_other (by simpa using hn)⟩ (by simpa using hp)
theorem Fr.setBlock {S : List Nat} {a b : World} (h : Fr S a b) {p : Nat} (hp : p ∈ S ∨ a.heap.size ≤ p) (o : Obj) : Fr S a (setBlock b p o) :=
  h.andThen (T := [p]) ⟨rfl, rfl, rfl, by simp [Go.ChangeMaps.setBlock], fun k _ hn => heap_blk_other (by simpa using hn)⟩ (by simpa using hp)

theorem lt_of_blk {w : World} {b : Nat} {o : Obj} (h : w.heap[b]? = some o) : b < w.heap.size := (Array.getElem?_eq_some_iff.1 h).1
theorem cell_blk {w : World} {b : Nat} {cs : Array Value} {t : TypeId} {f : Nat × Nat} (h : w.heap[b]? = some (.cells cs t f)) (i : Nat) : w.cell? ⟨b, i, none⟩ = cs[i]? := by
  simp [World.cell?, h]
theorem froz_blk {w : World} {b : Nat} {cs : Array Value} {t : TypeId} (h : w.heap[b]? = some (.cells cs t (0, 0))) (i : Nat) : w.frozen? ⟨b, i, none⟩ = false := by
  simp [World.frozen?, h]

/-- Below: only new blocks. -/
theorem Fr.below {w w' : World} (h : Fr [] w w') : RowKit.Below w.heap.size w w' := ⟨h.os, h.tape, h.output, h.size, fun k hk => h.block k hk (by simp)⟩

section
variable {κ ν : Type} {ek : κ → Value} {ev : ν → Value} {P : Program} {k e : TypeId}

theorem wpList_range_is (w : World) {ops : Array Oper} {rest : List Oper} {o : Oper} {a : Act} {Q : Exit → Act → World → Prop}
    (hg : o.guard = none) (x : Operand) (t : TypeId) (hop : o.op = Op.range t x) (ht : P.underlying t = some (.map k e)) (b : Nat) (M : List (κ × ν))
    (hx : a.eval x = .map (some b)) (hm : MapIs ek ev w b M) (r : Nat) (hr : r = w.heap.size)
    (hK : ∀ ob, Iter ek ev (w.alloc ob) r b M → wpList P ops Q rest (a.put o.dst (.pointer (some ⟨r, 0, none⟩))) (w.alloc ob)) :
    wpList P ops Q (o :: rest) a w := by
  subst hr
  refine wpList_plain hg fun K' hK' => ?_
  obtain ⟨ob, hrun, hit⟩ := MapIs.range ht hm
  unfold Oper.wp
  simp only [execOp, hop, hx, Sem.run_bind, hrun, Result.andThen_ok, Sem.run_pure, Oper.upon]
  exact hK' _ _ (hK ob hit)

/-- What one step of 'next' leaves where something was left. -/
structure StepIs (P : Program) (ek : κ → Value) (ev : ν → Value) (w : World) (r b : Nat) (left : List (κ × ν)) where
  j : Nat
  key : κ
  val : ν
  w' : World
  hj : left[j]? = some (key, val)
  fr : Fr [r] w w'
  size : w'.heap.size = w.heap.size
  it : Iter ek ev w' r b (left.eraseIdx j)
  en : (Instr.entry (.pointer (some ⟨r, 0, none⟩))).run P w' = .ok (.tuple #[ek key, ev val]) w'

theorem wpList_next_is (w : World) {ops : Array Oper} {rest : List Oper} {o : Oper} {a : Act} {Q : Exit → Act → World → Prop}
    (hg : o.guard = none) (x : Operand) (hop : o.op = Op.next x false) (r b : Nat) (left : List (κ × ν)) (hrb : r ≠ b)
    (hx : a.eval x = .pointer (some ⟨r, 0, none⟩)) (hi : Iter ek ev w r b left)
    (hend : left = [] → wpList P ops Q rest (a.put o.dst (.tuple #[.bool false])) w)
    (hstep : ∀ st : StepIs P ek ev w r b left, wpList P ops Q rest (a.put o.dst (.tuple #[.bool true, ek st.key, ev st.val])) st.w') :
    wpList P ops Q (o :: rest) a w := by
  refine wpList_plain hg fun K' hK' => ?_
  unfold Oper.wp
  rcases Iter.next (P := P) hi hrb o.type with ⟨h0, hrun⟩ | ⟨j, p, w1, w', hj, hw1, ⟨ob, hob⟩, hrun, hi', hen⟩
  · simp only [execOp, hop, hx, Sem.run_bind, hrun, Result.andThen_ok, Sem.run_pure, Oper.upon]
    exact hK' _ _ (hend h0)
  · have h1 : Fr [r] w w1 := by
      rcases hw1 with rfl | rfl
      · exact Fr.refl _ _
      · exact (Fr.refl _ _).drew
    have hs : w1.heap.size = w.heap.size := by rcases hw1 with rfl | rfl <;> rfl
    simp only [execOp, hop, hx, Sem.run_bind, hrun, Result.andThen_ok, Sem.run_pure, Oper.upon]
    exact hK' _ _ (hstep ⟨j, p.1, p.2, w', hj, by subst hob; exact h1.setBlock (by simp) _, by subst hob; rw [size_blk, hs], hi', hen⟩)

theorem wpList_update_is [DecidableEq κ] (w : World) {ops : Array Oper} {rest : List Oper} {o : Oper} {a : Act} {Q : Exit → Act → World → Prop}
    (hg : o.guard = none) (m x v : Operand) (t : TypeId) (hop : o.op = Op.mapUpdate t m x v) (K : KeyOk P k ek) (ht : P.underlying t = some (.map k e)) (b : Nat) (M : List (κ × ν))
    (hm : a.eval m = .map (some b)) (hi : MapIs ek ev w b M) (key : κ) (val : ν) (hx : a.eval x = ek key) (hv : a.eval v = ev val)
    (hK : ∀ ob, MapIs ek ev (setBlock w b ob) b (mput M key val) → wpList P ops Q rest (a.put o.dst undef) (setBlock w b ob)) :
    wpList P ops Q (o :: rest) a w := by
  refine wpList_plain hg fun K' hK' => ?_
  have hlt := hi.lt
  obtain ⟨es', c', hrun, hr⟩ := MapIs.update K ht hi key val
  unfold Oper.wp
  simp only [execOp, hop, hm, hx, hv, Sem.run_bind, hrun, Result.andThen_ok, Oper.upon, Sem.run_pure]
  exact hK' _ _ (hK _ ⟨es', c', heap_blk_same hlt, hr⟩)

end
end Go.Proofs.Ytnghfmefjjkgdaa
