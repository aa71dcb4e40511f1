/- Frames: which blocks of the heap a run may have turned. -/
import Derived.WalkKit
import Derived.Lib.Hide
import Derived.Deep.LoopGhost
import Derived.Deep.DeepCutAuto
import Derived.Deep.QuietTactic
import Derived.BigQuiet
import Derived.Maps.RangeRun
import Derived.Deep.Draws
import Derived.ArgAppend
import Derived.Laws.CopyRow
import Derived.Laws.Rows
namespace Go.Proofs.YthmhcnnigepohaaGreatDoor
open Go.ChangeMaps (setBlock)

/-- w' is w with new blocks, and of the old ones those of S alone may have turned. -/
structure Fr (S : List Nat) (w w' : World) : Prop where
  os : w'.os = w.os
  tape : w'.tape = w.tape
  output : w'.output = w.output
  size : w.heap.size ≤ w'.heap.size
  block : ∀ k, k < w.heap.size → k ∉ S → w'.heap[k]? = w.heap[k]?

theorem Fr.refl (S : List Nat) (w : World) : Fr S w w := ⟨rfl, rfl, rfl, Nat.le_refl _, fun _ _ _ => rfl⟩
theorem Fr.trans {S : List Nat} {a b c : World} (h : Fr S a b) (k : Fr S b c) : Fr S a c :=
  ⟨k.os.trans h.os, k.tape.trans h.tape, k.output.trans h.output, Nat.le_trans h.size k.size, fun i hi hn => (k.block i (Nat.lt_of_lt_of_le hi h.size) hn).trans (h.block i hi hn)⟩
theorem Fr.mono {S T : List Nat} {w w' : World} (h : Fr S w w') (hs : ∀ k ∈ S, k < w.heap.size → k ∈ T) : Fr T w w' :=
  ⟨h.os, h.tape, h.output, h.size, fun i hi hn => h.block i hi (fun hm => hn (hs i hm hi))⟩
/-- Behind a frame: a second step that may turn blocks of T: of S, or new. -/
theorem Fr.andThen {S T : List Nat} {a b c : World} (h : Fr S a b) (k : Fr T b c) (hs : ∀ x ∈ T, x ∈ S ∨ a.heap.size ≤ x) : Fr S a c :=
  ⟨k.os.trans h.os, k.tape.trans h.tape, k.output.trans h.output, Nat.le_trans h.size k.size, fun i hi hn => (k.block i (Nat.lt_of_lt_of_le hi h.size) (fun hm => by
    rcases hs i hm with h1 | h1
    · exact hn h1
    · omega)).trans (h.block i hi hn)⟩
theorem Fr.drew {S : List Nat} {a b : World} (h : Fr S a b) : Fr S a b.drew := ⟨h.os, h.tape, h.output, h.size, h.block⟩
theorem Fr.drewN {S : List Nat} {a b : World} (h : Fr S a b) (n : Nat) : Fr S a (b.drewN n) := ⟨h.os, h.tape, h.output, h.size, h.block⟩

theorem heap_alloc_lt {w : World} {o : Obj} {i : Nat} (h : i < w.heap.size) : (w.alloc o).heap[i]? = w.heap[i]? := by
  show (w.heap.push o)[i]? = _
  rw [Array.getElem?_push, if_neg (by omega)]
theorem heap_alloc_eq {w : World} {o : Obj} {i : Nat} (h : i = w.heap.size) : (w.alloc o).heap[i]? = some o := by
  subst h
  show (w.heap.push o)[w.heap.size]? = _
  simp
theorem heap_set_same {w : World} {i j : Nat} {v : Value} {cs : Array Value} {t : TypeId} {f : Nat × Nat} (h : w.heap[i]? = some (.cells cs t f)) :
    (w.setCell ⟨i, j, none⟩ v).heap[i]? = some (.cells (cs.setIfInBounds j v) t f) := by
  simp [World.setCell, Array.getElem?_modify, h]
/-- What a store does to a block. -/
def setAt (j : Nat) (v : Value) : Obj → Obj
  | .cells c e f => .cells (c.setIfInBounds j v) e f
  | o => o
theorem setAt_cells (j : Nat) (v : Value) (c : Array Value) (e : TypeId) (f : Nat × Nat) : setAt j v (.cells c e f) = .cells (c.setIfInBounds j v) e f := rfl
theorem heap_set {w : World} {i j : Nat} {v : Value} : (w.setCell ⟨i, j, none⟩ v).heap[i]? = (w.heap[i]?).map (setAt j v) := by
  simp only [World.setCell, Array.getElem?_modify, if_true]
  cases w.heap[i]? with
  | none => rfl
  | some o => cases o <;> rfl
theorem heap_set_other {w : World} {i : Nat} {a : Addr} {v : Value} (h : i ≠ a.block) : (w.setCell a v).heap[i]? = w.heap[i]? := by
  simp only [World.setCell, Array.getElem?_modify]
  rw [if_neg (fun e => h e.symm)]
theorem heap_drew {w : World} {i : Nat} : w.drew.heap[i]? = w.heap[i]? := rfl
theorem heap_blk_same {w : World} {b : Nat} {o : Obj} (h : b < w.heap.size) : (setBlock w b o).heap[b]? = some o := by
  show (w.heap.setIfInBounds b o)[b]? = _
  simp [h]
theorem heap_blk_other {w : World} {b i : Nat} {o : Obj} (h : i ≠ b) : (setBlock w b o).heap[i]? = w.heap[i]? := by
  show (w.heap.setIfInBounds b o)[i]? = _
  rw [Array.getElem?_setIfInBounds_ne (fun e => h e.symm)]
theorem size_blk {w : World} {b : Nat} {o : Obj} : (setBlock w b o).heap.size = w.heap.size := by
  show (w.heap.setIfInBounds b o).size = _
  simp

theorem Fr.alloc {S : List Nat} {a b : World} (h : Fr S a b) (o : Obj) : Fr S a (b.alloc o) :=
  h.trans ⟨rfl, rfl, rfl, by simp, fun k hk _ => heap_alloc_lt hk⟩
theorem Fr.setCell {S : List Nat} {a b : World} (h : Fr S a b) {p : Addr} (hp : p.block ∈ S ∨ a.heap.size ≤ p.block) (u : Value) : Fr S a (b.setCell p u) :=
  h.andThen (T := [p.block]) ⟨rfl, rfl, rfl, by simp, fun k _ hn => heap_set_other (by simpa using hn)⟩ (by simpa using hp)
theorem Fr.setBlock {S : List Nat} {a b : World} (h : Fr S a b) {p : Nat} (hp : p ∈ S ∨ a.heap.size ≤ p) (o : Obj) : Fr S a (setBlock b p o) :=
  h.andThen (T := [p]) ⟨rfl, rfl, rfl, by simp [Go.ChangeMaps.setBlock], fun k _ hn => heap_blk_other (by simpa using hn)⟩ (by simpa using hp)

theorem lt_of_blk {w : World} {b : Nat} {o : Obj} (h : w.heap[b]? = some o) : b < w.heap.size := (Array.getElem?_eq_some_iff.1 h).1
theorem cell_blk {w : World} {b : Nat} {cs : Array Value} {t : TypeId} {f : Nat × Nat} (h : w.heap[b]? = some (.cells cs t f)) (i : Nat) : w.cell? ⟨b, i, none⟩ = cs[i]? := by
  simp [World.cell?, h]
theorem froz_blk {w : World} {b : Nat} {cs : Array Value} {t : TypeId} (h : w.heap[b]? = some (.cells cs t (0, 0))) (i : Nat) : w.frozen? ⟨b, i, none⟩ = false := by
  simp [World.frozen?, h]

/-- Below: only new blocks. -/
theorem Fr.below {w w' : World} (h : Fr [] w w') : RowKit.Below w.heap.size w w' := ⟨h.os, h.tape, h.output, h.size, fun k hk => h.block k hk (by simp)⟩


theorem hide {p : Prop} (h : p) : RowKit.Hid p := h
theorem unhide {p : Prop} (h : RowKit.Hid p) : p := h
theorem two {X : World} {A B : Obj} {k : Nat} (h : k < X.heap.size) : ((X.alloc A).alloc B).heap[k]? = X.heap[k]? := by
  rw [heap_alloc_lt (by simp; omega), heap_alloc_lt h]
theorem quiet_same {P : Program} {f : FuncId} {args : Array Value} {w : World} {n : Nat} {v : Value}
    (h : Calls P f args (w.drewN n) fun e w' => e = .returned v ∧ w.drewN n = w') : Calls P f args (w.drewN n) fun e w'' => e = .returned v ∧ ∃ m, w'' = w.drewN m :=
  h.mono fun _ _ ⟨he, hm⟩ => ⟨he, n, hm.symm⟩
end Go.Proofs.YthmhcnnigepohaaGreatDoor

/- Blocks that lie in a world. -/
namespace Go.Proofs.YthmhcnnigepohaaGreatDoor.En
open Go.RowKit

/-- All of G lies in the world. -/
def In (w : World) (G : List Nat) : Prop := ∀ b ∈ G, b < w.heap.size
theorem In.fr {w w' : World} {G S : List Nat} (h : In w G) (hf : Fr S w w') : In w' G := fun b hb => Nat.lt_of_lt_of_le (h b hb) hf.size
theorem In.new {w : World} {G : List Nat} (h : In w G) {b : Nat} (hb : w.heap.size ≤ b) : b ∉ G := fun hm => by have := h b hm; omega
end Go.Proofs.YthmhcnnigepohaaGreatDoor.En

/- Slices that the run owns: read as a list of cells; what append of one element and a cut at the front do. No program in sight. -/
namespace Go.Proofs.YthmhcnnigepohaaGreatDoor

structure ElemOk (P : Program) (t e : TypeId) (size bytes : Nat) : Prop where
  und : P.underlying t = some (.slice e)
  info : ∃ i z, P.info? e = some i ∧ i.zero = some z ∧ i.size = size ∧ i.bytes = bytes ∧ z.cells.size = size
  pos : 0 < size

/-- The slice value v has n elements, whose cells are xs; they lie in block g (none: v is nil), in which nothing is frozen; the capacity lies in that block too. -/
def SlAt (e : TypeId) (size : Nat) (w : World) (v : Value) (g : Option Nat) (n : Nat) (xs : List Value) : Prop :=
  (v = .slice none 0 0 ∧ g = none ∧ n = 0 ∧ xs = []) ∨
    ∃ b off cap cur, g = some b ∧ v = .slice (some ⟨b, off, none⟩) n cap ∧ w.heap[b]? = some (.cells cur e (0, 0)) ∧ n ≤ cap ∧ off + cap * size ≤ cur.size ∧ xs.length = n * size ∧ ∀ j u, xs[j]? = some u → cur[off + j]? = some u

section
variable {P : Program} {t e : TypeId} {size bytes : Nat} {w w' : World} {v : Value} {g : Option Nat} {n : Nat} {xs : List Value}

theorem SlAt.nil_ (w : World) : SlAt e size w (.slice none 0 0) none 0 [] := .inl ⟨rfl, rfl, rfl, rfl⟩

theorem SlAt.keep (h : SlAt e size w v g n xs) (hk : ∀ b, g = some b → w'.heap[b]? = w.heap[b]?) : SlAt e size w' v g n xs := by
  rcases h with h | ⟨b, off, cap, cur, hg, hv, hb, r⟩
  · exact .inl h
  · exact .inr ⟨b, off, cap, cur, hg, hv, (hk b hg).trans hb, r⟩

theorem SlAt.fr {S : List Nat} (h : SlAt e size w v g n xs) (hf : Fr S w w') (hk : ∀ b, g = some b → b ∉ S) : SlAt e size w' v g n xs := by
  refine h.keep fun b hb => hf.block b ?_ (hk b hb)
  rcases h with ⟨_, h, _⟩ | ⟨b', off, cap, cur, hg, hv, hbl, r⟩
  · rw [h] at hb; cases hb
  · rw [hg] at hb; cases hb; exact lt_of_blk hbl

theorem SlAt.len (h : SlAt e size w v g n xs) : xs.length = n * size := by
  rcases h with ⟨_, _, h1, h2⟩ | ⟨b, off, cap, cur, hg, hv, hb, h1, h2, h3, h4⟩
  · rw [h1, h2]; simp
  · exact h3

theorem SlAt.shape (h : SlAt e size w v g n xs) : ∃ a c, v = .slice a n c := by
  rcases h with ⟨h0, _, h1, _⟩ | ⟨b, off, cap, cur, hg, hv, _⟩
  · exact ⟨none, 0, by rw [h0, h1]⟩
  · exact ⟨_, _, hv⟩

theorem SlAt.lt (h : SlAt e size w v g n xs) : ∀ b, g = some b → ∃ cur, w.heap[b]? = some (.cells cur e (0, 0)) := by
  intro b hb
  rcases h with ⟨_, h, _⟩ | ⟨b', off, cap, cur, hg, hv, hbl, r⟩
  · rw [h] at hb; cases hb
  · rw [hg] at hb; cases hb; exact ⟨cur, hbl⟩

/-- 'append(v, x ..)': m elements more. -/
theorem SlAt.append (E : ElemOk P t e size bytes) (h : SlAt e size w v g n xs) (ty : TypeId) (ad : Addr) (m c : Nat) (news : List Value) (hm : 0 < m) (hl : news.length = m * size)
    (hnews : ∀ j u, news[j]? = some u → w.cell? (ad.add j) = some u) (h1 : ∀ u ∈ news, u.oneCell' = true) (hb : (n + m) * bytes ≤ 140737488355328) (hn : n + m ≤ maxLen) :
    ∃ v' w' g', (Builtin.append_ #[t, t] ty #[v, .slice (some ad) m c]).run P w = .ok v' w' ∧ SlAt e size w' v' g' (n + m) (xs ++ news) ∧ Fr g.toList w w' ∧ (g' = g ∨ (g' = some w.heap.size ∧ w.heap.size < w'.heap.size)) := by
  obtain ⟨i, z, hi, hz, hsz, hby, hzs⟩ := E.info
  have hpos := E.pos
  have hl1 : news.length = m * i.size := by rw [hl, hsz]
  have hsmall : n + m ≤ 9223372036854775807 := by simp only [maxLen] at hn; omega
  rcases h with ⟨rfl, rfl, rfl, rfl⟩ | ⟨b, off, cap, cur, rfl, rfl, hblk, hnc, hfit, hxs, hcells⟩
  · rw [Nat.zero_add] at hb hn ⊢
    have hr := run_append_nil (P := P) w t ty e i z E.und hi hz ad m c news hl1 hnews (by omega) (by omega) (by rw [hby]; omega)
    refine ⟨_, _, _, hr, .inr ⟨w.heap.size, 0, _, _, rfl, rfl, heap_alloc_eq rfl, grownCap_ge w m 0 e, ?_, by simp [hl], ?_⟩, ((Fr.refl _ _).drew).alloc _, .inr ⟨rfl, by simp⟩⟩
    · have := grownCap_ge w m 0 e
      simp only [Array.size_append, List.size_toArray, size_zeroCells, hzs, hl, Nat.zero_add]
      have : (grownCap w m 0 e - m) * size + m * size = grownCap w m 0 e * size := by
        rw [← Nat.add_mul]; congr 1; omega
      omega
    · intro j u hj
      have hjl : j < news.length := (List.getElem?_eq_some_iff.1 (by simpa using hj)).1
      rw [Nat.zero_add, Array.getElem?_append_left (by simpa using hjl)]
      simpa using hj
  · have hold : ∀ j u, xs[j]? = some u → w.cell? ((⟨b, off, none⟩ : Addr).add j) = some u := by
      intro j u hj
      rw [Addr.add_lit, cell_blk hblk]
      exact hcells j u hj
    by_cases hroom : n + m ≤ cap
    · have hf := run_firstCells_some (P := P) w i.size m ad m c news hl1 hnews
      have hfit1 : (n + m) * size ≤ cap * size := Nat.mul_le_mul_right _ hroom
      have hmul : (n + m) * size = n * size + m * size := Nat.add_mul _ _ _
      have hst := run_storeCells_at P b (off + n * i.size) e news 0 cur w hblk (by rw [hsz]; omega) h1
      simp only [Nat.add_zero] at hst
      have hr : (Builtin.append_ #[t, t] ty #[.slice (some ⟨b, off, none⟩) n cap, .slice (some ad) m c]).run P w = .ok (.slice (some ⟨b, off, none⟩) (n + m) cap) (w.setRow b (cur.toList.take (off + n * i.size) ++ news ++ cur.toList.drop (off + n * i.size + news.length)).toArray) := by
        simp [Builtin.append_, run_underlying E.und, sizeOf, typeInfo, hi, Builtin.lenOf, hroom, hf, Addr.add_lit, hst]
      rw [hsz] at hr
      refine ⟨_, _, _, hr, .inr ⟨b, off, cap, _, rfl, rfl, setRow_heap w b cur _ e _ hblk, hroom, ?_, by simp [hxs, hl]; omega, ?_⟩, ⟨rfl, rfl, rfl, by simp, fun k _ hk => setRow_other w b k _ (by simpa using hk)⟩, .inl rfl⟩
      · simp
        omega
      · intro j u hj
        rw [List.getElem?_append] at hj
        rw [List.getElem?_toArray, List.append_assoc, List.getElem?_append]
        have htl : (cur.toList.take (off + n * size)).length = off + n * size := by simp; omega
        rw [htl]
        split at hj
        · rename_i hjx
          rw [if_pos (by omega), List.getElem?_take, if_pos (by omega)]
          have := hcells j u hj
          simpa using this
        · rename_i hjx
          rw [if_neg (by omega), List.getElem?_append]
          have hjn := (List.getElem?_eq_some_iff.1 hj).1
          rw [if_pos (by omega), ← hj]
          congr 1
          omega
    · have hr := run_append_grow (P := P) w t ty e i z E.und hi hz ⟨b, off, none⟩ n cap xs (by rw [hsz]; exact hxs) hold ad m c news hl1 hnews (by omega) (by omega) (growslice_fits (by omega) (by rw [hby]; exact hb))
      refine ⟨_, _, _, hr, .inr ⟨w.heap.size, 0, _, _, rfl, rfl, heap_alloc_eq rfl, grownCap_ge w (n + m) cap e, ?_, by rw [List.length_append, hxs, hl, Nat.add_mul], ?_⟩, ((Fr.refl _ _).drew).alloc _, .inr ⟨rfl, by simp⟩⟩
      · have := grownCap_ge w (n + m) cap e
        simp only [Array.size_append, List.size_toArray, size_zeroCells, hzs, hl, hxs, Nat.zero_add]
        have : (grownCap w (n + m) cap e - (n + m)) * size + (n * size + m * size) = grownCap w (n + m) cap e * size := by
          rw [← Nat.add_mul, ← Nat.add_mul]; congr 1; omega
        omega
      · intro j u hj
        have hjl : j < (xs ++ news).length := (List.getElem?_eq_some_iff.1 hj).1
        rw [Nat.zero_add, Array.getElem?_append_left (by simpa using hjl)]
        simpa using hj

/-- 'v[1:]' -/
theorem SlAt.drop1 {a : Addr} {cap : Nat} (h : SlAt e size w (.slice (some a) n cap) g n xs) (hs : a.spot = none) (hn : 1 ≤ n) : SlAt e size w (.slice (some ⟨a.block, a.off + size, none⟩) (n - 1) (cap - 1)) g (n - 1) (xs.drop size) := by
  rcases h with ⟨h, _⟩ | ⟨b, off, cap', cur, hg, hv, hblk, hnc, hfit, hxs, hcells⟩
  · cases h
  · injection hv with h1 _ h3
    injection h1 with h1
    subst h1
    subst h3
    have hmul : cap * size = (cap - 1) * size + size := by rw [← Nat.succ_mul]; congr 1; omega
    have hmul2 : n * size = (n - 1) * size + size := by rw [← Nat.succ_mul]; congr 1; omega
    refine .inr ⟨b, off + size, cap - 1, cur, hg, rfl, hblk, by omega, by omega, by rw [List.length_drop, hxs]; omega, fun j u hj => ?_⟩
    rw [List.getElem?_drop] at hj
    have := hcells _ _ hj
    rw [show off + size + j = off + (size + j) by omega]
    exact this

/-- An append whose run is known. -/
theorem wpList_append_run {w : World} {ops : Array Oper} {rest : List Oper} {Q : Exit → Act → World → Prop} {a : Act} {o : Oper} (hg : o.guard = none) (s x : Operand) (t : TypeId)
    (ho : o.op = .call { callee := .builtin .append, args := #[s, x], argTypes := #[t, t] }) {v y v' : Value} {w' : World} (hrun : (Builtin.append_ #[t, t] o.type #[v, y]).run P w = .ok v' w')
    (hs : a.eval s = v) (hx : a.eval x = y) (h : wpList P ops Q rest (a.put o.dst v') w') : wpList P ops Q (o :: rest) a w := by
  refine wpList_plain hg fun K hK => ?_
  unfold Oper.wp execOp
  simp only [ho, resolve, invoke, builtin, Sem.run_bind, Sem.run_pure, Result.andThen_ok, List.map_toArray, List.map_cons, List.map_nil, hs, hx, hrun]
  exact hK _ _ h
end
end Go.Proofs.YthmhcnnigepohaaGreatDoor

/- Laws at the operations for structs of many cells: a new variable that is filled at once; a struct read whole. -/
namespace Go.Proofs.YthmhcnnigepohaaGreatDoor

theorem setRow_alloc (w : World) (old cs : Array Value) (t : TypeId) : (w.alloc (.cells old t)).setRow w.heap.size cs = w.alloc (.cells cs t) := by
  unfold World.setRow World.alloc
  congr 1
  apply Array.ext_getElem?
  intro k
  simp only [Array.getElem?_modify, Array.getElem?_push]
  by_cases hk : k = w.heap.size
  · subst hk; simp
  · have hk' : ¬ w.heap.size = k := fun e => hk e.symm
    simp [hk, hk']

section
variable {P : Program} {ops : Array Oper} {rest : List Oper} {Q : Exit → Act → World → Prop}

/-- 'x := <a struct>': the variable's block is laid with its cells at once. -/
theorem wpList_var {w : World} {a : Act} {o1 o2 : Oper} (hg1 : o1.guard = none) (hg2 : o2.guard = none) (t : TypeId) (d : Tmp) (y : Operand)
    (ho1 : o1.op = .alloc t) (hd1 : o1.dst = some d) (ho2 : o2.op = .store t (.tmp d) y) (hd2 : o2.dst = none) (hdl : d < a.tmps.size)
    (z cells : Array Value) (hz : ∀ W, (zeroValue t).run P W = .ok (.agg z) W) (hi : (P.info? t).map (·.size) = some cells.size) (hs : z.size = cells.size) (h1 : cells.toList.all (·.oneCell') = true)
    (hy : (a.put (some d) (.pointer (some ⟨w.heap.size, 0, none⟩))).eval y = .agg cells)
    (h : wpList P ops Q rest (a.put (some d) (.pointer (some ⟨w.heap.size, 0, none⟩))) (w.alloc (.cells cells t))) :
    wpList P ops Q (o1 :: o2 :: rest) a w := by
  refine wpList_plain hg1 fun K1 hK1 => ?_
  unfold Oper.wp
  simp only [execOp, ho1, Instr.alloc, Sem.run_bind, hz, Result.andThen_ok, Oper.upon, newVar, newRow, Value.cells, run_newObj, Sem.run_pure, hd1, World.alloc_eq]
  refine hK1 _ _ ?_
  refine wpList_plain hg2 fun K2 hK2 => ?_
  have hx : (a.put (some d) (.pointer (some ⟨w.heap.size, 0, none⟩))).eval (.tmp d) = .pointer (some ⟨w.heap.size, 0, none⟩) := by
    simp [Act.put, Act.eval, hdl]
  refine wp_store_row t (.tmp d) y ho2 w.heap.size cells hx hy t z (heap_alloc_new w _) hi hs (by rw [← Array.all_toList]; exact h1) ?_
  rw [setRow_alloc, hd2]
  exact hK2 _ _ h

/-- The same where what is stored lies in another slot. -/
theorem wpList_var' {w : World} {a : Act} {o1 o2 : Oper} (hg1 : o1.guard = none) (hg2 : o2.guard = none) (t : TypeId) (d k : Tmp)
    (ho1 : o1.op = .alloc t) (hd1 : o1.dst = some d) (ho2 : o2.op = .store t (.tmp d) (.tmp k)) (hd2 : o2.dst = none)
    (z cells : Array Value) (hz : ∀ W, (zeroValue t).run P W = .ok (.agg z) W) (hkd : k ≠ d) (hdl : d < a.tmps.size) (hi : (P.info? t).map (·.size) = some cells.size) (hs : z.size = cells.size) (h1 : cells.toList.all (·.oneCell') = true)
    (hy : a.eval (.tmp k) = .agg cells)
    (h : wpList P ops Q rest (a.put (some d) (.pointer (some ⟨w.heap.size, 0, none⟩))) (w.alloc (.cells cells t))) :
    wpList P ops Q (o1 :: o2 :: rest) a w := by
  refine wpList_var hg1 hg2 t d (.tmp k) ho1 hd1 ho2 hd2 hdl z cells hz hi hs h1 ?_ h
  rw [← hy]
  simp only [Act.put, Act.eval, Array.getD_eq_getD_getElem?]
  rw [Array.getElem?_setIfInBounds_ne (fun e => hkd e.symm)]

/-- A struct read whole, wherever it lies. -/
theorem wpList_load_agg {w : World} {a : Act} {o : Oper} (hg : o.guard = none) (t : TypeId) (x : Operand) (ho : o.op = .load t x) (ad : Addr) (cs : Array Value) (d : TypeDesc)
    (hx : a.eval x = .pointer (some ad)) (hu : P.underlying t = some d) (hd : (match d with | .struct _ | .array _ _ => true | _ => false) = true) (hi : (P.info? t).map (·.size) = some cs.size)
    (hc : ∀ j v, cs.toList[j]? = some v → w.cell? (ad.add j) = some v)
    (h : wpList P ops Q rest (a.put o.dst (.agg cs)) w) : wpList P ops Q (o :: rest) a w := by
  refine wpList_plain hg fun K hK => ?_
  have hl : (loadCells ad cs.toList.length).run P w = .ok cs.toList.toArray w := run_loadCells_list (P := P) w ad cs.toList hc
  have hrun : (loadVar t ad).run P w = .ok (.agg cs) w := by
    cases hq : P.info? t with
    | none => simp [hq] at hi
    | some i =>
      have hs : i.size = cs.size := by simpa [hq] using hi
      have hagg : (isAgg t).run P w = .ok true w := by
        unfold isAgg
        rw [Sem.run_bind, run_underlying hu w]
        cases d <;> simp_all
      simp only [Array.length_toList, Array.toArray_toList] at hl
      simp [loadVar, Sem.run_bind, hagg, sizeOf, typeInfo, hq, hs, hl]
  unfold Oper.wp execOp
  simp only [ho, hx, Instr.loadAt, Instr.sureAddr, Sem.run_bind, Sem.run_pure, Result.andThen_ok, hrun]
  exact hK _ _ h

/-- A struct stored whole into a block of its own. -/
theorem wpList_store_row {w : World} {a : Act} {o : Oper} (hg : o.guard = none) (ty : TypeId) (x y : Operand) (ho : o.op = .store ty x y) (hd : o.dst = none)
    (g : Nat) (cells : Array Value) (t : TypeId) (old : Array Value) (hb : w.heap[g]? = some (.cells old t (0, 0))) (hx : a.eval x = .pointer (some ⟨g, 0, none⟩)) (hy : a.eval y = .agg cells)
    (hi : (P.info? ty).map (·.size) = some cells.size) (hold : old.size = cells.size) (h1 : cells.toList.all (·.oneCell') = true) (h : wpList P ops Q rest a (w.setRow g cells)) : wpList P ops Q (o :: rest) a w :=
  wpList_plain hg fun _ hK => wp_store_row ty x y ho g cells hx hy t old hb hi hold (by rw [← Array.all_toList]; exact h1) (by rw [hd]; exact hK _ _ h)
end
end Go.Proofs.YthmhcnnigepohaaGreatDoor
