/- Laws at the operations for structs of many cells: a new variable that is filled at once; a struct read whole. -/
import Derived.Test.YthmhcnnigepohaaFr
import Derived.Laws.Rows
namespace Go.Proofs.Ythmhcnnigepohaa

theorem setRow_alloc (w : World) (old cs : Array Value) (t : TypeId) : (w.alloc (.cells old t)).setRow w.heap.size cs = w.alloc (.cells cs t) := by
  unfold World.setRow World.alloc
  congr 1
  apply Array.ext_getElem?
  intro k
  simp only [Array.getElem?_modify, Array.getElem?_push]
  by_cases hk : k = w.heap.size
  · subst hk; simp
  · have hk' : ¬ w.heap.size = k := fun e => hk e.symm
    simp [hk, hk']

section
variable {P : Program} {ops : Array Oper} {rest : List Oper} {Q : Exit → Act → World → Prop}

/-- 'x := <a struct>': the variable's block is laid with its cells at once. -/
theorem wpList_var {w : World} {a : Act} {o1 o2 : Oper} (hg1 : o1.guard = none) (hg2 : o2.guard = none) (t : TypeId) (d : Tmp) (y : Operand)
    (ho1 : o1.op = .alloc t) (hd1 : o1.dst = some d) (ho2 : o2.op = .store t (.tmp d) y) (hd2 : o2.dst = none) (hdl : d < a.tmps.size)
    (z cells : Array Value) (hz : ∀ W, (zeroValue t).run P W = .ok (.agg z) W) (hi : (P.info? t).map (·.size) = some cells.size) (hs : z.size = cells.size) (h1 : cells.toList.all (·.oneCell') = true)
    (hy : (a.put (some d) (.pointer (some ⟨w.heap.size, 0, none⟩))).eval y = .agg cells)
    (h : wpList P ops Q rest (a.put (some d) (.pointer (some ⟨w.heap.size, 0, none⟩))) (w.alloc (.cells cells t))) :
    wpList P ops Q (o1 :: o2 :: rest) a w := by
  refine wpList_plain hg1 fun K1 hK1 => ?_
  unfold Oper.wp
  simp only [execOp, ho1, Instr.alloc, Sem.run_bind, hz, Result.andThen_ok, Oper.upon, newVar, newRow, Value.cells, run_newObj, Sem.run_pure, hd1, World.alloc_eq]
  refine hK1 _ _ ?_
  refine wpList_plain hg2 fun K2 hK2 => ?_
  have hx : (a.put (some d) (.pointer (some ⟨w.heap.size, 0, none⟩))).eval (.tmp d) = .pointer (some ⟨w.heap.size, 0, none⟩) := by
    simp [Act.put, Act.eval, hdl]
  refine wp_store_row t (.tmp d) y ho2 w.heap.size cells hx hy t z (heap_alloc_new w _) hi hs (by rw [← Array.all_toList]; exact h1) ?_
  rw [setRow_alloc, hd2]
  exact hK2 _ _ h

/-- The same where what is stored lies in another slot. -/
theorem wpList_var' {w : World} {a : Act} {o1 o2 : Oper} (hg1 : o1.guard = none) (hg2 : o2.guard = none) (t : TypeId) (d k : Tmp)
    (ho1 : o1.op = .alloc t) (hd1 : o1.dst = some d) (ho2 : o2.op = .store t (.tmp d) (.tmp k)) (hd2 : o2.dst = none)
    (z cells : Array Value) (hz : ∀ W, (zeroValue t).run P W = .ok (.agg z) W) (hkd : k ≠ d) (hdl : d < a.tmps.size) (hi : (P.info? t).map (·.size) = some cells.size) (hs : z.size = cells.size) (h1 : cells.toList.all (·.oneCell') = true)
    (hy : a.eval (.tmp k) = .agg cells)
    (h : wpList P ops Q rest (a.put (some d) (.pointer (some ⟨w.heap.size, 0, none⟩))) (w.alloc (.cells cells t))) :
    wpList P ops Q (o1 :: o2 :: rest) a w := by
  refine wpList_var hg1 hg2 t d (.tmp k) ho1 hd1 ho2 hd2 hdl z cells hz hi hs h1 ?_ h
  rw [← hy]
  simp only [Act.put, Act.eval, Array.getD_eq_getD_getElem?]
  rw [Array.getElem?_setIfInBounds_ne (fun e => hkd e.symm)]

/-- A struct read whole, wherever it lies. -/
theorem wpList_load_agg {w : World} {a : Act} {o : Oper} (hg : o.guard = none) (t : TypeId) (x : Operand) (ho : o.op = .load t x) (ad : Addr) (cs : Array Value) (d : TypeDesc)
    (hx : a.eval x = .pointer (some ad)) (hu : P.underlying t = some d) (hd : (match d with | .struct _ | .array _ _ => true | _ => false) = true) (hi : (P.info? t).map (·.size) = some cs.size)
    (hc : ∀ j v, cs.toList[j]? = some v → w.cell? (ad.add j) = some v)
    (h : wpList P ops Q rest (a.put o.dst (.agg cs)) w) : wpList P ops Q (o :: rest) a w := by
  refine wpList_plain hg fun K hK => ?_
  have hl : (loadCells ad cs.toList.length).run P w = .ok cs.toList.toArray w := run_loadCells_list (P := P) w ad cs.toList hc
  have hrun : (loadVar t ad).run P w = .ok (.agg cs) w := by
    cases hq : P.info? t with
    | none => simp [hq] at hi
    | some i =>
      have hs : i.size = cs.size := by simpa [hq] using hi
      have hagg : (isAgg t).run P w = .ok true w := by
        unfold isAgg
        rw [Sem.run_bind, run_underlying hu w]
        cases d <;> simp_all
      simp only [Array.length_toList, Array.toArray_toList] at hl
      simp [loadVar, Sem.run_bind, hagg, sizeOf, typeInfo, hq, hs, hl]
  unfold Oper.wp execOp
  simp only [ho, hx, Instr.loadAt, Instr.sureAddr, Sem.run_bind, Sem.run_pure, Result.andThen_ok, hrun]
  exact hK _ _ h

/-- A struct stored whole into a block of its own. -/
theorem wpList_store_row {w : World} {a : Act} {o : Oper} (hg : o.guard = none) (ty : TypeId) (x y : Operand) (ho : o.op = .store ty x y) (hd : o.dst = none)
    (g : Nat) (cells : Array Value) (t : TypeId) (old : Array Value) (hb : w.heap[g]? = some (.cells old t (0, 0))) (hx : a.eval x = .pointer (some ⟨g, 0, none⟩)) (hy : a.eval y = .agg cells)
    (hi : (P.info? ty).map (·.size) = some cells.size) (hold : old.size = cells.size) (h1 : cells.toList.all (·.oneCell') = true) (h : wpList P ops Q rest a (w.setRow g cells)) : wpList P ops Q (o :: rest) a w :=
  wpList_plain hg fun _ hK => wp_store_row ty x y ho g cells hx hy t old hb hi hold (by rw [← Array.all_toList]; exact h1) (by rw [hd]; exact hK _ _ h)
end
end Go.Proofs.Ythmhcnnigepohaa

