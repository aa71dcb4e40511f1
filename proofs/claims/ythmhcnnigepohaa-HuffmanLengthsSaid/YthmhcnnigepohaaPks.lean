/- Packages as cells; insert. -/
import Derived.Test.YthmhcnnigepohaaCodes
import Derived.Test.YthmhcnnigepohaaPm
import Derived.Deep.RegionLaw
import Derived.Deep.RegionHeld3
import Derived.Deep.DrawnRows
namespace Go.Proofs.Ythmhcnnigepohaa
open Go.RowKit

/-- A package's two cells: its weight, and the slice of its symbols. -/
structure Rw where
  w : Int
  a : Option Addr
  n : Nat
  c : Nat
def Rw.cs (x : Rw) : List Value := [.int .i64 x.w, .slice x.a x.n x.c]
def rcs (l : List Rw) : List Value := l.flatMap Rw.cs
theorem rcs_len : ∀ l : List Rw, (rcs l).length = l.length * 2
  | [] => rfl
  | x :: l => by
    have ih := rcs_len l
    unfold rcs at ih ⊢
    rw [List.flatMap_cons, List.length_append, ih, List.length_cons]
    simp [Rw.cs]; omega
theorem rcs_append (a b : List Rw) : rcs (a ++ b) = rcs a ++ rcs b := by simp [rcs]
theorem rcs_get : ∀ (l : List Rw) (i : Nat) (x : Rw), l[i]? = some x → (rcs l)[i * 2]? = some (.int .i64 x.w) ∧ (rcs l)[i * 2 + 1]? = some (.slice x.a x.n x.c)
  | [], i, x, h => by simp at h
  | y :: l, 0, x, h => by
    simp only [List.getElem?_cons_zero, Option.some.injEq] at h
    subst h
    exact ⟨rfl, rfl⟩
  | y :: l, i + 1, x, h => by
    have ih := rcs_get l i x (by simpa using h)
    unfold rcs at ih ⊢
    rw [List.flatMap_cons, List.getElem?_append_right (by simp [Rw.cs]; omega), List.getElem?_append_right (by simp [Rw.cs]; omega)]
    have e1 : (i + 1) * 2 - y.cs.length = i * 2 := by simp [Rw.cs]; omega
    have e2 : (i + 1) * 2 + 1 - y.cs.length = i * 2 + 1 := by simp [Rw.cs]; omega
    rw [e1, e2]
    exact ih
theorem rcs_one (l : List Rw) : ∀ v ∈ rcs l, v.oneCell' = true := by
  intro v hv
  obtain ⟨x, _, hx⟩ := List.mem_flatMap.1 hv
  simp only [Rw.cs, List.mem_cons, List.not_mem_nil, or_false] at hx
  rcases hx with rfl | rfl <;> rfl

theorem elem51 : ElemOk Try.prog 49 51 2 32 := ⟨Try.underlying49, by
  have h : (Try.prog.info? 51).map (fun i => (i.zero.map (fun z => z.cells.size), i.size, i.bytes)) = some (some 2, 2, 32) := by kernel_rfl
  cases hq : Try.prog.info? 51 with
  | none => rw [hq] at h; cases h
  | some i =>
    rw [hq] at h
    simp only [Option.map_some, Option.some.injEq, Prod.mk.injEq] at h
    obtain ⟨h1, h2, h3⟩ := h
    cases hz : i.zero with
    | none => rw [hz] at h1; cases h1
    | some z =>
      rw [hz] at h1
      simp only [Option.map_some, Option.some.injEq] at h1
      exact ⟨i, z, rfl, hz, h2, h3, h1⟩, by decide⟩

/-- A slice of packages that the run owns. -/
def PAt (w : World) (v : Value) (g : Option Nat) (l : List Rw) : Prop := SlAt 51 2 w v g l.length (rcs l)
theorem PAt.push {w : World} {v : Value} {g : Option Nat} {l : List Rw} (h : PAt w v g l) (x : Rw) (hl : l.length ≤ 1000000) :
    ∃ v' w' g', (Builtin.append_ #[49, 49] 49 #[v, .slice (some ⟨w.heap.size, 0, none⟩) 1 1]).run Try.prog (w.alloc (.cells #[.int .i64 x.w, .slice x.a x.n x.c] 51)) = .ok v' w' ∧ PAt w' v' g' (l ++ [x]) ∧ Fr g.toList w w' ∧ (g' = g ∨ ∃ b, g' = some b ∧ w.heap.size ≤ b) := by
  have hk : PAt (w.alloc (.cells #[.int .i64 x.w, .slice x.a x.n x.c] 51)) v g l := SlAt.keep h (fun b hb => heap_alloc_lt (by obtain ⟨cur, hc⟩ := SlAt.lt h b hb; exact lt_of_blk hc))
  obtain ⟨v', w', g', happ, hsl', hfr', hg'⟩ := SlAt.append elem51 hk 49 ⟨w.heap.size, 0, none⟩ 1 1 x.cs (by omega) (by simp [Rw.cs]) (fun j u hj => by
    rw [Addr.add_lit, cell_blk (heap_alloc_eq rfl), Nat.zero_add]
    simpa [Rw.cs] using hj) (by simp [Rw.cs, Value.oneCell']) (by omega) (by unfold maxLen; omega)
  refine ⟨v', w', g', happ, ?_, ((Fr.refl _ w).alloc _).andThen hfr' (fun x hx => .inl hx), ?_⟩
  · unfold PAt
    rw [List.length_append, rcs_append]
    have : rcs [x] = x.cs := by simp [rcs]
    rw [this]
    exact hsl'
  · rcases hg' with h1 | ⟨h1, _⟩
    · exact .inl h1
    · exact .inr ⟨_, h1, by simp⟩
/-- What an element's cells hold. -/
theorem PAt.get {w : World} {v : Value} {g : Option Nat} {l : List Rw} (h : PAt w v g l) {i : Nat} {x : Rw} (hx : l[i]? = some x) :
    ∃ b off cap, g = some b ∧ v = .slice (some ⟨b, off, none⟩) l.length cap ∧ b < w.heap.size ∧ w.cell? ⟨b, off + i * 2, none⟩ = some (.int .i64 x.w) ∧ w.cell? ⟨b, off + i * 2 + 1, none⟩ = some (.slice x.a x.n x.c) ∧ ∀ j, w.frozen? ⟨b, j, none⟩ = false := by
  rcases h with ⟨_, _, h1, _⟩ | ⟨b, off, cap, cur, hg, hv, hblk, hnc, hfit, hxs, hcells⟩
  · have := (List.getElem?_eq_some_iff.1 hx).1
    omega
  · obtain ⟨r1, r2⟩ := rcs_get l i x hx
    refine ⟨b, off, cap, hg, hv, lt_of_blk hblk, ?_, ?_, fun j => froz_blk hblk j⟩
    · rw [cell_blk hblk]; exact hcells _ _ r1
    · rw [cell_blk hblk, Nat.add_assoc]; exact hcells _ _ r2

theorem weight31_any (x : Rw) (w : World) : Calls Try.prog 31 #[.agg #[.int .i64 x.w, .slice x.a x.n x.c]] w fun e w' => e = .returned (.int .i64 x.w) ∧ w.alloc (.cells #[.int .i64 x.w, .slice x.a x.n x.c] 51) = w' := by
  go_enter Try.func31, Try.ntmps31
  go_wp2
  go_ret
  exact ⟨rfl, rfl⟩

theorem run_copy_sz {P : Program} (w : World) (t ty elem : TypeId) (size : Nat) (g o dLen dCap : Nat) (a : Addr) (sLen sCap : Nat) (cur : Array Value) (e : TypeId) (cs : List Value) (m : Nat)
    (hu : P.underlying t = some (.slice elem)) (hs : (P.info? elem).map (·.size) = some size)
    (hg : w.heap[g]? = some (.cells cur e (0, 0))) (hm : m = Nat.min sLen dLen) (hn : cs.length = m * size)
    (hsrc : ∀ j v, cs[j]? = some v → w.cell? (a.add j) = some v) (hfit : o + cs.length ≤ cur.size) (h1 : ∀ v ∈ cs, v.oneCell' = true) :
    (Builtin.copy_ #[t, t] ty #[.slice (some ⟨g, o, none⟩) dLen dCap, .slice (some a) sLen sCap]).run P w =
      .ok (goInt m) (w.setRow g (cur.toList.take o ++ cs ++ cur.toList.drop (o + cs.length)).toArray) := by
  have hl := run_loadCells_list (P := P) w a cs hsrc
  have hst := run_storeCells_at P g o e cs 0 cur w hg (by simpa using hfit) h1
  cases hq : P.info? elem with
  | none => simp [hq] at hs
  | some i =>
    have hi : i.size = size := by simpa [hq] using hs
    have hm2 : sLen.min dLen = m := hm.symm
    simp [Builtin.copy_, run_underlying hu, Builtin.lenOf, Builtin.firstCells, sizeOf, typeInfo, hq, hi, hm2, ← hn, hl, hst]
theorem run_copy_none {P : Program} (w : World) (t ty elem : TypeId) (i : TypeInfo) (dp sp : Option Addr) (dCap sLen sCap : Nat)
    (hu : P.underlying t = some (.slice elem)) (hs : P.info? elem = some i) :
    (Builtin.copy_ #[t, t] ty #[.slice dp 0 dCap, .slice sp sLen sCap]).run P w = .ok (goInt 0) w := by
  cases dp <;> cases sp <;> simp [Builtin.copy_, run_underlying hu, Builtin.lenOf, Builtin.firstCells, sizeOf, typeInfo, hs, storeCells, loadCells, loadCellsFrom]

theorem step_copy_run {P : Program} {ops : Array Oper} {o : Oper} {a : Act} {w : World} {K : Act → World → Prop} {Q : Exit → Act → World → Prop} {E : Prop} (hg : o.guard = none) (s x : Operand) (t : TypeId)
    (ho : o.op = .call { callee := .builtin .copy, args := #[s, x], argTypes := #[t, t] }) {v y v' : Value} {w' : World} (hrun : (Builtin.copy_ #[t, t] o.type #[v, y]).run P w = .ok v' w')
    (hs : a.eval s = v) (hx : a.eval x = y) (h : K (a.put o.dst v') w') : if Region.wanted o (yielded ops a.tmps) = true then Oper.wp P o a w K Q else E := by
  have hw : Region.wanted o (yielded ops a.tmps) = true := by simp [Region.wanted, hg]
  rw [if_pos hw]
  unfold Oper.wp execOp
  simp only [ho, resolve, invoke, builtin, Sem.run_bind, Sem.run_pure, Result.andThen_ok, List.map_toArray, List.map_cons, List.map_nil, hs, hx, hrun]
  exact h
theorem step_append_run {P : Program} {ops : Array Oper} {o : Oper} {a : Act} {w : World} {K : Act → World → Prop} {Q : Exit → Act → World → Prop} {E : Prop} (hg : o.guard = none) (s x : Operand) (t : TypeId)
    (ho : o.op = .call { callee := .builtin .append, args := #[s, x], argTypes := #[t, t] }) {v y v' : Value} {w' : World} (hrun : (Builtin.append_ #[t, t] o.type #[v, y]).run P w = .ok v' w')
    (hs : a.eval s = v) (hx : a.eval x = y) (h : K (a.put o.dst v') w') : if Region.wanted o (yielded ops a.tmps) = true then Oper.wp P o a w K Q else E := by
  have hw : Region.wanted o (yielded ops a.tmps) = true := by simp [Region.wanted, hg]
  rw [if_pos hw]
  unfold Oper.wp execOp
  simp only [ho, resolve, invoke, builtin, Sem.run_bind, Sem.run_pure, Result.andThen_ok, List.map_toArray, List.map_cons, List.map_nil, hs, hx, hrun]
  exact h
end Go.Proofs.Ythmhcnnigepohaa

