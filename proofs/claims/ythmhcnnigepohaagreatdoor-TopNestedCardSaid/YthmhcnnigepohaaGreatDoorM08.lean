/- Decoders: what they hold. -/
import Derived.Test.YthmhcnnigepohaaGreatDoorM06
import Derived.Deep.RegionLaw
import Derived.Deep.RegionHeld3
import Derived.Deep.DrawnRows
import Derived.Laws.Bits128
import Derived.Test.YthmhcnnigepohaaGreatDoorM07
namespace Go.Proofs.YthmhcnnigepohaaGreatDoor.Hf
open Go.RowKit

/-- The symbols of length n among the first k. -/
def syk (L : List Nat) (n k : Nat) : List Nat := (List.range k).filter (fun i => L.getD i 0 == n)
def sys (L : List Nat) : Nat → List Nat
  | 0 => []
  | n + 1 => sys L n ++ syk L (n + 1) L.length
theorem syk_zero (L : List Nat) (n : Nat) : syk L n 0 = [] := rfl
theorem syk_succ (L : List Nat) (n k : Nat) : syk L n (k + 1) = syk L n k ++ if L.getD k 0 = n then [k] else [] := by
  unfold syk
  rw [List.range_succ, List.filter_append]
  simp [List.filter_cons]
theorem syk_len (L : List Nat) (n : Nat) : ∀ k, k ≤ L.length → (syk L n k).length = pre L n k
  | 0, _ => by simp [syk, pre]
  | k + 1, h => by
    rw [syk_succ, List.length_append, syk_len L n k (by omega)]
    unfold pre
    rw [take_get (by omega), List.count_append, List.count_singleton]
    by_cases hk : L.getD k 0 = n
    · rw [if_pos hk, if_pos (by simpa using hk)]; rfl
    · have h2 : ¬ (L.getD k 0 == n) = true := by simpa using hk
      rw [if_neg hk, if_neg h2]; simp
theorem syk_all (L : List Nat) (n : Nat) (hn : 0 < n) : (syk L n L.length).length = cnt L n := by
  rw [syk_len L n _ (Nat.le_refl _)]
  unfold pre cnt
  rw [List.take_length, if_neg (by omega)]
/-- The j-th symbol of length n. -/
theorem syk_get {L : List Nat} {n i : Nat} (hi : i < L.length) (h : L.getD i 0 = n) : ∀ k, i < k → k ≤ L.length → (syk L n k)[pre L n i]? = some i
  | 0, h1, _ => by omega
  | k + 1, h1, h2 => by
    rw [syk_succ]
    by_cases hik : i = k
    · subst hik
      rw [if_pos h, List.getElem?_append_right (by rw [syk_len L n i (by omega)]; exact Nat.le_refl _), syk_len L n i (by omega)]
      simp
    · have ih := syk_get hi h k (by omega) (by omega)
      rw [List.getElem?_append_left (List.getElem?_eq_some_iff.1 ih).1]
      exact ih
theorem sys_pre (L : List Nat) {a b : Nat} (h : a ≤ b) : ∃ r, sys L b = sys L a ++ r := by
  induction b with
  | zero => obtain rfl : a = 0 := by omega
            exact ⟨[], by simp⟩
  | succ b ih =>
    by_cases hb : a = b + 1
    · subst hb; exact ⟨[], by simp⟩
    · obtain ⟨r, hr⟩ := ih (by omega)
      exact ⟨r ++ syk L (b + 1) L.length, by rw [sys, hr, List.append_assoc]⟩
theorem sys_get {L : List Nat} {n j x : Nat} (hn : 0 < n) (hn15 : n ≤ 15) (h : (syk L n L.length)[j]? = some x) : (sys L 15)[(sys L (n - 1)).length + j]? = some x := by
  obtain ⟨m, rfl⟩ : ∃ m, n = m + 1 := ⟨n - 1, by omega⟩
  obtain ⟨r, hr⟩ := sys_pre L hn15
  rw [hr, sys, show m + 1 - 1 = m by omega, List.append_assoc, List.getElem?_append_right (by omega), show (sys L m).length + j - (sys L m).length = j by omega]
  rw [List.getElem?_append_left (List.getElem?_eq_some_iff.1 h).1]
  exact h
theorem sys_le (L : List Nat) : ∀ n, (sys L n).length ≤ n * L.length
  | 0 => by simp [sys]
  | n + 1 => by
    have ih := sys_le L n
    have h := List.length_filter_le (fun i => L.getD i 0 == n + 1) (List.range L.length)
    rw [List.length_range] at h
    rw [sys, List.length_append, Nat.add_mul, Nat.one_mul]
    unfold syk
    omega
/-- The longest length up to n. -/
def lgs (L : List Nat) : Nat → Nat
  | 0 => 0
  | n + 1 => if cnt L (n + 1) = 0 then lgs L n else n + 1
theorem lgs_le (L : List Nat) : ∀ n, lgs L n ≤ n
  | 0 => Nat.le_refl _
  | n + 1 => by
    have := lgs_le L n
    rw [lgs]; split <;> omega
theorem lgs_ge {L : List Nat} {m : Nat} : ∀ n, m ≤ n → cnt L m ≠ 0 → m ≤ lgs L n
  | 0, h, h1 => by omega
  | n + 1, h, h1 => by
    rw [lgs]
    by_cases hm : m = n + 1
    · subst hm; rw [if_neg h1]; exact Nat.le_refl _
    · have := lgs_ge n (by omega) h1
      split <;> omega
theorem lgs_cnt (L : List Nat) : ∀ n, lgs L n = 0 ∨ cnt L (lgs L n) ≠ 0
  | 0 => .inl rfl
  | n + 1 => by
    rw [lgs]
    by_cases h : cnt L (n + 1) = 0
    · rw [if_pos h]; exact lgs_cnt L n
    · rw [if_neg h]; exact .inr h

/-- The slot of the longest length in the midst of length n's symbols. -/
def lgk (L : List Nat) (n k : Nat) : Nat := if pre L n k = 0 then lgs L (n - 1) else n

theorem build62 (t0 t1 t2 t3 t4 t5 t6 t7 t8 t9 t10 t11 t12 t13 t14 t15 t16 t17 t18 t19 t20 t21 t22 t23 t24 t25 t26 t27 t28 t29 t30 t31 : Value) (w : World) : (Instr.build 207 #[(0, .agg #[t0, t1, t2, t3, t4, t5, t6, t7, t8, t9, t10, t11, t12, t13, t14, t15, t16, t17, t18, t19, t20, t21, t22, t23, t24, t25, t26, t27, t28, t29, t30, t31])]).run Tryz.prog w = .ok (.agg #[t0, t1, t2, t3, t4, t5, t6, t7, t8, t9, t10, t11, t12, t13, t14, t15, t16, t17, t18, t19, t20, t21, t22, t23, t24, t25, t26, t27, t28, t29, t30, t31, .slice none 0 0, .int .i64 0, .int .i64 0, .int .i64 0, .int .i64 0, .int .i64 0, .int .i64 0, .int .i64 0, .int .i64 0, .int .i64 0, .int .i64 0, .int .i64 0, .int .i64 0, .int .i64 0, .int .i64 0, .int .i64 0, .int .i64 0, .int .i64 0, .int .i64 0, .int .i64 0]) w := by kernel_rfl
def dcells (L : List Nat) : Array Value := #[.int .i64 (tg L 0), .int .i64 (tg L 1), .int .i64 (tg L 2), .int .i64 (tg L 3), .int .i64 (tg L 4), .int .i64 (tg L 5), .int .i64 (tg L 6), .int .i64 (tg L 7), .int .i64 (tg L 8), .int .i64 (tg L 9), .int .i64 (tg L 10), .int .i64 (tg L 11), .int .i64 (tg L 12), .int .i64 (tg L 13), .int .i64 (tg L 14), .int .i64 (tg L 15), .int .i64 (tg L 16), .int .i64 (tg L 17), .int .i64 (tg L 18), .int .i64 (tg L 19), .int .i64 (tg L 20), .int .i64 (tg L 21), .int .i64 (tg L 22), .int .i64 (tg L 23), .int .i64 (tg L 24), .int .i64 (tg L 25), .int .i64 (tg L 26), .int .i64 (tg L 27), .int .i64 (tg L 28), .int .i64 (tg L 29), .int .i64 (tg L 30), .int .i64 (tg L 31), .slice none 0 0, .int .i64 0, .int .i64 0, .int .i64 0, .int .i64 0, .int .i64 0, .int .i64 0, .int .i64 0, .int .i64 0, .int .i64 0, .int .i64 0, .int .i64 0, .int .i64 0, .int .i64 0, .int .i64 0, .int .i64 0, .int .i64 0, .int .i64 0, .int .i64 0, .int .i64 0]
theorem build_tab (L : List Nat) (w : World) : (Instr.build 207 #[(0, .agg (tab L))]).run Tryz.prog w = .ok (.agg (dcells L)) w := by
  have h : tab L = #[.int .i64 (tg L 0), .int .i64 (tg L 1), .int .i64 (tg L 2), .int .i64 (tg L 3), .int .i64 (tg L 4), .int .i64 (tg L 5), .int .i64 (tg L 6), .int .i64 (tg L 7), .int .i64 (tg L 8), .int .i64 (tg L 9), .int .i64 (tg L 10), .int .i64 (tg L 11), .int .i64 (tg L 12), .int .i64 (tg L 13), .int .i64 (tg L 14), .int .i64 (tg L 15), .int .i64 (tg L 16), .int .i64 (tg L 17), .int .i64 (tg L 18), .int .i64 (tg L 19), .int .i64 (tg L 20), .int .i64 (tg L 21), .int .i64 (tg L 22), .int .i64 (tg L 23), .int .i64 (tg L 24), .int .i64 (tg L 25), .int .i64 (tg L 26), .int .i64 (tg L 27), .int .i64 (tg L 28), .int .i64 (tg L 29), .int .i64 (tg L 30), .int .i64 (tg L 31)] := by kernel_rfl
  rw [h]
  exact build62 _ _ _ _ _ _ _ _ _ _ _ _ _ _ _ _ _ _ _ _ _ _ _ _ _ _ _ _ _ _ _ _ w
theorem dcells_tab (L : List Nat) (i : Nat) (hi : i < 32) : (dcells L)[i]? = some (.int .i64 (tg L i)) := by
  have h : (dcells L)[i]? = (tab L)[i]? := by
    have h2 : dcells L = tab L ++ #[.slice none 0 0, .int .i64 0, .int .i64 0, .int .i64 0, .int .i64 0, .int .i64 0, .int .i64 0, .int .i64 0, .int .i64 0, .int .i64 0, .int .i64 0, .int .i64 0, .int .i64 0, .int .i64 0, .int .i64 0, .int .i64 0, .int .i64 0, .int .i64 0, .int .i64 0, .int .i64 0] := by kernel_rfl
    rw [h2, Array.getElem?_append_left (by simp [tab]; omega)]
  rw [h]
  simp [tab, hi]
theorem dcells_zero (L : List Nat) (i : Nat) (h1 : 33 ≤ i) (h2 : i < 52) : (dcells L)[i]? = some (.int .i64 0) := by
  obtain ⟨j, rfl⟩ : ∃ j, i = 33 + j := ⟨i - 33, by omega⟩
  have hj : j < 19 := by omega
  have h : (dcells L)[33 + j]? = (#[.int .i64 0, .int .i64 0, .int .i64 0, .int .i64 0, .int .i64 0, .int .i64 0, .int .i64 0, .int .i64 0, .int .i64 0, .int .i64 0, .int .i64 0, .int .i64 0, .int .i64 0, .int .i64 0, .int .i64 0, .int .i64 0, .int .i64 0, .int .i64 0, .int .i64 0] : Array Value)[j]? := by
    have h3 : dcells L = (tab L ++ #[.slice none 0 0]) ++ #[.int .i64 0, .int .i64 0, .int .i64 0, .int .i64 0, .int .i64 0, .int .i64 0, .int .i64 0, .int .i64 0, .int .i64 0, .int .i64 0, .int .i64 0, .int .i64 0, .int .i64 0, .int .i64 0, .int .i64 0, .int .i64 0, .int .i64 0, .int .i64 0, .int .i64 0] := by kernel_rfl
    have h4 : (tab L ++ #[Value.slice none 0 0]).size = 33 := by simp [tab]
    rw [h3, Array.getElem?_append_right (by omega), h4, show 33 + j - 33 = j by omega]
  rw [h]
  have h5 : (#[.int .i64 0, .int .i64 0, .int .i64 0, .int .i64 0, .int .i64 0, .int .i64 0, .int .i64 0, .int .i64 0, .int .i64 0, .int .i64 0, .int .i64 0, .int .i64 0, .int .i64 0, .int .i64 0, .int .i64 0, .int .i64 0, .int .i64 0, .int .i64 0, .int .i64 0] : Array Value) = ((List.range 19).map (fun _ => Value.int .i64 0)).toArray := rfl
  rw [h5]
  simp [hj]
theorem dcells_sym (L : List Nat) : (dcells L)[32]? = some (.slice none 0 0) := rfl
theorem dcells_size (L : List Nat) : (dcells L).size = 52 := rfl

/-- The decoder in block D: st: where the symbols of a length begin; lg: the longest length; c, n: the bits since the last symbol; sv: the symbols. -/
def DB (w : World) (D : Nat) (L : List Nat) (st : Nat → Int) (lg c n : Int) (sv : Value) : Prop :=
  ∃ cur, w.heap[D]? = some (.cells cur 207 (0, 0)) ∧ cur.size = 52 ∧ (∀ i, i < 32 → cur[i]? = some (.int .i64 (tg L i))) ∧ cur[32]? = some sv ∧ (∀ i, i < 16 → cur[33 + i]? = some (.int .i64 (st i))) ∧
    cur[49]? = some (.int .i64 lg) ∧ cur[50]? = some (.int .i64 c) ∧ cur[51]? = some (.int .i64 n)
section
variable {w w' : World} {D : Nat} {L : List Nat} {st : Nat → Int} {lg c n : Int} {sv : Value}
theorem DB.lt (h : DB w D L st lg c n sv) : D < w.heap.size := by
  obtain ⟨cur, h1, _⟩ := h
  exact lt_of_blk h1
theorem DB.keep (h : DB w D L st lg c n sv) (e : w'.heap[D]? = w.heap[D]?) : DB w' D L st lg c n sv := by
  obtain ⟨cur, h1, h2⟩ := h
  exact ⟨cur, e.trans h1, h2⟩
theorem DB.fr {S : List Nat} (h : DB w D L st lg c n sv) (hf : Fr S w w') (hn : D ∉ S) : DB w' D L st lg c n sv := h.keep (hf.block D h.lt hn)
theorem DB.froz (h : DB w D L st lg c n sv) (i : Nat) : w.frozen? ⟨D, i, none⟩ = false := by
  obtain ⟨cur, h1, _⟩ := h
  exact froz_blk h1 i
theorem DB.gtab (h : DB w D L st lg c n sv) {i : Nat} (hi : i < 32) : w.cell? ⟨D, i, none⟩ = some (.int .i64 (tg L i)) := by
  obtain ⟨cur, h1, _, h2, _⟩ := h
  rw [cell_blk h1, h2 i hi]
theorem DB.gsym (h : DB w D L st lg c n sv) : w.cell? ⟨D, 32, none⟩ = some sv := by
  obtain ⟨cur, h1, _, _, h2, _⟩ := h
  rw [cell_blk h1, h2]
theorem DB.gst (h : DB w D L st lg c n sv) {i : Nat} (hi : i < 16) : w.cell? ⟨D, 33 + i, none⟩ = some (.int .i64 (st i)) := by
  obtain ⟨cur, h1, _, _, _, h2, _⟩ := h
  rw [cell_blk h1, h2 i hi]
theorem DB.glg (h : DB w D L st lg c n sv) : w.cell? ⟨D, 49, none⟩ = some (.int .i64 lg) := by
  obtain ⟨cur, h1, _, _, _, _, h2, _⟩ := h
  rw [cell_blk h1, h2]
theorem DB.gc (h : DB w D L st lg c n sv) : w.cell? ⟨D, 50, none⟩ = some (.int .i64 c) := by
  obtain ⟨cur, h1, _, _, _, _, _, h2, _⟩ := h
  rw [cell_blk h1, h2]
theorem DB.gn (h : DB w D L st lg c n sv) : w.cell? ⟨D, 51, none⟩ = some (.int .i64 n) := by
  obtain ⟨cur, h1, _, _, _, _, _, _, h2⟩ := h
  rw [cell_blk h1, h2]
theorem DB.setC (h : DB w D L st lg c n sv) (x : Int) : DB (w.setCell ⟨D, 50, none⟩ (.int .i64 x)) D L st lg x n sv := by
  obtain ⟨cur, h1, h2, h3, h4, h5, h6, h7, h8⟩ := h
  refine ⟨_, heap_set_same h1, by simpa using h2, ?_, ?_, ?_, ?_, ?_, ?_⟩
  · intro i hi; rw [Array.getElem?_setIfInBounds_ne (by omega)]; exact h3 i hi
  · rw [Array.getElem?_setIfInBounds_ne (by omega)]; exact h4
  · intro i hi; rw [Array.getElem?_setIfInBounds_ne (by omega)]; exact h5 i hi
  · rw [Array.getElem?_setIfInBounds_ne (by omega)]; exact h6
  · rw [Array.getElem?_setIfInBounds_self_of_lt (by omega)]
  · rw [Array.getElem?_setIfInBounds_ne (by omega)]; exact h8
theorem DB.setN (h : DB w D L st lg c n sv) (x : Int) : DB (w.setCell ⟨D, 51, none⟩ (.int .i64 x)) D L st lg c x sv := by
  obtain ⟨cur, h1, h2, h3, h4, h5, h6, h7, h8⟩ := h
  refine ⟨_, heap_set_same h1, by simpa using h2, ?_, ?_, ?_, ?_, ?_, ?_⟩
  · intro i hi; rw [Array.getElem?_setIfInBounds_ne (by omega)]; exact h3 i hi
  · rw [Array.getElem?_setIfInBounds_ne (by omega)]; exact h4
  · intro i hi; rw [Array.getElem?_setIfInBounds_ne (by omega)]; exact h5 i hi
  · rw [Array.getElem?_setIfInBounds_ne (by omega)]; exact h6
  · rw [Array.getElem?_setIfInBounds_ne (by omega)]; exact h7
  · rw [Array.getElem?_setIfInBounds_self_of_lt (by omega)]
theorem DB.setLg (h : DB w D L st lg c n sv) (x : Int) : DB (w.setCell ⟨D, 49, none⟩ (.int .i64 x)) D L st x c n sv := by
  obtain ⟨cur, h1, h2, h3, h4, h5, h6, h7, h8⟩ := h
  refine ⟨_, heap_set_same h1, by simpa using h2, ?_, ?_, ?_, ?_, ?_, ?_⟩
  · intro i hi; rw [Array.getElem?_setIfInBounds_ne (by omega)]; exact h3 i hi
  · rw [Array.getElem?_setIfInBounds_ne (by omega)]; exact h4
  · intro i hi; rw [Array.getElem?_setIfInBounds_ne (by omega)]; exact h5 i hi
  · rw [Array.getElem?_setIfInBounds_self_of_lt (by omega)]
  · rw [Array.getElem?_setIfInBounds_ne (by omega)]; exact h7
  · rw [Array.getElem?_setIfInBounds_ne (by omega)]; exact h8
theorem DB.setSym (h : DB w D L st lg c n sv) (x : Value) : DB (w.setCell ⟨D, 32, none⟩ x) D L st lg c n x := by
  obtain ⟨cur, h1, h2, h3, h4, h5, h6, h7, h8⟩ := h
  refine ⟨_, heap_set_same h1, by simpa using h2, ?_, ?_, ?_, ?_, ?_, ?_⟩
  · intro i hi; rw [Array.getElem?_setIfInBounds_ne (by omega)]; exact h3 i hi
  · rw [Array.getElem?_setIfInBounds_self_of_lt (by omega)]
  · intro i hi; rw [Array.getElem?_setIfInBounds_ne (by omega)]; exact h5 i hi
  · rw [Array.getElem?_setIfInBounds_ne (by omega)]; exact h6
  · rw [Array.getElem?_setIfInBounds_ne (by omega)]; exact h7
  · rw [Array.getElem?_setIfInBounds_ne (by omega)]; exact h8
theorem DB.setSt (h : DB w D L st lg c n sv) {m : Nat} (hm : m < 16) (x : Int) : DB (w.setCell ⟨D, 33 + m, none⟩ (.int .i64 x)) D L (fun i => if i = m then x else st i) lg c n sv := by
  obtain ⟨cur, h1, h2, h3, h4, h5, h6, h7, h8⟩ := h
  refine ⟨_, heap_set_same h1, by simpa using h2, ?_, ?_, ?_, ?_, ?_, ?_⟩
  · intro i hi; rw [Array.getElem?_setIfInBounds_ne (by omega)]; exact h3 i hi
  · rw [Array.getElem?_setIfInBounds_ne (by omega)]; exact h4
  · intro i hi
    by_cases he : i = m
    · subst he
      rw [Array.getElem?_setIfInBounds_self_of_lt (by omega)]; simp only [if_true]
    · rw [Array.getElem?_setIfInBounds_ne (by omega)]; simp only [if_neg he]; exact h5 i hi
  · rw [Array.getElem?_setIfInBounds_ne (by omega)]; exact h6
  · rw [Array.getElem?_setIfInBounds_ne (by omega)]; exact h7
  · rw [Array.getElem?_setIfInBounds_ne (by omega)]; exact h8
theorem DB.ext {st' : Nat → Int} (h : DB w D L st lg c n sv) (e : ∀ i, i < 16 → st i = st' i) : DB w D L st' lg c n sv := by
  obtain ⟨cur, h1, h2, h3, h4, h5, h6⟩ := h
  exact ⟨cur, h1, h2, h3, h4, fun i hi => by rw [← e i hi]; exact h5 i hi, h6⟩
theorem DB.new (w : World) (L : List Nat) : DB (w.alloc (.cells (dcells L) 207)) w.heap.size L (fun _ => 0) 0 0 0 (.slice none 0 0) :=
  ⟨_, heap_alloc_eq rfl, dcells_size L, dcells_tab L, dcells_sym L, fun i hi => dcells_zero L _ (by omega) (by omega), dcells_zero L 49 (by omega) (by omega), dcells_zero L 50 (by omega) (by omega), dcells_zero L 51 (by omega) (by omega)⟩
end

theorem wpList_build_run {P : Program} {ops : Array Oper} {rest : List Oper} {o : Oper} {a : Act} {w : World} {Q : Exit → Act → World → Prop} (hg : o.guard = none) (t : TypeId) (j : Nat) (x : Operand) (ho : o.op = .build t #[(j, x)])
    (v0 v : Value) (hx : a.eval x = v0) (hrun : (Instr.build t #[(j, v0)]).run P w = .ok v w) (h : wpList P ops Q rest (a.put o.dst v) w) : wpList P ops Q (o :: rest) a w := by
  refine wpList_plain hg fun K hK => ?_
  unfold Oper.wp execOp
  simp only [ho, List.map_toArray, List.map_cons, List.map_nil, hx, hrun, Sem.run_bind, Result.andThen_ok, Sem.run_pure]
  exact hK _ _ h

/-- A list of symbols as ints, owned. -/
def nI (l : List Nat) : List Value := l.map (fun x : Nat => Value.int .i64 (x : Int))
theorem nI_len (l : List Nat) : (nI l).length = l.length := by simp [nI]
def NAt (w : World) (v : Value) (g : Option Nat) (l : List Nat) : Prop := SlAt 3 1 w v g l.length (nI l)
theorem NAt.push {w : World} {v : Value} {g : Option Nat} {l : List Nat} (h : NAt w v g l) (x : Nat) (hl : l.length ≤ 1000000) :
    ∃ v' w' g', (Builtin.append_ #[77, 77] 77 #[v, .slice (some ⟨w.heap.size, 0, none⟩) 1 1]).run Tryz.prog (w.alloc (.cells #[.int .i64 (x : Int)] 3)) = .ok v' w' ∧ NAt w' v' g' (l ++ [x]) ∧ Fr g.toList w w' ∧ (g' = g ∨ ∃ b, g' = some b ∧ w.heap.size ≤ b) := by
  have hk : NAt (w.alloc (.cells #[.int .i64 (x : Int)] 3)) v g l := SlAt.keep h (fun b hb => heap_alloc_lt (by obtain ⟨cur, hc⟩ := SlAt.lt h b hb; exact lt_of_blk hc))
  obtain ⟨v', w', g', happ, hsl', hfr', hg'⟩ := SlAt.append elem3 hk 77 ⟨w.heap.size, 0, none⟩ 1 1 [.int .i64 (x : Int)] (by omega) (by simp) (fun j u hj => by
    rw [Addr.add_lit, cell_blk (heap_alloc_eq rfl)]
    simpa using hj) (by simp [Value.oneCell']) (by omega) (by unfold maxLen; omega)
  refine ⟨v', w', g', happ, ?_, ((Fr.refl _ w).alloc _).andThen hfr' (fun x hx => .inl hx), ?_⟩
  · unfold NAt
    rw [List.length_append]
    have : nI (l ++ [x]) = nI l ++ [.int .i64 (x : Int)] := by simp [nI]
    rw [this]
    exact hsl'
  · rcases hg' with h1 | ⟨h1, _⟩
    · exact .inl h1
    · exact .inr ⟨_, h1, by simp⟩
/-- What is read of it. -/
theorem NAt.read {w : World} {v : Value} {g : Option Nat} {l : List Nat} (h : NAt w v g l) {i x : Nat} (hx : l[i]? = some x) : ∃ b off cap, g = some b ∧ v = .slice (some ⟨b, off, none⟩) l.length cap ∧ b < w.heap.size ∧ w.cell? ⟨b, off + i, none⟩ = some (.int .i64 (x : Int)) := by
  rcases h with ⟨_, _, h1, _⟩ | ⟨b, off, cap, cur, hg, hv, hblk, hnc, hfit, hxs, hcells⟩
  · have := (List.getElem?_eq_some_iff.1 hx).1
    omega
  · refine ⟨b, off, cap, hg, hv, lt_of_blk hblk, ?_⟩
    rw [cell_blk hblk]
    exact hcells i _ (by simp [nI, hx])
end Go.Proofs.YthmhcnnigepohaaGreatDoor.Hf

/- NewDecoder: in the program. -/
namespace Go.Proofs.YthmhcnnigepohaaGreatDoor.Hf
open Go.RowKit

def stt (L : List Nat) (i : Nat) : Int := if i = 0 then 0 else ((sys L (i - 1)).length : Int)
/-- The starts of lengths below n. -/
def stn (L : List Nat) (n i : Nat) : Int := if i < n then stt L i else 0
theorem lgk_zero (L : List Nat) (n : Nat) : lgk L n 0 = lgs L (n - 1) := by
  unfold lgk pre
  simp
theorem lgk_succ {L : List Nat} {n k : Nat} (hk : k < L.length) : lgk L n (k + 1) = if L.getD k 0 = n then n else lgk L n k := by
  unfold lgk pre
  rw [take_get hk, List.count_append, List.count_singleton]
  by_cases h : L.getD k 0 = n
  · have h2 : (L.getD k 0 == n) = true := by simpa using h
    rw [if_pos h, if_pos h2, if_neg (by omega)]
  · have h2 : ¬ (L.getD k 0 == n) = true := by simpa using h
    rw [if_neg h, if_neg h2]; simp
theorem lgk_all (L : List Nat) (n : Nat) (hn : 0 < n) : lgk L n L.length = lgs L n := by
  obtain ⟨m, rfl⟩ : ∃ m, n = m + 1 := ⟨n - 1, by omega⟩
  unfold lgk
  rw [lgs]
  have h : pre L (m + 1) L.length = cnt L (m + 1) := by
    unfold pre cnt
    rw [List.take_length, if_neg (by omega)]
  rw [h]
  simp

def NPost (L : List Nat) (w : World) (e : Ending) (w' : World) : Prop :=
  ∃ D g sv, e = .returned (.tuple #[.pointer (some ⟨D, 0, none⟩), .int .i64 0]) ∧ w.heap.size ≤ D ∧ DB w' D L (stt L) (lgs L 15) 0 0 sv ∧ NAt w' sv g (sys L 15) ∧ (∀ b, g = some b → w.heap.size ≤ b ∧ b ≠ D) ∧ Fr [] w w'

set_option maxRecDepth 100000 in
set_option maxHeartbeats 2000000 in
theorem newdec20_bad (v : Value) (l : List Int) (w : World) (h : IR w v l) (hl : l.length ≤ 1000) (hc : chk l ≠ 0) :
    Calls Tryz.prog 151 #[v] w fun e w' => e = .returned (.tuple #[.pointer none, .int .i64 (chk l)]) ∧ w = w' := by
  have HCHK := hide (check11_any v l w h (by omega))
  obtain ⟨c, hcc⟩ : ∃ c, c = chk l := ⟨_, rfl⟩
  rw [← hcc] at HCHK hc ⊢
  obtain ⟨a, cap, rfl, _⟩ := h
  have d1 : (c != 0) = true := by simpa using hc
  clear hcc hc
  go_enter Tryz.func151, Tryz.ntmps151
  go_wp2_with fail
  refine (unhide HCHK).mono ?_
  rintro e w1 ⟨rfl, rfl⟩
  go_wp2
  go_ret2
  exact ⟨rfl, rfl⟩

set_option maxRecDepth 100000 in
set_option maxHeartbeats 2000000 in
theorem newdec20_any (v : Value) (L : List Nat) (w : World) (h : IR w v (zI L)) (hL : ∀ x ∈ L, x ≤ 15) (hl : L.length ≤ 320) (hok : chk (zI L) = 0) :
    Calls Tryz.prog 151 #[v] w (NPost L w) := by
  have HI := hide h
  have hck := check11_any v (zI L) w h (by rw [zI_len]; omega)
  rw [hok] at hck
  have HCHK := hide hck
  have HTO := hide (tableOf25_any v L w h hL (by omega))
  obtain ⟨a, cap, rfl, _⟩ := h
  rw [zI_len] at HI HCHK HTO ⊢
  obtain ⟨n, hn⟩ : ∃ n, n = L.length := ⟨_, rfl⟩
  have HC : Hid (∀ (k : Nat) (W : World), k < n → Fr [] w W → ∃ x, a = some x ∧ W.cell? (x.add k) = some (.int .i64 (L.getD k 0 : Nat))) := by
    show ∀ (k : Nat) (W : World), _ → _ → _
    intro k W hk hW
    obtain ⟨b0, c0', e0, g0⟩ := HI.out.fr hW
    injection e0 with e0 _ _
    obtain ⟨x, hx, hx2⟩ := g0 k (by rw [zI_len]; omega)
    rw [zI_get] at hx2
    exact ⟨x, by rw [e0, hx], hx2⟩
  rw [← hn] at hl HI HCHK HTO ⊢
  have HN := hide hn
  obtain ⟨T, hT⟩ : ∃ T, T = tab L := ⟨_, rfl⟩
  obtain ⟨C, hC⟩ : ∃ C, C = dcells L := ⟨_, rfl⟩
  rw [← hT] at HTO
  have hbd := fun w => build_tab L w
  rw [← hT, ← hC] at hbd
  have HDN : Hid (∀ W : World, DB (W.alloc (.cells C 207)) W.heap.size L (fun _ => 0) 0 0 0 (.slice none 0 0)) := by
    show ∀ W : World, _
    intro W
    rw [hC]
    exact DB.new W L
  clear hn HI hT hC hck hok
  go_enter Tryz.func151, Tryz.ntmps151
  go_wp2_with fail
  refine (unhide HCHK).mono ?_
  rintro e w1 ⟨rfl, rfl⟩
  go_wp2_with (first | (go_at_call 57; refine (unhide HTO).mono ?_; rintro e w1 ⟨rfl, hf⟩; have HF1 := hide hf; clear hf) | ((with_reducible refine wpList_build_run rfl 207 0 (.tmp 15) rfl (.agg T) (.agg C) ?_ (hbd _) ?_); rfl))
  obtain ⟨D, hD⟩ : ∃ D, D = w1.heap.size := ⟨_, rfl⟩
  have HD0 := hide (HDN.out w1)
  have HFD := hide (HF1.out.alloc (.cells C 207))
  have HDW : Hid (w.heap.size ≤ D) := hide (by rw [hD]; exact HF1.out.size)
  rw [← hD] at HD0 ⊢
  clear hD hbd
  generalize w1.alloc (.cells C 207) = w2 at *
  go_loopg [6] 16 (fun gk i wr => ∃ (m : Nat) (g : Option Nat) (sv : Value), gk = 17 - m ∧ 1 ≤ m ∧ m ≤ 16 ∧ i = .int .i64 m ∧ DB wr D L (stn L m) (lgs L (m - 1)) 0 0 sv ∧ NAt wr sv g (sys L (m - 1)) ∧ (∀ b, g = some b → w.heap.size ≤ b ∧ b ≠ D) ∧ Fr [] w wr)
  case atStart => exact ⟨1, none, .slice none 0 0, rfl, by omega, by omega, rfl, HD0.out.ext (fun i _ => by unfold stn stt; split <;> rename_i h1; rw [if_pos (by omega)]; rfl), SlAt.nil_ _, by simp, HFD.out⟩
  case round =>
    obtain ⟨m, g, sv, hgm, hm1, hm, rfl, hd, hs, hg, hf⟩ := hrel
    have HGM := hide hgm
    have HD := hide hd
    have HS := hide hs
    have HG := hide hg
    have HF := hide hf
    by_cases hlt : m < 16
    · obtain ⟨av, cv, hv⟩ := SlAt.shape hs
      obtain ⟨q, hq⟩ : ∃ q, q = (sys L (m - 1)).length := ⟨_, rfl⟩
      rw [← hq] at hv
      have HQ := hide hq
      have hc32 := hd.gsym
      have hcst := hd.gst (i := m) hlt
      have hfst := hd.froz (33 + m)
      have hDl := hd.lt
      have hql : q ≤ 4800 := by
        have := sys_le L (m - 1)
        have h2 : (m - 1) * L.length ≤ 15 * L.length := Nat.mul_le_mul_right _ (by omega)
        have := HN.out
        omega
      subst hv
      have b1 : (0 : Int) ≤ (m : Int) ∧ (m : Int) < 16 := by omega
      clear hgm hd hs hg hf hq
      have hk0 : ∀ u, (wr.setCell ⟨D, 33 + m, none⟩ u).cell? ⟨D, 32, none⟩ = some (.slice av q cv) := fun u => by rw [cell_set_ne (by omega)]; exact hc32
      go_upto_region 8 with (fail)
      go_region_held3 (fun W => W.cell? ⟨D, 32, none⟩ = some (.slice av q cv)) (go_keep) (fail)
      have HD1 : Hid (DB ((wr.setCell ⟨D, 33 + m, none⟩ (.int .i64 q)).drew) D L (stn L (m + 1)) (lgs L (m - 1)) 0 0 (.slice av q cv)) := hide ((DB.ext (HD.out.setSt hlt q) (fun i hi => by
        unfold stn stt
        by_cases he : i = m
        · subst he
          simp only [if_true]
          have h0 : ¬ i = 0 := by omega
          have h1 : i < i + 1 := by omega
          rw [if_pos h1, if_neg h0, HQ.out]
        · simp only [if_neg he]
          by_cases h1 : i < m
          · rw [if_pos h1, if_pos (show i < m + 1 by omega)]
          · rw [if_neg h1, if_neg (show ¬ i < m + 1 by omega)])).keep rfl)
      have HF1' := hide ((HF.out.setCell (p := ⟨D, 33 + m, none⟩) (.inr (by have := HDW.out; simp; omega)) (.int .i64 q)).drew)
      have HS1 : Hid (NAt ((wr.setCell ⟨D, 33 + m, none⟩ (.int .i64 q)).drew) (.slice av q cv) g (sys L (m - 1))) := hide (SlAt.fr HS.out (((Fr.refl [D] wr).setCell (.inl (by simp)) _).drew) (fun b hb => by have := (HG.out b hb).2; simpa using this))
      clear hk0 hc32 hcst hfst hDl
      obtain ⟨wo, hwo⟩ : ∃ wo, wo = (wr.setCell ⟨D, 33 + m, none⟩ (.int .i64 q)).drew := ⟨_, rfl⟩
      rw [← hwo] at HD1 HF1' HS1 ⊢
      clear hwo
      have hds : decide ((m : Int) ≤ 15) = true := by simp; omega
      go_wp2_with fail
      go_loopg [34] (n + 1) (fun gk i wr => ∃ (k : Nat) (g : Option Nat) (sv : Value), gk = n + 1 - k ∧ k ≤ n ∧ i = .int .i64 k ∧ DB wr D L (stn L (m + 1)) (lgk L m k) 0 0 sv ∧ NAt wr sv g (sys L (m - 1) ++ syk L m k) ∧ (∀ b, g = some b → w.heap.size ≤ b ∧ b ≠ D) ∧ Fr [] w wr)
      case atStart => exact ⟨0, g, _, rfl, by omega, rfl, by rw [lgk_zero]; exact HD1.out, by rw [syk_zero, List.append_nil]; exact HS1.out, HG.out, HF1'.out⟩
      case round =>
        obtain ⟨k, g, sv, hgk, hk, rfl, hd, hs, hg, hf⟩ := hrel
        have HGK := hide hgk
        have HD := hide hd
        have HS := hide hs
        have HG := hide hg
        have HF := hide hf
        by_cases hlt2 : k < n
        · obtain ⟨ad, rfl, hx⟩ := HC.out k wr hlt2 hf
          have hadb := World.block_lt_of_cell? wr _ hx
          obtain ⟨y, hy⟩ : ∃ y, y = L.getD k 0 := ⟨_, rfl⟩
          have HSY := hide (syk_succ L m k)
          have HLG := hide (lgk_succ (L := L) (n := m) (k := k) (by have := HN.out; omega))
          rw [← hy] at hx HSY HLG
          clear hy
          by_cases he : y = m
          · subst he
            rw [if_pos rfl] at HSY HLG
            obtain ⟨av, cv, hv⟩ := SlAt.shape hs
            obtain ⟨q, hq⟩ : ∃ q, q = (sys L (y - 1) ++ syk L y k).length := ⟨_, rfl⟩
            have hql : (sys L (y - 1) ++ syk L y k).length ≤ 1000000 := by
              have h1 := sys_le L (y - 1)
              have h2 : (y - 1) * L.length ≤ 15 * L.length := Nat.mul_le_mul_right _ (by omega)
              have h3 := List.length_filter_le (fun i => L.getD i 0 == y) (List.range k)
              rw [List.length_range] at h3
              have := HN.out
              rw [List.length_append]
              unfold syk
              omega
            obtain ⟨v', w', g', happ, hs', hf', hg'⟩ := hs.push k hql
            rw [← hq] at hv
            obtain ⟨av2, cv2, hv2⟩ := SlAt.shape hs'
            obtain ⟨q2, hq2⟩ : ∃ q2, q2 = (sys L (y - 1) ++ syk L y k ++ [k]).length := ⟨_, rfl⟩
            rw [← hq2] at hv2
            rw [hv, hv2] at happ
            rw [hv2] at hs'
            have hc32 := hd.gsym
            rw [hv] at hc32
            have hDg : D ∉ g.toList := fun hm => (hg D (by simpa using hm)).2 rfl
            have hd' := hd.fr hf' hDg
            have hc32' := hd'.gsym
            have hf32' := hd'.froz 32
            have hc49' := hd'.glg
            have hf49' := hd'.froz 49
            have hDl := hd.lt
            have hDl' := hd'.lt
            have HD' := hide hd'
            have HS' := hide hs'
            have HF' := hide (HF.out.andThen hf' (fun z hz => .inr (HG.out z (by simpa using hz)).1))
            have HG' : Hid (∀ b, g' = some b → w.heap.size ≤ b ∧ b ≠ D) := by
              show ∀ b, _ → _
              intro b hb
              rcases hg' with h1 | ⟨b3, h1, h2⟩
              · exact HG.out b (h1 ▸ hb)
              · rw [h1] at hb
                injection hb with hb
                have := HF.out.size
                exact ⟨by omega, by omega⟩
            subst hv
            clear hgk hd hs hg hf hf' hg' hs' hd' hDg hq hq2 hv2
            go_wp2_with (at_builtin; refine wpList_append_run rfl _ _ 77 rfl happ rfl rfl ?_)
            go_roundg (n + 1 - (k + 1))
            case measure => have := HGK.out; omega
            case rel =>
              refine ⟨k + 1, g', .slice av2 q2 cv2, rfl, by omega, by go_num, ?_, ?_, HG'.out, (HF'.out.setCell (.inr (by have := HDW.out; simp; omega)) _).setCell (.inr (by have := HDW.out; simp; omega)) _⟩
              · rw [HLG.out]
                exact (HD'.out.setSym _).setLg y
              · rw [HSY.out, ← List.append_assoc]
                exact SlAt.fr HS'.out (((Fr.refl [D] w').setCell (.inl (by simp)) _).setCell (.inl (by simp)) _) (fun b hb => by have := (HG'.out b hb).2; simpa using this)
          · rw [if_neg he] at HSY HLG
            have hne : ((y : Int) == (m : Int)) = false := by simp; omega
            clear hgk hd hs hg hf
            go_wp2_with fail
            go_roundg (n + 1 - (k + 1))
            case measure => have := HGK.out; omega
            case rel =>
              refine ⟨k + 1, g, sv, rfl, by omega, by go_num, ?_, ?_, HG.out, HF.out⟩
              · rw [HLG.out]; exact HD.out
              · rw [HSY.out, List.append_nil]; exact HS.out
        · obtain rfl : k = n := by omega
          clear hgk hd hs hg hf
          go_wp2_with fail
          go_roundg (17 - (m + 1))
          case measure => have := HGM.out; omega
          case rel =>
            obtain ⟨j, hj⟩ : ∃ j, m = j + 1 := ⟨m - 1, by omega⟩
            refine ⟨m + 1, g, sv, rfl, by omega, by omega, by go_num, ?_, ?_, HG.out, HF.out⟩
            · have h1 := HD.out
              rw [HN.out, lgk_all L m (by omega)] at h1
              rw [show m + 1 - 1 = m by omega]
              exact h1
            · have h1 := HS.out
              rw [HN.out] at h1
              rw [show m + 1 - 1 = m by omega]
              subst hj
              rw [show j + 1 - 1 = j by omega] at h1
              exact h1
    · obtain rfl : m = 16 := by omega
      have HDE : Hid (DB wr D L (stt L) (lgs L 15) 0 0 sv) := hide (hd.ext (fun i hi => by unfold stn; rw [if_pos hi]))
      clear hgm hd hs hg hf
      go_wp2
      go_ret2
      exact ⟨D, g, sv, rfl, HDW.out, HDE.out, HS.out, HG.out, HF.out⟩
end Go.Proofs.YthmhcnnigepohaaGreatDoor.Hf

/- Step: in the program. -/
namespace Go.Proofs.YthmhcnnigepohaaGreatDoor.Hf
open Go.RowKit

theorem i64_and1 (n : Int) : bits .and .i64 n 1 = n % 2 := by
  have h1 : (BitVec.ofInt 64 1).toNat = 2 ^ 1 - 1 := by decide
  have key : (BitVec.ofInt 64 n &&& BitVec.ofInt 64 1).toNat = (n % ((2 ^ 64 : Nat) : Int)).toNat % 2 ^ 1 := by
    rw [BitVec.toNat_and, BitVec.toNat_ofInt, h1, Nat.and_two_pow_sub_one_eq_mod]
  show IntKind.i64.wrap ((BitVec.ofInt 64 n &&& BitVec.ofInt 64 1).toNat : Nat) = n % 2
  rw [key, IntKind.wrap_i64]
  omega
theorem i64_or1 (x r : Int) (h0 : 0 ≤ x) (h1 : x < 4611686018427387904) (hr : 0 ≤ r ∧ r ≤ 1) : bits .or .i64 (x * 2) r = x * 2 + r :=
  bits_join .i64 63 (by decide) (fun n h0 h1 => by rw [IntKind.wrap_i64]; omega) 1 (x * 2) r (by omega) (by omega) (by omega) (by omega) (by omega) (by omega)

set_option maxRecDepth 100000 in
set_option maxHeartbeats 4000000 in
theorem step22_hit (D : Nat) (L : List Nat) (c n r : Nat) (g : Option Nat) (sv : Value) (bit : Int) (w : World) (hd : DB w D L (stt L) (lgs L 15) c n sv) (hs : NAt w sv g (sys L 15)) (hg : ∀ b, g = some b → b ≠ D)
    (hL : ∀ x ∈ L, x ≤ 15) (hl : L.length ≤ 1000) (hc : c ≤ 100000) (hn : n ≤ 1000) (hr : (r : Int) = bit % 2) (x : Nat) (hyp : n + 1 ≤ lgs L 15 ∧ fst L (n + 1) ≤ c * 2 + r ∧ c * 2 + r < fst L (n + 1) + cnt L (n + 1) ∧ (syk L (n + 1) L.length)[c * 2 + r - fst L (n + 1)]? = some x) :
    Calls Tryz.prog 140 #[.pointer (some ⟨D, 0, none⟩), .int .i64 bit] w fun e w' => e = .returned (.tuple #[.int .i64 x, .bool true, .int .i64 0]) ∧ DB w' D L (stt L) (lgs L 15) 0 0 sv ∧ Fr [D] w w' := by
  have HD := hide hd
  have HS := hide hs
  have HG := hide hg
  have hlg := lgs_le L 15
  obtain ⟨lg, hlgd⟩ : ∃ lg, lg = lgs L 15 := ⟨_, rfl⟩
  rw [← hlgd] at HD hd hlg
  have HLG := hide hlgd
  have c50 := hd.gc
  have c51 := hd.gn
  have f50 := hd.froz 50
  have f51 := hd.froz 51
  have hDl := hd.lt
  have hb1 : bits .and .i64 bit 1 = (r : Int) := by rw [hr]; exact i64_and1 bit
  have hr2 : r < 2 := by omega
  have hor := i64_or1 (c : Int) (r : Int) (by omega) (by omega) (by omega)
  obtain ⟨c1, hc1⟩ : ∃ x : Nat, x = c * 2 + r := ⟨_, rfl⟩
  have hor2 : bits .or .i64 ((c : Int) * 2) (r : Int) = (c1 : Int) := by rw [hor]; omega
  have HC1 := hide hc1
  have hc1b : c1 ≤ 1000000 := by omega
  have HHY := hide hyp
  clear hor hd hs hg hr hc1 hyp hlgd
  go_enter Tryz.func140, Tryz.ntmps140
  go_upto_region 3 with (fail)
  go_region
  have hn1 : ((n + 1 : Nat) : Int) = (n : Int) + 1 := by omega
  rw [← hn1]
  obtain ⟨w1, hw1⟩ : ∃ w1, w1 = ((w.setCell ⟨D, 50, none⟩ (.int .i64 c1)).setCell ⟨D, 51, none⟩ (.int .i64 ((n + 1 : Nat) : Int))).drew := ⟨_, rfl⟩
  have HD1 : Hid (DB w1 D L (stt L) lg c1 ((n + 1 : Nat) : Int) sv) := hide (by rw [hw1]; exact ((HD.out.setC c1).setN _).keep rfl)
  have HF1 : Hid (Fr [D] w w1) := hide (by rw [hw1]; exact (((Fr.refl [D] w).setCell (.inl (by simp)) _).setCell (.inl (by simp)) _).drew)
  have HS1 : Hid (NAt w1 sv g (sys L 15)) := hide (SlAt.fr HS.out HF1.out (fun b hb => by have := HG.out b hb; simpa using this))
  rw [← hw1]
  clear hw1 c50 c51 f50 f51 hDl hb1 hor2 hn1
  obtain ⟨m, hm⟩ : ∃ m, m = n + 1 := ⟨_, rfl⟩
  rw [← hm] at HD1 HHY ⊢
  have hml : m ≤ 1001 := by omega
  clear hm hn
  have hd := HD1.out
  have c49 := hd.glg
  have c50 := hd.gc
  have c51 := hd.gn
  have f50 := hd.froz 50
  have f51 := hd.froz 51
  have hDl := hd.lt
  obtain ⟨y1, y2, y3, y4⟩ := HHY.out
  rw [← HLG.out] at y1
  have hm1 : 1 ≤ m := by
    refine Nat.pos_of_ne_zero fun h0 => ?_
    subst h0
    simp [cnt] at y3
    omega
  have hmt := hd.gtab (i := m) (by omega)
  have hmf := hd.gtab (i := 16 + m) (by omega)
  have hms := hd.gst (i := m) (by omega)
  have hmc : tg L m = (cnt L m : Int) := by unfold tg; rw [if_pos (by omega)]
  have hmd : tg L (16 + m) = (fst L m : Int) := by unfold tg; rw [if_neg (by omega), show 16 + m - 16 = m by omega]
  rw [hmc] at hmt
  rw [hmd] at hmf
  obtain ⟨kc, hkc⟩ : ∃ x, x = cnt L m := ⟨_, rfl⟩
  obtain ⟨kf, hkf⟩ : ∃ x, x = fst L m := ⟨_, rfl⟩
  rw [← hkc] at hmt
  rw [← hkf] at hmf
  have hkfb : kf ≤ 16384000 := by
    have := fst_le hL m (by omega)
    omega
  have b0 : (0 : Int) ≤ (m : Int) ∧ (m : Int) < 16 := by omega
  have y5 := sys_get hm1 (by omega) y4
  obtain ⟨b, off, cap, hgb, hsv, hbl, hsc⟩ := HS1.out.read y5
  have hsl := (List.getElem?_eq_some_iff.1 y5).1
  have hst : stt L m = ((sys L (m - 1)).length : Int) := by unfold stt; rw [if_neg (by omega)]
  rw [hst] at hms
  obtain ⟨q, hq⟩ : ∃ q, q = (sys L (m - 1)).length := ⟨_, rfl⟩
  obtain ⟨Q, hQ⟩ : ∃ q, q = (sys L 15).length := ⟨_, rfl⟩
  have hqb := sys_le L (m - 1)
  have hqb2 : (m - 1) * L.length ≤ 15 * 1000 := Nat.mul_le_mul (by omega) hl
  have HD1g := hide (HG.out b hgb)
  rw [← hq] at hms hsl hsc hqb
  rw [← hQ] at hsl hsv
  rw [← HC1.out, ← hkf] at y2 y3 y4
  rw [← HC1.out, ← hkf] at hsl hsc
  rw [← hkc] at y3
  have csy := hd.gsym
  rw [hsv] at csy
  have HSV := hide hsv
  have hidx : (q : Int) + (c1 : Int) - (kf : Int) = ((q + (c1 - kf) : Nat) : Int) := by omega
  have hidx2 : (0 : Int) ≤ (q : Int) + (c1 : Int) - (kf : Int) ∧ (q : Int) + (c1 : Int) - (kf : Int) < (Q : Int) := by omega
  have hidn : ((q : Int) + (c1 : Int) - (kf : Int)).toNat = q + (c1 - kf) := by omega
  have g1 : decide (m ≤ lg) = true := by simp; omega
  have g2 : decide ((c1 : Int) - (kf : Int) < (kc : Int)) = true := by simp; omega
  have g3 : decide (kf ≤ c1) = true := by simp; omega
  have z1 : IntKind.i64.wrap ((q : Int) + (c1 : Int)) = (q : Int) + (c1 : Int) := IntWalk.i64_in _ (by omega)
  have z2 : IntKind.i64.wrap ((q : Int) + (c1 : Int) - (kf : Int)) = (q : Int) + (c1 : Int) - (kf : Int) := IntWalk.i64_in _ (by omega)
  have z3 : IntKind.i64.wrap ((c1 : Int) - (kf : Int)) = (c1 : Int) - (kf : Int) := IntWalk.i64_in _ (by omega)
  clear hd y1 y2 y3 y4 y5 hst hq hQ hqb hqb2 hkc hkf hmc hmd hidx hsv hgb
  go_upto_region 5 with (fail)
  go_quiet (fail)
  go_upto_region 6 with (fail)
  go_quiet (fail)
  go_wp2_with fail
  go_ret3
  refine ⟨rfl, ?_, ((HF1.out.drewN _).setCell (.inl (by simp)) _).setCell (.inl (by simp)) _⟩
  rw [← HLG.out]
  exact ((DB.keep (w := w1) HD1.out rfl).setC 0).setN 0
set_option maxRecDepth 100000 in
set_option maxHeartbeats 4000000 in
theorem step22_on (D : Nat) (L : List Nat) (c n r : Nat) (g : Option Nat) (sv : Value) (bit : Int) (w : World) (hd : DB w D L (stt L) (lgs L 15) c n sv) (hs : NAt w sv g (sys L 15)) (hg : ∀ b, g = some b → b ≠ D)
    (hL : ∀ x ∈ L, x ≤ 15) (hl : L.length ≤ 1000) (hc : c ≤ 100000) (hn : n ≤ 1000) (hr : (r : Int) = bit % 2) (hyp : 1 ≤ n + 1 ∧ n + 1 < lgs L 15 ∧ fst L (n + 1) + cnt L (n + 1) ≤ c * 2 + r) :
    Calls Tryz.prog 140 #[.pointer (some ⟨D, 0, none⟩), .int .i64 bit] w fun e w' => e = .returned (.tuple #[.int .i64 0, .bool false, .int .i64 0]) ∧ DB w' D L (stt L) (lgs L 15) ((c * 2 + r : Nat) : Int) ((n + 1 : Nat) : Int) sv ∧ Fr [D] w w' := by
  have HD := hide hd
  have HS := hide hs
  have HG := hide hg
  have hlg := lgs_le L 15
  obtain ⟨lg, hlgd⟩ : ∃ lg, lg = lgs L 15 := ⟨_, rfl⟩
  rw [← hlgd] at HD hd hlg
  have HLG := hide hlgd
  have c50 := hd.gc
  have c51 := hd.gn
  have f50 := hd.froz 50
  have f51 := hd.froz 51
  have hDl := hd.lt
  have hb1 : bits .and .i64 bit 1 = (r : Int) := by rw [hr]; exact i64_and1 bit
  have hr2 : r < 2 := by omega
  have hor := i64_or1 (c : Int) (r : Int) (by omega) (by omega) (by omega)
  obtain ⟨c1, hc1⟩ : ∃ x : Nat, x = c * 2 + r := ⟨_, rfl⟩
  have hor2 : bits .or .i64 ((c : Int) * 2) (r : Int) = (c1 : Int) := by rw [hor]; omega
  have HC1 := hide hc1
  have hc1b : c1 ≤ 1000000 := by omega
  have HHY := hide hyp
  clear hor hd hs hg hr hc1 hyp hlgd
  have HM := hide (show n + 1 = n + 1 from rfl)
  go_enter Tryz.func140, Tryz.ntmps140
  go_upto_region 3 with (fail)
  go_region
  have hn1 : ((n + 1 : Nat) : Int) = (n : Int) + 1 := by omega
  rw [← hn1]
  obtain ⟨w1, hw1⟩ : ∃ w1, w1 = ((w.setCell ⟨D, 50, none⟩ (.int .i64 c1)).setCell ⟨D, 51, none⟩ (.int .i64 ((n + 1 : Nat) : Int))).drew := ⟨_, rfl⟩
  have HD1 : Hid (DB w1 D L (stt L) lg c1 ((n + 1 : Nat) : Int) sv) := hide (by rw [hw1]; exact ((HD.out.setC c1).setN _).keep rfl)
  have HF1 : Hid (Fr [D] w w1) := hide (by rw [hw1]; exact (((Fr.refl [D] w).setCell (.inl (by simp)) _).setCell (.inl (by simp)) _).drew)
  have HS1 : Hid (NAt w1 sv g (sys L 15)) := hide (SlAt.fr HS.out HF1.out (fun b hb => by have := HG.out b hb; simpa using this))
  rw [← hw1]
  clear hw1 c50 c51 f50 f51 hDl hb1 hor2 hn1
  obtain ⟨m, hm⟩ : ∃ m, m = n + 1 := ⟨_, rfl⟩
  rw [← hm] at HD1 HHY ⊢
  have hml : m ≤ 1001 := by omega
  have HMM := hide hm
  clear hm hn
  have hd := HD1.out
  have c49 := hd.glg
  have c50 := hd.gc
  have c51 := hd.gn
  have f50 := hd.froz 50
  have f51 := hd.froz 51
  have hDl := hd.lt
  obtain ⟨hm1, y1, y2⟩ := HHY.out
  rw [← HLG.out] at y1
  have hmt := hd.gtab (i := m) (by omega)
  have hmf := hd.gtab (i := 16 + m) (by omega)
  have hms := hd.gst (i := m) (by omega)
  have hmc : tg L m = (cnt L m : Int) := by unfold tg; rw [if_pos (by omega)]
  have hmd : tg L (16 + m) = (fst L m : Int) := by unfold tg; rw [if_neg (by omega), show 16 + m - 16 = m by omega]
  rw [hmc] at hmt
  rw [hmd] at hmf
  obtain ⟨kc, hkc⟩ : ∃ x, x = cnt L m := ⟨_, rfl⟩
  obtain ⟨kf, hkf⟩ : ∃ x, x = fst L m := ⟨_, rfl⟩
  rw [← hkc] at hmt
  rw [← hkf] at hmf
  have hkfb : kf ≤ 16384000 := by
    have := fst_le hL m (by omega)
    omega
  have b0 : (0 : Int) ≤ (m : Int) ∧ (m : Int) < 16 := by omega
  rw [← HC1.out, ← hkf, ← hkc] at y2
  have g1 : decide (m ≤ lg) = true := by simp; omega
  have g2 : decide ((c1 : Int) - (kf : Int) < (kc : Int)) = false := by simp; omega
  have g4 : decide (m < lg) = true := by simp; omega
  have z3 : IntKind.i64.wrap ((c1 : Int) - (kf : Int)) = (c1 : Int) - (kf : Int) := IntWalk.i64_in _ (by omega)
  clear hd y1 y2 hkc hkf hmc hmd
  go_upto_region 5 with (fail)
  go_quiet (fail)
  go_wp2_with fail
  go_ret3
  refine ⟨rfl, ?_, HF1.out.drewN _⟩
  rw [← HLG.out, show (c : Int) * 2 + (r : Int) = (c1 : Int) by have := HC1.out; omega, show (n : Int) + 1 = ((m : Nat) : Int) by have := HMM.out; omega]
  exact DB.keep (w := w1) HD1.out rfl
set_option maxRecDepth 100000 in
set_option maxHeartbeats 4000000 in
theorem step22_bad1 (D : Nat) (L : List Nat) (c n r : Nat) (g : Option Nat) (sv : Value) (bit : Int) (w : World) (hd : DB w D L (stt L) (lgs L 15) c n sv) (hs : NAt w sv g (sys L 15)) (hg : ∀ b, g = some b → b ≠ D)
    (_hL : ∀ x ∈ L, x ≤ 15) (_hl : L.length ≤ 1000) (hc : c ≤ 100000) (hn : n ≤ 1000) (hr : (r : Int) = bit % 2) (hyp : lgs L 15 < n + 1) :
    Calls Tryz.prog 140 #[.pointer (some ⟨D, 0, none⟩), .int .i64 bit] w fun e w' => e = .returned (.tuple #[.int .i64 0, .bool false, .int .i64 2]) ∧ DB w' D L (stt L) (lgs L 15) 0 0 sv ∧ Fr [D] w w' := by
  have HD := hide hd
  have HS := hide hs
  have HG := hide hg
  have hlg := lgs_le L 15
  obtain ⟨lg, hlgd⟩ : ∃ lg, lg = lgs L 15 := ⟨_, rfl⟩
  rw [← hlgd] at HD hd hlg
  have HLG := hide hlgd
  have c50 := hd.gc
  have c51 := hd.gn
  have f50 := hd.froz 50
  have f51 := hd.froz 51
  have hDl := hd.lt
  have hb1 : bits .and .i64 bit 1 = (r : Int) := by rw [hr]; exact i64_and1 bit
  have hr2 : r < 2 := by omega
  have hor := i64_or1 (c : Int) (r : Int) (by omega) (by omega) (by omega)
  obtain ⟨c1, hc1⟩ : ∃ x : Nat, x = c * 2 + r := ⟨_, rfl⟩
  have hor2 : bits .or .i64 ((c : Int) * 2) (r : Int) = (c1 : Int) := by rw [hor]; omega
  have HC1 := hide hc1
  have hc1b : c1 ≤ 1000000 := by omega
  have HHY := hide hyp
  clear hor hd hs hg hr hc1 hyp hlgd
  go_enter Tryz.func140, Tryz.ntmps140
  go_upto_region 3 with (fail)
  go_region
  have hn1 : ((n + 1 : Nat) : Int) = (n : Int) + 1 := by omega
  rw [← hn1]
  obtain ⟨w1, hw1⟩ : ∃ w1, w1 = ((w.setCell ⟨D, 50, none⟩ (.int .i64 c1)).setCell ⟨D, 51, none⟩ (.int .i64 ((n + 1 : Nat) : Int))).drew := ⟨_, rfl⟩
  have HD1 : Hid (DB w1 D L (stt L) lg c1 ((n + 1 : Nat) : Int) sv) := hide (by rw [hw1]; exact ((HD.out.setC c1).setN _).keep rfl)
  have HF1 : Hid (Fr [D] w w1) := hide (by rw [hw1]; exact (((Fr.refl [D] w).setCell (.inl (by simp)) _).setCell (.inl (by simp)) _).drew)
  have HS1 : Hid (NAt w1 sv g (sys L 15)) := hide (SlAt.fr HS.out HF1.out (fun b hb => by have := HG.out b hb; simpa using this))
  rw [← hw1]
  clear hw1 c50 c51 f50 f51 hDl hb1 hor2 hn1
  obtain ⟨m, hm⟩ : ∃ m, m = n + 1 := ⟨_, rfl⟩
  rw [← hm] at HD1 HHY ⊢
  have hml : m ≤ 1001 := by omega
  clear hm hn
  have hd := HD1.out
  have c49 := hd.glg
  have c50 := hd.gc
  have c51 := hd.gn
  have f50 := hd.froz 50
  have f51 := hd.froz 51
  have hDl := hd.lt
  have y1 := HHY.out
  rw [← HLG.out] at y1
  have g1 : decide (m ≤ lg) = false := by simp; omega
  have g4 : decide (m < lg) = false := by simp; omega
  clear hd y1
  go_upto_region 5 with (fail)
  go_quiet (fail)
  go_wp2_with fail
  go_ret3
  refine ⟨rfl, ?_, ((HF1.out.drewN _).setCell (.inl (by simp)) _).setCell (.inl (by simp)) _⟩
  rw [← HLG.out]
  exact ((DB.keep (w := w1) HD1.out rfl).setC 0).setN 0
set_option maxRecDepth 100000 in
set_option maxHeartbeats 4000000 in
theorem step22_bad2 (D : Nat) (L : List Nat) (c n r : Nat) (g : Option Nat) (sv : Value) (bit : Int) (w : World) (hd : DB w D L (stt L) (lgs L 15) c n sv) (hs : NAt w sv g (sys L 15)) (hg : ∀ b, g = some b → b ≠ D)
    (hL : ∀ x ∈ L, x ≤ 15) (hl : L.length ≤ 1000) (hc : c ≤ 100000) (hn : n ≤ 1000) (hr : (r : Int) = bit % 2) (hyp : lgs L 15 = n + 1 ∧ fst L (n + 1) + cnt L (n + 1) ≤ c * 2 + r) :
    Calls Tryz.prog 140 #[.pointer (some ⟨D, 0, none⟩), .int .i64 bit] w fun e w' => e = .returned (.tuple #[.int .i64 0, .bool false, .int .i64 2]) ∧ DB w' D L (stt L) (lgs L 15) 0 0 sv ∧ Fr [D] w w' := by
  have HD := hide hd
  have HS := hide hs
  have HG := hide hg
  have hlg := lgs_le L 15
  obtain ⟨lg, hlgd⟩ : ∃ lg, lg = lgs L 15 := ⟨_, rfl⟩
  rw [← hlgd] at HD hd hlg
  have HLG := hide hlgd
  have c50 := hd.gc
  have c51 := hd.gn
  have f50 := hd.froz 50
  have f51 := hd.froz 51
  have hDl := hd.lt
  have hb1 : bits .and .i64 bit 1 = (r : Int) := by rw [hr]; exact i64_and1 bit
  have hr2 : r < 2 := by omega
  have hor := i64_or1 (c : Int) (r : Int) (by omega) (by omega) (by omega)
  obtain ⟨c1, hc1⟩ : ∃ x : Nat, x = c * 2 + r := ⟨_, rfl⟩
  have hor2 : bits .or .i64 ((c : Int) * 2) (r : Int) = (c1 : Int) := by rw [hor]; omega
  have HC1 := hide hc1
  have hc1b : c1 ≤ 1000000 := by omega
  have HHY := hide hyp
  clear hor hd hs hg hr hc1 hyp hlgd
  have HM := hide (show n + 1 = n + 1 from rfl)
  go_enter Tryz.func140, Tryz.ntmps140
  go_upto_region 3 with (fail)
  go_region
  have hn1 : ((n + 1 : Nat) : Int) = (n : Int) + 1 := by omega
  rw [← hn1]
  obtain ⟨w1, hw1⟩ : ∃ w1, w1 = ((w.setCell ⟨D, 50, none⟩ (.int .i64 c1)).setCell ⟨D, 51, none⟩ (.int .i64 ((n + 1 : Nat) : Int))).drew := ⟨_, rfl⟩
  have HD1 : Hid (DB w1 D L (stt L) lg c1 ((n + 1 : Nat) : Int) sv) := hide (by rw [hw1]; exact ((HD.out.setC c1).setN _).keep rfl)
  have HF1 : Hid (Fr [D] w w1) := hide (by rw [hw1]; exact (((Fr.refl [D] w).setCell (.inl (by simp)) _).setCell (.inl (by simp)) _).drew)
  have HS1 : Hid (NAt w1 sv g (sys L 15)) := hide (SlAt.fr HS.out HF1.out (fun b hb => by have := HG.out b hb; simpa using this))
  rw [← hw1]
  clear hw1 c50 c51 f50 f51 hDl hb1 hor2 hn1
  obtain ⟨m, hm⟩ : ∃ m, m = n + 1 := ⟨_, rfl⟩
  rw [← hm] at HD1 HHY ⊢
  have hml : m ≤ 1001 := by omega
  have HMM := hide hm
  clear hm hn
  have hd := HD1.out
  have c49 := hd.glg
  have c50 := hd.gc
  have c51 := hd.gn
  have f50 := hd.froz 50
  have f51 := hd.froz 51
  have hDl := hd.lt
  obtain ⟨y1, y2⟩ := HHY.out
  rw [← HLG.out] at y1
  have hmt := hd.gtab (i := m) (by omega)
  have hmf := hd.gtab (i := 16 + m) (by omega)
  have hms := hd.gst (i := m) (by omega)
  have hmc : tg L m = (cnt L m : Int) := by unfold tg; rw [if_pos (by omega)]
  have hmd : tg L (16 + m) = (fst L m : Int) := by unfold tg; rw [if_neg (by omega), show 16 + m - 16 = m by omega]
  rw [hmc] at hmt
  rw [hmd] at hmf
  obtain ⟨kc, hkc⟩ : ∃ x, x = cnt L m := ⟨_, rfl⟩
  obtain ⟨kf, hkf⟩ : ∃ x, x = fst L m := ⟨_, rfl⟩
  rw [← hkc] at hmt
  rw [← hkf] at hmf
  have hkfb : kf ≤ 16384000 := by
    have := fst_le hL m (by omega)
    omega
  have b0 : (0 : Int) ≤ (m : Int) ∧ (m : Int) < 16 := by omega
  rw [← HC1.out, ← hkf, ← hkc] at y2
  have g1 : decide (m ≤ lg) = true := by simp; omega
  have g2 : decide ((c1 : Int) - (kf : Int) < (kc : Int)) = false := by simp; omega
  have g4 : decide (m < lg) = false := by simp; omega
  have z3 : IntKind.i64.wrap ((c1 : Int) - (kf : Int)) = (c1 : Int) - (kf : Int) := IntWalk.i64_in _ (by omega)
  clear hd y1 y2 hkc hkf hmc hmd
  go_upto_region 5 with (fail)
  go_quiet (fail)
  go_wp2_with fail
  go_ret3
  refine ⟨rfl, ?_, ((HF1.out.drewN _).setCell (.inl (by simp)) _).setCell (.inl (by simp)) _⟩
  rw [← HLG.out]
  exact ((DB.keep (w := w1) HD1.out rfl).setC 0).setN 0
end Go.Proofs.YthmhcnnigepohaaGreatDoor.Hf

/- What Check's OK says, and a step of decoding: no program in sight. -/
namespace Go.Proofs.YthmhcnnigepohaaGreatDoor.Hf

theorem kr_snoc (A : List Nat) (x : Nat) : kr (A ++ [x]) = kr A + if x = 0 then 0 else 2 ^ (15 - x) := by simp [kr]
theorem ks_kr (L : List Nat) (hL : ∀ x ∈ L, x ≤ 15) : ∀ k, k ≤ L.length → ks (zI L) k = (kr (L.take k) : Int)
  | 0, _ => by simp [ks, kr]
  | k + 1, h => by
    have ih := ks_kr L hL k (by omega)
    rw [ks, ih, take_get (by omega), kr_snoc, zI_get]
    obtain ⟨y, hy⟩ : ∃ y, y = L.getD k 0 := ⟨_, rfl⟩
    have hy15 : y ≤ 15 := by
      have e : L.getD k 0 = L[k] := by simp [List.getD, List.getElem?_eq_getElem (show k < L.length by omega)]
      rw [hy, e]; exact hL _ (List.getElem_mem _)
    rw [← hy]
    by_cases h0 : y = 0
    · subst h0; simp
    · rw [if_pos (by omega), if_neg h0, show (15 - (y : Int)).toNat = 15 - y by omega]
      simp
theorem ks_all (L : List Nat) (hL : ∀ x ∈ L, x ≤ 15) : ks (zI L) (zI L).length = (kr L : Int) := by
  rw [zI_len, ks_kr L hL _ (Nat.le_refl _), List.take_length]
theorem us_zero (l : List Int) : ∀ k, us l k = 0 → ∀ i, i < k → ¬ 0 < l.getD i 0
  | 0, _, i, hi => by omega
  | k + 1, h, i, hi => by
    have hb := us_bd l k
    rw [us] at h
    by_cases h0 : 0 < l.getD k 0
    · rw [if_pos h0] at h; omega
    · rw [if_neg h0] at h
      by_cases hik : i = k
      · subst hik; exact h0
      · exact us_zero l k (by omega) i (by omega)
theorem ms_ge (l : List Int) : ∀ k i, i < k → 0 < l.getD i 0 → l.getD i 0 ≤ ms l k
  | 0, i, hi, _ => by omega
  | k + 1, i, hi, h0 => by
    rw [ms]
    by_cases hik : i = k
    · subst hik
      rw [if_pos h0]; omega
    · have := ms_ge l k i (by omega) h0
      split <;> omega
theorem us_count (L : List Nat) : ∀ k, k ≤ L.length → ((L.take k).count 1 : Int) ≤ us (zI L) k
  | 0, _ => by simp [us]
  | k + 1, h => by
    have ih := us_count L k (by omega)
    rw [us, take_get (by omega), List.count_append, List.count_singleton, zI_get]
    obtain ⟨y, hy⟩ : ∃ y, y = L.getD k 0 := ⟨_, rfl⟩
    rw [← hy]
    by_cases h1 : y = 1
    · subst h1; simp; omega
    · have h2 : ¬ (y == 1) = true := by simpa using h1
      rw [if_neg h2]
      split <;> simp <;> omega

/-- Complete, or none used, or one with the length 1. -/
def Good (L : List Nat) : Prop := kr L = 2 ^ 15 ∨ ((∀ i, i < L.length → L.getD i 0 ≤ 1) ∧ L.count 1 ≤ 1)
theorem chk_good {l : List Int} (h : chk l = 0) : ∃ L : List Nat, l = zI L ∧ (∀ x ∈ L, x ≤ 15) ∧ L.length ≤ 320 ∧ Good L := by
  obtain ⟨L, rfl, hL, hlen, hk⟩ := chk_ok (.inl h)
  refine ⟨L, rfl, hL, hlen, ?_⟩
  unfold chk at h
  rw [if_neg (by rw [zI_len]; omega)] at h
  cases hb : bad (zI L) with
  | true => rw [hb] at h; simp at h
  | false =>
    rw [hb] at h
    simp only [Bool.false_eq_true, if_false] at h
    rw [if_neg (by omega)] at h
    by_cases hc : ks (zI L) (zI L).length = 32768 ∨ us (zI L) (zI L).length = 0 ∨ us (zI L) (zI L).length = 1 ∧ ks (zI L) (zI L).length = 16384
    · rcases hc with hc | hc | ⟨hc, hc2⟩
      · left
        rw [ks_all L hL] at hc
        omega
      · right
        have hz := us_zero (zI L) _ hc
        rw [zI_len] at hz
        refine ⟨fun i hi => ?_, ?_⟩
        · have := hz i hi
          rw [zI_get] at this
          omega
        · have h1 := us_count L L.length (Nat.le_refl _)
          rw [List.take_length] at h1
          rw [zI_len] at hc
          omega
      · right
        have hv := bad_false hb
        obtain ⟨_, i2⟩ := one_used (zI L) _ hv
        obtain ⟨e1, e2⟩ := i2 hc
        have hmb := ms_bd (zI L) _ (fun i hi => (hv i hi).2)
        have hm1 : ms (zI L) (zI L).length = 1 := by
          refine Classical.byContradiction fun hne => ?_
          have h3 : (15 - ms (zI L) (zI L).length).toNat ≤ 13 := by omega
          have h4 := Nat.pow_le_pow_right (n := 2) (by omega) h3
          have e : ((2 ^ (15 - ms (zI L) (zI L).length).toNat : Nat) : Int) = (2 : Int) ^ (15 - ms (zI L) (zI L).length).toNat := by simp
          omega
        refine ⟨fun i hi => ?_, ?_⟩
        · have h3 := ms_ge (zI L) (zI L).length i (by rw [zI_len]; exact hi)
          rw [zI_get, hm1] at h3
          omega
        · have h1 := us_count L L.length (Nat.le_refl _)
          rw [List.take_length] at h1
          rw [zI_len] at hc
          omega
    · rw [if_neg hc] at h; omega

end Go.Proofs.YthmhcnnigepohaaGreatDoor.Hf

/- One decoder's rounds, as Prefix walks them. -/
namespace Go.Proofs.YthmhcnnigepohaaGreatDoor.Hf
open Go.RowKit

theorem us_le (L : List Nat) : ∀ k, k ≤ L.length → (∀ i, i < k → L.getD i 0 ≤ 1) → us (zI L) k ≤ ((L.take k).count 1 : Int)
  | 0, _, _ => by simp [us]
  | k + 1, h, h1 => by
    have ih := us_le L k (by omega) (fun i hi => h1 i (by omega))
    have h2 := h1 k (by omega)
    rw [us, take_get (by omega), List.count_append, List.count_singleton, zI_get]
    obtain ⟨y, hy⟩ : ∃ y, y = L.getD k 0 := ⟨_, rfl⟩
    rw [← hy] at h2 ⊢
    rcases Nat.le_one_iff_eq_zero_or_eq_one.1 h2 with rfl | rfl
    · simp; exact ih
    · simp; exact ih
/-- A code with two symbols or more is complete. -/
theorem full {L : List Nat} (hg : Good L) (h : 1 < us (zI L) L.length) : kr L = 2 ^ 15 := by
  rcases hg with hk | ⟨h1, h2⟩
  · exact hk
  · have h3 := us_le L L.length (Nat.le_refl _) h1
    rw [List.take_length] at h3
    omega

/-- A decoder in a state. -/
structure One (w0 : World) (L : List Nat) (D : Nat) (g : Option Nat) (sv : Value) (n c : Nat) (w : World) : Prop where
  db : DB w D L (stt L) (lgs L 15) c n sv
  na : NAt w sv g (sys L 15)
  fr : Fr [] w0 w
/-- What is so in all rounds. -/
structure Sure (w0 : World) (L : List Nat) (D : Nat) (g : Option Nat) : Prop where
  hD : w0.heap.size ≤ D
  gD : ∀ b, g = some b → b ≠ D
  hL : ∀ x ∈ L, x ≤ 15
  len : L.length ≤ 320
  good : Good L
  kr : kr L ≤ 2 ^ 15
variable {w0 w w' : World} {L : List Nat} {D : Nat} {g : Option Nat} {sv : Value} {n c n' c' : Nat}
theorem One.step (h : One w0 L D g sv n c w) (k : Sure w0 L D g) (hd : DB w' D L (stt L) (lgs L 15) c' n' sv) (hf : Fr [D] w w') : One w0 L D g sv n' c' w' :=
  ⟨hd, SlAt.fr h.na hf (fun b hb => by simpa using k.gD b hb), h.fr.andThen hf (fun x hx => .inr (by simp at hx; rw [hx]; exact k.hD))⟩
theorem halve (x t : Nat) : x / 2 ^ (t + 1) * 2 + x / 2 ^ t % 2 = x / 2 ^ t := by
  rw [Nat.pow_succ, ← Nat.div_div_eq_div_mul]
  omega
theorem code_bd {s : Nat} (k : Sure w0 L D g) (hs : s < L.length) (h0 : 0 < L.getD s 0) : code L s < 32768 ∧ L.getD s 0 ≤ 15 := by
  have h1 := code_fits k.hL k.kr hs h0
  have h2 : L.getD s 0 ≤ 15 := by
    have e : L.getD s 0 = L[s] := by simp [List.getD, List.getElem?_eq_getElem hs]
    rw [e]; exact k.hL _ (List.getElem_mem _)
  have h3 := Nat.pow_le_pow_right (n := 2) (by omega) h2
  omega
/-- The last bit of a symbol's code. -/
theorem One.last (h : One w0 L D g sv n c w) (k : Sure w0 L D g) {s : Nat} (hs : s < L.length) (hy : L.getD s 0 = n + 1) (hc : c = code L s / 2 ^ (0 + 1)) (bit : Int) (hb : bit = ((code L s : Nat) : Int)) :
    Calls Tryz.prog 140 #[.pointer (some ⟨D, 0, none⟩), .int .i64 bit] w (fun e w' => e = .returned (.tuple #[.int .i64 s, .bool true, .int .i64 0]) ∧ DB w' D L (stt L) (lgs L 15) ((0 : Nat) : Int) ((0 : Nat) : Int) sv ∧ Fr [D] w w') := by
  obtain ⟨hcb, hyb⟩ := code_bd k hs (by omega)
  have hh := halve (code L s) 0
  rw [Nat.pow_zero, Nat.div_one, ← hc] at hh
  have hlen := k.len
  obtain ⟨a1, a2, _⟩ := code_in k.hL hs (by omega)
  rw [hy] at a1 a2 hyb
  have hcn : cnt L (n + 1) ≠ 0 := by omega
  have hsy := syk_get hs hy L.length hs (Nat.le_refl _)
  have hcd : code L s = fst L (n + 1) + pre L (n + 1) s := by unfold code; rw [hy, if_neg (by omega)]
  refine step22_hit D L c n (code L s % 2) g sv bit w h.db h.na k.gD k.hL (by omega) (by omega) (by omega) (by rw [hb]; omega) s ?_
  rw [hh]
  exact ⟨lgs_ge 15 hyb hcn, a1, a2, by rw [hcd, Nat.add_sub_cancel_left]; exact hsy⟩
/-- A bit before the last one. -/
theorem One.more (h : One w0 L D g sv n c w) (k : Sure w0 L D g) {s t : Nat} (hs : s < L.length) (ht : 0 < t) (hy : L.getD s 0 = n + 1 + t) (hc : c = code L s / 2 ^ (t + 1)) (bit : Int) (hb : bit = ((code L s / 2 ^ t : Nat) : Int)) :
    Calls Tryz.prog 140 #[.pointer (some ⟨D, 0, none⟩), .int .i64 bit] w (fun e w' => e = .returned (.tuple #[.int .i64 0, .bool false, .int .i64 0]) ∧ DB w' D L (stt L) (lgs L 15) ((code L s / 2 ^ t : Nat) : Int) ((n + 1 : Nat) : Int) sv ∧ Fr [D] w w') := by
  obtain ⟨hcb, hyb⟩ := code_bd k hs (by omega)
  have hh := halve (code L s) t
  rw [← hc] at hh
  have hlen := k.len
  have hcn : cnt L (L.getD s 0) ≠ 0 := by
    have := code_in k.hL hs (by omega)
    omega
  have hlg := lgs_ge 15 hyb hcn
  have how := on_way k.hL hs (n := n + 1) (by omega)
  rw [show L.getD s 0 - (n + 1) = t by omega] at how
  have hcb2 : c ≤ code L s := by rw [hc]; exact Nat.div_le_self _ _
  have hstep := step22_on D L c n (code L s / 2 ^ t % 2) g sv bit w h.db h.na k.gD k.hL (by omega) (by omega) (by omega) (by rw [hb]; omega) (by
    rw [hh]
    exact ⟨by omega, by omega, how⟩)
  rw [hh] at hstep
  exact hstep

end Go.Proofs.YthmhcnnigepohaaGreatDoor.Hf

/- Packages as cells; insert. -/
namespace Go.Proofs.YthmhcnnigepohaaGreatDoor.Hf
open Go.RowKit

/-- A package's two cells: its weight, and the slice of its symbols. -/
structure Rw where
  w : Int
  a : Option Addr
  n : Nat
  c : Nat
def Rw.cs (x : Rw) : List Value := [.int .i64 x.w, .slice x.a x.n x.c]
def rcs (l : List Rw) : List Value := l.flatMap Rw.cs
theorem rcs_len : ∀ l : List Rw, (rcs l).length = l.length * 2
  | [] => rfl
  | x :: l => by
    have ih := rcs_len l
    unfold rcs at ih ⊢
    rw [List.flatMap_cons, List.length_append, ih, List.length_cons]
    simp [Rw.cs]; omega
theorem rcs_append (a b : List Rw) : rcs (a ++ b) = rcs a ++ rcs b := by simp [rcs]
theorem rcs_get : ∀ (l : List Rw) (i : Nat) (x : Rw), l[i]? = some x → (rcs l)[i * 2]? = some (.int .i64 x.w) ∧ (rcs l)[i * 2 + 1]? = some (.slice x.a x.n x.c)
  | [], i, x, h => by simp at h
  | y :: l, 0, x, h => by
    simp only [List.getElem?_cons_zero, Option.some.injEq] at h
    subst h
    exact ⟨rfl, rfl⟩
  | y :: l, i + 1, x, h => by
    have ih := rcs_get l i x (by simpa using h)
    unfold rcs at ih ⊢
    rw [List.flatMap_cons, List.getElem?_append_right (by simp [Rw.cs]; omega), List.getElem?_append_right (by simp [Rw.cs]; omega)]
    have e1 : (i + 1) * 2 - y.cs.length = i * 2 := by simp [Rw.cs]; omega
    have e2 : (i + 1) * 2 + 1 - y.cs.length = i * 2 + 1 := by simp [Rw.cs]; omega
    rw [e1, e2]
    exact ih
theorem rcs_one (l : List Rw) : ∀ v ∈ rcs l, v.oneCell' = true := by
  intro v hv
  obtain ⟨x, _, hx⟩ := List.mem_flatMap.1 hv
  simp only [Rw.cs, List.mem_cons, List.not_mem_nil, or_false] at hx
  rcases hx with rfl | rfl <;> rfl

theorem elem51 : ElemOk Tryz.prog 118 120 2 32 := ⟨Tryz.underlying118, by
  have h : (Tryz.prog.info? 120).map (fun i => (i.zero.map (fun z => z.cells.size), i.size, i.bytes)) = some (some 2, 2, 32) := by kernel_rfl
  cases hq : Tryz.prog.info? 120 with
  | none => rw [hq] at h; cases h
  | some i =>
    rw [hq] at h
    simp only [Option.map_some, Option.some.injEq, Prod.mk.injEq] at h
    obtain ⟨h1, h2, h3⟩ := h
    cases hz : i.zero with
    | none => rw [hz] at h1; cases h1
    | some z =>
      rw [hz] at h1
      simp only [Option.map_some, Option.some.injEq] at h1
      exact ⟨i, z, rfl, hz, h2, h3, h1⟩, by decide⟩

/-- A slice of packages that the run owns. -/
def PAt (w : World) (v : Value) (g : Option Nat) (l : List Rw) : Prop := SlAt 120 2 w v g l.length (rcs l)
theorem PAt.push {w : World} {v : Value} {g : Option Nat} {l : List Rw} (h : PAt w v g l) (x : Rw) (hl : l.length ≤ 1000000) :
    ∃ v' w' g', (Builtin.append_ #[118, 118] 118 #[v, .slice (some ⟨w.heap.size, 0, none⟩) 1 1]).run Tryz.prog (w.alloc (.cells #[.int .i64 x.w, .slice x.a x.n x.c] 120)) = .ok v' w' ∧ PAt w' v' g' (l ++ [x]) ∧ Fr g.toList w w' ∧ (g' = g ∨ ∃ b, g' = some b ∧ w.heap.size ≤ b) := by
  have hk : PAt (w.alloc (.cells #[.int .i64 x.w, .slice x.a x.n x.c] 120)) v g l := SlAt.keep h (fun b hb => heap_alloc_lt (by obtain ⟨cur, hc⟩ := SlAt.lt h b hb; exact lt_of_blk hc))
  obtain ⟨v', w', g', happ, hsl', hfr', hg'⟩ := SlAt.append elem51 hk 118 ⟨w.heap.size, 0, none⟩ 1 1 x.cs (by omega) (by simp [Rw.cs]) (fun j u hj => by
    rw [Addr.add_lit, cell_blk (heap_alloc_eq rfl), Nat.zero_add]
    simpa [Rw.cs] using hj) (by simp [Rw.cs, Value.oneCell']) (by omega) (by unfold maxLen; omega)
  refine ⟨v', w', g', happ, ?_, ((Fr.refl _ w).alloc _).andThen hfr' (fun x hx => .inl hx), ?_⟩
  · unfold PAt
    rw [List.length_append, rcs_append]
    have : rcs [x] = x.cs := by simp [rcs]
    rw [this]
    exact hsl'
  · rcases hg' with h1 | ⟨h1, _⟩
    · exact .inl h1
    · exact .inr ⟨_, h1, by simp⟩
/-- What an element's cells hold. -/
theorem PAt.get {w : World} {v : Value} {g : Option Nat} {l : List Rw} (h : PAt w v g l) {i : Nat} {x : Rw} (hx : l[i]? = some x) :
    ∃ b off cap, g = some b ∧ v = .slice (some ⟨b, off, none⟩) l.length cap ∧ b < w.heap.size ∧ w.cell? ⟨b, off + i * 2, none⟩ = some (.int .i64 x.w) ∧ w.cell? ⟨b, off + i * 2 + 1, none⟩ = some (.slice x.a x.n x.c) ∧ ∀ j, w.frozen? ⟨b, j, none⟩ = false := by
  rcases h with ⟨_, _, h1, _⟩ | ⟨b, off, cap, cur, hg, hv, hblk, hnc, hfit, hxs, hcells⟩
  · have := (List.getElem?_eq_some_iff.1 hx).1
    omega
  · obtain ⟨r1, r2⟩ := rcs_get l i x hx
    refine ⟨b, off, cap, hg, hv, lt_of_blk hblk, ?_, ?_, fun j => froz_blk hblk j⟩
    · rw [cell_blk hblk]; exact hcells _ _ r1
    · rw [cell_blk hblk, Nat.add_assoc]; exact hcells _ _ r2

theorem weight31_any (x : Rw) (w : World) : Calls Tryz.prog 69 #[.agg #[.int .i64 x.w, .slice x.a x.n x.c]] w fun e w' => e = .returned (.int .i64 x.w) ∧ w.alloc (.cells #[.int .i64 x.w, .slice x.a x.n x.c] 120) = w' := by
  go_enter Tryz.func69, Tryz.ntmps69
  go_wp2
  go_ret
  exact ⟨rfl, rfl⟩

theorem run_copy_sz {P : Program} (w : World) (t ty elem : TypeId) (size : Nat) (g o dLen dCap : Nat) (a : Addr) (sLen sCap : Nat) (cur : Array Value) (e : TypeId) (cs : List Value) (m : Nat)
    (hu : P.underlying t = some (.slice elem)) (hs : (P.info? elem).map (·.size) = some size)
    (hg : w.heap[g]? = some (.cells cur e (0, 0))) (hm : m = Nat.min sLen dLen) (hn : cs.length = m * size)
    (hsrc : ∀ j v, cs[j]? = some v → w.cell? (a.add j) = some v) (hfit : o + cs.length ≤ cur.size) (h1 : ∀ v ∈ cs, v.oneCell' = true) :
    (Builtin.copy_ #[t, t] ty #[.slice (some ⟨g, o, none⟩) dLen dCap, .slice (some a) sLen sCap]).run P w =
      .ok (goInt m) (w.setRow g (cur.toList.take o ++ cs ++ cur.toList.drop (o + cs.length)).toArray) := by
  have hl := run_loadCells_list (P := P) w a cs hsrc
  have hst := run_storeCells_at P g o e cs 0 cur w hg (by simpa using hfit) h1
  cases hq : P.info? elem with
  | none => simp [hq] at hs
  | some i =>
    have hi : i.size = size := by simpa [hq] using hs
    have hm2 : sLen.min dLen = m := hm.symm
    simp [Builtin.copy_, run_underlying hu, Builtin.lenOf, Builtin.firstCells, sizeOf, typeInfo, hq, hi, hm2, ← hn, hl, hst]
theorem run_copy_none {P : Program} (w : World) (t ty elem : TypeId) (i : TypeInfo) (dp sp : Option Addr) (dCap sLen sCap : Nat)
    (hu : P.underlying t = some (.slice elem)) (hs : P.info? elem = some i) :
    (Builtin.copy_ #[t, t] ty #[.slice dp 0 dCap, .slice sp sLen sCap]).run P w = .ok (goInt 0) w := by
  cases dp <;> cases sp <;> simp [Builtin.copy_, run_underlying hu, Builtin.lenOf, Builtin.firstCells, sizeOf, typeInfo, hs, storeCells, loadCells, loadCellsFrom]

theorem step_copy_run {P : Program} {ops : Array Oper} {o : Oper} {a : Act} {w : World} {K : Act → World → Prop} {Q : Exit → Act → World → Prop} {E : Prop} (hg : o.guard = none) (s x : Operand) (t : TypeId)
    (ho : o.op = .call { callee := .builtin .copy, args := #[s, x], argTypes := #[t, t] }) {v y v' : Value} {w' : World} (hrun : (Builtin.copy_ #[t, t] o.type #[v, y]).run P w = .ok v' w')
    (hs : a.eval s = v) (hx : a.eval x = y) (h : K (a.put o.dst v') w') : if Region.wanted o (yielded ops a.tmps) = true then Oper.wp P o a w K Q else E := by
  have hw : Region.wanted o (yielded ops a.tmps) = true := by simp [Region.wanted, hg]
  rw [if_pos hw]
  unfold Oper.wp execOp
  simp only [ho, resolve, invoke, builtin, Sem.run_bind, Sem.run_pure, Result.andThen_ok, List.map_toArray, List.map_cons, List.map_nil, hs, hx, hrun]
  exact h
theorem step_append_run {P : Program} {ops : Array Oper} {o : Oper} {a : Act} {w : World} {K : Act → World → Prop} {Q : Exit → Act → World → Prop} {E : Prop} (hg : o.guard = none) (s x : Operand) (t : TypeId)
    (ho : o.op = .call { callee := .builtin .append, args := #[s, x], argTypes := #[t, t] }) {v y v' : Value} {w' : World} (hrun : (Builtin.append_ #[t, t] o.type #[v, y]).run P w = .ok v' w')
    (hs : a.eval s = v) (hx : a.eval x = y) (h : K (a.put o.dst v') w') : if Region.wanted o (yielded ops a.tmps) = true then Oper.wp P o a w K Q else E := by
  have hw : Region.wanted o (yielded ops a.tmps) = true := by simp [Region.wanted, hg]
  rw [if_pos hw]
  unfold Oper.wp execOp
  simp only [ho, resolve, invoke, builtin, Sem.run_bind, Sem.run_pure, Result.andThen_ok, List.map_toArray, List.map_cons, List.map_nil, hs, hx, hrun]
  exact h
end Go.Proofs.YthmhcnnigepohaaGreatDoor.Hf
