/- Decoders: what they hold. -/
import Derived.Test.YthmhcnnigepohaaRcodes
import Derived.Deep.RegionLaw
import Derived.Deep.RegionHeld3
import Derived.Deep.DrawnRows
namespace Go.Proofs.Ythmhcnnigepohaa
open Go.RowKit

/-- The symbols of length n among the first k. -/
def syk (L : List Nat) (n k : Nat) : List Nat := (List.range k).filter (fun i => L.getD i 0 == n)
def sys (L : List Nat) : Nat → List Nat
  | 0 => []
  | n + 1 => sys L n ++ syk L (n + 1) L.length
theorem syk_zero (L : List Nat) (n : Nat) : syk L n 0 = [] := rfl
theorem syk_succ (L : List Nat) (n k : Nat) : syk L n (k + 1) = syk L n k ++ if L.getD k 0 = n then [k] else [] := by
  unfold syk
  rw [List.range_succ, List.filter_append]
  simp [List.filter_cons]
theorem syk_len (L : List Nat) (n : Nat) : ∀ k, k ≤ L.length → (syk L n k).length = pre L n k
  | 0, _ => by simp [syk, pre]
  | k + 1, h => by
    rw [syk_succ, List.length_append, syk_len L n k (by omega)]
    unfold pre
    rw [take_get (by omega), List.count_append, List.count_singleton]
    by_cases hk : L.getD k 0 = n
    · rw [if_pos hk, if_pos (by simpa using hk)]; rfl
    · have h2 : ¬ (L.getD k 0 == n) = true := by simpa using hk
      rw [if_neg hk, if_neg h2]; simp
theorem syk_all (L : List Nat) (n : Nat) (hn : 0 < n) : (syk L n L.length).length = cnt L n := by
  rw [syk_len L n _ (Nat.le_refl _)]
  unfold pre cnt
  rw [List.take_length, if_neg (by omega)]
/-- The j-th symbol of length n. -/
theorem syk_get {L : List Nat} {n i : Nat} (hi : i < L.length) (h : L.getD i 0 = n) : ∀ k, i < k → k ≤ L.length → (syk L n k)[pre L n i]? = some i
  | 0, h1, _ => by omega
  | k + 1, h1, h2 => by
    rw [syk_succ]
    by_cases hik : i = k
    · subst hik
      rw [if_pos h, List.getElem?_append_right (by rw [syk_len L n i (by omega)]; exact Nat.le_refl _), syk_len L n i (by omega)]
      simp
    · have ih := syk_get hi h k (by omega) (by omega)
      rw [List.getElem?_append_left (List.getElem?_eq_some_iff.1 ih).1]
      exact ih
theorem sys_pre (L : List Nat) {a b : Nat} (h : a ≤ b) : ∃ r, sys L b = sys L a ++ r := by
  induction b with
  | zero => obtain rfl : a = 0 := by omega
            exact ⟨[], by simp⟩
  | succ b ih =>
    by_cases hb : a = b + 1
    · subst hb; exact ⟨[], by simp⟩
    · obtain ⟨r, hr⟩ := ih (by omega)
      exact ⟨r ++ syk L (b + 1) L.length, by rw [sys, hr, List.append_assoc]⟩
theorem sys_get {L : List Nat} {n j x : Nat} (hn : 0 < n) (hn15 : n ≤ 15) (h : (syk L n L.length)[j]? = some x) : (sys L 15)[(sys L (n - 1)).length + j]? = some x := by
  obtain ⟨m, rfl⟩ : ∃ m, n = m + 1 := ⟨n - 1, by omega⟩
  obtain ⟨r, hr⟩ := sys_pre L hn15
  rw [hr, sys, show m + 1 - 1 = m by omega, List.append_assoc, List.getElem?_append_right (by omega), show (sys L m).length + j - (sys L m).length = j by omega]
  rw [List.getElem?_append_left (List.getElem?_eq_some_iff.1 h).1]
  exact h
theorem sys_le (L : List Nat) : ∀ n, (sys L n).length ≤ n * L.length
  | 0 => by simp [sys]
  | n + 1 => by
    have ih := sys_le L n
    have h := List.length_filter_le (fun i => L.getD i 0 == n + 1) (List.range L.length)
    rw [List.length_range] at h
    rw [sys, List.length_append, Nat.add_mul, Nat.one_mul]
    unfold syk
    omega
/-- The longest length up to n. -/
def lgs (L : List Nat) : Nat → Nat
  | 0 => 0
  | n + 1 => if cnt L (n + 1) = 0 then lgs L n else n + 1
theorem lgs_le (L : List Nat) : ∀ n, lgs L n ≤ n
  | 0 => Nat.le_refl _
  | n + 1 => by
    have := lgs_le L n
    rw [lgs]; split <;> omega
theorem lgs_ge {L : List Nat} {m : Nat} : ∀ n, m ≤ n → cnt L m ≠ 0 → m ≤ lgs L n
  | 0, h, h1 => by omega
  | n + 1, h, h1 => by
    rw [lgs]
    by_cases hm : m = n + 1
    · subst hm; rw [if_neg h1]; exact Nat.le_refl _
    · have := lgs_ge n (by omega) h1
      split <;> omega
theorem lgs_cnt (L : List Nat) : ∀ n, lgs L n = 0 ∨ cnt L (lgs L n) ≠ 0
  | 0 => .inl rfl
  | n + 1 => by
    rw [lgs]
    by_cases h : cnt L (n + 1) = 0
    · rw [if_pos h]; exact lgs_cnt L n
    · rw [if_neg h]; exact .inr h

/-- The slot of the longest length in the midst of length n's symbols. -/
def lgk (L : List Nat) (n k : Nat) : Nat := if pre L n k = 0 then lgs L (n - 1) else n

theorem build62 (t0 t1 t2 t3 t4 t5 t6 t7 t8 t9 t10 t11 t12 t13 t14 t15 t16 t17 t18 t19 t20 t21 t22 t23 t24 t25 t26 t27 t28 t29 t30 t31 : Value) (w : World) : (Instr.build 62 #[(0, .agg #[t0, t1, t2, t3, t4, t5, t6, t7, t8, t9, t10, t11, t12, t13, t14, t15, t16, t17, t18, t19, t20, t21, t22, t23, t24, t25, t26, t27, t28, t29, t30, t31])]).run Try.prog w = .ok (.agg #[t0, t1, t2, t3, t4, t5, t6, t7, t8, t9, t10, t11, t12, t13, t14, t15, t16, t17, t18, t19, t20, t21, t22, t23, t24, t25, t26, t27, t28, t29, t30, t31, .slice none 0 0, .int .i64 0, .int .i64 0, .int .i64 0, .int .i64 0, .int .i64 0, .int .i64 0, .int .i64 0, .int .i64 0, .int .i64 0, .int .i64 0, .int .i64 0, .int .i64 0, .int .i64 0, .int .i64 0, .int .i64 0, .int .i64 0, .int .i64 0, .int .i64 0, .int .i64 0]) w := by kernel_rfl
def dcells (L : List Nat) : Array Value := #[.int .i64 (tg L 0), .int .i64 (tg L 1), .int .i64 (tg L 2), .int .i64 (tg L 3), .int .i64 (tg L 4), .int .i64 (tg L 5), .int .i64 (tg L 6), .int .i64 (tg L 7), .int .i64 (tg L 8), .int .i64 (tg L 9), .int .i64 (tg L 10), .int .i64 (tg L 11), .int .i64 (tg L 12), .int .i64 (tg L 13), .int .i64 (tg L 14), .int .i64 (tg L 15), .int .i64 (tg L 16), .int .i64 (tg L 17), .int .i64 (tg L 18), .int .i64 (tg L 19), .int .i64 (tg L 20), .int .i64 (tg L 21), .int .i64 (tg L 22), .int .i64 (tg L 23), .int .i64 (tg L 24), .int .i64 (tg L 25), .int .i64 (tg L 26), .int .i64 (tg L 27), .int .i64 (tg L 28), .int .i64 (tg L 29), .int .i64 (tg L 30), .int .i64 (tg L 31), .slice none 0 0, .int .i64 0, .int .i64 0, .int .i64 0, .int .i64 0, .int .i64 0, .int .i64 0, .int .i64 0, .int .i64 0, .int .i64 0, .int .i64 0, .int .i64 0, .int .i64 0, .int .i64 0, .int .i64 0, .int .i64 0, .int .i64 0, .int .i64 0, .int .i64 0, .int .i64 0]
theorem build_tab (L : List Nat) (w : World) : (Instr.build 62 #[(0, .agg (tab L))]).run Try.prog w = .ok (.agg (dcells L)) w := by
  have h : tab L = #[.int .i64 (tg L 0), .int .i64 (tg L 1), .int .i64 (tg L 2), .int .i64 (tg L 3), .int .i64 (tg L 4), .int .i64 (tg L 5), .int .i64 (tg L 6), .int .i64 (tg L 7), .int .i64 (tg L 8), .int .i64 (tg L 9), .int .i64 (tg L 10), .int .i64 (tg L 11), .int .i64 (tg L 12), .int .i64 (tg L 13), .int .i64 (tg L 14), .int .i64 (tg L 15), .int .i64 (tg L 16), .int .i64 (tg L 17), .int .i64 (tg L 18), .int .i64 (tg L 19), .int .i64 (tg L 20), .int .i64 (tg L 21), .int .i64 (tg L 22), .int .i64 (tg L 23), .int .i64 (tg L 24), .int .i64 (tg L 25), .int .i64 (tg L 26), .int .i64 (tg L 27), .int .i64 (tg L 28), .int .i64 (tg L 29), .int .i64 (tg L 30), .int .i64 (tg L 31)] := by kernel_rfl
  rw [h]
  exact build62 _ _ _ _ _ _ _ _ _ _ _ _ _ _ _ _ _ _ _ _ _ _ _ _ _ _ _ _ _ _ _ _ w
theorem dcells_tab (L : List Nat) (i : Nat) (hi : i < 32) : (dcells L)[i]? = some (.int .i64 (tg L i)) := by
  have h : (dcells L)[i]? = (tab L)[i]? := by
    have h2 : dcells L = tab L ++ #[.slice none 0 0, .int .i64 0, .int .i64 0, .int .i64 0, .int .i64 0, .int .i64 0, .int .i64 0, .int .i64 0, .int .i64 0, .int .i64 0, .int .i64 0, .int .i64 0, .int .i64 0, .int .i64 0, .int .i64 0, .int .i64 0, .int .i64 0, .int .i64 0, .int .i64 0, .int .i64 0] := by kernel_rfl
    rw [h2, Array.getElem?_append_left (by simp [tab]; omega)]
  rw [h]
  simp [tab, hi]
theorem dcells_zero (L : List Nat) (i : Nat) (h1 : 33 ≤ i) (h2 : i < 52) : (dcells L)[i]? = some (.int .i64 0) := by
  obtain ⟨j, rfl⟩ : ∃ j, i = 33 + j := ⟨i - 33, by omega⟩
  have hj : j < 19 := by omega
  have h : (dcells L)[33 + j]? = (#[.int .i64 0, .int .i64 0, .int .i64 0, .int .i64 0, .int .i64 0, .int .i64 0, .int .i64 0, .int .i64 0, .int .i64 0, .int .i64 0, .int .i64 0, .int .i64 0, .int .i64 0, .int .i64 0, .int .i64 0, .int .i64 0, .int .i64 0, .int .i64 0, .int .i64 0] : Array Value)[j]? := by
    have h3 : dcells L = (tab L ++ #[.slice none 0 0]) ++ #[.int .i64 0, .int .i64 0, .int .i64 0, .int .i64 0, .int .i64 0, .int .i64 0, .int .i64 0, .int .i64 0, .int .i64 0, .int .i64 0, .int .i64 0, .int .i64 0, .int .i64 0, .int .i64 0, .int .i64 0, .int .i64 0, .int .i64 0, .int .i64 0, .int .i64 0] := by kernel_rfl
    have h4 : (tab L ++ #[Value.slice none 0 0]).size = 33 := by simp [tab]
    rw [h3, Array.getElem?_append_right (by omega), h4, show 33 + j - 33 = j by omega]
  rw [h]
  have h5 : (#[.int .i64 0, .int .i64 0, .int .i64 0, .int .i64 0, .int .i64 0, .int .i64 0, .int .i64 0, .int .i64 0, .int .i64 0, .int .i64 0, .int .i64 0, .int .i64 0, .int .i64 0, .int .i64 0, .int .i64 0, .int .i64 0, .int .i64 0, .int .i64 0, .int .i64 0] : Array Value) = ((List.range 19).map (fun _ => Value.int .i64 0)).toArray := rfl
  rw [h5]
  simp [hj]
theorem dcells_sym (L : List Nat) : (dcells L)[32]? = some (.slice none 0 0) := rfl
theorem dcells_size (L : List Nat) : (dcells L).size = 52 := rfl

/-- The decoder in block D: st: where the symbols of a length begin; lg: the longest length; c, n: the bits since the last symbol; sv: the symbols. -/
def DB (w : World) (D : Nat) (L : List Nat) (st : Nat → Int) (lg c n : Int) (sv : Value) : Prop :=
  ∃ cur, w.heap[D]? = some (.cells cur 62 (0, 0)) ∧ cur.size = 52 ∧ (∀ i, i < 32 → cur[i]? = some (.int .i64 (tg L i))) ∧ cur[32]? = some sv ∧ (∀ i, i < 16 → cur[33 + i]? = some (.int .i64 (st i))) ∧
    cur[49]? = some (.int .i64 lg) ∧ cur[50]? = some (.int .i64 c) ∧ cur[51]? = some (.int .i64 n)
section
variable {w w' : World} {D : Nat} {L : List Nat} {st : Nat → Int} {lg c n : Int} {sv : Value}
theorem DB.lt (h : DB w D L st lg c n sv) : D < w.heap.size := by
  obtain ⟨cur, h1, _⟩ := h
  exact lt_of_blk h1
theorem DB.keep (h : DB w D L st lg c n sv) (e : w'.heap[D]? = w.heap[D]?) : DB w' D L st lg c n sv := by
  obtain ⟨cur, h1, h2⟩ := h
  exact ⟨cur, e.trans h1, h2⟩
theorem DB.fr {S : List Nat} (h : DB w D L st lg c n sv) (hf : Fr S w w') (hn : D ∉ S) : DB w' D L st lg c n sv := h.keep (hf.block D h.lt hn)
theorem DB.froz (h : DB w D L st lg c n sv) (i : Nat) : w.frozen? ⟨D, i, none⟩ = false := by
  obtain ⟨cur, h1, _⟩ := h
  exact froz_blk h1 i
theorem DB.gtab (h : DB w D L st lg c n sv) {i : Nat} (hi : i < 32) : w.cell? ⟨D, i, none⟩ = some (.int .i64 (tg L i)) := by
  obtain ⟨cur, h1, _, h2, _⟩ := h
  rw [cell_blk h1, h2 i hi]
theorem DB.gsym (h : DB w D L st lg c n sv) : w.cell? ⟨D, 32, none⟩ = some sv := by
  obtain ⟨cur, h1, _, _, h2, _⟩ := h
  rw [cell_blk h1, h2]
theorem DB.gst (h : DB w D L st lg c n sv) {i : Nat} (hi : i < 16) : w.cell? ⟨D, 33 + i, none⟩ = some (.int .i64 (st i)) := by
  obtain ⟨cur, h1, _, _, _, h2, _⟩ := h
  rw [cell_blk h1, h2 i hi]
theorem DB.glg (h : DB w D L st lg c n sv) : w.cell? ⟨D, 49, none⟩ = some (.int .i64 lg) := by
  obtain ⟨cur, h1, _, _, _, _, h2, _⟩ := h
  rw [cell_blk h1, h2]
theorem DB.gc (h : DB w D L st lg c n sv) : w.cell? ⟨D, 50, none⟩ = some (.int .i64 c) := by
  obtain ⟨cur, h1, _, _, _, _, _, h2, _⟩ := h
  rw [cell_blk h1, h2]
theorem DB.gn (h : DB w D L st lg c n sv) : w.cell? ⟨D, 51, none⟩ = some (.int .i64 n) := by
  obtain ⟨cur, h1, _, _, _, _, _, _, h2⟩ := h
  rw [cell_blk h1, h2]
theorem DB.setC (h : DB w D L st lg c n sv) (x : Int) : DB (w.setCell ⟨D, 50, none⟩ (.int .i64 x)) D L st lg x n sv := by
  obtain ⟨cur, h1, h2, h3, h4, h5, h6, h7, h8⟩ := h
  refine ⟨_, heap_set_same h1, by simpa using h2, ?_, ?_, ?_, ?_, ?_, ?_⟩
  · intro i hi; rw [Array.getElem?_setIfInBounds_ne (by omega)]; exact h3 i hi
  · rw [Array.getElem?_setIfInBounds_ne (by omega)]; exact h4
  · intro i hi; rw [Array.getElem?_setIfInBounds_ne (by omega)]; exact h5 i hi
  · rw [Array.getElem?_setIfInBounds_ne (by omega)]; exact h6
  · rw [Array.getElem?_setIfInBounds_self_of_lt (by omega)]
  · rw [Array.getElem?_setIfInBounds_ne (by omega)]; exact h8
theorem DB.setN (h : DB w D L st lg c n sv) (x : Int) : DB (w.setCell ⟨D, 51, none⟩ (.int .i64 x)) D L st lg c x sv := by
  obtain ⟨cur, h1, h2, h3, h4, h5, h6, h7, h8⟩ := h
  refine ⟨_, heap_set_same h1, by simpa using h2, ?_, ?_, ?_, ?_, ?_, ?_⟩
  · intro i hi; rw [Array.getElem?_setIfInBounds_ne (by omega)]; exact h3 i hi
  · rw [Array.getElem?_setIfInBounds_ne (by omega)]; exact h4
  · intro i hi; rw [Array.getElem?_setIfInBounds_ne (by omega)]; exact h5 i hi
  · rw [Array.getElem?_setIfInBounds_ne (by omega)]; exact h6
  · rw [Array.getElem?_setIfInBounds_ne (by omega)]; exact h7
  · rw [Array.getElem?_setIfInBounds_self_of_lt (by omega)]
theorem DB.setLg (h : DB w D L st lg c n sv) (x : Int) : DB (w.setCell ⟨D, 49, none⟩ (.int .i64 x)) D L st x c n sv := by
  obtain ⟨cur, h1, h2, h3, h4, h5, h6, h7, h8⟩ := h
  refine ⟨_, heap_set_same h1, by simpa using h2, ?_, ?_, ?_, ?_, ?_, ?_⟩
  · intro i hi; rw [Array.getElem?_setIfInBounds_ne (by omega)]; exact h3 i hi
  · rw [Array.getElem?_setIfInBounds_ne (by omega)]; exact h4
  · intro i hi; rw [Array.getElem?_setIfInBounds_ne (by omega)]; exact h5 i hi
  · rw [Array.getElem?_setIfInBounds_self_of_lt (by omega)]
  · rw [Array.getElem?_setIfInBounds_ne (by omega)]; exact h7
  · rw [Array.getElem?_setIfInBounds_ne (by omega)]; exact h8
theorem DB.setSym (h : DB w D L st lg c n sv) (x : Value) : DB (w.setCell ⟨D, 32, none⟩ x) D L st lg c n x := by
  obtain ⟨cur, h1, h2, h3, h4, h5, h6, h7, h8⟩ := h
  refine ⟨_, heap_set_same h1, by simpa using h2, ?_, ?_, ?_, ?_, ?_, ?_⟩
  · intro i hi; rw [Array.getElem?_setIfInBounds_ne (by omega)]; exact h3 i hi
  · rw [Array.getElem?_setIfInBounds_self_of_lt (by omega)]
  · intro i hi; rw [Array.getElem?_setIfInBounds_ne (by omega)]; exact h5 i hi
  · rw [Array.getElem?_setIfInBounds_ne (by omega)]; exact h6
  · rw [Array.getElem?_setIfInBounds_ne (by omega)]; exact h7
  · rw [Array.getElem?_setIfInBounds_ne (by omega)]; exact h8
theorem DB.setSt (h : DB w D L st lg c n sv) {m : Nat} (hm : m < 16) (x : Int) : DB (w.setCell ⟨D, 33 + m, none⟩ (.int .i64 x)) D L (fun i => if i = m then x else st i) lg c n sv := by
  obtain ⟨cur, h1, h2, h3, h4, h5, h6, h7, h8⟩ := h
  refine ⟨_, heap_set_same h1, by simpa using h2, ?_, ?_, ?_, ?_, ?_, ?_⟩
  · intro i hi; rw [Array.getElem?_setIfInBounds_ne (by omega)]; exact h3 i hi
  · rw [Array.getElem?_setIfInBounds_ne (by omega)]; exact h4
  · intro i hi
    by_cases he : i = m
    · subst he
      rw [Array.getElem?_setIfInBounds_self_of_lt (by omega)]; simp only [if_true]
    · rw [Array.getElem?_setIfInBounds_ne (by omega)]; simp only [if_neg he]; exact h5 i hi
  · rw [Array.getElem?_setIfInBounds_ne (by omega)]; exact h6
  · rw [Array.getElem?_setIfInBounds_ne (by omega)]; exact h7
  · rw [Array.getElem?_setIfInBounds_ne (by omega)]; exact h8
theorem DB.ext {st' : Nat → Int} (h : DB w D L st lg c n sv) (e : ∀ i, i < 16 → st i = st' i) : DB w D L st' lg c n sv := by
  obtain ⟨cur, h1, h2, h3, h4, h5, h6⟩ := h
  exact ⟨cur, h1, h2, h3, h4, fun i hi => by rw [← e i hi]; exact h5 i hi, h6⟩
theorem DB.new (w : World) (L : List Nat) : DB (w.alloc (.cells (dcells L) 62)) w.heap.size L (fun _ => 0) 0 0 0 (.slice none 0 0) :=
  ⟨_, heap_alloc_eq rfl, dcells_size L, dcells_tab L, dcells_sym L, fun i hi => dcells_zero L _ (by omega) (by omega), dcells_zero L 49 (by omega) (by omega), dcells_zero L 50 (by omega) (by omega), dcells_zero L 51 (by omega) (by omega)⟩
end

theorem wpList_build_run {P : Program} {ops : Array Oper} {rest : List Oper} {o : Oper} {a : Act} {w : World} {Q : Exit → Act → World → Prop} (hg : o.guard = none) (t : TypeId) (j : Nat) (x : Operand) (ho : o.op = .build t #[(j, x)])
    (v0 v : Value) (hx : a.eval x = v0) (hrun : (Instr.build t #[(j, v0)]).run P w = .ok v w) (h : wpList P ops Q rest (a.put o.dst v) w) : wpList P ops Q (o :: rest) a w := by
  refine wpList_plain hg fun K hK => ?_
  unfold Oper.wp execOp
  simp only [ho, List.map_toArray, List.map_cons, List.map_nil, hx, hrun, Sem.run_bind, Result.andThen_ok, Sem.run_pure]
  exact hK _ _ h

/-- A list of symbols as ints, owned. -/
def nI (l : List Nat) : List Value := l.map (fun x : Nat => Value.int .i64 (x : Int))
theorem nI_len (l : List Nat) : (nI l).length = l.length := by simp [nI]
def NAt (w : World) (v : Value) (g : Option Nat) (l : List Nat) : Prop := SlAt 3 1 w v g l.length (nI l)
theorem NAt.push {w : World} {v : Value} {g : Option Nat} {l : List Nat} (h : NAt w v g l) (x : Nat) (hl : l.length ≤ 1000000) :
    ∃ v' w' g', (Builtin.append_ #[22, 22] 22 #[v, .slice (some ⟨w.heap.size, 0, none⟩) 1 1]).run Try.prog (w.alloc (.cells #[.int .i64 (x : Int)] 3)) = .ok v' w' ∧ NAt w' v' g' (l ++ [x]) ∧ Fr g.toList w w' ∧ (g' = g ∨ ∃ b, g' = some b ∧ w.heap.size ≤ b) := by
  have hk : NAt (w.alloc (.cells #[.int .i64 (x : Int)] 3)) v g l := SlAt.keep h (fun b hb => heap_alloc_lt (by obtain ⟨cur, hc⟩ := SlAt.lt h b hb; exact lt_of_blk hc))
  obtain ⟨v', w', g', happ, hsl', hfr', hg'⟩ := SlAt.append elem3 hk 22 ⟨w.heap.size, 0, none⟩ 1 1 [.int .i64 (x : Int)] (by omega) (by simp) (fun j u hj => by
    rw [Addr.add_lit, cell_blk (heap_alloc_eq rfl)]
    simpa using hj) (by simp [Value.oneCell']) (by omega) (by unfold maxLen; omega)
  refine ⟨v', w', g', happ, ?_, ((Fr.refl _ w).alloc _).andThen hfr' (fun x hx => .inl hx), ?_⟩
  · unfold NAt
    rw [List.length_append]
    have : nI (l ++ [x]) = nI l ++ [.int .i64 (x : Int)] := by simp [nI]
    rw [this]
    exact hsl'
  · rcases hg' with h1 | ⟨h1, _⟩
    · exact .inl h1
    · exact .inr ⟨_, h1, by simp⟩
/-- What is read of it. -/
theorem NAt.read {w : World} {v : Value} {g : Option Nat} {l : List Nat} (h : NAt w v g l) {i x : Nat} (hx : l[i]? = some x) : ∃ b off cap, g = some b ∧ v = .slice (some ⟨b, off, none⟩) l.length cap ∧ b < w.heap.size ∧ w.cell? ⟨b, off + i, none⟩ = some (.int .i64 (x : Int)) := by
  rcases h with ⟨_, _, h1, _⟩ | ⟨b, off, cap, cur, hg, hv, hblk, hnc, hfit, hxs, hcells⟩
  · have := (List.getElem?_eq_some_iff.1 hx).1
    omega
  · refine ⟨b, off, cap, hg, hv, lt_of_blk hblk, ?_⟩
    rw [cell_blk hblk]
    exact hcells i _ (by simp [nI, hx])
end Go.Proofs.Ythmhcnnigepohaa

