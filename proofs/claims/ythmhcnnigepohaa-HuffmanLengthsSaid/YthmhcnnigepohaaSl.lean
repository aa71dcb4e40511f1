/- Slices that the run owns: read as a list of cells; what append of one element and a cut at the front do. No program in sight. -/
import Derived.Test.YthmhcnnigepohaaFr
import Derived.ArgAppend
import Derived.Laws.CopyRow
namespace Go.Proofs.Ythmhcnnigepohaa

structure ElemOk (P : Program) (t e : TypeId) (size bytes : Nat) : Prop where
  und : P.underlying t = some (.slice e)
  info : ∃ i z, P.info? e = some i ∧ i.zero = some z ∧ i.size = size ∧ i.bytes = bytes ∧ z.cells.size = size
  pos : 0 < size

/-- The slice value v has n elements, whose cells are xs; they lie in block g (none: v is nil), in which nothing is frozen; the capacity lies in that block too. -/
def SlAt (e : TypeId) (size : Nat) (w : World) (v : Value) (g : Option Nat) (n : Nat) (xs : List Value) : Prop :=
  (v = .slice none 0 0 ∧ g = none ∧ n = 0 ∧ xs = []) ∨
    ∃ b off cap cur, g = some b ∧ v = .slice (some ⟨b, off, none⟩) n cap ∧ w.heap[b]? = some (.cells cur e (0, 0)) ∧ n ≤ cap ∧ off + cap * size ≤ cur.size ∧ xs.length = n * size ∧ ∀ j u, xs[j]? = some u → cur[off + j]? = some u

section
variable {P : Program} {t e : TypeId} {size bytes : Nat} {w w' : World} {v : Value} {g : Option Nat} {n : Nat} {xs : List Value}

theorem SlAt.nil_ (w : World) : SlAt e size w (.slice none 0 0) none 0 [] := .inl ⟨rfl, rfl, rfl, rfl⟩

theorem SlAt.keep (h : SlAt e size w v g n xs) (hk : ∀ b, g = some b → w'.heap[b]? = w.heap[b]?) : SlAt e size w' v g n xs := by
  rcases h with h | ⟨b, off, cap, cur, hg, hv, hb, r⟩
  · exact .inl h
  · exact .inr ⟨b, off, cap, cur, hg, hv, (hk b hg).trans hb, r⟩

theorem SlAt.fr {S : List Nat} (h : SlAt e size w v g n xs) (hf : Fr S w w') (hk : ∀ b, g = some b → b ∉ S) : SlAt e size w' v g n xs := by
  refine h.keep fun b hb => hf.block b ?_ (hk b hb)
  rcases h with ⟨_, h, _⟩ | ⟨b', off, cap, cur, hg, hv, hbl, r⟩
  · rw [h] at hb; cases hb
  · rw [hg] at hb; cases hb; exact lt_of_blk hbl

theorem SlAt.len (h : SlAt e size w v g n xs) : xs.length = n * size := by
  rcases h with ⟨_, _, h1, h2⟩ | ⟨b, off, cap, cur, hg, hv, hb, h1, h2, h3, h4⟩
  · rw [h1, h2]; simp
  · exact h3

theorem SlAt.shape (h : SlAt e size w v g n xs) : ∃ a c, v = .slice a n c := by
  rcases h with ⟨h0, _, h1, _⟩ | ⟨b, off, cap, cur, hg, hv, _⟩
  · exact ⟨none, 0, by rw [h0, h1]⟩
  · exact ⟨_, _, hv⟩

theorem SlAt.lt (h : SlAt e size w v g n xs) : ∀ b, g = some b → ∃ cur, w.heap[b]? = some (.cells cur e (0, 0)) := by
  intro b hb
  rcases h with ⟨_, h, _⟩ | ⟨b', off, cap, cur, hg, hv, hbl, r⟩
  · rw [h] at hb; cases hb
  · rw [hg] at hb; cases hb; exact ⟨cur, hbl⟩

/-- 'append(v, x ..)': m elements more. -/
theorem SlAt.append (E : ElemOk P t e size bytes) (h : SlAt e size w v g n xs) (ty : TypeId) (ad : Addr) (m c : Nat) (news : List Value) (hm : 0 < m) (hl : news.length = m * size)
    (hnews : ∀ j u, news[j]? = some u → w.cell? (ad.add j) = some u) (h1 : ∀ u ∈ news, u.oneCell' = true) (hb : (n + m) * bytes ≤ 140737488355328) (hn : n + m ≤ maxLen) :
    ∃ v' w' g', (Builtin.append_ #[t, t] ty #[v, .slice (some ad) m c]).run P w = .ok v' w' ∧ SlAt e size w' v' g' (n + m) (xs ++ news) ∧ Fr g.toList w w' ∧ (g' = g ∨ (g' = some w.heap.size ∧ w.heap.size < w'.heap.size)) := by
  obtain ⟨i, z, hi, hz, hsz, hby, hzs⟩ := E.info
  have hpos := E.pos
  have hl1 : news.length = m * i.size := by rw [hl, hsz]
  have hsmall : n + m ≤ 9223372036854775807 := by simp only [maxLen] at hn; omega
  rcases h with ⟨rfl, rfl, rfl, rfl⟩ | ⟨b, off, cap, cur, rfl, rfl, hblk, hnc, hfit, hxs, hcells⟩
  · rw [Nat.zero_add] at hb hn ⊢
    have hr := run_append_nil (P := P) w t ty e i z E.und hi hz ad m c news hl1 hnews (by omega) (by omega) (by rw [hby]; omega)
    refine ⟨_, _, _, hr, .inr ⟨w.heap.size, 0, _, _, rfl, rfl, heap_alloc_eq rfl, grownCap_ge w m 0 e, ?_, by simp [hl], ?_⟩, ((Fr.refl _ _).drew).alloc _, .inr ⟨rfl, by simp⟩⟩
    · have := grownCap_ge w m 0 e
      simp only [Array.size_append, List.size_toArray, size_zeroCells, hzs, hl, Nat.zero_add]
      have : (grownCap w m 0 e - m) * size + m * size = grownCap w m 0 e * size := by
        rw [← Nat.add_mul]; congr 1; omega
      omega
    · intro j u hj
      have hjl : j < news.length := (List.getElem?_eq_some_iff.1 (by simpa using hj)).1
      rw [Nat.zero_add, Array.getElem?_append_left (by simpa using hjl)]
      simpa using hj
  · have hold : ∀ j u, xs[j]? = some u → w.cell? ((⟨b, off, none⟩ : Addr).add j) = some u := by
      intro j u hj
      rw [Addr.add_lit, cell_blk hblk]
      exact hcells j u hj
    by_cases hroom : n + m ≤ cap
    · have hf := run_firstCells_some (P := P) w i.size m ad m c news hl1 hnews
      have hfit1 : (n + m) * size ≤ cap * size := Nat.mul_le_mul_right _ hroom
      have hmul : (n + m) * size = n * size + m * size := Nat.add_mul _ _ _
      have hst := run_storeCells_at P b (off + n * i.size) e news 0 cur w hblk (by rw [hsz]; omega) h1
      simp only [Nat.add_zero] at hst
      have hr : (Builtin.append_ #[t, t] ty #[.slice (some ⟨b, off, none⟩) n cap, .slice (some ad) m c]).run P w = .ok (.slice (some ⟨b, off, none⟩) (n + m) cap) (w.setRow b (cur.toList.take (off + n * i.size) ++ news ++ cur.toList.drop (off + n * i.size + news.length)).toArray) := by
        simp [Builtin.append_, run_underlying E.und, sizeOf, typeInfo, hi, Builtin.lenOf, hroom, hf, Addr.add_lit, hst]
      rw [hsz] at hr
      refine ⟨_, _, _, hr, .inr ⟨b, off, cap, _, rfl, rfl, setRow_heap w b cur _ e _ hblk, hroom, ?_, by simp [hxs, hl]; omega, ?_⟩, ⟨rfl, rfl, rfl, by simp, fun k _ hk => setRow_other w b k _ (by simpa using hk)⟩, .inl rfl⟩
      · simp
        omega
      · intro j u hj
        rw [List.getElem?_append] at hj
        rw [List.getElem?_toArray, List.append_assoc, List.getElem?_append]
        have htl : (cur.toList.take (off + n * size)).length = off + n * size := by simp; omega
        rw [htl]
        split at hj
        · rename_i hjx
          rw [if_pos (by omega), List.getElem?_take, if_pos (by omega)]
          have := hcells j u hj
          simpa using this
        · rename_i hjx
          rw [if_neg (by omega), List.getElem?_append]
          have hjn := (List.getElem?_eq_some_iff.1 hj).1
          rw [if_pos (by omega), ← hj]
          congr 1
          omega
    · have hr := run_append_grow (P := P) w t ty e i z E.und hi hz ⟨b, off, none⟩ n cap xs (by rw [hsz]; exact hxs) hold ad m c news hl1 hnews (by omega) (by omega) (growslice_fits (by omega) (by rw [hby]; exact hb))
      refine ⟨_, _, _, hr, .inr ⟨w.heap.size, 0, _, _, rfl, rfl, heap_alloc_eq rfl, grownCap_ge w (n + m) cap e, ?_, by rw [List.length_append, hxs, hl, Nat.add_mul], ?_⟩, ((Fr.refl _ _).drew).alloc _, .inr ⟨rfl, by simp⟩⟩
      · have := grownCap_ge w (n + m) cap e
        simp only [Array.size_append, List.size_toArray, size_zeroCells, hzs, hl, hxs, Nat.zero_add]
        have : (grownCap w (n + m) cap e - (n + m)) * size + (n * size + m * size) = grownCap w (n + m) cap e * size := by
          rw [← Nat.add_mul, ← Nat.add_mul]; congr 1; omega
        omega
      · intro j u hj
        have hjl : j < (xs ++ news).length := (List.getElem?_eq_some_iff.1 hj).1
        rw [Nat.zero_add, Array.getElem?_append_left (by simpa using hjl)]
        simpa using hj

/-- 'v[1:]' -/
theorem SlAt.drop1 {a : Addr} {cap : Nat} (h : SlAt e size w (.slice (some a) n cap) g n xs) (hs : a.spot = none) (hn : 1 ≤ n) : SlAt e size w (.slice (some ⟨a.block, a.off + size, none⟩) (n - 1) (cap - 1)) g (n - 1) (xs.drop size) := by
  rcases h with ⟨h, _⟩ | ⟨b, off, cap', cur, hg, hv, hblk, hnc, hfit, hxs, hcells⟩
  · cases h
  · injection hv with h1 _ h3
    injection h1 with h1
    subst h1
    subst h3
    have hmul : cap * size = (cap - 1) * size + size := by rw [← Nat.succ_mul]; congr 1; omega
    have hmul2 : n * size = (n - 1) * size + size := by rw [← Nat.succ_mul]; congr 1; omega
    refine .inr ⟨b, off + size, cap - 1, cur, hg, rfl, hblk, by omega, by omega, by rw [List.length_drop, hxs]; omega, fun j u hj => ?_⟩
    rw [List.getElem?_drop] at hj
    have := hcells _ _ hj
    rw [show off + size + j = off + (size + j) by omega]
    exact this

/-- An append whose run is known. -/
theorem wpList_append_run {w : World} {ops : Array Oper} {rest : List Oper} {Q : Exit → Act → World → Prop} {a : Act} {o : Oper} (hg : o.guard = none) (s x : Operand) (t : TypeId)
    (ho : o.op = .call { callee := .builtin .append, args := #[s, x], argTypes := #[t, t] }) {v y v' : Value} {w' : World} (hrun : (Builtin.append_ #[t, t] o.type #[v, y]).run P w = .ok v' w')
    (hs : a.eval s = v) (hx : a.eval x = y) (h : wpList P ops Q rest (a.put o.dst v') w') : wpList P ops Q (o :: rest) a w := by
  refine wpList_plain hg fun K hK => ?_
  unfold Oper.wp execOp
  simp only [ho, resolve, invoke, builtin, Sem.run_bind, Sem.run_pure, Result.andThen_ok, List.map_toArray, List.map_cons, List.map_nil, hs, hx, hrun]
  exact hK _ _ h
end
end Go.Proofs.Ythmhcnnigepohaa
