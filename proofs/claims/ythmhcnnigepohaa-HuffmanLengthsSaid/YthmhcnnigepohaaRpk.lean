/- The reference's lists of packages as cells; its sort. -/
import Derived.Test.YthmhcnnigepohaaLen
namespace Go.Proofs.Ythmhcnnigepohaa
open Go.RowKit

theorem elem59 : ElemOk Try.prog 57 59 2 32 := ⟨Try.underlying57, by
  have h : (Try.prog.info? 59).map (fun i => (i.zero.map (fun z => z.cells.size), i.size, i.bytes)) = some (some 2, 2, 32) := by kernel_rfl
  cases hq : Try.prog.info? 59 with
  | none => rw [hq] at h; cases h
  | some i =>
    rw [hq] at h
    simp only [Option.map_some, Option.some.injEq, Prod.mk.injEq] at h
    obtain ⟨h1, h2, h3⟩ := h
    cases hz : i.zero with
    | none => rw [hz] at h1; cases h1
    | some z =>
      rw [hz] at h1
      simp only [Option.map_some, Option.some.injEq] at h1
      exact ⟨i, z, rfl, hz, h2, h3, h1⟩, by decide⟩

/-- A slice of packages that the run owns. -/
def QAt (w : World) (v : Value) (g : Option Nat) (l : List Rw) : Prop := SlAt 59 2 w v g l.length (rcs l)
theorem QAt.push {w : World} {v : Value} {g : Option Nat} {l : List Rw} (h : QAt w v g l) (x : Rw) (hl : l.length ≤ 1000000) :
    ∃ v' w' g', (Builtin.append_ #[57, 57] 57 #[v, .slice (some ⟨w.heap.size, 0, none⟩) 1 1]).run Try.prog (w.alloc (.cells #[.int .i64 x.w, .slice x.a x.n x.c] 59)) = .ok v' w' ∧ QAt w' v' g' (l ++ [x]) ∧ Fr g.toList w w' ∧ (g' = g ∨ ∃ b, g' = some b ∧ w.heap.size ≤ b) := by
  have hk : QAt (w.alloc (.cells #[.int .i64 x.w, .slice x.a x.n x.c] 59)) v g l := SlAt.keep h (fun b hb => heap_alloc_lt (by obtain ⟨cur, hc⟩ := SlAt.lt h b hb; exact lt_of_blk hc))
  obtain ⟨v', w', g', happ, hsl', hfr', hg'⟩ := SlAt.append elem59 hk 57 ⟨w.heap.size, 0, none⟩ 1 1 x.cs (by omega) (by simp [Rw.cs]) (fun j u hj => by
    rw [Addr.add_lit, cell_blk (heap_alloc_eq rfl), Nat.zero_add]
    simpa [Rw.cs] using hj) (by simp [Rw.cs, Value.oneCell']) (by omega) (by unfold maxLen; omega)
  refine ⟨v', w', g', happ, ?_, ((Fr.refl _ w).alloc _).andThen hfr' (fun x hx => .inl hx), ?_⟩
  · unfold QAt
    rw [List.length_append, rcs_append]
    have : rcs [x] = x.cs := by simp [rcs]
    rw [this]
    exact hsl'
  · rcases hg' with h1 | ⟨h1, _⟩
    · exact .inl h1
    · exact .inr ⟨_, h1, by simp⟩
/-- What an element's cells hold. -/
theorem QAt.get {w : World} {v : Value} {g : Option Nat} {l : List Rw} (h : QAt w v g l) {i : Nat} {x : Rw} (hx : l[i]? = some x) :
    ∃ b off cap, g = some b ∧ v = .slice (some ⟨b, off, none⟩) l.length cap ∧ b < w.heap.size ∧ w.cell? ⟨b, off + i * 2, none⟩ = some (.int .i64 x.w) ∧ w.cell? ⟨b, off + i * 2 + 1, none⟩ = some (.slice x.a x.n x.c) ∧ ∀ j, w.frozen? ⟨b, j, none⟩ = false := by
  rcases h with ⟨_, _, h1, _⟩ | ⟨b, off, cap, cur, hg, hv, hblk, hnc, hfit, hxs, hcells⟩
  · have := (List.getElem?_eq_some_iff.1 hx).1
    omega
  · obtain ⟨r1, r2⟩ := rcs_get l i x hx
    refine ⟨b, off, cap, hg, hv, lt_of_blk hblk, ?_, ?_, fun j => froz_blk hblk j⟩
    · rw [cell_blk hblk]; exact hcells _ _ r1
    · rw [cell_blk hblk, Nat.add_assoc]; exact hcells _ _ r2


/-- One element stored. -/
theorem QAt.put {w : World} {b off cap N : Nat} {g : Option Nat} {M : List Rw} (h : QAt w (.slice (some ⟨b, off, none⟩) N cap) g M) (i : Nat) (x : Rw) (hi : i < M.length) :
    QAt ((w.setCell ⟨b, off + i * 2, none⟩ (.int .i64 x.w)).setCell ⟨b, off + i * 2 + 1, none⟩ (.slice x.a x.n x.c)) (.slice (some ⟨b, off, none⟩) N cap) g (M.set i x) := by
  rcases h with ⟨h0, _⟩ | ⟨b', off', cap', cur', hg, hv, hblk, hnc, hfit, hxs, hcells⟩
  · cases h0
  · injection hv with hv1 hv2 hv3
    injection hv1 with hv1
    injection hv1 with hv1 hv4 _
    subst hv1 hv2 hv3 hv4
    have h2 := heap_set_same (j := off + i * 2) (v := .int .i64 x.w) hblk
    have h3 := heap_set_same (j := off + i * 2 + 1) (v := .slice x.a x.n x.c) h2
    have hM := rcs_len M
    refine .inr ⟨b, off, cap, _, hg, by rw [List.length_set], h3, by rw [List.length_set]; omega, by simpa using hfit, by rw [rcs_len], fun j u hj => ?_⟩
    have hset : ∀ (Q : List Rw) (q : Nat), rcs (Q.set q x) = ((rcs Q).set (q * 2) (.int .i64 x.w)).set (q * 2 + 1) (.slice x.a x.n x.c) := by
      intro Q
      induction Q with
      | nil => intro q; simp [rcs]
      | cons z Q ih =>
        intro q
        cases q with
        | zero => rfl
        | succ q =>
          have hz : rcs (z :: Q) = [Value.int .i64 z.w, .slice z.a z.n z.c] ++ rcs Q := rfl
          have hz2 : rcs (z :: Q.set q x) = [Value.int .i64 z.w, .slice z.a z.n z.c] ++ rcs (Q.set q x) := rfl
          rw [List.set_cons_succ, hz2, ih q, hz, show (q + 1) * 2 = q * 2 + 1 + 1 by omega]
          simp
    rw [hset] at hj
    have hjl : j < M.length * 2 := by
      have := (List.getElem?_eq_some_iff.1 hj).1
      simp [hM] at this
      exact this
    rw [Array.getElem?_setIfInBounds]
    rw [List.getElem?_set] at hj
    by_cases h4 : i * 2 + 1 = j
    · rw [if_pos h4, if_pos (by simp [hM]; omega)] at hj
      rw [if_pos (by omega), if_pos (by simp; omega)]
      exact hj
    · rw [if_neg h4, List.getElem?_set] at hj
      rw [if_neg (by omega), Array.getElem?_setIfInBounds]
      by_cases h5 : i * 2 = j
      · rw [if_pos h5, if_pos (by omega)] at hj
        rw [if_pos (by omega), if_pos (by omega)]
        exact hj
      · rw [if_neg h5] at hj
        rw [if_neg (by omega)]
        exact hcells j u hj


theorem QAt.all {w : World} {v : Value} {g : Option Nat} {l : List Rw} (h : QAt w v g l) (h0 : 0 < l.length) :
    ∃ b off cap, g = some b ∧ v = .slice (some ⟨b, off, none⟩) l.length cap ∧ b < w.heap.size ∧ ∀ j u, (rcs l)[j]? = some u → w.cell? ((⟨b, off, none⟩ : Addr).add j) = some u := by
  rcases h with ⟨_, _, h1, _⟩ | ⟨b, off, cap, cur, hg, hv, hblk, hnc, hfit, hxs, hcells⟩
  · omega
  · refine ⟨b, off, cap, hg, hv, lt_of_blk hblk, fun j u hj => ?_⟩
    rw [Addr.add_lit, cell_blk hblk]
    exact hcells j u hj

theorem insR_split (x : Rw) (l : List Rw) (k : Nat) (z : Rw) (hk : k ≤ l.length) : (l.take k ++ z :: l.drop k).set k x = l.take k ++ x :: l.drop k := by
  rw [List.set_append, if_neg (by simp; omega)]
  simp [List.length_take, Nat.min_eq_left hk]
theorem split_step (l : List Rw) (k : Nat) (y z : Rw) (hk : l[k]? = some y) : (l.take (k + 1) ++ z :: l.drop (k + 1)).set (k + 1) y = l.take k ++ y :: l.drop k := by
  have hl := (List.getElem?_eq_some_iff.1 hk).1
  have he := (List.getElem?_eq_some_iff.1 hk).2
  rw [insR_split y l (k + 1) z (by omega), List.take_succ_eq_append_getElem hl, he, List.append_assoc]
  rw [List.drop_eq_getElem_cons hl, he]
  rfl
theorem split_get (l : List Rw) (k : Nat) (z : Rw) (hk : k < l.length) : (l.take (k + 1) ++ z :: l.drop (k + 1))[k]? = l[k]? := by
  rw [List.getElem?_append_left (by simp; omega), List.getElem?_take, if_pos (by omega)]
end Go.Proofs.Ythmhcnnigepohaa

