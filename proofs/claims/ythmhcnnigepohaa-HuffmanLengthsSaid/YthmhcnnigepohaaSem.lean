/- What the cells of packages mean: the plain packages of package-merge. -/
import Derived.Test.YthmhcnnigepohaaPkl
namespace Go.Proofs.Ythmhcnnigepohaa
open Go.RowKit

/-- A package's cells, and the symbols that its slice reads; ok: where these may lie. -/
def Sem (w : World) (ok : Nat → Prop) (x : Rw) (p : Pk) : Prop :=
  ∃ b off cs fr, x.w = p.w ∧ x.n = p.s.length ∧ 0 < p.s.length ∧ x.a = some ⟨b, off, none⟩ ∧ ok b ∧ w.heap[b]? = some (.cells cs 3 fr) ∧ x.n ≤ x.c ∧ ∀ i, i < p.s.length → cs[off + i]? = some (.int .i64 (p.s.getD i 0 : Nat))
theorem Sem.w {w : World} {ok : Nat → Prop} {x : Rw} {p : Pk} (h : Sem w ok x p) : x.w = p.w := by
  obtain ⟨_, _, _, _, h, _⟩ := h
  exact h
theorem Sem.fr {w w' : World} {ok : Nat → Prop} {S : List Nat} {x : Rw} {p : Pk} (h : Sem w ok x p) (hf : Fr S w w') (hS : ∀ b ∈ S, ok b → ∀ cs fr, w.heap[b]? ≠ some (.cells cs 3 fr)) : Sem w' ok x p := by
  obtain ⟨b, off, cs, fr, h1, h2, h3, h4, h5, h6, h7⟩ := h
  exact ⟨b, off, cs, fr, h1, h2, h3, h4, h5, (hf.block b (lt_of_blk h6) (fun hm => hS b hm h5 cs fr h6)).trans h6, h7⟩
theorem Sem.mono {w : World} {ok ok' : Nat → Prop} {x : Rw} {p : Pk} (h : Sem w ok x p) (hk : ∀ b, b < w.heap.size → ok b → ok' b) : Sem w ok' x p := by
  obtain ⟨b, off, cs, fr, h1, h2, h3, h4, h5, h6, h7⟩ := h
  exact ⟨b, off, cs, fr, h1, h2, h3, h4, hk b (lt_of_blk h6) h5, h6, h7⟩

inductive All2 {α β : Type} (R : α → β → Prop) : List α → List β → Prop where
  | nil : All2 R [] []
  | cons {a b l m} (h : R a b) (t : All2 R l m) : All2 R (a :: l) (b :: m)
section
variable {α β : Type} {R R' : α → β → Prop} {l : List α} {m : List β}
theorem All2.len (h : All2 R l m) : l.length = m.length := by
  induction h with
  | nil => rfl
  | cons _ _ ih => simp [ih]
theorem All2.imp (h : All2 R l m) (f : ∀ a b, R a b → R' a b) : All2 R' l m := by
  induction h with
  | nil => exact .nil
  | cons h _ ih => exact .cons (f _ _ h) ih
theorem All2.append {l' : List α} {m' : List β} (h : All2 R l m) (h' : All2 R l' m') : All2 R (l ++ l') (m ++ m') := by
  induction h with
  | nil => exact h'
  | cons h _ ih => exact .cons h ih
theorem All2.get {i : Nat} {a : α} (h : All2 R l m) (ha : l[i]? = some a) : ∃ b, m[i]? = some b ∧ R a b := by
  induction h generalizing i with
  | nil => simp at ha
  | cons h _ ih =>
    cases i with
    | zero => simp at ha; subst ha; exact ⟨_, rfl, h⟩
    | succ i => exact ih (by simpa using ha)
theorem All2.take (h : All2 R l m) (k : Nat) : All2 R (l.take k) (m.take k) := by
  induction h generalizing k with
  | nil => simpa using All2.nil
  | cons h _ ih =>
    cases k with
    | zero => exact .nil
    | succ k => exact .cons h (ih k)
end
theorem ins_all {R : Rw → Pk → Prop} (hR : ∀ a b, R a b → a.w = b.w) {x : Rw} {p : Pk} (hx : R x p) : ∀ {l : List Rw} {m : List Pk}, All2 R l m → All2 R (insR x l) (ins p m)
  | _, _, .nil => .cons hx .nil
  | _, _, .cons (a := y) (b := q) h t => by
    unfold insR ins
    rw [hR _ _ hx, hR _ _ h]
    split
    · exact .cons hx (.cons h t)
    · exact .cons h (ins_all hR hx t)
theorem packs_all {R : Rw → Pk → Prop} (hR : ∀ a b, R a b → a.w = b.w) {l : List Rw} {m : List Pk} (h : All2 R l m) : All2 R (packsR l) (packs m) := by
  have h2 : ∀ {l : List Rw} {m : List Pk}, All2 R l m → ∀ {s : List Rw} {t : List Pk}, All2 R s t → All2 R (l.foldl (fun s x => insR x s) s) (m.foldl (fun s x => ins x s) t) := by
    intro l m h
    induction h with
    | nil => intro s t h; exact h
    | cons h _ ih => intro s t hs; exact ih (ins_all hR h hs)
  exact h2 h .nil

/-! ### sizes -/
theorem syms_len_packs (l : List Pk) : (syms (packs l)).length = (syms l).length := (syms_perm (packs_perm l)).length_eq
theorem syms_len_pairs : ∀ l : List Pk, (syms (pairs l)).length ≤ (syms l).length
  | [] => by simp [pairs]
  | [_] => by simp [pairs, syms]
  | a :: b :: l => by
    have ih := syms_len_pairs l
    simp only [pairs, syms, List.flatMap_cons, List.length_append] at ih ⊢
    omega
theorem syms_len_lev (S : List Pk) : ∀ k, (syms (lev S k)).length ≤ (k + 1) * (syms S).length
  | 0 => by simp [lev]
  | k + 1 => by
    have ih := syms_len_lev S k
    have hp := syms_len_pairs (lev S k)
    show (syms (packs (S ++ pairs (lev S k)))).length ≤ _
    rw [syms_len_packs, syms_append, List.length_append, Nat.add_mul (k + 1) 1, Nat.one_mul]
    omega
theorem syms_mem_len {l : List Pk} {p : Pk} (h : p ∈ l) : p.s.length ≤ (syms l).length := by
  obtain ⟨a, b, rfl⟩ := List.append_of_mem h
  simp [syms]
  omega
theorem phi_bd (F : List Int) (i : Nat) : 0 ≤ phi F i ∧ phi F i ≤ 1048576 := by unfold phi; omega
theorem wt_bd {F : List Int} {p : Pk} (h : Wt F p) : 0 ≤ p.w ∧ p.w ≤ p.s.length * 1048576 := by
  have h2 : ∀ l : List Nat, 0 ≤ (l.map (phi F)).sum ∧ (l.map (phi F)).sum ≤ l.length * 1048576 := by
    intro l
    induction l with
    | nil => simp
    | cons a l ih =>
      have := phi_bd F a
      simp only [List.map_cons, List.sum_cons, List.length_cons]
      omega
  unfold Wt at h
  rw [h]
  exact h2 p.s

/-! ### leaves -/
theorem leavesAt_append : ∀ (A B : List Int) (k : Nat), leavesAt (A ++ B) k = leavesAt A k ++ leavesAt B (k + A.length)
  | [], B, k => by simp [leavesAt]
  | f :: A, B, k => by
    have ih := leavesAt_append A B (k + 1)
    rw [List.cons_append, leavesAt, leavesAt, ih, List.length_cons, show k + 1 + A.length = k + (A.length + 1) by omega]
    split
    · simp
    · rfl
theorem leaves_take {F : List Int} {k : Nat} (hk : k < F.length) : leavesAt (F.take (k + 1)) 0 = leavesAt (F.take k) 0 ++ (if 0 < F.getD k 0 then [⟨min (F.getD k 0) 1048576, [k]⟩] else []) := by
  have h1 : F.take (k + 1) = F.take k ++ [F.getD k 0] := by
    rw [List.take_succ_eq_append_getElem hk]
    simp [List.getD, List.getElem?_eq_getElem hk]
  rw [h1, leavesAt_append]
  congr 1
  have h2 : 0 + (F.take k).length = k := by simp; omega
  rw [h2]
  simp only [leavesAt]
theorem leaves_len_le : ∀ (F : List Int) (k : Nat), (leavesAt F k).length ≤ F.length
  | [], _ => by simp [leavesAt]
  | f :: F, k => by
    have ih := leaves_len_le F (k + 1)
    unfold leavesAt
    split
    · simp; omega
    · simp; omega
theorem leaves_syms_len (F : List Int) : (syms (leavesAt F 0)).length = (leavesAt F 0).length := by
  refine syms_len_one _ fun x hx => ?_
  obtain ⟨i, h, _⟩ := leaves_one F 0 x hx
  rw [h]; rfl
end Go.Proofs.Ythmhcnnigepohaa

