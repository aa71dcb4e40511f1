/- packs: a list in ascending order. -/
import Derived.Test.YthmhcnnigepohaaGreatDoorM14
import Derived.Test.YthmhcnnigepohaaGreatDoorM08
namespace Go.Proofs.YthmhcnnigepohaaGreatDoor.Hf
open Go.RowKit

def packsR (l : List Rw) : List Rw := l.foldl (fun s x => insR x s) []
theorem packsR_snoc (l : List Rw) (x : Rw) : packsR (l ++ [x]) = insR x (packsR l) := by simp [packsR]
theorem insR_len (x : Rw) : ∀ l, (insR x l).length = l.length + 1
  | [] => rfl
  | y :: l => by
    unfold insR
    split
    · simp
    · simp [insR_len x l]
theorem insR_mem (x : Rw) : ∀ l z, z ∈ insR x l → z = x ∨ z ∈ l
  | [], z, h => by simpa [insR] using h
  | y :: l, z, h => by
    unfold insR at h
    split at h
    · simpa using h
    · rcases List.mem_cons.1 h with h | h
      · exact .inr (by simp [h])
      · rcases insR_mem x l z h with h | h
        · exact .inl h
        · exact .inr (by simp [h])
theorem insR_srt (x : Rw) : ∀ l, SrtR l → SrtR (insR x l)
  | [], _ => by simp [insR, SrtR]
  | y :: l, h => by
    unfold insR
    unfold SrtR at h
    rw [List.pairwise_cons] at h
    split
    · rename_i hlt
      refine List.pairwise_cons.2 ⟨fun z hz => ?_, List.pairwise_cons.2 h⟩
      rcases List.mem_cons.1 hz with rfl | hz
      · omega
      · have := h.1 z hz; omega
    · rename_i hlt
      refine List.pairwise_cons.2 ⟨fun z hz => ?_, insR_srt x l h.2⟩
      rcases insR_mem x l z hz with rfl | hz
      · omega
      · exact h.1 z hz
theorem foldl_srt : ∀ (l s : List Rw), SrtR s → SrtR (l.foldl (fun s x => insR x s) s)
  | [], _, h => h
  | x :: l, s, h => foldl_srt l (insR x s) (insR_srt x s h)
theorem packsR_srt (l : List Rw) : SrtR (packsR l) := foldl_srt l [] .nil
theorem foldl_len : ∀ (l s : List Rw), (l.foldl (fun s x => insR x s) s).length = s.length + l.length
  | [], s => by simp
  | x :: l, s => by rw [List.foldl_cons, foldl_len l (insR x s), insR_len, List.length_cons]; omega
theorem packsR_len (l : List Rw) : (packsR l).length = l.length := by simp [packsR, foldl_len]
theorem packsR_mem (l : List Rw) : ∀ z ∈ packsR l, z ∈ l := by
  have h : ∀ (l s : List Rw) z, z ∈ l.foldl (fun s x => insR x s) s → z ∈ s ∨ z ∈ l := by
    intro l
    induction l with
    | nil => intro s z h; exact .inl h
    | cons x l ih =>
      intro s z h
      rcases ih _ z h with h1 | h1
      · rcases insR_mem x s z h1 with h2 | h2
        · exact .inr (by simp [h2])
        · exact .inl h2
      · exact .inr (by simp [h1])
  intro z hz
  rcases h l [] z hz with h1 | h1
  · simp at h1
  · exact h1

def KPost (l : List Rw) (w : World) (e : Ending) (w' : World) : Prop :=
  ∃ s v g, e = .returned (.pointer (some ⟨s, 0, none⟩)) ∧ w.heap.size ≤ s ∧ SI w' s v g l ∧ (∀ b, g = some b → w.heap.size ≤ b) ∧ Fr [] w w'

set_option maxRecDepth 100000 in
set_option maxHeartbeats 4000000 in
theorem packs28_any (v : Value) (g : Option Nat) (l : List Rw) (w : World) (h : PAt w v g l) (hl : l.length ≤ 100000) :
    Calls Tryz.prog 54 #[v] w (KPost (packsR l) w) := by
  have HP := hide h
  obtain ⟨av, cv, hv⟩ := SlAt.shape h
  obtain ⟨n, hn⟩ : ∃ n, n = l.length := ⟨_, rfl⟩
  rw [← hn] at hv hl
  subst hv
  have HN := hide hn
  obtain ⟨s, hs⟩ : ∃ s, s = w.heap.size := ⟨_, rfl⟩
  have HS0 : Hid (SI (w.alloc (.cells #[.slice none 0 0, .func (.func 69) #[] #[]] 125)) s (.slice none 0 0) none []) := hide ⟨by rw [hs]; exact heap_alloc_eq rfl, SlAt.nil_ _, by simp⟩
  have HF0 := hide ((Fr.refl [] w).alloc (.cells #[.slice none 0 0, .func (.func 69) #[] #[]] 125))
  have HSW : Hid (w.heap.size ≤ s) := hide (by omega)
  clear h hn
  go_enter Tryz.func54, Tryz.ntmps54
  go_wp2_with fail
  rw [← hs]
  clear hs
  generalize w.alloc (.cells #[.slice none 0 0, .func (.func 69) #[] #[]] 125) = w1 at *
  go_loopg [10] (n + 1) (fun gk i wr => ∃ (k : Nat) (sv : Value) (q : Option Nat), gk = n + 1 - k ∧ k ≤ n ∧ i = .int .i64 k ∧ SI wr s sv q (packsR (l.take k)) ∧ (∀ b, q = some b → w.heap.size ≤ b) ∧ Fr [] w wr)
  case atStart => exact ⟨0, _, none, rfl, by omega, rfl, HS0.out, by simp, HF0.out⟩
  case round =>
    obtain ⟨k, sv, q, hgk, hk, rfl, hsi, hq, hf⟩ := hrel
    have HGK := hide hgk
    have HSI := hide hsi
    have HQ := hide hq
    have HF := hide hf
    by_cases hlt : k < n
    · obtain ⟨x, hx⟩ : ∃ x, l[k]? = some x := ⟨l[k]'(by have := HN.out; omega), List.getElem?_eq_getElem _⟩
      have hpr : PAt wr (.slice av n cv) g l := SlAt.fr HP.out hf (by simp)
      obtain ⟨b, off, cap, hgb, hvv, hbl, c0, c1, -⟩ := hpr.get hx
      obtain ⟨xw, xa, xn, xc⟩ := x
      have HTK : Hid (packsR (l.take (k + 1)) = insR ⟨xw, xa, xn, xc⟩ (packsR (l.take k))) := hide (by
        rw [List.take_add_one, hx]
        exact packsR_snoc _ _)
      rw [← HN.out] at hvv
      injection hvv with hva _ hvc
      subst hva
      subst hvc
      simp only at c0 c1
      have b0 : (0 : Int) ≤ (k : Int) ∧ (k : Int) < (n : Int) := by omega
      have HCALL := hide (insert32_any s sv q (packsR (l.take k)) ⟨xw, xa, xn, xc⟩ (wr.alloc (.cells #[.int .i64 xw, .slice xa xn xc] 120)) (hsi.fr ((Fr.refl [] wr).alloc _)) (packsR_srt _) (by rw [packsR_len]; simp; omega))
      have HFA : Hid (Fr [] w (wr.alloc (.cells #[.int .i64 xw, .slice xa xn xc] 120))) := hide (hf.alloc _)
      clear hgk hsi hq hf hx hpr hgb
      go_wp2_with fail
      refine (unhide HCALL).mono ?_
      rintro e w2 ⟨rfl, v', g', hsi', hf', hg'⟩
      have HSI' := hide hsi'
      have HF' := hide (HFA.out.andThen hf' (by
        intro y hy
        rcases List.mem_cons.1 hy with rfl | hy
        · exact .inr HSW.out
        · exact .inr (HQ.out y (by simpa using hy))))
      have HG' : Hid (∀ b, g' = some b → w.heap.size ≤ b) := hide (by
        intro b hb
        rcases hg' with h | ⟨b2, h1, h2⟩
        · exact HQ.out b (h ▸ hb)
        · rw [h1] at hb
          injection hb with hb
          have := HFA.out.size
          omega)
      clear hsi' hf' hg'
      go_wp2_with fail
      go_roundg (n + 1 - (k + 1))
      case measure => have := HGK.out; omega
      case rel => exact ⟨k + 1, v', g', rfl, by omega, by go_num, by rw [HTK.out]; exact HSI'.out, HG'.out, HF'.out⟩
    · obtain rfl : k = n := by omega
      have HSE : Hid (SI wr s sv q (packsR l)) := hide (by
        have h1 := hsi
        rw [List.take_of_length_le (by have := HN.out; omega)] at h1
        exact h1)
      clear hgk hsi hq hf
      go_wp2
      go_ret
      exact ⟨s, sv, q, rfl, HSW.out, HSE.out, HQ.out, HF.out⟩
end Go.Proofs.YthmhcnnigepohaaGreatDoor.Hf

/- What the cells of packages mean: the plain packages of package-merge. -/
namespace Go.Proofs.YthmhcnnigepohaaGreatDoor.Hf
open Go.RowKit

/-- A package's cells, and the symbols that its slice reads; ok: where these may lie. -/
def Sem (w : World) (ok : Nat → Prop) (x : Rw) (p : Pk) : Prop :=
  ∃ b off cs fr, x.w = p.w ∧ x.n = p.s.length ∧ 0 < p.s.length ∧ x.a = some ⟨b, off, none⟩ ∧ ok b ∧ w.heap[b]? = some (.cells cs 3 fr) ∧ x.n ≤ x.c ∧ ∀ i, i < p.s.length → cs[off + i]? = some (.int .i64 (p.s.getD i 0 : Nat))
theorem Sem.w {w : World} {ok : Nat → Prop} {x : Rw} {p : Pk} (h : Sem w ok x p) : x.w = p.w := by
  obtain ⟨_, _, _, _, h, _⟩ := h
  exact h
theorem Sem.fr {w w' : World} {ok : Nat → Prop} {S : List Nat} {x : Rw} {p : Pk} (h : Sem w ok x p) (hf : Fr S w w') (hS : ∀ b ∈ S, ok b → ∀ cs fr, w.heap[b]? ≠ some (.cells cs 3 fr)) : Sem w' ok x p := by
  obtain ⟨b, off, cs, fr, h1, h2, h3, h4, h5, h6, h7⟩ := h
  exact ⟨b, off, cs, fr, h1, h2, h3, h4, h5, (hf.block b (lt_of_blk h6) (fun hm => hS b hm h5 cs fr h6)).trans h6, h7⟩
theorem Sem.mono {w : World} {ok ok' : Nat → Prop} {x : Rw} {p : Pk} (h : Sem w ok x p) (hk : ∀ b, b < w.heap.size → ok b → ok' b) : Sem w ok' x p := by
  obtain ⟨b, off, cs, fr, h1, h2, h3, h4, h5, h6, h7⟩ := h
  exact ⟨b, off, cs, fr, h1, h2, h3, h4, hk b (lt_of_blk h6) h5, h6, h7⟩

inductive All2 {α β : Type} (R : α → β → Prop) : List α → List β → Prop where
  | nil : All2 R [] []
  | cons {a b l m} (h : R a b) (t : All2 R l m) : All2 R (a :: l) (b :: m)
section
variable {α β : Type} {R R' : α → β → Prop} {l : List α} {m : List β}
theorem All2.len (h : All2 R l m) : l.length = m.length := by
  induction h with
  | nil => rfl
  | cons _ _ ih => simp [ih]
theorem All2.imp (h : All2 R l m) (f : ∀ a b, R a b → R' a b) : All2 R' l m := by
  induction h with
  | nil => exact .nil
  | cons h _ ih => exact .cons (f _ _ h) ih
theorem All2.append {l' : List α} {m' : List β} (h : All2 R l m) (h' : All2 R l' m') : All2 R (l ++ l') (m ++ m') := by
  induction h with
  | nil => exact h'
  | cons h _ ih => exact .cons h ih
theorem All2.get {i : Nat} {a : α} (h : All2 R l m) (ha : l[i]? = some a) : ∃ b, m[i]? = some b ∧ R a b := by
  induction h generalizing i with
  | nil => simp at ha
  | cons h _ ih =>
    cases i with
    | zero => simp at ha; subst ha; exact ⟨_, rfl, h⟩
    | succ i => exact ih (by simpa using ha)
theorem All2.take (h : All2 R l m) (k : Nat) : All2 R (l.take k) (m.take k) := by
  induction h generalizing k with
  | nil => simpa using All2.nil
  | cons h _ ih =>
    cases k with
    | zero => exact .nil
    | succ k => exact .cons h (ih k)
end
theorem ins_all {R : Rw → Pk → Prop} (hR : ∀ a b, R a b → a.w = b.w) {x : Rw} {p : Pk} (hx : R x p) : ∀ {l : List Rw} {m : List Pk}, All2 R l m → All2 R (insR x l) (ins p m)
  | _, _, .nil => .cons hx .nil
  | _, _, .cons (a := y) (b := q) h t => by
    unfold insR ins
    rw [hR _ _ hx, hR _ _ h]
    split
    · exact .cons hx (.cons h t)
    · exact .cons h (ins_all hR hx t)
theorem packs_all {R : Rw → Pk → Prop} (hR : ∀ a b, R a b → a.w = b.w) {l : List Rw} {m : List Pk} (h : All2 R l m) : All2 R (packsR l) (packs m) := by
  have h2 : ∀ {l : List Rw} {m : List Pk}, All2 R l m → ∀ {s : List Rw} {t : List Pk}, All2 R s t → All2 R (l.foldl (fun s x => insR x s) s) (m.foldl (fun s x => ins x s) t) := by
    intro l m h
    induction h with
    | nil => intro s t h; exact h
    | cons h _ ih => intro s t hs; exact ih (ins_all hR h hs)
  exact h2 h .nil

/-! ### sizes -/
theorem syms_len_packs (l : List Pk) : (syms (packs l)).length = (syms l).length := (syms_perm (packs_perm l)).length_eq
theorem syms_len_pairs : ∀ l : List Pk, (syms (pairs l)).length ≤ (syms l).length
  | [] => by simp [pairs]
  | [_] => by simp [pairs, syms]
  | a :: b :: l => by
    have ih := syms_len_pairs l
    simp only [pairs, syms, List.flatMap_cons, List.length_append] at ih ⊢
    omega
theorem syms_len_lev (S : List Pk) : ∀ k, (syms (lev S k)).length ≤ (k + 1) * (syms S).length
  | 0 => by simp [lev]
  | k + 1 => by
    have ih := syms_len_lev S k
    have hp := syms_len_pairs (lev S k)
    show (syms (packs (S ++ pairs (lev S k)))).length ≤ _
    rw [syms_len_packs, syms_append, List.length_append, Nat.add_mul (k + 1) 1, Nat.one_mul]
    omega
theorem syms_mem_len {l : List Pk} {p : Pk} (h : p ∈ l) : p.s.length ≤ (syms l).length := by
  obtain ⟨a, b, rfl⟩ := List.append_of_mem h
  simp [syms]
  omega
theorem phi_bd (F : List Int) (i : Nat) : 0 ≤ phi F i ∧ phi F i ≤ 1048576 := by unfold phi; omega
theorem wt_bd {F : List Int} {p : Pk} (h : Wt F p) : 0 ≤ p.w ∧ p.w ≤ p.s.length * 1048576 := by
  have h2 : ∀ l : List Nat, 0 ≤ (l.map (phi F)).sum ∧ (l.map (phi F)).sum ≤ l.length * 1048576 := by
    intro l
    induction l with
    | nil => simp
    | cons a l ih =>
      have := phi_bd F a
      simp only [List.map_cons, List.sum_cons, List.length_cons]
      omega
  unfold Wt at h
  rw [h]
  exact h2 p.s

/-! ### leaves -/
theorem leavesAt_append : ∀ (A B : List Int) (k : Nat), leavesAt (A ++ B) k = leavesAt A k ++ leavesAt B (k + A.length)
  | [], B, k => by simp [leavesAt]
  | f :: A, B, k => by
    have ih := leavesAt_append A B (k + 1)
    rw [List.cons_append, leavesAt, leavesAt, ih, List.length_cons, show k + 1 + A.length = k + (A.length + 1) by omega]
    split
    · simp
    · rfl
theorem leaves_take {F : List Int} {k : Nat} (hk : k < F.length) : leavesAt (F.take (k + 1)) 0 = leavesAt (F.take k) 0 ++ (if 0 < F.getD k 0 then [⟨min (F.getD k 0) 1048576, [k]⟩] else []) := by
  have h1 : F.take (k + 1) = F.take k ++ [F.getD k 0] := by
    rw [List.take_succ_eq_append_getElem hk]
    simp [List.getD, List.getElem?_eq_getElem hk]
  rw [h1, leavesAt_append]
  congr 1
  have h2 : 0 + (F.take k).length = k := by simp; omega
  rw [h2]
  simp only [leavesAt]
theorem leaves_len_le : ∀ (F : List Int) (k : Nat), (leavesAt F k).length ≤ F.length
  | [], _ => by simp [leavesAt]
  | f :: F, k => by
    have ih := leaves_len_le F (k + 1)
    unfold leavesAt
    split
    · simp; omega
    · simp; omega
theorem leaves_syms_len (F : List Int) : (syms (leavesAt F 0)).length = (leavesAt F 0).length := by
  refine syms_len_one _ fun x hx => ?_
  obtain ⟨i, h, _⟩ := leaves_one F 0 x hx
  rw [h]; rfl
end Go.Proofs.YthmhcnnigepohaaGreatDoor.Hf

/- Lengths: in the program. -/
namespace Go.Proofs.YthmhcnnigepohaaGreatDoor.Hf
open Go.RowKit

/-- Lengths' answer. -/
def lensOf (F : List Int) (most : Int) : List Int :=
  if 320 < F.length ∨ 2 ^ (lim most 1 15).toNat < (leavesAt F 0).length then []
  else if (leavesAt F 0).length < 2 then (List.range F.length).map (fun i => if 0 < F.getD i 0 then 1 else 0)
  else (List.range F.length).map (fun i => ((top F ((lim most 1 15).toNat - 1)).count i : Int))

theorem lim_m (n : Int) : 1 ≤ lim n 1 15 ∧ lim n 1 15 ≤ 15 := by unfold lim; omega
theorem sym_pairs : ∀ (l : List Pk) x, x ∈ syms (pairs l) → x ∈ syms l
  | [], x, h => by simp [pairs, syms] at h
  | [_], x, h => by simp [pairs, syms] at h
  | a :: b :: l, x, h => by
    have ih := sym_pairs l x
    simp only [pairs, syms, List.flatMap_cons, List.mem_append] at ih h ⊢
    rcases h with (h | h) | h
    · exact .inl h
    · exact .inr (.inl h)
    · exact .inr (.inr (ih h))
theorem sym_lev (S : List Pk) : ∀ t x, x ∈ syms (lev S t) → x ∈ syms S
  | 0, x, h => h
  | t + 1, x, h => by
    have h1 : x ∈ syms (packs (S ++ pairs (lev S t))) := h
    have h2 := (syms_perm (packs_perm (S ++ pairs (lev S t)))).mem_iff.1 h1
    rw [syms_append, List.mem_append] at h2
    rcases h2 with h2 | h2
    · exact h2
    · exact sym_lev S t x (sym_pairs _ x h2)
theorem zero51 : ∀ W, (zeroValue 120).run Tryz.prog W = .ok (.agg #[.int .i64 0, .slice none 0 0]) W := fun _ => by kernel_rfl
theorem pair_cells {w : World} {b o : Nat} {u v : Value} (h0 : w.cell? ⟨b, o, none⟩ = some u) (h1 : w.cell? ⟨b, o + 1, none⟩ = some v) : ∀ q x, (#[u, v] : Array Value).toList[q]? = some x → w.cell? ((⟨b, o, none⟩ : Addr).add q) = some x := by
  intro q x hq
  rw [Addr.add_lit]
  match q, hq with
  | 0, hq => simp at hq; subst hq; exact h0
  | 1, hq => simp at hq; subst hq; exact h1
  | q + 2, hq => simp at hq
theorem PAt.all {w : World} {v : Value} {g : Option Nat} {l : List Rw} (h : PAt w v g l) (h0 : 0 < l.length) :
    ∃ b off cap, g = some b ∧ v = .slice (some ⟨b, off, none⟩) l.length cap ∧ b < w.heap.size ∧ ∀ j u, (rcs l)[j]? = some u → w.cell? ((⟨b, off, none⟩ : Addr).add j) = some u := by
  rcases h with ⟨_, _, h1, _⟩ | ⟨b, off, cap, cur, hg, hv, hblk, hnc, hfit, hxs, hcells⟩
  · omega
  · refine ⟨b, off, cap, hg, hv, lt_of_blk hblk, fun j u hj => ?_⟩
    rw [Addr.add_lit, cell_blk hblk]
    exact hcells j u hj
theorem sem_leaf (w : World) (ok : Nat → Prop) (a : Nat) (x : Int) (k : Nat) (h : w.heap[a]? = some (.cells #[.int .i64 (k : Int)] 3 (0, 0))) (hk : ok a) : Sem w ok ⟨x, some ⟨a, 0, none⟩, 1, 1⟩ ⟨x, [k]⟩ :=
  ⟨a, 0, _, _, rfl, rfl, by simp, rfl, hk, h, by simp, fun i hi => by
    obtain rfl : i = 0 := by simpa using hi
    rfl⟩

theorem nI_get (l : List Nat) (i : Nat) (h : i < l.length) : (nI l)[i]? = some (.int .i64 (l.getD i 0 : Nat)) := by
  simp [nI, List.getD, List.getElem?_eq_getElem h]
theorem nI_append (a b : List Nat) : nI (a ++ b) = nI a ++ nI b := by simp [nI]
/-- What a package's slice reads. -/
theorem Sem.reads {w : World} {ok : Nat → Prop} {x : Rw} {p : Pk} (h : Sem w ok x p) : ∃ ad, x.a = some ad ∧ ∀ j u, (nI p.s)[j]? = some u → w.cell? (ad.add j) = some u := by
  obtain ⟨b, off, cs, fr, h1, h2, h3, h4, h5, h6, h7, h8⟩ := h
  refine ⟨_, h4, fun j u hj => ?_⟩
  have hjl : j < p.s.length := by have := (List.getElem?_eq_some_iff.1 hj).1; rwa [nI_len] at this
  rw [nI_get _ _ hjl] at hj
  injection hj with hj
  rw [Addr.add_lit, cell_blk h6, h8 j hjl, hj]
theorem sem_of_row {w : World} {v : Value} {g : Option Nat} {l : List Nat} (h : SlAt 3 1 w v g l.length (nI l)) (h0 : 0 < l.length) (ok : Nat → Prop) (hok : ∀ b, g = some b → ok b) (z : Int) : ∃ a c, v = .slice a l.length c ∧ Sem w ok ⟨z, a, l.length, c⟩ ⟨z, l⟩ := by
  rcases h with ⟨_, _, h1, _⟩ | ⟨b, off, cap, cur, hg, hv, hblk, hnc, hfit, hxs, hcells⟩
  · omega
  · exact ⟨_, _, hv, b, off, cur, (0, 0), rfl, rfl, h0, rfl, hok b hg, hblk, hnc, fun i hi => hcells i _ (nI_get l i hi)⟩

/-- 'append(append([]int{}, x..), y..)'. -/
theorem join_any (wc : World) (ok : Nat → Prop) (x y : Rw) (px py : Pk) (hx : Sem wc ok x px) (hy : Sem wc ok y py) (hb : px.s.length + py.s.length ≤ 1000000) (z : Int) :
    ∃ a7 c7 w7 a8 c8 w8, (Builtin.append_ #[77, 77] 77 #[.slice (some ⟨wc.heap.size, 0, none⟩) 0 0, .slice x.a x.n x.c]).run Tryz.prog ((wc.alloc (.cells #[] 3)).drew) = .ok (.slice a7 x.n c7) w7 ∧
      (Builtin.append_ #[77, 77] 77 #[.slice a7 x.n c7, .slice y.a y.n y.c]).run Tryz.prog w7 = .ok (.slice a8 (x.n + y.n) c8) w8 ∧ Fr [] wc w7 ∧ Fr [] wc w8 ∧ Sem w8 (fun b => wc.heap.size ≤ b) ⟨z, a8, x.n + y.n, c8⟩ ⟨z, px.s ++ py.s⟩ := by
  have hxn : x.n = px.s.length := hx.choose_spec.choose_spec.choose_spec.choose_spec.2.1
  have hyn : y.n = py.s.length := hy.choose_spec.choose_spec.choose_spec.choose_spec.2.1
  have hx0 : 0 < px.s.length := hx.choose_spec.choose_spec.choose_spec.choose_spec.2.2.1
  have hy0 : 0 < py.s.length := hy.choose_spec.choose_spec.choose_spec.choose_spec.2.2.1
  obtain ⟨w0, hw0⟩ : ∃ w0, w0 = (wc.alloc (.cells #[] 3)).drew := ⟨_, rfl⟩
  have hf0 : Fr [] wc w0 := by rw [hw0]; exact ((Fr.refl _ _).alloc _).drew
  have hemp : SlAt 3 1 w0 (.slice (some ⟨wc.heap.size, 0, none⟩) 0 0) (some wc.heap.size) 0 [] := .inr ⟨wc.heap.size, 0, 0, #[], rfl, rfl, by rw [hw0]; exact heap_alloc_eq rfl, by omega, by simp, by simp, by simp⟩
  obtain ⟨ax, hax, hrx⟩ := (hx.fr hf0 (by simp)).reads
  obtain ⟨v7, w7, g7, hap7, hs7, hf7, hg7⟩ := SlAt.append elem3 hemp 77 ax x.n x.c (nI px.s) (by omega) (by rw [nI_len]; omega) hrx (by simp [nI, Value.oneCell']) (by omega) (by unfold maxLen; omega)
  rw [Nat.zero_add, List.nil_append] at hs7
  have hF7 : Fr [] wc w7 := hf0.andThen hf7 (by intro z hz; right; have : z = wc.heap.size := by simpa using hz
                                                omega)
  obtain ⟨a7, c7, hv7⟩ := SlAt.shape hs7
  have hg7n : ∀ b, g7 = some b → wc.heap.size ≤ b := by
    intro b hb
    rcases hg7 with h | ⟨h, _⟩
    · rw [h] at hb; injection hb with hb; omega
    · rw [h] at hb; injection hb with hb; have := hf0.size; omega
  obtain ⟨ay, hay, hry⟩ := (hy.fr hF7 (by simp)).reads
  obtain ⟨v8, w8, g8, hap8, hs8, hf8, hg8⟩ := SlAt.append elem3 hs7 77 ay y.n y.c (nI py.s) (by omega) (by rw [nI_len]; omega) hry (by simp [nI, Value.oneCell']) (by omega) (by unfold maxLen; omega)
  have hF8 : Fr [] wc w8 := hF7.andThen hf8 (by intro z hz; right; exact hg7n z (by simpa using hz))
  have hg8n : ∀ b, g8 = some b → wc.heap.size ≤ b := by
    intro b hb
    rcases hg8 with h | ⟨h, _⟩
    · exact hg7n b (h ▸ hb)
    · rw [h] at hb; injection hb with hb; have := hF7.size; omega
  have hs8' : SlAt 3 1 w8 v8 g8 (px.s ++ py.s).length (nI (px.s ++ py.s)) := by
    rw [nI_append, List.length_append, ← hxn, ← hyn]
    exact hs8
  obtain ⟨a8, c8, hv8, hsem⟩ := sem_of_row hs8' (by rw [List.length_append]; omega) (fun b => wc.heap.size ≤ b) hg8n z
  have hl : (px.s ++ py.s).length = x.n + y.n := by rw [List.length_append]; omega
  rw [hl] at hv8 hsem
  rw [hw0, hv7] at hap7
  rw [hv7, hv8] at hap8
  exact ⟨a7, c7, w7, a8, c8, w8, by rw [hax]; exact hap7, by rw [hay]; exact hap8, hF7, hF8, hsem⟩

set_option maxRecDepth 100000 in
set_option maxHeartbeats 16000000 in
theorem lengths18_any (v : Value) (F : List Int) (most : Int) (w : World) (h : IR w v F) (hl : F.length ≤ 1000) :
    Calls Tryz.prog 34 #[v, .int .i64 most] w (IPost (lensOf F most) w) := by
  have HI := hide h
  obtain ⟨a, cap, rfl, hir⟩ := h
  have hM := lim_m most
  obtain ⟨r, hr⟩ : ∃ r, r = lensOf F most := ⟨_, rfl⟩
  obtain ⟨M, hMd⟩ : ∃ M : Nat, lim most 1 15 = (M : Int) := ⟨(lim most 1 15).toNat, by omega⟩
  rw [hMd] at hM
  have hr2 : r = if 320 < F.length ∨ 2 ^ M < (leavesAt F 0).length then [] else if (leavesAt F 0).length < 2 then (List.range F.length).map (fun i => if 0 < F.getD i 0 then 1 else 0) else (List.range F.length).map (fun i => ((top F (M - 1)).count i : Int)) := by
    rw [hr]
    unfold lensOf
    rw [hMd]
    rfl
  rw [← hr]
  have HR := hide hr2
  have hlimc := limit26_any most 1 15 w
  rw [hMd] at hlimc
  have HLIM := hide hlimc
  obtain ⟨N, hN⟩ : ∃ n, n = F.length := ⟨_, rfl⟩
  have HC : Hid (∀ (k : Nat) (W : World), k < N → Fr [] w W → ∃ x, a = some x ∧ W.cell? (x.add k) = some (.int .i64 (F.getD k 0))) := by
    show ∀ (k : Nat) (W : World), _ → _ → _
    intro k W hk hW
    obtain ⟨b0, c0', e0, g0⟩ := HI.out.fr hW
    injection e0 with e0 _ _
    obtain ⟨x, hx, hx2⟩ := g0 k (by omega)
    exact ⟨x, by rw [e0, hx], hx2⟩
  rw [← hN] at hl ⊢
  have HN := hide hN
  clear HI hir hr hr2 hlimc hN hMd
  go_enter Tryz.func34, Tryz.ntmps34
  go_wp2_with fail
  refine (unhide HLIM).mono ?_
  rintro e w1 ⟨rfl, rfl⟩
  go_wp2_with fail
  go_loopg [5, 25] (N + 1) (fun gk lv i wr => ∃ (k : Nat) (g : Option Nat) (R : List Rw), gk = N + 1 - k ∧ k ≤ N ∧ i = .int .i64 k ∧ PAt wr lv g R ∧ All2 (Sem wr (fun _ => True)) R (leavesAt (F.take k) 0) ∧ (∀ b, g = some b → w.heap.size ≤ b) ∧ Fr [] w wr)
  case atStart => exact ⟨0, none, [], rfl, by omega, rfl, SlAt.nil_ _, .nil, by simp, Fr.refl _ _⟩
  case round =>
    obtain ⟨k, g, R, hgk, hk, rfl, hp, hsem, hg, hf⟩ := hrel
    have HGK := hide hgk
    have HP := hide hp
    have HSEM := hide hsem
    have HG := hide hg
    have HF := hide hf
    have hRl : R.length ≤ 1000 := by
      have h1 := hsem.len
      have h2 := leaves_len_le (F.take k) 0
      simp at h2
      omega
    by_cases hlt : k < N
    · obtain ⟨x, rfl, hx⟩ := HC.out k wr hlt hf
      have hxb := World.block_lt_of_cell? wr _ hx
      have HLT := hide (leaves_take (F := F) (k := k) (by have := HN.out; omega))
      obtain ⟨y, hy⟩ : ∃ y, y = F.getD k 0 := ⟨_, rfl⟩
      rw [← hy] at hx HLT
      clear hy
      by_cases hp0 : 0 < y
      · rw [if_pos hp0] at HLT
        obtain ⟨q, hq⟩ : ∃ q, q = min y 1048576 := ⟨_, rfl⟩
        rw [← hq] at HLT
        obtain ⟨av, cv, hv⟩ := SlAt.shape hp
        have hp1 : PAt (wr.alloc (.cells #[.int .i64 (k : Int)] 3)) u5 g R := SlAt.fr hp ((Fr.refl [] wr).alloc _) (by simp)
        obtain ⟨v', w', g', happ, hp', hf', hg'⟩ := PAt.push hp1 ⟨q, some ⟨wr.heap.size, 0, none⟩, 1, 1⟩ (by omega)
        have hsz : (wr.alloc (.cells #[.int .i64 (k : Int)] 3)).heap.size = wr.heap.size + 1 := by simp
        rw [hsz] at happ
        rw [hv] at happ
        have hap : (Builtin.append_ #[118, 118] 118 #[.slice av R.length cv, .slice (some ⟨wr.heap.size + 1, 0, none⟩) 1 1]).run Tryz.prog ((wr.alloc (.cells #[.int .i64 (k : Int)] 3)).alloc (.cells #[.int .i64 q, .slice (some ⟨wr.heap.size, 0, none⟩) 1 1] 120)) = .ok v' w' := happ
        have HP' := hide hp'
        have HF' := hide ((HF.out.alloc (.cells #[.int .i64 (k : Int)] 3)).andThen hf' (fun z hz => .inr (HG.out z (by simpa using hz))))
        have HG' : Hid (∀ b, g' = some b → w.heap.size ≤ b) := hide (by
          intro b hb
          rcases hg' with h | ⟨b2, h1, h2⟩
          · exact HG.out b (h ▸ hb)
          · rw [h1] at hb
            injection hb with hb
            have := HF.out.size
            omega)
        have HS' : Hid (All2 (Sem w' (fun _ => True)) (R ++ [⟨q, some ⟨wr.heap.size, 0, none⟩, 1, 1⟩]) (leavesAt (F.take (k + 1)) 0)) := hide (by
          rw [HLT.out]
          have hgt : ∀ b ∈ g.toList, ∀ cs fr, (wr.alloc (.cells #[.int .i64 (k : Int)] 3)).heap[b]? ≠ some (.cells cs 3 fr) := by
            intro b hb cs fr hc
            obtain ⟨cur, hcur⟩ := SlAt.lt hp1 b (by simpa using hb)
            rw [hcur] at hc
            injection hc with hc
            injection hc with _ hc _
            cases hc
          refine (hsem.imp fun a p hs => (hs.fr ((Fr.refl [] wr).alloc _) (by simp)).fr hf' (fun b hb _ => hgt b hb)).append (.cons ?_ .nil)
          exact (sem_leaf _ _ wr.heap.size q k (heap_alloc_eq rfl) trivial).fr hf' (fun b hb _ => hgt b hb))
        subst hv
        have HQ := hide hq
        clear hgk hp hsem hg hf happ hp' hf' hg' hp1 hsz hq
        by_cases hq2 : y ≤ 1048576
        · obtain rfl : q = y := by have := HQ.out; omega
          go_wp2_with (at_builtin; refine wpList_append_run rfl _ _ 118 rfl hap rfl rfl ?_)
          go_roundg (N + 1 - (k + 1))
          case measure => have := HGK.out; omega
          case rel => exact ⟨k + 1, g', _, rfl, by omega, by go_num, HP'.out, HS'.out, HG'.out, HF'.out⟩
        · obtain rfl : q = 1048576 := by have := HQ.out; omega
          go_wp2_with (at_builtin; refine wpList_append_run rfl _ _ 118 rfl hap rfl rfl ?_)
          go_roundg (N + 1 - (k + 1))
          case measure => have := HGK.out; omega
          case rel => exact ⟨k + 1, g', _, rfl, by omega, by go_num, HP'.out, HS'.out, HG'.out, HF'.out⟩
      · rw [if_neg hp0, List.append_nil] at HLT
        clear hgk hp hsem hg hf
        go_wp2_with fail
        go_roundg (N + 1 - (k + 1))
        case measure => have := HGK.out; omega
        case rel => exact ⟨k + 1, g, R, rfl, by omega, by go_num, HP.out, by rw [HLT.out]; exact HSEM.out, HG.out, HF.out⟩
    · obtain rfl : k = N := by omega
      obtain ⟨n, hn⟩ : ∃ n, n = R.length := ⟨_, rfl⟩
      have hnl : n = (leavesAt F 0).length := by
        have h1 := hsem.len
        rw [List.take_of_length_le (by have := HN.out; omega)] at h1
        omega
      have HSM : Hid (All2 (Sem wr (fun _ => True)) R (leavesAt F 0)) := hide (by
        have h1 := hsem
        rw [List.take_of_length_le (by have := HN.out; omega)] at h1
        exact h1)
      obtain ⟨av, cv, hv⟩ := SlAt.shape hp
      rw [← hn] at hv hRl
      have hre : r = if 320 < k ∨ 2 ^ M < n then [] else if n < 2 then (List.range k).map (fun i => if 0 < F.getD i 0 then 1 else 0) else (List.range k).map (fun i => ((top F (M - 1)).count i : Int)) := by
        rw [HR.out, HN.out, hnl]
      have HRE := hide hre
      have HNL := hide hnl
      have HRN := hide hn
      subst hv
      clear hgk hp hsem hg hf hre hnl hn
      have hmk := fun w => mk_ints k (by omega) w
      obtain ⟨P, hP⟩ : ∃ P : Nat, P = 2 ^ M := ⟨_, rfl⟩
      have hP2 : (2 : Int) ^ M = (P : Int) := by rw [hP]; simp
      have hPb : P ≤ 32768 := by
        rw [hP]
        have := Nat.pow_le_pow_right (n := 2) (by omega) (show M ≤ 15 by omega)
        omega
      have hP1 : 1 ≤ P := by rw [hP]; exact Nat.one_le_two_pow
      rw [← hP] at HRE
      have HPD := hide hP
      have hM64 : (0 : Int) ≤ (M : Int) ∧ (M : Int) ≤ 64 := by omega
      clear hP
      by_cases hbig : 320 < k
      · have HE : Hid (r = []) := hide (by rw [HRE.out, if_pos (.inl hbig)])
        go_wp2
        go_ret
        exact ⟨_, rfl, by rw [HE.out]; exact IR.nil _, HF.out, Nw.nil _⟩
      by_cases hbig2 : P < n
      · have HE : Hid (r = []) := hide (by rw [HRE.out, if_pos (.inr hbig2)])
        go_wp2
        go_ret
        exact ⟨_, rfl, by rw [HE.out]; exact IR.nil _, HF.out, Nw.nil _⟩
      have HE : Hid (r = if n < 2 then (List.range k).map (fun i => if 0 < F.getD i 0 then 1 else 0) else (List.range k).map (fun i => ((top F (M - 1)).count i : Int))) := hide (by rw [HRE.out, if_neg (by omega)])
      clear HRE
      obtain ⟨O, hO⟩ : ∃ O, O = wr.heap.size := ⟨_, rfl⟩
      obtain ⟨w2, hw2⟩ : ∃ w2, w2 = wr.alloc (.cells (madeCells #[.int .i64 0] k) 3) := ⟨_, rfl⟩
      have HA2 : Hid (Ar w2 O 3 k (fun _ => 0)) := hide (by rw [hw2, hO]; exact made_ar k wr)
      have HF2 : Hid (Fr [] w w2) := hide (by rw [hw2]; exact HF.out.alloc _)
      have HOW : Hid (w.heap.size ≤ O) := hide (by rw [hO]; exact HF.out.size)
      have HP2 : Hid (PAt w2 (.slice av n cv) g R) := hide (by rw [hw2]; exact SlAt.fr HP.out ((Fr.refl [] wr).alloc _) (by simp))
      have HSM2 : Hid (All2 (Sem w2 (fun b => b < O)) R (leavesAt F 0)) := hide (by
        rw [hw2, hO]
        exact HSM.out.imp fun a p hs => (hs.mono (fun b hb _ => hb)).fr ((Fr.refl [] wr).alloc _) (by simp))
      clear hk hlt
      have hd320 : decide ((320 : Int) < (k : Int)) = false := by simp; omega
      by_cases hn2 : n < 2
      · have hdn : decide ((n : Int) < 2) = true := by simp; omega
        go_wp2_with fail
        clear hP2 hM64 hPb hP1 hbig hbig2 hM
        rw [← hO, ← hw2]
        clear hO hw2 hmk
        go_loopg [59] (n + 1) (fun gk i wr => ∃ (j : Nat), gk = n + 1 - j ∧ j ≤ n ∧ i = .int .i64 j ∧ Ar wr O 3 k (fun i => if i ∈ syms ((leavesAt F 0).take j) then 1 else 0) ∧ Fr [O] w2 wr)
        case atStart => exact ⟨0, rfl, by omega, rfl, HA2.out.ext (fun i _ => by simp [syms]), Fr.refl _ _⟩
        case round =>
          obtain ⟨j, hgj, hj, rfl, ho, hf⟩ := hrel
          have HGJ := hide hgj
          have HO := hide ho
          have HFO := hide hf
          clear hgj
          by_cases hjl : j < n
          · obtain ⟨x, hx⟩ : ∃ x, R[j]? = some x := ⟨R[j]'(by have := HRN.out; omega), List.getElem?_eq_getElem _⟩
            obtain ⟨p, hp, hs⟩ := HSM2.out.get hx
            obtain ⟨sy, hs1, hs2, _⟩ := leaves_one F 0 p (List.mem_of_getElem? hp)
            rw [Nat.zero_add] at hs1
            have HTK : Hid (∀ i, i ∈ syms ((leavesAt F 0).take (j + 1)) ↔ i ∈ syms ((leavesAt F 0).take j) ∨ i = sy) := hide (by
              intro i
              rw [List.take_add_one, hp]
              simp [syms, hs1])
            have hgO : ∀ b, g = some b → b ∉ [O] := by
              intro b hb hm
              obtain ⟨cur, hc⟩ := SlAt.lt HP2.out b hb
              obtain ⟨cur2, hc2, _⟩ := HA2.out
              rw [List.mem_singleton.1 hm, hc2] at hc
              injection hc with hc
              injection hc with _ hc _
              cases hc
            have hpr : PAt wr (.slice av n cv) g R := SlAt.fr HP2.out hf hgO
            obtain ⟨b, off, cap2, hgb, hvv, hbl, c0, c1, -⟩ := hpr.get hx
            have hs' := hs.fr hf (fun b hb hb2 => by rw [List.mem_singleton.1 hb] at hb2; omega)
            obtain ⟨xw, xa, xn, xc⟩ := x
            obtain ⟨b2, o2, cs2, fr2, e1, e2, e3, e4, e5, e6, e7, e8⟩ := hs'
            rw [hs1] at e2 e8
            simp only at e1 e2 e4 e7 c0 c1
            subst e4
            have e2' : xn = 1 := e2
            subst e2'
            clear e2
            have hc2 : wr.cell? ⟨b2, o2, none⟩ = some (.int .i64 (sy : Int)) := by
              simp only [World.cell?, e6]
              exact e8 0 (by simp)
            have hb2l := lt_of_blk e6
            rw [← HRN.out] at hvv
            injection hvv with hva _ hvc
            subst hva
            subst hvc
            obtain ⟨u, hoc⟩ : ∃ u, wr.cell? ⟨O, sy, none⟩ = some (.int .i64 u) := ⟨_, ho.cell (i := sy) (by have := HN.out; omega)⟩
            have hofz := ho.froz sy
            have hOl := ho.lt
            have b0 : (0 : Int) ≤ (j : Int) ∧ (j : Int) < (n : Int) := by omega
            have b1 : (0 : Int) ≤ (sy : Int) ∧ (sy : Int) < (k : Int) := by have := HN.out; omega
            have HSYL := hide hs2
            clear ho hf hx hp hs hpr hgb e6 e8 hgO e1 e3 e5 e7 hs1 hs2
            go_wp2_with fail
            go_roundg (n + 1 - (j + 1))
            case measure => have := HGJ.out; omega
            case rel =>
              refine ⟨j + 1, rfl, by omega, by go_num, ?_, (HFO.out.setCell (.inl (by simp)) _).alloc _⟩
              refine Ar.ext (Ar.fr (Ar.set (m := sy) HO.out (by have := HN.out; have := HSYL.out; omega) 1) ((Fr.refl [] _).alloc _) (by simp)) fun i hi => ?_
              by_cases he : i = sy
              · simp only [if_pos he]
                rw [if_pos ((HTK.out i).2 (.inr he))]
              · simp only [if_neg he]
                by_cases h1 : i ∈ syms ((leavesAt F 0).take j)
                · rw [if_pos h1, if_pos ((HTK.out i).2 (.inl h1))]
                · rw [if_neg h1, if_neg (fun h => ((HTK.out i).1 h).elim h1 he)]
          · obtain rfl : j = n := by omega
            have HRES : Hid (IR wr (.slice (some ⟨O, 0, none⟩) k k) r) := hide (by
              rw [HE.out, if_pos hn2]
              refine (ho.ext (fun i hi => ?_)).ints
              rw [List.take_of_length_le (by have := HNL.out; omega), leaves_syms]
              have h1 := used_mem F 0 i (by have := HN.out; omega)
              rw [Nat.zero_add] at h1
              by_cases h2 : 0 < F.getD i 0
              · rw [if_pos h2, if_pos (h1.2 h2)]
              · rw [if_neg h2, if_neg (fun h => h2 (h1.1 h))])
            have HFE := hide (HF2.out.andThen hf (by have := HOW.out; simp; omega))
            clear ho hf
            go_wp2
            go_ret
            exact ⟨_, rfl, HRES.out, HFE.out, Nw.mk HOW.out (Nat.le_refl _)⟩
      · have hdn : decide ((n : Int) < 2) = false := by simp; omega
        have hnp : n ≤ P := by omega
        have HNP := hide hnp
        have HK := hide (packs28_any (.slice av n cv) g R w2 HP2.out (by have := HRN.out; omega))
        have hm1 : IntKind.i64.wrap ((M : Int) - 1) = (M : Int) - 1 := IntWalk.i64_in _ (by omega)
        go_wp2_with fail
        rw [← hO, ← hw2]
        clear hO hw2 hmk hnp hP2 hM64 hPb hP1 hbig hbig2
        refine (unhide HK).mono ?_
        rintro e w3 ⟨s0, v0, g0, rfl, hs0, hsi, hg0, hf⟩
        have HSI0 := hide hsi
        have HG0 := hide hg0
        have HF3 := hide (HF2.out.trans hf)
        have HS3 : Hid (w2.heap.size ≤ s0) := hide hs0
        have HSP : Hid (All2 (Sem w3 (fun b => b ≠ O)) (packsR R) (packs (leavesAt F 0))) := hide (packs_all (fun _ _ h => h.w) (HSM2.out.imp fun x p hs => (hs.mono (fun b hb hk => by omega)).fr hf (by simp)))
        have HA3 : Hid (Ar w3 O 3 k (fun _ => 0)) := hide (HA2.out.fr hf (by simp))
        obtain ⟨av0, cv0, hv0⟩ := SlAt.shape hsi.2.1
        have hpl : (packsR R).length = n := by rw [packsR_len]; exact HRN.out.symm
        rw [hpl] at hv0
        have d0 := hsi.c0
        have hsl0 := lt_of_blk hsi.1
        subst hv0
        clear hs0 hsi hg0 hf hpl
        go_wp2_with fail
        obtain ⟨S, hS⟩ : ∃ S, S = packs (leavesAt F 0) := ⟨_, rfl⟩
        rw [← hS] at HSP
        have HSD := hide hS
        have HSN : Hid (S.length = n) := hide (by rw [hS, (packs_perm _).length_eq]; exact HNL.out.symm)
        have HSY : Hid ((syms S).length = n) := hide (by rw [hS, syms_len_packs, leaves_syms_len]; exact HNL.out.symm)
        have hM1 : 1 ≤ M := by omega
        have HWT : Hid (∀ t, ∀ x ∈ lev S t, Wt F x) := hide (wt_lev F S (by
          rw [hS]
          exact fun x hx => wt_leaf F x ((packs_perm _).mem_iff.1 hx)))
        clear hS d0 hsl0 hm1
        go_loopg [12, 79] M (fun gk lp i wr => ∃ (t s : Nat) (v : Value) (g : Option Nat) (Q : List Rw), gk = M - t ∧ t ≤ M - 1 ∧ i = .int .i64 t ∧ lp = .pointer (some ⟨s, 0, none⟩) ∧ SI wr s v g Q ∧ All2 (Sem wr (fun b => b ≠ O)) Q (lev S t) ∧ Fr [] w3 wr)
        case atStart => exact ⟨0, s0, _, g0, packsR R, rfl, by omega, rfl, rfl, HSI0.out, HSP.out, Fr.refl _ _⟩
        case round =>
          obtain ⟨t, s, v, g, Q, hgt, ht, rfl, rfl, hsi, hsem, hf⟩ := hrel
          have HGT := hide hgt
          have HSI := hide hsi
          have HSM4 := hide hsem
          have HF4 := hide hf
          have hlv := lev_len_le S t
          have hlq : Q.length ≤ 2 * n := by have := hsem.len; have := HSN.out; omega
          obtain ⟨qv, qc, hqv⟩ := SlAt.shape hsi.2.1
          obtain ⟨m, hm⟩ : ∃ m, m = Q.length := ⟨_, rfl⟩
          rw [← hm] at hqv hlq
          have HM := hide hm
          subst hqv
          by_cases hlt : t < M - 1
          · have hlt2 : (t : Int) < (M : Int) - 1 := by omega
            obtain ⟨w5, hw5⟩ : ∃ w5, w5 = wr.alloc (.cells #[] 120) := ⟨_, rfl⟩
            have hemp : SlAt 120 2 w5 (.slice (some ⟨wr.heap.size, 0, none⟩) 0 0) (some wr.heap.size) 0 [] := .inr ⟨wr.heap.size, 0, 0, #[], rfl, rfl, by rw [hw5]; exact heap_alloc_eq rfl, by omega, by simp, by simp, by simp⟩
            have hlp : PAt w5 (.slice av0 n cv0) g0 (packsR R) := SlAt.fr HSI0.out.2.1 (by rw [hw5]; exact hf.alloc _) (by simp)
            have hpl : (packsR R).length = n := by rw [packsR_len]; exact HRN.out.symm
            obtain ⟨b0, o0, k0, hgb0, hvv0, hbl0, hall0⟩ := hlp.all (by omega)
            rw [hpl] at hvv0
            injection hvv0 with hva0 hvn0 hvc0
            clear hvn0
            subst hva0
            obtain ⟨nv, w6, ng, hap0, hpn, hfn, hgn⟩ := SlAt.append elem51 hemp 118 ⟨b0, o0, none⟩ n cv0 (rcs (packsR R)) (by omega) (by rw [rcs_len, hpl]) hall0 (rcs_one _) (by omega) (by unfold maxLen; omega)
            rw [Nat.zero_add, List.nil_append] at hpn
            have HPN : Hid (PAt w6 nv ng (packsR R)) := hide (by unfold PAt; rw [hpl]; exact hpn)
            have HFN := hide ((hf.alloc (.cells #[] 120)).andThen (by rw [← hw5]; exact hfn) (by
              intro y hy
              right
              have h1 : y = wr.heap.size := by simpa using hy
              have := hf.size
              omega))
            have HGN : Hid (∀ b, ng = some b → wr.heap.size ≤ b) := hide (by
              intro b hb
              rcases hgn with h | ⟨h1, _⟩
              · rw [h] at hb; injection hb with hb; omega
              · rw [h1] at hb; injection hb with hb
                rw [← hb, hw5]; simp)
            have HF45 : Hid (Fr [] wr w6) := hide (((Fr.refl [] wr).alloc (.cells #[] 120)).andThen (by rw [← hw5]; exact hfn) (by
              intro y hy
              right
              have h1 : y = wr.heap.size := by simpa using hy
              omega))
            obtain ⟨nav, ncv, hnv⟩ := SlAt.shape hpn
            rw [hnv] at hap0
            rw [hw5] at hap0
            have HNV := hide hnv
            clear hgt hsi hsem hf hlv hm hemp hlp hpl hgb0 hbl0 hall0 hpn hfn hgn hnv hvc0 hw5
            go_wp2_with (at_builtin; refine wpList_append_run rfl _ _ 118 rfl hap0 rfl rfl ?_)
            have HDEC : Hid (decide ((t : Int) < (M : Int) - 1) = true) := hide (by simp; omega)
            rw [HNV.out] at HPN
            clear HNV hap0
            obtain ⟨wo, rfl⟩ : ∃ wo : World, wo = wr := ⟨_, rfl⟩
            obtain ⟨wz, hwz⟩ : ∃ wz, wz = w6 := ⟨_, rfl⟩
            rw [← hwz] at HPN HFN HF45 ⊢
            clear hwz
            go_loopg [13, 14] (m + 3) (fun gk nx i wr => ∃ (j q : Nat) (g : Option Nat) (X : List Rw), gk = m + 3 - q ∧ q ≤ m ∧ q = 2 * j ∧ i = .int .i64 q ∧ PAt wr nx g (packsR R ++ X) ∧ All2 (Sem wr (fun b => b ≠ O)) X ((pairs (lev S t)).take j) ∧ (∀ b, g = some b → wo.heap.size ≤ b) ∧ Fr [] wo wr)
            case atStart => exact ⟨0, 0, ng, [], rfl, by omega, rfl, rfl, by rw [List.append_nil]; exact HPN.out, .nil, HGN.out, HF45.out⟩
            case round =>
              obtain ⟨j, q, g, X, hgj, hj, hqj, rfl, hp, hsm, hg, hf⟩ := hrel
              have HGJ := hide hgj
              have HP := hide hp
              have HSX := hide hsm
              have HG := hide hg
              have HF := hide hf
              have hsi : SI wr s (.slice qv m qc) _ Q := HSI.out.fr hf
              by_cases hlt2 : q + 1 < m
              · obtain ⟨x, hx⟩ : ∃ x, Q[q]? = some x := ⟨Q[q]'(by have := HM.out; omega), List.getElem?_eq_getElem _⟩
                obtain ⟨y, hy⟩ : ∃ x, Q[q + 1]? = some x := ⟨Q[q + 1]'(by have := HM.out; omega), List.getElem?_eq_getElem _⟩
                obtain ⟨px, hpx, hsx⟩ := HSM4.out.get hx
                obtain ⟨py, hpy, hsy⟩ := HSM4.out.get hy
                obtain ⟨xw, xa, xn, xc⟩ := x
                obtain ⟨yw, ya, yn, yc⟩ := y
                have HPAIR : Hid ((pairs (lev S t)).take (j + 1) = (pairs (lev S t)).take j ++ [⟨px.w + py.w, px.s ++ py.s⟩]) := hide (by
                  rw [List.take_add_one, pairs_get, show 2 * j = q by omega, hpx, hpy]
                  rfl)
                obtain ⟨b, off, cap2, hgb, hvv, hbl, c0, c1, -⟩ := hsi.2.1.get hx
                obtain ⟨b', off', cap3, hgb', hvv', hbl', c2, c3, -⟩ := hsi.2.1.get hy
                rw [← HM.out] at hvv hvv'
                injection hvv with hva hvn hvc
                subst hva
                subst hvc
                injection hvv' with hva' hvn' hvc'
                injection hva' with hva'
                injection hva' with hvb' hvo' _
                subst hvb' hvo' hvc'
                simp only at c0 c1 c2 c3
                have d0 := hsi.c0
                have hsl := lt_of_blk hsi.1
                have b0 : (0 : Int) ≤ (q : Int) ∧ (q : Int) < (m : Int) := by omega
                have b1 : (0 : Int) ≤ (q : Int) + 1 ∧ (q : Int) + 1 < (m : Int) := by omega
                have z1 : IntKind.i64.wrap ((q : Int) + 1) = (q : Int) + 1 := IntWalk.i64_in _ (by omega)
                have z2 : ((q : Int) + 1).toNat = q + 1 := by omega
                have HX := hide (And.intro hsx hsy)
                have HMEM := hide (And.intro (List.mem_of_getElem? hpx) (List.mem_of_getElem? hpy))
                have hsxf := hsx.fr HF.out (by simp)
                have hsyf := hsy.fr HF.out (by simp)
                have HXF := hide (And.intro hsxf hsyf)
                clear hsxf hsyf
                have HQJ := hide hqj
                clear hgj hp hsm hg hf hsi hx hy hpx hpy hsx hsy hgb hgb' hvn hvn' hqj hbl'
                go_upto_region 28 with (fail)
                go_cut [15, 16] from 94 to 108 (fun pa pb wd => ∃ A B : Nat, pa = .pointer (some ⟨A, 0, none⟩) ∧ pb = .pointer (some ⟨B, 0, none⟩) ∧ wd.heap[A]? = some (.cells #[.int .i64 xw, .slice xa xn xc] 120 (0, 0)) ∧ wd.heap[B]? = some (.cells #[.int .i64 yw, .slice ya yn yc] 120 (0, 0)) ∧ wr.heap.size ≤ A ∧ wr.heap.size ≤ B ∧ Fr [] wr wd)
                case first =>
                  go_region_held3 (fun W => W.cell? ⟨s, 0, none⟩ = some (.slice (some ⟨b, off, none⟩) m qc) ∧ W.cell? ⟨b, off + q * 2, none⟩ = some (.int .i64 xw) ∧ W.cell? ⟨b, off + q * 2 + 1, none⟩ = some (.slice xa xn xc) ∧ W.cell? ⟨b, off + (q + 1) * 2, none⟩ = some (.int .i64 yw) ∧ W.cell? ⟨b, off + (q + 1) * 2 + 1, none⟩ = some (.slice ya yn yc)) (go_keep) (fail)
                  all_goals
                    go_wp2
                    go_meet
                    case rel =>
                      first
                        | exact ⟨_, _, rfl, rfl, (heap_alloc_lt (by simp)).trans (heap_alloc_eq rfl), heap_alloc_eq (by simp), by simp, by simp, (((Fr.refl [] wr).alloc _).alloc _).drew⟩
                        | exact ⟨_, _, rfl, rfl, heap_alloc_eq (by simp), (heap_alloc_lt (by simp)).trans (heap_alloc_eq rfl), by simp, by simp, (((Fr.refl [] wr).alloc _).alloc _).drew⟩
                case rest =>
                obtain ⟨A, B, rfl, rfl, hA, hB, hAw, hBw, hfc⟩ := hcut
                obtain ⟨nxv, nxc, hnx⟩ := SlAt.shape HP.out
                obtain ⟨L, hL⟩ : ∃ L, L = (packsR R ++ X).length := ⟨_, rfl⟩
                rw [← hL] at hnx
                have HLL := hide hL
                have hbx : px.s.length + py.s.length ≤ 1000000 ∧ 0 ≤ xw ∧ xw ≤ 1000000000000 ∧ 0 ≤ yw ∧ yw ≤ 1000000000000 := by
                  have e1 : xw = px.w := HXF.out.1.w
                  have e2 : yw = py.w := HXF.out.2.w
                  obtain ⟨m1, m2⟩ := HMEM.out
                  have f1 := wt_bd (HWT.out t px m1)
                  have f2 := wt_bd (HWT.out t py m2)
                  have g1 := syms_mem_len m1
                  have g2 := syms_mem_len m2
                  have g3 := syms_len_lev S t
                  have g4 : (t + 1) * (syms S).length ≤ 15 * 1000 := Nat.mul_le_mul (by omega) (by have := HSY.out; omega)
                  omega
                obtain ⟨a7, c7, w7, a8, c8, w8, hap7, hap8, hF7, hF8, hsem8⟩ := join_any wc (fun b => b ≠ O) ⟨xw, xa, xn, xc⟩ ⟨yw, ya, yn, yc⟩ px py (HXF.out.1.fr hfc (by simp)) (HXF.out.2.fr hfc (by simp)) hbx.1 (xw + yw)
                simp only at hap7 hap8 hsem8
                have hp8 : PAt w8 (.slice nxv L nxc) g (packsR R ++ X) := by
                  rw [← hnx]
                  exact (SlAt.fr (SlAt.fr HP.out hfc (by simp)) hF8 (by simp))
                obtain ⟨v9, w9, g9, hap9, hp9, hf9, hg9⟩ := PAt.push hp8 ⟨xw + yw, a8, xn + yn, c8⟩ (by
                  have h1 := HSX.out.len
                  rw [List.length_take, pairs_len] at h1
                  have h2 := lev_len_le S t
                  have h3 := packsR_len R
                  have := HRN.out
                  have := HSN.out
                  rw [List.length_append]
                  omega)
                simp only at hap9
                have hA7 : w7.heap[A]? = _ := (hF7.block A (lt_of_blk hA) (by simp)).trans hA
                have hB7 : w7.heap[B]? = _ := (hF7.block B (lt_of_blk hB) (by simp)).trans hB
                have hA8 : w8.heap[A]? = _ := (hF8.block A (lt_of_blk hA) (by simp)).trans hA
                have hB8 : w8.heap[B]? = _ := (hF8.block B (lt_of_blk hB) (by simp)).trans hB
                have hgn : ∀ b ∈ g.toList, b < wr.heap.size := by
                  intro b hb
                  obtain ⟨cur, hc⟩ := SlAt.lt HP.out b (by simpa using hb)
                  exact lt_of_blk hc
                have hA9 : w9.heap[A]? = _ := (hf9.block A (lt_of_blk hA8) (fun hm => by have := hgn A hm; omega)).trans hA8
                have hB9 : w9.heap[B]? = _ := (hf9.block B (lt_of_blk hB8) (fun hm => by have := hgn B hm; omega)).trans hB8
                have x0 : wc.cell? ⟨A, 0, none⟩ = some (.int .i64 xw) := cell_blk hA 0
                have x1 : wc.cell? ⟨A, 1, none⟩ = some (.slice xa xn xc) := cell_blk hA 1
                have y0 : wc.cell? ⟨B, 0, none⟩ = some (.int .i64 yw) := cell_blk hB 0
                have y1 : wc.cell? ⟨B, 1, none⟩ = some (.slice ya yn yc) := cell_blk hB 1
                have x07 : w7.cell? ⟨A, 0, none⟩ = some (.int .i64 xw) := cell_blk hA7 0
                have x17 : w7.cell? ⟨A, 1, none⟩ = some (.slice xa xn xc) := cell_blk hA7 1
                have y07 : w7.cell? ⟨B, 0, none⟩ = some (.int .i64 yw) := cell_blk hB7 0
                have y17 : w7.cell? ⟨B, 1, none⟩ = some (.slice ya yn yc) := cell_blk hB7 1
                have x08 : w8.cell? ⟨A, 0, none⟩ = some (.int .i64 xw) := cell_blk hA8 0
                have x18 : w8.cell? ⟨A, 1, none⟩ = some (.slice xa xn xc) := cell_blk hA8 1
                have y08 : w8.cell? ⟨B, 0, none⟩ = some (.int .i64 yw) := cell_blk hB8 0
                have y18 : w8.cell? ⟨B, 1, none⟩ = some (.slice ya yn yc) := cell_blk hB8 1
                have x09 : w9.cell? ⟨A, 0, none⟩ = some (.int .i64 xw) := cell_blk hA9 0
                have x19 : w9.cell? ⟨A, 1, none⟩ = some (.slice xa xn xc) := cell_blk hA9 1
                have y09 : w9.cell? ⟨B, 0, none⟩ = some (.int .i64 yw) := cell_blk hB9 0
                have y19 : w9.cell? ⟨B, 1, none⟩ = some (.slice ya yn yc) := cell_blk hB9 1
                have l1 := lt_of_blk hA
                have l2 := lt_of_blk hB
                have l3 := lt_of_blk hA7
                have l4 := lt_of_blk hB7
                have l5 := lt_of_blk hA8
                have l6 := lt_of_blk hB8
                have HP9 := hide hp9
                have HFR : Hid (Fr [] wo w9) := hide (((HF.out.trans hfc).trans hF8).andThen hf9 (fun z hz => .inr (HG.out z (by simpa using hz))))
                have HG9 : Hid (∀ b, g9 = some b → wo.heap.size ≤ b) := hide (by
                  intro b hb
                  rcases hg9 with h | ⟨b2, h1, h2⟩
                  · exact HG.out b (h ▸ hb)
                  · rw [h1] at hb
                    injection hb with hb
                    have := ((HF.out.trans hfc).trans hF8).size
                    omega)
                have HS9 : Hid (All2 (Sem w9 (fun b => b ≠ O)) (X ++ [⟨xw + yw, a8, xn + yn, c8⟩]) ((pairs (lev S t)).take (j + 1))) := hide (by
                  have hgt : ∀ b ∈ g.toList, ∀ cs fr, w8.heap[b]? ≠ some (.cells cs 3 fr) := by
                    intro b hb cs fr hc
                    obtain ⟨cur, hcur⟩ := SlAt.lt hp8 b (by simpa using hb)
                    rw [hcur] at hc
                    injection hc with hc
                    injection hc with _ hc _
                    cases hc
                  rw [HPAIR.out]
                  refine (HSX.out.imp fun x p hs => ((hs.fr hfc (by simp)).fr hF8 (by simp)).fr hf9 (fun b hb _ => hgt b hb)).append (.cons ?_ .nil)
                  have e1 : xw = px.w := HXF.out.1.w
                  have e2 : yw = py.w := HXF.out.2.w
                  have h9 := (hsem8.mono (ok' := fun b => b ≠ O) (fun b _ hb => by
                    have h1 := HA3.out.lt
                    have h2 := HF4.out.size
                    have h3 := HF.out.size
                    have h4 := hfc.size
                    omega)).fr hf9 (fun b hb _ => hgt b hb)
                  rw [← e1, ← e2]
                  exact h9)
                clear hA7 hB7 hA8 hB8 hA9 hB9 hA hB hp9 hp8 hsem8 hf9 hg9 hF7 hF8 hgn hL
                subst hnx
                have zs : IntKind.i64.wrap (xw + yw) = xw + yw := IntWalk.i64_in _ (by omega)
                go_upto_region 29 with (fail)
                go_region_held3 (fun W => W.cell? ⟨A, 0, none⟩ = some (.int .i64 xw) ∧ W.cell? ⟨A, 1, none⟩ = some (.slice xa xn xc) ∧ W.cell? ⟨B, 0, none⟩ = some (.int .i64 yw) ∧ W.cell? ⟨B, 1, none⟩ = some (.slice ya yn yc)) (go_keep) (first | ((with_reducible refine step_append_run rfl _ _ 77 rfl hap7 ?_ ?_ ?_); rfl; rfl) | ((with_reducible refine step_append_run rfl _ _ 77 rfl hap8 ?_ ?_ ?_); rfl; rfl) | ((with_reducible refine step_append_run rfl _ _ 118 rfl hap9 ?_ ?_ ?_); rfl; rfl))
                go_wp2_with fail
                go_roundg (m + 3 - (q + 2))
                case measure => have := HGJ.out; omega
                case rel => exact ⟨j + 1, q + 2, g9, X ++ [⟨xw + yw, a8, xn + yn, c8⟩], rfl, by omega, by have := HQJ.out; omega, by go_num, by rw [← List.append_assoc]; exact HP9.out, HS9.out, HG9.out, HFR.out⟩
              · have hjm : (pairs (lev S t)).take j = pairs (lev S t) := List.take_of_length_le (by
                  rw [pairs_len]
                  have := HSM4.out.len
                  have := HM.out
                  omega)
                have HNEXT : Hid (All2 (Sem wr (fun b => b ≠ O)) (packsR R ++ X) (S ++ pairs (lev S t))) := hide (by
                  rw [hjm] at hsm
                  exact (HSP.out.imp fun x p hs => (hs.fr HF4.out (by simp)).fr hf (by simp)).append hsm)
                have hxl : (packsR R ++ X).length ≤ 100000 := by
                  have h1 := hsm.len
                  rw [List.length_take, pairs_len] at h1
                  have h2 := lev_len_le S t
                  have h3 := packsR_len R
                  have := HRN.out
                  have := HSN.out
                  rw [List.length_append]
                  omega
                obtain ⟨nxv, nxc, hnx⟩ := SlAt.shape hp
                obtain ⟨L, hL⟩ : ∃ L, L = (packsR R ++ X).length := ⟨_, rfl⟩
                rw [← hL] at hnx
                have HLL := hide hL
                subst hnx
                have HK2 := hide (packs28_any _ g (packsR R ++ X) wr hp hxl)
                clear hL
                have d0 := hsi.c0
                have hsl := lt_of_blk hsi.1
                have hq1 : ¬ ((q : Int) + 1 < (m : Int)) := by omega
                clear hgj hp hsm hg hf hsi hqj hjm hxl
                go_wp2_with fail
                refine (unhide HK2).mono ?_
                rintro e wk ⟨sk, vk, gk2, rfl, hsk, hsik, hgk2, hfk⟩
                have HSK := hide hsik
                have HFK := hide ((HF4.out.trans HF.out).trans hfk)
                have HSMK : Hid (All2 (Sem wk (fun b => b ≠ O)) (packsR (packsR R ++ X)) (lev S (t + 1))) := hide (by
                  have h1 : lev S (t + 1) = packs (S ++ pairs (lev S t)) := rfl
                  rw [h1]
                  exact packs_all (fun _ _ h => h.w) (HNEXT.out.imp fun x p hs => hs.fr hfk (by simp)))
                clear hsk hsik hgk2 hfk
                go_wp2_with fail
                go_roundg (M - (t + 1))
                case measure => have := HGT.out; omega
                case rel => exact ⟨t + 1, sk, vk, gk2, packsR (packsR R ++ X), rfl, by omega, by go_num, rfl, HSK.out, HSMK.out, HFK.out⟩
          · obtain rfl : t = M - 1 := by omega
            have henough : 2 * n - 2 ≤ m := by
              have h1 := lev_enough S (M - 1) (by have := HSN.out; omega) (by rw [show M - 1 + 1 = M by omega, ← HPD.out]; have := HSN.out; have := HNP.out; omega)
              have := HSN.out
              have := hsem.len
              have := HM.out
              omega
            obtain ⟨b, off, cap2, hgb, hvv, hbl, hall⟩ := hsi.2.1.all (by have := HM.out; omega)
            have hcapm : m ≤ qc := by
              rcases hsi.2.1 with ⟨_, _, h1, _⟩ | ⟨b', off', cap', cur', hg', hv', hblk', hnc', _⟩
              · have := HM.out; omega
              · injection hv' with _ _ hc'
                have := HM.out
                omega
            rw [← HM.out] at hvv
            injection hvv with hva hvn hvc
            subst hva
            subst hvc
            have HQP : Hid (PAt wr (.slice (some ⟨b, off, none⟩) m qc) g Q) := hide hsi.2.1
            have HAO : Hid (Ar wr O 3 k (fun _ => 0)) := hide (HA3.out.fr hf (by simp))
            have HFE : Hid (Fr [] w wr) := hide (HF3.out.trans hf)
            have HSYN : Hid (∀ x ∈ syms (lev S (M - 1)), x < k) := hide (by
              intro x hx
              have h1 := sym_lev S (M - 1) x hx
              rw [HSD.out] at h1
              have h2 := (syms_perm (packs_perm (leavesAt F 0))).mem_iff.1 h1
              rw [leaves_syms] at h2
              have h3 := used_ge F 0 x h2
              have := HN.out
              omega)
            have d0 := hsi.c0
            have hsl := lt_of_blk hsi.1
            have hlt3 : ¬ (((M - 1 : Nat) : Int) < (M : Int) - 1) := by omega
            have hz1 : (0 : Int) ≤ 2 * (n : Int) - 2 ∧ 2 * (n : Int) - 2 ≤ (qc : Int) := by omega
            have hz2 : (2 * (n : Int) - 2).toNat = 2 * n - 2 := by omega
            have hz3 : ¬ qc = 0 := by omega
            have hz4 : (M : Int) - 1 ≤ ((M - 1 : Nat) : Int) := by omega
            have hz5 : ((M - 1 : Nat) : Int) = (M : Int) - 1 := by omega
            have HEN := hide henough
            clear hgt hsi hsem hf hlv hm hgb hbl hall hvn henough hcapm
            obtain ⟨Z, hZ⟩ : ∃ Z, Z = 2 * n - 2 := ⟨_, rfl⟩
            rw [← hZ] at hz2
            have HZ := hide hZ
            have hz6 : (Z : Int) ≤ 100000 := by omega
            clear hZ
            go_wp2_with fail
            clear hz1 hz2 hz3 hz4 hz5 hlt3 d0 hsl
            obtain ⟨wo, rfl⟩ : ∃ wo : World, wo = wr := ⟨_, rfl⟩
            obtain ⟨T, hT⟩ : ∃ T, T = lev S (M - 1) := ⟨_, rfl⟩
            rw [← hT] at HSYN HSM4
            have HTD := hide hT
            have HTL : Hid ((syms T).length ≤ 16000) := hide (by
              have h3 := syms_len_lev S (M - 1)
              have h4 : (M - 1 + 1) * (syms S).length ≤ 16 * 1000 := Nat.mul_le_mul (by omega) (by have := HSY.out; omega)
              rw [hT]
              omega)
            clear hT
            go_loopg [137] (Z + 1) (fun gk i wr => ∃ (j : Nat), gk = Z + 1 - j ∧ j ≤ Z ∧ i = .int .i64 j ∧ Ar wr O 3 k (fun i => ((syms (T.take j)).count i : Int)) ∧ Fr [O] wo wr)
            case atStart => exact ⟨0, rfl, by omega, rfl, HAO.out.ext (fun i _ => by simp [syms]), Fr.refl _ _⟩
            case round =>
              obtain ⟨j, hgj, hj, rfl, ho, hf⟩ := hrel
              have HGJ := hide hgj
              have HO := hide ho
              have HFO := hide hf
              have hgO : ∀ b, g = some b → b ∉ [O] := by
                intro b hb hm
                obtain ⟨cur, hc⟩ := SlAt.lt HQP.out b hb
                obtain ⟨cur2, hc2, _⟩ := HAO.out
                rw [List.mem_singleton.1 hm, hc2] at hc
                injection hc with hc
                injection hc with _ hc _
                cases hc
              by_cases hjl : j < Z
              · obtain ⟨x, hx⟩ : ∃ x, Q[j]? = some x := ⟨Q[j]'(by have := HM.out; have := HEN.out; have := HZ.out; omega), List.getElem?_eq_getElem _⟩
                obtain ⟨p, hp, hs⟩ := HSM4.out.get hx
                have hpr : PAt wr (.slice (some ⟨b, off, none⟩) m qc) g Q := SlAt.fr HQP.out hf hgO
                obtain ⟨b2, off2, cap3, hgb2, hvv2, hbl2, c0, c1, -⟩ := hpr.get hx
                rw [← HM.out] at hvv2
                injection hvv2 with hva2 hvn2 hvc2
                injection hva2 with hva2
                injection hva2 with hvb2 hvo2 _
                subst hvb2 hvo2 hvc2
                have hs' := hs.fr hf (fun b hb hb2 => absurd (List.mem_singleton.1 hb) hb2)
                obtain ⟨xw, xa, xn, xc⟩ := x
                have HS' := hide hs'
                obtain ⟨b3, o3, cs3, fr3, e1, e2, e3, e4, e5, e6, e7, e8⟩ := hs'
                simp only at e1 e2 e4 e7 c0 c1
                subst e4
                have HE2 := hide e2
                have HE6 := hide e6
                have HE8 := hide e8
                have HTK : Hid (∀ i, (syms (T.take (j + 1))).count i = (syms (T.take j)).count i + p.s.count i) := hide (by
                  intro i
                  rw [List.take_add_one, hp, syms_append, List.count_append]
                  simp [syms])
                have HPS : Hid (∀ x ∈ p.s, x < k) := hide (fun x hx => HSYN.out x (List.mem_flatMap.2 ⟨p, List.mem_of_getElem? hp, hx⟩))
                have HCB : Hid (∀ i, (syms (T.take j)).count i + p.s.length ≤ 40000) := hide (by
                  intro i
                  have h1 := List.count_le_length (a := i) (l := syms (T.take j))
                  have h2 : (syms (T.take j)).length ≤ (syms T).length := by
                    have h3 : syms T = syms (T.take j) ++ syms (T.drop j) := by rw [← syms_append, List.take_append_drop]
                    rw [h3, List.length_append]
                    omega
                  have h4 := syms_mem_len (List.mem_of_getElem? hp)
                  have := HTL.out
                  omega)
                have b0 : (0 : Int) ≤ (j : Int) ∧ (j : Int) < (Z : Int) := by omega
                have hxn : xn ≤ 40000 := by have := HCB.out 0; omega
                have hb3l := lt_of_blk e6
                have hb3O : b3 ≠ O := e5
                clear ho hf hx hp hs hpr hgb2 hgO hgj e1 e2 e3 e5 e6 e7 e8 hvn2
                go_wp2_with fail
                obtain ⟨wp, hwp⟩ : ∃ wp, wp = wr.alloc (.cells #[.int .i64 xw, .slice (some ⟨b3, o3, none⟩) xn xc] 120) := ⟨_, rfl⟩
                have HFP : Hid (Fr [O] wo wp) := hide (by rw [hwp]; exact HFO.out.alloc _)
                have HOP : Hid (Ar wp O 3 k (fun i => ((syms (T.take j)).count i : Int))) := hide (by rw [hwp]; exact HO.out.fr ((Fr.refl [] wr).alloc _) (by simp))
                have HP6 : Hid (wp.heap[b3]? = some (.cells cs3 3 fr3)) := hide (by rw [hwp, heap_alloc_lt hb3l]; exact HE6.out)
                rw [← hwp]
                clear hwp c0 c1 hb3l hbl2
                go_loopg [144] (xn + 1) (fun gk i wr => ∃ (q : Nat), gk = xn + 1 - q ∧ q ≤ xn ∧ i = .int .i64 q ∧ Ar wr O 3 k (fun i => ((syms (T.take j)).count i : Int) + ((p.s.take q).count i : Int)) ∧ Fr [O] wp wr)
                case atStart => exact ⟨0, rfl, by omega, rfl, HOP.out.ext (fun i _ => by simp), Fr.refl _ _⟩
                case round =>
                  obtain ⟨q, hgq, hq, rfl, ho, hf⟩ := hrel
                  have HGQ := hide hgq
                  have HO2 := hide ho
                  have HF2' := hide hf
                  by_cases hql : q < xn
                  · have hqs : q < p.s.length := by have := HE2.out; omega
                    obtain ⟨sy, hsy⟩ : ∃ sy, sy = p.s.getD q 0 := ⟨_, rfl⟩
                    have hsy2 : sy = p.s[q] := by rw [hsy]; simp [List.getD, List.getElem?_eq_getElem hqs]
                    have hsk : sy < k := HPS.out sy (by rw [hsy2]; exact List.getElem_mem hqs)
                    have HTQ : Hid (∀ i, (p.s.take (q + 1)).count i = (p.s.take q).count i + if i = sy then 1 else 0) := hide (by
                      intro i
                      rw [List.take_succ_eq_append_getElem hqs, List.count_append, ← hsy2, List.count_singleton]
                      by_cases he : i = sy
                      · subst he; simp
                      · have h2 : ¬ (sy == i) = true := by simpa using fun h => he h.symm
                        rw [if_neg he, if_neg h2])
                    have h6 : wr.heap[b3]? = some (.cells cs3 3 fr3) := (hf.block b3 (lt_of_blk HP6.out) (by simpa using hb3O)).trans HP6.out
                    have hc3 : wr.cell? ⟨b3, o3 + q, none⟩ = some (.int .i64 (sy : Int)) := by
                      rw [cell_blk h6, HE8.out q hqs, hsy]
                    have hb3l := lt_of_blk h6
                    have hoc := ho.cell (i := sy) hsk
                    have hofz := ho.froz sy
                    have hOl := ho.lt
                    have hcb := HCB.out sy
                    have hcb2 := List.count_le_length (a := sy) (l := p.s.take q)
                    have hcb3 : (p.s.take q).length ≤ p.s.length := by simp; omega
                    obtain ⟨u, hu⟩ : ∃ u, u = ((syms (T.take j)).count sy : Int) + ((p.s.take q).count sy : Int) := ⟨_, rfl⟩
                    rw [← hu] at hoc
                    have hub : 0 ≤ u ∧ u ≤ 100000 := by omega
                    have HU := hide hu
                    have b1 : (0 : Int) ≤ (q : Int) ∧ (q : Int) < (xn : Int) := by omega
                    have b2 : (0 : Int) ≤ (sy : Int) ∧ (sy : Int) < (k : Int) := by omega
                    clear hgq ho hf hsy hsy2 h6 hu hcb hcb2 hcb3 hqs
                    go_wp2_with fail
                    go_roundg (xn + 1 - (q + 1))
                    case measure => have := HGQ.out; omega
                    case rel =>
                      refine ⟨q + 1, rfl, by omega, by go_num, ?_, HF2'.out.setCell (.inl (by simp)) _⟩
                      refine (HO2.out.set (m := sy) hsk (u + 1)).ext fun i hi => ?_
                      rw [HTQ.out i]
                      by_cases he : i = sy
                      · subst he
                        simp only [if_true]
                        rw [HU.out]
                        omega
                      · simp only [if_neg he]
                        omega
                  · obtain rfl : q = xn := by omega
                    clear hgq ho hf
                    go_wp2_with fail
                    go_roundg (Z + 1 - (j + 1))
                    case measure => have := HGJ.out; omega
                    case rel =>
                      refine ⟨j + 1, rfl, by omega, by go_num, HO2.out.ext fun i hi => ?_, HFP.out.trans HF2'.out⟩
                      have h9 : p.s.take q = p.s := List.take_of_length_le (by have h8 := HE2.out; omega)
                      rw [HTK.out i, h9]
                      omega
              · obtain rfl : j = Z := by omega
                have HRES : Hid (IR wr (.slice (some ⟨O, 0, none⟩) k k) r) := hide (by
                  have h1 := ho.ints
                  rw [HE.out, if_neg (by simp at hdn; omega)]
                  have h2 : top F (M - 1) = syms (T.take j) := by
                    unfold top
                    rw [HTD.out, HZ.out, HSD.out, HNL.out]
                  rw [h2]
                  exact h1)
                have HFZ := hide (HFE.out.andThen hf (by have := HOW.out; simp; omega))
                clear hgj ho hf hgO
                go_wp2
                go_ret
                exact ⟨_, rfl, HRES.out, HFZ.out, Nw.mk HOW.out (Nat.le_refl _)⟩
end Go.Proofs.YthmhcnnigepohaaGreatDoor.Hf

/- The plain law of Lengths: its answer is a complete code, and none is cheaper. -/
namespace Go.Proofs.YthmhcnnigepohaaGreatDoor.Hf
open Go.RowKit

/-! ### sums over the used symbols -/
theorem used_sum (g : Nat → Nat) : ∀ (F : List Int) (k : Nat), ((usedAt F k).map g).sum = ((List.range F.length).map (fun i => if 0 < F.getD i 0 then g (k + i) else 0)).sum
  | [], _ => by simp [usedAt]
  | f :: F, k => by
    have ih := used_sum g F (k + 1)
    rw [List.length_cons, List.range_succ_eq_map, List.map_cons, List.sum_cons, List.map_map]
    have e : (List.range F.length).map ((fun i => if 0 < (f :: F).getD i 0 then g (k + i) else 0) ∘ Nat.succ) = (List.range F.length).map (fun i => if 0 < F.getD i 0 then g (k + 1 + i) else 0) := by
      refine List.map_congr_left fun i _ => ?_
      simp only [Function.comp, Nat.succ_eq_add_one, List.getD_cons_succ]
      rw [show k + (i + 1) = k + 1 + i by omega]
    rw [e, ← ih]
    rw [usedAt]
    simp only [List.getD_cons_zero, Nat.add_zero]
    split <;> simp
theorem used_sumZ (g : Nat → Int) : ∀ (F : List Int) (k : Nat), ((usedAt F k).map g).sum = ((List.range F.length).map (fun i => if 0 < F.getD i 0 then g (k + i) else 0)).sum
  | [], _ => by simp [usedAt]
  | f :: F, k => by
    have ih := used_sumZ g F (k + 1)
    rw [List.length_cons, List.range_succ_eq_map, List.map_cons, List.sum_cons, List.map_map]
    have e : (List.range F.length).map ((fun i => if 0 < (f :: F).getD i 0 then g (k + i) else 0) ∘ Nat.succ) = (List.range F.length).map (fun i => if 0 < F.getD i 0 then g (k + 1 + i) else 0) := by
      refine List.map_congr_left fun i _ => ?_
      simp only [Function.comp, Nat.succ_eq_add_one, List.getD_cons_succ]
      rw [show k + (i + 1) = k + 1 + i by omega]
    rw [e, ← ih]
    rw [usedAt]
    simp only [List.getD_cons_zero, Nat.add_zero]
    split <;> simp
theorem leaves_head : ∀ (F : List Int) (k : Nat), (leavesAt F k).map (fun p => p.s.headD 0) = usedAt F k
  | [], _ => rfl
  | f :: F, k => by
    have ih := leaves_head F (k + 1)
    unfold leavesAt usedAt
    split
    · rw [List.map_cons, ih]; rfl
    · exact ih
theorem used_len (F : List Int) : (usedAt F 0).length = (leavesAt F 0).length := by
  rw [← leaves_head]; simp
theorem sumZ_perm {a b : List Int} (h : a.Perm b) : a.sum = b.sum := by
  induction h with
  | nil => rfl
  | cons x _ ih => simp [ih]
  | swap x y l => simp only [List.sum_cons]; omega
  | trans _ _ i1 i2 => exact i1.trans i2
theorem sumN_perm {a b : List Nat} (h : a.Perm b) : a.sum = b.sum := by
  induction h with
  | nil => rfl
  | cons x _ ih => simp [ih]
  | swap x y l => simp only [List.sum_cons]; omega
  | trans _ _ i1 i2 => exact i1.trans i2
theorem sum_le {f g : Nat → Nat} : ∀ l : List Nat, (∀ x ∈ l, f x ≤ g x) → (l.map f).sum ≤ (l.map g).sum
  | [], _ => by simp
  | a :: l, h => by
    have := sum_le l (fun x hx => h x (by simp [hx]))
    have := h a (by simp)
    simp only [List.map_cons, List.sum_cons]
    omega
theorem sumZ_le {f g : Nat → Int} : ∀ l : List Nat, (∀ x ∈ l, f x ≤ g x) → (l.map f).sum ≤ (l.map g).sum
  | [], _ => by simp
  | a :: l, h => by
    have := sumZ_le l (fun x hx => h x (by simp [hx]))
    have := h a (by simp)
    simp only [List.map_cons, List.sum_cons]
    omega
theorem sum_mul (c : Nat) (f : Nat → Nat) : ∀ l : List Nat, (l.map (fun x => c * f x)).sum = c * (l.map f).sum
  | [] => by simp
  | a :: l => by
    simp only [List.map_cons, List.sum_cons, sum_mul c f l, Nat.mul_add]
/-! ### Kraft's sum over the used symbols -/
theorem kr_range (L : List Nat) : kr L = ((List.range L.length).map (fun i => if L.getD i 0 = 0 then 0 else 2 ^ (15 - L.getD i 0))).sum := by
  rw [map_range (fun n => if n = 0 then 0 else 2 ^ (15 - n)) L]
  rfl
/-- A code that serves: it gives each used symbol a length. -/
structure Serves (F : List Int) (L : List Nat) (M : Nat) : Prop where
  len : L.length = F.length
  le : ∀ i, i < L.length → L.getD i 0 ≤ M
  pos : ∀ i, i < F.length → 0 < F.getD i 0 → 0 < L.getD i 0
  kr : kr L ≤ 2 ^ 15
theorem Serves.sum {F : List Int} {L : List Nat} {M : Nat} (h : Serves F L M) (hM : M ≤ 15) : ((usedAt F 0).map (fun i => 2 ^ (M - L.getD i 0))).sum ≤ 2 ^ M := by
  have h1 : ((usedAt F 0).map (fun i => 2 ^ (15 - L.getD i 0))).sum ≤ 2 ^ 15 := by
    refine Nat.le_trans ?_ h.kr
    rw [used_sum, kr_range, h.len]
    refine sum_le _ fun i hi => ?_
    have hi := List.mem_range.1 hi
    split
    · rename_i h0
      rw [if_neg (by have := h.pos i hi h0; omega), Nat.zero_add]
      exact Nat.le_refl _
    · omega
  have h2 : (usedAt F 0).map (fun i => 2 ^ (15 - L.getD i 0)) = (usedAt F 0).map (fun i => 2 ^ (15 - M) * 2 ^ (M - L.getD i 0)) := by
    refine List.map_congr_left fun i hi => ?_
    have h3 := used_ge F 0 i hi
    have h4 := h.le i (by rw [h.len]; omega)
    rw [← Nat.pow_add]
    congr 1
    omega
  rw [h2, sum_mul, show 2 ^ 15 = 2 ^ (15 - M) * 2 ^ M by rw [← Nat.pow_add]; congr 1; omega] at h1
  exact Nat.le_of_mul_le_mul_left h1 (Nat.pow_pos (by omega))
theorem Serves.card {F : List Int} {L : List Nat} {M : Nat} (h : Serves F L M) (hM : M ≤ 15) : (leavesAt F 0).length ≤ 2 ^ M := by
  refine Nat.le_trans ?_ (h.sum hM)
  have h1 := sum_le (f := fun _ => 1) (g := fun i => 2 ^ (M - L.getD i 0)) (usedAt F 0) (fun x _ => Nat.one_le_two_pow)
  rw [List.map_const', List.sum_replicate_nat, used_len] at h1
  omega

/-! ### the answer -/
def lensN (F : List Int) (M : Nat) : List Nat :=
  if (leavesAt F 0).length < 2 then (List.range F.length).map (fun i => if 0 < F.getD i 0 then 1 else 0) else lens F (M - 1)
theorem lensOf_eq (F : List Int) (most : Int) (hl : F.length ≤ 320) (hc : (leavesAt F 0).length ≤ 2 ^ (lim most 1 15).toNat) : lensOf F most = zI (lensN F (lim most 1 15).toNat) := by
  unfold lensOf lensN zI
  rw [if_neg (by omega)]
  split
  · rw [List.map_map]
    refine List.map_congr_left fun i _ => ?_
    simp only [Function.comp]
    split <;> rfl
  · unfold lens
    rw [List.map_map]
    rfl
theorem lensN_len (F : List Int) (M : Nat) : (lensN F M).length = F.length := by
  unfold lensN lens
  split <;> simp
theorem lensN_get (F : List Int) (M i : Nat) (hi : i < F.length) : (lensN F M).getD i 0 = if (leavesAt F 0).length < 2 then (if 0 < F.getD i 0 then 1 else 0) else (top F (M - 1)).count i := by
  unfold lensN lens
  split <;> simp [List.getD, hi]
theorem lensN_le (F : List Int) (M : Nat) (h1 : 1 ≤ M) (hc : (leavesAt F 0).length ≤ 2 ^ M) (i : Nat) (hi : i < F.length) : (lensN F M).getD i 0 ≤ M := by
  rw [lensN_get F M i hi]
  split
  · split <;> omega
  · have h := (top_facts F (M - 1) (by omega) (by rw [show M - 1 + 1 = M by omega]; exact hc)).2.1 i
    omega
theorem lensN_pos (F : List Int) (M : Nat) (h1 : 1 ≤ M) (hc : (leavesAt F 0).length ≤ 2 ^ M) (i : Nat) (hi : i < F.length) : 0 < (lensN F M).getD i 0 ↔ 0 < F.getD i 0 := by
  rw [lensN_get F M i hi]
  split
  · split <;> simp_all
  · have h := (top_facts F (M - 1) (by omega) (by rw [show M - 1 + 1 = M by omega]; exact hc)).2.2.1 i
    have h2 := used_mem F 0 i hi
    rw [Nat.zero_add] at h2
    rw [← h, h2]
theorem lensN_kr (F : List Int) (M : Nat) (h1 : 1 ≤ M) (hM : M ≤ 15) (h2 : 2 ≤ (leavesAt F 0).length) (hc : (leavesAt F 0).length ≤ 2 ^ M) : kr (lensN F M) = 2 ^ 15 := by
  obtain ⟨_, _, _, hs⟩ := top_facts F (M - 1) h2 (by rw [show M - 1 + 1 = M by omega]; exact hc)
  rw [show M - 1 + 1 = M by omega, used_sum] at hs
  rw [kr_range, lensN_len, show 2 ^ 15 = 2 ^ (15 - M) * 2 ^ M by rw [← Nat.pow_add]; congr 1; omega, ← hs, ← sum_mul]
  congr 1
  refine List.map_congr_left fun i hi => ?_
  have hi := List.mem_range.1 hi
  have hp := lensN_pos F M h1 hc i hi
  have hle := lensN_le F M h1 hc i hi
  have hg := lensN_get F M i hi
  rw [if_neg (by omega)] at hg
  by_cases h0 : 0 < F.getD i 0
  · rw [if_pos h0, if_neg (by have := hp.2 h0; omega), Nat.zero_add, ← hg, ← Nat.pow_add]
    congr 1
    omega
  · rw [if_neg h0, if_pos (by
      refine Classical.byContradiction fun h3 => h0 (hp.1 (by omega))), Nat.mul_zero]
theorem few (F : List Int) (M : Nat) (h2 : (leavesAt F 0).length < 2) : ∀ k, k ≤ F.length → us (zI (lensN F M)) k = ((leavesAt (F.take k) 0).length : Int) ∧ ks (zI (lensN F M)) k = ((leavesAt (F.take k) 0).length : Int) * 16384
  | 0, _ => by simp [us, ks, leavesAt]
  | k + 1, h => by
    obtain ⟨i1, i2⟩ := few F M h2 k (by omega)
    rw [us, ks, i1, i2, leaves_take (by omega), zI_get, lensN_get F M k (by omega), if_pos h2, List.length_append]
    by_cases h0 : 0 < F.getD k 0
    · rw [if_pos h0, if_pos h0]
      simp
      omega
    · rw [if_neg h0, if_neg h0]
      simp
theorem chk_lensN (F : List Int) (M : Nat) (h1 : 1 ≤ M) (hM : M ≤ 15) (hl : F.length ≤ 320) (hc : (leavesAt F 0).length ≤ 2 ^ M) : chk (zI (lensN F M)) = 0 := by
  have hb : bad (zI (lensN F M)) = false := by
    refine good_of fun i hi => ?_
    rw [zI_len, lensN_len] at hi
    have := lensN_le F M h1 hc i hi
    rw [zI_get]
    omega
  have hle : ∀ x ∈ lensN F M, x ≤ 15 := by
    intro x hx
    obtain ⟨i, hi, rfl⟩ := List.mem_iff_getElem.1 hx
    have hi2 := hi
    rw [lensN_len] at hi2
    have := lensN_le F M h1 hc i hi2
    have e : (lensN F M).getD i 0 = (lensN F M)[i] := by simp [List.getD, List.getElem?_eq_getElem hi]
    omega
  unfold chk
  rw [if_neg (by rw [zI_len, lensN_len]; omega), hb]
  simp only [Bool.false_eq_true, if_false]
  by_cases h2 : (leavesAt F 0).length < 2
  · obtain ⟨e1, e2⟩ := few F M h2 F.length (Nat.le_refl _)
    rw [List.take_length] at e1 e2
    rw [zI_len, lensN_len, e1, e2, if_neg (by omega), if_pos (by omega)]
  · have hk := lensN_kr F M h1 hM (by omega) hc
    rw [ks_all _ hle, hk, if_neg (by decide), if_pos (.inl (by decide))]

/-! ### the cost -/
theorem cs_sum (F : List Int) (L : List Nat) (hL : ∀ i, i < L.length → L.getD i 0 ≤ 15) : ∀ k, k ≤ L.length → cs F (zI L) k = ((List.range k).map (fun i => phi F i * ((L.getD i 0 : Nat) : Int))).sum
  | 0, _ => by simp [cs]
  | k + 1, h => by
    rw [cs, cs_sum F L hL k (by omega), List.range_succ, List.map_append, List.sum_append, zI_get]
    have h1 := hL k (by omega)
    have e1 : lim (F.getD k 0) 0 1048576 = phi F k := by unfold lim phi; omega
    have e2 : lim ((L.getD k 0 : Nat) : Int) 0 15 = ((L.getD k 0 : Nat) : Int) := by unfold lim; omega
    rw [e1, e2]
    simp
theorem cost_sum (F : List Int) (L : List Nat) (hlen : L.length = F.length) (hL : ∀ i, i < L.length → L.getD i 0 ≤ 15) : cost F (zI L) = ((List.range F.length).map (fun i => phi F i * ((L.getD i 0 : Nat) : Int))).sum := by
  unfold cost
  rw [zI_len, hlen, Nat.min_self, cs_sum F L hL _ (by omega)]
theorem optimal {F : List Int} {L : List Nat} {M : Nat} (h : Serves F L M) (h1 : 1 ≤ M) (hM : M ≤ 15) : cost F (zI (lensN F M)) ≤ cost F (zI L) := by
  have hc := h.card hM
  rw [cost_sum F L h.len (fun i hi => by have := h.le i hi; omega), cost_sum F (lensN F M) (lensN_len F M) (fun i hi => by rw [lensN_len] at hi; have := lensN_le F M h1 hc i hi; omega)]
  by_cases h2 : (leavesAt F 0).length < 2
  · refine sumZ_le _ fun i hi => ?_
    have hi := List.mem_range.1 hi
    rw [lensN_get F M i hi, if_pos h2]
    have hp := phi_bd F i
    refine Int.mul_le_mul_of_nonneg_left ?_ hp.1
    split
    · rename_i h0
      have := h.pos i hi h0
      omega
    · omega
  obtain ⟨S, hS⟩ : ∃ S, S = packs (leavesAt F 0) := ⟨_, rfl⟩
  have hperm : S.Perm (leavesAt F 0) := hS ▸ packs_perm _
  have hlen := hperm.length_eq
  obtain ⟨hw, _, _, _⟩ := top_facts F (M - 1) (by omega) (by rw [show M - 1 + 1 = M by omega]; exact hc)
  have hmem : ∀ x ∈ S, ∃ i, x.s = [i] ∧ i < F.length ∧ x.w = phi F i ∧ 0 < x.w := by
    intro x hx
    obtain ⟨i, a1, a2, a3, a4, _⟩ := leaves_one F 0 x (hperm.mem_iff.1 hx)
    exact ⟨i, by rw [a1, Nat.zero_add], a2, a3, a4⟩
  have hfst : (S.map (fun p => (p, L.getD (p.s.headD 0) 0))).map (·.1) = S := by
    rw [List.map_map]
    exact List.map_id' S
  have ho := opt (S.map (fun p => (p, L.getD (p.s.headD 0) 0))) (M - 1) (by rw [hfst, hS]; exact packs_srt _) (by
      rw [hfst]
      intro x hx
      obtain ⟨_, _, _, _, h4⟩ := hmem x hx
      exact h4) (by
      intro x hx
      obtain ⟨p, hp, rfl⟩ := List.mem_map.1 hx
      obtain ⟨i, a1, a2, _⟩ := hmem p hp
      have := h.le i (by rw [h.len]; exact a2)
      simp only [a1, List.headD_cons]
      omega) (by rw [List.length_map]; omega) (by
      rw [show M - 1 + 1 = M by omega]
      unfold kraftS
      rw [List.map_map]
      have e := sumN_perm (hperm.map (fun p => 2 ^ (M - L.getD (p.s.headD 0) 0)))
      have e2 : (leavesAt F 0).map (fun p => 2 ^ (M - L.getD (p.s.headD 0) 0)) = (usedAt F 0).map (fun i => 2 ^ (M - L.getD i 0)) := by
        rw [← leaves_head, List.map_map]
        rfl
      rw [e2] at e
      show (S.map (fun p => 2 ^ (M - L.getD (p.s.headD 0) 0))).sum ≤ 2 ^ M
      rw [e]
      exact h.sum hM)
  rw [hfst, List.length_map, hlen] at ho
  have hcost : costS (S.map (fun p => (p, L.getD (p.s.headD 0) 0))) = ((List.range F.length).map (fun i => phi F i * ((L.getD i 0 : Nat) : Int))).sum := by
    unfold costS
    rw [List.map_map]
    have e := sumZ_perm (hperm.map (fun p => p.w * ((L.getD (p.s.headD 0) 0 : Nat) : Int)))
    have e2 : (leavesAt F 0).map (fun p => p.w * ((L.getD (p.s.headD 0) 0 : Nat) : Int)) = (usedAt F 0).map (fun i => phi F i * ((L.getD i 0 : Nat) : Int)) := by
      rw [← leaves_head, List.map_map]
      refine List.map_congr_left fun p hp => ?_
      obtain ⟨i, a1, _, a3, _⟩ := hmem p (hperm.mem_iff.2 hp)
      simp only [Function.comp, a1, a3, List.headD_cons]
    rw [e2, used_sumZ] at e
    refine e.trans ?_
    congr 1
    refine List.map_congr_left fun i hi => ?_
    rw [Nat.zero_add]
    split
    · rfl
    · rename_i h0
      rw [show phi F i = 0 by unfold phi; omega, Int.zero_mul]
  have htop : wsum ((lev S (M - 1)).take (2 * (leavesAt F 0).length - 2)) = ((List.range F.length).map (fun i => phi F i * (((lensN F M).getD i 0 : Nat) : Int))).sum := by
    rw [wsum_syms F _ (fun x hx => wt_lev F S (fun y hy => wt_leaf F y (hperm.mem_iff.1 hy)) _ x (List.mem_of_mem_take hx))]
    have e : syms ((lev S (M - 1)).take (2 * (leavesAt F 0).length - 2)) = top F (M - 1) := by rw [hS]; rfl
    rw [e, sum_count (phi F) F.length _ (fun x hx => by
      have h3 := (top_facts F (M - 1) (by omega) (by rw [show M - 1 + 1 = M by omega]; exact hc)).2.2.1 x
      have h4 := used_ge F 0 x (h3.2 (List.count_pos_iff.2 hx))
      omega)]
    congr 1
    refine List.map_congr_left fun i hi => ?_
    rw [lensN_get F M i (List.mem_range.1 hi), if_neg h2]
  rw [← htop, ← hcost]
  exact ho
end Go.Proofs.YthmhcnnigepohaaGreatDoor.Hf
