/- SHA-256 on lists: no program in sight. -/
import Derived.WalkKit
import Derived.IntWalk
namespace Go.Proofs.YthmhcnnigepohaaGreatDoor.Dg
open Go.RowKit

abbrev W32 (n : Int) : Int := IntKind.u32.wrap n
def rotI (x : Int) (n : Nat) : Int := bits .or .u32 (x / 2 ^ n) (W32 (x * 2 ^ (32 - n)))

structure St where
  a : Int
  b : Int
  c : Int
  d : Int
  e : Int
  f : Int
  g : Int
  h : Int

def sg0 (x : Int) : Int := bits .xor .u32 (bits .xor .u32 (rotI x 7) (rotI x 18)) (x / 2 ^ 3)
def sg1 (x : Int) : Int := bits .xor .u32 (bits .xor .u32 (rotI x 17) (rotI x 19)) (x / 2 ^ 10)
def bg1 (e : Int) : Int := bits .xor .u32 (bits .xor .u32 (rotI e 6) (rotI e 11)) (rotI e 25)
def bg0 (a : Int) : Int := bits .xor .u32 (bits .xor .u32 (rotI a 2) (rotI a 13)) (rotI a 22)
def chf (e f g : Int) : Int := bits .xor .u32 (bits .and .u32 e f) (bits .and .u32 (bits .xor .u32 4294967295 e) g)
def mjf (a b c : Int) : Int := bits .xor .u32 (bits .xor .u32 (bits .and .u32 a b) (bits .and .u32 a c)) (bits .and .u32 b c)
def rx (k w : Int) (s : St) : Int := W32 (W32 (W32 (W32 (s.h + bg1 s.e) + chf s.e s.f s.g) + k) + w)
def ry (s : St) : Int := W32 (bg0 s.a + mjf s.a s.b s.c)
def rnd (k w : Int) (s : St) : St := ⟨W32 (rx k w s + ry s), s.a, s.b, s.c, W32 (s.d + rx k w s), s.e, s.f, s.g⟩

def byteAt (l : List UInt8) (i : Nat) : Int := ((l.getD i 0).toNat : Int)
def word (l : List UInt8) (t : Nat) : Int :=
  bits .or .u32 (bits .or .u32 (bits .or .u32 (W32 (byteAt l (4 * t) * 2 ^ 24)) (W32 (byteAt l (4 * t + 1) * 2 ^ 16))) (W32 (byteAt l (4 * t + 2) * 2 ^ 8))) (byteAt l (4 * t + 3))
def nxt (L : List Int) (t : Nat) : Int := W32 (W32 (W32 (L.getD (t - 16) 0 + sg0 (L.getD (t - 15) 0)) + L.getD (t - 7) 0) + sg1 (L.getD (t - 2) 0))
def sched (l : List UInt8) : Nat → List Int
  | 0 => []
  | t + 1 => sched l t ++ [if t < 16 then word l t else nxt (sched l t) t]
def rnds (K W : List Int) (s : St) : Nat → St
  | 0 => s
  | t + 1 => rnd (K.getD t 0) (W.getD t 0) (rnds K W s t)
def plus (s v : St) : St := ⟨W32 (s.a + v.a), W32 (s.b + v.b), W32 (s.c + v.c), W32 (s.d + v.d), W32 (s.e + v.e), W32 (s.f + v.f), W32 (s.g + v.g), W32 (s.h + v.h)⟩
def addS (K : List Int) (s : St) (l : List UInt8) : St := plus s (rnds K (sched l 64) s 64)
theorem sched_len (l : List UInt8) : ∀ t, (sched l t).length = t
  | 0 => rfl
  | t + 1 => by simp [sched, sched_len l t]

/-- The whole blocks of l, and what is left. -/
def comp (K : List Int) (s : St) (l : List UInt8) : St × List UInt8 :=
  if _h : 64 ≤ l.length then comp K (addS K s (l.take 64)) (l.drop 64) else (s, l)
termination_by l.length
decreasing_by simp; omega

theorem comp_lt {K : List Int} {s : St} {l : List UInt8} (h : l.length < 64) : comp K s l = (s, l) := by
  rw [comp, dif_neg (by omega)]
theorem comp_ge {K : List Int} {s : St} {l : List UInt8} (h : 64 ≤ l.length) : comp K s l = comp K (addS K s (l.take 64)) (l.drop 64) := by
  rw [comp, dif_pos h]
theorem comp_rest (K : List Int) (s : St) (l : List UInt8) : (comp K s l).2.length = l.length % 64 := by
  induction hn : l.length using Nat.strongRecOn generalizing s l with
  | _ n ih =>
    by_cases h : 64 ≤ l.length
    · rw [comp_ge h, ih (l.drop 64).length (by simp; omega) _ _ rfl]
      simp
      omega
    · rw [comp_lt (by omega)]
      simp
      omega
theorem comp_append (K : List Int) (s : St) (l m : List UInt8) : comp K s (l ++ m) = comp K (comp K s l).1 ((comp K s l).2 ++ m) := by
  induction hn : l.length using Nat.strongRecOn generalizing s l with
  | _ n ih =>
    by_cases h : 64 ≤ l.length
    · rw [comp_ge h, comp_ge (by simp; omega), List.take_append_of_le_length h, List.drop_append_of_le_length h]
      exact ih (l.drop 64).length (by simp; omega) _ _ rfl
    · rw [comp_lt (by omega : l.length < 64)]

def s0 : St := ⟨1779033703, 3144134277, 1013904242, 2773480762, 1359893119, 2600822924, 528734635, 1541459225⟩
/-- The bits of the length, as eight bytes. -/
def len8 (n : Nat) : List UInt8 := [56, 48, 40, 32, 24, 16, 8, 0].map (fun k => UInt8.ofNat (n * 8 / 2 ^ k % 256))
/-- How many zeros follow the mark behind r bytes. -/
def zeros (r : Nat) : Nat := (119 - r % 64) % 64
def padOf (n : Nat) : List UInt8 := 128 :: (List.replicate (zeros n) 0 ++ len8 n)
def w4 (n : Int) : List UInt8 := [UInt8.ofNat (n / 2 ^ 24 % 256).toNat, UInt8.ofNat (n / 2 ^ 16 % 256).toNat, UInt8.ofNat (n / 2 ^ 8 % 256).toNat, UInt8.ofNat (n % 256).toNat]
def out8 (s : St) : List UInt8 := w4 s.a ++ w4 s.b ++ w4 s.c ++ w4 s.d ++ w4 s.e ++ w4 s.f ++ w4 s.g ++ w4 s.h
/-- The hash of l. -/
def sha (K : List Int) (l : List UInt8) : List UInt8 := out8 (comp K s0 (l ++ padOf l.length)).1
theorem sha_split (K : List Int) (l : List UInt8) : sha K l = out8 (comp K (comp K s0 l).1 ((comp K s0 l).2 ++ padOf l.length)).1 := by
  unfold sha
  rw [comp_append]
theorem zeros_rest (K : List Int) (s : St) (l : List UInt8) : zeros (comp K s l).2.length = zeros l.length := by
  unfold zeros
  rw [comp_rest]
  omega
def hexd : List UInt8 := [48, 49, 50, 51, 52, 53, 54, 55, 56, 57, 97, 98, 99, 100, 101, 102]
def hex (l : List UInt8) : List UInt8 := l.flatMap (fun b => [hexd.getD (b.toNat / 16) 0, hexd.getD (b.toNat % 16) 0])

def KK : List Int := [1116352408, 1899447441, 3049323471, 3921009573, 961987163, 1508970993, 2453635748, 2870763221, 3624381080, 310598401, 607225278, 1426881987, 1925078388, 2162078206, 2614888103, 3248222580, 3835390401, 4022224774, 264347078, 604807628, 770255983, 1249150122, 1555081692, 1996064986, 2554220882, 2821834349, 2952996808, 3210313671, 3336571891, 3584528711, 113926993, 338241895, 666307205, 773529912, 1294757372, 1396182291, 1695183700, 1986661051, 2177026350, 2456956037, 2730485921, 2820302411, 3259730800, 3345764771, 3516065817, 3600352804, 4094571909, 275423344, 430227734, 506948616, 659060556, 883997877, 958139571, 1322822218, 1537002063, 1747873779, 1955562222, 2024104815, 2227730452, 2361852424, 2428436474, 2756734187, 3204031479, 3329325298]
theorem sha_abc : hex (sha KK [97, 98, 99]) = [98, 97, 55, 56, 49, 54, 98, 102, 56, 102, 48, 49, 99, 102, 101, 97, 52, 49, 52, 49, 52, 48, 100, 101, 53, 100, 97, 101, 50, 50, 50, 51, 98, 48, 48, 51, 54, 49, 97, 51, 57, 54, 49, 55, 55, 97, 57, 99, 98, 52, 49, 48, 102, 102, 54, 49, 102, 50, 48, 48, 49, 53, 97, 100] := by
  decide +kernel
end Go.Proofs.YthmhcnnigepohaaGreatDoor.Dg

/- Package-merge on lists: no program in sight. -/
namespace Go.Proofs.YthmhcnnigepohaaGreatDoor.Hf

/-- A package: its weight and its symbols. -/
structure Pk where
  w : Int
  s : List Nat

def ins (x : Pk) : List Pk → List Pk
  | [] => [x]
  | y :: l => if x.w < y.w then x :: y :: l else y :: ins x l
def packs (l : List Pk) : List Pk := l.foldl (fun s x => ins x s) []
def pairs : List Pk → List Pk
  | a :: b :: l => ⟨a.w + b.w, a.s ++ b.s⟩ :: pairs l
  | _ => []
def lev (S : List Pk) : Nat → List Pk
  | 0 => S
  | k + 1 => packs (S ++ pairs (lev S k))

def Srt (l : List Pk) : Prop := l.Pairwise (fun a b => a.w ≤ b.w)

theorem ins_perm (x : Pk) : ∀ l, (ins x l).Perm (x :: l)
  | [] => .refl _
  | y :: l => by
    unfold ins
    split
    · exact .refl _
    · exact ((ins_perm x l).cons y).trans (.swap _ _ _)
theorem ins_srt (x : Pk) : ∀ l, Srt l → Srt (ins x l)
  | [], _ => by simp [ins, Srt]
  | y :: l, h => by
    unfold ins
    unfold Srt at h
    rw [List.pairwise_cons] at h
    split
    · rename_i hlt
      refine List.pairwise_cons.2 ⟨fun z hz => ?_, List.pairwise_cons.2 h⟩
      rcases List.mem_cons.1 hz with rfl | hz
      · omega
      · have := h.1 z hz; omega
    · rename_i hlt
      refine List.pairwise_cons.2 ⟨fun z hz => ?_, ins_srt x l h.2⟩
      rcases List.mem_cons.1 ((ins_perm x l).mem_iff.1 hz) with rfl | hz
      · omega
      · exact h.1 z hz

theorem foldl_ins_perm : ∀ (l s : List Pk), (l.foldl (fun s x => ins x s) s).Perm (s ++ l)
  | [], s => by simp
  | x :: l, s => by
    rw [List.foldl_cons]
    refine (foldl_ins_perm l (ins x s)).trans ?_
    refine ((ins_perm x s).append_right l).trans ?_
    exact (List.perm_middle).symm
theorem foldl_ins_srt : ∀ (l s : List Pk), Srt s → Srt (l.foldl (fun s x => ins x s) s)
  | [], _, h => h
  | x :: l, s, h => foldl_ins_srt l (ins x s) (ins_srt x s h)
theorem packs_perm (l : List Pk) : (packs l).Perm l := by simpa [packs] using foldl_ins_perm l []
theorem packs_srt (l : List Pk) : Srt (packs l) := foldl_ins_srt l [] .nil

def mrg : List Pk → List Pk → List Pk
  | [], B => B
  | A, [] => A
  | a :: A, b :: B => if b.w < a.w then b :: mrg (a :: A) B else a :: mrg A (b :: B)
termination_by A B => A.length + B.length

theorem mrg_nil (A : List Pk) : mrg A [] = A := by cases A <;> simp [mrg]

theorem ins_mrg (b : Pk) (B : List Pk) (hb : ∀ x ∈ B, b.w ≤ x.w) : ∀ A, Srt A → mrg (ins b A) B = mrg A (b :: B)
  | [], _ => by
    simp only [ins, mrg]
    cases B with
    | nil => simp [mrg]
    | cons c B =>
      have := hb c (by simp)
      rw [mrg, if_neg (by omega)]
      simp [mrg]
  | a :: A, h => by
    unfold Srt at h
    rw [List.pairwise_cons] at h
    unfold ins
    by_cases hlt : b.w < a.w
    · rw [if_pos hlt, mrg, if_pos hlt]
      cases B with
      | nil => simp [mrg]
      | cons c B =>
        have := hb c (by simp)
        rw [mrg, if_neg (by omega)]
    · rw [if_neg hlt]
      have ih := ins_mrg b B hb A h.2
      cases B with
      | nil =>
        rw [mrg_nil] at ih ⊢
        rw [mrg, if_neg hlt, ih]
      | cons c B =>
        have := hb c (by simp)
        rw [mrg, if_neg (by omega), ih]
        conv => rhs; rw [mrg, if_neg hlt]

theorem foldl_mrg : ∀ (B A : List Pk), Srt A → Srt B → B.foldl (fun s x => ins x s) A = mrg A B
  | [], A, _, _ => by rw [mrg_nil]; rfl
  | b :: B, A, hA, hB => by
    unfold Srt at hB
    rw [List.pairwise_cons] at hB
    rw [List.foldl_cons, foldl_mrg B _ (ins_srt b A hA) hB.2, ins_mrg b B hB.1 A hA]

theorem packs_srt_eq {A : List Pk} (h : Srt A) : packs A = A := by
  have : mrg [] A = A := by simp [mrg]
  rw [packs, foldl_mrg A [] .nil h, this]

theorem packs_append {A B : List Pk} (hA : Srt A) (hB : Srt B) : packs (A ++ B) = mrg A B := by
  unfold packs
  rw [List.foldl_append]
  have h := packs_srt_eq hA
  unfold packs at h
  rw [h, foldl_mrg B A hA hB]

/-- The first m of a merge: l of the one, p of the other, and what the border says. -/
theorem mrg_take : ∀ (A B : List Pk) (m : Nat), Srt A → m ≤ A.length + B.length →
    ∃ l p, l + p = m ∧ l ≤ A.length ∧ p ≤ B.length ∧ ((mrg A B).take m).Perm (A.take l ++ B.take p) ∧
      ∀ x y, A[l]? = some x → 0 < p → B[p - 1]? = some y → y.w < x.w
  | [], B, m, _, hm => ⟨0, m, by omega, by simp, by simpa using hm, by simp [mrg], by simp⟩
  | a :: A, [], m, _, hm => ⟨m, 0, by omega, by simpa using hm, by simp, by simp [mrg], by simp⟩
  | a :: A, b :: B, 0, _, hm => ⟨0, 0, rfl, by simp, by simp, by simp, by simp⟩
  | a :: A, b :: B, m + 1, hA, hm => by
    have hA' := hA
    unfold Srt at hA'
    rw [List.pairwise_cons] at hA'
    simp only [List.length_cons] at hm
    rw [mrg]
    by_cases hlt : b.w < a.w
    · rw [if_pos hlt]
      obtain ⟨l, p, h1, h2, h3, h4, h5⟩ := mrg_take (a :: A) B m hA (by simp only [List.length_cons]; omega)
      refine ⟨l, p + 1, by omega, h2, by simp only [List.length_cons]; omega, ?_, ?_⟩
      · rw [List.take_succ_cons, List.take_succ_cons]
        exact (h4.cons b).trans List.perm_middle.symm
      · intro x y hx _ hy
        rw [show p + 1 - 1 = p by omega] at hy
        cases p with
        | zero =>
          simp at hy
          subst hy
          cases l with
          | zero => simp at hx; subst hx; exact hlt
          | succ l =>
            have := hA'.1 x (List.mem_of_getElem? (by simpa using hx))
            omega
        | succ p =>
          have := h5 x y hx (by omega) (by simpa using hy)
          exact this
    · rw [if_neg hlt]
      obtain ⟨l, p, h1, h2, h3, h4, h5⟩ := mrg_take A (b :: B) m hA'.2 (by simp only [List.length_cons]; omega)
      refine ⟨l + 1, p, by omega, by simp only [List.length_cons]; omega, h3, ?_, ?_⟩
      · rw [List.take_succ_cons, List.take_succ_cons]
        exact h4.cons a
      · intro x y hx hp hy
        exact h5 x y (by simpa using hx) hp hy
termination_by A B => A.length + B.length

/-! ### sizes -/
theorem mrg_perm : ∀ A B : List Pk, (mrg A B).Perm (A ++ B)
  | [], B => by simp [mrg]
  | a :: A, [] => by simp [mrg]
  | a :: A, b :: B => by
    rw [mrg]
    split
    · exact ((mrg_perm (a :: A) B).cons b).trans (List.perm_middle (a := b) (l₁ := a :: A) (l₂ := B)).symm
    · exact (mrg_perm A (b :: B)).cons a
termination_by A B => A.length + B.length

theorem pairs_len : ∀ l : List Pk, (pairs l).length = l.length / 2
  | [] => rfl
  | [_] => by simp [pairs]
  | a :: b :: l => by simp only [pairs, List.length_cons, pairs_len l]; omega

theorem pairs_get : ∀ (l : List Pk) (i : Nat), (pairs l)[i]? = match l[2 * i]?, l[2 * i + 1]? with
    | some a, some b => some ⟨a.w + b.w, a.s ++ b.s⟩
    | _, _ => none
  | [], i => by simp [pairs]
  | [a], i => by cases i <;> simp [pairs]
  | a :: b :: l, 0 => by simp [pairs]
  | a :: b :: l, i + 1 => by
    simp only [pairs, List.getElem?_cons_succ]
    rw [pairs_get l i]
    rw [show 2 * (i + 1) = 2 * i + 1 + 1 by omega]
    simp only [List.getElem?_cons_succ]

/-- Weights of a pair list ascend. -/
theorem pairs_srt : ∀ l, Srt l → Srt (pairs l)
  | [], _ => .nil
  | [_], _ => .nil
  | a :: b :: l, h => by
    unfold Srt at h
    rw [List.pairwise_cons, List.pairwise_cons] at h
    obtain ⟨h1, h2, h3⟩ := h
    simp only [pairs]
    refine List.pairwise_cons.2 ⟨fun z hz => ?_, pairs_srt l h3⟩
    obtain ⟨i, hi⟩ := List.mem_iff_getElem?.1 hz
    rw [pairs_get] at hi
    split at hi
    · rename_i c d hc hd
      injection hi with hi
      subst hi
      have h4 := h1 c (List.mem_cons_of_mem _ (List.mem_of_getElem? hc))
      have h5 := h2 d (List.mem_of_getElem? hd)
      show a.w + b.w ≤ c.w + d.w
      omega
    · cases hi

theorem lev_srt (S : List Pk) (hS : Srt S) (k : Nat) : Srt (lev S k) := by
  cases k with
  | zero => exact hS
  | succ k => exact packs_srt _
theorem lev_mrg (S : List Pk) (hS : Srt S) (k : Nat) : lev S (k + 1) = mrg S (pairs (lev S k)) := by
  show packs _ = _
  rw [packs_append hS (pairs_srt _ (lev_srt S hS k))]
theorem lev_len (S : List Pk) (k : Nat) : (lev S (k + 1)).length = S.length + (lev S k).length / 2 := by
  show (packs _).length = _
  rw [(packs_perm _).length_eq, List.length_append, pairs_len]
theorem lev_len_le (S : List Pk) : ∀ k, (lev S k).length ≤ 2 * S.length
  | 0 => by show S.length ≤ _; omega
  | k + 1 => by
    rw [lev_len]
    have := lev_len_le S k
    omega
/-- How many are lacking of 2n - 1. -/
theorem lev_len_ge (S : List Pk) (h : 1 ≤ S.length) : ∀ k, (2 * S.length - 1 - (lev S k).length) * 2 ^ k ≤ S.length - 1
  | 0 => by show (2 * S.length - 1 - S.length) * 1 ≤ _; omega
  | k + 1 => by
    have ih := lev_len_ge S h k
    rw [lev_len, Nat.pow_succ]
    refine Nat.le_trans ?_ ih
    rw [Nat.mul_comm (2 ^ k) 2, ← Nat.mul_assoc]
    refine Nat.mul_le_mul_right _ ?_
    omega
theorem lev_enough (S : List Pk) (L : Nat) (h : 2 ≤ S.length) (hL : S.length ≤ 2 ^ (L + 1)) : 2 * S.length - 2 ≤ (lev S L).length := by
  have h1 := lev_len_ge S (by omega) L
  rw [Nat.pow_succ] at hL
  have h2 : (2 * S.length - 1 - (lev S L).length) < 2 := by
    refine Nat.lt_of_mul_lt_mul_right (a := 2 ^ L) ?_
    omega
  omega

/-! ### what the first m of a level hold -/
def syms (l : List Pk) : List Nat := l.flatMap (·.s)
theorem syms_append (a b : List Pk) : syms (a ++ b) = syms a ++ syms b := by simp [syms]
theorem syms_perm {a b : List Pk} (h : a.Perm b) : (syms a).Perm (syms b) := h.flatMap_right _
theorem syms_pairs : ∀ (l : List Pk) (p : Nat), 2 * p ≤ l.length → syms ((pairs l).take p) = syms (l.take (2 * p))
  | _, 0, _ => by simp [syms]
  | [], p + 1, h => by simp at h
  | [_], p + 1, h => by simp at h; omega
  | a :: b :: l, p + 1, h => by
    have h1 := syms_pairs l p (by simp at h; omega)
    rw [show 2 * (p + 1) = 2 * p + 1 + 1 by omega]
    simp only [pairs, List.take_succ_cons]
    simp only [syms, List.flatMap_cons] at h1 ⊢
    rw [h1, List.append_assoc]

def dsum : List Nat → Nat
  | [] => 0
  | l :: ls => l * 2 ^ ls.length + dsum ls

theorem desc (S : List Pk) (hS : Srt S) (hpos : ∀ x ∈ S, 0 < x.w) : ∀ (k m : Nat), m ≤ (lev S k).length →
    ∃ l ls, ls.length = k ∧ ((lev S k).take m).length = m ∧ (syms ((lev S k).take m)).Perm ((l :: ls).flatMap (fun l => syms (S.take l))) ∧
      (l :: ls).Pairwise (fun a b => b ≤ a) ∧ l ≤ S.length ∧ dsum (l :: ls) = m * 2 ^ k ∧ (∀ y ∈ S.take l, y ∈ (lev S k).take m) ∧ (∀ y ∈ lev S k, 0 < y.w)
  | 0, m, hm => by
    refine ⟨m, [], rfl, by rw [List.length_take]; omega, by simp [lev], by simp, hm, by simp [dsum], fun y hy => hy, hpos⟩
  | k + 1, m, hm => by
    have hlm := lev_mrg S hS k
    rw [hlm] at hm ⊢
    rw [(mrg_perm _ _).length_eq, List.length_append] at hm
    obtain ⟨l, p, h1, h2, h3, h4, h5⟩ := mrg_take S (pairs (lev S k)) m hS hm
    have hp : 2 * p ≤ (lev S k).length := by rw [pairs_len] at h3; omega
    obtain ⟨l', ls', i1, i2, i3, i4, i5, i6, i7, i8⟩ := desc S hS hpos k (2 * p) hp
    have hle : l' ≤ l := by
      refine Nat.le_of_not_lt fun hlt => ?_
      by_cases hp0 : p = 0
      · subst hp0
        have : l' * 2 ^ ls'.length = 0 := by simp [dsum] at i6; simpa using i6.1
        have h2 : 0 < 2 ^ ls'.length := Nat.pos_of_ne_zero (by simp)
        have : l' = 0 := by
          rcases Nat.mul_eq_zero.1 this with h | h <;> omega
        omega
      · have hx : S[l]? = some (S[l]'(by omega)) := List.getElem?_eq_getElem _
        have ha : (lev S k)[2 * (p - 1)]? = some ((lev S k)[2 * (p - 1)]'(by omega)) := List.getElem?_eq_getElem _
        have hb : (lev S k)[2 * (p - 1) + 1]? = some ((lev S k)[2 * (p - 1) + 1]'(by omega)) := List.getElem?_eq_getElem _
        have hy : (pairs (lev S k))[p - 1]? = some ⟨((lev S k)[2 * (p - 1)]'(by omega)).w + ((lev S k)[2 * (p - 1) + 1]'(by omega)).w, ((lev S k)[2 * (p - 1)]'(by omega)).s ++ ((lev S k)[2 * (p - 1) + 1]'(by omega)).s⟩ := by
          rw [pairs_get, ha, hb]
        have hbd := h5 _ _ hx (by omega) hy
        have hmem := i7 (S[l]'(by omega)) (List.mem_iff_getElem.2 ⟨l, by simp; omega, by simp⟩)
        obtain ⟨q, hq, hqe⟩ := List.mem_iff_getElem.1 hmem
        simp at hq
        rw [List.getElem_take] at hqe
        have hsr := lev_srt S hS k
        have hle2 : ((lev S k)[q]'(by omega)).w ≤ ((lev S k)[2 * (p - 1) + 1]'(by omega)).w := by
          by_cases hqq : q = 2 * (p - 1) + 1
          · subst hqq; exact Int.le_refl _
          · exact List.pairwise_iff_getElem.1 hsr q (2 * (p - 1) + 1) (by omega) (by omega) (by omega)
        rw [hqe] at hle2
        have hp1 := i8 _ (List.getElem_mem (show 2 * (p - 1) < (lev S k).length by omega))
        simp only at hbd
        omega
    refine ⟨l, l' :: ls', by simp [i1], ?_, ?_, ?_, h2, ?_, ?_, ?_⟩
    · rw [List.length_take, (mrg_perm _ _).length_eq, List.length_append]; omega
    · refine (syms_perm h4).trans ?_
      rw [syms_append, syms_pairs _ _ hp, List.flatMap_cons]
      exact (i3.append_left _)
    · rw [List.pairwise_cons]
      refine ⟨fun b hb => ?_, i4⟩
      rw [List.pairwise_cons] at i4
      rcases List.mem_cons.1 hb with rfl | hb
      · exact hle
      · have := i4.1 b hb; omega
    · show l * 2 ^ (l' :: ls').length + dsum (l' :: ls') = _
      rw [i6, List.length_cons, i1, ← h1, Nat.add_mul, Nat.pow_succ]
      rw [show 2 * p * 2 ^ k = p * (2 ^ k * 2) by rw [Nat.mul_comm (2 ^ k) 2, ← Nat.mul_assoc, Nat.mul_comm p 2]]
    · intro y hy
      exact h4.mem_iff.2 (List.mem_append_left _ hy)
    · intro y hy
      rcases List.mem_append.1 ((mrg_perm _ _).mem_iff.1 hy) with h | h
      · exact hpos y h
      · obtain ⟨i, hi⟩ := List.mem_iff_getElem?.1 h
        rw [pairs_get] at hi
        split at hi
        · rename_i c d hc hd
          injection hi with hi
          subst hi
          have e1 := i8 c (List.mem_of_getElem? hc)
          have e2 := i8 d (List.mem_of_getElem? hd)
          show 0 < c.w + d.w
          omega
        · cases hi

/-! ### Kraft's sum -/
/-- How many of ls are greater than i. -/
def gtc (ls : List Nat) (i : Nat) : Nat := ls.countP (fun l => decide (i < l))
theorem gtc_le (ls : List Nat) (i : Nat) : gtc ls i ≤ ls.length := List.countP_le_length
theorem sum_map_eq {α : Type} {f g : α → Nat} : ∀ {l : List α}, (∀ x ∈ l, f x = g x) → (l.map f).sum = (l.map g).sum
  | [], _ => rfl
  | a :: l, h => by
    rw [List.map_cons, List.map_cons, List.sum_cons, List.sum_cons, h a (by simp), sum_map_eq (fun x hx => h x (by simp [hx]))]
theorem sum_const {α : Type} (c : Nat) : ∀ l : List α, (l.map (fun _ => c)).sum = l.length * c
  | [] => by simp
  | a :: l => by
    rw [List.map_cons, List.sum_cons, sum_const c l, List.length_cons, Nat.add_mul, Nat.one_mul, Nat.add_comm]
theorem kraft_desc : ∀ (ls : List Nat) (n : Nat), ls.Pairwise (fun a b => b ≤ a) → (∀ l ∈ ls, l ≤ n) →
    ((List.range n).map (fun i => 2 ^ (ls.length - gtc ls i))).sum + dsum ls = n * 2 ^ ls.length
  | [], n, _, _ => by simp [dsum, sum_const]
  | l :: ls, n, h, hn => by
    rw [List.pairwise_cons] at h
    have hl := hn l (by simp)
    have ih := kraft_desc ls l h.2 h.1
    obtain ⟨d, rfl⟩ : ∃ d, n = l + d := ⟨n - l, by omega⟩
    rw [List.range_add, List.map_append, List.sum_append]
    rw [sum_map_eq (g := fun i => 2 ^ (ls.length - gtc ls i)) (l := List.range l) (fun i hi => by
      have hi := List.mem_range.1 hi
      unfold gtc
      rw [List.countP_cons_of_pos (by simpa using hi), List.length_cons, Nat.add_sub_add_right])]
    rw [List.map_map, sum_map_eq (g := fun _ => 2 ^ (ls.length + 1)) (l := List.range d) (fun i _ => by
      have : gtc (l :: ls) (l + i) = 0 := by
        unfold gtc
        rw [List.countP_eq_zero]
        intro x hx
        rcases List.mem_cons.1 hx with rfl | hx
        · simp
        · have := h.1 x hx
          simp; omega
      simp only [Function.comp, this, List.length_cons, Nat.sub_zero])]
    rw [sum_const, List.length_range, List.length_cons, dsum, Nat.pow_succ]
    rw [Nat.add_mul]
    have : l * (2 ^ ls.length * 2) = l * 2 ^ ls.length + l * 2 ^ ls.length := by rw [← Nat.mul_assoc, Nat.mul_two]
    omega

/-! ### the least weight -/
def wsum (l : List Pk) : Int := (l.map (·.w)).sum
theorem wsum_nil : wsum [] = 0 := rfl
theorem wsum_cons (a : Pk) (l : List Pk) : wsum (a :: l) = a.w + wsum l := by simp [wsum]
theorem wsum_append (a b : List Pk) : wsum (a ++ b) = wsum a + wsum b := by simp [wsum]
theorem wsum_perm {a b : List Pk} (h : a.Perm b) : wsum a = wsum b := by
  induction h with
  | nil => rfl
  | cons x _ ih => rw [wsum_cons, wsum_cons, ih]
  | swap x y l => simp only [wsum_cons]; omega
  | trans _ _ h1 h2 => rw [h1, h2]

theorem wsum_take_mono {l : List Pk} (hp : ∀ x ∈ l, 0 ≤ x.w) : ∀ {a b : Nat}, a ≤ b → wsum (l.take a) ≤ wsum (l.take b) := by
  induction l with
  | nil => intro a b _; simp
  | cons x l ih =>
    intro a b hab
    cases b with
    | zero => obtain rfl : a = 0 := by omega
              exact Int.le_refl _
    | succ b =>
      cases a with
      | zero =>
        have := ih (fun y hy => hp y (by simp [hy])) (a := 0) (b := b) (by omega)
        have h0 := hp x (by simp)
        rw [List.take_zero, wsum_nil] at *
        rw [List.take_succ_cons, wsum_cons]
        omega
      | succ a =>
        have := ih (fun y hy => hp y (by simp [hy])) (a := a) (b := b) (by omega)
        rw [List.take_succ_cons, List.take_succ_cons, wsum_cons, wsum_cons]
        omega

/-- Of a sorted list whose elements are at least b: b in front, and one fewer of the list. -/
theorem front_le (b : Int) : ∀ (A : List Pk) (a : Nat), (∀ x ∈ A, b ≤ x.w) → a < A.length → b + wsum (A.take a) ≤ wsum (A.take (a + 1))
  | [], a, _, h => by simp at h
  | x :: A, 0, h, _ => by
    have := h x (by simp)
    simp [wsum]
    exact this
  | x :: A, a + 1, h, hl => by
    have := front_le b A a (fun y hy => h y (by simp [hy])) (by simpa using hl)
    rw [List.take_succ_cons, List.take_succ_cons, wsum_cons, wsum_cons]
    omega

theorem mrg_min : ∀ (A B : List Pk) (a b : Nat), Srt A → Srt B → a ≤ A.length → b ≤ B.length → wsum ((mrg A B).take (a + b)) ≤ wsum (A.take a) + wsum (B.take b)
  | [], B, a, b, _, _, ha, _ => by
    obtain rfl : a = 0 := by simpa using ha
    simp [mrg, wsum]
  | x :: A, [], a, b, _, _, _, hb => by
    obtain rfl : b = 0 := by simpa using hb
    simp [mrg, wsum]
  | x :: A, y :: B, a, b, hA, hB, ha, hb => by
    have hA' := hA
    have hB' := hB
    unfold Srt at hA' hB'
    rw [List.pairwise_cons] at hA' hB'
    simp only [List.length_cons] at ha hb
    rw [mrg]
    by_cases hlt : y.w < x.w
    · rw [if_pos hlt]
      cases b with
      | zero =>
        cases a with
        | zero => simp [wsum]
        | succ a =>
          have ih := mrg_min (x :: A) B a 0 hA hB'.2 (by simp only [List.length_cons]; omega) (by omega)
          have hf := front_le y.w (x :: A) a (fun z hz => by
            rcases List.mem_cons.1 hz with rfl | hz
            · omega
            · have := hA'.1 z hz; omega) (by simp only [List.length_cons]; omega)
          simp only [Nat.add_zero, List.take_zero, wsum_nil] at ih ⊢
          rw [List.take_succ_cons, wsum_cons]
          omega
      | succ b =>
        have ih := mrg_min (x :: A) B a b hA hB'.2 (by simp only [List.length_cons]; omega) (by omega)
        rw [← Nat.add_assoc, List.take_succ_cons, List.take_succ_cons, wsum_cons, wsum_cons]
        omega
    · rw [if_neg hlt]
      cases a with
      | zero =>
        cases b with
        | zero => simp [wsum]
        | succ b =>
          have ih := mrg_min A (y :: B) 0 b hA'.2 hB (by omega) (by simp only [List.length_cons]; omega)
          have hf := front_le x.w (y :: B) b (fun z hz => by
            rcases List.mem_cons.1 hz with rfl | hz
            · omega
            · have := hB'.1 z hz; omega) (by simp only [List.length_cons]; omega)
          simp only [Nat.zero_add, List.take_zero, wsum_nil] at ih ⊢
          rw [List.take_succ_cons, wsum_cons]
          omega
      | succ a =>
        have ih := mrg_min A (y :: B) a b hA'.2 hB (by omega) (by simp only [List.length_cons]; omega)
        rw [show a + 1 + b = a + b + 1 by omega, List.take_succ_cons, List.take_succ_cons, wsum_cons, wsum_cons]
        omega
termination_by A B => A.length + B.length

theorem sub_min {T S : List Pk} (h : T.Sublist S) (hS : Srt S) : wsum (S.take T.length) ≤ wsum T := by
  induction h with
  | slnil => simp
  | @cons l1 l2 a hsub ih =>
    unfold Srt at hS
    rw [List.pairwise_cons] at hS
    have ih := ih hS.2
    cases hl : l1.length with
    | zero =>
      have : l1 = [] := List.length_eq_zero_iff.1 hl
      subst this
      simp
    | succ k =>
      have hk : k < l2.length := by have := hsub.length_le; omega
      have hf := front_le a.w l2 k (fun z hz => hS.1 z hz) hk
      rw [hl] at ih
      rw [List.take_succ_cons, wsum_cons]
      omega
  | @cons_cons l1 l2 a hsub ih =>
    unfold Srt at hS
    rw [List.pairwise_cons] at hS
    have ih := ih hS.2
    rw [List.length_cons, List.take_succ_cons, wsum_cons, wsum_cons]
    omega

theorem wsum_pairs : ∀ (l : List Pk) (p : Nat), 2 * p ≤ l.length → wsum ((pairs l).take p) = wsum (l.take (2 * p))
  | _, 0, _ => by simp [wsum]
  | [], p + 1, h => by simp at h
  | [_], p + 1, h => by simp at h; omega
  | a :: b :: l, p + 1, h => by
    have h1 := wsum_pairs l p (by simp at h; omega)
    rw [show 2 * (p + 1) = 2 * p + 1 + 1 by omega]
    simp only [pairs, List.take_succ_cons, wsum_cons]
    rw [h1]
    omega

theorem lev_pos (S : List Pk) (hpos : ∀ x ∈ S, 0 < x.w) : ∀ k, ∀ x ∈ lev S k, 0 < x.w
  | 0 => hpos
  | k + 1 => by
    intro x hx
    rcases List.mem_append.1 ((packs_perm _).mem_iff.1 hx) with h | h
    · exact hpos x h
    · obtain ⟨i, hi⟩ := List.mem_iff_getElem?.1 h
      rw [pairs_get] at hi
      split at hi
      · rename_i c d hc hd
        injection hi with hi
        subst hi
        have e1 := lev_pos S hpos k c (List.mem_of_getElem? hc)
        have e2 := lev_pos S hpos k d (List.mem_of_getElem? hd)
        show 0 < c.w + d.w
        omega
      · cases hi

/-- The leaves at depth d: those with lengths of d or more. -/
def deep (SL : List (Pk × Nat)) (d : Nat) : List Pk := (SL.filter (fun x => decide (d ≤ x.2))).map (·.1)
def chain (SL : List (Pk × Nat)) (L : Nat) : Nat → Nat
  | 0 => (deep SL L).length
  | k + 1 => (deep SL (L - (k + 1))).length + chain SL L k / 2
def sumI (f : Nat → Int) : Nat → Int
  | 0 => 0
  | k + 1 => sumI f k + f k
def sumN (f : Nat → Nat) : Nat → Nat
  | 0 => 0
  | k + 1 => sumN f k + f k

theorem deep_sub (SL : List (Pk × Nat)) (d : Nat) : (deep SL d).Sublist (SL.map (·.1)) := (List.filter_sublist).map _

theorem opt_chain (SL : List (Pk × Nat)) (L : Nat) (hS : Srt (SL.map (·.1))) (hpos : ∀ x ∈ SL.map (·.1), 0 < x.w) : ∀ k,
    chain SL L k ≤ (lev (SL.map (·.1)) k).length ∧ wsum ((lev (SL.map (·.1)) k).take (chain SL L k)) ≤ sumI (fun j => wsum (deep SL (L - j))) (k + 1)
  | 0 => by
    have h1 := deep_sub SL L
    refine ⟨h1.length_le, ?_⟩
    have := sub_min h1 hS
    simp only [sumI, chain, lev, Nat.sub_zero]
    omega
  | k + 1 => by
    obtain ⟨i1, i2⟩ := opt_chain SL L hS hpos k
    have h1 := deep_sub SL (L - (k + 1))
    have h2 := sub_min h1 hS
    have h3 := h1.length_le
    have hp := lev_pos _ hpos k
    have hm := mrg_min (SL.map (·.1)) (pairs (lev (SL.map (·.1)) k)) (deep SL (L - (k + 1))).length (chain SL L k / 2) hS (pairs_srt _ (lev_srt _ hS k)) h3 (by rw [pairs_len]; omega)
    rw [wsum_pairs _ _ (by omega)] at hm
    have hmono := wsum_take_mono (l := lev (SL.map (·.1)) k) (fun x hx => Int.le_of_lt (hp x hx)) (show 2 * (chain SL L k / 2) ≤ chain SL L k by omega)
    rw [← lev_mrg _ hS] at hm
    refine ⟨by rw [lev_len]; simp only [chain]; omega, ?_⟩
    rw [sumI]
    simp only [chain]
    omega

theorem chain_ge (SL : List (Pk × Nat)) (L : Nat) : ∀ k, sumN (fun j => (deep SL (L - j)).length * 2 ^ j) (k + 1) < (chain SL L k + 1) * 2 ^ k
  | 0 => by simp [sumN, chain]
  | k + 1 => by
    have ih := chain_ge SL L k
    rw [sumN]
    simp only [chain]
    have h1 : (chain SL L k + 1) * 2 ^ k ≤ (chain SL L k / 2 + 1) * 2 ^ (k + 1) := by
      rw [Nat.pow_succ, Nat.mul_comm (2 ^ k) 2, ← Nat.mul_assoc]
      exact Nat.mul_le_mul_right _ (by omega)
    have h2 : ((deep SL (L - (k + 1))).length + chain SL L k / 2 + 1) * 2 ^ (k + 1) = (deep SL (L - (k + 1))).length * 2 ^ (k + 1) + (chain SL L k / 2 + 1) * 2 ^ (k + 1) := by
      rw [Nat.add_assoc, Nat.add_mul]
    omega

theorem sumI_add (f g : Nat → Int) : ∀ k, sumI (fun j => f j + g j) k = sumI f k + sumI g k
  | 0 => rfl
  | k + 1 => by simp only [sumI, sumI_add f g k]; omega
theorem sumN_add (f g : Nat → Nat) : ∀ k, sumN (fun j => f j + g j) k = sumN f k + sumN g k
  | 0 => rfl
  | k + 1 => by simp only [sumN, sumN_add f g k]; omega
theorem sumI_zero : ∀ k, sumI (fun _ => 0) k = 0
  | 0 => rfl
  | k + 1 => by simp only [sumI, sumI_zero k]; rfl
theorem sumN_zero : ∀ k, sumN (fun _ => 0) k = 0
  | 0 => rfl
  | k + 1 => by simp only [sumN, sumN_zero k]
theorem sumI_congr {f g : Nat → Int} (h : ∀ j, f j = g j) (k : Nat) : sumI f k = sumI g k := by rw [funext h]
theorem sumN_congr {f g : Nat → Nat} (h : ∀ j, f j = g j) (k : Nat) : sumN f k = sumN g k := by rw [funext h]

theorem one_cost (w : Int) (L m : Nat) (hm : m ≤ L) : ∀ k, k ≤ L → sumI (fun j => if L - j ≤ m then w else 0) k = w * ((k - (L - m) : Nat) : Int)
  | 0, _ => by simp [sumI]
  | k + 1, hk => by
    rw [sumI, one_cost w L m hm k (by omega)]
    by_cases h : L - k ≤ m
    · rw [if_pos h, show k + 1 - (L - m) = k - (L - m) + 1 by omega]
      rw [Int.natCast_add, Int.mul_add]
      simp
    · rw [if_neg h, show k + 1 - (L - m) = k - (L - m) by omega]
      omega
theorem one_width (L m : Nat) (hm : m ≤ L) : ∀ k, k ≤ L → sumN (fun j => if L - j ≤ m then 2 ^ j else 0) k + 2 ^ (L - m) = 2 ^ (max k (L - m))
  | 0, _ => by simp [sumN]
  | k + 1, hk => by
    have ih := one_width L m hm k (by omega)
    rw [sumN]
    by_cases h : L - k ≤ m
    · rw [if_pos h, show max (k + 1) (L - m) = k + 1 by omega, Nat.pow_succ]
      rw [show max k (L - m) = k by omega] at ih
      omega
    · rw [if_neg h, show max (k + 1) (L - m) = max k (L - m) by omega]
      omega

theorem deep_cons (x : Pk × Nat) (SL : List (Pk × Nat)) (d : Nat) : deep (x :: SL) d = if d ≤ x.2 then x.1 :: deep SL d else deep SL d := by
  unfold deep
  rw [List.filter_cons]
  by_cases h : d ≤ x.2 <;> simp [h]

def costS (SL : List (Pk × Nat)) : Int := (SL.map (fun x => x.1.w * (x.2 : Int))).sum
def kraftS (L : Nat) (SL : List (Pk × Nat)) : Nat := (SL.map (fun x => 2 ^ (L - x.2))).sum
theorem deep_cost (L : Nat) : ∀ SL : List (Pk × Nat), (∀ x ∈ SL, x.2 ≤ L) → sumI (fun j => wsum (deep SL (L - j))) L = costS SL
  | [], _ => by simp [deep, wsum, costS, sumI_zero]
  | x :: SL, h => by
    have h1 := h x (by simp)
    have e := one_cost x.1.w L x.2 h1 L (Nat.le_refl _)
    rw [sumI_congr (g := fun j => (if L - j ≤ x.2 then x.1.w else 0) + wsum (deep SL (L - j))) (fun j => by
      rw [deep_cons]
      by_cases hj : L - j ≤ x.2
      · rw [if_pos hj, if_pos hj, wsum_cons]
      · rw [if_neg hj, if_neg hj]; omega), sumI_add, e, deep_cost L SL (fun y hy => h y (by simp [hy]))]
    simp only [costS, List.map_cons, List.sum_cons]
    rw [show L - (L - x.2) = x.2 by omega]
theorem deep_width (L : Nat) : ∀ SL : List (Pk × Nat), (∀ x ∈ SL, x.2 ≤ L) → sumN (fun j => (deep SL (L - j)).length * 2 ^ j) L + kraftS L SL = SL.length * 2 ^ L
  | [], _ => by simp [deep, kraftS, sumN_zero]
  | x :: SL, h => by
    have h1 := h x (by simp)
    have e := one_width L x.2 h1 L (Nat.le_refl _)
    have ih := deep_width L SL (fun y hy => h y (by simp [hy]))
    rw [sumN_congr (g := fun j => (if L - j ≤ x.2 then 2 ^ j else 0) + (deep SL (L - j)).length * 2 ^ j) (fun j => by
      rw [deep_cons]
      by_cases hj : L - j ≤ x.2
      · rw [if_pos hj, if_pos hj, List.length_cons, Nat.add_mul]; omega
      · rw [if_neg hj, if_neg hj]; omega), sumN_add]
    rw [show max L (L - x.2) = L by omega] at e
    unfold kraftS at ih ⊢
    rw [List.map_cons, List.sum_cons, List.length_cons, Nat.add_mul]
    omega

/-- No lengths of at most L whose Kraft sum is at most 1 are cheaper. -/
theorem opt (SL : List (Pk × Nat)) (L : Nat) (hS : Srt (SL.map (·.1))) (hpos : ∀ x ∈ SL.map (·.1), 0 < x.w) (hL : ∀ x ∈ SL, x.2 ≤ L + 1) (h1 : 1 ≤ SL.length) (hk : kraftS (L + 1) SL ≤ 2 ^ (L + 1)) :
    wsum ((lev (SL.map (·.1)) L).take (2 * SL.length - 2)) ≤ costS SL := by
  obtain ⟨i1, i2⟩ := opt_chain SL (L + 1) hS hpos L
  have hc := deep_cost (L + 1) SL hL
  have hw := deep_width (L + 1) SL hL
  have hg := chain_ge SL (L + 1) L
  have hx : 2 * SL.length - 2 ≤ chain SL (L + 1) L := by
    have h3 : (2 * SL.length - 2) * 2 ^ L < (chain SL (L + 1) L + 1) * 2 ^ L := by
      have h4 : SL.length * 2 ^ (L + 1) = (2 * SL.length - 2) * 2 ^ L + 2 ^ (L + 1) := by
        rw [Nat.pow_succ]
        obtain ⟨d, hd⟩ : ∃ d, SL.length = d + 1 := ⟨SL.length - 1, by omega⟩
        rw [hd, show 2 * (d + 1) - 2 = 2 * d by omega, Nat.add_mul, Nat.one_mul]
        rw [Nat.mul_comm (2 ^ L) 2, ← Nat.mul_assoc, Nat.mul_comm d 2]
      omega
    have := Nat.lt_of_mul_lt_mul_right h3
    omega
  have hmono := wsum_take_mono (l := lev (SL.map (·.1)) L) (fun x hx => Int.le_of_lt (lev_pos _ hpos L x hx)) hx
  rw [← hc]
  omega

/-! ### the lengths -/
def leavesAt : List Int → Nat → List Pk
  | [], _ => []
  | f :: F, k => if 0 < f then ⟨min f 1048576, [k]⟩ :: leavesAt F (k + 1) else leavesAt F (k + 1)
def phi (F : List Int) (i : Nat) : Int := min (max (F.getD i 0) 0) 1048576
def usedAt : List Int → Nat → List Nat
  | [], _ => []
  | f :: F, k => if 0 < f then k :: usedAt F (k + 1) else usedAt F (k + 1)
theorem leaves_syms : ∀ (F : List Int) (k : Nat), syms (leavesAt F k) = usedAt F k
  | [], _ => rfl
  | f :: F, k => by
    unfold leavesAt usedAt
    have ih := leaves_syms F (k + 1)
    by_cases h : 0 < f
    · rw [if_pos h, if_pos h, ← ih]; simp [syms]
    · rw [if_neg h, if_neg h, ih]
theorem used_ge : ∀ (F : List Int) (k : Nat), ∀ x ∈ usedAt F k, k ≤ x ∧ x < k + F.length
  | [], _, x, h => by simp [usedAt] at h
  | f :: F, k, x, h => by
    have ih := used_ge F (k + 1) x
    unfold usedAt at h
    rw [List.length_cons]
    split at h
    · rcases List.mem_cons.1 h with rfl | h
      · omega
      · have := ih h; omega
    · have := ih h; omega
theorem used_nodup : ∀ (F : List Int) (k : Nat), (usedAt F k).Nodup
  | [], _ => by simp [usedAt]
  | f :: F, k => by
    have ih := used_nodup F (k + 1)
    unfold usedAt
    split
    · refine List.nodup_cons.2 ⟨fun hm => ?_, ih⟩
      have := used_ge F (k + 1) k hm
      omega
    · exact ih
theorem used_mem : ∀ (F : List Int) (k i : Nat), i < F.length → (k + i ∈ usedAt F k ↔ 0 < F.getD i 0)
  | [], _, i, h => by simp at h
  | f :: F, k, i, h => by
    unfold usedAt
    cases i with
    | zero =>
      simp only [Nat.add_zero, List.getD_cons_zero]
      by_cases hf : 0 < f
      · simp [hf]
      · rw [if_neg hf]
        refine ⟨fun hm => ?_, fun hm => absurd hm hf⟩
        have := used_ge F (k + 1) k hm
        omega
    | succ i =>
      have ih := used_mem F (k + 1) i (by simpa using h)
      rw [show k + 1 + i = k + (i + 1) by omega] at ih
      rw [List.getD_cons_succ, ← ih]
      by_cases hf : 0 < f
      · rw [if_pos hf]
        simp
      · rw [if_neg hf]
theorem leaves_one : ∀ (F : List Int) (k : Nat), ∀ x ∈ leavesAt F k, ∃ i, x.s = [k + i] ∧ i < F.length ∧ x.w = phi F i ∧ 0 < x.w ∧ x.w ≤ 1048576
  | [], _, x, h => by simp [leavesAt] at h
  | f :: F, k, x, h => by
    have ih := leaves_one F (k + 1) x
    unfold leavesAt at h
    have hs : ∀ (hx : x ∈ leavesAt F (k + 1)), ∃ i, x.s = [k + i] ∧ i < (f :: F).length ∧ x.w = phi (f :: F) i ∧ 0 < x.w ∧ x.w ≤ 1048576 := by
      intro hx
      obtain ⟨i, h1, h2, h3⟩ := ih hx
      refine ⟨i + 1, by rw [h1, show k + 1 + i = k + (i + 1) by omega], by simpa using h2, ?_⟩
      unfold phi at h3 ⊢
      rw [List.getD_cons_succ]
      exact h3
    by_cases hf : 0 < f
    · rw [if_pos hf] at h
      rcases List.mem_cons.1 h with rfl | h
      · refine ⟨0, rfl, by simp, ?_, ?_, ?_⟩
        · unfold phi
          rw [List.getD_cons_zero]
          show min f 1048576 = _
          omega
        · show 0 < min f 1048576
          omega
        · show min f 1048576 ≤ _
          omega
      · exact hs h
    · rw [if_neg hf] at h
      exact hs h

theorem syms_take_one : ∀ (S : List Pk), (∀ x ∈ S, x.s.length = 1) → ∀ l, syms (S.take l) = (syms S).take l
  | [], _, l => by simp [syms]
  | x :: S, h, 0 => by simp [syms]
  | x :: S, h, l + 1 => by
    have ih := syms_take_one S (fun y hy => h y (by simp [hy])) l
    obtain ⟨a, ha⟩ := List.length_eq_one_iff.1 (h x (by simp))
    unfold syms at ih ⊢
    rw [List.take_succ_cons, List.flatMap_cons, List.flatMap_cons, ih, ha, List.singleton_append, List.singleton_append, List.take_succ_cons]
theorem syms_len_one : ∀ (S : List Pk), (∀ x ∈ S, x.s.length = 1) → (syms S).length = S.length
  | [], _ => by simp [syms]
  | x :: S, h => by
    have ih := syms_len_one S (fun y hy => h y (by simp [hy]))
    unfold syms at ih ⊢
    rw [List.flatMap_cons, List.length_append, ih, h x (by simp), List.length_cons]
    omega

theorem count_take {σ : List Nat} (h : σ.Nodup) {i : Nat} (hi : i < σ.length) (l : Nat) : (σ.take l).count σ[i] = if i < l then 1 else 0 := by
  by_cases hl : i < l
  · rw [if_pos hl]
    have h1 : (σ.take l).Nodup := h.sublist (List.take_sublist l σ)
    rw [h1.count, if_pos]
    exact List.mem_iff_getElem.2 ⟨i, by simp; omega, by simp⟩
  · rw [if_neg hl, List.count_eq_zero]
    intro hm
    obtain ⟨j, hj, he⟩ := List.mem_iff_getElem.1 hm
    rw [List.length_take] at hj
    rw [List.getElem_take] at he
    have := (List.getElem_inj h).1 he
    omega
theorem count_levels {σ : List Nat} (h : σ.Nodup) {i : Nat} (hi : i < σ.length) : ∀ ls : List Nat, (ls.flatMap (fun l => σ.take l)).count σ[i] = gtc ls i
  | [] => rfl
  | l :: ls => by
    rw [List.flatMap_cons, List.count_append, count_levels h hi ls, count_take h hi]
    unfold gtc
    rw [List.countP_cons]
    simp only [decide_eq_true_eq]
    omega

theorem map_range {α : Type} (f : Nat → α) (σ : List Nat) : (List.range σ.length).map (fun i => f (σ.getD i 0)) = σ.map f := by
  refine List.ext_getElem (by simp) fun i h1 h2 => ?_
  simp only [List.length_map, List.length_range] at h1
  simp [List.getD, List.getElem?_eq_getElem h1]

def top (F : List Int) (L : Nat) : List Nat := syms ((lev (packs (leavesAt F 0)) L).take (2 * (leavesAt F 0).length - 2))
/-- The lengths that come out. -/
def lens (F : List Int) (L : Nat) : List Nat := (List.range F.length).map (fun i => (top F L).count i)

theorem two_terms {σ : List Nat} (f : Nat → Nat) (M : Nat) (hp : ∀ x ∈ σ, 1 ≤ f x) (hs : (σ.map f).sum = M) (h2 : 2 ≤ σ.length) : ∀ x ∈ σ, f x < M := by
  intro x hx
  have h1 : ∀ (l : List Nat), (∀ y ∈ l, 1 ≤ f y) → l.length ≤ (l.map f).sum := by
    intro l
    induction l with
    | nil => intro _; simp
    | cons a l ih =>
      intro h
      have := ih (fun y hy => h y (by simp [hy]))
      have := h a (by simp)
      simp only [List.length_cons, List.map_cons, List.sum_cons]
      omega
  obtain ⟨a, b, rfl⟩ := List.append_of_mem hx
  have ha := h1 a (fun y hy => hp y (by simp [hy]))
  have hb := h1 b (fun y hy => hp y (by simp [hy]))
  rw [List.map_append, List.map_cons, List.sum_append, List.sum_cons] at hs
  simp only [List.length_append, List.length_cons] at h2
  omega

theorem top_facts (F : List Int) (L : Nat) (h2 : 2 ≤ (leavesAt F 0).length) (hL : (leavesAt F 0).length ≤ 2 ^ (L + 1)) :
    2 * (leavesAt F 0).length - 2 ≤ (lev (packs (leavesAt F 0)) L).length ∧ (∀ i, (top F L).count i ≤ L + 1) ∧ (∀ i, i ∈ usedAt F 0 ↔ 0 < (top F L).count i) ∧
      ((usedAt F 0).map (fun i => 2 ^ (L + 1 - (top F L).count i))).sum = 2 ^ (L + 1) := by
  obtain ⟨S, hSd⟩ : ∃ S, S = packs (leavesAt F 0) := ⟨_, rfl⟩
  have hperm : S.Perm (leavesAt F 0) := hSd ▸ packs_perm _
  have hsrt : Srt S := hSd ▸ packs_srt _
  have hlen := hperm.length_eq
  have hone : ∀ x ∈ S, x.s.length = 1 := by
    intro x hx
    obtain ⟨i, h1, _⟩ := leaves_one F 0 x (hperm.mem_iff.1 hx)
    rw [h1]; rfl
  have hpos : ∀ x ∈ S, 0 < x.w := by
    intro x hx
    obtain ⟨i, _, _, _, h1, _⟩ := leaves_one F 0 x (hperm.mem_iff.1 hx)
    exact h1
  have henough := lev_enough S L (by omega) (by omega)
  obtain ⟨l, ls, d1, d2, d3, d4, d5, d6, d7, d8⟩ := desc S hsrt hpos L (2 * S.length - 2) henough
  obtain ⟨σ, hσ⟩ : ∃ σ, σ = syms S := ⟨_, rfl⟩
  have hσp : σ.Perm (usedAt F 0) := by rw [hσ, ← leaves_syms]; exact syms_perm hperm
  have hnd : σ.Nodup := hσp.symm.nodup (used_nodup F 0)
  have hσl : σ.length = S.length := by rw [hσ, syms_len_one S hone]
  have htop : (top F L).Perm ((l :: ls).flatMap (fun l => σ.take l)) := by
    unfold top
    rw [← hSd, ← hlen]
    refine d3.trans ?_
    rw [hσ]
    rw [show (fun l => syms (S.take l)) = (fun l => (syms S).take l) from funext (syms_take_one S hone)]
  have hcnt : ∀ i (h : i < σ.length), (top F L).count σ[i] = gtc (l :: ls) i := by
    intro i h
    rw [htop.count_eq, count_levels hnd h]
  have hnot : ∀ s, s ∉ σ → (top F L).count s = 0 := by
    intro s hs
    rw [htop.count_eq, List.count_eq_zero]
    intro hm
    obtain ⟨l2, _, h3⟩ := List.mem_flatMap.1 hm
    exact hs (List.mem_of_mem_take h3)
  have hlsl : (l :: ls).length = L + 1 := by simp [d1]
  have hk := kraft_desc (l :: ls) S.length d4 (fun x hx => by
    rcases List.mem_cons.1 hx with rfl | hx
    · exact d5
    · have := (List.pairwise_cons.1 d4).1 x hx; omega)
  rw [hlsl, d6] at hk
  have hsum0 : (σ.map (fun s => 2 ^ (L + 1 - (top F L).count s))).sum = 2 ^ (L + 1) := by
    rw [← map_range, hσl]
    rw [sum_map_eq (g := fun i => 2 ^ (L + 1 - gtc (l :: ls) i)) (fun i hi => by
      have hi : i < σ.length := by rw [hσl]; exact List.mem_range.1 hi
      rw [← hcnt i hi]
      simp [List.getD, List.getElem?_eq_getElem hi])]
    have h4 : S.length * 2 ^ (L + 1) = (2 * S.length - 2) * 2 ^ L + 2 ^ (L + 1) := by
      rw [Nat.pow_succ]
      obtain ⟨d, hd⟩ : ∃ d, S.length = d + 1 := ⟨S.length - 1, by omega⟩
      rw [hd, show 2 * (d + 1) - 2 = 2 * d by omega, Nat.add_mul, Nat.one_mul]
      rw [Nat.mul_comm (2 ^ L) 2, ← Nat.mul_assoc, Nat.mul_comm d 2]
    omega
  have hle : ∀ i, (top F L).count i ≤ L + 1 := by
    intro s
    by_cases hs : s ∈ σ
    · obtain ⟨i, hi, rfl⟩ := List.mem_iff_getElem.1 hs
      rw [hcnt i hi, ← hlsl]
      exact gtc_le _ _
    · rw [hnot s hs]; omega
  refine ⟨by rw [← hSd]; omega, hle, fun s => ?_, ?_⟩
  · rw [← hσp.mem_iff]
    constructor
    · intro hs
      have h3 := two_terms (fun s => 2 ^ (L + 1 - (top F L).count s)) (2 ^ (L + 1)) (fun _ _ => Nat.one_le_two_pow) hsum0 (by omega) s hs
      refine Nat.pos_of_ne_zero fun h0 => ?_
      simp only [h0, Nat.sub_zero] at h3
      omega
    · intro hc
      refine Classical.byContradiction fun hs => ?_
      rw [hnot s hs] at hc
      omega
  · rw [← hsum0]
    exact (hσp.symm.map _).sum_nat

/-- The weight of a package is that of its symbols. -/
def Wt (F : List Int) (x : Pk) : Prop := x.w = (x.s.map (phi F)).sum
theorem wt_leaf (F : List Int) : ∀ x ∈ leavesAt F 0, Wt F x := by
  intro x hx
  obtain ⟨i, h1, _, h3, _⟩ := leaves_one F 0 x hx
  unfold Wt
  rw [h1, h3]
  simp
theorem wt_lev (F : List Int) (S : List Pk) (h : ∀ x ∈ S, Wt F x) : ∀ k, ∀ x ∈ lev S k, Wt F x
  | 0 => h
  | k + 1 => by
    intro x hx
    rcases List.mem_append.1 ((packs_perm _).mem_iff.1 hx) with h1 | h1
    · exact h x h1
    · obtain ⟨i, hi⟩ := List.mem_iff_getElem?.1 h1
      rw [pairs_get] at hi
      split at hi
      · rename_i c d hc hd
        injection hi with hi
        subst hi
        have e1 := wt_lev F S h k c (List.mem_of_getElem? hc)
        have e2 := wt_lev F S h k d (List.mem_of_getElem? hd)
        unfold Wt at *
        simp only [List.map_append, List.sum_append]
        omega
      · cases hi
theorem wsum_syms (F : List Int) : ∀ l : List Pk, (∀ x ∈ l, Wt F x) → wsum l = ((syms l).map (phi F)).sum
  | [], _ => rfl
  | x :: l, h => by
    have h1 := h x (by simp)
    unfold Wt at h1
    rw [wsum_cons, wsum_syms F l (fun y hy => h y (by simp [hy]))]
    simp only [syms, List.flatMap_cons, List.map_append, List.sum_append]
    omega
/-- A sum over symbols, by their counts. -/
theorem sum_count (f : Nat → Int) (N : Nat) : ∀ l : List Nat, (∀ x ∈ l, x < N) → (l.map f).sum = ((List.range N).map (fun i => f i * ((l.count i : Nat) : Int))).sum
  | [], _ => by
    simp
    have : ∀ l : List Nat, (l.map (fun _ => (0 : Int))).sum = 0 := by
      intro l; induction l with
      | nil => rfl
      | cons a l ih => simp [ih]
    exact (this _).symm
  | x :: l, h => by
    rw [List.map_cons, List.sum_cons, sum_count f N l (fun y hy => h y (by simp [hy]))]
    have hx := h x (by simp)
    have : ∀ M, ((List.range M).map (fun i => f i * (((x :: l).count i : Nat) : Int))).sum = (if x < M then f x else 0) + ((List.range M).map (fun i => f i * ((l.count i : Nat) : Int))).sum := by
      intro M
      induction M with
      | zero => simp
      | succ M ih =>
        rw [List.range_succ, List.map_append, List.map_append, List.sum_append, List.sum_append, ih]
        simp only [List.map_cons, List.map_nil, List.sum_cons, List.sum_nil]
        rw [List.count_cons]
        by_cases h1 : x = M
        · subst h1
          simp only [BEq.rfl, if_true, if_neg (Nat.lt_irrefl x), Nat.lt_succ_self]
          rw [Int.natCast_add, Int.mul_add]
          simp
          omega
        · have h2 : (x == M) = false := by simpa using h1
          rw [h2]
          simp only [Bool.false_eq_true, if_false, Nat.add_zero]
          by_cases h3 : x < M
          · rw [if_pos h3, if_pos (by omega)]; omega
          · rw [if_neg h3, if_neg (by omega)]; omega
    rw [this N, if_pos hx]
end Go.Proofs.YthmhcnnigepohaaGreatDoor.Hf
