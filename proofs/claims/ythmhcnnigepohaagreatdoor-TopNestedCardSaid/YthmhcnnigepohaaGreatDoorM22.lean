/- The decoder over a row of bits, token by token: no program in sight. -/
import Derived.Test.YthmhcnnigepohaaGreatDoorM20
import Derived.Test.YthmhcnnigepohaaGreatDoorM03
import Derived.Test.YthmhcnnigepohaaGreatDoorM21
import Derived.Test.YthmhcnnigepohaaGreatDoorM06
import Derived.Deep.RegionHeld3
import Derived.Laws.BytesArg
import Derived.Lib.RabinKarpLaws
namespace Go.Proofs.YthmhcnnigepohaaGreatDoor.En
open If
open Hf (code code_fits)
set_option linter.unusedVariables false

/-- From bit p in state s to bit q in state s'. -/
inductive Path (bit : Nat → Nat) : Nat → PS → Nat → PS → Prop
  | refl {p s} : Path bit p s p s
  | step {p s s1 q s'} (h1 : s.skip = false) (h2 : s.k ≠ .fin) (hb : Bit1 (nb (p + 1) : Int) s (bit p) s1) (h : Path bit (p + 1) s1 q s') : Path bit p s q s'
theorem Path.le {bit : Nat → Nat} {p q : Nat} {s s' : PS} (h : Path bit p s q s') : p ≤ q := by
  induction h with
  | refl => exact Nat.le_refl _
  | step _ _ _ _ ih => omega
theorem want_fin {K : Ctl} {n : Nat} (h : wantN K = some n) : K ≠ .fin := by rintro rfl; cases h
theorem wantS_fin {K : Ctl} {L : List Nat} (h : wantS K = some L) : K ≠ .fin := by rintro rfl; cases h
theorem want_zero {s : PS} {n : Nat} (h : wantN s.k = some (n + 1)) : zero s = false := by
  obtain ⟨k, q, c, l, o, f, sk⟩ := s
  cases k <;> simp_all [wantN, zero]
theorem want_zero0 {s : PS} (h : wantN s.k = some 0) : zero s = true := by
  obtain ⟨k, q, c, l, o, f, sk⟩ := s
  cases k <;> simp_all [wantN, zero]
theorem wantS_zero {s : PS} {L : List Nat} (h : wantS s.k = some L) : zero s = false := by
  obtain ⟨k, q, c, l, o, f, sk⟩ := s
  cases k <;> simp_all [wantS, zero]

theorem path_num {bit : Nat → Nat} {p n v q N : Nat} {s s1 s' : PS} (hw : wantN s.k = some n) (hn0 : 0 < n) (hn : n ≤ 16) (hq : s.q = 0) (hc : s.c = 0) (hsk : s.skip = false) (hbits : ∀ i, i < n → bit (p + i) = v / 2 ^ i % 2) (hv : v < 2 ^ n)
    (hset : Settles (nb (p + n) : Int) N { s with q := n, c := v } v s1) (hrest : Path bit (p + n) s1 q s') : Path bit p s q s' := by
  have key : ∀ d j, j + d + 1 = n → Path bit (p + j) { s with q := j, c := v % 2 ^ j } q s' := by
    intro d
    induction d with
    | zero =>
      intro j hj
      obtain rfl : n = j + 1 := by omega
      refine .step hsk (want_fin hw) (.nl (N := N) (r := v) hw rfl hn (Nat.mod_lt _ (Nat.pow_pos (by omega))) (by rw [hbits j (by omega)]; omega) ?_ ?_) hrest
      · rw [hbits j (by omega)]
        have h1 := Nat.mod_pow_succ (b := 2) (x := v) (k := j)
        rw [Nat.mod_eq_of_lt hv] at h1
        simp only
        rw [Nat.mul_comm] at h1
        omega
      · exact hset
    | succ d ih =>
      intro j hj
      refine .step hsk (want_fin hw) (.nm hw (show j + 1 < n by omega) hn (Nat.mod_lt _ (Nat.pow_pos (by omega))) (by rw [hbits j (by omega)]; omega)) ?_
      have h1 := Nat.mod_pow_succ (b := 2) (x := v) (k := j)
      rw [hbits j (by omega)]
      have := ih (j + 1) (by omega)
      rw [h1, Nat.mul_comm (2 ^ j)] at this
      exact this
  have := key (n - 1) 0 (by omega)
  obtain ⟨k, q0, c0, l, o, f, sk⟩ := s
  simp only at hq hc
  subst hq hc
  simpa [Nat.mod_one] using this

theorem path_sym {bit : Nat → Nat} {p sy q N n : Nat} {L : List Nat} {s s1 s' : PS} (hw : wantS s.k = some L) (ok : LOk L) (hs : sy < L.length) (hn : L.getD sy 0 = n) (h0 : 0 < n) (hq : s.q = 0) (hc : s.c = 0) (hsk : s.skip = false) (hbits : ∀ i, i < n → bit (p + i) = code L sy / 2 ^ (n - 1 - i) % 2)
    (hset : Settles (nb (p + n) : Int) N { s with q := 0, c := 0 } sy s1) (hrest : Path bit (p + n) s1 q s') : Path bit p s q s' := by
  have hfit := code_fits ok.hL ok.kr hs (by omega)
  have key : ∀ d j, j + d + 1 = n → Path bit (p + j) { s with q := j, c := code L sy / 2 ^ (d + 1) } q s' := by
    intro d
    induction d with
    | zero =>
      intro j hj
      obtain rfl : n = j + 1 := by omega
      refine .step hsk (wantS_fin hw) (.sl (L := L) (sy := sy) (N := N) hw ok hs hn rfl ?_ hset) hrest
      rw [hbits j (by omega), show j + 1 - 1 - j = 0 by omega]
      simp
    | succ d ih =>
      intro j hj
      refine .step hsk (wantS_fin hw) (.sm (L := L) (sy := sy) (t := d + 1) hw ok hs (by omega) (by simp only; omega) rfl ?_) ?_
      · rw [hbits j (by omega), show n - 1 - j = d + 1 by omega]
      · exact ih (j + 1) (by omega)
  have := key (n - 1) 0 (by omega)
  obtain ⟨k, q0, c0, l, o, f, sk⟩ := s
  simp only at hq hc
  subst hq hc
  rw [show n - 1 + 1 = n by omega, Nat.div_eq_of_lt (by rw [hn] at hfit; exact hfit)] at this
  simpa using this

/-- A state that waits for a number of no bits goes on by itself. -/
def Pend (inp : Int) (s s' : PS) : Prop := (zero s = false ∧ s' = s) ∨ (zero s = true ∧ ∃ N, Settles inp N s 0 s')
theorem Pend.fire {inp : Int} {s s1 s' : PS} {v : Nat} (h : Fires inp s v s1) (k : Pend inp s1 s') : ∃ N, Settles inp N s v s' := by
  rcases k with ⟨hz, rfl⟩ | ⟨hz, N, hs⟩
  · exact ⟨0, .done h hz⟩
  · exact ⟨N + 1, .more h hz hs⟩
/-- From bit p on, all before p being read. -/
def Cont (bit : Nat → Nat) (p : Nat) (s : PS) (q : Nat) (s' : PS) : Prop := ∃ sr, Pend (nb p : Int) s sr ∧ Path bit p sr q s'
theorem Cont.refl {bit : Nat → Nat} {p : Nat} {s : PS} (h : zero s = false) : Cont bit p s p s := ⟨s, .inl ⟨h, rfl⟩, .refl⟩
theorem Cont.num {bit : Nat → Nat} {p n v q : Nat} {s s1 s' : PS} (hw : wantN s.k = some n) (hn : n ≤ 16) (hq : s.q = 0) (hc : s.c = 0) (hsk : s.skip = false) (hbits : ∀ i, i < n → bit (p + i) = v / 2 ^ i % 2) (hv : v < 2 ^ n)
    (hf : Fires (nb (p + n) : Int) { s with q := n, c := v } v s1) (h : Cont bit (p + n) s1 q s') : Cont bit p s q s' := by
  obtain ⟨sr, hp, hpath⟩ := h
  obtain ⟨N, hset⟩ := hp.fire hf
  by_cases h0 : n = 0
  · subst h0
    obtain rfl : v = 0 := by simpa using hv
    have e : ({ s with q := 0, c := 0 } : PS) = s := by
      obtain ⟨k, q0, c0, l, o, f, sk⟩ := s
      simp only at hq hc
      rw [hq, hc]
    rw [e] at hset
    exact ⟨sr, .inr ⟨want_zero0 hw, N, hset⟩, hpath⟩
  · refine ⟨s, .inl ⟨?_, rfl⟩, path_num hw (by omega) hn hq hc hsk hbits hv hset hpath⟩
    obtain ⟨m, rfl⟩ : ∃ m, n = m + 1 := ⟨n - 1, by omega⟩
    exact want_zero hw
theorem Cont.sym {bit : Nat → Nat} {p sy q n : Nat} {L : List Nat} {s s1 s' : PS} (hw : wantS s.k = some L) (ok : LOk L) (hs : sy < L.length) (hn : L.getD sy 0 = n) (h0 : 0 < n) (hq : s.q = 0) (hc : s.c = 0) (hsk : s.skip = false) (hbits : ∀ i, i < n → bit (p + i) = code L sy / 2 ^ (n - 1 - i) % 2)
    (hf : Fires (nb (p + n) : Int) { s with q := 0, c := 0 } sy s1) (h : Cont bit (p + n) s1 q s') : Cont bit p s q s' := by
  obtain ⟨sr, hp, hpath⟩ := h
  obtain ⟨N, hset⟩ := hp.fire hf
  exact ⟨s, .inl ⟨wantS_zero hw, rfl⟩, path_sym hw ok hs hn h0 hq hc hsk hbits hset hpath⟩
theorem Cont.path {bit : Nat → Nat} {p q : Nat} {s s' : PS} (h : Cont bit p s q s') (hz : zero s = false) : Path bit p s q s' := by
  obtain ⟨sr, hp, hpath⟩ := h
  rcases hp with ⟨_, rfl⟩ | ⟨h1, _⟩
  · exact hpath
  · rw [hz] at h1; cases h1

/-! ### from bits to bytes -/
def bitOf (B : List UInt8) (p : Nat) : Nat := (B.getD (p / 8) 0).toNat / 2 ^ (p % 8) % 2
theorem path_byte {bit : Nat → Nat} {i q B : Nat} {s' : PS} (hB : ∀ j, j < 8 → B / 2 ^ j % 2 = bit (8 * i + j)) (hfin : s'.k = .fin) : ∀ (d k : Nat) (s : PS), k + d = 8 → Path bit (8 * i + k) s q s' →
    (∃ sm, Byte ((i + 1 : Nat) : Int) B k s sm ∧ Path bit (8 * (i + 1)) sm q s') ∨ (Byte ((i + 1 : Nat) : Int) B k s s' ∧ q ≤ 8 * (i + 1))
  | 0, k, s, hk, h => by
    obtain rfl : k = 8 := by omega
    exact .inl ⟨s, .all, h⟩
  | d + 1, k, s, hk, h => by
    cases h with
    | refl => exact .inr ⟨.fin hfin, by omega⟩
    | step h1 h2 hb h =>
      rw [← hB k (by omega), show nb (8 * i + k + 1) = i + 1 by unfold nb; omega] at hb
      rcases path_byte hB hfin d (k + 1) _ (by omega) h with ⟨sm, hm, hp⟩ | ⟨hm, hq⟩
      · exact .inl ⟨sm, .step (by omega) h1 h2 hb hm, hp⟩
      · exact .inr ⟨.step (by omega) h1 h2 hb hm, hq⟩
theorem Path.fin_refl {bit : Nat → Nat} {p q : Nat} {s s' : PS} (h : Path bit p s q s') (hf : s.k = .fin) : p = q ∧ s' = s := by
  cases h with
  | refl => exact ⟨rfl, rfl⟩
  | step _ h2 => exact absurd hf h2
theorem Path.skip {bit : Nat → Nat} {p q : Nat} {s s' : PS} (h : Path bit p s q s') (hf : s.k ≠ .fin) (hf' : s'.k = .fin) : s.skip = false := by
  cases h with
  | refl => exact absurd hf' hf
  | step h1 => exact h1
/-- Along a path to the end, byte by byte. -/
theorem path_feeds {B tl : List UInt8} {q : Nat} {s' : PS} (hq : nb q = B.length) (hfin : s'.k = .fin) : ∀ (d i : Nat) (s : PS), i + d = B.length → s.k ≠ .fin → Path (bitOf B) (8 * i) s q s' →
    Feeds (i : Int) (B.drop i ++ tl) s (B.length : Int) tl s'
  | 0, i, s, hd, hk, h => by
    have := h.le
    have e : 8 * i = q ∨ 8 * i < q := by omega
    rcases e with e | e
    · subst e
      cases h with
      | refl => exact absurd hfin hk
      | step _ _ _ h => have := h.le; omega
    · unfold nb at hq; omega
  | d + 1, i, s, hd, hk, h => by
    have hi : i < B.length := by omega
    have hdrop : B.drop i ++ tl = B[i] :: (B.drop (i + 1) ++ tl) := by rw [List.drop_eq_getElem_cons hi]; rfl
    have hsk := h.skip hk hfin
    have e : ({ s with skip := false } : PS) = s := by
      obtain ⟨k, q0, c0, l, o, f, sk⟩ := s
      simp only at hsk
      rw [hsk]
    rw [hdrop]
    have hB : ∀ j, j < 8 → (B[i]).toNat / 2 ^ j % 2 = bitOf B (8 * i + j) := fun j hj => by
      unfold bitOf
      rw [show (8 * i + j) / 8 = i by omega, show (8 * i + j) % 8 = j by omega]
      simp [List.getD, List.getElem?_eq_getElem hi]
    have hx : ((i + 1 : Nat) : Int) = (i : Int) + 1 := by omega
    rcases path_byte hB hfin 8 0 s rfl (by simpa using h) with ⟨sm, hm, hp⟩ | ⟨hm, hqq⟩
    · rw [hx] at hm
      by_cases hmf : sm.k = .fin
      · obtain ⟨h1, rfl⟩ := hp.fin_refl hmf
        have h2 : i + 1 = B.length := by unfold nb at hq; omega
        rw [List.drop_of_length_le (show B.length ≤ i + 1 by omega), List.nil_append, show ((B.length : Nat) : Int) = (i : Int) + 1 by omega]
        exact .fin (by rw [e]; exact hm) hmf
      · refine .more (by rw [e]; exact hm) hmf ?_
        rw [← hx]
        exact path_feeds hq hfin d (i + 1) sm (by omega) hmf hp
    · rw [hx] at hm
      have hlt : 8 * i < q := by
        have := h.le
        rcases Nat.lt_or_ge (8 * i) q with h3 | h3
        · exact h3
        · have h4 : 8 * i = q := by omega
          subst h4
          cases h with
          | refl => exact absurd hfin hk
          | step _ _ _ h => have := h.le; omega
      have h2 : i + 1 = B.length := by unfold nb at hq; omega
      rw [List.drop_of_length_le (show B.length ≤ i + 1 by omega), List.nil_append, show ((B.length : Nat) : Int) = (i : Int) + 1 by omega]
      exact .fin (by rw [e]; exact hm) hfin
end Go.Proofs.YthmhcnnigepohaaGreatDoor.En

/- Bytes and copies as bits, and back: no program in sight. -/
namespace Go.Proofs.YthmhcnnigepohaaGreatDoor.En
open If
open Hf (code code_fits)
set_option linter.unusedVariables false

/-- A byte (n = 0), or a copy of n bytes. -/
structure It where
  c : UInt8
  n : Nat
  far : Nat
deriving Inhabited

/-- The last symbol from s0 on, below s0 + k, whose least value is at most x. -/
def lastS (f : Nat → Nat) (x s0 : Nat) : Nat → Nat → Nat
  | 0, out => out
  | k + 1, out => let out' := lastS f x s0 k out
                  if f (s0 + k) ≤ x then s0 + k else out'
def lsym (n : Nat) : Nat := if n = 258 then 285 else lastS lenM n 257 28 257
def dsym (n : Nat) : Nat := lastS dstM n 0 30 0
theorem lsym_all : ∀ n, n < 259 → 3 ≤ n → 257 ≤ lsym n ∧ lsym n ≤ 285 ∧ lenM (lsym n) ≤ n ∧ n - lenM (lsym n) < 2 ^ lenK (lsym n) ∧ lenK (lsym n) ≤ 5 := by decide +kernel
theorem lastS_spec (f : Nat → Nat) (x s0 : Nat) (h0 : f s0 ≤ x) : ∀ k out, 1 ≤ k → s0 ≤ lastS f x s0 k out ∧ lastS f x s0 k out < s0 + k ∧ f (lastS f x s0 k out) ≤ x ∧ (∀ j, lastS f x s0 k out < j → j < s0 + k → x < f j)
  | 0, out, h => by omega
  | k + 1, out, _ => by
    unfold lastS
    by_cases hf : f (s0 + k) ≤ x
    · simp only [hf, if_true]
      exact ⟨by omega, by omega, trivial, fun j h1 h2 => by omega⟩
    · simp only [hf, if_false]
      have hk : 1 ≤ k := by
        rcases Nat.eq_zero_or_pos k with rfl | h
        · exact absurd h0 hf
        · exact h
      obtain ⟨a, b, c, d⟩ := lastS_spec f x s0 h0 k out hk
      refine ⟨a, by omega, c, fun j h1 h2 => ?_⟩
      by_cases hj : j = s0 + k
      · subst hj; omega
      · exact d j h1 (by omega)
theorem dst_next : ∀ s, s < 30 → dstM s + 2 ^ dstK s = (if s = 29 then 32769 else dstM (s + 1)) ∧ dstK s ≤ 13 := by decide
theorem dsym_all (n : Nat) (h1 : 1 ≤ n) (h2 : n ≤ 32768) : dsym n ≤ 29 ∧ dstM (dsym n) ≤ n ∧ n - dstM (dsym n) < 2 ^ dstK (dsym n) ∧ dstK (dsym n) ≤ 13 := by
  obtain ⟨a, b, c, d⟩ := lastS_spec dstM n 0 (by simpa [dstM] using h1) 30 0 (by omega)
  obtain ⟨e1, e2⟩ := dst_next (dsym n) (by unfold dsym; omega)
  have hd : dsym n = lastS dstM n 0 30 0 := rfl
  rw [← hd] at a b c d
  refine ⟨by omega, c, ?_, e2⟩
  split at e1
  · omega
  · have := d (dsym n + 1) (by omega) (by omega)
    omega

/-- What an item adds to what is out. -/
def grow (o : List UInt8) (x : It) : List UInt8 := o ++ if x.n = 0 then [x.c] else cp x.far x.n o
def Valid (o : List UInt8) (x : It) : Prop := x.n = 0 ∨ (3 ≤ x.n ∧ x.n ≤ 258 ∧ 1 ≤ x.far ∧ x.far ≤ 32768 ∧ x.far ≤ o.length)
inductive Valids : List UInt8 → List It → List UInt8 → Prop
  | nil {o} : Valids o [] o
  | cons {o x l o'} (h : Valid o x) (t : Valids (grow o x) l o') : Valids o (x :: l) o'
theorem Valids.append {o o1 o2 : List UInt8} {l m : List It} (h : Valids o l o1) (k : Valids o1 m o2) : Valids o (l ++ m) o2 := by
  induction h with
  | nil => exact k
  | cons h _ ih => exact .cons h (ih k)
theorem Valids.snoc {o o1 : List UInt8} {l : List It} {x : It} (h : Valids o l o1) (k : Valid o1 x) : Valids o (l ++ [x]) (grow o1 x) := h.append (.cons k .nil)
def cd (L : List Nat) (s : Nat) : List Nat := msb (code L s) (L.getD s 0)
theorem cd_len (L : List Nat) (s : Nat) : (cd L s).length = L.getD s 0 := msb_len _ _
theorem cd_le (L : List Nat) (s : Nat) : ∀ x ∈ cd L s, x ≤ 1 := msb_le _ _
def itBits (A B : List Nat) (x : It) : List Nat :=
  if x.n = 0 then cd A x.c.toNat else cd A (lsym x.n) ++ (lsb (x.n - lenM (lsym x.n)) (lenK (lsym x.n)) ++ (cd B (dsym x.far) ++ lsb (x.far - dstM (dsym x.far)) (dstK (dsym x.far))))
def itsBits (A B : List Nat) (l : List It) : List Nat := l.flatMap (itBits A B)
/-- The symbols that occur have codes. -/
def Has (L : List Nat) (s : Nat) : Prop := s < L.length ∧ 0 < L.getD s 0
def HasIt (A B : List Nat) (x : It) : Prop := if x.n = 0 then Has A x.c.toNat else Has A (lsym x.n) ∧ Has B (dsym x.far)

/-- The bits from p on begin with V. -/
def Bits (bit : Nat → Nat) (p : Nat) (V : List Nat) : Prop := ∀ i, i < V.length → bit (p + i) = V.getD i 0
theorem Bits.left {bit : Nat → Nat} {p : Nat} {U V : List Nat} (h : Bits bit p (U ++ V)) : Bits bit p U := fun i hi => by
  rw [h i (by rw [List.length_append]; omega)]
  simp only [List.getD, List.getElem?_append_left hi]
theorem Bits.right {bit : Nat → Nat} {p : Nat} {U V : List Nat} (h : Bits bit p (U ++ V)) : Bits bit (p + U.length) V := fun i hi => by
  rw [Nat.add_assoc, h (U.length + i) (by rw [List.length_append]; omega)]
  simp only [List.getD]
  rw [List.getElem?_append_right (by omega), Nat.add_sub_cancel_left]
theorem Bits.num {bit : Nat → Nat} {p v n : Nat} (h : Bits bit p (lsb v n)) : ∀ i, i < n → bit (p + i) = v / 2 ^ i % 2 := fun i hi => by
  rw [h i (by rw [lsb_len]; exact hi), lsb_get v n i hi]
theorem Bits.cd {bit : Nat → Nat} {p s : Nat} {L : List Nat} (h : Bits bit p (cd L s)) : ∀ i, i < L.getD s 0 → bit (p + i) = code L s / 2 ^ (L.getD s 0 - 1 - i) % 2 := fun i hi => by
  rw [h i (by rw [cd_len]; exact hi)]
  exact msb_get _ _ i hi

def LS (A B : List Nat) (o : List UInt8) : PS := ⟨.lit A B, 0, 0, true, o, o, false⟩
theorem room_of {p n m : Nat} {o : List UInt8} (h1 : o.length + m ≤ 65536) (h2 : o.length + m ≤ 130 * (p + n) + 1024) (h3 : p + n ≤ 4000000) : Room (nb (p + n) : Int) o o m := by
  have : p + n ≤ 8 * nb (p + n) := by unfold nb; omega
  have : nb (p + n) ≤ 1000000 := by unfold nb; omega
  refine ⟨h1, ?_, h1, by omega, by omega⟩
  omega

theorem item_cont {bit : Nat → Nat} {p q : Nat} {A B : List Nat} {o : List UInt8} {x : It} {s' : PS} (oka : LOk A) (okb : LOk B) (hv : Valid o x) (hh : HasIt A B x) (hb : Bits bit p (itBits A B x)) (hroom : (grow o x).length ≤ 65536) (hpos : o.length ≤ 129 * p) (hp : p + (itBits A B x).length ≤ 4000000)
    (h : Cont bit (p + (itBits A B x).length) (LS A B (grow o x)) q s') : Cont bit p (LS A B o) q s' := by
  unfold itBits at hb h hp
  unfold grow at hroom h
  unfold HasIt at hh
  by_cases h0 : x.n = 0
  · rw [if_pos h0] at hb h hroom hh hp
    obtain ⟨hs, hl⟩ := hh
    rw [if_pos h0] at h
    rw [cd_len] at h hp
    simp only [List.length_append, List.length_singleton] at hroom
    exact Cont.sym (L := A) (s := LS A B o) rfl oka hs rfl hl rfl rfl rfl hb.cd (.byte (room_of (o := o) (m := 1) hroom (by omega) hp)) h
  · rw [if_neg h0] at hb h hroom hh hp
    rw [if_neg h0] at h
    rcases hv with hv | ⟨v1, v2, v3, v4, v5⟩
    · exact absurd hv h0
    obtain ⟨⟨hs1, hl1⟩, ⟨hs2, hl2⟩⟩ := hh
    obtain ⟨l1, l2, l3, l4, l5⟩ := lsym_all x.n (by omega) v1
    obtain ⟨d1, d2, d3, d4⟩ := dsym_all x.far v3 v4
    have hb1 := hb.left.cd
    have hb2 := hb.right
    rw [cd_len] at hb2
    have hb3 := hb2.left.num
    have hb4 := hb2.right
    rw [lsb_len] at hb4
    have hb5 := hb4.left.cd
    have hb6 := hb4.right.num
    rw [cd_len] at hb6
    simp only [List.length_append, cd_len, lsb_len] at h hp
    simp only [List.length_append, cp_len] at hroom
    refine Cont.sym (L := A) (s := LS A B o) rfl oka hs1 rfl hl1 rfl rfl rfl hb1 (.len l1 l2) ?_
    refine Cont.num rfl (by omega) rfl rfl rfl hb3 l4 .lenx ?_
    refine Cont.sym rfl okb hs2 rfl hl2 rfl rfl rfl hb5 (.dist d1) ?_
    have e1 : lenM (lsym x.n) + (x.n - lenM (lsym x.n)) = x.n := by omega
    have e2 : dstM (dsym x.far) + (x.far - dstM (dsym x.far)) = x.far := by omega
    refine Cont.num rfl (by omega) rfl rfl rfl hb6 d3 (.distx (room_of (o := o) (m := lenM (lsym x.n) + (x.n - lenM (lsym x.n))) (by rw [e1]; exact hroom) (by rw [e1]; omega) (by omega)) (by omega) (by rw [e2]; exact v5)) ?_
    rw [e1, e2]
    have e3 : p + (A.getD (lsym x.n) 0 + (lenK (lsym x.n) + (B.getD (dsym x.far) 0 + dstK (dsym x.far)))) = p + A.getD (lsym x.n) 0 + lenK (lsym x.n) + B.getD (dsym x.far) 0 + dstK (dsym x.far) := by omega
    rw [← e3]
    exact h
theorem grow_len (o : List UInt8) (x : It) : (grow o x).length = o.length + if x.n = 0 then 1 else x.n := by
  unfold grow
  split <;> simp [cp_len]
theorem valids_len {o o' : List UInt8} {l : List It} (h : Valids o l o') : o.length ≤ o'.length := by
  induction h with
  | nil => exact Nat.le_refl _
  | cons _ _ ih => rw [grow_len] at ih; omega
theorem it_pos {A B : List Nat} {o : List UInt8} {x : It} (hv : Valid o x) (hh : HasIt A B x) {p : Nat} (h : o.length ≤ 129 * p) : (grow o x).length ≤ 129 * (p + (itBits A B x).length) := by
  rw [grow_len]
  unfold itBits
  unfold HasIt at hh
  by_cases h0 : x.n = 0
  · rw [if_pos h0] at hh ⊢
    rw [if_pos h0, cd_len]
    have := hh.2
    omega
  · rw [if_neg h0] at hh ⊢
    rw [if_neg h0]
    simp only [List.length_append, cd_len, lsb_len]
    have := hh.1.2
    have := hh.2.2
    rcases hv with hv | ⟨v1, v2, _⟩
    · exact absurd hv h0
    · omega
theorem items_cont {bit : Nat → Nat} {q : Nat} {A B : List Nat} {s' : PS} (oka : LOk A) (okb : LOk B) {o o' : List UInt8} {l : List It} (hv : Valids o l o') : ∀ (p : Nat), (∀ x ∈ l, HasIt A B x) → Bits bit p (itsBits A B l) → o'.length ≤ 65536 → o.length ≤ 129 * p → p + (itsBits A B l).length ≤ 4000000 →
    Cont bit (p + (itsBits A B l).length) (LS A B o') q s' → Cont bit p (LS A B o) q s' := by
  induction hv with
  | nil => intro p _ _ _ _ _ h; exact h
  | cons hx ht ih =>
    intro p hh hb hlen hpos hp h
    simp only [itsBits, List.flatMap_cons, List.length_append] at hb h hp
    have hgl := valids_len ht
    refine item_cont oka okb hx (hh _ (by simp)) hb.left (by omega) hpos (by omega) ?_
    refine ih _ (fun y hy => hh y (by simp [hy])) hb.right hlen (it_pos hx (hh _ (by simp)) hpos) (by unfold itsBits; omega) ?_
    rw [Nat.add_assoc]
    exact h
/-- The end of a block. -/
theorem stop_cont {bit : Nat → Nat} {p : Nat} {A B : List Nat} {o : List UInt8} (oka : LOk A) (hh : Has A 256) (hb : Bits bit p (cd A 256)) : Cont bit p (LS A B o) (p + A.getD 256 0) ⟨.fin, 0, 0, true, o, o, false⟩ :=
  Cont.sym (L := A) (s := LS A B o) rfl oka hh.1 rfl hh.2 rfl rfl rfl hb.cd .stop (.refl rfl)

/-- Bits in bytes. -/
theorem bits_packB (W : List Nat) (hW : ∀ x ∈ W, x ≤ 1) : Bits (bitOf (packB W)) 0 W := fun i hi => by
  unfold bitOf
  rw [Nat.zero_add, packB_bit W hW (i / 8) (i % 8) (by unfold nb; omega) (by omega), Nat.div_add_mod]
/-- What is made of data, whatever comes behind. -/
def Inflates (data s : List UInt8) : Prop := data ≠ [] ∧ ∀ tl, ∃ sf, Feeds 0 (data ++ tl) ps0 (data.length : Int) tl sf ∧ sf.k = .fin ∧ sf.out = s ∧ sf.fresh = s
theorem inflates_of {W : List Nat} (hW : ∀ x ∈ W, x ≤ 1) {s : List UInt8} {sk : Bool} (h : Cont (bitOf (packB W)) 0 ps0 W.length ⟨.fin, 0, 0, true, s, s, sk⟩) (h0 : W ≠ []) : Inflates (packB W) s := by
  refine ⟨?_, fun tl => ⟨_, path_feeds (B := packB W) (tl := tl) (q := W.length) (by rw [packB_len]) rfl _ 0 ps0 (Nat.zero_add _) (by simp [ps0]) (h.path rfl), rfl, rfl, rfl⟩⟩
  intro he
  have := packB_len W
  rw [he] at this
  have h2 : 0 < W.length := List.length_pos_iff.2 h0
  simp only [List.length_nil, nb] at this
  omega

/-! ### a fixed block -/
theorem fix_has (s : Nat) (h : s < 288) : Has fixL s ∧ fixL.getD s 0 ≤ 9 := by
  have : ∀ s, s < 288 → s < fixL.length ∧ 0 < fixL.getD s 0 ∧ fixL.getD s 0 ≤ 9 := by decide +kernel
  exact ⟨⟨(this s h).1, (this s h).2.1⟩, (this s h).2.2⟩
theorem fix_hasD (s : Nat) (h : s < 32) : Has fixD s ∧ fixD.getD s 0 = 5 := by
  have : ∀ s, s < 32 → s < fixD.length ∧ 0 < fixD.getD s 0 ∧ fixD.getD s 0 = 5 := by decide +kernel
  exact ⟨⟨(this s h).1, (this s h).2.1⟩, (this s h).2.2⟩
theorem fix_it {o : List UInt8} {x : It} (hv : Valid o x) : HasIt fixL fixD x ∧ (itBits fixL fixD x).length ≤ 11 * ((grow o x).length - o.length) := by
  rw [grow_len]
  unfold HasIt itBits
  by_cases h0 : x.n = 0
  · rw [if_pos h0, if_pos h0, if_pos h0, cd_len]
    have := fix_has x.c.toNat (by have := UInt8.toNat_lt x.c; omega)
    exact ⟨this.1, by omega⟩
  · rw [if_neg h0, if_neg h0, if_neg h0]
    rcases hv with hv | ⟨v1, v2, v3, v4, v5⟩
    · exact absurd hv h0
    obtain ⟨l1, l2, l3, l4, l5⟩ := lsym_all x.n (by omega) v1
    obtain ⟨d1, d2, d3, d4⟩ := dsym_all x.far v3 v4
    have a := fix_has (lsym x.n) (by omega)
    have b := fix_hasD (dsym x.far) (by omega)
    refine ⟨⟨a.1, b.1⟩, ?_⟩
    simp only [List.length_append, cd_len, lsb_len]
    omega
theorem fix_its {o o' : List UInt8} {l : List It} (h : Valids o l o') : (∀ x ∈ l, HasIt fixL fixD x) ∧ (itsBits fixL fixD l).length ≤ 11 * (o'.length - o.length) := by
  induction h with
  | nil => simp [itsBits]
  | cons hx ht ih =>
    obtain ⟨a, b⟩ := fix_it hx
    have h1 := valids_len ht
    have h2 := grow_len _ _ ▸ h1
    refine ⟨fun y hy => ?_, ?_⟩
    · rcases List.mem_cons.1 hy with rfl | hy
      · exact a
      · exact ih.1 y hy
    · have := ih.2
      simp only [itsBits, List.flatMap_cons, List.length_append] at this ⊢
      rw [grow_len] at b this
      omega
theorem itBits_le (A B : List Nat) (x : It) : ∀ y ∈ itBits A B x, y ≤ 1 := by
  intro y hy
  unfold itBits at hy
  split at hy
  · exact cd_le _ _ y hy
  · simp only [List.mem_append] at hy
    rcases hy with h | h | h | h
    · exact cd_le _ _ y h
    · exact lsb_le _ _ y h
    · exact cd_le _ _ y h
    · exact lsb_le _ _ y h
theorem itsBits_le (A B : List Nat) (l : List It) : ∀ y ∈ itsBits A B l, y ≤ 1 := by
  intro y hy
  obtain ⟨x, _, h⟩ := List.mem_flatMap.1 hy
  exact itBits_le A B x y h
/-- What Fixed writes. -/
def fixedBits (l : List It) : List Nat := lsb 3 3 ++ (itsBits fixL fixD l ++ cd fixL 256)
theorem fixed_inflates {s : List UInt8} {l : List It} (h : Valids [] l s) (hs : s.length ≤ 65536) : Inflates (packB (fixedBits l)) s ∧ (packB (fixedBits l)).length ≤ 11 * s.length / 8 + 3 := by
  obtain ⟨h1, h2⟩ := fix_its h
  have h256 := fix_has 256 (by omega)
  have hlen : (fixedBits l).length = 3 + ((itsBits fixL fixD l).length + fixL.getD 256 0) := by simp [fixedBits, lsb_len, cd_len]
  simp only [List.length_nil, Nat.sub_zero] at h2
  have hle : ∀ x ∈ fixedBits l, x ≤ 1 := by
    intro x hx
    simp only [fixedBits, List.mem_append] at hx
    rcases hx with h | h | h
    · exact lsb_le _ _ x h
    · exact itsBits_le _ _ _ x h
    · exact cd_le _ _ x h
  have hb := bits_packB _ hle
  have e1 : fixL.getD 256 0 = 7 := by decide +kernel
  refine ⟨inflates_of hle (sk := false) ?_ (by simp [fixedBits, lsb]), by rw [packB_len, hlen, e1]; unfold nb; omega⟩
  have hb1 := hb.left.num
  have hb2 := hb.right
  rw [lsb_len] at hb2
  refine Cont.num (s := ps0) (n := 3) (v := 3) rfl (by omega) rfl rfl rfl hb1 (by omega) .fixed ?_
  refine items_cont (o := []) fixL_ok fixD_ok h _ h1 hb2.left hs (by simp) (by omega) ?_
  have := stop_cont (o := s) (B := fixD) fixL_ok h256.1 hb2.right
  rw [hlen, ← Nat.zero_add (3 + _), ← Nat.add_assoc, ← Nat.add_assoc]
  exact this
end Go.Proofs.YthmhcnnigepohaaGreatDoor.En

/- inflate.writer: code; lengthSymbol, distanceSymbol. -/
namespace Go.Proofs.YthmhcnnigepohaaGreatDoor.En
open Go.RowKit
open Dg (BAt bcells)
open If (Grows lenM lenK dstM dstK)
open Hf (IR zI Nw)
set_option linter.unusedVariables false

/-- A slice of numbers that lies where nothing of G does. -/
def NR (w : World) (G : List Nat) (v : Value) (L : List Nat) : Prop :=
  ∃ b off c, v = .slice (some ⟨b, off, none⟩) L.length c ∧ b ∉ G ∧ b < w.heap.size ∧ ∀ i, i < L.length → w.cell? ⟨b, off + i, none⟩ = some (.int .i64 (L.getD i 0 : Nat))
theorem NR.fr {w w' : World} {G G' : List Nat} {v : Value} {L : List Nat} (h : NR w G v L) (hf : Fr G w w') (hg : Grows w G G') : NR w' G' v L := by
  obtain ⟨b, off, c, h1, h2, h3, h4⟩ := h
  refine ⟨b, off, c, h1, fun hm => ?_, Nat.lt_of_lt_of_le h3 hf.size, fun i hi => ?_⟩
  · rcases hg b hm with h | h
    · exact h2 h
    · omega
  · rw [World.cell?_of_block (w := w) (hf.block b h3 h2)]
    exact h4 i hi
theorem NR.ir {w : World} {G : List Nat} {v : Value} {L : List Nat} (h : NR w G v L) : IR w v (zI L) := by
  obtain ⟨b, off, c, h1, h2, h3, h4⟩ := h
  refine ⟨some ⟨b, off, none⟩, c, by rw [Hf.zI_len]; exact h1, fun i hi => ⟨_, rfl, ?_⟩⟩
  rw [Hf.zI_len] at hi
  rw [Hf.zI_get, Addr.add_lit]
  exact h4 i hi
theorem Hf_ir_cell {w : World} {a : Option Addr} {n c : Nat} {l : List Int} (h : IR w (.slice a n c) l) {i : Nat} (hi : i < l.length) : ∃ x, a = some x ∧ w.cell? (x.add i) = some (.int .i64 (l.getD i 0)) := by
  obtain ⟨a', c', e, h2⟩ := h
  injection e with e _ _
  rw [e]
  exact h2 i hi
theorem World_spot {w : World} {x : Addr} {v : Value} (hx : x.spot = none) : x = ⟨x.block, x.off, none⟩ := by cases x; simp_all

set_option maxRecDepth 100000 in
set_option maxHeartbeats 4000000 in
theorem code39_any (U : Nat) (G : List Nat) (W C L : List Nat) (vc vl : Value) (s : Nat) (w : World) (h : Wr w U G W) (hc : NR w G vc C) (hl : NR w G vl L) (hs : s < C.length) (hs2 : s < L.length) (hcb : C.getD s 0 ≤ 1000000) (hlb : L.getD s 0 ≤ 15) (hW : W.length ≤ 6000000) (hle : ∀ x ∈ W, x ≤ 1) :
    Calls Tryz.prog 39 #[.pointer (some ⟨U, 0, none⟩), vc, vl, .int .i64 s] w (WPost U G (W ++ msb (C.getD s 0) (L.getD s 0)) w) := by
  have HH := hide h
  have HL := hide hle
  have HC := hide hc
  obtain ⟨bc, oc, cc, rfl, c2, c3, c4⟩ := hc
  obtain ⟨bl, ol, cl, rfl, l2, l3, l4⟩ := hl
  have hlc := l4 s hs2
  obtain ⟨x, hx⟩ : ∃ x, x = C.getD s 0 := ⟨_, rfl⟩
  obtain ⟨n, hn⟩ : ∃ n, n = L.getD s 0 := ⟨_, rfl⟩
  obtain ⟨kc, hkc⟩ : ∃ k, k = C.length := ⟨_, rfl⟩
  obtain ⟨kl, hkl⟩ : ∃ k, k = L.length := ⟨_, rfl⟩
  have HCX : Hid (∀ w' G', Fr G w w' → Grows w G G' → w'.cell? ⟨bc, oc + s, none⟩ = some (.int .i64 (x : Nat)) ∧ bc < w'.heap.size) := by
    refine hide fun w' G' hf hg => ?_
    rw [World.cell?_of_block (w := w) (hf.block bc c3 c2), hx]
    exact ⟨c4 s hs, Nat.lt_of_lt_of_le c3 hf.size⟩
  rw [← hx] at hcb ⊢
  rw [← hn] at hlb hlc ⊢
  rw [← hkc] at hs ⊢
  rw [← hkl] at hs2 ⊢
  have z1 : IntKind.i64.wrap ((n : Int) - 1) = (n : Int) - 1 := IntWalk.i64_in _ (by omega)
  have b1 : (s : Int) < (kl : Int) := by omega
  have b2 : (s : Int) < (kc : Int) := by omega
  clear h hle hx hn hkc hkl c2 c3 c4 l2 l4
  go_enter Tryz.func39, Tryz.ntmps39
  go_wp2_with fail
  go_loopg [8] (n + 1) (fun gk i wr => ∃ (r : Nat) (G' : List Nat) (W' : List Nat), gk = r + 1 ∧ r ≤ n ∧ i = .int .i64 ((r : Int) - 1) ∧ Wr wr U G' W' ∧ W' ++ msb x r = W ++ msb x n ∧ (∀ y ∈ W', y ≤ 1) ∧ Grows w G G' ∧ Fr G w wr)
  case atStart => exact ⟨n, G, W, rfl, by omega, rfl, HH.out, rfl, HL.out, Grows.refl _ _, Fr.refl _ _⟩
  case round =>
    obtain ⟨r, G', W', hgk, hr, rfl, hw, he, hle, hg, hf⟩ := hrel
    have HGK := hide hgk
    have HG := hide hg
    have HF := hide hf
    have HE := hide he
    have HLE := hide hle
    by_cases hlt : 0 < r
    · obtain ⟨q, rfl⟩ : ∃ q, r = q + 1 := ⟨r - 1, by omega⟩
      obtain ⟨hcc, hcl⟩ := HCX.out wr G' hf hg
      obtain ⟨y, hy⟩ : ∃ y, y = x / 2 ^ q % 2 := ⟨_, rfl⟩
      have hWl : W'.length ≤ 6500000 := by
        have := congrArg List.length he
        simp only [List.length_append, msb_len] at this
        omega
      have HN := hide (number28_any U G' W' y 1 wr hw (by omega) (by omega) (by omega) hle)
      have hcast : ((q + 1 : Nat) : Int) - 1 = (q : Int) := by omega
      rw [hcast]
      have z4 : bits BinOp.and IntKind.i64 ((x : Int) / 2 ^ q) 1 = (y : Int) := by
        rw [hy, show (x : Int) / 2 ^ q = ((x / 2 ^ q : Nat) : Int) by simp]
        exact Go.Proofs.and_one _ (Nat.lt_of_le_of_lt (Nat.div_le_self _ _) (by omega))
      have b5 : (0 : Int) ≤ (q : Int) ∧ (q : Int) < 64 := by omega
      have z5 : IntKind.i64.wrap ((q : Int) - 1) = (q : Int) - 1 := IntWalk.i64_in _ (by omega)
      have HM : Hid (msb x (q + 1) = y :: msb x q) := hide (by rw [hy]; rfl)
      have hy1 : y ≤ 1 := by omega
      clear hgk hg hf he hle hw hcast hy
      go_wp2_with fail
      refine (unhide HN).mono ?_
      rintro e w2 ⟨rfl, G2, hw2, hg2, hf2⟩
      have HW2 := hide hw2
      have HG2 := hide (HG.out.trans hg2 HF.out.size)
      have HF2 := hide (HF.out.thru HG.out hf2)
      clear hw2 hg2 hf2
      go_wp2_with fail
      go_roundg (q + 1)
      case measure => have := HGK.out; omega
      case rel =>
        have e1 : lsb y 1 = [y] := by show [y % 2] = [y]; rw [Nat.mod_eq_of_lt (by omega)]
        have hw3 := HW2.out
        rw [e1] at hw3
        refine ⟨q, G2, W' ++ [y], rfl, by omega, by go_num, hw3, ?_, ?_, HG2.out, HF2.out⟩
        · have h4 := HE.out
          rw [HM.out] at h4
          rw [List.append_assoc]
          exact h4
        · intro u hu
          rcases List.mem_append.1 hu with h | h
          · exact HLE.out u h
          · simp only [List.mem_singleton] at h; omega
    · obtain rfl : r = 0 := by omega
      have HW := hide hw
      clear hgk hg hf he hle hw
      go_wp2
      refine bodyPost_end (results_none rfl _ _ _) rfl ?_
      have h4 := HE.out
      rw [show msb x 0 = [] from rfl, List.append_nil] at h4
      rw [h4] at HW
      exact ⟨rfl, G', HW.out, HG.out, HF.out⟩
theorem lastS_succ (f : Nat → Nat) (x s0 k out : Nat) : lastS f x s0 (k + 1) out = if f (s0 + k) ≤ x then s0 + k else lastS f x s0 k out := rfl
set_option maxRecDepth 100000 in
set_option maxHeartbeats 2000000 in
theorem lsym32_any (n : Nat) (w : World) (h1 : 3 ≤ n) (h2 : n ≤ 258) : Calls Tryz.prog 32 #[.int .i64 n] w fun e w' => e = .returned (.int .i64 (lsym n : Nat)) ∧ w = w' := by
  by_cases h : n = 258
  · subst h
    go_enter Tryz.func32, Tryz.ntmps32
    go_wp2
    go_ret
    exact ⟨rfl, rfl⟩
  · have d1 : ((n : Int) == 258) = false := by simp; omega
    have HE : Hid (lsym n = lastS lenM n 257 28 257) := hide (by unfold lsym; rw [if_neg h])
    go_enter Tryz.func32, Tryz.ntmps32
    go_wp2_with fail
    go_loopg [3, 4] 29 (fun gk o i wr => ∃ k : Nat, gk = 29 - k ∧ k ≤ 28 ∧ i = .int .i64 ((257 + k : Nat) : Int) ∧ o = .int .i64 (lastS lenM n 257 k 257 : Nat) ∧ wr = w)
    case atStart => exact ⟨0, rfl, by omega, rfl, rfl, rfl⟩
    case round =>
      obtain ⟨k, hgk, hk, rfl, rfl, rfl⟩ := hrel
      have HGK := hide hgk
      clear hgk
      by_cases hlt : k < 28
      · obtain ⟨s, hs⟩ : ∃ s, s = 257 + k := ⟨_, rfl⟩
        have hsb : 257 ≤ s ∧ s < 285 := by omega
        have HN := hide (lastS_succ lenM n 257 k 257)
        rw [← hs] at HN ⊢
        have HL := hide (If.length49_any s wr hsb.1 (by omega))
        have HS := hide hs
        obtain ⟨m, hm⟩ : ∃ m, m = lenM s := ⟨_, rfl⟩
        rw [← hm] at HL HN
        obtain ⟨o, ho⟩ : ∃ o, o = lastS lenM n 257 k 257 := ⟨_, rfl⟩
        rw [← ho] at HN ⊢
        clear hs hm ho
        by_cases hle : m ≤ n
        · go_wp2_with fail
          refine (unhide HL).mono ?_
          rintro e w' ⟨rfl, rfl⟩
          go_wp2_with fail
          go_roundg (29 - (k + 1))
          case measure => have := HGK.out; omega
          case rel => exact ⟨k + 1, rfl, by omega, by have := HS.out; subst this; go_num, by rw [HN.out, if_pos hle], rfl⟩
        · go_wp2_with fail
          refine (unhide HL).mono ?_
          rintro e w' ⟨rfl, rfl⟩
          go_wp2_with fail
          go_roundg (29 - (k + 1))
          case measure => have := HGK.out; omega
          case rel => exact ⟨k + 1, rfl, by omega, by have := HS.out; subst this; go_num, by rw [HN.out, if_neg hle], rfl⟩
      · obtain rfl : k = 28 := by omega
        rw [← HE.out]
        go_wp2
        go_ret
        exact ⟨rfl, rfl⟩
set_option maxRecDepth 100000 in
set_option maxHeartbeats 2000000 in
theorem dsym33_any (n : Nat) (w : World) : Calls Tryz.prog 33 #[.int .i64 n] w fun e w' => e = .returned (.int .i64 (dsym n : Nat)) ∧ w = w' := by
  have HE : Hid (dsym n = lastS dstM n 0 30 0) := hide rfl
  go_enter Tryz.func33, Tryz.ntmps33
  go_wp2_with fail
  go_loopg [3, 7] 31 (fun gk o i wr => ∃ k : Nat, gk = 31 - k ∧ k ≤ 30 ∧ i = .int .i64 (k : Int) ∧ o = .int .i64 (lastS dstM n 0 k 0 : Nat) ∧ wr = w)
  case atStart => exact ⟨0, rfl, by omega, rfl, rfl, rfl⟩
  case round =>
    obtain ⟨k, hgk, hk, rfl, rfl, rfl⟩ := hrel
    have HGK := hide hgk
    clear hgk
    by_cases hlt : k < 30
    · have HN := hide (lastS_succ dstM n 0 k 0)
      rw [Nat.zero_add] at HN
      have HL := hide (If.distance50_any k wr (by omega))
      obtain ⟨m, hm⟩ : ∃ m, m = dstM k := ⟨_, rfl⟩
      rw [← hm] at HL HN
      obtain ⟨o, ho⟩ : ∃ o, o = lastS dstM n 0 k 0 := ⟨_, rfl⟩
      rw [← ho] at HN ⊢
      clear hm ho
      by_cases hle : m ≤ n
      · go_wp2_with fail
        refine (unhide HL).mono ?_
        rintro e w' ⟨rfl, rfl⟩
        go_wp2_with fail
        go_roundg (31 - (k + 1))
        case measure => have := HGK.out; omega
        case rel => exact ⟨k + 1, rfl, by omega, by go_num, by rw [HN.out, if_pos hle], rfl⟩
      · go_wp2_with fail
        refine (unhide HL).mono ?_
        rintro e w' ⟨rfl, rfl⟩
        go_wp2_with fail
        go_roundg (31 - (k + 1))
        case measure => have := HGK.out; omega
        case rel => exact ⟨k + 1, rfl, by omega, by go_num, by rw [HN.out, if_neg hle], rfl⟩
    · obtain rfl : k = 30 := by omega
      rw [← HE.out]
      go_wp2
      go_ret
      exact ⟨rfl, rfl⟩
end Go.Proofs.YthmhcnnigepohaaGreatDoor.En

/- inflate.writer: items. -/
namespace Go.Proofs.YthmhcnnigepohaaGreatDoor.En
open Go.RowKit
open Dg (BAt bcells)
open If (Grows lenM lenK dstM dstK LOk)
open Hf (IR zI Nw code)
set_option linter.unusedVariables false

theorem elem84 : ElemOk Tryz.prog 81 84 3 24 := ⟨Tryz.underlying81, by
  have h : (Tryz.prog.info? 84).map (fun i => (i.zero.map (fun z => z.cells.size), i.size, i.bytes)) = some (some 3, 3, 24) := by kernel_rfl
  cases hq : Tryz.prog.info? 84 with
  | none => rw [hq] at h; cases h
  | some i =>
    rw [hq] at h
    simp only [Option.map_some, Option.some.injEq, Prod.mk.injEq] at h
    obtain ⟨h1, h2, h3⟩ := h
    cases hz : i.zero with
    | none => rw [hz] at h1; cases h1
    | some z =>
      rw [hz] at h1
      simp only [Option.map_some, Option.some.injEq] at h1
      exact ⟨i, z, rfl, hz, h2, h3, h1⟩, by decide⟩
def itC (x : It) : List Value := [.int .u8 (x.c.toNat : Int), .int .i64 (x.n : Nat), .int .i64 (x.far : Nat)]
def itsC (l : List It) : List Value := l.flatMap itC
theorem itsC_len : ∀ l : List It, (itsC l).length = l.length * 3
  | [] => rfl
  | x :: l => by
    have := itsC_len l
    unfold itsC at this ⊢
    rw [List.flatMap_cons, List.length_append, this, List.length_cons]
    simp only [itC, List.length_cons, List.length_nil]
    omega
theorem itsC_get : ∀ (l : List It) (i : Nat) (x : It), l[i]? = some x → (itsC l)[i * 3]? = some (.int .u8 (x.c.toNat : Int)) ∧ (itsC l)[i * 3 + 1]? = some (.int .i64 (x.n : Nat)) ∧ (itsC l)[i * 3 + 2]? = some (.int .i64 (x.far : Nat))
  | [], i, x, h => by simp at h
  | y :: l, 0, x, h => by
    simp only [List.getElem?_cons_zero, Option.some.injEq] at h
    subst h
    unfold itsC
    rw [List.flatMap_cons]
    simp [itC]
  | y :: l, i + 1, x, h => by
    have ih := itsC_get l i x (by simpa using h)
    unfold itsC at ih ⊢
    rw [List.flatMap_cons]
    have e : ∀ k, (itC y ++ List.flatMap itC l)[(i + 1) * 3 + k]? = (List.flatMap itC l)[i * 3 + k]? := fun k => by
      rw [List.getElem?_append_right (by simp [itC]; omega)]
      congr 1
      simp [itC]; omega
    exact ⟨by have := e 0; simpa using this.trans ih.1, by rw [e 1]; exact ih.2.1, by rw [e 2]; exact ih.2.2⟩
/-- A slice of items. -/
def ItAt (w : World) (v : Value) (g : Option Nat) (l : List It) : Prop := SlAt 84 3 w v g l.length (itsC l)
theorem ItAt.get {w : World} {v : Value} {g : Option Nat} {l : List It} (h : ItAt w v g l) {i : Nat} {x : It} (hx : l[i]? = some x) :
    ∃ b off cap, g = some b ∧ v = .slice (some ⟨b, off, none⟩) l.length cap ∧ b < w.heap.size ∧ w.cell? ⟨b, off + i * 3, none⟩ = some (.int .u8 (x.c.toNat : Int)) ∧ w.cell? ⟨b, off + i * 3 + 1, none⟩ = some (.int .i64 (x.n : Nat)) ∧ w.cell? ⟨b, off + i * 3 + 2, none⟩ = some (.int .i64 (x.far : Nat)) := by
  rcases h with ⟨_, _, h1, _⟩ | ⟨b, off, cap, cur, hg, hv, hblk, hnc, hfit, hxs, hcells⟩
  · have := (List.getElem?_eq_some_iff.1 hx).1
    omega
  · obtain ⟨r1, r2, r3⟩ := itsC_get l i x hx
    refine ⟨b, off, cap, hg, hv, lt_of_blk hblk, ?_, ?_, ?_⟩
    · rw [cell_blk hblk]; exact hcells _ _ r1
    · rw [cell_blk hblk, Nat.add_assoc]; exact hcells _ _ r2
    · rw [cell_blk hblk, Nat.add_assoc]; exact hcells _ _ r3

/-- What is read of a new slice of numbers. -/
theorem nr_of {w w' : World} {G : List Nat} {v : Value} {L : List Nat} (h : IR w' v (zI L)) (hn : Nw w v) (hin : In w G) (h0 : 0 < L.length) : NR w' G v L := by
  obtain ⟨a, c, rfl, h2⟩ := h
  rw [Hf.zI_len] at h2 ⊢
  obtain ⟨x, rfl, hx⟩ := h2 0 h0
  obtain ⟨hs, hb, -⟩ := hn x _ _ rfl
  obtain ⟨b, o, sp⟩ := x
  simp only at hs hb
  subst hs
  rw [Addr.add_lit] at hx
  refine ⟨b, o, c, rfl, fun hm => by have := hin b hm; omega, World.block_lt_of_cell? w' _ hx, fun i hi => ?_⟩
  obtain ⟨y, hy, hy2⟩ := h2 i hi
  injection hy with hy
  rw [← hy, Addr.add_lit, Hf.zI_get] at hy2
  exact hy2
def codesN (L : List Nat) : List Nat := (List.range L.length).map (code L)
theorem codesOf_lok {L : List Nat} (ok : LOk L) : Hf.codesOf (zI L) = zI (codesN L) := by
  unfold Hf.codesOf codesN
  rw [if_pos (.inl ok.chk), Hf.zI_nat, Hf.zI_len]
  unfold zI
  rw [List.map_map]
  rfl
theorem codesN_get {L : List Nat} {s : Nat} (h : s < L.length) : (codesN L).getD s 0 = code L s := by
  simp [codesN, List.getD, h]
theorem codesN_len (L : List Nat) : (codesN L).length = L.length := by simp [codesN]
/-- A code of a symbol. -/
theorem code39_sym (U : Nat) (G : List Nat) (W L : List Nat) (vc vl : Value) (s : Nat) (w : World) (h : Wr w U G W) (hc : NR w G vc (codesN L)) (hl : NR w G vl L) (ok : LOk L) (hs : Has L s) (hW : W.length ≤ 6000000) (hle : ∀ x ∈ W, x ≤ 1) :
    Calls Tryz.prog 39 #[.pointer (some ⟨U, 0, none⟩), vc, vl, .int .i64 s] w (WPost U G (W ++ cd L s) w) := by
  have hf := Hf.code_fits ok.hL ok.kr hs.1 hs.2
  have h15 : L.getD s 0 ≤ 15 := by
    have e : L.getD s 0 = L[s]'hs.1 := by simp [List.getD, List.getElem?_eq_getElem hs.1]
    rw [e]; exact ok.hL _ (List.getElem_mem _)
  have h2 := Nat.pow_le_pow_right (n := 2) (by omega) h15
  have := code39_any U G W (codesN L) L vc vl s w h hc hl (by rw [codesN_len]; exact hs.1) hs.1 (by rw [codesN_get hs.1]; omega) h15 hW hle
  rw [codesN_get hs.1] at this
  exact this

def ItOk (x : It) : Prop := x.n = 0 ∨ (3 ≤ x.n ∧ x.n ≤ 258 ∧ 1 ≤ x.far ∧ x.far ≤ 32768)
set_option maxRecDepth 100000 in
set_option maxHeartbeats 8000000 in
theorem items30_any (U : Nat) (G : List Nat) (W A B : List Nat) (l : List It) (g : Option Nat) (vl va vb : Value) (w : World) (h : Wr w U G W) (hle : ∀ x ∈ W, x ≤ 1) (hit : ItAt w vl g l) (hg : ∀ b, g = some b → b ∉ G) (hA : NR w G va A) (hB : NR w G vb B) (oka : LOk A) (okb : LOk B) (hB0 : 0 < B.length)
    (hh : ∀ x ∈ l, HasIt A B x ∧ ItOk x) (h256 : Has A 256) (hW : W.length + (itsBits A B l).length ≤ 5000000) (hn1 : l.length ≤ 100000) :
    Calls Tryz.prog 30 #[.pointer (some ⟨U, 0, none⟩), vl, va, vb] w (WPost U G (W ++ (itsBits A B l ++ cd A 256)) w) := by
  have H1 := hide (Hf.codes14_any va (zI A) w hA.ir (by rw [Hf.zI_len]; have := oka.len; omega))
  rw [codesOf_lok oka] at H1
  have HH := hide h
  have HL := hide hle
  have HI := hide hit
  have HG := hide hg
  have HA := hide hA
  have HB := hide hB
  have HOA := hide oka
  have HOB := hide okb
  have HX := hide hh
  have H256 := hide h256
  have HW := hide hW
  have HB0 := hide hB0
  obtain ⟨n, hn⟩ : ∃ n, n = l.length := ⟨_, rfl⟩
  obtain ⟨pa, pc, rfl⟩ := SlAt.shape hit
  rw [← hn] at HI hn1 ⊢
  have HN := hide hn
  clear h hle hit hg hA hB oka okb hh h256 hW hB0 hn
  go_enter Tryz.func30, Tryz.ntmps30
  go_wp2_with fail
  refine (unhide H1).mono ?_
  rintro e w1 ⟨v1, rfl, hr1, hf1, hnw1⟩
  have hin : In w G := by obtain ⟨_, _, _, _, _, _, h⟩ := HH.out; exact h
  have HC1 := hide (nr_of (L := codesN A) hr1 hnw1 hin (by rw [codesN_len]; have := H256.out.1; omega))
  have hB1 := HB.out.fr (hf1.mono (T := G) (by simp)) (Grows.refl _ _)
  have H2 := hide (Hf.codes14_any vb (zI B) w1 hB1.ir (by rw [Hf.zI_len]; have := HOB.out.len; omega))
  rw [codesOf_lok HOB.out] at H2
  have HF1 := hide hf1
  have HIN1 := hide (hin.fr hf1)
  clear hr1 hnw1 hin hB1 hf1
  go_wp2_with fail
  refine (unhide H2).mono ?_
  rintro e w2 ⟨v2, rfl, hr2, hf2, hnw2⟩
  have HC2 := hide (nr_of (L := codesN B) hr2 hnw2 HIN1.out (by rw [codesN_len]; exact HB0.out))
  have HF2 := hide (HF1.out.trans hf2)
  have HC1' := hide (HC1.out.fr (hf2.mono (T := G) (by simp)) (Grows.refl _ _))
  clear hr2 hnw2 hf2 HC1
  have HS0 : Hid (Wr w2 U G (W ++ itsBits A B (l.take 0)) ∧ Fr G w w2) := hide ⟨by simpa [itsBits] using HH.out.fr HF2.out (by simp), HF2.out.mono (by simp)⟩
  go_wp2_with fail
  go_loopg [21] (n + 1) (fun gk i wr => ∃ (k : Nat) (G' : List Nat), gk = n + 1 - k ∧ k ≤ n ∧ i = .int .i64 k ∧ Wr wr U G' (W ++ itsBits A B (l.take k)) ∧ Grows w G G' ∧ Grows w2 G G' ∧ Fr G w wr ∧ Fr G w2 wr)
  case atStart => exact ⟨0, G, rfl, by omega, rfl, HS0.out.1, Grows.refl _ _, Grows.refl _ _, HS0.out.2, Fr.refl _ _⟩
  case round =>
    obtain ⟨k, G', hgk, hk, rfl, hw, hg, hg2, hf, hf2⟩ := hrel
    have HGK := hide hgk
    have HG1 := hide hg
    have HG2 := hide hg2
    have HFA := hide hf
    have HFB := hide hf2
    have HWR := hide hw
    have hle : ∀ y ∈ W ++ itsBits A B (l.take k), y ≤ 1 := by
      intro y hy
      rcases List.mem_append.1 hy with h | h
      · exact HL.out y h
      · exact itsBits_le _ _ _ y h
    have HLE := hide hle
    clear hgk hg hg2 hf hf2 hle
    by_cases hlt : k < n
    · obtain ⟨x, hx⟩ : ∃ x, x = l[k]'(by have := HN.out; omega) := ⟨_, rfl⟩
      have hxl : l[k]? = some x := by rw [hx]; exact List.getElem?_eq_getElem _
      have hxm : x ∈ l := by rw [hx]; exact List.getElem_mem _
      have htk : l.take (k + 1) = l.take k ++ [x] := by rw [hx]; exact List.take_succ_eq_append_getElem _
      have hbits : itsBits A B (l.take (k + 1)) = itsBits A B (l.take k) ++ itBits A B x := by rw [htk]; simp [itsBits]
      have hlen : (W ++ itsBits A B (l.take k)).length + (itBits A B x).length ≤ 5000000 := by
        have h1 := HW.out
        have h2 : itsBits A B l = itsBits A B (l.take (k + 1)) ++ itsBits A B (l.drop (k + 1)) := by
          unfold itsBits
          rw [← List.flatMap_append, List.take_append_drop]
        rw [h2, hbits] at h1
        simp only [List.length_append] at h1 ⊢
        omega
      obtain ⟨hhx, hok⟩ := HX.out x hxm
      have hir : ItAt wr (.slice pa n pc) g l := SlAt.fr HI.out HFA.out HG.out
      obtain ⟨b, off, cap, hgb, hsv, hbl, i0, i1, i2⟩ := hir.get hxl
      injection hsv with hpa hnl hpc
      clear hnl
      subst hpa hpc
      have HBT := hide hbits
      have HLN := hide hlen
      obtain ⟨X, hX⟩ : ∃ X, X = W ++ itsBits A B (l.take k) := ⟨_, rfl⟩
      rw [← hX] at HWR HLE HLN
      have HXX := hide hX
      clear hx hxl hxm htk hbits hlen hir hgb hX
      obtain ⟨xc, xn, xf⟩ := x
      simp only at i0 i1 i2 hhx hok
      obtain ⟨c, hc⟩ : ∃ c, c = xc.toNat := ⟨_, rfl⟩
      rw [← hc] at i0
      have hcb : c < 256 := by rw [hc]; exact UInt8.toNat_lt _
      have HC := hide hc
      obtain ⟨wa, hwa⟩ : ∃ x, x = wr.alloc (.cells #[.int .u8 (c : Int), .int .i64 (xn : Int), .int .i64 (xf : Int)] 84) := ⟨_, rfl⟩
      have hfa : Fr [] wr wa := by rw [hwa]; exact (Fr.refl _ _).alloc _
      obtain ⟨N, hN⟩ : ∃ N, N = wr.heap.size := ⟨_, rfl⟩
      have HNB : Hid (∀ w', Fr G' wa w' → w'.cell? ⟨N, 0, none⟩ = some (.int .u8 (c : Int)) ∧ w'.cell? ⟨N, 1, none⟩ = some (.int .i64 (xn : Int)) ∧ w'.cell? ⟨N, 2, none⟩ = some (.int .i64 (xf : Int)) ∧ N < w'.heap.size) := by
        refine hide fun w' hf' => ?_
        have h1 : wa.heap[N]? = some (.cells #[.int .u8 (c : Int), .int .i64 (xn : Int), .int .i64 (xf : Int)] 84 (0, 0)) := by rw [hwa]; exact heap_alloc_eq hN
        have h2 : w'.heap[N]? = some (.cells #[.int .u8 (c : Int), .int .i64 (xn : Int), .int .i64 (xf : Int)] 84 (0, 0)) := by
          refine (hf'.block N (lt_of_blk h1) (fun hm => ?_)).trans h1
          obtain ⟨_, _, _, _, _, _, hin⟩ := HWR.out
          have := hin N hm
          omega
        exact ⟨cell_blk h2 0, cell_blk h2 1, cell_blk h2 2, lt_of_blk h2⟩
      obtain ⟨a0, a1, a2, aN⟩ := HNB.out wa (Fr.refl _ _)
      have hWa := HWR.out.fr hfa (by simp)
      have hfB : Fr G w2 wa := HFB.out.trans (hfa.mono (by simp))
      have HC1a := hide (HC1'.out.fr hfB HG2.out)
      have HC2a := hide ((HC2.out.fr hfB HG2.out))
      have HAa := hide (HA.out.fr (HFA.out.trans (hfa.mono (T := G) (by simp))) HG1.out)
      have HBa := hide (HB.out.fr (HFA.out.trans (hfa.mono (T := G) (by simp))) HG1.out)
      have HFAa := hide (HFA.out.trans (hfa.mono (T := G) (by simp)))
      have HFBa := hide hfB
      have HWa := hide hWa
      have HWA := hide hwa
      have HNN := hide hN
      have HSZ : Hid (w.heap.size ≤ wa.heap.size ∧ w2.heap.size ≤ wa.heap.size) := hide ⟨HFAa.out.size, hfB.size⟩
      clear hc hfa hWa hfB
      by_cases h0 : xn = 0
      · have hsym : Has A c := by unfold HasIt at hhx; rw [if_pos h0] at hhx; rw [HC.out]; exact hhx
        have H39 := hide (code39_sym U G' X A v1 va c wa HWa.out HC1a.out HAa.out HOA.out hsym (by have := HLN.out; omega) HLE.out)
        have HIB : Hid (itBits A B ⟨xc, xn, xf⟩ = cd A c) := hide (by unfold itBits; rw [if_pos h0, HC.out])
        have d1 : ((xn : Int) == 0) = true := by simp [h0]
        clear hhx hok hsym h0 hwa hN
        go_upto_region 4 with fail
        rw [← HWA.out, ← HNN.out]
        go_wp2_with fail
        refine (unhide H39).mono ?_
        rintro e w3 ⟨rfl, G3, hw3, hg3, hf3⟩
        have HRND : Hid (Wr w3 U G3 (W ++ itsBits A B (l.take (k + 1))) ∧ Grows w G G3 ∧ Grows w2 G G3 ∧ Fr G w w3 ∧ Fr G w2 w3) := by
          refine hide ⟨?_, HG1.out.trans hg3 HSZ.out.1, HG2.out.trans hg3 HSZ.out.2, HFAa.out.thru HG1.out hf3, HFBa.out.thru HG2.out hf3⟩
          rw [HBT.out, HIB.out, ← List.append_assoc, ← HXX.out]
          exact hw3
        clear hw3 hg3 hf3
        go_wp2_with fail
        go_roundg (n + 1 - (k + 1))
        case measure => have := HGK.out; omega
        case rel =>
          obtain ⟨r1, r2, r3, r4, r5⟩ := HRND.out
          exact ⟨k + 1, G3, rfl, by omega, by go_num, r1, r2, r3, r4, r5⟩
      · obtain ⟨hs1, hs2⟩ : Has A (lsym xn) ∧ Has B (dsym xf) := by unfold HasIt at hhx; rw [if_neg h0] at hhx; exact hhx
        obtain ⟨v1', v2', v3', v4'⟩ : 3 ≤ xn ∧ xn ≤ 258 ∧ 1 ≤ xf ∧ xf ≤ 32768 := by rcases hok with h | h; exact absurd h h0; exact h
        obtain ⟨l1, l2, l3, l4, l5⟩ := lsym_all xn (by omega) v1'
        obtain ⟨e1, e2, e3, e4⟩ := dsym_all xf v3' v4'
        have HIB : Hid (itBits A B ⟨xc, xn, xf⟩ = cd A (lsym xn) ++ (lsb (xn - lenM (lsym xn)) (lenK (lsym xn)) ++ (cd B (dsym xf) ++ lsb (xf - dstM (dsym xf)) (dstK (dsym xf))))) := hide (by unfold itBits; rw [if_neg h0])
        have hitl := HIB.out
        have hitn := congrArg List.length hitl
        simp only [List.length_append, cd_len, lsb_len] at hitn
        have hln := HLN.out
        rw [hitn] at hln
        obtain ⟨s, hs⟩ : ∃ s, s = lsym xn := ⟨_, rfl⟩
        obtain ⟨t, ht⟩ : ∃ t, t = dsym xf := ⟨_, rfl⟩
        obtain ⟨m, hm⟩ : ∃ m, m = lenM s := ⟨_, rfl⟩
        obtain ⟨q, hq⟩ : ∃ q, q = lenK s := ⟨_, rfl⟩
        obtain ⟨m2, hm2⟩ : ∃ m, m = dstM t := ⟨_, rfl⟩
        obtain ⟨q2, hq2⟩ : ∃ q, q = dstK t := ⟨_, rfl⟩
        rw [← hs] at l1 l2 l3 l4 l5 hs1 HIB hln
        rw [← ht] at e1 e2 e3 e4 hs2 HIB hln
        rw [← hm] at l3 l4 HIB
        rw [← hq] at l4 l5 HIB hln
        rw [← hm2] at e2 e3 HIB
        rw [← hq2] at e3 e4 HIB hln
        have H32 := hide (fun w' => lsym32_any xn w' v1' v2')
        have H33 := hide (fun w' => dsym33_any xf w')
        have H49 := hide (fun w' => If.length49_any s w' l1 l2)
        have H50 := hide (fun w' => If.distance50_any t w' e1)
        rw [← hs] at H32
        rw [← ht] at H33
        rw [← hm, ← hq] at H49
        rw [← hm2, ← hq2] at H50
        have H39 := hide (code39_sym U G' X A v1 va s wa HWa.out HC1a.out HAa.out HOA.out hs1 (by omega) HLE.out)
        obtain ⟨y, hy⟩ : ∃ y, y = xn - m := ⟨_, rfl⟩
        obtain ⟨y2, hy2⟩ : ∃ y, y = xf - m2 := ⟨_, rfl⟩
        rw [← hy] at l4 HIB
        rw [← hy2] at e3 HIB
        have zy : (xn : Int) - (m : Int) = (y : Int) := by omega
        have zy2 : (xf : Int) - (m2 : Int) = (y2 : Int) := by omega
        have zw : IntKind.i64.wrap (y : Int) = (y : Int) := IntWalk.i64_in _ (by
          have : y ≤ xn := by omega
          omega)
        have zw2 : IntKind.i64.wrap (y2 : Int) = (y2 : Int) := IntWalk.i64_in _ (by
          have : y2 ≤ xf := by omega
          omega)
        have hyb : y ≤ 258 ∧ y2 ≤ 32768 := by omega
        have d1 : ((xn : Int) == 0) = false := by simp; omega
        have HS2 := hide hs2
        have HLN2 := hide hln
        clear hhx hok h0 hwa hN hitl hitn hs ht hm hq hm2 hq2 hs1 hs2 hy hy2 l3 l4 e2 e3 hln
        go_upto_region 4 with fail
        rw [← HWA.out, ← HNN.out]
        go_wp2_with fail
        refine (H32.out _).mono ?_
        rintro e w3 ⟨rfl, rfl⟩
        go_wp2_with fail
        refine (H49.out _).mono ?_
        rintro e w3 ⟨rfl, rfl⟩
        go_wp2_with fail
        refine (unhide H39).mono ?_
        rintro e w3 ⟨rfl, G3, hw3, hg3, hf3⟩
        obtain ⟨c0, c1, c2, cN⟩ := HNB.out w3 hf3
        have HFG3 := hide hf3
        have HGG3 := hide hg3
        have HLE3 : Hid (∀ z ∈ X ++ cd A s, z ≤ 1) := hide (fun z hz => (List.mem_append.1 hz).elim (HLE.out z) (cd_le _ _ z))
        have H28 := hide (number28_any U G3 (X ++ cd A s) y q w3 hw3 (by omega) (by omega) (by rw [List.length_append, cd_len]; have := HLN2.out; omega) HLE3.out)
        clear hw3 hg3 hf3 a0 a1 a2 aN
        go_wp2_with fail
        refine (unhide H28).mono ?_
        rintro e w4 ⟨rfl, G4, hw4, hg4, hf4⟩
        have HFG4 := hide (HFG3.out.thru HGG3.out hf4)
        have HGG4 := hide (HGG3.out.trans hg4 HFG3.out.size)
        obtain ⟨c0', c1', c2', cN'⟩ := HNB.out w4 HFG4.out
        have HLE4 : Hid (∀ z ∈ X ++ cd A s ++ lsb y q, z ≤ 1) := hide (fun z hz => (List.mem_append.1 hz).elim (HLE3.out z) (lsb_le _ _ z))
        have H39b := hide (code39_sym U G4 (X ++ cd A s ++ lsb y q) B v2 vb t w4 hw4 (HC2a.out.fr HFG4.out HGG4.out) (HBa.out.fr HFG4.out HGG4.out) HOB.out HS2.out (by simp only [List.length_append, cd_len, lsb_len]; have := HLN2.out; omega) HLE4.out)
        clear hw4 hg4 hf4 c0 c1 c2 cN
        go_wp2_with fail
        refine (H33.out _).mono ?_
        rintro e w5 ⟨rfl, rfl⟩
        go_wp2_with fail
        refine (H50.out _).mono ?_
        rintro e w5 ⟨rfl, rfl⟩
        go_wp2_with fail
        refine (unhide H39b).mono ?_
        rintro e w5 ⟨rfl, G5, hw5, hg5, hf5⟩
        have HFG5 := hide (HFG4.out.thru HGG4.out hf5)
        have HGG5 := hide (HGG4.out.trans hg5 HFG4.out.size)
        obtain ⟨c0, c1, c2, cN⟩ := HNB.out w5 HFG5.out
        have HLE5 : Hid (∀ z ∈ X ++ cd A s ++ lsb y q ++ cd B t, z ≤ 1) := hide (fun z hz => (List.mem_append.1 hz).elim (HLE4.out z) (cd_le _ _ z))
        have H28b := hide (number28_any U G5 (X ++ cd A s ++ lsb y q ++ cd B t) y2 q2 w5 hw5 (by omega) (by omega) (by simp only [List.length_append, cd_len, lsb_len]; have := HLN2.out; omega) HLE5.out)
        clear hw5 hg5 hf5 c0' c1' c2' cN'
        go_wp2_with fail
        refine (unhide H28b).mono ?_
        rintro e w6 ⟨rfl, G6, hw6, hg6, hf6⟩
        have HRND : Hid (Wr w6 U G6 (W ++ itsBits A B (l.take (k + 1))) ∧ Grows w G G6 ∧ Grows w2 G G6 ∧ Fr G w w6 ∧ Fr G w2 w6) := by
          have hg := HGG5.out.trans hg6 HFG5.out.size
          have hf := HFG5.out.thru HGG5.out hf6
          refine hide ⟨?_, HG1.out.trans hg HSZ.out.1, HG2.out.trans hg HSZ.out.2, HFAa.out.thru HG1.out hf, HFBa.out.thru HG2.out hf⟩
          rw [HBT.out, HIB.out, ← List.append_assoc, ← HXX.out]
          simp only [← List.append_assoc]
          exact hw6
        clear hw6 hg6 hf6 c0 c1 c2 cN
        go_wp2_with fail
        go_roundg (n + 1 - (k + 1))
        case measure => have := HGK.out; omega
        case rel =>
          obtain ⟨r1, r2, r3, r4, r5⟩ := HRND.out
          exact ⟨k + 1, G6, rfl, by omega, by go_num, r1, r2, r3, r4, r5⟩
    · obtain rfl : k = n := by omega
      have H39 := hide (code39_sym U G' _ A v1 va 256 wr HWR.out (HC1'.out.fr HFB.out HG2.out) (HA.out.fr HFA.out HG1.out) HOA.out H256.out (by
        have := HW.out
        have h3 := HN.out
        rw [List.take_of_length_le (by omega), List.length_append]; omega) HLE.out)
      go_wp2_with fail
      refine (unhide H39).mono ?_
      rintro e w3 ⟨rfl, G3, hw3, hg3, hf3⟩
      have HRES : Hid (WPost U G (W ++ (itsBits A B l ++ cd A 256)) w (.returned (.tuple #[])) w3) := by
        have h3 := HN.out
        rw [List.take_of_length_le (by omega), List.append_assoc] at hw3
        exact hide ⟨rfl, G3, hw3, HG1.out.trans hg3 HFA.out.size, HFA.out.thru HG1.out hf3⟩
      clear hw3 hg3 hf3
      go_wp2_with fail
      refine bodyPost_end (results_none rfl _ _ _) rfl ?_
      exact HRES.out
end Go.Proofs.YthmhcnnigepohaaGreatDoor.En

/- inflate.Decoder: what Feed itself sets. -/
namespace Go.Proofs.YthmhcnnigepohaaGreatDoor.If
open Go.RowKit
open Dg (BAt bcells)
set_option linter.unusedVariables false
variable [Foreign]

theorem KR.keep {w w' : World} {D : Nat} {G : List Nat} {d d' : DV} {q c : Nat} {K : Ctl} (h : KR w D G d q c K) (hD : DI w D d) (hm : D ∈ G) (hf : Fr [D] w w')
    (e1 : d'.code = d.code) (e2 : d'.need = d.need) (e3 : d'.next = d.next) (e4 : d'.have_ = d.have_) (e5 : d'.acc = d.acc) : KR w' D G d' q c K := by
  have hfG : Fr G w w' := hf.sub (fun b hb => by simp at hb; rw [hb]; exact hm)
  have hg := Grows.refl w G
  have hS : ∀ {v : Value} {g : Option Nat} {l : List Nat}, Hf.NAt w v g l → Hf.NAt w' v g l := fun h => SlAt.fr h hf (fun b hb hmm => by
    simp at hmm
    obtain ⟨cur, hc⟩ := SlAt.lt h b hb
    rw [hmm, hD] at hc
    injection hc with hc
    injection hc with _ hc _
    cases hc)
  cases hK : wantN K with
  | some n =>
    cases K with
    | fin => cases hK
    | lens => cases hK
    | lit => cases hK
    | dist => cases hK
    | blk => exact KR.setnum h hK hD hm hf e1 e2 e3 (e4.trans h.1.2.2.1) (e5.trans h.1.2.2.2)
    | slen => exact KR.setnum h hK hD hm hf e1 e2 e3 (e4.trans h.1.2.2.1) (e5.trans h.1.2.2.2)
    | schk => exact KR.setnum h hK hD hm hf e1 e2 e3 (e4.trans h.1.2.2.1) (e5.trans h.1.2.2.2)
    | raw => exact KR.setnum h hK hD hm hf e1 e2 e3 (e4.trans h.1.2.2.1) (e5.trans h.1.2.2.2)
    | hlit => exact KR.setnum h hK hD hm hf e1 e2 e3 (e4.trans h.1.2.2.1) (e5.trans h.1.2.2.2)
    | hdist => exact KR.setnum h hK hD hm hf e1 e2 e3 (e4.trans h.1.2.2.1) (e5.trans h.1.2.2.2)
    | hclen => exact KR.setnum h hK hD hm hf e1 e2 e3 (e4.trans h.1.2.2.1) (e5.trans h.1.2.2.2)
    | third => exact KR.setnum h hK hD hm hf e1 e2 e3 (e4.trans h.1.2.2.1) (e5.trans h.1.2.2.2)
    | rep => exact KR.setnum h hK hD hm hf e1 e2 e3 (e4.trans h.1.2.2.1) (e5.trans h.1.2.2.2)
    | lenx => exact KR.setnum h hK hD hm hf e1 e2 e3 (e4.trans h.1.2.2.1) (e5.trans h.1.2.2.2)
    | distx => exact KR.setnum h hK hD hm hf e1 e2 e3 (e4.trans h.1.2.2.1) (e5.trans h.1.2.2.2)
  | none =>
    cases K with
    | fin => trivial
    | lens =>
      obtain ⟨p, pc, pl, pa, pb, pr, vc, vl, gl, h2, h3, h4, h5, h6, h7, h8, h9, h10, h11, h12⟩ := h
      exact ⟨p, pc, pl, pa, pb, pr, vc, vl, gl, e1.trans h2, e3.trans h3, h4.fr hfG hg, h5.fr hfG hg, h6.fr hfG hg, h7.fr hfG hg, h8.fr hfG hg, h9.fr hfG hg, h10.set hD hm hf, hS h11, h12⟩
    | lit =>
      obtain ⟨p, pa, pb, va, vb, h2, h3, h4, h5, h6, h7, h8, h9⟩ := h
      exact ⟨p, pa, pb, va, vb, e1.trans h2, e3.trans h3, h4.fr hfG hg, h5.fr hfG hg, h6.fr hfG hg, h7.set hD hm hf, h8.set hD hm hf, h9⟩
    | dist =>
      obtain ⟨p, pa, pb, pn, pm, va, vb, h2, h3, h4, h5, h6, h7, h8, h9, h10, h11⟩ := h
      exact ⟨p, pa, pb, pn, pm, va, vb, e1.trans h2, e3.trans h3, h4.fr hfG hg, h5.fr hfG hg, h6.fr hfG hg, h7.fr hfG hg, h8.fr hfG hg, h9.set hD hm hf, h10.set hD hm hf, h11⟩
    | _ => cases hK

theorem Rep.tick {w : World} {D : Nat} {G : List Nat} {inp : Int} {rest : ByteArray} {s : PS} (h : Rep w D G inp rest s) (n : Int) : Rep (w.setCell ⟨D, 5, none⟩ (.int .i64 n)) D G n rest s := by
  obtain ⟨d, gp, gf, hc, hk⟩ := h
  have hf : Fr [D] w (w.setCell ⟨D, 5, none⟩ (.int .i64 n)) := (Fr.refl [D] w).setCell (.inl (by simp)) _
  have hd : DI (w.setCell ⟨D, 5, none⟩ (.int .i64 n)) D { d with inp := n } := by unfold DI; rw [heap_set, hc.di]; rfl
  obtain ⟨o1, o2, o3, o4, o5, o6⟩ := hc.outs
  refine ⟨{ d with inp := n }, gp, gf, ⟨hd, hc.mem, hc.inn.fr hf, ⟨SlAt.fr o1 hf (fun b hb => by simpa using bat_ne hc.di o1 b hb), SlAt.fr o2 hf (fun b hb => by simpa using bat_ne hc.di o2 b hb), o3, o4, o5, o6⟩, hc.last, hc.done, hc.skip, rfl, hc.rest⟩, hk.keep hc.di hc.mem hf rfl rfl rfl rfl rfl⟩
theorem Rep.unskip {w : World} {D : Nat} {G : List Nat} {inp : Int} {rest : ByteArray} {s : PS} (h : Rep w D G inp rest s) : Rep (w.setCell ⟨D, 9, none⟩ (.bool false)) D G inp rest { s with skip := false } := by
  obtain ⟨d, gp, gf, hc, hk⟩ := h
  have hf : Fr [D] w (w.setCell ⟨D, 9, none⟩ (.bool false)) := (Fr.refl [D] w).setCell (.inl (by simp)) _
  have hd : DI (w.setCell ⟨D, 9, none⟩ (.bool false)) D { d with skip := false } := by unfold DI; rw [heap_set, hc.di]; rfl
  exact ⟨{ d with skip := false }, gp, gf, ⟨hd, hc.mem, hc.inn.fr hf, (by obtain ⟨o1, o2, o3, o4, o5, o6⟩ := hc.outs; exact ⟨SlAt.fr o1 hf (fun b hb => by simpa using bat_ne hc.di o1 b hb), SlAt.fr o2 hf (fun b hb => by simpa using bat_ne hc.di o2 b hb), o3, o4, o5, o6⟩), hc.last, hc.done, rfl, hc.inp, hc.rest⟩, hk.keep hc.di hc.mem hf rfl rfl rfl rfl rfl⟩
theorem Rep.setRest {w : World} {D : Nat} {G : List Nat} {inp : Int} {rest : ByteArray} {s : PS} (h : Rep w D G inp rest s) (r : ByteArray) : Rep (w.setCell ⟨D, 10, none⟩ (.string r)) D G inp r s := by
  obtain ⟨d, gp, gf, hc, hk⟩ := h
  have hf : Fr [D] w (w.setCell ⟨D, 10, none⟩ (.string r)) := (Fr.refl [D] w).setCell (.inl (by simp)) _
  have hd : DI (w.setCell ⟨D, 10, none⟩ (.string r)) D { d with rest := r } := by unfold DI; rw [heap_set, hc.di]; rfl
  obtain ⟨o1, o2, o3, o4, o5, o6⟩ := hc.outs
  exact ⟨{ d with rest := r }, gp, gf, ⟨hd, hc.mem, hc.inn.fr hf, ⟨SlAt.fr o1 hf (fun b hb => by simpa using bat_ne hc.di o1 b hb), SlAt.fr o2 hf (fun b hb => by simpa using bat_ne hc.di o2 b hb), o3, o4, o5, o6⟩, hc.last, hc.done, hc.skip, hc.inp, rfl⟩, hk.keep hc.di hc.mem hf rfl rfl rfl rfl rfl⟩
theorem Rep.unfresh {w : World} {D : Nat} {G : List Nat} {inp : Int} {rest : ByteArray} {s : PS} (h : Rep w D G inp rest s) : Rep (w.setCell ⟨D, 4, none⟩ (.slice none 0 0)) D G inp rest { s with fresh := [] } := by
  obtain ⟨d, gp, gf, hc, hk⟩ := h
  have hf : Fr [D] w (w.setCell ⟨D, 4, none⟩ (.slice none 0 0)) := (Fr.refl [D] w).setCell (.inl (by simp)) _
  have hd : DI (w.setCell ⟨D, 4, none⟩ (.slice none 0 0)) D { d with fresh := .slice none 0 0 } := by unfold DI; rw [heap_set, hc.di]; rfl
  obtain ⟨o1, o2, o3, o4, o5, o6⟩ := hc.outs
  exact ⟨{ d with fresh := .slice none 0 0 }, gp, none, ⟨hd, hc.mem, hc.inn.fr hf, ⟨SlAt.fr o1 hf (fun b hb => by simpa using bat_ne hc.di o1 b hb), SlAt.nil_ _, o3, by simp, by simp, o6⟩, hc.last, hc.done, hc.skip, hc.inp, hc.rest⟩, hk.keep hc.di hc.mem hf rfl rfl rfl rfl rfl⟩
end Go.Proofs.YthmhcnnigepohaaGreatDoor.If

/- inflate.Decoder.Feed. -/
namespace Go.Proofs.YthmhcnnigepohaaGreatDoor.If
open Go.RowKit
open Dg (BAt bcells)
set_option linter.unusedVariables false
variable [Foreign]

omit [Foreign] in
theorem bat_str {w : World} {v : Value} {g : Option Nat} {l : List UInt8} (h : BAt w v g l) : (convert 22 9 v).run Tryz.prog w = .ok (.string ⟨l.toArray⟩) w := by
  rcases h with ⟨h0, _, h1, _⟩ | ⟨b, off, cap, cur, hg, hv, hblk, hnc, hfit, hxs, hcells⟩
  · obtain rfl : l = [] := List.length_eq_zero_iff.mp h1
    subst h0
    exact run_convert_bytes_nil w 22 5 Tryz.underlying22 Tryz.underlying5 0 0 9 Tryz.underlying9
  · subst hv
    refine run_convert_bytes_back w 22 9 5 ⟨b, off, none⟩ cap l Tryz.underlying22 Tryz.underlying5 Tryz.underlying9 (fun j hj => ?_)
    rw [Addr.add_lit, cell_blk hblk]
    exact hcells j _ (by simp [bcells, List.getElem?_eq_getElem hj])
theorem Rep.str {w : World} {D : Nat} {G : List Nat} {inp : Int} {rest : ByteArray} {s : PS} (h : Rep w D G inp rest s) : ∃ v, w.cell? ⟨D, 4, none⟩ = some v ∧ (convert 22 9 v).run Tryz.prog w = .ok (.string ⟨s.fresh.toArray⟩) w := by
  obtain ⟨d, gp, gf, hc, hk⟩ := h
  exact ⟨d.fresh, cell_blk hc.di 4, bat_str hc.outs.2.1⟩
theorem Rep.cells {w : World} {D : Nat} {G : List Nat} {inp : Int} {rest : ByteArray} {s : PS} (h : Rep w D G inp rest s) : w.cell? ⟨D, 5, none⟩ = some (.int .i64 inp) ∧ w.cell? ⟨D, 7, none⟩ = some (.bool s.k.isFin) ∧ w.cell? ⟨D, 9, none⟩ = some (.bool s.skip) ∧ (∃ v, w.cell? ⟨D, 10, none⟩ = some v) ∧ D < w.heap.size ∧ (∀ i, w.frozen? ⟨D, i, none⟩ = false) := by
  obtain ⟨d, gp, gf, hc, hk⟩ := h
  refine ⟨?_, ?_, ?_, ⟨_, cell_blk hc.di 10⟩, hc.di.lt, hc.di.froz⟩
  · rw [cell_blk hc.di]; show some (Value.int .i64 d.inp) = _; rw [hc.inp]
  · rw [cell_blk hc.di]; show some (Value.bool d.done) = _; rw [hc.done]
  · rw [cell_blk hc.di]; show some (Value.bool d.skip) = _; rw [hc.skip]
omit [Foreign] in
theorem notfin {K : Ctl} (h : K ≠ .fin) : K.isFin = false := by cases K <;> first | rfl | exact absurd rfl h
omit [Foreign] in
theorem Feeds.uncons {x inp' : Int} {b : UInt8} {l l' : List UInt8} {s s' : PS} (h : Feeds x (b :: l) s inp' l' s') : ∃ s1, Byte (x + 1) b.toNat 0 { s with skip := false } s1 ∧ ((s1.k = .fin ∧ inp' = x + 1 ∧ l' = l ∧ s' = s1) ∨ (s1.k ≠ .fin ∧ Feeds (x + 1) l s1 inp' l' s')) := by
  cases h with
  | fin h hf => exact ⟨_, h, .inl ⟨hf, rfl, rfl, rfl⟩⟩
  | more h hf k => exact ⟨_, h, .inr ⟨hf, k⟩⟩
omit [Foreign] in
theorem byte_end {x : Int} {B k : Nat} {s s' : PS} (h : Byte x B k s s') (hk : k = 8 ∨ s.skip = true ∨ s.k.isFin = true) : s' = s := by
  cases h with
  | all => rfl
  | skip h => rfl
  | fin h => rfl
  | step h1 h2 h3 _ _ =>
    rcases hk with h | h | h
    · omega
    · rw [h2] at h; cases h
    · rw [notfin h3] at h; cases h
omit [Foreign] in
theorem bit_at (b n : Nat) (hb : b < 256) : bits BinOp.and IntKind.i64 (wrap64 (b : Int) / 2 ^ n) 1 = ((b / 2 ^ n % 2 : Nat) : Int) := by
  rw [show wrap64 (b : Int) = (b : Int) from by unfold wrap64; omega, show (b : Int) / 2 ^ n = ((b / 2 ^ n : Nat) : Int) by simp]
  exact Go.Proofs.and_one _ (Nat.lt_of_le_of_lt (Nat.div_le_self _ _) (by omega))
omit [Foreign] in
theorem Byte.uncons {x : Int} {B k : Nat} {s s' : PS} (h : Byte x B k s s') (hk : k < 8) (h1 : s.skip = false) (h2 : s.k.isFin = false) : ∃ s1, Bit1 x s (B / 2 ^ k % 2) s1 ∧ Byte x B (k + 1) s1 s' := by
  cases h with
  | all => omega
  | skip h => rw [h1] at h; cases h
  | fin h => rw [h] at h2; cases h2
  | step _ _ _ hb h => exact ⟨_, hb, h⟩
def FeedPost (D : Nat) (G : List Nat) (inp' : Int) (l' : List UInt8) (rest : ByteArray) (s' : PS) (w : World) (e : Ending) (w' : World) : Prop :=
  e = .returned (.tuple #[.string ⟨s'.fresh.toArray⟩, .int .i64 0]) ∧ ∃ G', Rep w' D G' inp' (if s'.k.isFin then ⟨l'.toArray⟩ else rest) s' ∧ Grows w G G' ∧ Fr G w w' ∧ Ost w' ∧ 0 ∉ G'
omit [Foreign] in
theorem grows0 {w : World} {G G' : List Nat} (h : Grows w G G') (h0 : 0 ∉ G) (hw : 0 < w.heap.size) : 0 ∉ G' := fun hm => by
  rcases h 0 hm with h1 | h1
  · exact h0 h1
  · omega
theorem Rep.mem {w : World} {D : Nat} {G : List Nat} {inp : Int} {rest : ByteArray} {s : PS} (h : Rep w D G inp rest s) : D ∈ G ∧ D < w.heap.size := by
  obtain ⟨d, gp, gf, hc, hk⟩ := h
  exact ⟨hc.mem, hc.di.lt⟩
theorem feed_res {D : Nat} {G G2 : List Nat} {x : Int} {rest : ByteArray} (p : ByteArray) (k : Nat) {s' : PS} {w wr : World} (hk : s'.k = .fin) (h : Rep (wr.setCell ⟨D, 10, none⟩ (.string (p.extract (k + 1) p.size))) D G2 x (p.extract (k + 1) p.size) s') (hg : Grows w G G2) (hf : Fr G w wr) (ho : Ost w) (h0 : 0 ∉ G) (hm : D ∈ G2 ∧ D < wr.heap.size) :
    FeedPost D G x (p.data.toList.drop (k + 1)) rest s' w (.returned (.tuple #[.string ⟨s'.fresh.toArray⟩, .int .i64 0])) (wr.setCell ⟨D, 10, none⟩ (.string (p.extract (k + 1) p.size))) := by
  have hf2 : Fr G w (wr.setCell ⟨D, 10, none⟩ (.string (p.extract (k + 1) p.size))) := hf.setCell ((hg D hm.1).elim (fun h => .inl h) (fun h => .inr h)) _
  have he : (⟨(p.data.toList.drop (k + 1)).toArray⟩ : ByteArray) = p.extract (k + 1) p.size := by
    apply ByteArray.ext
    apply Array.ext'
    simp
    rw [List.take_of_length_le]
    rw [List.length_drop, Array.length_toList]
    exact Nat.le_refl _
  refine ⟨rfl, G2, ?_, hg, hf2, ho.fr hf2 h0, ?_⟩
  · rw [hk, he]
    exact h
  · exact grows0 hg h0 (World.block_lt_of_cell? w _ (ho 0 (by omega)))
set_option maxRecDepth 100000 in
set_option maxHeartbeats 8000000 in
theorem feed123_any (D : Nat) (G : List Nat) (inp inp' : Int) (rest p : ByteArray) (l' : List UInt8) (s s' : PS) (w : World) (h : Rep w D G inp rest s) (hk : s.k ≠ .fin) (hF : Feeds inp p.data.toList { s with fresh := [] } inp' l' s') (hi : 0 ≤ inp ∧ inp + p.size ≤ 1000000) (ho : Ost w) (h0 : 0 ∉ G) :
    Calls Tryz.prog 123 #[.pointer (some ⟨D, 0, none⟩), .string p] w (FeedPost D G inp' l' rest s' w) := by
  have HF := hide hF
  have HO := hide ho
  have H0 := hide h0
  have HR := hide h
  obtain ⟨d, gp, gf, hc, hkr⟩ := h
  have c7 : w.cell? ⟨D, 7, none⟩ = some (.bool false) := by rw [cell_blk hc.di]; show some (Value.bool d.done) = _; rw [hc.done]; cases hs : s.k <;> first | rfl | exact absurd hs hk
  have c8 : w.cell? ⟨D, 8, none⟩ = some (.bool false) := by rw [cell_blk hc.di]; rfl
  have cf : w.frozen? ⟨D, 4, none⟩ = false := hc.di.froz 4
  have hl := hc.di.lt
  have HC := hide hc
  have c4 : ∃ v, w.cell? ⟨D, 4, none⟩ = some v := ⟨_, cell_blk hc.di 4⟩
  obtain ⟨v4, c4⟩ := c4
  have HKF := hide hk
  clear hF ho h0 hc hkr hk
  go_enter Tryz.func123, Tryz.ntmps123
  go_wp2_with fail
  go_loopg [28] (p.size + 1) (fun gk i wr => ∃ (k : Nat) (G' : List Nat) (st : PS), gk = p.size + 1 - k ∧ k ≤ p.size ∧ i = .int .i64 k ∧ Rep wr D G' (inp + k) rest st ∧ st.k ≠ .fin ∧ Feeds (inp + k) (p.data.toList.drop k) st inp' l' s' ∧ Grows w G G' ∧ Fr G w wr)
  case atStart =>
    refine ⟨0, G, { s with fresh := [] }, rfl, by omega, rfl, ?_, HKF.out, ?_, Grows.refl _ _, ?_⟩
    · simpa using HR.out.unfresh
    · simpa using HF.out
    · exact ((Fr.refl [D] w).setCell (.inl (by simp)) _).sub (fun b hb => by simp at hb; rw [hb]; exact HC.out.mem)
  case round =>
    obtain ⟨k, G', st, hgk, hk, rfl, hr, hnf, hf, hg, hfr⟩ := hrel
    have HGK := hide hgk
    have HR2 := hide hr
    have HNF := hide hnf
    have HF2 := hide hf
    have HG := hide hg
    have HFR := hide hfr
    clear hgk hr hnf hf hg hfr
    by_cases hlt : k < p.size
    · obtain ⟨x, hx⟩ : ∃ x, x = inp + (k : Int) := ⟨_, rfl⟩
      obtain ⟨c5, -, c9, ⟨v10, c10⟩, hlr, hfz⟩ := HR2.out.cells
      rw [← hx] at c5
      have f5 : wr.frozen? ⟨D, 5, none⟩ = false := hfz 5
      have f9 : wr.frozen? ⟨D, 9, none⟩ = false := hfz 9
      have f10 : wr.frozen? ⟨D, 10, none⟩ = false := hfz 10
      have hxb : 0 ≤ x ∧ x ≤ 1000000 := by omega
      have HRS : Hid (Rep ((wr.setCell ⟨D, 5, none⟩ (.int .i64 (x + 1))).setCell ⟨D, 9, none⟩ (.bool false)) D G' (x + 1) rest { st with skip := false }) := hide ((HR2.out.tick (x + 1)).unskip)
      have HX := hide hx
      have HDG : Hid (D ∈ G ∨ w.heap.size ≤ D) := hide (HG.out D HR2.out.mem.1)
      obtain ⟨B, hB⟩ : ∃ B, B = p[k]'hlt := ⟨_, rfl⟩
      have hdr : p.data.toList.drop k = B :: p.data.toList.drop (k + 1) := by rw [hB]; exact List.drop_eq_getElem_cons (show k < p.data.toList.length by rw [Array.length_toList]; exact hlt)
      have hfe := HF2.out
      rw [hdr, ← hx] at hfe
      obtain ⟨s1, hby, hends⟩ := hfe.uncons
      have HBY := hide hby
      have HENDS := hide hends
      have HB := hide hB
      clear hx hfz hB hdr hfe hby hends
      go_wp2_with fail
      go_loopg [7] 9 (fun gj j wr2 => ∃ (n : Nat) (G2 : List Nat) (s2 : PS), gj = 9 - n ∧ n ≤ 8 ∧ j = .int .i64 n ∧ Rep wr2 D G2 (x + 1) rest s2 ∧ Byte (x + 1) B.toNat n s2 s1 ∧ Grows w G G2 ∧ Fr G w wr2)
      case atStart =>
        refine ⟨0, G', { st with skip := false }, rfl, by omega, rfl, HRS.out, HBY.out, HG.out, (HFR.out.setCell HDG.out _).setCell HDG.out _⟩
      case round =>
        obtain ⟨n, G2, s2, hgj, hn, rfl, hr, hby, hg, hf⟩ := hrel
        have HGJ := hide hgj
        have HR3 := hide hr
        have HBY3 := hide hby
        have HG3 := hide hg
        have HF3 := hide hf
        obtain ⟨-, d7, d9, -, dl, dz⟩ := hr.cells
        clear hgj hr hby hg hf dz
        by_cases h8 : n < 8
        · cases hsk : s2.skip
          · rw [hsk] at d9
            cases hfn : s2.k.isFin
            · rw [hfn] at d7
              obtain ⟨s3, hb1, hby3⟩ := HBY3.out.uncons h8 hsk hfn
              have hbt := bit_at B.toNat n (UInt8.toNat_lt _)
              have HC131 := hide (bit131_any hb1 HR3.out (HO.out.fr HF3.out H0.out) (grows0 HG3.out H0.out (by have := HF3.out.size; omega)))
              have HBY4 := hide hby3
              clear hb1 hby3
              go_wp2_with fail
              rw [← HB.out, hbt]
              refine (unhide HC131).mono ?_
              rintro e w2 ⟨rfl, G3, hr3, hg3, hf3⟩
              have HR4 := hide hr3
              have HG4 := hide (HG3.out.trans hg3 HF3.out.size)
              have HF4 := hide (HF3.out.thru HG3.out hf3)
              clear hr3 hg3 hf3 d7 d9 hbt
              go_wp2_with fail
              go_roundg (9 - (n + 1))
              case measure => have := HGJ.out; omega
              case rel => exact ⟨n + 1, G3, s3, rfl, by omega, by go_num, HR4.out, HBY4.out, HG4.out, HF4.out⟩
            · 
              obtain rfl : s1 = s2 := byte_end HBY3.out (.inr (.inr hfn))
              rcases HENDS.out with ⟨hk1, rfl, rfl, rfl⟩ | ⟨hk1, hfe⟩
              · rw [show s'.k.isFin = true by rw [hk1]; rfl] at d7
                have HRQ := hide (HR3.out.setRest (p.extract (k + 1) p.size))
                have HRES2 : Hid (FeedPost D G (x + 1) (p.data.toList.drop (k + 1)) rest s' w (.returned (.tuple #[.string ⟨s'.fresh.toArray⟩, .int .i64 0])) (wr.setCell ⟨D, 10, none⟩ (.string (p.extract (k + 1) p.size)))) := hide (feed_res p k hk1 HRQ.out HG3.out HF3.out HO.out H0.out HR3.out.mem)
                obtain ⟨v4', c4x, hcv⟩ := HRQ.out.str
                have c4' : wr.cell? ⟨D, 4, none⟩ = some v4' := by rw [← c4x]; exact (World.cell?_setCell_other _ _ _ _ (by simp)).symm
                clear c4x
                obtain ⟨-, -, -, ⟨v10', c10'⟩, -, hz⟩ := HR3.out.cells
                have f10' : wr.frozen? ⟨D, 10, none⟩ = false := hz 10
                clear hz
                go_wp2_with fail
                go_ret2
                exact HRES2.out
              · rw [notfin hk1] at hfn; cases hfn
          · rw [hsk] at d9
            obtain rfl : s1 = s2 := byte_end HBY3.out (.inr (.inl hsk))
            rcases HENDS.out with ⟨hk1, rfl, rfl, rfl⟩ | ⟨hk1, hfe⟩
            · rw [show s'.k.isFin = true by rw [hk1]; rfl] at d7
              have HRQ := hide (HR3.out.setRest (p.extract (k + 1) p.size))
              have HRES2 : Hid (FeedPost D G (x + 1) (p.data.toList.drop (k + 1)) rest s' w (.returned (.tuple #[.string ⟨s'.fresh.toArray⟩, .int .i64 0])) (wr.setCell ⟨D, 10, none⟩ (.string (p.extract (k + 1) p.size)))) := hide (feed_res p k hk1 HRQ.out HG3.out HF3.out HO.out H0.out HR3.out.mem)
              obtain ⟨v4', c4x, hcv⟩ := HRQ.out.str
              have c4' : wr.cell? ⟨D, 4, none⟩ = some v4' := by rw [← c4x]; exact (World.cell?_setCell_other _ _ _ _ (by simp)).symm
              clear c4x
              obtain ⟨-, -, -, ⟨v10', c10'⟩, -, hz⟩ := HR3.out.cells
              have f10' : wr.frozen? ⟨D, 10, none⟩ = false := hz 10
              clear hz
              have hsb : k + 1 ≤ p.size := hlt
              go_wp2_with fail
              go_ret2
              exact HRES2.out
            · rw [notfin hk1] at d7
              go_wp2_with fail
              go_roundg (p.size + 1 - (k + 1))
              case measure => have := HGK.out; omega
              case rel =>
                exact ⟨k + 1, G2, s1, rfl, by omega, by go_num, by rw [show inp + ((k + 1 : Nat) : Int) = x + 1 by have := HX.out; omega]; exact HR3.out, hk1, by rw [show inp + ((k + 1 : Nat) : Int) = x + 1 by have := HX.out; omega]; exact hfe, HG3.out, HF3.out⟩
        · have : n = 8 := by omega
          obtain rfl : s1 = s2 := byte_end HBY3.out (.inl this)
          rcases HENDS.out with ⟨hk1, rfl, rfl, rfl⟩ | ⟨hk1, hfe⟩
          · rw [show s'.k.isFin = true by rw [hk1]; rfl] at d7
            have HRQ := hide (HR3.out.setRest (p.extract (k + 1) p.size))
            have HRES2 : Hid (FeedPost D G (x + 1) (p.data.toList.drop (k + 1)) rest s' w (.returned (.tuple #[.string ⟨s'.fresh.toArray⟩, .int .i64 0])) (wr.setCell ⟨D, 10, none⟩ (.string (p.extract (k + 1) p.size)))) := hide (feed_res p k hk1 HRQ.out HG3.out HF3.out HO.out H0.out HR3.out.mem)
            obtain ⟨v4', c4x, hcv⟩ := HRQ.out.str
            have c4' : wr.cell? ⟨D, 4, none⟩ = some v4' := by rw [← c4x]; exact (World.cell?_setCell_other _ _ _ _ (by simp)).symm
            clear c4x
            obtain ⟨-, -, -, ⟨v10', c10'⟩, -, hz⟩ := HR3.out.cells
            have f10' : wr.frozen? ⟨D, 10, none⟩ = false := hz 10
            clear hz
            go_wp2_with fail
            go_ret2
            exact HRES2.out
          · rw [notfin hk1] at d7
            go_wp2_with fail
            go_roundg (p.size + 1 - (k + 1))
            case measure => have := HGK.out; omega
            case rel =>
              exact ⟨k + 1, G2, s1, rfl, by omega, by go_num, by rw [show inp + ((k + 1 : Nat) : Int) = x + 1 by have := HX.out; omega]; exact HR3.out, hk1, by rw [show inp + ((k + 1 : Nat) : Int) = x + 1 by have := HX.out; omega]; exact hfe, HG3.out, HF3.out⟩
    · obtain ⟨c5, c7', -, -, -, -⟩ := HR2.out.cells
      obtain ⟨v4', c4', hcv⟩ := HR2.out.str
      have hF := HF2.out
      rw [List.drop_eq_nil_of_le (show p.data.toList.length ≤ k by rw [Array.length_toList]; exact Nat.le_of_not_lt hlt)] at hF
      have HRES : Hid (FeedPost D G inp' l' rest s' w (.returned (.tuple #[.string ⟨st.fresh.toArray⟩, .int .i64 0])) wr) := by
        cases hF
        refine hide ⟨rfl, G', ?_, HG.out, HFR.out, HO.out.fr HFR.out H0.out, grows0 HG.out H0.out (by omega)⟩
        rw [notfin HNF.out]
        exact HR2.out
      clear hF
      go_wp2_with fail
      go_ret2
      exact HRES.out
end Go.Proofs.YthmhcnnigepohaaGreatDoor.If
