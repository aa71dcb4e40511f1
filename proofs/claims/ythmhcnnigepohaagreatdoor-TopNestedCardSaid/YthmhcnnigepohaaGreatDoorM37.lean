/- file: contents of several levels; what takes them, between two writes. -/
import Derived.Test.YthmhcnnigepohaaGreatDoorM36
import Derived.Test.YthmhcnnigepohaaGreatDoorM35
import Derived.Test.YthmhcnnigepohaaGreatDoorM12
namespace Go.Proofs.YthmhcnnigepohaaGreatDoor.Fi
open Go.RowKit
open If (Grows Ost PS ptr)
open En (In GRep Inflates Along mem phAt outAt inS mem_len slat_some)
open Dg (HashOf Kst)
set_option linter.unusedVariables false

/-- A content: plain bytes, or a gzip file whose one member is a content. -/
inductive Ch where
  | leaf (X : List UInt8)
  | wrap (d : List UInt8) (st : Nat → PS) (c : Ch)
def Ch.bytes : Ch → List UInt8
  | .leaf X => X
  | .wrap d st c => mem d c.bytes
def Ch.Good : Nat → Ch → Prop
  | lv, .leaf X => lv ≤ 6 ∧ X.length ≤ 60000 ∧ X.head? ≠ some 31
  | lv, .wrap d st c => lv < 6 ∧ Inflates d c.bytes ∧ Along d c.bytes st ∧ (mem d c.bytes).length ≤ 60000 ∧ Ch.Good (lv + 1) c
/-- How many takers there are once n bytes have come. -/
def made : Ch → Nat → Nat
  | .leaf _, _ => 1
  | .wrap d st c, n => if n = (mem d c.bytes).length then 1 + made c c.bytes.length else if outAt d c.bytes st n = [] then 1 else 1 + made c (outAt d c.bytes st n).length
theorem made_le : ∀ (c : Ch) (lv n : Nat), c.Good lv → lv + made c n ≤ 7
  | .leaf _, lv, n, h => by unfold made; have := h.1; omega
  | .wrap d st c, lv, n, h => by
    obtain ⟨h1, h2, h3, h4, h5⟩ := h
    unfold made
    split
    · have := made_le c (lv + 1) c.bytes.length h5; omega
    · split
      · omega
      · have := made_le c (lv + 1) (outAt d c.bytes st n).length h5; omega
theorem made_zero (c : Ch) : made c 0 = 1 := by
  cases c with
  | leaf => rfl
  | wrap d st c =>
    unfold made
    rw [if_neg (by rw [mem_len]; omega), if_pos (show outAt d c.bytes st 0 = [] from rfl)]
theorem Ch.Good.len {lv : Nat} {c : Ch} (h : c.Good lv) : c.bytes.length ≤ 60000 := by
  cases c with
  | leaf X => exact h.2.1
  | wrap d st c => exact h.2.2.2.1
theorem Ch.Good.lv {lv : Nat} {c : Ch} (h : c.Good lv) : lv ≤ 6 := by
  cases c with
  | leaf X => exact h.1
  | wrap d st c => exact Nat.le_of_lt h.1

def ba (l : List UInt8) : ByteArray := ⟨l.toArray⟩
theorem ba_data (l : List UInt8) : (ba l).data.toList = l := rfl
theorem ba_size (l : List UInt8) : (ba l).size = l.length := rfl
theorem ba_of {s : ByteArray} {l : List UInt8} (h : s.data.toList = l) : s = ba l := by
  apply ByteArray.ext
  apply Array.ext'
  exact h
theorem ba_app (l m : List UInt8) : ba l ++ ba m = ba (l ++ m) := by
  apply ba_of
  simp [ba]
theorem ba_ext (l : List UInt8) (i j : Nat) : (ba l).extract i j = ba ((l.drop i).take (j - i)) := by
  apply ba_of
  simp [ba, List.extract_eq_take_drop]
/-- The bytes that are kept. -/
def hd (X : List UInt8) (n : Nat) : ByteArray := ba (X.take (min n 8192))

/-- A packed's block. -/
structure PV where
  head : ByteArray
  hb : Nat
  lv : Nat
  cnt : Nat
  begin_ : ByteArray
  dec : Value
  over : Bool
  raw : ByteArray
  now : Value
  mem : Value
def PC (p : PV) : Array Value := #[.string p.head, ptr p.hb, .bool false, .int .i64 p.lv, .int .i64 65536, .int .i64 1100, ptr p.cnt, .string p.begin_, p.dec, .bool p.over, .string p.raw, p.now, p.mem]
def PI (w : World) (P : Nat) (p : PV) : Prop := w.heap[P]? = some (.cells (PC p) 104 (0, 0))
theorem PI.lt {w : World} {P : Nat} {p : PV} (h : PI w P p) : P < w.heap.size := lt_of_blk h
theorem PI.fr {w w' : World} {S : List Nat} {P : Nat} {p : PV} (h : PI w P p) (hf : Fr S w w') (hn : P ∉ S) : PI w' P p := (hf.block P h.lt hn).trans h
def Disj (A B : List Nat) : Prop := ∀ b ∈ A, b ∉ B
/-- The decoder of a packed after m bytes; Gd: what is the decoder's, Gn: what is the member's. -/
def Live (K : Nat → Value → List Nat → Prop) (w : World) (d : List UInt8) (st : Nat → PS) (S : List UInt8) (m : Nat) (p : PV) (Gd Gn : List Nat) : Prop :=
  p.begin_ = ba [] ∧ ((m < (mem d S).length ∧ p.raw = ba ((mem d S).take m) ∧ p.mem = .slice none 0 0 ∧ (∃ Z, p.dec = ptr Z ∧ GRep w Z Gd S (phAt d st m)) ∧ ((outAt d S st m = [] ∧ p.now = .nilIface) ∨ (outAt d S st m ≠ [] ∧ K (outAt d S st m).length p.now Gn))) ∨
    (m = (mem d S).length ∧ p.now = .nilIface ∧ (∃ Z, p.dec = ptr Z) ∧ ∃ bm vn, bm ∈ Gd ∧ SlAt 168 2 w p.mem (some bm) 1 [.string inS, vn] ∧ K S.length vn Gn))
/-- What takes a content, after n bytes; G: the blocks that are its own. -/
def Sk (w : World) (C : Nat) : Nat → Ch → Nat → Value → List Nat → Prop
  | lv, .leaf X, n, v, G => n ≤ X.length ∧ ∃ P hb, hb ≠ P ∧ HashOf w hb (X.take n) ∧ P ∈ G ∧ hb ∈ G ∧ In w G ∧
      ((lv = 6 ∧ v = .iface 99 (ptr P) ∧ w.heap[P]? = some (.cells #[.string (hd X n), ptr hb, .bool false] 98 (0, 0))) ∨
       (lv < 6 ∧ v = .iface 100 (ptr P) ∧ ∃ p, PI w P p ∧ p.hb = hb ∧ p.head = hd X n ∧ p.lv = lv ∧ p.cnt = C ∧ p.dec = .pointer none ∧ p.now = .nilIface ∧ p.mem = .slice none 0 0 ∧ ((n < 2 ∧ p.over = false ∧ p.begin_ = ba (X.take n)) ∨ (2 ≤ n ∧ p.over = true))))
  | lv, .wrap d st c, n, v, G => n ≤ (mem d c.bytes).length ∧ lv < 6 ∧ ∃ P p Gd Gn, v = .iface 100 (ptr P) ∧ PI w P p ∧ p.hb ≠ P ∧ HashOf w p.hb ((mem d c.bytes).take n) ∧ P ∈ G ∧ p.hb ∈ G ∧ In w G ∧ p.head = hd (mem d c.bytes) n ∧ p.lv = lv ∧ p.cnt = C ∧ p.over = false ∧
      P ∉ Gd ∧ p.hb ∉ Gd ∧ P ∉ Gn ∧ p.hb ∉ Gn ∧ Disj Gd Gn ∧ (∀ b ∈ Gd, b ∈ G) ∧ (∀ b ∈ Gn, b ∈ G) ∧
      ((n < 2 ∧ p.begin_ = ba ((mem d c.bytes).take n) ∧ p.dec = .pointer none ∧ p.now = .nilIface ∧ p.mem = .slice none 0 0 ∧ p.raw = ba []) ∨
       (2 ≤ n ∧ Live (fun n v G => Sk w C (lv + 1) c n v G) w d st c.bytes n p Gd Gn))
theorem Live.fr {K K' : Nat → Value → List Nat → Prop} {w w' : World} {d S : List UInt8} {st : Nat → PS} {m : Nat} {p : PV} {Gd Gn T : List Nat} (h : Live K w d st S m p Gd Gn) (hf : Fr T w w') (hd : Disj Gd T) (hK : ∀ n v, K n v Gn → K' n v Gn) : Live K' w' d st S m p Gd Gn := by
  obtain ⟨h0, ⟨h1, h2, h3, ⟨Z, h4, h5⟩, h6⟩ | ⟨h1, h2, h3, bm, vn, h4, h5, h6⟩⟩ := h
  · exact ⟨h0, .inl ⟨h1, h2, h3, ⟨Z, h4, h5.fr hf hd⟩, h6.imp id (fun h => ⟨h.1, hK _ _ h.2⟩)⟩⟩
  · exact ⟨h0, .inr ⟨h1, h2, h3, bm, vn, h4, slat_some h5 hf (hd bm h4), hK _ _ h6⟩⟩
theorem Sk.fr {w w' : World} {C : Nat} {T : List Nat} (hf : Fr T w w') : ∀ (c : Ch) (lv n : Nat) (v : Value) (G : List Nat), Sk w C lv c n v G → Disj G T → Sk w' C lv c n v G
  | .leaf X, lv, n, v, G, h, hT => by
    obtain ⟨h0, P, hb, h1, h2, h3, h4, h5, h6⟩ := h
    refine ⟨h0, P, hb, h1, h2.fr hf (hT hb h4), h3, h4, h5.fr hf, h6.imp ?_ ?_⟩
    · rintro ⟨k1, k2, k3⟩
      exact ⟨k1, k2, (hf.block P (lt_of_blk k3) (hT P h3)).trans k3⟩
    · rintro ⟨k1, k2, p, k3, k4⟩
      exact ⟨k1, k2, p, k3.fr hf (hT P h3), k4⟩
  | .wrap d st c, lv, n, v, G, h, hT => by
    obtain ⟨h0, h1, P, p, Gd, Gn, k1, k2, k3, k4, k5, k6, k7, k8, k9, k10, k11, k12, k13, k14, k15, k16, k17, k18, k19⟩ := h
    refine ⟨h0, h1, P, p, Gd, Gn, k1, k2.fr hf (hT P k5), k3, k4.fr hf (hT _ k6), k5, k6, k7.fr hf, k8, k9, k10, k11, k12, k13, k14, k15, k16, k17, k18, k19.imp id ?_⟩
    rintro ⟨q1, q2⟩
    exact ⟨q1, q2.fr hf (fun b hb => hT b (k17 b hb)) (fun n v h => Sk.fr hf c (lv + 1) n v Gn h (fun b hb => hT b (k18 b hb)))⟩
theorem Sk.inn {w : World} {C lv n : Nat} {c : Ch} {v : Value} {G : List Nat} (h : Sk w C lv c n v G) : In w G := by
  cases c with
  | leaf X => obtain ⟨h0, P, hb, h1, h2, h3, h4, h5, h6⟩ := h; exact h5
  | wrap d st c => obtain ⟨h0, h1, P, p, Gd, Gn, k1, k2, k3, k4, k5, k6, k7, k8⟩ := h; exact k7
/-- Which method takes bytes: of a plain, or of a packed. -/
theorem Sk.val {w : World} {C lv n : Nat} {c : Ch} {v : Value} {G : List Nat} (h : Sk w C lv c n v G) : ∃ P, P ∈ G ∧ (v = .iface 99 (ptr P) ∨ v = .iface 100 (ptr P)) := by
  cases c with
  | leaf X => obtain ⟨h0, P, hb, h1, h2, h3, h4, h5, ⟨k1, k2, k3⟩ | ⟨k1, k2, k3⟩⟩ := h; exact ⟨P, h3, .inl k2⟩; exact ⟨P, h3, .inr k2⟩
  | wrap d st c => obtain ⟨h0, h1, P, p, Gd, Gn, k1, k2, k3, k4, k5, k6, k7, k8⟩ := h; exact ⟨P, k5, .inr k1⟩

/-- The count of files. -/
def Ct (w : World) (C k : Nat) : Prop := w.heap[C]? = some (.cells #[.int .i64 k] 3 (0, 0))
theorem Ct.fr {w w' : World} {C k : Nat} {S : List Nat} (h : Ct w C k) (hf : Fr S w w') (hn : C ∉ S) : Ct w' C k := (hf.block C (lt_of_blk h) hn).trans h
/-- What lies about. -/
structure Env (w : World) (C : Nat) (G : List Nat) (k : Nat) : Prop where
  kst : Kst w
  ost : Ost w
  ct : Ct w C k
  c0 : 1 < C
  off : C ∉ G
  g0 : 0 ∉ G
  g1 : 1 ∉ G
theorem Env.step {w w' : World} {C k k' : Nat} {G G' : List Nat} (h : Env w C G k) (hg : Grows w G G') (hf : Fr (C :: G) w w') (hc : Ct w' C k') : Env w' C G' k' := by
  have h1 := h.kst.lt
  have h2 := lt_of_blk h.ct
  have hc0 := h.c0
  refine ⟨h.kst.fr hf (by rw [List.mem_cons]; rintro (e | e); omega; exact h.g1 e), h.ost.fr hf (by rw [List.mem_cons]; rintro (e | e); omega; exact h.g0 e), hc, hc0, fun hm => ?_, fun hm => ?_, fun hm => ?_⟩
  · rcases hg _ hm with e | e
    · exact h.off e
    · omega
  · rcases hg _ hm with e | e
    · exact h.g0 e
    · omega
  · rcases hg _ hm with e | e
    · exact h.g1 e
    · omega
def WPost (C lv : Nat) (c : Ch) (n k : Nat) (v : Value) (G : List Nat) (w : World) (e : Ending) (w' : World) : Prop :=
  e = .returned (.tuple #[]) ∧ ∃ G', Sk w' C lv c (n + k) v G' ∧ Ct w' C (lv + made c (n + k)) ∧ Grows w G G' ∧ Fr (C :: G) w w'
/-- A taker's method write. -/
def WriteOK (c : Ch) (lv : Nat) : Prop := ∀ (C n k : Nat) (v : Value) (G : List Nat) (s : ByteArray) (w : World), 0 < k → Sk w C lv c n v G → s = ba ((c.bytes.drop n).take k) → n + k ≤ c.bytes.length → Env w C G (lv + made c n) →
  ∃ P, (v = .iface 99 (ptr P) ∧ Calls Tryz.prog 97 #[ptr P, .string s] w (WPost C lv c n k v G w)) ∨ (v = .iface 100 (ptr P) ∧ Calls Tryz.prog 104 #[ptr P, .string s] w (WPost C lv c n k v G w))
end Go.Proofs.YthmhcnnigepohaaGreatDoor.Fi

/- file: (*plain).write. -/
namespace Go.Proofs.YthmhcnnigepohaaGreatDoor.Fi
open Go.RowKit
open If (Grows Ost PS ptr)
open En (In GRep Inflates Along mem phAt outAt inS mem_len slat_some)
open Dg (HashOf Kst)
set_option linter.unusedVariables false

theorem hd_more (X : List UInt8) (n k : Nat) (h : n + k ≤ X.length) : hd X n ++ (ba ((X.drop n).take k)).extract 0 (min k (8192 - (hd X n).size)) = hd X (n + k) := by
  rw [ba_ext]
  unfold hd
  rw [ba_app, ba_size, List.length_take]
  congr 1
  rw [List.drop_zero, List.take_take]
  by_cases hn : n ≤ 8192
  · rw [show min n 8192 = n by omega, show min (n + k) 8192 = n + min k (8192 - n) by omega, List.take_add]
    congr 2
    omega
  · rw [show min n 8192 = 8192 by omega, show min (n + k) 8192 = 8192 by omega, show min (min k (8192 - min 8192 X.length) - 0) k = 0 by omega]
    simp
theorem hd_size (X : List UInt8) (n : Nat) : (hd X n).size ≤ 8192 := by
  unfold hd
  rw [ba_size, List.length_take]
  omega
theorem take_more (X : List UInt8) (n k : Nat) : X.take n ++ (X.drop n).take k = X.take (n + k) := (List.take_add).symm
theorem ba_dt_size (X : List UInt8) (n k : Nat) (h : n + k ≤ X.length) : (ba ((X.drop n).take k)).size = k := by
  rw [ba_size, List.length_take, List.length_drop]
  omega
def PwPost (P hb : Nat) (t : TypeId) (cs : Array Value) (X : List UInt8) (n k : Nat) (w : World) (e : Ending) (w' : World) : Prop :=
  e = .returned (.tuple #[]) ∧ w'.heap[P]? = some (.cells (cs.setIfInBounds 0 (.string (hd X (n + k)))) t (0, 0)) ∧ HashOf w' hb (X.take (n + k)) ∧ Fr [P, hb] w w'
set_option maxRecDepth 100000 in
set_option maxHeartbeats 8000000 in
theorem pwrite97_any (P hb n k : Nat) (t : TypeId) (cs : Array Value) (X : List UInt8) (w : World) (h : w.heap[P]? = some (.cells cs t (0, 0))) (h0 : cs[0]? = some (.string (hd X n))) (h1 : cs[1]? = some (ptr hb)) (h2 : cs[2]? = some (.bool false))
    (hh : HashOf w hb (X.take n)) (hk : Kst w) (hb1 : hb ≠ 1) (hP1 : P ≠ 1) (hbP : hb ≠ P) (hX : X.length ≤ 60000) (hn : n + k ≤ X.length) :
    Calls Tryz.prog 97 #[ptr P, .string (ba ((X.drop n).take k))] w (PwPost P hb t cs X n k w) := by
  have H12 := Dg.hwrite_any hb (X.take n) (ba ((X.drop n).take k)) w hh hk hb1 (by rw [ba_size]; simp only [List.length_take, List.length_drop]; omega)
  rw [ba_data, take_more] at H12
  have H12 := hide H12
  have hcat := hd_more X n k hn
  have hs1 := hd_size X n
  have hs2 := ba_dt_size X n k hn
  have hs3 := hd_size X (n + k)
  obtain ⟨a, ha⟩ : ∃ a, a = hd X n := ⟨_, rfl⟩
  obtain ⟨s, hs⟩ : ∃ s, s = ba ((X.drop n).take k) := ⟨_, rfl⟩
  obtain ⟨u, hu⟩ : ∃ u, u = hd X (n + k) := ⟨_, rfl⟩
  rw [← ha] at h0 hcat hs1
  rw [← hs] at hcat hs2 H12
  rw [← hu] at hcat hs3
  have HU := hide hu
  rw [← hs]
  obtain ⟨az, haz⟩ : ∃ z, z = a.size := ⟨_, rfl⟩
  obtain ⟨m, hm⟩ : ∃ m, m = min k (8192 - a.size) := ⟨_, rfl⟩
  have hmk : m ≤ k := by omega
  rw [← hm] at hcat
  have c0 : w.cell? ⟨P, 0, none⟩ = some (.string a) := by rw [cell_blk h]; exact h0
  have c1 : w.cell? ⟨P, 1, none⟩ = some (.pointer (some ⟨hb, 0, none⟩)) := by rw [cell_blk h]; exact h1
  have c2 : w.cell? ⟨P, 2, none⟩ = some (.bool false) := by rw [cell_blk h]; exact h2
  have hl := lt_of_blk h
  have HH := hide h
  clear h h0 h1 h2 hh hk ha hs hu
  unfold ptr
  go_enter Tryz.func97, Tryz.ntmps97
  go_wp2_with fail
  refine (unhide H12).mono ?_
  rintro e w1 ⟨rfl, hh1, hf1⟩
  have hbk1 : w1.heap[P]? = some (.cells cs t (0, 0)) := (hf1.block P hl (by simpa using hbP.symm)).trans HH.out
  have d0 : w1.cell? ⟨P, 0, none⟩ = some (.string a) := by
    rw [World.cell?_of_block (w := w) (hf1.block P hl (by simpa using hbP.symm))]
    exact c0
  have df0 : w1.frozen? ⟨P, 0, none⟩ = false := froz_blk hbk1 0
  have hl1 := lt_of_blk hbk1
  have e1 : ((if 8192 - (a.size : Int) < (k : Int) then 8192 - (a.size : Int) else (k : Int))) = (m : Int) := by split <;> omega
  have e2 : ((if (k : Int) < 8192 - (a.size : Int) then (k : Int) else 8192 - (a.size : Int))) = (m : Int) := by split <;> omega
  have e3 : ((if 8192 - (a.size : Int) ≤ (k : Int) then 8192 - (a.size : Int) else (k : Int))) = (m : Int) := by split <;> omega
  have e4 : ((if (k : Int) ≤ 8192 - (a.size : Int) then (k : Int) else 8192 - (a.size : Int))) = (m : Int) := by split <;> omega
  have e5 : min (k : Int) (8192 - (a.size : Int)) = (m : Int) := by omega
  have HRES : Hid (PwPost P hb t cs X n k w (.returned (.tuple #[])) (w1.setCell ⟨P, 0, none⟩ (.string u)).drew) := by
    have hf2 : Fr [P] w1 (w1.setCell ⟨P, 0, none⟩ (.string u)).drew := ((Fr.refl [P] w1).setCell (.inl (by simp)) _).drew
    refine hide ⟨rfl, ?_, hh1.fr hf2 (by simpa using hbP), (hf1.mono (by simp)).trans (hf2.mono (by simp))⟩
    rw [heap_drew, heap_set, hbk1, ← HU.out]
    rfl
  clear hh1 hf1 hbk1 haz hm
  go_upto_region 2 with fail
  go_region
  refine bodyPost_end (results_none rfl _ _ _) rfl ?_
  exact HRES.out
end Go.Proofs.YthmhcnnigepohaaGreatDoor.Fi

/- file: content, (*packed).begun. -/
namespace Go.Proofs.YthmhcnnigepohaaGreatDoor.Fi
open Go.RowKit
open If (Grows Ost PS ptr)
open En (In GRep Inflates Along mem phAt outAt inS mem_len slat_some)
open Dg (HashOf Kst)
set_option linter.unusedVariables false

def ContPost (C lv : Nat) (c : Ch) (k : Nat) (w : World) (e : Ending) (w' : World) : Prop :=
  ∃ v G', e = .returned v ∧ Sk w' C lv c 0 v G' ∧ (∀ b ∈ G', w.heap.size ≤ b) ∧ Ct w' C (k + 1) ∧ Fr [C] w w'
theorem sk_zero_packed {w : World} {C lv P hb : Nat} {c : Ch} (hg : c.Good lv) (hlv : lv < 6) (hP : PI w P ⟨ba [], hb, lv, C, ba [], .pointer none, false, ba [], .nilIface, .slice none 0 0⟩) (hh : HashOf w hb []) (hn : hb ≠ P) : Sk w C lv c 0 (.iface 100 (ptr P)) [P, hb] := by
  have hin : In w [P, hb] := fun b hb' => by
    simp at hb'
    rcases hb' with rfl | rfl
    · exact hP.lt
    · exact hh.lt
  cases c with
  | leaf X => exact ⟨Nat.zero_le _, P, hb, hn, by simpa using hh, by simp, by simp, hin, .inr ⟨hlv, rfl, _, hP, rfl, rfl, rfl, rfl, rfl, rfl, rfl, .inl ⟨by omega, rfl, rfl⟩⟩⟩
  | wrap d st c => exact ⟨Nat.zero_le _, hlv, P, _, [], [], rfl, hP, hn, by simpa using hh, by simp, by simp, hin, rfl, rfl, rfl, rfl, by simp, by simp, by simp, by simp, fun b h => by simp at h, by simp, by simp, .inl ⟨by omega, rfl, rfl, rfl, rfl, rfl⟩⟩
set_option maxRecDepth 100000 in
set_option maxHeartbeats 8000000 in
theorem content20_any (C lv k : Nat) (c : Ch) (w : World) (hg : c.Good lv) (hc : Ct w C k) (hk : k ≤ 1000) : Calls Tryz.prog 20 #[.int .i64 lv, .agg #[.int .i64 65536, .int .i64 1100], ptr C] w (ContPost C lv c k w) := by
  have hlv := hg.lv
  have HC := hide hc
  have hl := lt_of_blk hc
  obtain ⟨B, hB⟩ : ∃ B, B = w.heap.size := ⟨_, rfl⟩
  obtain ⟨w0, hw0⟩ : ∃ x, x = (w.setCell ⟨C, 0, none⟩ (.int .i64 ((k : Int) + 1))).alloc (.cells #[.int .i64 65536, .int .i64 1100] 40) := ⟨_, rfl⟩
  have hf0 : Fr [C] w w0 := by rw [hw0]; exact ((Fr.refl [C] w).setCell (.inl (by simp)) _).alloc _
  have hCB : C ≠ B := by omega
  have hb0 : w0.heap[B]? = some (.cells #[.int .i64 65536, .int .i64 1100] 40 (0, 0)) := by rw [hw0]; exact heap_alloc_eq (by rw [World.size_setCell]; exact hB)
  have hc0 : Ct w0 C (k + 1) := by
    unfold Ct
    rw [hw0, heap_alloc_lt (by rw [World.size_setCell]; exact hl), heap_set, hc]
    rfl
  have c0 : (w.alloc (.cells #[.int .i64 65536, .int .i64 1100] 40)).cell? ⟨C, 0, none⟩ = some (.int .i64 (k : Int)) := cell_blk ((heap_alloc_lt hl).trans hc) 0
  have cf0 : (w.alloc (.cells #[.int .i64 65536, .int .i64 1100] 40)).frozen? ⟨C, 0, none⟩ = false := froz_blk ((heap_alloc_lt hl).trans hc) 0
  have cc : w.cell? ⟨C, 0, none⟩ = some (.int .i64 (k : Int)) := cell_blk hc 0
  have ccf : w.frozen? ⟨C, 0, none⟩ = false := froz_blk hc 0
  have H11 := hide (Dg.hnew_any w0)
  have HG := hide hg
  have HF0 := hide hf0
  have HB0 := hide hb0
  have HC0 := hide hc0
  have HW0 := hide hw0
  have HB := hide hB
  clear hg hc hf0 hb0 hc0 hw0 hB
  unfold ptr
  go_enter Tryz.func20, Tryz.ntmps20
  go_upto_region 2 with fail
  rw [← HB.out, ← HW0.out]
  clear c0 cf0 cc ccf
  go_wp2_with fail
  refine (unhide H11).mono ?_
  rintro e w1 ⟨hb, rfl, hhb, hho, hf1⟩
  obtain ⟨Q, hQ⟩ : ∃ Q, Q = w1.heap.size := ⟨_, rfl⟩
  obtain ⟨w2, hw2⟩ : ∃ x, x = w1.alloc (.cells #[.string ⟨#[]⟩, .pointer (some ⟨hb, 0, none⟩), .bool false] 98) := ⟨_, rfl⟩
  have hf2 : Fr [] w1 w2 := by rw [hw2]; exact (Fr.refl _ _).alloc _
  have hq2 : w2.heap[Q]? = some (.cells #[.string ⟨#[]⟩, .pointer (some ⟨hb, 0, none⟩), .bool false] 98 (0, 0)) := by rw [hw2]; exact heap_alloc_eq hQ
  have hb2 : w2.heap[B]? = some (.cells #[.int .i64 65536, .int .i64 1100] 40 (0, 0)) := (hf2.block B (Nat.lt_of_lt_of_le (lt_of_blk HB0.out) hf1.size) (by simp)).trans ((hf1.block B (lt_of_blk HB0.out) (by simp)).trans HB0.out)
  have q0 : w2.cell? ⟨Q, 0, none⟩ = some (.string ⟨#[]⟩) := cell_blk hq2 0
  have q1 : w2.cell? ⟨Q, 1, none⟩ = some (.pointer (some ⟨hb, 0, none⟩)) := cell_blk hq2 1
  have q2 : w2.cell? ⟨Q, 2, none⟩ = some (.bool false) := cell_blk hq2 2
  have b0 : w2.cell? ⟨B, 0, none⟩ = some (.int .i64 65536) := cell_blk hb2 0
  have b1 : w2.cell? ⟨B, 1, none⟩ = some (.int .i64 1100) := cell_blk hb2 1
  have hh2 := hho.fr hf2 (by simp)
  have hbQ : hb ≠ Q := by have := hho.lt; omega
  have HCT2 : Hid (Ct w2 C (k + 1)) := hide ((HC0.out.fr hf1 (by simp)).fr hf2 (by simp))
  have HF2 : Hid (Fr [C] w w2) := hide ((HF0.out.trans (hf1.mono (by simp))).trans (hf2.mono (by simp)))
  have HQ2 := hide hq2
  have HH2 := hide hh2
  have HS : Hid (w.heap.size ≤ hb ∧ w.heap.size ≤ Q ∧ w2.heap.size = Q + 1) := by
    have h1 := HF0.out.size
    have h2 := hf1.size
    refine hide ⟨by omega, by omega, by rw [hw2]; simp [hQ]⟩
  have HW2 := hide hw2
  have HQ := hide hQ
  have hlQ := lt_of_blk hq2
  clear hho hf1 hhb hQ hf2 hq2 hb2 hh2 hw2
  go_upto_region 3 with fail
  rw [← HQ.out, ← HW2.out]
  by_cases hl6 : lv = 6
  · subst hl6
    have HRES : Hid (ContPost C 6 c k w (.returned (.iface 99 (.pointer (some ⟨Q, 0, none⟩)))) w2) := by
      cases c with
      | leaf X =>
        refine hide ⟨_, [Q, hb], rfl, ⟨Nat.zero_le _, Q, hb, hbQ, by simpa using HH2.out, by simp, by simp, fun b hb' => ?_, .inl ⟨rfl, rfl, HQ2.out⟩⟩, fun b hb' => ?_, HCT2.out, HF2.out⟩
        · simp at hb'
          rcases hb' with rfl | rfl
          · exact hlQ
          · exact HH2.out.lt
        · simp at hb'
          rcases hb' with rfl | rfl
          · exact HS.out.2.1
          · exact HS.out.1
      | wrap d st c => exact absurd HG.out.1 (by omega)
    go_wp2_with fail
    go_ret
    exact HRES.out
  · have hlt : lv < 6 := by omega
    obtain ⟨w3, hw3⟩ : ∃ x, x = w2.alloc (.cells (PC ⟨ba [], hb, lv, C, ba [], .pointer none, false, ba [], .nilIface, .slice none 0 0⟩) 104) := ⟨_, rfl⟩
    have HRES : Hid (ContPost C lv c k w (.returned (.iface 100 (.pointer (some ⟨w2.heap.size, 0, none⟩)))) w3) := by
      have hf3 : Fr [] w2 w3 := by rw [hw3]; exact (Fr.refl _ _).alloc _
      have hlh := HH2.out.lt
      have hs2 := HF2.out.size
      refine hide ⟨_, [w2.heap.size, hb], rfl, sk_zero_packed HG.out hlt (by rw [hw3]; exact heap_alloc_eq rfl) (HH2.out.fr hf3 (by simp)) (by omega), fun b hb' => ?_, HCT2.out.fr hf3 (by simp), HF2.out.trans (hf3.mono (by simp))⟩
      simp at hb'
      rcases hb' with rfl | rfl
      · exact hs2
      · exact HS.out.1
    rw [hw3] at HRES
    clear hw3
    go_wp2_with fail
    go_ret
    exact HRES.out
end Go.Proofs.YthmhcnnigepohaaGreatDoor.Fi

/- file: (*packed).begun. -/
namespace Go.Proofs.YthmhcnnigepohaaGreatDoor.Fi
open Go.RowKit
open If (Grows Ost PS ptr)
open En (In GRep Inflates Along mem phAt outAt inS mem_len slat_some)
open Dg (HashOf Kst)
set_option linter.unusedVariables false

theorem PI.setNow {w : World} {P : Nat} {p : PV} (h : PI w P p) (v : Value) : PI (w.setCell ⟨P, 11, none⟩ v) P { p with now := v } := by
  unfold PI at *
  rw [heap_set, h]
  rfl
def BegPost (P C lv k : Nat) (c : Ch) (p : PV) (w w' : World) : Prop :=
  ∃ v Gn, PI w' P { p with now := v } ∧ Sk w' C (lv + 1) c 0 v Gn ∧ (∀ b ∈ Gn, w.heap.size ≤ b) ∧ Ct w' C (k + 1) ∧ Fr [C, P] w w'
theorem sk_iface {w : World} {C lv n : Nat} {c : Ch} {v : Value} {G : List Nat} (h : Sk w C lv c n v G) : ∃ t x, v = .iface t (.pointer (some ⟨x, 0, none⟩)) := by
  obtain ⟨P, -, rfl | rfl⟩ := h.val
  · exact ⟨99, P, rfl⟩
  · exact ⟨100, P, rfl⟩
theorem beg_fin {P C lv k : Nat} {c : Ch} {p : PV} {w wx : World} {v : Value} {Gn : List Nat} (hp : PI w P p) (hPC : P ≠ C) (hs : Sk wx C (lv + 1) c 0 v Gn) (hge : ∀ b ∈ Gn, w.drew.heap.size ≤ b) (hcx : Ct wx C (k + 1)) (hfx : Fr [C] w.drew wx) :
    BegPost P C lv k c p w (wx.setCell ⟨P, 11, none⟩ v) ∧ wx.cell? ⟨P, 11, none⟩ = some p.now ∧ wx.frozen? ⟨P, 11, none⟩ = false ∧ P < wx.heap.size := by
  have hf0 : Fr [C] w wx := ((Fr.refl [C] w).drew).trans hfx
  have hpx : PI wx P p := hp.fr hf0 (by simpa using hPC)
  have hf2 : Fr [P] wx (wx.setCell ⟨P, 11, none⟩ v) := (Fr.refl [P] wx).setCell (.inl (by simp)) _
  refine ⟨⟨v, Gn, hpx.setNow v, Sk.fr hf2 _ _ _ _ _ hs (fun b hb hm => ?_), hge, hcx.fr hf2 (by simpa using hPC.symm), (hf0.mono (by simp)).trans (hf2.mono (by simp))⟩, cell_blk hpx 11, froz_blk hpx 11, hpx.lt⟩
  simp at hm
  subst hm
  have h1 := hge _ hb
  have h2 := hp.lt
  have h3 : w.drew.heap.size = w.heap.size := rfl
  omega
set_option maxRecDepth 100000 in
set_option maxHeartbeats 8000000 in
theorem begun110_new (P C lv k : Nat) (c : Ch) (p : PV) (w : World) (h : PI w P p) (hn : p.now = .nilIface) (hlv : p.lv = lv) (hcnt : p.cnt = C) (hct : Ct w C k) (hk : k < 16) (hg : c.Good (lv + 1)) (hPC : P ≠ C) :
    Calls Tryz.prog 110 #[ptr P] w fun e w' => e = .returned (.bool true) ∧ BegPost P C lv k c p w w' := by
  obtain ⟨head, hb, lv', cnt, begin_, dec, over, raw, now, mem⟩ := p
  simp only at hn hlv hcnt
  subst hn hlv hcnt
  have hlv6 := hg.lv
  have H20 := content20_any cnt (lv' + 1) k c w.drew hg (hct.fr (Fr.refl [] w).drew (by simp)) (by omega)
  rw [show ((lv' + 1 : Nat) : Int) = (lv' : Int) + 1 by omega, show ptr cnt = Value.pointer (some ⟨cnt, 0, none⟩) from rfl] at H20
  have H20 := hide H20
  have HP := hide h
  have hl := h.lt
  have hlC := lt_of_blk hct
  have c11 : w.cell? ⟨P, 11, none⟩ = some .nilIface := cell_blk h 11
  have c3 : w.cell? ⟨P, 3, none⟩ = some (.int .i64 (lv' : Int)) := cell_blk h 3
  have c4 : w.cell? ⟨P, 4, none⟩ = some (.int .i64 65536) := cell_blk h 4
  have c5 : w.cell? ⟨P, 5, none⟩ = some (.int .i64 1100) := cell_blk h 5
  have c6 : w.cell? ⟨P, 6, none⟩ = some (.pointer (some ⟨cnt, 0, none⟩)) := cell_blk h 6
  have d0 : w.cell? ⟨cnt, 0, none⟩ = some (.int .i64 (k : Int)) := cell_blk hct 0
  have hkb : (k : Int) < 16 := by omega
  have hw1 : IntKind.i64.wrap ((lv' : Int) + 1) = (lv' : Int) + 1 := IntWalk.i64_in _ (by omega)
  have hk1 : decide ((16 : Int) ≤ (k : Int)) = false := by simp; omega
  clear h hct hg
  unfold ptr
  go_enter Tryz.func110, Tryz.ntmps110
  go_upto_region 5 with fail
  go_cut [] (fun wd => BegPost P cnt lv' k c ⟨head, hb, lv', cnt, begin_, dec, over, raw, .nilIface, mem⟩ w wd)
  case first =>
    go_region_with (first | ((with_reducible refine (unhide H20).mono ?_); rintro e wx ⟨v, Gn, rfl, hs, hge, hcx, hfx⟩; (obtain ⟨t, x, hv⟩ := sk_iface hs); (obtain ⟨hr, k11, kf11, hlx⟩ := beg_fin HP.out hPC hs hge hcx hfx); (have HR := hide hr); clear hs hge hcx hfx hr; subst hv))
    all_goals go_wp2_with fail
    all_goals go_meet
    all_goals exact HR.out
  case rest =>
    go_wp2_with fail
    go_ret
    exact ⟨rfl, hcut⟩
set_option maxRecDepth 100000 in
set_option maxHeartbeats 8000000 in
theorem begun110_old (P : Nat) (p : PV) (t : TypeId) (x : Nat) (w : World) (h : PI w P p) (hn : p.now = .iface t (.pointer (some ⟨x, 0, none⟩))) : Calls Tryz.prog 110 #[ptr P] w fun e w' => e = .returned (.bool true) ∧ w = w' := by
  obtain ⟨head, hb, lv', cnt, begin_, dec, over, raw, now, mem⟩ := p
  simp only at hn
  subst hn
  have hl := h.lt
  have c11 : w.cell? ⟨P, 11, none⟩ = some (.iface t (.pointer (some ⟨x, 0, none⟩))) := cell_blk h 11
  clear h
  unfold ptr
  go_enter Tryz.func110, Tryz.ntmps110
  go_wp2_with fail
  go_ret
  exact ⟨rfl, rfl⟩
end Go.Proofs.YthmhcnnigepohaaGreatDoor.Fi

/- file: a packed in the middle of unpack. -/
namespace Go.Proofs.YthmhcnnigepohaaGreatDoor.Fi
open Go.RowKit
open If (Grows Ost PS ptr)
open En (In GRep Inflates Along mem phAt outAt inS mem_len slat_some Ph)
open Dg (HashOf Kst)
set_option linter.unusedVariables false

/-- Since world w0, where A0 was the decoder's and B0 the member's. -/
structure Mid (w0 : World) (A0 B0 : List Nat) (C lv : Nat) (c : Ch) (P Z : Nat) (S : List UInt8) (w : World) (p : PV) (A B : List Nat) (φ : Ph) (on : Option Nat) : Prop where
  pi : PI w P p
  lve : p.lv = lv
  cnt : p.cnt = C
  over : p.over = false
  beg : p.begin_ = ba []
  dec : p.dec = ptr Z
  mem : p.mem = .slice none 0 0
  grep : GRep w Z A S φ
  now : match on with
    | none => p.now = .nilIface ∧ Ct w C (lv + 1)
    | some n => Sk w C (lv + 1) c n p.now B ∧ Ct w C (lv + 1 + made c n)
  kst : Kst w
  ost : Ost w
  c1 : 1 < C
  p0 : P ≠ 0
  p1 : P ≠ 1
  pc : P ≠ C
  pa : P ∉ A
  pb : P ∉ B
  ca : C ∉ A
  cb : C ∉ B
  dj : Disj A B
  inb : In w B
  a0 : 0 ∉ A
  a1 : 1 ∉ A
  b0 : 0 ∉ B
  b1 : 1 ∉ B
  fr : Fr (P :: C :: (A0 ++ B0)) w0 w
  ga : Grows w0 A0 A
  gb : Grows w0 B0 B
section
variable {w0 w w' : World} {A0 B0 A B T : List Nat} {C lv P Z : Nat} {c : Ch} {S : List UInt8} {p : PV} {φ φ' : Ph} {on : Option Nat}
theorem Mid.base (h : Mid w0 A0 B0 C lv c P Z S w p A B φ on) (hf : Fr T w w') (hT : ∀ b ∈ T, b = P ∨ b = C ∨ b ∈ A ∨ b ∈ B) : Kst w' ∧ Ost w' ∧ Fr (P :: C :: (A0 ++ B0)) w0 w' := by
  have hc := h.c1
  refine ⟨h.kst.fr hf (fun hm => ?_), h.ost.fr hf (fun hm => ?_), h.fr.andThen hf (fun b hb => ?_)⟩
  · rcases hT 1 hm with e | e | e | e
    · exact h.p1 e.symm
    · omega
    · exact h.a1 e
    · exact h.b1 e
  · rcases hT 0 hm with e | e | e | e
    · exact h.p0 e.symm
    · omega
    · exact h.a0 e
    · exact h.b0 e
  · simp only [List.mem_cons, List.mem_append]
    rcases hT b hb with e | e | e | e
    · exact .inl (.inl e)
    · exact .inl (.inr (.inl e))
    · rcases h.ga b e with e | e
      · exact .inl (.inr (.inr (.inl e)))
      · exact .inr e
    · rcases h.gb b e with e | e
      · exact .inl (.inr (.inr (.inr e)))
      · exact .inr e
theorem gnot {w : World} {A A' : List Nat} {b : Nat} (h : Grows w A A') (hb : b < w.heap.size) (hn : b ∉ A) : b ∉ A' := En.grows_not h hb hn
theorem Mid.lts (h : Mid w0 A0 B0 C lv c P Z S w p A B φ on) : P < w.heap.size ∧ C < w.heap.size ∧ 0 < w.heap.size ∧ 1 < w.heap.size := by
  have h1 := h.kst.lt
  have h2 : C < w.heap.size := by
    have := h.now
    cases on with
    | none => exact lt_of_blk this.2
    | some n => exact lt_of_blk this.2
  exact ⟨h.pi.lt, h2, by omega, h1⟩
/-- The decoder has read on. -/
theorem Mid.fed (h : Mid w0 A0 B0 C lv c P Z S w p A B φ on) {A' : List Nat} (hf : Fr A w w') (hg : Grows w A A') (hr : GRep w' Z A' S φ') : Mid w0 A0 B0 C lv c P Z S w' p A' B φ' on := by
  obtain ⟨k1, k2, k3⟩ := h.base hf (fun b hb => .inr (.inr (.inl hb)))
  obtain ⟨l1, l2, l3, l4⟩ := h.lts
  have hs := h.fr.size
  refine ⟨h.pi.fr hf h.pa, h.lve, h.cnt, h.over, h.beg, h.dec, h.mem, hr, ?_, k1, k2, h.c1, h.p0, h.p1, h.pc, gnot hg l1 h.pa, h.pb, gnot hg l2 h.ca, h.cb, fun b hb hm => ?_, h.inb.fr hf, gnot hg l3 h.a0, gnot hg l4 h.a1, h.b0, h.b1, k3, h.ga.trans hg hs, h.gb⟩
  · have hn := h.now
    cases on with
    | none => exact ⟨hn.1, hn.2.fr hf h.ca⟩
    | some n => exact ⟨Sk.fr hf _ _ _ _ _ hn.1 (fun b hb hm => h.dj b hm hb), hn.2.fr hf h.ca⟩
  · rcases hg b hb with e | e
    · exact h.dj b e hm
    · have := h.inb b hm; omega
theorem PI.setRaw {w : World} {P : Nat} {p : PV} (h : PI w P p) (u : ByteArray) : PI (w.setCell ⟨P, 10, none⟩ (.string u)) P { p with raw := u } := by
  unfold PI at *
  rw [heap_set, h]
  rfl
theorem Mid.setRaw (h : Mid w0 A0 B0 C lv c P Z S w p A B φ on) (u : ByteArray) : Mid w0 A0 B0 C lv c P Z S (w.setCell ⟨P, 10, none⟩ (.string u)) { p with raw := u } A B φ on := by
  have hf : Fr [P] w (w.setCell ⟨P, 10, none⟩ (.string u)) := (Fr.refl [P] w).setCell (.inl (by simp)) _
  obtain ⟨k1, k2, k3⟩ := h.base hf (fun b hb => .inl (by simpa using hb))
  have hPs : ∀ {L : List Nat}, P ∉ L → ∀ b ∈ L, b ∉ [P] := fun hn b hb hm => by simp at hm; subst hm; exact hn hb
  refine ⟨h.pi.setRaw u, h.lve, h.cnt, h.over, h.beg, h.dec, h.mem, h.grep.fr hf (hPs h.pa), ?_, k1, k2, h.c1, h.p0, h.p1, h.pc, h.pa, h.pb, h.ca, h.cb, h.dj, h.inb.fr hf, h.a0, h.a1, h.b0, h.b1, k3, h.ga, h.gb⟩
  have hn := h.now
  cases on with
  | none => exact ⟨hn.1, hn.2.fr hf (by simpa using h.pc.symm)⟩
  | some n => exact ⟨Sk.fr hf _ _ _ _ _ hn.1 (hPs h.pb), hn.2.fr hf (by simpa using h.pc.symm)⟩
/-- A member has begun. -/
theorem Mid.begun (h : Mid w0 A0 B0 C lv c P Z S w p A B φ none) (hb : BegPost P C lv (lv + 1) c p w w') : ∃ v B', Mid w0 A0 B0 C lv c P Z S w' { p with now := v } A B' φ (some 0) := by
  obtain ⟨v, Gn, h1, h2, h3, h4, h5⟩ := hb
  obtain ⟨k1, k2, k3⟩ := h.base h5 (fun b hb => by simp at hb; rcases hb with e | e; exact .inr (.inl e); exact .inl e)
  obtain ⟨l1, l2, l3, l4⟩ := h.lts
  have hin := h.grep.mem.2
  have hs := h.fr.size
  have hng : ∀ b, b < w.heap.size → b ∉ Gn := fun b hb hm => by have := h3 b hm; omega
  refine ⟨v, Gn, h1, h.lve, h.cnt, h.over, h.beg, h.dec, h.mem, h.grep.fr h5 (fun b hb hm => ?_), ⟨h2, by rw [made_zero]; exact h4⟩, k1, k2, h.c1, h.p0, h.p1, h.pc, h.pa, hng P l1, h.ca, hng C l2, fun b hb => hng b (hin b hb), h2.inn, h.a0, h.a1, hng 0 l3, hng 1 l4, k3, h.ga, fun b hb => .inr (by have := h3 b hb; omega)⟩
  simp at hm
  rcases hm with rfl | rfl
  · exact h.ca hb
  · exact h.pa hb
/-- The member has taken bytes. -/
theorem Mid.wrote {n k : Nat} {e : Ending} (h : Mid w0 A0 B0 C lv c P Z S w p A B φ (some n)) (hw : WPost C (lv + 1) c n k p.now B w e w') : e = .returned (.tuple #[]) ∧ ∃ B', Mid w0 A0 B0 C lv c P Z S w' p A B' φ (some (n + k)) := by
  obtain ⟨he, B', h1, h2, h3, h4⟩ := hw
  obtain ⟨k1, k2, k3⟩ := h.base h4 (fun b hb => by rw [List.mem_cons] at hb; rcases hb with e | e; exact .inr (.inl e); exact .inr (.inr (.inr e)))
  obtain ⟨l1, l2, l3, l4⟩ := h.lts
  have hin := h.grep.mem.2
  have hs := h.fr.size
  refine ⟨he, B', h.pi.fr h4 (fun hm => ?_), h.lve, h.cnt, h.over, h.beg, h.dec, h.mem, h.grep.fr h4 (fun b hb hm => ?_), ⟨h1, h2⟩, k1, k2, h.c1, h.p0, h.p1, h.pc, h.pa, gnot h3 l1 h.pb, h.ca, gnot h3 l2 h.cb, fun b hb => gnot h3 (hin b hb) (h.dj b hb), h1.inn, h.a0, h.a1, gnot h3 l3 h.b0, gnot h3 l4 h.b1, k3, h.ga, h.gb.trans h3 hs⟩
  · rw [List.mem_cons] at hm
    rcases hm with e | e
    · exact h.pc e
    · exact h.pb e
  · rw [List.mem_cons] at hm
    rcases hm with rfl | e
    · exact h.ca hb
    · exact h.dj b hb e
/-- Blocks have been made. -/
theorem Mid.quiet (h : Mid w0 A0 B0 C lv c P Z S w p A B φ on) (hf : Fr [] w w') : Mid w0 A0 B0 C lv c P Z S w' p A B φ on := by
  obtain ⟨k1, k2, k3⟩ := h.base hf (by simp)
  refine ⟨h.pi.fr hf (by simp), h.lve, h.cnt, h.over, h.beg, h.dec, h.mem, h.grep.fr hf (by simp), ?_, k1, k2, h.c1, h.p0, h.p1, h.pc, h.pa, h.pb, h.ca, h.cb, h.dj, h.inb.fr hf, h.a0, h.a1, h.b0, h.b1, k3, h.ga, h.gb⟩
  have hn := h.now
  cases on with
  | none => exact ⟨hn.1, hn.2.fr hf (by simp)⟩
  | some n => exact ⟨Sk.fr hf _ _ _ _ _ hn.1 (fun b hb => by simp), hn.2.fr hf (by simp)⟩
/-- begun, whether or not there is a member. -/
theorem Mid.begun110 (h : Mid w0 A0 B0 C lv c P Z S w p A B φ on) (hg : c.Good (lv + 1)) :
    Calls Tryz.prog 110 #[ptr P] w fun e w' => e = .returned (.bool true) ∧ ∃ v B', Mid w0 A0 B0 C lv c P Z S w' { p with now := v } A B' φ (some (on.getD 0)) := by
  have hlv := hg.lv
  cases on with
  | none =>
    refine (begun110_new P C lv (lv + 1) c p w h.pi h.now.1 h.lve h.cnt h.now.2 (by omega) hg h.pc).mono ?_
    rintro e w' ⟨rfl, hb⟩
    exact ⟨rfl, h.begun hb⟩
  | some n =>
    obtain ⟨t, x, hv⟩ := sk_iface h.now.1
    refine (begun110_old P p t x w h.pi hv).mono ?_
    rintro e w' ⟨rfl, rfl⟩
    exact ⟨rfl, p.now, B, h⟩
end
end Go.Proofs.YthmhcnnigepohaaGreatDoor.Fi
