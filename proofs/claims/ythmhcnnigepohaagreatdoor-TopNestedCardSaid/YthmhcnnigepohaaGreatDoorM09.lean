/- slices.Backward over a slice of numbers: the iterator's contract. -/
import Derived.Test.YthmhcnnigepohaaGreatDoorM08
import Derived.RangeFuncNested
import Derived.RangeFuncBound
import Derived.RangeFuncCalls
import Derived.RangeFuncLeaves
import Derived.RangeFuncBox
import Derived.Shelf.Abstract
import Derived.Shelf.RegionOpen
import Derived.WalkKit
import Derived.OwnWalkIn
import Derived.TacticsInMore
import Derived.LoopNIn
import Derived.LoopIn
import Derived.IntWalk
namespace Go.Proofs.YthmhcnnigepohaaGreatDoor.En
open Go.RowKit Go.Shelf
attribute [local go_sem] Oper.semAt_some
set_option linter.unusedVariables false

/-- What is handed to a round: the index and the number, of which P is known. -/
abbrev Bk (P : Nat → Prop) := { x : Nat × Nat // P x.2 }
def bkE {P : Nat → Prop} (x : Bk P) : Array Value := #[.int .i64 (x.1.1 : Int), .int .i64 (x.1.2 : Int)]
def bkAt {P : Nat → Prop} (L : List Nat) (h0 : 0 < L.length) (hP : ∀ i, i < L.length → P (L.getD i 0)) (j : Nat) : Bk P := ⟨(L.length - 1 - j, L.getD (L.length - 1 - j) 0), hP _ (by omega)⟩
/-- What a round keeps: what lay below n₀, and the iterator's own box. -/
def BKp (n₀ Bs : Nat) (W W' : World) : Prop := Below n₀ W W' ∧ W'.heap[Bs]? = W.heap[Bs]?
theorem BKp.refl (n₀ Bs : Nat) (W : World) : BKp n₀ Bs W W := ⟨Below.refl _ _, rfl⟩
theorem BKp.trans {n₀ Bs : Nat} {A B C : World} (h : BKp n₀ Bs A B) (k : BKp n₀ Bs B C) : BKp n₀ Bs A C := ⟨h.1.trans k.1, k.2.trans h.2⟩
theorem BKp.box {n₀ Bs : Nat} {A B : World} (h : BKp n₀ Bs A B) : B.cell? ⟨Bs, 0, none⟩ = A.cell? ⟨Bs, 0, none⟩ := World.cell?_of_block h.2
def upto {α : Type} (f : Nat → α) (k : Nat) : List α := (List.range k).map f
theorem upto_succ {α : Type} (f : Nat → α) (k : Nat) : upto f (k + 1) = upto f k ++ [f k] := by simp [upto, List.range_succ]
theorem upto_length {α : Type} (f : Nat → α) (k : Nat) : (upto f k).length = k := by simp [upto]

set_option maxRecDepth 100000 in
set_option maxHeartbeats 2000000 in
theorem back76_in (F : Fence) (n : Nat) (h7 : F.fn 76) (hro : F.round = none) (hn : 1 ≤ n) (P : Nat → Prop) (L : List Nat) (hL0 : 0 < L.length) (hP : ∀ i, i < L.length → P (L.getD i 0)) (l Bs n₀ b off cap len : Nat) (hlen : len = L.length) (hreach : len ≤ 1000000) (hb : b < n₀) (J Jx : List (Bk P) → World → Prop)
    (hY : ∀ pre x W, J pre W → pre.length < len → YieldAt F (n - 1) Tryz.prog l (bkE x) W fun e W' =>
      (e = .returned (.bool true) ∧ J (pre ++ [x]) W' ∧ BKp n₀ Bs W W') ∨ (e = .returned (.bool false) ∧ Jx (pre ++ [x]) W'))
    (W : World) (hBs : W.cell? ⟨Bs, 0, none⟩ = some (.slice (some ⟨b, off, none⟩) len cap)) (hc : ∀ j, j < len → W.cell? ⟨b, off + j, none⟩ = some (.int .i64 (L.getD j 0 : Nat))) (h0 : J [] W) :
    CallsIn F n Tryz.prog 76 #[.func (.yield l) #[] #[], .pointer (some ⟨Bs, 0, none⟩)] W fun e W' => (∃ v, e = .returned v) ∧
      ((∃ ys, True ∧ J ys W') ∨ (∃ pre, True ∧ Jx pre W')) := by
  have HL : RowKit.Hid (len = L.length) := hlen
  clear hlen
  refine callsIn_of_wp Tryz.func76 rfl h7 ?_ hro
  simp only [Tryz.ntmps76, List.size_toArray, List.length_cons, List.length_nil, Nat.reduceAdd, Nat.reduceSub, Array.replicate_succ, Array.replicate_zero, List.push_toArray, List.append_toArray, List.nil_append, List.cons_append]
  have z0 : IntKind.i64.wrap ((len : Int) - 1) = (len : Int) - 1 := IntWalk.i64_in _ (by omega)
  gi_wp2
  gi_loopw [3] (fun i wr => ∃ k : Nat, k ≤ len ∧ i = .int .i64 ((len : Int) - 1 - k) ∧ J (upto (bkAt L hL0 hP) k) wr ∧ BKp n₀ Bs W wr)
    (fun i _ => (intOf i + 1).toNat)
  case atStart => exact ⟨0, Nat.zero_le _, by simp, h0, BKp.refl _ _ _⟩
  case round =>
    obtain ⟨k, hk, rfl, hJs, hnx⟩ := hrel
    have hbs := hnx.box.trans hBs
    by_cases hlt : k < len
    · obtain ⟨q, hq⟩ : ∃ q, q + 1 + k = len := ⟨len - 1 - k, by omega⟩
      have hcast : (len : Int) - 1 - (k : Int) = (q : Int) := by omega
      have hcq : wr.cell? ⟨b, off + q, none⟩ = some (.int .i64 (L.getD q 0 : Nat)) := (hnx.1.cell (p := ⟨b, off + q, none⟩) hb).trans (hc q (by omega))
      obtain ⟨fn, tmps, assign, body, hy, hR⟩ := hY _ (bkAt L hL0 hP k) wr hJs (by rw [upto_length]; exact hlt)
      have hx : bkE (bkAt L hL0 hP k) = #[.int .i64 (q : Int), .int .i64 ((L.getD q 0 : Nat) : Int)] := by
        have e : L.length - 1 - k = q := by rw [← HL.out]; omega
        simp only [bkE, bkAt, e]
      rw [hx] at hy
      rw [hcast]
      obtain ⟨z, hz⟩ : ∃ z, z = L.getD q 0 := ⟨_, rfl⟩
      rw [← hz] at hcq hy
      have hql : (q : Int) < (len : Int) := by omega
      have hql2 : q < len := by omega
      have z1 : IntKind.i64.wrap ((q : Int) - 1) = (q : Int) - 1 := IntWalk.i64_in _ (by omega)
      have HQ : RowKit.Hid (q + 1 + k = len) := hq
      clear hx hcast hz hq
      gi_wp2
      refine hR.mono ?_
      rintro e W3 (⟨rfl, hJ3, hk3⟩ | ⟨rfl, hJx3⟩)
      · gi_wp2
        go_roundw
        case rel =>
          refine ⟨k + 1, by omega, ?_, by rw [upto_succ]; exact hJ3, hnx.trans hk3⟩
          have := HQ.out
          congr 1
          omega
        case measure => simp [intOf]
      · gi_wp2
        refine bodyPost_ret (results_none rfl _ _ _) rfl ?_
        exact ⟨⟨_, rfl⟩, .inr ⟨_, trivial, hJx3⟩⟩
    · obtain rfl : k = len := by omega
      gi_wp2
      go_end0
      exact ⟨⟨_, rfl⟩, .inl ⟨_, trivial, hJs⟩⟩

set_option maxRecDepth 100000 in
set_option maxHeartbeats 1000000 in
theorem back76_nil (F : Fence) (n : Nat) (h7 : F.fn 76) (hro : F.round = none) (P : Nat → Prop) (l Bs : Nat) (a : Option Addr) (cap : Nat) (J : List (Bk P) → World → Prop) (W : World) (hBs : W.cell? ⟨Bs, 0, none⟩ = some (.slice a 0 cap)) (h0 : J [] W) :
    CallsIn F n Tryz.prog 76 #[.func (.yield l) #[] #[], .pointer (some ⟨Bs, 0, none⟩)] W fun e W' => (∃ v, e = .returned v) ∧ J [] W' := by
  refine callsIn_of_wp Tryz.func76 rfl h7 ?_ hro
  simp only [Tryz.ntmps76, List.size_toArray, List.length_cons, List.length_nil, Nat.reduceAdd, Nat.reduceSub, Array.replicate_succ, Array.replicate_zero, List.push_toArray, List.append_toArray, List.nil_append, List.cons_append]
  gi_wp2
  gi_loopw [3] (fun i wr => i = .int .i64 (-1) ∧ J [] wr) (fun _ _ => 0)
  case atStart => exact ⟨rfl, h0⟩
  case round =>
    obtain ⟨rfl, hJs⟩ := hrel
    gi_wp2
    go_end0
    exact ⟨⟨_, rfl⟩, hJs⟩

set_option maxHeartbeats 1000000 in
theorem back68_in (F : Fence) (n : Nat) (h5 : F.fn 68) (hro : F.round = none) (a : Option Addr) (len cap : Nat) (w : World) :
    CallsIn F n Tryz.prog 68 #[.slice a len cap] w fun e w' => e = .returned (.func (.func 76) #[] #[.pointer (some ⟨w.heap.size, 0, none⟩)]) ∧ w' = w.alloc (.cells #[.slice a len cap] 77) := by
  refine callsIn_of_wp Tryz.func68 rfl h5 ?_ hro
  simp only [Tryz.ntmps68, List.size_toArray, List.length_cons, List.length_nil, Nat.reduceAdd, Nat.reduceSub, Array.replicate_succ, Array.replicate_zero, List.push_toArray, List.append_toArray, List.nil_append, List.cons_append]
  gi_wp2
  go_ret
  exact ⟨rfl, rfl⟩

/-- The numbers L lie in a block below n₀; or there are none. -/
def BkL (n₀ : Nat) (W : World) (sv : Value) (L : List Nat) : Prop :=
  ∃ a cap, sv = .slice a L.length cap ∧ (0 < L.length → ∃ b off, a = some ⟨b, off, none⟩ ∧ b < n₀ ∧ ∀ j, j < L.length → W.cell? ⟨b, off + j, none⟩ = some (.int .i64 (L.getD j 0 : Nat)))
theorem back_stops (F : Fence) (n : Nat) (h7 : F.fn 76) (hro : F.round = none) (hn : 1 ≤ n) (P : Nat → Prop) (Bs n₀ : Nat) (sv : Value) (L : List Nat) (hP : ∀ i, i < L.length → P (L.getD i 0)) (hreach : L.length ≤ 1000000) (w : World) (hBs : Bs < w.heap.size) (hn₀ : n₀ ≤ w.heap.size)
    (hc : w.cell? ⟨Bs, 0, none⟩ = some sv) (hI : BkL n₀ w sv L) :
    SeqStopsK F n Tryz.prog 76 #[.pointer (some ⟨Bs, 0, none⟩)] (bkE (P := P)) (BKp n₀ Bs) (fun _ => True) (fun _ => True) L.length w := fun l J Jx W hW _ _ hY h0 => by
  have hW0 := hW.mono hn₀
  have hc' := (hW.cell (p := ⟨Bs, 0, none⟩) hBs).trans hc
  obtain ⟨a, cap, rfl, h2⟩ := hI
  by_cases hL : 0 < L.length
  · obtain ⟨b, off, rfl, hb, hcs⟩ := h2 hL
    exact back76_in F n h7 hro hn P L hL hP l Bs n₀ b off cap L.length rfl hreach hb J Jx hY W hc' (fun j hj => (hW0.cell (p := ⟨b, off + j, none⟩) hb).trans (hcs j hj)) h0
  · have e : L.length = 0 := by omega
    rw [e] at hc'
    exact (back76_nil F n h7 hro P l Bs a cap J W hc' h0).mono fun e W' ⟨he, hj⟩ => ⟨he, .inl ⟨_, trivial, hj⟩⟩
end Go.Proofs.YthmhcnnigepohaaGreatDoor.En
