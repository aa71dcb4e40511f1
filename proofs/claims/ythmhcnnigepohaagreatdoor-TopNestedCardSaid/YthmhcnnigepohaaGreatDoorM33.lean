/- gzip.Decoder: its block; New, begin, skip, next. -/
import Derived.Test.YthmhcnnigepohaaGreatDoorM32
import Derived.Test.YthmhcnnigepohaaGreatDoorM20
namespace Go.Proofs.YthmhcnnigepohaaGreatDoor.En
open Go.RowKit
open If (Grows ORD Ost)
set_option linter.unusedVariables false

structure GV where
  part : Int
  count : Int
  flags : Int
  extra : Int
  sum : Int
  check : Int
  name : Value
  out : Int
  data : Value
  crc : Int
  size : Int
  trl : ByteArray
  within : Bool
  names : Value
  sizes : Value
def GC (g : GV) : Array Value := #[.int .i64 g.part, .int .i64 g.count, .int .i64 g.flags, .int .i64 g.extra, .int .u32 g.sum, .int .i64 g.check, g.name, .int .i64 g.out, .int .i64 1100, g.data, .int .u32 g.crc, .int .i64 g.size, .string g.trl, .bool g.within, .bool false, g.names, g.sizes]
def GI (w : World) (Z : Nat) (g : GV) : Prop := w.heap[Z]? = some (.cells (GC g) 175 (0, 0))
theorem GI.lt {w : World} {Z : Nat} {g : GV} (h : GI w Z g) : Z < w.heap.size := lt_of_blk h
theorem GI.fr {w w' : World} {S : List Nat} {Z : Nat} {g : GV} (h : GI w Z g) (hf : Fr S w w') (hn : Z ∉ S) : GI w' Z g := (hf.block Z h.lt hn).trans h
def gv0 : GV := ⟨0, 0, 0, 0, 0, 0, .slice none 0 0, 65536, .pointer none, 0, 0, ⟨#[]⟩, false, .slice none 0 0, .slice none 0 0⟩
def GNewPost (w : World) (e : Ending) (w' : World) : Prop := ∃ Z, e = .returned (.pointer (some ⟨Z, 0, none⟩)) ∧ w.heap.size ≤ Z ∧ GI w' Z gv0 ∧ Fr [] w w'
set_option maxRecDepth 100000 in
set_option maxHeartbeats 4000000 in
theorem gnew106_any (w : World) : Calls Tryz.prog 106 #[.agg #[.int .i64 65536, .int .i64 1100]] w (GNewPost w) := by
  go_enter Tryz.func106, Tryz.ntmps106
  go_wp2_with fail
  go_ret
  refine ⟨w.heap.size + 1, rfl, by omega, ?_, ((Fr.refl _ _).alloc _).alloc _⟩
  unfold GI
  rw [heap_alloc_eq (by simp)]
  rfl
set_option maxRecDepth 100000 in
set_option maxHeartbeats 4000000 in
/-- skip, at the parts from which it is called. -/
theorem skip128_any (Z : Nat) (g : GV) (p q : Nat) (w : World) (h : GI w Z g) (hp : g.part = p) (hpq : (p = 1 ∧ q = 1) ∨ (p = 2 ∧ q = 2) ∨ (p = 3 ∧ q = 5) ∨ (p = 6 ∧ q = 8)) (hf : 3 ≤ p → g.flags = 8 ∧ g.extra = 0) :
    Calls Tryz.prog 128 #[.pointer (some ⟨Z, 0, none⟩)] w fun e w' => e = .returned (.tuple #[]) ∧ GI w' Z { g with part := q } ∧ Fr [Z] w w' := by
  have HH := hide h
  have HP := hide hp
  have HQ := hide hpq
  have HFL := hide hf
  clear h hp hpq hf
  go_enter Tryz.func128, Tryz.ntmps128
  go_wp2_with fail
  go_loopg [] 9 (fun gk wr => ∃ k : Nat, gk = 9 + p - k ∧ p ≤ k ∧ k ≤ q ∧ GI wr Z { g with part := k } ∧ Fr [Z] w wr)
  case atStart =>
    refine ⟨p, by omega, Nat.le_refl _, by have := HQ.out; omega, ?_, Fr.refl _ _⟩
    have h := HH.out
    rw [← HP.out]
    exact h
  case round =>
    obtain ⟨k, hgk, h1, h2, hi, hfr⟩ := hrel
    have HGK := hide hgk
    have HI := hide hi
    have HFR := hide hfr
    have hk : k = 1 ∧ q = 1 ∨ k = 2 ∧ q = 2 ∨ k = 3 ∧ q = 5 ∨ k = 4 ∧ q = 5 ∨ k = 5 ∧ q = 5 ∨ k = 6 ∧ q = 8 ∨ k = 7 ∧ q = 8 ∨ k = 8 ∧ q = 8 := by have := HQ.out; omega
    have hk3 : 3 ≤ k → g.flags = 8 ∧ g.extra = 0 := fun h => HFL.out (by have := HQ.out; omega)
    have hl := hi.lt
    have HN : Hid (k < q → GI (wr.setCell ⟨Z, 0, none⟩ (.int .i64 ((k : Int) + 1))) Z { g with part := ((k + 1 : Nat) : Int) } ∧ Fr [Z] w (wr.setCell ⟨Z, 0, none⟩ (.int .i64 ((k : Int) + 1)))) := by
      refine hide fun _ => ⟨?_, HFR.out.setCell (.inl (by simp)) _⟩
      unfold GI
      rw [heap_set, HI.out]
      rfl
    obtain ⟨part, count, flags, extra, sum, check, name, out, data, crc, size, trl, within, names, sizes⟩ := g
    simp only at hi hk3
    have c0 : wr.cell? ⟨Z, 0, none⟩ = some (.int .i64 (k : Int)) := cell_blk hi 0
    have cf0 : wr.frozen? ⟨Z, 0, none⟩ = false := froz_blk hi 0
    have c2 : wr.cell? ⟨Z, 2, none⟩ = some (.int .i64 flags) := cell_blk hi 2
    have cf2 : wr.frozen? ⟨Z, 2, none⟩ = false := froz_blk hi 2
    have c3 : wr.cell? ⟨Z, 3, none⟩ = some (.int .i64 extra) := cell_blk hi 3
    have cf3 : wr.frozen? ⟨Z, 3, none⟩ = false := froz_blk hi 3
    have HP2 : Hid (p ≤ k ∧ k ≤ q) := hide ⟨h1, h2⟩
    clear hi hgk hfr h1 h2
    rcases hk with ⟨rfl, rfl⟩ | ⟨rfl, rfl⟩ | ⟨rfl, rfl⟩ | ⟨rfl, rfl⟩ | ⟨rfl, rfl⟩ | ⟨rfl, rfl⟩ | ⟨rfl, rfl⟩ | ⟨rfl, rfl⟩
    · clear hk3
      go_wp2_with fail
      refine bodyPost_ret (results_none rfl _ _ _) rfl ?_
      exact ⟨rfl, HI.out, HFR.out⟩
    · clear hk3
      go_wp2_with fail
      refine bodyPost_ret (results_none rfl _ _ _) rfl ?_
      exact ⟨rfl, HI.out, HFR.out⟩
    · obtain ⟨rfl, rfl⟩ := hk3 (by omega)
      clear hk3
      go_wp2_with fail
      go_roundg (9 + p - (3 + 1))
      case measure => have := HGK.out; have := HP2.out; omega
      case rel => exact ⟨3 + 1, rfl, by have := HP2.out; omega, by omega, (HN.out (by omega)).1, (HN.out (by omega)).2⟩
    · obtain ⟨rfl, rfl⟩ := hk3 (by omega)
      clear hk3
      go_wp2_with fail
      go_roundg (9 + p - (4 + 1))
      case measure => have := HGK.out; have := HP2.out; omega
      case rel => exact ⟨4 + 1, rfl, by have := HP2.out; omega, by omega, (HN.out (by omega)).1, (HN.out (by omega)).2⟩
    · obtain ⟨rfl, rfl⟩ := hk3 (by omega)
      clear hk3
      go_wp2_with fail
      refine bodyPost_ret (results_none rfl _ _ _) rfl ?_
      exact ⟨rfl, HI.out, HFR.out⟩
    · obtain ⟨rfl, rfl⟩ := hk3 (by omega)
      clear hk3
      go_wp2_with fail
      go_roundg (9 + p - (6 + 1))
      case measure => have := HGK.out; have := HP2.out; omega
      case rel => exact ⟨6 + 1, rfl, by have := HP2.out; omega, by omega, (HN.out (by omega)).1, (HN.out (by omega)).2⟩
    · obtain ⟨rfl, rfl⟩ := hk3 (by omega)
      clear hk3
      go_wp2_with fail
      go_roundg (9 + p - (7 + 1))
      case measure => have := HGK.out; have := HP2.out; omega
      case rel => exact ⟨7 + 1, rfl, by have := HP2.out; omega, by omega, (HN.out (by omega)).1, (HN.out (by omega)).2⟩
    · obtain ⟨rfl, rfl⟩ := hk3 (by omega)
      clear hk3
      go_wp2_with fail
      refine bodyPost_ret (results_none rfl _ _ _) rfl ?_
      exact ⟨rfl, HI.out, HFR.out⟩
set_option maxRecDepth 100000 in
set_option maxHeartbeats 4000000 in
theorem begin114_any (Z : Nat) (g : GV) (w : World) (h : GI w Z g) (hn : g.names = .slice none 0 0) : Calls Tryz.prog 114 #[.pointer (some ⟨Z, 0, none⟩), .int .u8 31] w fun e w' => e = .returned (.int .i64 0) ∧ GI w' Z { g with part := 0, count := 0, flags := 0, extra := 0, sum := 0, check := 0, name := .slice none 0 0, within := true } ∧ Fr [Z] w w' := by
  obtain ⟨part, count, flags, extra, sum, check, name, out, data, crc, size, trl, within, names, sizes⟩ := g
  simp only at hn
  have hx : ((31 : Int) != (((⟨#[31, 139, 8]⟩ : ByteArray)[0]'(by decide)).toNat : Int)) = false := by decide
  have HH := hide h
  have hl := h.lt
  have c0 : w.cell? ⟨Z, 0, none⟩ = some (.int .i64 part) := cell_blk h 0
  have cf0 : w.frozen? ⟨Z, 0, none⟩ = false := froz_blk h 0
  have c1 : w.cell? ⟨Z, 1, none⟩ = some (.int .i64 count) := cell_blk h 1
  have cf1 : w.frozen? ⟨Z, 1, none⟩ = false := froz_blk h 1
  have c2 : w.cell? ⟨Z, 2, none⟩ = some (.int .i64 flags) := cell_blk h 2
  have cf2 : w.frozen? ⟨Z, 2, none⟩ = false := froz_blk h 2
  have c3 : w.cell? ⟨Z, 3, none⟩ = some (.int .i64 extra) := cell_blk h 3
  have cf3 : w.frozen? ⟨Z, 3, none⟩ = false := froz_blk h 3
  have c4 : w.cell? ⟨Z, 4, none⟩ = some (.int .u32 sum) := cell_blk h 4
  have cf4 : w.frozen? ⟨Z, 4, none⟩ = false := froz_blk h 4
  have c5 : w.cell? ⟨Z, 5, none⟩ = some (.int .i64 check) := cell_blk h 5
  have cf5 : w.frozen? ⟨Z, 5, none⟩ = false := froz_blk h 5
  have c6 : w.cell? ⟨Z, 6, none⟩ = some (name) := cell_blk h 6
  have cf6 : w.frozen? ⟨Z, 6, none⟩ = false := froz_blk h 6
  have c13 : w.cell? ⟨Z, 13, none⟩ = some (.bool within) := cell_blk h 13
  have cf13 : w.frozen? ⟨Z, 13, none⟩ = false := froz_blk h 13
  have c15 : w.cell? ⟨Z, 15, none⟩ = some (names) := cell_blk h 15
  have cf15 : w.frozen? ⟨Z, 15, none⟩ = false := froz_blk h 15
  rw [hn] at c15
  clear h hn
  go_enter Tryz.func114, Tryz.ntmps114
  go_wp2_with fail
  go_ret
  refine ⟨rfl, ?_, ((((((((Fr.refl [Z] w).setCell (.inl (by simp)) _).setCell (.inl (by simp)) _).setCell (.inl (by simp)) _).setCell (.inl (by simp)) _).setCell (.inl (by simp)) _).setCell (.inl (by simp)) _).setCell (.inl (by simp)) _).setCell (.inl (by simp)) _⟩
  unfold GI
  rw [heap_set, heap_set, heap_set, heap_set, heap_set, heap_set, heap_set, heap_set, HH.out]
  rfl
end Go.Proofs.YthmhcnnigepohaaGreatDoor.En
