/- An argument of type []Event, opened: each element's cells are those of an Ev. -/
import Derived.Test.YtnghfmefjjkgdaaLaw
import Derived.ProofKit
import Derived.Carry
namespace Go.Proofs.Ytnghfmefjjkgdaa
open Go.ChangeShapes Go.WideShapes Go.RowKit

theorem cons_of_len {α : Type} {l : List α} {n : Nat} (h : l.length = n + 1) : ∃ a r, l = a :: r ∧ r.length = n := by
  cases l with
  | nil => cases h
  | cons a r => exact ⟨a, r, rfl, by simpa using h⟩

section
variable {H : Type} {enc : TypeId × Value → H} {P : Program} {w : World} {base : Nat} {spare : Nat → Bool} {held : Bool}
theorem trod_field {t : TypeId} {fuel : Nat} {cs : List Value} {x : DataW H × List MemPlace} {fs : Array Field} (ht : P.underlying t = some (.struct fs)) (h : DataW.trod enc P w base spare held fuel t cs = some x) :
    cs.length = P.cellsOf t ∧ ∃ n, ∀ (i : Nat) (f : Field), fs[i]? = some f → ∃ y, DataW.trod enc P w base spare held n f.type ((cs.drop f.offset).take (P.cellsOf f.type)) = some y := by
  obtain ⟨xs, n, _, _, hl, hxl, hf⟩ := DataW.trod_struct ht h
  refine ⟨hl, n, fun i f hi => ?_⟩
  have hlt : i < fs.size := (Array.getElem?_eq_some_iff.1 hi).1
  have h1 := hf i f hi
  rw [List.getElem?_eq_getElem (by omega)] at h1
  exact ⟨_, h1⟩
end

section
variable {H : Type} {enc : TypeId × Value → H} {w : World} {base : Nat} {spare : Nat → Bool} {held : Bool}
theorem cells3 : Try.prog.cellsOf 3 = 1 := by kernel_rfl
theorem cells4 : Try.prog.cellsOf 4 = 1 := by kernel_rfl
theorem cells9 : Try.prog.cellsOf 9 = 1 := by kernel_rfl
theorem cells31 : Try.prog.cellsOf 31 = 1 := by kernel_rfl
theorem cells33 : Try.prog.cellsOf 33 = 3 := by kernel_rfl
theorem cells35 : Try.prog.cellsOf 35 = 9 := by kernel_rfl
theorem cells37 : Try.prog.cellsOf 37 = 21 := by kernel_rfl
theorem cells39 : Try.prog.cellsOf 39 = 11 := by kernel_rfl
theorem cells41 : Try.prog.cellsOf 41 = 34 := by kernel_rfl
theorem one_int {n : Nat} {c : Value} (h : ∃ y, DataW.trod enc Try.prog w base spare held n 3 [c] = some y) : ∃ k, c = .int .i64 k := by
  obtain ⟨y, h⟩ := h
  obtain ⟨k, h1, _⟩ := DataW.trod_int Try.underlying3 h
  exact ⟨k, by simpa using h1⟩
theorem one_u64 {n : Nat} {c : Value} (h : ∃ y, DataW.trod enc Try.prog w base spare held n 31 [c] = some y) : ∃ k, c = .int .u64 k := by
  obtain ⟨y, h⟩ := h
  obtain ⟨k, h1, _⟩ := DataW.trod_int Try.underlying31 h
  exact ⟨k, by simpa using h1⟩
theorem one_bool {n : Nat} {c : Value} (h : ∃ y, DataW.trod enc Try.prog w base spare held n 4 [c] = some y) : ∃ k, c = .bool k := by
  obtain ⟨y, h⟩ := h
  obtain ⟨k, h1, _⟩ := DataW.trod_bool Try.underlying4 h
  exact ⟨k, by simpa using h1⟩
theorem one_str {n : Nat} {c : Value} (h : ∃ y, DataW.trod enc Try.prog w base spare held n 9 [c] = some y) : ∃ k, c = .string k := by
  obtain ⟨y, h⟩ := h
  obtain ⟨k, h1, _⟩ := DataW.trod_string Try.underlying9 h
  exact ⟨k, by simpa using h1⟩

theorem open33 {fuel : Nat} {cs : List Value} (h : ∃ y, DataW.trod enc Try.prog w base spare held fuel 33 cs = some y) : ∃ a b c, cs = [.bool a, .int .u64 b, .int .u64 c] := by
  obtain ⟨y, h⟩ := h
  obtain ⟨hl, n, hf⟩ := trod_field Try.underlying33 h
  rw [cells33] at hl
  obtain ⟨c0, r0, rfl, hl0⟩ := cons_of_len hl
  obtain ⟨c1, r1, rfl, hl1⟩ := cons_of_len hl0
  obtain ⟨c2, r2, rfl, hl2⟩ := cons_of_len hl1
  obtain rfl : r2 = [] := by simpa using hl2
  have g0 : ∃ y, DataW.trod enc Try.prog w base spare held n 4 [c0] = some y := by
    have g : ∃ y, DataW.trod enc Try.prog w base spare held n 4 (([c0, c1, c2].drop 0).take (Try.prog.cellsOf 4)) = some y := hf 0 _ rfl
    rw [cells4] at g
    exact g
  have g1 : ∃ y, DataW.trod enc Try.prog w base spare held n 31 [c1] = some y := by
    have g : ∃ y, DataW.trod enc Try.prog w base spare held n 31 (([c0, c1, c2].drop 1).take (Try.prog.cellsOf 31)) = some y := hf 1 _ rfl
    rw [cells31] at g
    exact g
  have g2 : ∃ y, DataW.trod enc Try.prog w base spare held n 31 [c2] = some y := by
    have g : ∃ y, DataW.trod enc Try.prog w base spare held n 31 (([c0, c1, c2].drop 2).take (Try.prog.cellsOf 31)) = some y := hf 2 _ rfl
    rw [cells31] at g
    exact g
  obtain ⟨a, rfl⟩ := one_bool g0
  obtain ⟨b, rfl⟩ := one_u64 g1
  obtain ⟨c, rfl⟩ := one_u64 g2
  exact ⟨a, b, c, rfl⟩

theorem open35 {fuel : Nat} {cs : List Value} (h : ∃ y, DataW.trod enc Try.prog w base spare held fuel 35 cs = some y) : ∃ p a1 b1 c1 a b c x y, cs = [.int .i64 p, .bool a1, .int .u64 b1, .int .u64 c1, .bool a, .int .u64 b, .int .u64 c, .int .i64 x, .int .i64 y] := by
  obtain ⟨y, h⟩ := h
  obtain ⟨hl, n, hf⟩ := trod_field Try.underlying35 h
  rw [cells35] at hl
  obtain ⟨c0, r0, rfl, hl0⟩ := cons_of_len hl
  obtain ⟨c1, r1, rfl, hl1⟩ := cons_of_len hl0
  obtain ⟨c2, r2, rfl, hl2⟩ := cons_of_len hl1
  obtain ⟨c3, r3, rfl, hl3⟩ := cons_of_len hl2
  obtain ⟨c4, r4, rfl, hl4⟩ := cons_of_len hl3
  obtain ⟨c5, r5, rfl, hl5⟩ := cons_of_len hl4
  obtain ⟨c6, r6, rfl, hl6⟩ := cons_of_len hl5
  obtain ⟨c7, r7, rfl, hl7⟩ := cons_of_len hl6
  obtain ⟨c8, r8, rfl, hl8⟩ := cons_of_len hl7
  obtain rfl : r8 = [] := by simpa using hl8
  have g0 : ∃ y, DataW.trod enc Try.prog w base spare held n 3 [c0] = some y := by
    have g : ∃ y, DataW.trod enc Try.prog w base spare held n 3 (([c0, c1, c2, c3, c4, c5, c6, c7, c8].drop 0).take (Try.prog.cellsOf 3)) = some y := hf 0 _ rfl
    rw [cells3] at g
    exact g
  have g1 : ∃ y, DataW.trod enc Try.prog w base spare held n 33 [c1, c2, c3] = some y := by
    have g : ∃ y, DataW.trod enc Try.prog w base spare held n 33 (([c0, c1, c2, c3, c4, c5, c6, c7, c8].drop 1).take (Try.prog.cellsOf 33)) = some y := hf 1 _ rfl
    rw [cells33] at g
    exact g
  have g2 : ∃ y, DataW.trod enc Try.prog w base spare held n 33 [c4, c5, c6] = some y := by
    have g : ∃ y, DataW.trod enc Try.prog w base spare held n 33 (([c0, c1, c2, c3, c4, c5, c6, c7, c8].drop 4).take (Try.prog.cellsOf 33)) = some y := hf 2 _ rfl
    rw [cells33] at g
    exact g
  have g3 : ∃ y, DataW.trod enc Try.prog w base spare held n 3 [c7] = some y := by
    have g : ∃ y, DataW.trod enc Try.prog w base spare held n 3 (([c0, c1, c2, c3, c4, c5, c6, c7, c8].drop 7).take (Try.prog.cellsOf 3)) = some y := hf 3 _ rfl
    rw [cells3] at g
    exact g
  have g4 : ∃ y, DataW.trod enc Try.prog w base spare held n 3 [c8] = some y := by
    have g : ∃ y, DataW.trod enc Try.prog w base spare held n 3 (([c0, c1, c2, c3, c4, c5, c6, c7, c8].drop 8).take (Try.prog.cellsOf 3)) = some y := hf 4 _ rfl
    rw [cells3] at g
    exact g
  obtain ⟨p, rfl⟩ := one_int g0
  obtain ⟨a1, b1, c1, hh1⟩ := open33 g1
  obtain ⟨a, b, c, hh⟩ := open33 g2
  obtain ⟨x, rfl⟩ := one_int g3
  obtain ⟨y, rfl⟩ := one_int g4
  simp only [List.cons.injEq, and_true] at hh hh1
  obtain ⟨rfl, rfl, rfl⟩ := hh
  obtain ⟨rfl, rfl, rfl⟩ := hh1
  exact ⟨_, _, _, _, _, _, _, _, _, rfl⟩

def Al.One (a : Al) : Prop := a.cells.toList.all (·.oneCell') = true
def Ca.One (a : Ca) : Prop := a.cells.toList.all (·.oneCell') = true
def Ev.One (e : Ev) : Prop := e.al.One ∧ e.ca.One

theorem open37 {fuel : Nat} {cs : List Value} (h : ∃ y, DataW.trod enc Try.prog w base spare held fuel 37 cs = some y) : ∃ al : Al, cs = al.cells.toList ∧ al.One := by
  obtain ⟨y, h⟩ := h
  obtain ⟨hl, n, hf⟩ := trod_field Try.underlying37 h
  rw [cells37] at hl
  obtain ⟨c0, r0, rfl, hl0⟩ := cons_of_len hl
  obtain ⟨c1, r1, rfl, hl1⟩ := cons_of_len hl0
  obtain ⟨c2, r2, rfl, hl2⟩ := cons_of_len hl1
  obtain ⟨c3, r3, rfl, hl3⟩ := cons_of_len hl2
  obtain ⟨c4, r4, rfl, hl4⟩ := cons_of_len hl3
  obtain ⟨c5, r5, rfl, hl5⟩ := cons_of_len hl4
  obtain ⟨c6, r6, rfl, hl6⟩ := cons_of_len hl5
  obtain ⟨c7, r7, rfl, hl7⟩ := cons_of_len hl6
  obtain ⟨c8, r8, rfl, hl8⟩ := cons_of_len hl7
  obtain ⟨c9, r9, rfl, hl9⟩ := cons_of_len hl8
  obtain ⟨c10, r10, rfl, hl10⟩ := cons_of_len hl9
  obtain ⟨c11, r11, rfl, hl11⟩ := cons_of_len hl10
  obtain ⟨c12, r12, rfl, hl12⟩ := cons_of_len hl11
  obtain ⟨c13, r13, rfl, hl13⟩ := cons_of_len hl12
  obtain ⟨c14, r14, rfl, hl14⟩ := cons_of_len hl13
  obtain ⟨c15, r15, rfl, hl15⟩ := cons_of_len hl14
  obtain ⟨c16, r16, rfl, hl16⟩ := cons_of_len hl15
  obtain ⟨c17, r17, rfl, hl17⟩ := cons_of_len hl16
  obtain ⟨c18, r18, rfl, hl18⟩ := cons_of_len hl17
  obtain ⟨c19, r19, rfl, hl19⟩ := cons_of_len hl18
  obtain ⟨c20, r20, rfl, hl20⟩ := cons_of_len hl19
  obtain rfl : r20 = [] := by simpa using hl20
  have g0 : ∃ y, DataW.trod enc Try.prog w base spare held n 3 [c0] = some y := by
    have g : ∃ y, DataW.trod enc Try.prog w base spare held n 3 (([c0, c1, c2, c3, c4, c5, c6, c7, c8, c9, c10, c11, c12, c13, c14, c15, c16, c17, c18, c19, c20].drop 0).take (Try.prog.cellsOf 3)) = some y := hf 0 _ rfl
    rw [cells3] at g
    exact g
  have g1 : ∃ y, DataW.trod enc Try.prog w base spare held n 3 [c1] = some y := by
    have g : ∃ y, DataW.trod enc Try.prog w base spare held n 3 (([c0, c1, c2, c3, c4, c5, c6, c7, c8, c9, c10, c11, c12, c13, c14, c15, c16, c17, c18, c19, c20].drop 1).take (Try.prog.cellsOf 3)) = some y := hf 1 _ rfl
    rw [cells3] at g
    exact g
  have g2 : ∃ y, DataW.trod enc Try.prog w base spare held n 3 [c2] = some y := by
    have g : ∃ y, DataW.trod enc Try.prog w base spare held n 3 (([c0, c1, c2, c3, c4, c5, c6, c7, c8, c9, c10, c11, c12, c13, c14, c15, c16, c17, c18, c19, c20].drop 2).take (Try.prog.cellsOf 3)) = some y := hf 2 _ rfl
    rw [cells3] at g
    exact g
  have g3 : ∃ y, DataW.trod enc Try.prog w base spare held n 3 [c3] = some y := by
    have g : ∃ y, DataW.trod enc Try.prog w base spare held n 3 (([c0, c1, c2, c3, c4, c5, c6, c7, c8, c9, c10, c11, c12, c13, c14, c15, c16, c17, c18, c19, c20].drop 3).take (Try.prog.cellsOf 3)) = some y := hf 3 _ rfl
    rw [cells3] at g
    exact g
  have g4 : ∃ y, DataW.trod enc Try.prog w base spare held n 3 [c4] = some y := by
    have g : ∃ y, DataW.trod enc Try.prog w base spare held n 3 (([c0, c1, c2, c3, c4, c5, c6, c7, c8, c9, c10, c11, c12, c13, c14, c15, c16, c17, c18, c19, c20].drop 4).take (Try.prog.cellsOf 3)) = some y := hf 4 _ rfl
    rw [cells3] at g
    exact g
  have g5 : ∃ y, DataW.trod enc Try.prog w base spare held n 3 [c5] = some y := by
    have g : ∃ y, DataW.trod enc Try.prog w base spare held n 3 (([c0, c1, c2, c3, c4, c5, c6, c7, c8, c9, c10, c11, c12, c13, c14, c15, c16, c17, c18, c19, c20].drop 5).take (Try.prog.cellsOf 3)) = some y := hf 5 _ rfl
    rw [cells3] at g
    exact g
  have g6 : ∃ y, DataW.trod enc Try.prog w base spare held n 35 [c6, c7, c8, c9, c10, c11, c12, c13, c14] = some y := by
    have g : ∃ y, DataW.trod enc Try.prog w base spare held n 35 (([c0, c1, c2, c3, c4, c5, c6, c7, c8, c9, c10, c11, c12, c13, c14, c15, c16, c17, c18, c19, c20].drop 6).take (Try.prog.cellsOf 35)) = some y := hf 6 _ rfl
    rw [cells35] at g
    exact g
  have g7 : ∃ y, DataW.trod enc Try.prog w base spare held n 3 [c15] = some y := by
    have g : ∃ y, DataW.trod enc Try.prog w base spare held n 3 (([c0, c1, c2, c3, c4, c5, c6, c7, c8, c9, c10, c11, c12, c13, c14, c15, c16, c17, c18, c19, c20].drop 15).take (Try.prog.cellsOf 3)) = some y := hf 7 _ rfl
    rw [cells3] at g
    exact g
  have g8 : ∃ y, DataW.trod enc Try.prog w base spare held n 3 [c16] = some y := by
    have g : ∃ y, DataW.trod enc Try.prog w base spare held n 3 (([c0, c1, c2, c3, c4, c5, c6, c7, c8, c9, c10, c11, c12, c13, c14, c15, c16, c17, c18, c19, c20].drop 16).take (Try.prog.cellsOf 3)) = some y := hf 8 _ rfl
    rw [cells3] at g
    exact g
  have g9 : ∃ y, DataW.trod enc Try.prog w base spare held n 3 [c17] = some y := by
    have g : ∃ y, DataW.trod enc Try.prog w base spare held n 3 (([c0, c1, c2, c3, c4, c5, c6, c7, c8, c9, c10, c11, c12, c13, c14, c15, c16, c17, c18, c19, c20].drop 17).take (Try.prog.cellsOf 3)) = some y := hf 9 _ rfl
    rw [cells3] at g
    exact g
  have g10 : ∃ y, DataW.trod enc Try.prog w base spare held n 3 [c18] = some y := by
    have g : ∃ y, DataW.trod enc Try.prog w base spare held n 3 (([c0, c1, c2, c3, c4, c5, c6, c7, c8, c9, c10, c11, c12, c13, c14, c15, c16, c17, c18, c19, c20].drop 18).take (Try.prog.cellsOf 3)) = some y := hf 10 _ rfl
    rw [cells3] at g
    exact g
  have g11 : ∃ y, DataW.trod enc Try.prog w base spare held n 3 [c19] = some y := by
    have g : ∃ y, DataW.trod enc Try.prog w base spare held n 3 (([c0, c1, c2, c3, c4, c5, c6, c7, c8, c9, c10, c11, c12, c13, c14, c15, c16, c17, c18, c19, c20].drop 19).take (Try.prog.cellsOf 3)) = some y := hf 11 _ rfl
    rw [cells3] at g
    exact g
  have g12 : ∃ y, DataW.trod enc Try.prog w base spare held n 4 [c20] = some y := by
    have g : ∃ y, DataW.trod enc Try.prog w base spare held n 4 (([c0, c1, c2, c3, c4, c5, c6, c7, c8, c9, c10, c11, c12, c13, c14, c15, c16, c17, c18, c19, c20].drop 20).take (Try.prog.cellsOf 4)) = some y := hf 12 _ rfl
    rw [cells4] at g
    exact g
  obtain ⟨i0, rfl⟩ := one_int g0
  obtain ⟨i1, rfl⟩ := one_int g1
  obtain ⟨i2, rfl⟩ := one_int g2
  obtain ⟨i3, rfl⟩ := one_int g3
  obtain ⟨i4, rfl⟩ := one_int g4
  obtain ⟨i5, rfl⟩ := one_int g5
  obtain ⟨i7, rfl⟩ := one_int g7
  obtain ⟨i8, rfl⟩ := one_int g8
  obtain ⟨i9, rfl⟩ := one_int g9
  obtain ⟨i10, rfl⟩ := one_int g10
  obtain ⟨i11, rfl⟩ := one_int g11
  obtain ⟨bb, rfl⟩ := one_bool g12
  obtain ⟨p, a1, b1, c1, a, b, c, x, y, hh⟩ := open35 g6
  simp only [List.cons.injEq, and_true] at hh
  obtain ⟨rfl, rfl, rfl, rfl, rfl, rfl, rfl, rfl, rfl⟩ := hh
  exact ⟨⟨i0, i1, i3, a, b, c, .int .i64 i2, .int .i64 i4, .int .i64 i5, _, _, _, _, _, _, _, _, _, _, _, _⟩, rfl, rfl⟩

theorem open39 {fuel : Nat} {cs : List Value} (h : ∃ y, DataW.trod enc Try.prog w base spare held fuel 39 cs = some y) : ∃ ca : Ca, cs = ca.cells.toList ∧ ca.One := by
  obtain ⟨y, h⟩ := h
  obtain ⟨hl, n, hf⟩ := trod_field Try.underlying39 h
  rw [cells39] at hl
  obtain ⟨c0, r0, rfl, hl0⟩ := cons_of_len hl
  obtain ⟨c1, r1, rfl, hl1⟩ := cons_of_len hl0
  obtain ⟨c2, r2, rfl, hl2⟩ := cons_of_len hl1
  obtain ⟨c3, r3, rfl, hl3⟩ := cons_of_len hl2
  obtain ⟨c4, r4, rfl, hl4⟩ := cons_of_len hl3
  obtain ⟨c5, r5, rfl, hl5⟩ := cons_of_len hl4
  obtain ⟨c6, r6, rfl, hl6⟩ := cons_of_len hl5
  obtain ⟨c7, r7, rfl, hl7⟩ := cons_of_len hl6
  obtain ⟨c8, r8, rfl, hl8⟩ := cons_of_len hl7
  obtain ⟨c9, r9, rfl, hl9⟩ := cons_of_len hl8
  obtain ⟨c10, r10, rfl, hl10⟩ := cons_of_len hl9
  obtain rfl : r10 = [] := by simpa using hl10
  have g0 : ∃ y, DataW.trod enc Try.prog w base spare held n 9 [c0] = some y := by
    have g : ∃ y, DataW.trod enc Try.prog w base spare held n 9 (([c0, c1, c2, c3, c4, c5, c6, c7, c8, c9, c10].drop 0).take (Try.prog.cellsOf 9)) = some y := hf 0 _ rfl
    rw [cells9] at g
    exact g
  have g1 : ∃ y, DataW.trod enc Try.prog w base spare held n 3 [c1] = some y := by
    have g : ∃ y, DataW.trod enc Try.prog w base spare held n 3 (([c0, c1, c2, c3, c4, c5, c6, c7, c8, c9, c10].drop 1).take (Try.prog.cellsOf 3)) = some y := hf 1 _ rfl
    rw [cells3] at g
    exact g
  have g2 : ∃ y, DataW.trod enc Try.prog w base spare held n 3 [c2] = some y := by
    have g : ∃ y, DataW.trod enc Try.prog w base spare held n 3 (([c0, c1, c2, c3, c4, c5, c6, c7, c8, c9, c10].drop 2).take (Try.prog.cellsOf 3)) = some y := hf 2 _ rfl
    rw [cells3] at g
    exact g
  have g3 : ∃ y, DataW.trod enc Try.prog w base spare held n 33 [c3, c4, c5] = some y := by
    have g : ∃ y, DataW.trod enc Try.prog w base spare held n 33 (([c0, c1, c2, c3, c4, c5, c6, c7, c8, c9, c10].drop 3).take (Try.prog.cellsOf 33)) = some y := hf 3 _ rfl
    rw [cells33] at g
    exact g
  have g4 : ∃ y, DataW.trod enc Try.prog w base spare held n 33 [c6, c7, c8] = some y := by
    have g : ∃ y, DataW.trod enc Try.prog w base spare held n 33 (([c0, c1, c2, c3, c4, c5, c6, c7, c8, c9, c10].drop 6).take (Try.prog.cellsOf 33)) = some y := hf 4 _ rfl
    rw [cells33] at g
    exact g
  have g5 : ∃ y, DataW.trod enc Try.prog w base spare held n 3 [c9] = some y := by
    have g : ∃ y, DataW.trod enc Try.prog w base spare held n 3 (([c0, c1, c2, c3, c4, c5, c6, c7, c8, c9, c10].drop 9).take (Try.prog.cellsOf 3)) = some y := hf 5 _ rfl
    rw [cells3] at g
    exact g
  have g6 : ∃ y, DataW.trod enc Try.prog w base spare held n 4 [c10] = some y := by
    have g : ∃ y, DataW.trod enc Try.prog w base spare held n 4 (([c0, c1, c2, c3, c4, c5, c6, c7, c8, c9, c10].drop 10).take (Try.prog.cellsOf 4)) = some y := hf 6 _ rfl
    rw [cells4] at g
    exact g
  obtain ⟨s0, rfl⟩ := one_str g0
  obtain ⟨i1, rfl⟩ := one_int g1
  obtain ⟨i2, rfl⟩ := one_int g2
  obtain ⟨a, b, c, hh⟩ := open33 g3
  obtain ⟨a1, b1, c1, hh1⟩ := open33 g4
  simp only [List.cons.injEq, and_true] at hh hh1
  obtain ⟨rfl, rfl, rfl⟩ := hh
  obtain ⟨rfl, rfl, rfl⟩ := hh1
  obtain ⟨i9, rfl⟩ := one_int g5
  obtain ⟨b10, rfl⟩ := one_bool g6
  exact ⟨⟨s0, i1, a, b, c, i9, _, _, _, _, _⟩, rfl, rfl⟩

theorem open41 {fuel : Nat} {cs : List Value} (h : ∃ y, DataW.trod enc Try.prog w base spare held fuel 41 cs = some y) : ∃ ev : Ev, cs = ev.cells.toList ∧ ev.One := by
  obtain ⟨y, h⟩ := h
  obtain ⟨hl, n, hf⟩ := trod_field Try.underlying41 h
  rw [cells41] at hl
  obtain ⟨c0, r0, rfl, hl0⟩ := cons_of_len hl
  obtain ⟨c1, r1, rfl, hl1⟩ := cons_of_len hl0
  obtain ⟨c2, r2, rfl, hl2⟩ := cons_of_len hl1
  obtain ⟨c3, r3, rfl, hl3⟩ := cons_of_len hl2
  obtain ⟨c4, r4, rfl, hl4⟩ := cons_of_len hl3
  obtain ⟨c5, r5, rfl, hl5⟩ := cons_of_len hl4
  obtain ⟨c6, r6, rfl, hl6⟩ := cons_of_len hl5
  obtain ⟨c7, r7, rfl, hl7⟩ := cons_of_len hl6
  obtain ⟨c8, r8, rfl, hl8⟩ := cons_of_len hl7
  obtain ⟨c9, r9, rfl, hl9⟩ := cons_of_len hl8
  obtain ⟨c10, r10, rfl, hl10⟩ := cons_of_len hl9
  obtain ⟨c11, r11, rfl, hl11⟩ := cons_of_len hl10
  obtain ⟨c12, r12, rfl, hl12⟩ := cons_of_len hl11
  obtain ⟨c13, r13, rfl, hl13⟩ := cons_of_len hl12
  obtain ⟨c14, r14, rfl, hl14⟩ := cons_of_len hl13
  obtain ⟨c15, r15, rfl, hl15⟩ := cons_of_len hl14
  obtain ⟨c16, r16, rfl, hl16⟩ := cons_of_len hl15
  obtain ⟨c17, r17, rfl, hl17⟩ := cons_of_len hl16
  obtain ⟨c18, r18, rfl, hl18⟩ := cons_of_len hl17
  obtain ⟨c19, r19, rfl, hl19⟩ := cons_of_len hl18
  obtain ⟨c20, r20, rfl, hl20⟩ := cons_of_len hl19
  obtain ⟨c21, r21, rfl, hl21⟩ := cons_of_len hl20
  obtain ⟨c22, r22, rfl, hl22⟩ := cons_of_len hl21
  obtain ⟨c23, r23, rfl, hl23⟩ := cons_of_len hl22
  obtain ⟨c24, r24, rfl, hl24⟩ := cons_of_len hl23
  obtain ⟨c25, r25, rfl, hl25⟩ := cons_of_len hl24
  obtain ⟨c26, r26, rfl, hl26⟩ := cons_of_len hl25
  obtain ⟨c27, r27, rfl, hl27⟩ := cons_of_len hl26
  obtain ⟨c28, r28, rfl, hl28⟩ := cons_of_len hl27
  obtain ⟨c29, r29, rfl, hl29⟩ := cons_of_len hl28
  obtain ⟨c30, r30, rfl, hl30⟩ := cons_of_len hl29
  obtain ⟨c31, r31, rfl, hl31⟩ := cons_of_len hl30
  obtain ⟨c32, r32, rfl, hl32⟩ := cons_of_len hl31
  obtain ⟨c33, r33, rfl, hl33⟩ := cons_of_len hl32
  obtain rfl : r33 = [] := by simpa using hl33
  have g0 : ∃ y, DataW.trod enc Try.prog w base spare held n 4 [c0] = some y := by
    have g : ∃ y, DataW.trod enc Try.prog w base spare held n 4 (([c0, c1, c2, c3, c4, c5, c6, c7, c8, c9, c10, c11, c12, c13, c14, c15, c16, c17, c18, c19, c20, c21, c22, c23, c24, c25, c26, c27, c28, c29, c30, c31, c32, c33].drop 0).take (Try.prog.cellsOf 4)) = some y := hf 0 _ rfl
    rw [cells4] at g
    exact g
  have g1 : ∃ y, DataW.trod enc Try.prog w base spare held n 37 [c1, c2, c3, c4, c5, c6, c7, c8, c9, c10, c11, c12, c13, c14, c15, c16, c17, c18, c19, c20, c21] = some y := by
    have g : ∃ y, DataW.trod enc Try.prog w base spare held n 37 (([c0, c1, c2, c3, c4, c5, c6, c7, c8, c9, c10, c11, c12, c13, c14, c15, c16, c17, c18, c19, c20, c21, c22, c23, c24, c25, c26, c27, c28, c29, c30, c31, c32, c33].drop 1).take (Try.prog.cellsOf 37)) = some y := hf 1 _ rfl
    rw [cells37] at g
    exact g
  have g2 : ∃ y, DataW.trod enc Try.prog w base spare held n 39 [c22, c23, c24, c25, c26, c27, c28, c29, c30, c31, c32] = some y := by
    have g : ∃ y, DataW.trod enc Try.prog w base spare held n 39 (([c0, c1, c2, c3, c4, c5, c6, c7, c8, c9, c10, c11, c12, c13, c14, c15, c16, c17, c18, c19, c20, c21, c22, c23, c24, c25, c26, c27, c28, c29, c30, c31, c32, c33].drop 22).take (Try.prog.cellsOf 39)) = some y := hf 2 _ rfl
    rw [cells39] at g
    exact g
  have g3 : ∃ y, DataW.trod enc Try.prog w base spare held n 3 [c33] = some y := by
    have g : ∃ y, DataW.trod enc Try.prog w base spare held n 3 (([c0, c1, c2, c3, c4, c5, c6, c7, c8, c9, c10, c11, c12, c13, c14, c15, c16, c17, c18, c19, c20, c21, c22, c23, c24, c25, c26, c27, c28, c29, c30, c31, c32, c33].drop 33).take (Try.prog.cellsOf 3)) = some y := hf 3 _ rfl
    rw [cells3] at g
    exact g
  obtain ⟨b, rfl⟩ := one_bool g0
  obtain ⟨al, ha, h1⟩ := open37 g1
  obtain ⟨ca, hc, h2⟩ := open39 g2
  obtain ⟨v, rfl⟩ := one_int g3
  refine ⟨⟨b, al, ca, v⟩, ?_, h1, h2⟩
  rw [Ev.list, ← ha, ← hc]
  rfl

end

/-- The argument: L events. -/
def EvsAt (w : World) (a : Option Addr) (L : Nat) (ev : Nat → Ev) : Prop :=
  0 < L → ∃ b off, a = some ⟨b, off, none⟩ ∧ ∀ i, i < L → ∀ j u, (ev i).cells.toList[j]? = some u → w.cell? ⟨b, off + i * 34 + j, none⟩ = some u

theorem EvsAt.lt {w : World} {b off L : Nat} {ev : Nat → Ev} (h : EvsAt w (some ⟨b, off, none⟩) L ev) (hL : 0 < L) : b < w.heap.size := by
  obtain ⟨b', off', h1, h2⟩ := h hL
  simp only [Option.some.injEq, Addr.mk.injEq, and_true] at h1
  obtain ⟨rfl, rfl⟩ := h1
  have h3 := h2 0 hL 0 (.bool (ev 0).case_) rfl
  cases hb : w.heap[b]? with
  | none => simp [World.cell?, hb] at h3
  | some o => exact (Array.getElem?_eq_some_iff.1 hb).1

theorem EvsAt.keep {w w' : World} {a : Option Addr} {L : Nat} {ev : Nat → Ev} (h : EvsAt w a L ev) (hk : ∀ b, b < w.heap.size → w'.heap[b]? = w.heap[b]?) : EvsAt w' a L ev := by
  intro hL
  obtain ⟨b, off, rfl, h2⟩ := h hL
  refine ⟨b, off, rfl, fun i hi j u hu => ?_⟩
  rw [← h2 i hi j u hu]
  simp only [World.cell?, hk b (h.lt hL)]

theorem open_evs1 {H : Type} {enc : TypeId × Value → H} {w : World} {r : Reach} {b0 : Nat} {v : Value} {d : DataW H} {ps : List MemPlace} (hval : Value.okWide Try.prog w r b0 25 v) (hd : DataW.Trod enc Try.prog w 0 (fun _ => true) true 25 v d ps) :
    ∃ a L cap ev, v = .slice a L cap ∧ EvsAt w a L ev ∧ ∀ i, (ev i).One := by
  obtain ⟨a, L, cap, rfl⟩ := okWide_slice Try.underlying25 hval
  obtain ⟨fuel, hf⟩ := hd
  rcases DataW.trod_slice Try.underlying25 hf with ⟨h0, _⟩ | ⟨a', len, cap', elems, rest, n, _, h0, _, hb, hl, hm, hlen, hel, _, _⟩
  · simp [Value.cells] at h0
    obtain ⟨rfl, rfl, rfl⟩ := h0
    exact ⟨none, 0, 0, fun _ => ⟨false, alOne, caOne, 0⟩, rfl, fun h => absurd h (by omega), fun _ => ⟨rfl, rfl⟩⟩
  · simp [Value.cells] at h0
    obtain ⟨rfl, rfl, rfl⟩ := h0
    rw [cells41] at hel
    have each : ∀ i, i < L → ∃ ev : Ev, w.cells? 0 (a'.add (i * 34)) 34 = some ev.cells.toList ∧ ev.One := by
      intro i hi
      have h1 := hel i hi
      rw [List.getElem?_eq_getElem (by omega)] at h1
      obtain ⟨cs, h2, h3⟩ := Option.bind_eq_some_iff.1 h1
      obtain ⟨ev, rfl, h4⟩ := open41 ⟨_, h3⟩
      exact ⟨ev, h2, h4⟩
    refine ⟨_, _, _, fun i => if h : i < L then (each i h).choose else ⟨false, alOne, caOne, 0⟩, rfl, fun hL => ?_, fun i => ?_⟩
    rotate_left
    · by_cases h : i < L
      · simp only [dif_pos h]; exact (each i h).choose_spec.2
      · simp only [dif_neg h]; exact ⟨rfl, rfl⟩
    obtain ⟨b, off, spot⟩ := a'
    have hspot : spot = none := by
      obtain ⟨_, hcl, h2⟩ := World.cells?_some (each 0 hL).choose_spec.1
      have h3 := h2 0 (by omega)
      have h4 : w.cell? ⟨b, off, spot⟩ = some (.bool (each 0 hL).choose.case_) := by simpa [Addr.add, Ev.list] using h3
      exact World.cell?_spot h4
    subst hspot
    refine ⟨b, off, rfl, fun i hi j u hu => ?_⟩
    simp only [dif_pos hi] at hu
    obtain ⟨_, hcl, h2⟩ := World.cells?_some (each i hi).choose_spec.1
    have hj : j < 34 := by
      have := (List.getElem?_eq_some_iff.1 hu).1
      omega
    have h3 := h2 j hj
    rw [hu] at h3
    have h4 : ((⟨b, off, none⟩ : Addr).add (i * 34)).add j = ⟨b, off + i * 34 + j, none⟩ := by
      rw [Addr.add_lit, Addr.add_lit]
    rw [h4] at h3
    exact h3
theorem open_evs {H : Type} {enc : TypeId × Value → H} {w : World} {r : Reach} {b0 : Nat} {v : Value} {d : DataW H} {ps : List MemPlace} (hval : Value.okWide Try.prog w r b0 25 v) (hd : DataW.Trod enc Try.prog w 0 (fun _ => true) true 25 v d ps) :
    ∃ a L cap ev, v = .slice a L cap ∧ EvsAt w a L ev := by
  obtain ⟨a, L, cap, ev, h1, h2, _⟩ := open_evs1 hval hd
  exact ⟨a, L, cap, ev, h1, h2⟩
theorem size41 : (Try.prog.info? 41).map (·.size) = some 34 := by kernel_rfl
theorem laid : laidOutB Try.prog = true := by kernel_rfl
theorem read25 : Try.prog.readableRec 25 = true := by kernel_rfl
theorem row25 : 25 < Try.prog.types.size := of_decide_eq_true (by kernel_rfl)

end Go.Proofs.Ytnghfmefjjkgdaa
