/- An argument of type []Call, opened. -/
import Derived.Test.YtnghfmefjjkgdaaRset
import Derived.ProofKit
import Derived.Carry
namespace Go.Proofs.Ytnghfmefjjkgdaa
open Go.ChangeShapes Go.WideShapes Go.RowKit

structure Cl where
  kind : Int
  owner : Int
  n : Int
  value : Int
def Cl.cells (c : Cl) : Array Value := #[.int .i64 c.kind, .int .i64 c.owner, .int .i64 c.n, .int .i64 c.value]

theorem cl_cons {α : Type} {l : List α} {n : Nat} (h : l.length = n + 1) : ∃ a r, l = a :: r ∧ r.length = n := by
  cases l with
  | nil => cases h
  | cons a r => exact ⟨a, r, rfl, by simpa using h⟩

section
variable {H : Type} {enc : TypeId × Value → H} {w : World} {base : Nat} {spare : Nat → Bool} {held : Bool}
theorem cl_field {P : Program} {t : TypeId} {fuel : Nat} {cs : List Value} {x : DataW H × List MemPlace} {fs : Array Field} (ht : P.underlying t = some (.struct fs)) (h : DataW.trod enc P w base spare held fuel t cs = some x) :
    cs.length = P.cellsOf t ∧ ∃ n, ∀ (i : Nat) (f : Field), fs[i]? = some f → ∃ y, DataW.trod enc P w base spare held n f.type ((cs.drop f.offset).take (P.cellsOf f.type)) = some y := by
  obtain ⟨xs, n, _, _, hl, hxl, hf⟩ := DataW.trod_struct ht h
  refine ⟨hl, n, fun i f hi => ?_⟩
  have hlt : i < fs.size := (Array.getElem?_eq_some_iff.1 hi).1
  have h1 := hf i f hi
  rw [List.getElem?_eq_getElem (by omega)] at h1
  exact ⟨_, h1⟩
theorem cl_cells3 : Try.prog.cellsOf 3 = 1 := by kernel_rfl
theorem cl_cells55 : Try.prog.cellsOf 55 = 4 := by kernel_rfl
theorem cl_int {n : Nat} {c : Value} (h : ∃ y, DataW.trod enc Try.prog w base spare held n 3 [c] = some y) : ∃ k, c = .int .i64 k := by
  obtain ⟨y, h⟩ := h
  obtain ⟨k, h1, _⟩ := DataW.trod_int Try.underlying3 h
  exact ⟨k, by simpa using h1⟩
theorem open55 {fuel : Nat} {cs : List Value} (h : ∃ y, DataW.trod enc Try.prog w base spare held fuel 55 cs = some y) : ∃ c : Cl, cs = c.cells.toList := by
  obtain ⟨y, h⟩ := h
  obtain ⟨hl, n, hf⟩ := cl_field Try.underlying55 h
  rw [cl_cells55] at hl
  obtain ⟨c0, r0, rfl, hl0⟩ := cl_cons hl
  obtain ⟨c1, r1, rfl, hl1⟩ := cl_cons hl0
  obtain ⟨c2, r2, rfl, hl2⟩ := cl_cons hl1
  obtain ⟨c3, r3, rfl, hl3⟩ := cl_cons hl2
  obtain rfl : r3 = [] := by simpa using hl3
  have g0 : ∃ y, DataW.trod enc Try.prog w base spare held n 3 [c0] = some y := by
    have g : ∃ y, DataW.trod enc Try.prog w base spare held n 3 (([c0, c1, c2, c3].drop 0).take (Try.prog.cellsOf 3)) = some y := hf 0 _ rfl
    rw [cl_cells3] at g
    exact g
  have g1 : ∃ y, DataW.trod enc Try.prog w base spare held n 3 [c1] = some y := by
    have g : ∃ y, DataW.trod enc Try.prog w base spare held n 3 (([c0, c1, c2, c3].drop 1).take (Try.prog.cellsOf 3)) = some y := hf 1 _ rfl
    rw [cl_cells3] at g
    exact g
  have g2 : ∃ y, DataW.trod enc Try.prog w base spare held n 3 [c2] = some y := by
    have g : ∃ y, DataW.trod enc Try.prog w base spare held n 3 (([c0, c1, c2, c3].drop 2).take (Try.prog.cellsOf 3)) = some y := hf 2 _ rfl
    rw [cl_cells3] at g
    exact g
  have g3 : ∃ y, DataW.trod enc Try.prog w base spare held n 3 [c3] = some y := by
    have g : ∃ y, DataW.trod enc Try.prog w base spare held n 3 (([c0, c1, c2, c3].drop 3).take (Try.prog.cellsOf 3)) = some y := hf 3 _ rfl
    rw [cl_cells3] at g
    exact g
  obtain ⟨i0, rfl⟩ := cl_int g0
  obtain ⟨i1, rfl⟩ := cl_int g1
  obtain ⟨i2, rfl⟩ := cl_int g2
  obtain ⟨i3, rfl⟩ := cl_int g3
  exact ⟨⟨i0, i1, i2, i3⟩, rfl⟩
end

/-- The argument: L calls. -/
def ClsAt (w : World) (a : Option Addr) (L : Nat) (ev : Nat → Cl) : Prop :=
  0 < L → ∃ b off, a = some ⟨b, off, none⟩ ∧ ∀ i, i < L → ∀ j u, (ev i).cells.toList[j]? = some u → w.cell? ⟨b, off + i * 4 + j, none⟩ = some u

theorem open_cls {H : Type} {enc : TypeId × Value → H} {w : World} {r : Reach} {b0 : Nat} {v : Value} {d : DataW H} {ps : List MemPlace} (hval : Value.okWide Try.prog w r b0 49 v) (hd : DataW.Trod enc Try.prog w 0 (fun _ => true) true 49 v d ps) :
    ∃ a L cap ev, v = .slice a L cap ∧ ClsAt w a L ev := by
  obtain ⟨a, L, cap, rfl⟩ := okWide_slice Try.underlying49 hval
  obtain ⟨fuel, hf⟩ := hd
  rcases DataW.trod_slice Try.underlying49 hf with ⟨h0, _⟩ | ⟨a', len, cap', elems, rest, n, _, h0, _, hb, hl, hm, hlen, hel, _, _⟩
  · simp [Value.cells] at h0
    obtain ⟨rfl, rfl, rfl⟩ := h0
    exact ⟨none, 0, 0, fun _ => ⟨0, 0, 0, 0⟩, rfl, fun h => absurd h (by omega)⟩
  · simp [Value.cells] at h0
    obtain ⟨rfl, rfl, rfl⟩ := h0
    rw [cl_cells55] at hel
    have each : ∀ i, i < L → ∃ ev : Cl, w.cells? 0 (a'.add (i * 4)) 4 = some ev.cells.toList := by
      intro i hi
      have h1 := hel i hi
      rw [List.getElem?_eq_getElem (by omega)] at h1
      obtain ⟨cs, h2, h3⟩ := Option.bind_eq_some_iff.1 h1
      obtain ⟨ev, rfl⟩ := open55 ⟨_, h3⟩
      exact ⟨ev, h2⟩
    refine ⟨_, _, _, fun i => if h : i < L then (each i h).choose else ⟨0, 0, 0, 0⟩, rfl, fun hL => ?_⟩
    obtain ⟨b, off, spot⟩ := a'
    have hspot : spot = none := by
      obtain ⟨_, hcl, h2⟩ := World.cells?_some (each 0 hL).choose_spec
      have h3 := h2 0 (by omega)
      have h4 : w.cell? ⟨b, off, spot⟩ = some (.int .i64 (each 0 hL).choose.kind) := by simpa [Addr.add, Cl.cells] using h3
      exact World.cell?_spot h4
    subst hspot
    refine ⟨b, off, rfl, fun i hi j u hu => ?_⟩
    simp only [dif_pos hi] at hu
    obtain ⟨_, hcl, h2⟩ := World.cells?_some (each i hi).choose_spec
    have hj : j < 4 := (List.getElem?_eq_some_iff.1 hu).1
    have h3 := h2 j hj
    rw [hu] at h3
    have h4 : ((⟨b, off, none⟩ : Addr).add (i * 4)).add j = ⟨b, off + i * 4 + j, none⟩ := by
      rw [Addr.add_lit, Addr.add_lit]
    rw [h4] at h3
    exact h3
theorem laidPlays : laidOutB Try.prog = true := by kernel_rfl
theorem read49 : Try.prog.readableRec 49 = true := by kernel_rfl
theorem row49 : 49 < Try.prog.types.size := of_decide_eq_true (by kernel_rfl)

theorem PInv.perm {p r : Pl} {k : Nat} (t : PTwin p r) (h : PInv p k) : PInv r k :=
  ⟨t.total ▸ h.total, t.left ▸ h.left, (t.M.map (·.1)).nodup_iff.1 h.keys, fun x hx => h.acc x (t.M.mem_iff.2 hx), by rw [← t.used, h.used, sumN_perm t.M], by rw [← t.M.length_eq]; exact h.len⟩
theorem PInv.small {p : Pl} {k : Nat} (h : PInv p k) (hk : k ≤ 800) : Small p.M :=
  ⟨fun x hx => ⟨(h.acc x hx).2.1, (h.acc x hx).2.2.1⟩, by have := h.len; omega⟩
theorem pcnt_congr {p r : Pl} (h : p.off = r.off) : ∀ k, pcnt p k = pcnt r k
  | 0 => rfl
  | k + 1 => by unfold pcnt; rw [h, pcnt_congr h k]
theorem isOff_congr {p r : Pl} (h : p.off = r.off) (f : Int) : isOff p f = isOff r f := by unfold isOff; rw [h]
theorem PTwin.start (n : Int) : PTwin (pl0 n) (pl0 n) := ⟨rfl, rfl, rfl, rfl, rfl, .refl _⟩
theorem PTwin.setLeft {p r : Pl} (t : PTwin p r) (n : Int) : PTwin { p with left := n } { r with left := n } := ⟨t.total, t.used, t.peak, rfl, t.off, t.M⟩

/-- Both pools in one world. -/
structure TwoAt (w w' : World) (pb bm rp : Nat) (rv : Value) (g : Option Nat) (p r : Pl) (k : Nat) : Prop where
  P : PoolIs w' pb bm p
  R : RPoolIs w' rp rv g r
  inv : PInv p k
  twin : PTwin p r
  fr : Fr [] w w'
  new : w.heap.size ≤ pb ∧ w.heap.size ≤ bm ∧ w.heap.size ≤ rp
  ne : pb ≠ rp ∧ bm ≠ rp
  fresh : ∀ b, g = some b → w.heap.size ≤ b
theorem TwoAt.apart {w w' : World} {pb bm rp : Nat} {rv : Value} {g : Option Nat} {p r : Pl} {k : Nat} (h : TwoAt w w' pb bm rp rv g p r k) : ∀ b, g = some b → b ≠ pb ∧ b ≠ bm ∧ b ≠ rp := by
  intro b hb
  obtain ⟨cur, hc⟩ := h.R.sl.lt b hb
  refine ⟨?_, ?_, h.R.ne b hb⟩
  · rintro rfl
    rw [h.P.blk] at hc
    cases hc
  · rintro rfl
    obtain ⟨es, c, h1, _⟩ := h.P.map
    rw [h1] at hc
    cases hc
theorem TwoAt.keep {w w1 w2 : World} {pb bm rp : Nat} {rv : Value} {g : Option Nat} {p r : Pl} {k : Nat} (h : TwoAt w w1 pb bm rp rv g p r k) (hf : Fr [] w1 w2) : TwoAt w w2 pb bm rp rv g p r k :=
  ⟨h.P.fr hf (by simp) (by simp), h.R.fr hf (by simp) (by simp), h.inv, h.twin, h.fr.andThen hf (by simp), h.new, h.ne, h.fresh⟩
/-- A step of the one, then of the other. -/
theorem TwoAt.step {w w1 w2 w3 : World} {pb bm rp : Nat} {rv rv' : Value} {g g' : Option Nat} {p r p' r' : Pl} {k k' : Nat} (h : TwoAt w w1 pb bm rp rv g p r k)
    (hp : PoolIs w2 pb bm p') (hf1 : Fr [pb, bm] w1 w2) (hr : RPoolIs w2 rp rv g r → RPoolIs w3 rp rv' g' r' ∧ Fr [rp] w2 w3 ∧ ∀ b, g' = some b → g = some b ∨ w2.heap.size ≤ b)
    (inv : PInv p' k') (tw : PTwin p' r') : TwoAt w w3 pb bm rp rv' g' p' r' k' := by
  have hap := h.apart
  obtain ⟨h1, h2, h3⟩ := hr (h.R.fr hf1 (by have := h.ne; simp; omega) (fun b hb => by have := hap b hb; simp; omega))
  have hn := h.new
  have hne := h.ne
  refine ⟨hp.fr h2 (by simp; omega) (by simp; omega), h1, inv, tw, (h.fr.andThen hf1 (by simp; omega)).andThen h2 (by simp; omega), hn, hne, fun b hb => ?_⟩
  rcases h3 b hb with h4 | h4
  · exact h.fresh b h4
  · have := h.fr.size
    have := hf1.size
    omega
end Go.Proofs.Ytnghfmefjjkgdaa

