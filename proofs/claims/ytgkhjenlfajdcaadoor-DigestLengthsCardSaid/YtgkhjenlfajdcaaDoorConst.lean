/- The reference: constants, words. -/
import Derived.Test.YtgkhjenlfajdcaaDoorPad
import Derived.Deep.RegionLaw
import Derived.BigRegion
namespace Go.Proofs.YtgkhjenlfajdcaaDoor
open Go.RowKit

theorem elem35 : ElemOk Tryd.prog 36 35 1 4 := ⟨Tryd.underlying36, by
  have h : (Tryd.prog.info? 35).map (fun i => (i.zero.map (fun z => z.cells.size), i.size, i.bytes)) = some (some 1, 1, 4) := by kernel_rfl
  cases hq : Tryd.prog.info? 35 with
  | none => rw [hq] at h; cases h
  | some i =>
    rw [hq] at h
    simp only [Option.map_some, Option.some.injEq, Prod.mk.injEq] at h
    obtain ⟨h1, h2, h3⟩ := h
    cases hz : i.zero with
    | none => rw [hz] at h1; cases h1
    | some z =>
      rw [hz] at h1
      simp only [Option.map_some, Option.some.injEq] at h1
      exact ⟨i, z, rfl, hz, h2, h3, h1⟩, by decide⟩

def wcells (L : List Int) : List Value := L.map (fun n => .int .u32 n)
theorem wcells_len (L : List Int) : (wcells L).length = L.length := by simp [wcells]
theorem wcells_append (L M : List Int) : wcells (L ++ M) = wcells L ++ wcells M := by simp [wcells]
/-- A slice of words that the run owns. -/
def WAt (w : World) (v : Value) (g : Option Nat) (L : List Int) : Prop := SlAt 35 1 w v g L.length (wcells L)
/-- Read alone. -/
def RW (w : World) (v : Value) (L : List Int) : Prop := ∃ b off cap, v = .slice (some ⟨b, off, none⟩) L.length cap ∧ b < w.heap.size ∧ ∀ i, i < L.length → w.cell? ⟨b, off + i, none⟩ = some (.int .u32 (L.getD i 0))
theorem RW.fr {w w' : World} {v : Value} {L : List Int} (h : RW w v L) (hf : Fr [] w w') : RW w' v L := by
  obtain ⟨b, off, cap, h1, h2, h3⟩ := h
  refine ⟨b, off, cap, h1, by have := hf.size; omega, fun i hi => ?_⟩
  rw [World.cell?_of_block (w := w) (hf.block b h2 (by simp))]
  exact h3 i hi
theorem WAt.read {w : World} {v : Value} {g : Option Nat} {L : List Int} (h : WAt w v g L) (h0 : 0 < L.length) : RW w v L := by
  rcases h with ⟨_, _, h1, _⟩ | ⟨b, off, cap, cur, hg, hv, hblk, hnc, hfit, hxs, hcells⟩
  · omega
  · refine ⟨b, off, cap, hv, lt_of_blk hblk, fun i hi => ?_⟩
    rw [cell_blk hblk]
    exact hcells i _ (by simp [wcells, List.getElem?_eq_getElem hi])

theorem WAt.push {w : World} {v : Value} {g : Option Nat} {L : List Int} (h : WAt w v g L) (x : Int) (hl : L.length ≤ 1000000) :
    ∃ v' w' g', (Builtin.append_ #[36, 36] 36 #[v, .slice (some ⟨w.heap.size, 0, none⟩) 1 1]).run Tryd.prog (w.alloc (.cells #[.int .u32 x] 35)) = .ok v' w' ∧ WAt w' v' g' (L ++ [x]) ∧ Fr g.toList w w' ∧ (g' = g ∨ ∃ b, g' = some b ∧ w.heap.size ≤ b) := by
  have hk : WAt (w.alloc (.cells #[.int .u32 x] 35)) v g L := SlAt.keep h (fun b hb => heap_alloc_lt (by obtain ⟨cur, hc⟩ := SlAt.lt h b hb; exact lt_of_blk hc))
  obtain ⟨v', w', g', happ, hsl', hfr', hg'⟩ := SlAt.append elem35 hk 36 ⟨w.heap.size, 0, none⟩ 1 1 [.int .u32 x] (by omega) (by simp) (fun j u hj => by
    rw [Addr.add_lit, cell_blk (heap_alloc_eq rfl)]
    simpa using hj) (by simp [Value.oneCell']) (by omega) (by unfold maxLen; omega)
  refine ⟨v', w', g', happ, ?_, ((Fr.refl _ w).alloc _).andThen hfr' (fun x hx => .inl hx), ?_⟩
  · unfold WAt
    rw [List.length_append, wcells_append]
    exact hsl'
  · rcases hg' with h1 | ⟨h1, _⟩
    · exact .inl h1
    · exact .inr ⟨_, h1, by simp⟩

def WPost (L : List Int) (w : World) (e : Ending) (w' : World) : Prop := ∃ v, e = .returned v ∧ RW w' v L ∧ Fr [] w w'

set_option maxRecDepth 100000 in
theorem const21_any (w : World) : Calls Tryd.prog 21 #[] w (WPost KK w) := by
  go_enter Tryd.func21, Tryd.ntmps21
  go_wp2
  go_ret
  refine ⟨_, rfl, ⟨w.heap.size, 0, 64, rfl, by simp, fun i hi => ?_⟩, (Fr.refl _ _).alloc _⟩
  rw [cell_blk (heap_alloc_eq rfl), Nat.zero_add]
  have h1 : ∀ i, i < 64 → (KK.map (fun n => Value.int .u32 n)).toArray[i]? = some (.int .u32 (KK.getD i 0)) := by
    intro i hi
    have hl : KK.length = 64 := rfl
    simp [List.getD, List.getElem?_eq_getElem (show i < KK.length by omega)]
  exact h1 i hi
end Go.Proofs.YtgkhjenlfajdcaaDoor

