/- An argument of type []string, opened; long. -/
import Derived.Test.YtgkhjenlfajdcaaDoorLaid
import Derived.Deep.Slices
import Derived.Carry
namespace Go.Proofs.YtgkhjenlfajdcaaDoor
open Go.ChangeShapes Go.WideShapes Go.RowKit

/-- The argument: L strings. -/
def StrsAt (w : World) (a : Option Addr) (L : Nat) (ev : Nat → ByteArray) : Prop :=
  ∀ i, i < L → ∃ x, a = some x ∧ w.cell? (x.add i) = some (.string (ev i))
theorem StrsAt.fr {w w' : World} {a : Option Addr} {L : Nat} {ev : Nat → ByteArray} (h : StrsAt w a L ev) (hf : Fr [] w w') : StrsAt w' a L ev := by
  intro i hi
  obtain ⟨x, h1, h2⟩ := h i hi
  exact ⟨x, h1, by rw [World.cell?_of_block (w := w) (hf.block _ (World.block_lt_of_cell? w _ h2) (by simp))]; exact h2⟩
theorem cells9 : Tryd.prog.cellsOf 9 = 1 := by kernel_rfl

theorem open_strs32 {H : Type} {enc : TypeId × Value → H} {w : World} {r : Reach} {b0 : Nat} {v : Value} {d : DataW H} {ps : List MemPlace} (hval : Value.okWide Tryd.prog w r b0 32 v) (hd : DataW.Trod enc Tryd.prog w 0 (fun _ => true) true 32 v d ps) :
    ∃ a L cap ev, v = .slice a L cap ∧ (StrsAt w a L ev ∧ L ≤ 9223372036854775807) := by
  obtain ⟨a, L, cap, rfl⟩ := okWide_slice Tryd.underlying32 hval
  obtain ⟨fuel, hf⟩ := hd
  rcases Deep.open_slice1 Tryd.underlying32 cells9 hf with ⟨h0, _⟩ | ⟨a', len, cap', m, n, V, D, Pl, h0, _, hl, hm, hmm, _, hx⟩
  · simp [Value.cells] at h0
    obtain ⟨rfl, rfl, rfl⟩ := h0
    exact ⟨none, 0, 0, fun _ => ⟨#[]⟩, rfl, fun i hi => absurd hi (by omega), by omega⟩
  · simp [Value.cells] at h0
    obtain ⟨rfl, rfl, rfl⟩ := h0
    have hLm : L ≤ m := by rw [hmm]; simp; exact hl
    have each : ∀ i, i < L → ∃ s : ByteArray, w.cell? (a'.add i) = some (.string s) := by
      intro i hi
      obtain ⟨h1, h2⟩ := hx i (by omega)
      obtain ⟨k, h3, _⟩ := DataW.trod_string Tryd.underlying9 h2
      have h4 : V i = .string k := by simpa using h3
      exact ⟨k, by rw [h1, h4]⟩
    refine ⟨_, _, _, fun i => if h : i < L then (each i h).choose else ⟨#[]⟩, rfl, fun i hi => ⟨a', rfl, ?_⟩, by unfold maxLen at hm; omega⟩
    simp only [dif_pos hi]
    exact (each i hi).choose_spec

def tot (ev : Nat → ByteArray) : Nat → Nat
  | 0 => 0
  | k + 1 => tot ev k + (ev k).size
def cat (ev : Nat → ByteArray) : Nat → List UInt8
  | 0 => []
  | k + 1 => cat ev k ++ (ev k).data.toList
theorem cat_len (ev : Nat → ByteArray) : ∀ k, (cat ev k).length = tot ev k
  | 0 => rfl
  | k + 1 => by simp [cat, tot, cat_len ev k]
theorem tot_mono (ev : Nat → ByteArray) : ∀ {k m : Nat}, k ≤ m → tot ev k ≤ tot ev m
  | k, 0, h => by have : k = 0 := by omega
                  subst this; exact Nat.le_refl _
  | k, m + 1, h => by
    rcases Nat.lt_or_eq_of_le h with h1 | h1
    · have := tot_mono ev (show k ≤ m by omega)
      simp only [tot]
      omega
    · rw [h1]; exact Nat.le_refl _

def LongPost (ev : Nat → ByteArray) (L : Nat) (w : World) (e : Ending) (w' : World) : Prop := ∃ r, e = .returned (.bool r) ∧ (r = false → L ≤ 40 ∧ tot ev L ≤ 600) ∧ w = w'

set_option maxRecDepth 100000 in
set_option maxHeartbeats 1000000 in
theorem long17_any (a : Option Addr) (L cap : Nat) (ev : Nat → ByteArray) (w : World) (h : StrsAt w a L ev) (hL : L ≤ 9223372036854775807) :
    Calls Tryd.prog 17 #[.slice a L cap] w (LongPost ev L w) := by
  have HS := hide h
  clear h
  go_enter Tryd.func17, Tryd.ntmps17
  go_wp2_with fail
  go_loopg [3, 4] 42 (fun gk n i wr => ∃ k : Nat, gk = 42 - k ∧ k ≤ 41 ∧ k ≤ L ∧ i = .int .i64 k ∧ n = .int .i64 (tot ev k) ∧ tot ev k ≤ k * 600 ∧ w = wr)
  case atStart => exact ⟨0, rfl, by omega, by omega, rfl, rfl, by simp [tot], rfl⟩
  case round =>
    obtain ⟨k, hgk, hk, hkL, rfl, rfl, htb, rfl⟩ := hrel
    have HGK := hide hgk
    clear hgk
    by_cases hlt : k < L ∧ k < 41
    · obtain ⟨h1, h2⟩ := hlt
      obtain ⟨x, rfl, hc⟩ := HS.out k h1
      obtain ⟨s, hs⟩ : ∃ s, s = ev k := ⟨_, rfl⟩
      have hxl := World.block_lt_of_cell? w _ hc
      rw [← hs] at hc
      have HE := hide (show tot ev (k + 1) = tot ev k + s.size by rw [hs]; rfl)
      obtain ⟨tk, htk⟩ : ∃ t, t = tot ev k := ⟨_, rfl⟩
      rw [← htk] at HE htb ⊢
      clear hs htk
      by_cases hbig : 600 < s.size
      · go_wp2
        go_ret
        exact ⟨true, rfl, fun h => (by cases h), rfl⟩
      · go_wp2
        go_roundg (42 - (k + 1))
        case measure => have := HGK.out; omega
        case rel => exact ⟨k + 1, rfl, by omega, by omega, by go_num, by rw [HE.out]; simp, by rw [HE.out]; omega, rfl⟩
    · obtain ⟨tk, htk⟩ : ∃ t, t = tot ev k := ⟨_, rfl⟩
      have HTK := hide htk
      rw [← htk] at htb ⊢
      clear htk
      by_cases hkl : k < L
      · have hk41 : k = 41 := by omega
        subst hk41
        go_wp2
        all_goals
          go_ret
          exact ⟨_, rfl, fun h => (by simp at h), rfl⟩
      · have hk2 : k = L := by omega
        subst hk2
        go_wp2
        all_goals
          go_ret
          refine ⟨_, rfl, fun h => ?_, rfl⟩
          have := HTK.out
          first
            | (simp at h; done)
            | (simp at h; omega)
            | omega
end Go.Proofs.YtgkhjenlfajdcaaDoor

