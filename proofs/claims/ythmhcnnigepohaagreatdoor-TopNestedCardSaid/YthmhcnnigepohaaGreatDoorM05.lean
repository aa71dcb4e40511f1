/- tableOf: how many codes of each length, and the least one. -/
import Derived.Test.YthmhcnnigepohaaGreatDoorM04
import Derived.Test.YthmhcnnigepohaaGreatDoorM02
import Derived.StillTailTactics
import Derived.BigRegion
import Derived.Deep.RegionHeld3
namespace Go.Proofs.YthmhcnnigepohaaGreatDoor.Hf
open Go.RowKit

def zI (L : List Nat) : List Int := L.map (fun n : Nat => (n : Int))
theorem zI_len (L : List Nat) : (zI L).length = L.length := by simp [zI]
theorem zI_get (L : List Nat) (i : Nat) : (zI L).getD i 0 = ((L.getD i 0 : Nat) : Int) := by
  unfold zI
  simp only [List.getD_eq_getElem?_getD, List.getElem?_map]
  cases L[i]? <;> rfl
/-- Lists that Check takes for lengths. -/
theorem zI_of {l : List Int} (h : ∀ i, i < l.length → 0 ≤ l.getD i 0 ∧ l.getD i 0 ≤ 15) : ∃ L : List Nat, l = zI L ∧ ∀ x ∈ L, x ≤ 15 := by
  refine ⟨l.map Int.toNat, ?_, ?_⟩
  · unfold zI
    rw [List.map_map]
    refine List.ext_getElem (by simp) fun i h1 h2 => ?_
    have := h i h1
    have e : l.getD i 0 = l[i] := by simp [List.getD, List.getElem?_eq_getElem h1]
    rw [e] at this
    simp
    omega
  · intro x hx
    obtain ⟨y, hy, rfl⟩ := List.mem_map.1 hx
    obtain ⟨i, hi, rfl⟩ := List.mem_iff_getElem.1 hy
    have := h i hi
    have e : l.getD i 0 = l[i] := by simp [List.getD, List.getElem?_eq_getElem hi]
    rw [e] at this
    omega

/-- A block of n ints. -/
def Ar (w : World) (B : Nat) (t : TypeId) (n : Nat) (g : Nat → Int) : Prop :=
  ∃ cur, w.heap[B]? = some (.cells cur t (0, 0)) ∧ cur.size = n ∧ ∀ i, i < n → cur[i]? = some (.int .i64 (g i))
section
variable {w w' : World} {B n : Nat} {t : TypeId} {g : Nat → Int}
theorem Ar.cell (h : Ar w B t n g) {i : Nat} (hi : i < n) : w.cell? ⟨B, i, none⟩ = some (.int .i64 (g i)) := by
  obtain ⟨cur, h1, h2, h3⟩ := h
  rw [cell_blk h1, h3 i hi]
theorem Ar.froz (h : Ar w B t n g) (i : Nat) : w.frozen? ⟨B, i, none⟩ = false := by
  obtain ⟨cur, h1, h2, h3⟩ := h
  exact froz_blk h1 i
theorem Ar.lt (h : Ar w B t n g) : B < w.heap.size := by
  obtain ⟨cur, h1, _⟩ := h
  exact lt_of_blk h1
theorem Ar.keep (h : Ar w B t n g) (e : w'.heap[B]? = w.heap[B]?) : Ar w' B t n g := by
  obtain ⟨cur, h1, h2⟩ := h
  exact ⟨cur, e.trans h1, h2⟩
theorem Ar.fr {S : List Nat} (h : Ar w B t n g) (hf : Fr S w w') (hn : B ∉ S) : Ar w' B t n g := h.keep (hf.block B h.lt hn)
theorem Ar.set (h : Ar w B t n g) {m : Nat} (hm : m < n) (x : Int) : Ar (w.setCell ⟨B, m, none⟩ (.int .i64 x)) B t n (fun i => if i = m then x else g i) := by
  obtain ⟨cur, h1, h2, h3⟩ := h
  refine ⟨_, heap_set_same h1, by simpa using h2, fun i hi => ?_⟩
  rw [Array.getElem?_setIfInBounds]
  by_cases him : m = i
  · subst him
    rw [if_pos rfl, if_pos (by omega)]
    simp only [if_true]
  · rw [if_neg him]
    have hne : ¬ i = m := fun e => him e.symm
    simp only [if_neg hne]
    exact h3 i hi
theorem Ar.ext {g' : Nat → Int} (h : Ar w B t n g) (e : ∀ i, i < n → g i = g' i) : Ar w B t n g' := by
  obtain ⟨cur, h1, h2, h3⟩ := h
  exact ⟨cur, h1, h2, fun i hi => by rw [← e i hi]; exact h3 i hi⟩
theorem Ar.cells_eq (h : Ar w B t n g) : w.heap[B]? = some (.cells ((List.range n).map (fun i => Value.int .i64 (g i))).toArray t (0, 0)) := by
  obtain ⟨cur, h1, h2, h3⟩ := h
  rw [h1]
  congr 2
  refine Array.ext (by simp [h2]) fun i hi1 hi2 => ?_
  have := h3 i (by omega)
  rw [Array.getElem?_eq_getElem hi1] at this
  injection this with this
  rw [this]
  simp
end

theorem cell_set_ne {w : World} {b i j : Nat} {v : Value} (h : i ≠ j) : (w.setCell ⟨b, i, none⟩ v).cell? ⟨b, j, none⟩ = w.cell? ⟨b, j, none⟩ := by
  have h1 := heap_set (w := w) (i := b) (j := i) (v := v)
  unfold World.cell?
  rw [h1]
  cases hq : w.heap[b]? with
  | none => rfl
  | some o => cases o <;> simp [setAt, h]

/-- The table's cells: counts, then the least codes. -/
def tg (L : List Nat) (i : Nat) : Int := if i < 16 then (cnt L i : Int) else (fst L (i - 16) : Int)
def tab (L : List Nat) : Array Value := ((List.range 32).map (fun i => Value.int .i64 (tg L i))).toArray

theorem cnt_le (L : List Nat) (n : Nat) : cnt L n ≤ L.length := by
  unfold cnt
  split
  · omega
  · exact List.count_le_length
theorem kr_le : ∀ L : List Nat, kr L ≤ L.length * 16384
  | [] => by simp [kr]
  | x :: L => by
    have ih := kr_le L
    unfold kr at ih ⊢
    rw [List.map_cons, List.sum_cons, List.length_cons]
    by_cases h0 : x = 0
    · rw [if_pos h0]; omega
    · rw [if_neg h0]
      have := Nat.pow_le_pow_right (n := 2) (by omega) (show 15 - x ≤ 14 by omega)
      omega
theorem fst_le {L : List Nat} (hL : ∀ x ∈ L, x ≤ 15) (n : Nat) (hn : n ≤ 15) : fst L n ≤ L.length * 16384 := by
  have h1 := fst_beg L n hn
  have h2 := beg_mono L (show n ≤ 16 by omega)
  rw [beg_end L hL] at h2
  have h3 := kr_le L
  have h4 : fst L n * 1 ≤ fst L n * 2 ^ (15 - n) := Nat.mul_le_mul_left _ (Nat.pow_pos (by omega))
  omega

/-- The counts of the first k. -/
def tg1 (L : List Nat) (k i : Nat) : Int := if i < 16 then (cnt (L.take k) i : Int) else 0
theorem tg1_zero (L : List Nat) (i : Nat) : tg1 L 0 i = 0 := by
  unfold tg1 cnt
  split
  · split <;> simp
  · rfl
theorem take_get {L : List Nat} {k : Nat} (hk : k < L.length) : L.take (k + 1) = L.take k ++ [L.getD k 0] := by
  rw [List.take_succ_eq_append_getElem hk]
  simp [List.getD, List.getElem?_eq_getElem hk]
theorem tg1_succ {L : List Nat} {k : Nat} (hk : k < L.length) (i : Nat) : tg1 L (k + 1) i = if i = L.getD k 0 ∧ 0 < i ∧ i < 16 then tg1 L k i + 1 else tg1 L k i := by
  unfold tg1
  by_cases hi : i < 16
  · rw [if_pos hi, if_pos hi, take_get hk]
    unfold cnt
    obtain ⟨y, hy⟩ : ∃ y, y = L.getD k 0 := ⟨_, rfl⟩
    rw [← hy]
    by_cases h0 : i = 0
    · rw [if_pos h0, if_pos h0, if_neg (by omega)]
    · rw [if_neg h0, if_neg h0, List.count_append, List.count_singleton]
      by_cases he : i = y
      · subst he
        have h1 : i = i ∧ 0 < i ∧ i < 16 := ⟨rfl, by omega, hi⟩
        rw [if_pos h1, if_pos (by simp)]
        simp
      · have h1 : ¬ (i = y ∧ 0 < i ∧ i < 16) := fun h => he h.1
        have h2 : ¬ (y == i) = true := by simp; omega
        rw [if_neg h1, if_neg h2]
        simp
  · have h1 : ¬ (i = L.getD k 0 ∧ 0 < i ∧ i < 16) := fun h => hi h.2.2
    rw [if_neg hi, if_neg hi, if_neg h1]
/-- Then the least codes up to length n - 1. -/
def tg2 (L : List Nat) (n i : Nat) : Int := if i < 16 then (cnt L i : Int) else if i < 16 + n then (fst L (i - 16) : Int) else 0

abbrev Z32 : Array Value := #[.int .i64 0, .int .i64 0, .int .i64 0, .int .i64 0, .int .i64 0, .int .i64 0, .int .i64 0, .int .i64 0, .int .i64 0, .int .i64 0, .int .i64 0, .int .i64 0, .int .i64 0, .int .i64 0, .int .i64 0, .int .i64 0, .int .i64 0, .int .i64 0, .int .i64 0, .int .i64 0, .int .i64 0, .int .i64 0, .int .i64 0, .int .i64 0, .int .i64 0, .int .i64 0, .int .i64 0, .int .i64 0, .int .i64 0, .int .i64 0, .int .i64 0, .int .i64 0]
theorem zeros32 (i : Nat) (hi : i < 32) : Z32[i]? = some (.int .i64 0) := by
  have h : Z32 = ((List.range 32).map (fun _ => Value.int .i64 0)).toArray := rfl
  rw [h]
  simp [hi]

set_option maxRecDepth 100000 in
set_option maxHeartbeats 2000000 in
theorem tableOf25_any (v : Value) (L : List Nat) (w : World) (h : IR w v (zI L)) (hL : ∀ x ∈ L, x ≤ 15) (hl : L.length ≤ 1000) :
    Calls Tryz.prog 57 #[v] w fun e w' => e = .returned (.agg (tab L)) ∧ Fr [] w w' := by
  have HI := hide h
  obtain ⟨a, cap, rfl, _⟩ := h
  rw [zI_len] at HI ⊢
  obtain ⟨n, hn⟩ : ∃ n, n = L.length := ⟨_, rfl⟩
  have HC : Hid (∀ (k : Nat) (W : World), k < n → Fr [] w W → ∃ x, a = some x ∧ W.cell? (x.add k) = some (.int .i64 (L.getD k 0 : Nat))) := by
    show ∀ (k : Nat) (W : World), _ → _ → _
    intro k W hk hW
    obtain ⟨b0, c0', e0, g0⟩ := HI.out.fr hW
    injection e0 with e0 _ _
    obtain ⟨x, hx, hx2⟩ := g0 k (by rw [zI_len]; omega)
    rw [zI_get] at hx2
    exact ⟨x, by rw [e0, hx], hx2⟩
  rw [← hn] at hl ⊢
  have HN := hide hn
  have HL : Hid (∀ k, k < n → L.getD k 0 ≤ 15) := by
    show ∀ k, _ → _
    intro k hk
    have e : L.getD k 0 = L[k] := by simp [List.getD, List.getElem?_eq_getElem (show k < L.length by omega)]
    rw [e]; exact hL _ (List.getElem_mem _)
  have HLL := hide hL
  obtain ⟨B, hB⟩ : ∃ B, B = w.heap.size := ⟨_, rfl⟩
  have HB := hide hB
  obtain ⟨T, hT⟩ : ∃ T, T = tab L := ⟨_, rfl⟩
  rw [← hT]
  have HT := hide hT
  clear hn HI hL hB hT
  go_enter Tryz.func57, Tryz.ntmps57
  go_wp2_with fail
  obtain ⟨w0, hw0⟩ : ∃ w0, w0 = (w.alloc (.cells Z32 130)).alloc (.cells Z32 130) := ⟨_, rfl⟩
  have HA0 : Hid (Ar w0 (w.heap.size + 1) 130 32 (fun _ => 0)) := by
    show Ar _ _ _ _ _
    rw [hw0]
    refine ⟨_, heap_alloc_eq (by simp), rfl, fun i hi => ?_⟩
    exact zeros32 i hi
  have HR0 : Hid (w0.heap[w.heap.size]? = some (.cells Z32 130 (0, 0))) := by
    show _ = _
    rw [hw0, heap_alloc_lt (by simp)]
    exact heap_alloc_eq rfl
  have HF0 : Hid (Fr [] w w0) := by
    show Fr _ _ _
    rw [hw0]
    exact ((Fr.refl _ _).alloc _).alloc _
  rw [← hw0]
  clear hw0
  go_loopg [9] (n + 1) (fun gk i wr => ∃ (k : Nat), gk = n + 1 - k ∧ k ≤ n ∧ i = .int .i64 k ∧ Ar wr (w.heap.size + 1) 130 32 (tg1 L k) ∧ wr.heap[w.heap.size]? = some (.cells Z32 130 (0, 0)) ∧ Fr [] w wr)
  case atStart => exact ⟨0, rfl, by omega, rfl, HA0.out.ext (fun i _ => (tg1_zero L i).symm), HR0.out, HF0.out⟩
  case round =>
    obtain ⟨k, hgk, hk, rfl, ha, hr, hf⟩ := hrel
    have HGK := hide hgk
    have HA := hide ha
    have HR := hide hr
    have HF := hide hf
    clear hgk
    by_cases hlt : k < n
    · obtain ⟨x, rfl, hx⟩ := HC.out k wr hlt hf
      have hxb := World.block_lt_of_cell? wr _ hx
      have hy15 := HL.out k hlt
      obtain ⟨y, hy⟩ : ∃ y, y = L.getD k 0 := ⟨_, rfl⟩
      have HTG := hide (tg1_succ (L := L) (k := k) (by have := HN.out; omega))
      rw [← hy] at hx hy15
      simp only [← hy] at HTG
      have HY := hide hy
      clear hy hr
      by_cases hp : 0 < y
      · have hc := ha.cell (i := y) (by omega)
        have hfz := ha.froz y
        have hBl := ha.lt
        have hcb : 0 ≤ tg1 L k y ∧ tg1 L k y ≤ 1000 := by
          unfold tg1
          rw [if_pos (by omega)]
          have h1 := cnt_le (L.take k) y
          have h2 : (L.take k).length ≤ n := by simp; have := HN.out; omega
          omega
        obtain ⟨c, hcd⟩ : ∃ c, c = tg1 L k y := ⟨_, rfl⟩
        rw [← hcd] at hc hcb
        have HCD := hide hcd
        have b0 : (0 : Int) ≤ (y : Int) ∧ (y : Int) < 16 := by omega
        have hp2 : (0 : Int) < (y : Int) := by omega
        clear hcd ha hf
        go_wp2_with fail
        go_roundg (n + 1 - (k + 1))
        case measure => have := HGK.out; omega
        case rel =>
          refine ⟨k + 1, rfl, by omega, by go_num, ?_, ?_, HF.out.setCell (.inr (by simp)) _⟩
          · refine (HA.out.set (m := y) (by omega) (c + 1)).ext fun i hi => ?_
            rw [HTG.out i, HCD.out]
            by_cases he : i = y
            · subst he
              have h1 : i = i ∧ 0 < i ∧ i < 16 := ⟨rfl, hp, by omega⟩
              rw [if_pos h1]; simp only [if_true]
            · have h1 : ¬ (i = y ∧ 0 < i ∧ i < 16) := fun h => he h.1
              rw [if_neg h1]; simp only [if_neg he]
          · rw [heap_set_other (by simp)]
            exact HR.out
      · obtain rfl : y = 0 := by omega
        clear ha hf
        go_wp2_with fail
        go_roundg (n + 1 - (k + 1))
        case measure => have := HGK.out; omega
        case rel =>
          refine ⟨k + 1, rfl, by omega, by go_num, HA.out.ext fun i hi => ?_, HR.out, HF.out⟩
          rw [HTG.out i]
          have h1 : ¬ (i = 0 ∧ 0 < i ∧ i < 16) := by omega
          rw [if_neg h1]
    · obtain rfl : k = n := by omega
      have HA1 : Hid (Ar wr (w.heap.size + 1) 130 32 (tg2 L 1)) := by
        refine hide (HA.out.ext fun i hi => ?_)
        unfold tg1 tg2
        rw [HN.out, List.take_length]
        by_cases h1 : i < 16
        · rw [if_pos h1, if_pos h1]
        · rw [if_neg h1, if_neg h1]
          by_cases h2 : i < 16 + 1
          · rw [if_pos h2, show i - 16 = 0 by omega]; rfl
          · rw [if_neg h2]
      clear ha hr hf
      go_wp2_with fail
      go_loopg [6] 17 (fun gk i wr => ∃ (m : Nat), gk = 18 - m ∧ 1 ≤ m ∧ m ≤ 16 ∧ i = .int .i64 m ∧ Ar wr (w.heap.size + 1) 130 32 (tg2 L m) ∧ wr.heap[w.heap.size]? = some (.cells Z32 130 (0, 0)) ∧ Fr [] w wr)
      case atStart => exact ⟨1, by omega, by omega, by omega, rfl, HA1.out, HR.out, HF.out⟩
      case round =>
        obtain ⟨m, hgm, hm1, hm, rfl, ha, hr, hf⟩ := hrel
        have HGM := hide hgm
        have HA := hide ha
        have HR := hide hr
        have HF := hide hf
        clear hgm hr hf
        by_cases hlt : m < 16
        · have hc0 := ha.cell (i := 16 + (m - 1)) (by omega)
          have hc1 := ha.cell (i := m - 1) (by omega)
          have hc2 := ha.cell (i := 16 + m) (by omega)
          have hfz := ha.froz (16 + m)
          have hBl := ha.lt
          have hv0 : 0 ≤ tg2 L m (16 + (m - 1)) ∧ tg2 L m (16 + (m - 1)) ≤ 16384000 := by
            unfold tg2
            rw [if_neg (by omega), if_pos (by omega)]
            have := fst_le HLL.out (16 + (m - 1) - 16) (by omega)
            have := HN.out
            omega
          have hv1 : 0 ≤ tg2 L m (m - 1) ∧ tg2 L m (m - 1) ≤ 1000 := by
            unfold tg2
            rw [if_pos (by omega)]
            have := cnt_le L (m - 1)
            have := HN.out
            omega
          have HNEW : Hid ((tg2 L m (16 + (m - 1)) + tg2 L m (m - 1)) * 2 = (fst L m : Int)) := by
            show _ = _
            unfold tg2
            rw [if_neg (by omega), if_pos (by omega), if_pos (by omega)]
            obtain ⟨j, rfl⟩ : ∃ j, m = j + 1 := ⟨m - 1, by omega⟩
            rw [fst, show 16 + (j + 1 - 1) - 16 = j by omega, show j + 1 - 1 = j by omega]
            omega
          obtain ⟨x0, hx0⟩ : ∃ x, x = tg2 L m (16 + (m - 1)) := ⟨_, rfl⟩
          obtain ⟨x1, hx1⟩ : ∃ x, x = tg2 L m (m - 1) := ⟨_, rfl⟩
          obtain ⟨x2, hx2⟩ : ∃ x, x = tg2 L m (16 + m) := ⟨_, rfl⟩
          rw [← hx0] at hc0 hv0 HNEW
          rw [← hx1] at hc1 hv1 HNEW
          rw [← hx2] at hc2
          clear ha hx0 hx1 hx2
          have n1 : ((m : Int) - 1).toNat = m - 1 := by omega
          have b1 : (0 : Int) ≤ (m : Int) - 1 ∧ (m : Int) - 1 < 16 := by omega
          have b2 : (0 : Int) ≤ (m : Int) ∧ (m : Int) < 16 := by omega
          have b3 : (1 : Int) ≤ (m : Int) := by omega
          have z1 : IntKind.i64.wrap ((m : Int) - 1) = (m : Int) - 1 := IntWalk.i64_in _ (by omega)
          have z2 : IntKind.i64.wrap (x0 + x1) = x0 + x1 := IntWalk.i64_in _ (by omega)
          have k0 : ∀ u, (wr.setCell ⟨w.heap.size + 1, 16 + m, none⟩ u).cell? ⟨w.heap.size + 1, 16 + (m - 1), none⟩ = some (.int .i64 x0) := fun u => by
            rw [cell_set_ne (by omega)]; exact hc0
          have k1 : ∀ u, (wr.setCell ⟨w.heap.size + 1, 16 + m, none⟩ u).cell? ⟨w.heap.size + 1, m - 1, none⟩ = some (.int .i64 x1) := fun u => by
            rw [cell_set_ne (by omega)]; exact hc1
          go_upto_region 11 with (fail)
          go_region_held3 (fun W => W.cell? ⟨w.heap.size + 1, 16 + (m - 1), none⟩ = some (.int .i64 x0) ∧ W.cell? ⟨w.heap.size + 1, m - 1, none⟩ = some (.int .i64 x1)) (go_keep) (fail)
          rw [show IntKind.i64.wrap ((x0 + x1) * 2) = (x0 + x1) * 2 from IntWalk.i64_in _ (by omega), HNEW.out]
          clear hc0 hc1 hc2 hfz n1 z1 z2 k0 k1
          go_wp2_with fail
          go_roundg (18 - (m + 1))
          case measure => have := HGM.out; omega
          case rel =>
            refine ⟨m + 1, rfl, by omega, by omega, by go_num, ?_, ?_, (HF.out.setCell (.inr (by simp)) _).drew⟩
            · refine Ar.ext (g := fun i => if i = 16 + m then (fst L m : Int) else tg2 L m i) ((HA.out.set (m := 16 + m) (by omega) _).keep rfl) fun i hi => ?_
              unfold tg2
              by_cases he : i = 16 + m
              · subst he
                simp only [if_true]
                rw [if_neg (by omega), if_pos (by omega), show 16 + m - 16 = m by omega]
              · simp only [if_neg he]
                by_cases h1 : i < 16
                · rw [if_pos h1, if_pos h1]
                · rw [if_neg h1, if_neg h1]
                  by_cases h2 : i < 16 + m
                  · rw [if_pos h2, if_pos (by omega)]
                  · rw [if_neg h2, if_neg (by omega)]
            · exact (heap_set_other (by simp)).trans HR.out
        · obtain rfl : m = 16 := by omega
          have hce : ∀ j v, (tab L).toList[j]? = some v → wr.cell? ((⟨w.heap.size + 1, 0, none⟩ : Addr).add j) = some v := by
            intro j v hj
            have hj2 : j < 32 := by
              have := (List.getElem?_eq_some_iff.1 hj).1
              simpa [tab] using this
            rw [Addr.add_lit, Nat.zero_add, ha.cell hj2, ← hj]
            simp only [tab, List.getElem?_map, List.getElem?_range hj2, Option.map_some]
            congr 2
            unfold tg2 tg
            by_cases h1 : j < 16
            · rw [if_pos h1, if_pos h1]
            · rw [if_neg h1, if_neg h1, if_pos (by omega)]
          have hts : (tab L).size = 32 := by simp [tab]
          have hone : (tab L).toList.all (·.oneCell') = true := by
            simp [tab, Value.oneCell']
          have hinfo : (Tryz.prog.info? 130).map (·.size) = some (tab L).size := by
            rw [hts]
            kernel_rfl
          clear ha
          rw [← HT.out] at hce hts hone hinfo
          have HCE := hide hce
          have HONE := hide hone
          have HINFO := hide hinfo
          have HTS := hide hts
          clear hce hone hinfo hts
          have hzs : Z32.size = T.size := by rw [HTS.out]; rfl
          have HZS := hide hzs
          clear hzs
          go_wp2_with (first | ((with_reducible refine wpList_load_agg rfl 130 (.tmp 3) ?_ ⟨w.heap.size + 1, 0, none⟩ T _ ?_ Tryz.underlying130 ?_ HINFO.out HCE.out ?_); rfl; rfl; rfl) | ((with_reducible refine wpList_store_row rfl 130 (.tmp 2) (.tmp 42) ?_ ?_ w.heap.size T 130 Z32 HR.out ?_ ?_ HINFO.out HZS.out HONE.out ?_); rfl; rfl; rfl; rfl))
          have hset := setRow_heap wr w.heap.size Z32 T 130 (0, 0) HR.out
          refine bodyPost_ret (results_cell_row rfl _ _ w.heap.size 130 T (0, 0) _ rfl hset Tryz.underlying130 rfl HINFO.out) rfl ?_
          exact ⟨rfl, HF.out.andThen (T := [w.heap.size]) ⟨rfl, rfl, rfl, by simp, fun k _ hk => setRow_other wr w.heap.size k _ (by simpa using hk)⟩ (by simp)⟩
end Go.Proofs.YthmhcnnigepohaaGreatDoor.Hf
