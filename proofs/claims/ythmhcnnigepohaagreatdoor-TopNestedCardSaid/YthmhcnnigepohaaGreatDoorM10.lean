/- SHA-256 in the program and in the reference: rotate, rotr. -/
import Derived.Test.YthmhcnnigepohaaGreatDoorM07
import Derived.Test.YthmhcnnigepohaaGreatDoorM02
import Derived.Test.YthmhcnnigepohaaGreatDoorChecked
import Derived.BigRegion
namespace Go.Proofs.YthmhcnnigepohaaGreatDoor.Dg
open Go.RowKit

theorem rot28_any (x n : Int) (hn : 0 ≤ n ∧ n ≤ 32) (w : World) :
    Calls Tryz.prog 43 #[.int .u32 x, .int .i64 n] w fun e w' => e = .returned (.int .u32 (rotI x n.toNat)) ∧ ∃ m, w' = w.drewN m := by
  have HR : Hid (rotI x n.toNat = bits .or .u32 (x / 2 ^ n.toNat) (IntKind.u32.wrap (x * 2 ^ (32 - n).toNat))) := by
    show rotI x n.toNat = _
    unfold rotI
    rw [show (32 - n).toNat = 32 - n.toNat by omega]
  go_enter Tryz.func43, Tryz.ntmps43
  go_upto_region 1 with (fail)
  go_quiet (fail)
  go_wp2
  go_ret
  rw [HR.out]
  exact ⟨rfl, _, rfl⟩

end Go.Proofs.YthmhcnnigepohaaGreatDoor.Dg

/- SHA-256 in the program: one block is added to the state. -/
namespace Go.Proofs.YthmhcnnigepohaaGreatDoor.Dg
open Go.RowKit

def St.at_ (s : St) : Nat → Int
  | 0 => s.a
  | 1 => s.b
  | 2 => s.c
  | 3 => s.d
  | 4 => s.e
  | 5 => s.f
  | 6 => s.g
  | _ => s.h
/-- The object's block: eight words, the rest, the length. -/
def HashF (w : World) (hb : Nat) (f : Nat → Int) (rest : ByteArray) (n : Int) : Prop :=
  w.heap[hb]? = some (.cells #[.int .u32 (f 0), .int .u32 (f 1), .int .u32 (f 2), .int .u32 (f 3), .int .u32 (f 4), .int .u32 (f 5), .int .u32 (f 6), .int .u32 (f 7), .string rest, .int .i64 n] 61 (0, 0))
abbrev HashIs (w : World) (hb : Nat) (s : St) (rest : ByteArray) (n : Int) : Prop := HashF w hb s.at_ rest n
/-- The table of constants, as it lies in the program's variable. -/
def Kst (w : World) : Prop := ∀ t, t < 64 → w.cell? ⟨1, t, none⟩ = some (.int .u32 (KK.getD t 0))
theorem Kst.lt {w : World} (h : Kst w) : 1 < w.heap.size := World.block_lt_of_cell? w _ (h 0 (by omega))
theorem Kst.fr {w w' : World} {S : List Nat} (h : Kst w) (hf : Fr S w w') (h0 : 1 ∉ S) : Kst w' := fun t ht => by
  rw [World.cell?_of_block (w := w) (hf.block 1 h.lt h0)]
  exact h t ht

/-- The eight words of the working state. -/
def VIs (w : World) (V : Nat) (v : St) : Prop :=
  w.heap[V]? = some (.cells #[.int .u32 v.a, .int .u32 v.b, .int .u32 v.c, .int .u32 v.d, .int .u32 v.e, .int .u32 v.f, .int .u32 v.g, .int .u32 v.h] 58 (0, 0))

/-- The array of 64 words, of which the first are known. -/
def WIs (w : World) (W : Nat) (L : List Int) : Prop := ∃ cs, w.heap[W]? = some (.cells cs 106 (0, 0)) ∧ cs.size = 64 ∧ ∀ i, i < L.length → cs[i]? = some (.int .u32 (L.getD i 0))
theorem WIs.fr {S : List Nat} {w w' : World} {W : Nat} {L : List Int} (h : WIs w W L) (hf : Fr S w w') (hn : W ∉ S) : WIs w' W L := by
  obtain ⟨cs, h1, h2⟩ := h
  exact ⟨cs, (hf.block _ (lt_of_blk h1) hn).trans h1, h2⟩
theorem WIs.at_ {w : World} {W : Nat} {L : List Int} (h : WIs w W L) (i : Nat) (hi : i < L.length) : w.cell? ⟨W, i, none⟩ = some (.int .u32 (L.getD i 0)) := by
  obtain ⟨cs, h1, h2, h3⟩ := h
  rw [cell_blk h1]
  exact h3 i hi
theorem WIs.lt {w : World} {W : Nat} {L : List Int} (h : WIs w W L) : W < w.heap.size := by
  obtain ⟨cs, h1, h2, h3⟩ := h
  exact lt_of_blk h1
theorem WIs.free {w : World} {W : Nat} {L : List Int} (h : WIs w W L) (i : Nat) (hi : i < 64) : (∃ v, w.cell? ⟨W, i, none⟩ = some v) ∧ w.frozen? ⟨W, i, none⟩ = false := by
  obtain ⟨cs, h1, h2, h3⟩ := h
  refine ⟨⟨cs[i]'(by omega), ?_⟩, froz_blk h1 _⟩
  rw [cell_blk h1, Array.getElem?_eq_getElem (by omega)]
theorem WIs.push {w : World} {W : Nat} {L : List Int} (h : WIs w W L) (v : Int) (hl : L.length < 64) : WIs (w.setCell ⟨W, L.length, none⟩ (.int .u32 v)) W (L ++ [v]) := by
  obtain ⟨cs, h1, h2, h3⟩ := h
  refine ⟨_, heap_set_same h1, by simpa using h2, fun i hi => ?_⟩
  simp only [List.length_append, List.length_cons, List.length_nil] at hi
  rw [Array.getElem?_setIfInBounds]
  by_cases he : L.length = i
  · subst he
    rw [if_pos rfl, if_pos (by omega)]
    simp [List.getD]
  · rw [if_neg he, h3 i (by omega)]
    simp [List.getD, List.getElem?_append_left (show i < L.length by omega)]

theorem byte_at (b : ByteArray) (i : Nat) (h : i < b.size) : (((b[i]'h).toNat : Nat) : Int) % 4294967296 = byteAt b.data.toList i := by
  have h1 : b.data.toList.getD i 0 = b[i]'h := by
    rw [List.getD_eq_getElem?_getD, List.getElem?_eq_getElem (by simpa using h)]
    rfl
  unfold byteAt
  rw [h1]
  have := (b[i]'h).toNat_lt
  omega
theorem u32_mod (n : Int) : W32 n = n % 4294967296 := IntKind.wrap_u32 n
theorem word_eq (b : ByteArray) (t : Nat) (h0 : 4 * t < b.size) (h1 : 4 * t + 1 < b.size) (h2 : 4 * t + 2 < b.size) (h3 : 4 * t + 3 < b.size) :
    bits .or .u32 (bits .or .u32 (bits .or .u32 (((b[4 * t]'h0).toNat : Int) % 4294967296 * 16777216 % 4294967296) (((b[4 * t + 1]'h1).toNat : Int) % 4294967296 * 65536 % 4294967296)) (((b[4 * t + 2]'h2).toNat : Int) % 4294967296 * 256 % 4294967296)) (((b[4 * t + 3]'h3).toNat : Int) % 4294967296) = word b.data.toList t := by
  unfold word
  rw [byte_at, byte_at, byte_at, byte_at, u32_mod, u32_mod, u32_mod]
  rfl

theorem rx_eq (kw ww a b c d e f g h : Int) :
    (h + bits .xor .u32 (bits .xor .u32 (rotI e 6) (rotI e 11)) (rotI e 25) + bits .xor .u32 (bits .and .u32 e f) (bits .and .u32 (bits .xor .u32 IntKind.u32.max e) g) + kw + ww) % 4294967296 = rx kw ww ⟨a, b, c, d, e, f, g, h⟩ := by
  have hm : IntKind.u32.max = 4294967295 := by decide
  rw [hm]
  unfold rx bg1 chf
  simp only [u32_mod]
  omega
theorem ry_eq (a b c d e f g h : Int) :
    (bits .xor .u32 (bits .xor .u32 (rotI a 2) (rotI a 13)) (rotI a 22) + bits .xor .u32 (bits .xor .u32 (bits .and .u32 a b) (bits .and .u32 a c)) (bits .and .u32 b c)) % 4294967296 = ry ⟨a, b, c, d, e, f, g, h⟩ := by
  unfold ry bg0 mjf
  rw [u32_mod]
theorem vis_step {w : World} {V m : Nat} {a b c d e f g h kw ww xx yy : Int} (hv : VIs w V ⟨a, b, c, d, e, f, g, h⟩) (hx : xx = rx kw ww ⟨a, b, c, d, e, f, g, h⟩) (hy : yy = ry ⟨a, b, c, d, e, f, g, h⟩) :
    VIs (((((((((w.drewN m).setCell ⟨V, 0, none⟩ (.int .u32 ((xx + yy) % 4294967296))).setCell ⟨V, 1, none⟩ (.int .u32 a)).setCell ⟨V, 2, none⟩ (.int .u32 b)).setCell ⟨V, 3, none⟩ (.int .u32 c)).setCell ⟨V, 4, none⟩ (.int .u32 ((d + xx) % 4294967296))).setCell ⟨V, 5, none⟩ (.int .u32 e)).setCell ⟨V, 6, none⟩ (.int .u32 f)).setCell ⟨V, 7, none⟩ (.int .u32 g)) V (rnd kw ww ⟨a, b, c, d, e, f, g, h⟩) := by
  have h0 : w.heap[V]? = some (.cells #[.int .u32 a, .int .u32 b, .int .u32 c, .int .u32 d, .int .u32 e, .int .u32 f, .int .u32 g, .int .u32 h] 58 (0, 0)) := hv
  unfold VIs rnd
  rw [← hx, ← hy, u32_mod, u32_mod]
  simp [heap_set, h0, setAt_cells]
theorem eight_fr {w w0 : World} {S : List Nat} {V m : Nat} {v0 v1 v2 v3 v4 v5 v6 v7 : Value} (h : Fr S w0 w) (hn : V ∈ S ∨ w0.heap.size ≤ V) :
    Fr S w0 (((((((((w.drewN m).setCell ⟨V, 0, none⟩ v0).setCell ⟨V, 1, none⟩ v1).setCell ⟨V, 2, none⟩ v2).setCell ⟨V, 3, none⟩ v3).setCell ⟨V, 4, none⟩ v4).setCell ⟨V, 5, none⟩ v5).setCell ⟨V, 6, none⟩ v6).setCell ⟨V, 7, none⟩ v7) :=
  (((((((((h.drewN m).setCell hn _).setCell hn _).setCell hn _).setCell hn _).setCell hn _).setCell hn _).setCell hn _).setCell hn _)
/-- The eight words, of which the first i are summed. -/
def part (s v : St) (i : Nat) : Nat → Int := fun j => if j < i then W32 (s.at_ j + v.at_ j) else s.at_ j
theorem part_zero (s v : St) : part s v 0 = s.at_ := by funext j; unfold part; rw [if_neg (by omega)]
theorem part_all (s v : St) (j : Nat) (hj : j < 8) : part s v 8 j = (plus s v).at_ j := by
  unfold part
  rw [if_pos hj]
  match j, hj with
  | 0, _ => rfl
  | 1, _ => rfl
  | 2, _ => rfl
  | 3, _ => rfl
  | 4, _ => rfl
  | 5, _ => rfl
  | 6, _ => rfl
  | 7, _ => rfl
theorem HashF.ext {w : World} {hb : Nat} {f g : Nat → Int} {rest : ByteArray} {n : Int} (h : HashF w hb f rest n) (e : ∀ j, j < 8 → f j = g j) : HashF w hb g rest n := by
  unfold HashF at *
  rw [h, e 0 (by omega), e 1 (by omega), e 2 (by omega), e 3 (by omega), e 4 (by omega), e 5 (by omega), e 6 (by omega), e 7 (by omega)]
theorem HashF.at_ {w : World} {hb : Nat} {f : Nat → Int} {rest : ByteArray} {n : Int} (h : HashF w hb f rest n) (i : Nat) (hi : i < 8) : w.cell? ⟨hb, i, none⟩ = some (.int .u32 (f i)) := by
  rw [cell_blk h]
  match i, hi with
  | 0, _ => rfl
  | 1, _ => rfl
  | 2, _ => rfl
  | 3, _ => rfl
  | 4, _ => rfl
  | 5, _ => rfl
  | 6, _ => rfl
  | 7, _ => rfl
theorem HashF.set {w : World} {hb : Nat} {f : Nat → Int} {rest : ByteArray} {n : Int} (h : HashF w hb f rest n) (i : Nat) (hi : i < 8) (x : Int) : HashF (w.setCell ⟨hb, i, none⟩ (.int .u32 x)) hb (fun j => if j = i then x else f j) rest n := by
  unfold HashF at *
  rw [heap_set, h]
  match i, hi with
  | 0, _ => rfl
  | 1, _ => rfl
  | 2, _ => rfl
  | 3, _ => rfl
  | 4, _ => rfl
  | 5, _ => rfl
  | 6, _ => rfl
  | 7, _ => rfl
theorem VIs.at_ {w : World} {V : Nat} {v : St} (h : VIs w V v) (i : Nat) (hi : i < 8) : w.cell? ⟨V, i, none⟩ = some (.int .u32 (v.at_ i)) := by
  rw [cell_blk h]
  match i, hi with
  | 0, _ => rfl
  | 1, _ => rfl
  | 2, _ => rfl
  | 3, _ => rfl
  | 4, _ => rfl
  | 5, _ => rfl
  | 6, _ => rfl
  | 7, _ => rfl

theorem quiet_at {P : Program} {f : FuncId} {args : Array Value} {w : World} {n k : Nat} {v : Value}
    (h : Calls P f args (w.drewN (n + k)) fun e w' => e = .returned v ∧ ∃ m, w' = (w.drewN (n + k)).drewN m) : Calls P f args (w.drewN (n + k)) fun e w'' => e = .returned v ∧ ∃ m, w'' = w.drewN (n + m) :=
  h.mono fun _ _ ⟨he, m, hm⟩ => ⟨he, k + m, by rw [hm, World.drewN_drewN, Nat.add_assoc]⟩

set_option maxRecDepth 100000 in
set_option maxHeartbeats 2000000 in
theorem add25_any (hb : Nat) (s : St) (rest : ByteArray) (n : Int) (b : ByteArray) (w : World) (h : HashIs w hb s rest n) (hk : Kst w) (hsz : b.size = 64) :
    Calls Tryz.prog 22 #[.pointer (some ⟨hb, 0, none⟩), .string b] w fun e w' => e = .returned (.tuple #[]) ∧ HashIs w' hb (addS KK s b.data.toList) rest n ∧ Fr [hb] w w' := by
  have HH := hide h
  have HK := hide hk
  have hhb := lt_of_blk h
  obtain ⟨l, hl⟩ : ∃ l, l = b.data.toList := ⟨_, rfl⟩
  rw [← hl]
  have HL := hide hl
  clear h hk hl
  go_enter Tryz.func22, Tryz.ntmps22
  go_wp2_with fail
  obtain ⟨W, hW⟩ : ∃ W, W = w.heap.size := ⟨_, rfl⟩
  have HW := hide hW
  rw [← hW]
  clear hW
  go_loopg [22] 17 (fun gk i wr => ∃ t : Nat, gk = 17 - t ∧ t ≤ 16 ∧ i = .int .i64 t ∧ WIs wr W (sched l t) ∧ Fr [] w wr)
  case atStart => exact ⟨0, rfl, by omega, rfl, ⟨_, heap_alloc_eq HW.out, by simp, by simp [sched]⟩, (Fr.refl _ _).alloc _⟩
  case round =>
    obtain ⟨t, hgk, ht, rfl, hw, hf⟩ := hrel
    have HGK := hide hgk
    have HWI := hide hw
    have HFR := hide hf
    clear hgk hf
    by_cases hlt : t < 16
    · obtain ⟨⟨ov, hov⟩, hfz⟩ := hw.free t (by omega)
      have hWl := hw.lt
      clear hw
      have hb0 : (0 : Int) ≤ 4 * (t : Int) ∧ 4 * (t : Int) < 64 := by omega
      have hv0 : IntKind.i64.wrap (4 * (t : Int)) = 4 * (t : Int) := IntWalk.i64_in _ (by omega)
      have hb1 : (0 : Int) ≤ 4 * (t : Int) + 1 ∧ 4 * (t : Int) + 1 < 64 := by omega
      have hv1 : IntKind.i64.wrap (4 * (t : Int) + 1) = 4 * (t : Int) + 1 := IntWalk.i64_in _ (by omega)
      have hb2 : (0 : Int) ≤ 4 * (t : Int) + 2 ∧ 4 * (t : Int) + 2 < 64 := by omega
      have hv2 : IntKind.i64.wrap (4 * (t : Int) + 2) = 4 * (t : Int) + 2 := IntWalk.i64_in _ (by omega)
      have hb3 : (0 : Int) ≤ 4 * (t : Int) + 3 ∧ 4 * (t : Int) + 3 < 64 := by omega
      have hv3 : IntKind.i64.wrap (4 * (t : Int) + 3) = 4 * (t : Int) + 3 := IntWalk.i64_in _ (by omega)
      have hb4 : (0 : Int) ≤ (t : Int) ∧ (t : Int) < 64 := by omega
      go_upto_region 4 with (fail)
      go_region
      have hwd : Hid (WIs ((wr.setCell ⟨W, t, none⟩ (.int .u32 (word l t))).drew) W (sched l (t + 1))) := by
        show WIs _ _ _
        have h1 := HWI.out.push (word l t) (by rw [sched_len]; omega)
        rw [sched_len] at h1
        show WIs _ W (sched l t ++ [if t < 16 then word l t else nxt (sched l t) t])
        rw [if_pos hlt]
        exact h1.fr ((Fr.refl [] _).drew) (by simp)
      have hfd : Hid (Fr [] w ((wr.setCell ⟨W, t, none⟩ (.int .u32 (word l t))).drew)) := by
        show Fr [] w _
        exact (HFR.out.setCell (.inr (by have := HW.out; simp; omega)) _).drew
      have hwe := word_eq b t (by omega) (by omega) (by omega) (by omega)
      rw [← HL.out] at hwe
      rw [hwe]
      go_wp2
      go_roundg (17 - (t + 1))
      case measure => have := HGK.out; omega
      case rel => exact ⟨t + 1, rfl, by omega, by go_num, hwd.out, hfd.out⟩
    · obtain rfl : t = 16 := by omega
      clear hw
      go_wp2_with fail
      go_loopg [6] 49 (fun gk i wr => ∃ t : Nat, gk = 65 - t ∧ 16 ≤ t ∧ t ≤ 64 ∧ i = .int .i64 t ∧ WIs wr W (sched l t) ∧ Fr [] w wr)
      case atStart => exact ⟨16, by omega, by omega, by omega, rfl, HWI.out, HFR.out⟩
      case round =>
        obtain ⟨t, hgk, ht16, ht64, rfl, hw, hf⟩ := hrel
        have HGK := hide hgk
        have HWI := hide hw
        have HFR := hide hf
        clear hgk hf
        by_cases hlt : t < 64
        · obtain ⟨⟨ov, hov⟩, hfz⟩ := hw.free t (by omega)
          have hWl := hw.lt
          have e15 := hw.at_ (t - 15) (by rw [sched_len]; omega)
          have e2 := hw.at_ (t - 2) (by rw [sched_len]; omega)
          have e16 := hw.at_ (t - 16) (by rw [sched_len]; omega)
          have e7 := hw.at_ (t - 7) (by rw [sched_len]; omega)
          obtain ⟨x15, hx15⟩ : ∃ x, x = (sched l t).getD (t - 15) 0 := ⟨_, rfl⟩
          obtain ⟨x2, hx2⟩ : ∃ x, x = (sched l t).getD (t - 2) 0 := ⟨_, rfl⟩
          obtain ⟨x16, hx16⟩ : ∃ x, x = (sched l t).getD (t - 16) 0 := ⟨_, rfl⟩
          obtain ⟨x7, hx7⟩ : ∃ x, x = (sched l t).getD (t - 7) 0 := ⟨_, rfl⟩
          rw [← hx15] at e15
          rw [← hx2] at e2
          rw [← hx16] at e16
          rw [← hx7] at e7
          have HNX : Hid (nxt (sched l t) t = W32 (W32 (W32 (x16 + sg0 x15) + x7) + sg1 x2)) := by
            show _ = _
            rw [hx15, hx2, hx16, hx7]
            rfl
          clear hw hx15 hx2 hx16 hx7
          have hb15 : (0 : Int) ≤ (t : Int) - 15 ∧ (t : Int) - 15 < 64 := by omega
          have hb2 : (0 : Int) ≤ (t : Int) - 2 ∧ (t : Int) - 2 < 64 := by omega
          have hb16 : (0 : Int) ≤ (t : Int) - 16 ∧ (t : Int) - 16 < 64 := by omega
          have hb7 : (0 : Int) ≤ (t : Int) - 7 ∧ (t : Int) - 7 < 64 := by omega
          have hbt : (0 : Int) ≤ (t : Int) ∧ (t : Int) < 64 := by omega
          have n15 : ((t : Int) - 15).toNat = t - 15 := by omega
          have n2 : ((t : Int) - 2).toNat = t - 2 := by omega
          have n16 : ((t : Int) - 16).toNat = t - 16 := by omega
          have n7 : ((t : Int) - 7).toNat = t - 7 := by omega
          go_upto_region 9 with (fail)
          go_quiet (fail)
          go_upto_region 10 with (fail)
          go_cut [9] from 69 to 76 (fun s wd => s = .int .u32 (sg0 x15) ∧ ∃ m, wd = wr.drewN m)
          case first =>
            go_wp2_with (go_at_call 43; refine (rot28_any _ _ (by decide) _).mono ?_; rintro e w' ⟨rfl, m, rfl⟩)
            go_meet
            case rel => exact ⟨rfl, _, rfl⟩
          case rest =>
          obtain ⟨rfl, m1, rfl⟩ := hcut
          go_upto_region 11 with (fail)
          go_cut [10] from 77 to 84 (fun s wd => s = .int .u32 (sg1 x2) ∧ ∃ m, wd = wr.drewN m)
          case first =>
            go_wp2_with (go_at_call 43; refine (rot28_any _ _ (by decide) _).mono ?_; rintro e w' ⟨rfl, m, rfl⟩)
            go_meet
            case rel => exact ⟨rfl, _, rfl⟩
          case rest =>
          obtain ⟨rfl, m2, rfl⟩ := hcut
          obtain ⟨y1, hy1⟩ : ∃ y, y = sg0 x15 := ⟨_, rfl⟩
          obtain ⟨y2, hy2⟩ : ∃ y, y = sg1 x2 := ⟨_, rfl⟩
          rw [← hy1, ← hy2]
          have HY1 := hide hy1
          have HY2 := hide hy2
          clear hy1 hy2
          have hX := hide (rfl : wr.drewN m2 = wr.drewN m2)
          go_upto_region 12 with (fail)
          go_region
          have hval : (x16 + y1 + x7 + y2) % 4294967296 = nxt (sched l t) t := by
            rw [HNX.out, HY1.out, HY2.out, u32_mod, u32_mod, u32_mod]
            omega
          rw [hval]
          go_wp2
          go_roundg (65 - (t + 1))
          case measure => have := HGK.out; omega
          case rel =>
            refine ⟨t + 1, rfl, by omega, by omega, by go_num, ?_, (HFR.out.drewN _).setCell (.inr (by have := HW.out; simp; omega)) _⟩
            have h1 := (HWI.out.fr ((Fr.refl [] wr).drewN (m2 + 1)) (by simp)).push (nxt (sched l t) t) (by rw [sched_len]; omega)
            rw [sched_len] at h1
            show WIs _ W (sched l t ++ [if t < 16 then word l t else nxt (sched l t) t])
            rw [if_neg (by omega)]
            exact h1
        · obtain rfl : t = 64 := by omega
          clear hw
          have hblk := HFR.out.block hb hhb (by simp)
          rw [HH.out] at hblk
          obtain ⟨S64, hS64⟩ : ∃ S, S = sched l 64 := ⟨_, rfl⟩
          rw [← hS64] at HWI
          have HS := hide hS64
          have hSl : S64.length = 64 := by rw [hS64]; exact sched_len _ _
          clear hS64
          have hne : hb ≠ W := by have := HW.out; omega
          have hhr : hb < wr.heap.size := lt_of_blk hblk
          have HBLK := hide hblk
          have c0 : wr.cell? ⟨hb, 0, none⟩ = some (.int .u32 (s.at_ 0)) := cell_blk hblk 0
          have c1 : wr.cell? ⟨hb, 1, none⟩ = some (.int .u32 (s.at_ 1)) := cell_blk hblk 1
          have c2 : wr.cell? ⟨hb, 2, none⟩ = some (.int .u32 (s.at_ 2)) := cell_blk hblk 2
          have c3 : wr.cell? ⟨hb, 3, none⟩ = some (.int .u32 (s.at_ 3)) := cell_blk hblk 3
          have c4 : wr.cell? ⟨hb, 4, none⟩ = some (.int .u32 (s.at_ 4)) := cell_blk hblk 4
          have c5 : wr.cell? ⟨hb, 5, none⟩ = some (.int .u32 (s.at_ 5)) := cell_blk hblk 5
          have c6 : wr.cell? ⟨hb, 6, none⟩ = some (.int .u32 (s.at_ 6)) := cell_blk hblk 6
          have c7 : wr.cell? ⟨hb, 7, none⟩ = some (.int .u32 (s.at_ 7)) := cell_blk hblk 7
          have c8 : wr.cell? ⟨hb, 8, none⟩ = some (.string rest) := cell_blk hblk 8
          have c9 : wr.cell? ⟨hb, 9, none⟩ = some (.int .i64 n) := cell_blk hblk 9
          have cf0 : wr.frozen? ⟨hb, 0, none⟩ = false := froz_blk hblk 0
          have cf1 : wr.frozen? ⟨hb, 1, none⟩ = false := froz_blk hblk 1
          have cf2 : wr.frozen? ⟨hb, 2, none⟩ = false := froz_blk hblk 2
          have cf3 : wr.frozen? ⟨hb, 3, none⟩ = false := froz_blk hblk 3
          have cf4 : wr.frozen? ⟨hb, 4, none⟩ = false := froz_blk hblk 4
          have cf5 : wr.frozen? ⟨hb, 5, none⟩ = false := froz_blk hblk 5
          have cf6 : wr.frozen? ⟨hb, 6, none⟩ = false := froz_blk hblk 6
          have cf7 : wr.frozen? ⟨hb, 7, none⟩ = false := froz_blk hblk 7
          have cf8 : wr.frozen? ⟨hb, 8, none⟩ = false := froz_blk hblk 8
          have cf9 : wr.frozen? ⟨hb, 9, none⟩ = false := froz_blk hblk 9
          clear hblk
          obtain ⟨s0', s1', s2', s3', s4', s5', s6', s7'⟩ := s
          simp only [St.at_] at c0 c1 c2 c3 c4 c5 c6 c7
          go_wp2_with fail
          obtain ⟨wo, rfl⟩ : ∃ x, x = wr := ⟨_, rfl⟩
          obtain ⟨V, hV⟩ : ∃ V, V = wo.heap.size := ⟨_, rfl⟩
          have HVV := hide hV
          rw [← hV]
          have hWr : W < wo.heap.size := HWI.out.lt
          have hVW : V ≠ W ∧ V ≠ hb ∧ W ≠ V := by omega
          clear hV
          go_loopg [103] 65 (fun gk i wq => ∃ (t : Nat) (v : St), gk = 65 - t ∧ t ≤ 64 ∧ i = .int .i64 t ∧ VIs wq V v ∧ v = rnds KK S64 ⟨s0', s1', s2', s3', s4', s5', s6', s7'⟩ t ∧ Fr [] wo wq)
          case atStart => exact ⟨0, ⟨s0', s1', s2', s3', s4', s5', s6', s7'⟩, rfl, by omega, rfl, heap_alloc_eq HVV.out, rfl, (Fr.refl _ _).alloc _⟩
          case round =>
            obtain ⟨t, v, hgk, ht, rfl, hv, hvr, hf⟩ := hrel
            have HGK := hide hgk
            have HVI := hide hv
            have HVR := hide hvr
            have HFQ := hide hf
            clear hgk hvr
            by_cases hlt : t < 64
            · have hV1 : V < wr.heap.size := lt_of_blk hv
              have ew := (HWI.out.fr hf (by simp)).at_ t (by omega)
              have ek := ((HK.out.fr HFR.out (by simp)).fr hf (by simp)) t hlt
              obtain ⟨kw, hkw⟩ : ∃ x, x = KK.getD t 0 := ⟨_, rfl⟩
              obtain ⟨ww, hww⟩ : ∃ x, x = S64.getD t 0 := ⟨_, rfl⟩
              rw [← hkw] at ek
              rw [← hww] at ew
              have hbt : (0 : Int) ≤ (t : Int) ∧ (t : Int) < 64 := by omega
              obtain ⟨va, vb, vc, vd, ve, vf, vg, vh⟩ := v
              have hv' : wr.heap[V]? = some (.cells #[.int .u32 va, .int .u32 vb, .int .u32 vc, .int .u32 vd, .int .u32 ve, .int .u32 vf, .int .u32 vg, .int .u32 vh] 58 (0, 0)) := hv
              have HKW := hide hkw
              have HWW := hide hww
              clear hv hf c0 c1 c2 c3 c4 c5 c6 c7 c8 c9 cf0 cf1 cf2 cf3 cf4 cf5 cf6 cf7 cf8 cf9 hkw hww
              have y0 : wr.cell? ⟨V, 0, none⟩ = some (.int .u32 va) := cell_blk hv' 0
              have y1 : wr.cell? ⟨V, 1, none⟩ = some (.int .u32 vb) := cell_blk hv' 1
              have y2 : wr.cell? ⟨V, 2, none⟩ = some (.int .u32 vc) := cell_blk hv' 2
              have y3 : wr.cell? ⟨V, 3, none⟩ = some (.int .u32 vd) := cell_blk hv' 3
              have y4 : wr.cell? ⟨V, 4, none⟩ = some (.int .u32 ve) := cell_blk hv' 4
              have y5 : wr.cell? ⟨V, 5, none⟩ = some (.int .u32 vf) := cell_blk hv' 5
              have y6 : wr.cell? ⟨V, 6, none⟩ = some (.int .u32 vg) := cell_blk hv' 6
              have y7 : wr.cell? ⟨V, 7, none⟩ = some (.int .u32 vh) := cell_blk hv' 7
              have yf0 : wr.frozen? ⟨V, 0, none⟩ = false := froz_blk hv' 0
              have yf1 : wr.frozen? ⟨V, 1, none⟩ = false := froz_blk hv' 1
              have yf2 : wr.frozen? ⟨V, 2, none⟩ = false := froz_blk hv' 2
              have yf3 : wr.frozen? ⟨V, 3, none⟩ = false := froz_blk hv' 3
              have yf4 : wr.frozen? ⟨V, 4, none⟩ = false := froz_blk hv' 4
              have yf5 : wr.frozen? ⟨V, 5, none⟩ = false := froz_blk hv' 5
              have yf6 : wr.frozen? ⟨V, 6, none⟩ = false := froz_blk hv' 6
              have yf7 : wr.frozen? ⟨V, 7, none⟩ = false := froz_blk hv' 7
              clear hv'
              go_upto_region 17 with (fail)
              go_quiet (fail)
              go_upto_region 18 with (fail)
              go_cut [19] from 118 to 145 (fun s wd => s = .int .u32 (rx kw ww ⟨va, vb, vc, vd, ve, vf, vg, vh⟩) ∧ ∃ m, wd = wr.drewN m)
              case first =>
                go_quiet (exact quiet_at (rot28_any _ _ (by decide) _))
                go_wp2
                go_meet
                case rel => exact ⟨congrArg (Value.int .u32) (rx_eq kw ww va vb vc vd ve vf vg vh), _, rfl⟩
              case rest =>
              obtain ⟨rfl, m1, rfl⟩ := hcut
              obtain ⟨xx, hxx⟩ : ∃ x, x = rx kw ww ⟨va, vb, vc, vd, ve, vf, vg, vh⟩ := ⟨_, rfl⟩
              rw [← hxx]
              have HXX := hide hxx
              clear hxx
              go_upto_region 19 with (fail)
              go_cut [20] from 146 to 165 (fun s wd => s = .int .u32 (ry ⟨va, vb, vc, vd, ve, vf, vg, vh⟩) ∧ ∃ m, wd = wr.drewN m)
              case first =>
                go_wp2_with (go_at_call 43; refine (rot28_any _ _ (by decide) _).mono ?_; rintro e w' ⟨rfl, m, rfl⟩)
                go_meet
                case rel => exact ⟨congrArg (Value.int .u32) (ry_eq va vb vc vd ve vf vg vh), _, rfl⟩
              case rest =>
              obtain ⟨rfl, m2, rfl⟩ := hcut
              obtain ⟨yy, hyy⟩ : ∃ x, x = ry ⟨va, vb, vc, vd, ve, vf, vg, vh⟩ := ⟨_, rfl⟩
              rw [← hyy]
              have HYY := hide hyy
              clear hyy
              go_wp2_with fail
              go_roundg (65 - (t + 1))
              case measure => have := HGK.out; omega
              case rel =>
                refine ⟨t + 1, rnd kw ww ⟨va, vb, vc, vd, ve, vf, vg, vh⟩, rfl, by omega, by go_num, vis_step HVI.out HXX.out HYY.out, ?_, eight_fr HFQ.out (.inr (by have := HVV.out; omega))⟩
                rw [HVR.out, HKW.out, HWW.out]
                rfl
            · obtain rfl : t = 64 := by omega
              have hFA := HFR.out.andThen hf (by simp)
              have hFA2 : Fr [hb] w wr := hFA.mono (by simp)
              have HFA := hide hFA2
              have HHR : Hid (HashF wr hb (part ⟨s0', s1', s2', s3', s4', s5', s6', s7'⟩ v 0) rest n) := by
                show HashF _ _ _ _ _
                rw [part_zero]
                exact (hFA.block hb hhb (by simp)).trans HH.out
              obtain ⟨sv, hsv⟩ : ∃ x : St, x = ⟨s0', s1', s2', s3', s4', s5', s6', s7'⟩ := ⟨_, rfl⟩
              rw [← hsv] at HHR HVR
              have HSV := hide hsv
              clear hv hf hFA hFA2 hsv c0 c1 c2 c3 c4 c5 c6 c7 c8 c9 cf0 cf1 cf2 cf3 cf4 cf5 cf6 cf7 cf8 cf9
              go_wp2_with fail
              go_loopg [181] 9 (fun gk i wq => ∃ t : Nat, gk = 9 - t ∧ t ≤ 8 ∧ i = .int .i64 t ∧ VIs wq V v ∧ HashF wq hb (part sv v t) rest n ∧ Fr [hb] w wq)
              case atStart => exact ⟨0, rfl, by omega, rfl, HVI.out, HHR.out, HFA.out⟩
              case round =>
                obtain ⟨t, hgk, ht, rfl, hv, hh, hf⟩ := hrel
                have HGK := hide hgk
                have HF4 := hide hf
                have HVI4 := hide hv
                have HH4 := hide hh
                clear hgk hf
                by_cases hlt : t < 8
                · have eh := hh.at_ t hlt
                  have ev := hv.at_ t hlt
                  have fh : wr.frozen? ⟨hb, t, none⟩ = false := froz_blk hh _
                  have hl1 := lt_of_blk hh
                  have hl2 := lt_of_blk hv
                  obtain ⟨hx, hhx⟩ : ∃ x, x = part sv v t t := ⟨_, rfl⟩
                  obtain ⟨vx, hvx⟩ : ∃ x, x = v.at_ t := ⟨_, rfl⟩
                  rw [← hhx] at eh
                  rw [← hvx] at ev
                  have HNW : Hid (HashF (wr.setCell ⟨hb, t, none⟩ (.int .u32 ((hx + vx) % 4294967296))) hb (part sv v (t + 1)) rest n) := by
                    show HashF _ _ _ _ _
                    refine (hh.set t hlt _).ext fun j hj => ?_
                    rw [hhx, hvx]
                    unfold part
                    by_cases h1 : j = t
                    · rw [if_pos h1, if_neg (by omega), if_pos (by omega), u32_mod, h1]
                    · rw [if_neg h1]
                      by_cases h2 : j < t
                      · rw [if_pos h2, if_pos (by omega)]
                      · rw [if_neg h2, if_neg (by omega)]
                  have hb8 : (0 : Int) ≤ (t : Int) ∧ (t : Int) < 8 := by omega
                  clear hv hh hhx hvx
                  go_upto_region 25 with (fail)
                  go_region
                  go_wp2
                  go_roundg (9 - (t + 1))
                  case measure => have := HGK.out; omega
                  case rel =>
                    refine ⟨t + 1, rfl, by omega, by go_num, ?_, HNW.out, (HF4.out.setCell (.inl (by simp)) _).drew⟩
                    exact (heap_set_other (a := ⟨hb, t, none⟩) (by exact hVW.2.1)).trans HVI4.out
                · obtain rfl : t = 8 := by omega
                  clear hv hh
                  go_wp2
                  refine bodyPost_end (results_none rfl _ _ _) rfl ?_
                  refine ⟨rfl, ?_, HF4.out⟩
                  rw [← HSV.out]
                  have hadd : addS KK sv l = plus sv v := by
                    unfold addS
                    rw [HVR.out, HS.out]
                  rw [hadd]
                  exact HH4.out.ext (part_all sv v)
end Go.Proofs.YthmhcnnigepohaaGreatDoor.Dg

/- SHA-256 in the program: the state's bytes; a new object. -/
namespace Go.Proofs.YthmhcnnigepohaaGreatDoor.Dg
open Go.RowKit

theorem elem5 : ElemOk Tryz.prog 22 5 1 1 := ⟨Tryz.underlying22, by
  have h : (Tryz.prog.info? 5).map (fun i => (i.zero.map (fun z => z.cells.size), i.size, i.bytes)) = some (some 1, 1, 1) := by kernel_rfl
  cases hq : Tryz.prog.info? 5 with
  | none => rw [hq] at h; cases h
  | some i =>
    rw [hq] at h
    simp only [Option.map_some, Option.some.injEq, Prod.mk.injEq] at h
    obtain ⟨h1, h2, h3⟩ := h
    cases hz : i.zero with
    | none => rw [hz] at h1; cases h1
    | some z =>
      rw [hz] at h1
      simp only [Option.map_some, Option.some.injEq] at h1
      exact ⟨i, z, rfl, hz, h2, h3, h1⟩, by decide⟩

/-- A slice of bytes that the run owns. -/
def bcells (l : List UInt8) : List Value := l.map (fun b => .int .u8 (b.toNat : Int))
def BAt (w : World) (v : Value) (g : Option Nat) (l : List UInt8) : Prop := SlAt 5 1 w v g l.length (bcells l)
theorem bcells_len (l : List UInt8) : (bcells l).length = l.length := by simp [bcells]
theorem bcells_append (l m : List UInt8) : bcells (l ++ m) = bcells l ++ bcells m := by simp [bcells]

/-- 'string(b)'. -/
theorem BAt.str {w : World} {v : Value} {g : Option Nat} {l : List UInt8} (h : BAt w v g l) (h0 : 0 < l.length) : (convert 22 9 v).run Tryz.prog w = .ok (.string ⟨l.toArray⟩) w ∧ ∃ b off cap, v = .slice (some ⟨b, off, none⟩) l.length cap := by
  rcases h with ⟨_, _, h1, _⟩ | ⟨b, off, cap, cur, hg, hv, hblk, hnc, hfit, hxs, hcells⟩
  · omega
  · subst hv
    refine ⟨run_convert_bytes_back w 22 9 5 ⟨b, off, none⟩ cap l Tryz.underlying22 Tryz.underlying5 Tryz.underlying9 (fun j hj => ?_), b, off, cap, rfl⟩
    rw [Addr.add_lit, cell_blk hblk]
    exact hcells j _ (by simp [bcells, List.getElem?_eq_getElem hj])

theorem BAt.push {w : World} {v : Value} {g : Option Nat} {l : List UInt8} (h : BAt w v g l) (m : List UInt8) (cs : Array Value) (hcs : cs.toList = bcells m) (hm : 0 < m.length) (hl : l.length + m.length ≤ 1000000) :
    ∃ v' w' g', (Builtin.append_ #[22, 22] 22 #[v, .slice (some ⟨w.heap.size, 0, none⟩) m.length m.length]).run Tryz.prog (w.alloc (.cells cs 5)) = .ok v' w' ∧ BAt w' v' g' (l ++ m) ∧ Fr g.toList w w' ∧ (g' = g ∨ ∃ b, g' = some b ∧ w.heap.size ≤ b) := by
  have hk : BAt (w.alloc (.cells cs 5)) v g l := SlAt.keep h (fun b hb => heap_alloc_lt (by obtain ⟨cur, hc⟩ := SlAt.lt h b hb; exact lt_of_blk hc))
  obtain ⟨v', w', g', happ, hsl', hfr', hg'⟩ := SlAt.append elem5 hk 22 ⟨w.heap.size, 0, none⟩ m.length m.length (bcells m) hm (by rw [bcells_len]; omega) (fun j u hj => by
    rw [Addr.add_lit, cell_blk (heap_alloc_eq rfl), ← Array.getElem?_toList, hcs]
    simpa using hj) (by simp [bcells, Value.oneCell']) (by omega) (by unfold maxLen; omega)
  refine ⟨v', w', g', happ, ?_, ((Fr.refl _ w).alloc _).andThen hfr' (fun x hx => .inl hx), ?_⟩
  · unfold BAt
    rw [List.length_append, bcells_append]
    exact hsl'
  · rcases hg' with h1 | ⟨h1, _⟩
    · exact .inl h1
    · exact .inr ⟨_, h1, by simp⟩

theorem ofNat_val (m : Int) (h : 0 ≤ m ∧ m < 256) : ((UInt8.ofNat m.toNat).toNat : Int) = m := by
  have : (UInt8.ofNat m.toNat).toNat = m.toNat % 256 := by simp
  rw [this]
  omega

def outs (f : Nat → Int) : Nat → List UInt8
  | 0 => []
  | t + 1 => outs f t ++ w4 (f t)
theorem outs_len (f : Nat → Int) : ∀ t, (outs f t).length = 4 * t
  | 0 => rfl
  | t + 1 => by simp [outs, outs_len f t, w4]; omega
theorem outs_all (s : St) : outs s.at_ 8 = out8 s := by
  unfold out8
  simp only [outs, List.nil_append]
  rfl

set_option maxRecDepth 100000 in
set_option maxHeartbeats 1000000 in
theorem bytes26_any (hb : Nat) (s : St) (rest : ByteArray) (n : Int) (w : World) (h : HashIs w hb s rest n) :
    Calls Tryz.prog 44 #[.pointer (some ⟨hb, 0, none⟩)] w fun e w' => e = .returned (.string ⟨(out8 s).toArray⟩) ∧ Fr [] w w' := by
  have HH := hide h
  have hhb := lt_of_blk h
  clear h
  go_enter Tryz.func44, Tryz.ntmps44
  go_wp2_with fail
  go_loopg [3, 7] 9 (fun gk vr i wr => ∃ (t : Nat) (g : Option Nat), gk = 9 - t ∧ t ≤ 8 ∧ i = .int .i64 t ∧ BAt wr vr g (outs s.at_ t) ∧ (∀ b, g = some b → w.heap.size ≤ b) ∧ Fr [] w wr)
  case atStart => exact ⟨0, none, rfl, by omega, rfl, SlAt.nil_ _, by simp, Fr.refl _ _⟩
  case round =>
    obtain ⟨t, g, hgk, ht, rfl, hbt, hg, hf⟩ := hrel
    have HGK := hide hgk
    have HB := hide hbt
    have HG := hide hg
    have HF := hide hf
    clear hgk hg
    by_cases hlt : t < 8
    · have eh := (show HashIs wr hb s rest n from (hf.block hb hhb (by simp)).trans HH.out).at_ t hlt
      obtain ⟨x, hx⟩ : ∃ x, x = s.at_ t := ⟨_, rfl⟩
      rw [← hx] at eh
      have hhr : hb < wr.heap.size := by have := hf.size; omega
      have hb8 : (0 : Int) ≤ (t : Int) ∧ (t : Int) < 8 := by omega
      have hcs : (#[.int .u8 (x / 16777216 % 256), .int .u8 (x / 65536 % 256), .int .u8 (x / 256 % 256), .int .u8 (x % 256)] : Array Value).toList = bcells (w4 x) := by
        unfold bcells w4
        simp only [List.map_cons, List.map_nil]
        rw [ofNat_val _ (by omega), ofNat_val _ (by omega), ofNat_val _ (by omega), ofNat_val _ (by omega)]
        rfl
      have hlen := outs_len s.at_ t
      obtain ⟨v', w', g', happ, hb', hf', hg'⟩ := BAt.push hbt (w4 x) _ hcs (by simp [w4]) (by simp [w4]; omega)
      have hap : (Builtin.append_ #[22, 22] 22 #[u3, .slice (some ⟨wr.heap.size, 0, none⟩) 4 4]).run Tryz.prog (wr.alloc (.cells #[.int .u8 (x / 16777216 % 256), .int .u8 (x / 65536 % 256), .int .u8 (x / 256 % 256), .int .u8 (x % 256)] 5)) = .ok v' w' := happ
      have HB' := hide hb'
      have HF' := hide hf'
      have HG' := hide hg'
      have HX := hide hx
      clear hbt happ hb' hf' hg' hx hcs hf
      go_wp2_with (at_builtin; refine wpList_append_run rfl _ _ 22 rfl hap rfl rfl ?_)
      go_roundg (9 - (t + 1))
      case measure => have := HGK.out; omega
      case rel =>
        refine ⟨t + 1, g', rfl, by omega, by go_num, ?_, ?_, HF.out.andThen HF'.out (fun y hy => .inr (HG.out y (by simpa using hy)))⟩
        · show BAt _ _ _ (outs s.at_ t ++ w4 (s.at_ t))
          rw [← HX.out]
          exact HB'.out
        · intro b2 hb2
          rcases HG'.out with h1 | ⟨b3, h1, h2⟩
          · exact HG.out b2 (h1 ▸ hb2)
          · rw [h1] at hb2
            injection hb2 with hb2
            have := HF.out.size
            omega
    · obtain rfl : t = 8 := by omega
      rw [outs_all] at hbt
      obtain ⟨hstr, b, off, cap, rfl⟩ := hbt.str (by simp [out8, w4])
      clear hbt hf
      go_wp2
      go_ret
      exact ⟨rfl, HF.out⟩

theorem begin24_any (w : World) :
    Calls Tryz.prog 21 #[] w fun e w' => e = .returned (.agg #[.int .u32 1779033703, .int .u32 3144134277, .int .u32 1013904242, .int .u32 2773480762, .int .u32 1359893119, .int .u32 2600822924, .int .u32 528734635, .int .u32 1541459225]) ∧ Fr [] w w' := by
  go_enter Tryz.func21, Tryz.ntmps21
  go_wp2
  refine bodyPost_ret (results_cell_row rfl _ _ w.heap.size 58 _ (0, 0) _ rfl (heap_alloc_eq rfl) Tryz.underlying58 rfl (by kernel_rfl)) rfl ?_
  exact ⟨rfl, (Fr.refl _ _).alloc _⟩

theorem new13_any (w : World) :
    Calls Tryz.prog 11 #[] w fun e w' => ∃ hb, e = .returned (.pointer (some ⟨hb, 0, none⟩)) ∧ w.heap.size ≤ hb ∧ HashIs w' hb s0 ⟨#[]⟩ 0 ∧ Fr [] w w' := by
  go_enter Tryz.func11, Tryz.ntmps11
  go_wp2_with fail
  refine (begin24_any _).mono ?_
  rintro e w1 ⟨rfl, hf⟩
  have HF := hide hf
  clear hf
  go_wp2
  go_ret
  exact ⟨_, rfl, HF.out.size, heap_alloc_eq rfl, HF.out.alloc _⟩
end Go.Proofs.YthmhcnnigepohaaGreatDoor.Dg

/- SHA-256 in the program: Write. -/
namespace Go.Proofs.YthmhcnnigepohaaGreatDoor.Dg
open Go.RowKit

theorem write14_nil (s : ByteArray) (w : World) :
    Calls Tryz.prog 12 #[.pointer none, .string s] w fun e w' => e = .returned (.tuple #[]) ∧ w = w' := by
  go_enter Tryz.func12, Tryz.ntmps12
  go_wp2
  refine bodyPost_ret (results_none rfl _ _ _) rfl ?_
  exact ⟨rfl, rfl⟩

theorem HashF.setRest {w : World} {hb : Nat} {f : Nat → Int} {rest : ByteArray} {n : Int} (h : HashF w hb f rest n) (r : ByteArray) : HashF (w.setCell ⟨hb, 8, none⟩ (.string r)) hb f r n := by
  unfold HashF at *
  rw [heap_set, h]
  rfl
theorem HashF.setN {w : World} {hb : Nat} {f : Nat → Int} {rest : ByteArray} {n : Int} (h : HashF w hb f rest n) (m : Int) : HashF (w.setCell ⟨hb, 9, none⟩ (.int .i64 m)) hb f rest m := by
  unfold HashF at *
  rw [heap_set, h]
  rfl

set_option maxRecDepth 100000 in
set_option maxHeartbeats 1000000 in
theorem write14_any (hb : Nat) (st : St) (rest s : ByteArray) (n : Int) (w : World) (h : HashIs w hb st rest n) (hk : Kst w) (h0 : hb ≠ 1) (hn : 0 ≤ n ∧ n ≤ 1000000) (hs : s.size ≤ 1000000) (hr : rest.size ≤ 1000000) :
    Calls Tryz.prog 12 #[.pointer (some ⟨hb, 0, none⟩), .string s] w fun e w' => e = .returned (.tuple #[]) ∧ Fr [hb] w w' ∧
      ∃ r : ByteArray, r.data.toList = (comp KK st (rest.data.toList ++ s.data.toList)).2 ∧ HashIs w' hb (comp KK st (rest.data.toList ++ s.data.toList)).1 r (n + s.size) := by
  have HH := hide h
  have HK := hide hk
  have hhb := lt_of_blk h
  have d8 : w.cell? ⟨hb, 8, none⟩ = some (.string rest) := by rw [cell_blk h]; rfl
  have d9 : w.cell? ⟨hb, 9, none⟩ = some (.int .i64 n) := by rw [cell_blk h]; rfl
  have f8 : w.frozen? ⟨hb, 8, none⟩ = false := froz_blk h _
  have f9 : w.frozen? ⟨hb, 9, none⟩ = false := froz_blk h _
  obtain ⟨L, hL⟩ : ∃ L, L = comp KK st (rest.data.toList ++ s.data.toList) := ⟨_, rfl⟩
  have HL := hide hL
  rw [← hL]
  clear h hk hL
  go_enter Tryz.func12, Tryz.ntmps12
  go_wp2_with fail
  have HW1 : Hid (HashIs ((w.setCell ⟨hb, 9, none⟩ (.int .i64 (n + s.size))).setCell ⟨hb, 8, none⟩ (.string (rest ++ s))) hb st (rest ++ s) (n + s.size)) := (HH.out.setN _).setRest _
  have HF1 : Hid (Fr [hb] w ((w.setCell ⟨hb, 9, none⟩ (.int .i64 (n + s.size))).setCell ⟨hb, 8, none⟩ (.string (rest ++ s)))) := ((Fr.refl _ _).setCell (.inl (by simp)) _).setCell (.inl (by simp)) _
  have hsz : (rest ++ s).size ≤ 2000000 := by simp; omega
  obtain ⟨r0, hr0⟩ : ∃ r, r = rest ++ s := ⟨_, rfl⟩
  rw [← hr0] at HW1 HF1 hsz ⊢
  have HR0 := hide hr0
  clear hr0
  obtain ⟨nn, hnn⟩ : ∃ m, m = n + (s.size : Int) := ⟨_, rfl⟩
  rw [← hnn] at HW1 HF1 ⊢
  have HNN := hide hnn
  clear hnn
  generalize (w.setCell ⟨hb, 9, none⟩ (.int .i64 nn)).setCell ⟨hb, 8, none⟩ (.string r0) = w1 at *
  clear d8 d9 f8 f9
  go_loopg [] (r0.size + 1) (fun gk wr => ∃ (st' : St) (r : ByteArray), gk = r.size + 1 ∧ r.size ≤ 2000000 ∧ comp KK st' r.data.toList = L ∧ HashIs wr hb st' r nn ∧ Fr [hb] w wr)
  case atStart => exact ⟨st, r0, rfl, hsz, by rw [HL.out, HR0.out]; simp, HW1.out, HF1.out⟩
  case round =>
    obtain ⟨st', r, rfl, hrs, hcmp, hh, hf⟩ := hrel
    have HC := hide hcmp
    have HI := hide hh
    have HF := hide hf
    have d8 : wr.cell? ⟨hb, 8, none⟩ = some (.string r) := by rw [cell_blk hh]; rfl
    have f8 : wr.frozen? ⟨hb, 8, none⟩ = false := froz_blk hh _
    have hhr := lt_of_blk hh
    have hkr := HK.out.fr hf (by simp; omega)
    have HKR := hide hkr
    clear hcmp hh hf hkr
    by_cases hge : 64 ≤ r.size
    · have HA := hide (add25_any hb st' r nn (r.extract 0 64) wr HI.out HKR.out (by simp; omega))
      go_wp2_with fail
      refine (unhide HA).mono ?_
      rintro e w2 ⟨rfl, hh2, hf2⟩
      have d8' : w2.cell? ⟨hb, 8, none⟩ = some (.string r) := by rw [cell_blk hh2]; rfl
      have f8' : w2.frozen? ⟨hb, 8, none⟩ = false := froz_blk hh2 _
      have hh2l := lt_of_blk hh2
      have HI2 := hide hh2
      have HF2 := hide (HF.out.trans hf2)
      clear hh2 hf2 HA d8 f8 hhr
      go_wp2_with fail
      go_roundg (r.size - 64 + 1)
      case measure => omega
      case rel =>
        refine ⟨addS KK st' (r.extract 0 64).data.toList, r.extract 64 r.size, by simp, by simp; omega, ?_, HI2.out.setRest _, HF2.out.setCell (.inl (by simp)) _⟩
        have h1 : (r.extract 0 64).data.toList = r.data.toList.take 64 := by simp
        have h2 : (r.extract 64 r.size).data.toList = r.data.toList.drop 64 := by
          simp
          exact List.take_of_length_le (by simp)
        rw [h1, h2, ← HC.out]
        conv => rhs; rw [comp_ge (by simpa using hge)]
    · go_wp2
      refine bodyPost_end (results_none rfl _ _ _) rfl ?_
      have hcl : comp KK st' r.data.toList = (st', r.data.toList) := comp_lt (by simp; omega)
      have hc := HC.out
      rw [hcl] at hc
      refine ⟨rfl, HF.out, r, by rw [← hc], ?_⟩
      rw [← hc, ← HNN.out]
      exact HI.out
end Go.Proofs.YthmhcnnigepohaaGreatDoor.Dg
