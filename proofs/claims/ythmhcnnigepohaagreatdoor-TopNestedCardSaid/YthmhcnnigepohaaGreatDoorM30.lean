/- field: four bytes, the least significant one first. -/
import Derived.Test.YthmhcnnigepohaaGreatDoorM29
import Derived.Lib.SlBytesRow
import Derived.Deep.RegionHeld3
namespace Go.Proofs.YthmhcnnigepohaaGreatDoor.En
open Go.RowKit
set_option linter.unusedVariables false

set_option maxRecDepth 100000 in
theorem valid58_4 (w : World) : Calls Tryz.prog 58 #[.int .i64 4] w fun e w' => e = .returned (.bool true) ∧ w = w' := by
  go_enter Tryz.func58, Tryz.ntmps58
  go_wp2
  go_ret
  exact ⟨rfl, rfl⟩
theorem info5 : (Tryz.prog.info? 5).map (fun i => (i.zero, i.size, i.bytes)) = some (some (.int .u8 0), 1, 1) := by kernel_rfl
/-- 'make([]byte, n)'. -/
theorem mk_bytes (n : Nat) (hn : n ≤ 1000000) (w : World) : (Instr.makeSlice 22 (.int .i64 n) (.int .i64 n)).run Tryz.prog w = .ok (.slice (some ⟨w.heap.size, 0, none⟩) n n) (w.alloc (.cells (madeCells #[.int .u8 0] n) 5)) := by
  cases hq : Tryz.prog.info? 5 with
  | none => have h := info5; rw [hq] at h; cases h
  | some i =>
    have h := info5
    rw [hq] at h
    simp only [Option.map_some, Option.some.injEq, Prod.mk.injEq] at h
    obtain ⟨h1, h2, h3⟩ := h
    have hr := run_make (P := Tryz.prog) w 22 5 i (.int .u8 0) Tryz.underlying22 hq h1 .i64 .i64 (n : Int) (n : Int) (by omega) (by omega) (by rw [h3]; omega) (by omega)
    rw [h2, show (Value.int .u8 0).cells = #[.int .u8 0] from rfl] at hr
    simpa using hr
/-- Four bytes in a block. -/
def B4 (w : World) (b : Nat) (f : Nat → UInt8) : Prop :=
  b < w.heap.size ∧ (∀ k, k < 4 → w.cell? ⟨b, k, none⟩ = some (.int .u8 ((f k).toNat : Int))) ∧ (∀ k, k < 4 → w.frozen? ⟨b, k, none⟩ = false)
theorem B4.set {w : World} {b i : Nat} {f : Nat → UInt8} (h : B4 w b f) (hi : i < 4) (x : UInt8) : B4 (w.setCell ⟨b, i, none⟩ (.int .u8 (x.toNat : Int))) b (fun k => if k = i then x else f k) := by
  obtain ⟨h1, h2, h3⟩ := h
  refine ⟨by rw [World.size_setCell]; exact h1, fun k hk => ?_, fun k hk => by rw [World.frozen?_setCell]; exact h3 k hk⟩
  by_cases e : k = i
  · subst e
    show _ = some (Value.int .u8 ((if k = k then x else f k).toNat : Int))
    rw [if_pos rfl]
    exact World.cell?_setCell_same w ⟨b, k, none⟩ _ (h2 k hk)
  · show _ = some (Value.int .u8 ((if k = i then x else f k).toNat : Int))
    rw [if_neg e, Hf.cell_set_ne (fun h => e h.symm)]
    exact h2 k hk
theorem B4.drew {w : World} {b : Nat} {f : Nat → UInt8} (h : B4 w b f) : B4 w.drew b f := h
theorem B4.ext {w : World} {b : Nat} {f g : Nat → UInt8} (h : B4 w b f) (e : ∀ k, k < 4 → f k = g k) : B4 w b g := ⟨h.1, fun k hk => by rw [← e k hk]; exact h.2.1 k hk, h.2.2⟩
theorem B4.str {w : World} {b c : Nat} {f : Nat → UInt8} (h : B4 w b f) : (convert 22 9 (.slice (some ⟨b, 0, none⟩) 4 c)).run Tryz.prog w = .ok (.string ⟨[f 0, f 1, f 2, f 3].toArray⟩) w :=
  run_convert_bytes_back w 22 9 5 ⟨b, 0, none⟩ c [f 0, f 1, f 2, f 3] Tryz.underlying22 Tryz.underlying5 Tryz.underlying9 (fun j hj => by
    rw [Addr.add_lit, Nat.zero_add, h.2.1 j (by simpa using hj)]
    rcases (show j = 0 ∨ j = 1 ∨ j = 2 ∨ j = 3 by simp at hj; omega) with rfl | rfl | rfl | rfl <;> rfl)
def f4 (a0 a1 a2 a3 : UInt8) (k : Nat) : UInt8 := if k = 0 then a0 else if k = 1 then a1 else if k = 2 then a2 else a3
/-- The i-th byte of a number. -/
def pb (n i : Nat) : UInt8 := UInt8.ofNat (n / 256 ^ i % 256)
theorem pb_val (n i : Nat) : (pb n i).toNat = n / 256 ^ i % 256 := by
  unfold pb
  rw [UInt8.toNat_ofNat', Nat.mod_mod]
def le4 (n : Nat) : List UInt8 := [pb n 0, pb n 1, pb n 2, pb n 3]
def be4 (n : Nat) : List UInt8 := [pb n 3, pb n 2, pb n 1, pb n 0]

set_option maxRecDepth 100000 in
set_option maxHeartbeats 4000000 in
theorem put40_any (n : Nat) (w : World) (hn : n < 4294967296) : Calls Tryz.prog 40 #[.int .i64 n, .int .i64 4] w fun e w' => e = .returned (.string ⟨(be4 n).toArray⟩) ∧ Fr [] w w' := by
  have H58 := hide (valid58_4 w)
  have m4 : ∀ W, (Instr.makeSlice 22 (.int .i64 4) (.int .i64 4)).run Tryz.prog W = .ok (.slice (some ⟨W.heap.size, 0, none⟩) 4 4) (W.alloc (.cells (madeCells #[.int .u8 0] 4) 5)) := fun W => mk_bytes 4 (by omega) W
  obtain ⟨B, hB⟩ : ∃ B, B = w.heap.size := ⟨_, rfl⟩
  obtain ⟨w0, hw0⟩ : ∃ x, x = w.alloc (.cells (madeCells #[.int .u8 0] 4) 5) := ⟨_, rfl⟩
  have HB := hide hB
  have HW0 := hide hw0
  have HF0 : Hid (Fr [] w w0) := by rw [hw0]; exact hide ((Fr.refl _ _).alloc _)
  have HC0 : Hid (B4 w0 B (fun _ => 0)) := by
    rw [hw0]
    refine hide ⟨by rw [World.size_alloc]; omega, fun k hk => ?_, fun k hk => froz_blk (heap_alloc_eq hB) k⟩
    rw [cell_blk (heap_alloc_eq hB)]
    simp [madeCells, hk, Nat.mod_one]
  clear hB hw0
  go_enter Tryz.func40, Tryz.ntmps40
  go_wp2_with fail
  refine (unhide H58).mono ?_
  rintro e w1 ⟨rfl, rfl⟩
  have hz : (n : Int) / 4294967296 = 0 := by omega
  have hlt0 : ¬ (n : Int) < 0 := by omega
  go_wp2_with fail
  rw [← HB.out, ← HW0.out]
  clear hz m4
  go_loopg [24] 5 (fun gk i wr => ∃ k : Nat, gk = 5 - k ∧ k ≤ 4 ∧ i = .int .i64 k ∧ B4 wr B (fun j => if 4 - k ≤ j then pb n (3 - j) else 0) ∧ Fr [] w wr)
  case atStart => exact ⟨0, rfl, by omega, rfl, HC0.out.ext (fun k hk => by simp; omega), HF0.out⟩
  case round =>
    obtain ⟨k, hgk, hk, rfl, hb, hf⟩ := hrel
    have HGK := hide hgk
    have HBB := hide hb
    have HF := hide hf
    have hl := hb.1
    have hc0 := hb.2.1 (3 - k) (by omega)
    have hf0 := hb.2.2 (3 - k) (by omega)
    obtain ⟨x, hx⟩ : ∃ x, x = pb n k := ⟨_, rfl⟩
    have hxv := pb_val n k
    rw [← hx] at hxv
    clear hgk hb hf HC0 HF0
    have HR : Hid (k < 4 → B4 (wr.setCell ⟨B, 3 - k, none⟩ (.int .u8 (x.toNat : Int))) B (fun j => if 4 - (k + 1) ≤ j then pb n (3 - j) else 0) ∧ Fr [] w (wr.setCell ⟨B, 3 - k, none⟩ (.int .u8 (x.toNat : Int)))) := by
      refine hide fun h4 => ⟨(HBB.out.set (i := 3 - k) (by omega) x).ext (fun j hj => ?_), HF.out.setCell (.inr (by rw [HB.out]; exact Nat.le_refl _)) _⟩
      by_cases h : j = 3 - k
      · rw [if_pos h, if_pos (by omega), hx, h, show 3 - (3 - k) = k by omega]
      · rw [if_neg h]
        by_cases h2 : 4 - k ≤ j
        · rw [if_pos h2, if_pos (by omega)]
        · rw [if_neg h2, if_neg (by omega)]
    by_cases hlt : k < 4
    · have HR := hide (HR.out hlt)
      rcases (show k = 0 ∨ k = 1 ∨ k = 2 ∨ k = 3 by omega) with rfl | rfl | rfl | rfl
      · have e : (n : Int) % 256 = (x.toNat : Int) := by simp only [Nat.reducePow] at hxv; omega
        clear hx hxv
        go_wp2_with fail
        go_roundg (5 - (0 + 1))
        case measure => have := HGK.out; omega
        case rel => exact ⟨0 + 1, rfl, by omega, by go_num, HR.out.1, HR.out.2⟩
      · have e : (n : Int) / 256 % 256 = (x.toNat : Int) := by simp only [Nat.reducePow] at hxv; omega
        clear hx hxv
        go_wp2_with fail
        go_roundg (5 - (1 + 1))
        case measure => have := HGK.out; omega
        case rel => exact ⟨1 + 1, rfl, by omega, by go_num, HR.out.1, HR.out.2⟩
      · have e : (n : Int) / 65536 % 256 = (x.toNat : Int) := by simp only [Nat.reducePow] at hxv; omega
        clear hx hxv
        go_wp2_with fail
        go_roundg (5 - (2 + 1))
        case measure => have := HGK.out; omega
        case rel => exact ⟨2 + 1, rfl, by omega, by go_num, HR.out.1, HR.out.2⟩
      · have e : (n : Int) / 16777216 = (x.toNat : Int) := by simp only [Nat.reducePow] at hxv; omega
        clear hx hxv
        go_wp2_with fail
        go_roundg (5 - (3 + 1))
        case measure => have := HGK.out; omega
        case rel => exact ⟨3 + 1, rfl, by omega, by go_num, HR.out.1, HR.out.2⟩
    · obtain rfl : k = 4 := by omega
      have hcv := HBB.out.str (c := 4)
      have HX : Hid ([pb n (3 - 0), pb n (3 - 1), pb n (3 - 2), pb n (3 - 3)] = be4 n) := hide rfl
      simp only [Nat.sub_self, Nat.zero_le, if_true] at hcv
      rw [HX.out] at hcv
      go_wp2_with fail
      go_ret
      exact ⟨rfl, HF.out⟩
set_option maxRecDepth 100000 in
set_option maxHeartbeats 4000000 in
theorem rev41_4 (b c : Nat) (a0 a1 a2 a3 : UInt8) (w : World) (h : B4 w b (f4 a0 a1 a2 a3)) : Calls Tryz.prog 41 #[.slice (some ⟨b, 0, none⟩) 4 c] w fun e w' => e = .returned (.tuple #[]) ∧ B4 w' b (f4 a3 a2 a1 a0) ∧ Fr [b] w w' := by
  have H := hide h
  have hS : ∀ (W : World) (k : Nat) (v : Value) (p : Nat), W.cell? ⟨b, p, none⟩ = some v → W.cell? ⟨b, p, none⟩ = some v := fun _ _ _ _ h => h
  clear h hS
  go_enter Tryz.func41, Tryz.ntmps41
  go_wp2_with fail
  go_loopg [2, 3] 3 (fun gk i j wr => (gk = 3 ∧ i = .int .i64 0 ∧ j = .int .i64 3 ∧ B4 wr b (f4 a0 a1 a2 a3) ∧ Fr [b] w wr) ∨ (gk = 2 ∧ i = .int .i64 1 ∧ j = .int .i64 2 ∧ B4 wr b (f4 a3 a1 a2 a0) ∧ Fr [b] w wr) ∨ (gk = 1 ∧ i = .int .i64 2 ∧ j = .int .i64 1 ∧ B4 wr b (f4 a3 a2 a1 a0) ∧ Fr [b] w wr))
  case atStart => exact .inl ⟨rfl, rfl, rfl, H.out, Fr.refl _ _⟩
  case round =>
    rcases hrel with ⟨rfl, rfl, rfl, hb, hf⟩ | ⟨rfl, rfl, rfl, hb, hf⟩ | ⟨rfl, rfl, rfl, hb, hf⟩
    · have HB : Hid (∀ u, u = ((wr.setCell ⟨b, 0, none⟩ (.int .u8 (a3.toNat : Int))).setCell ⟨b, 3, none⟩ (.int .u8 (a0.toNat : Int))).drew → B4 u b (f4 a3 a1 a2 a0) ∧ Fr [b] w u) := hide (by
        rintro u rfl
        refine ⟨(((hb.set (i := 0) (by omega) a3).set (i := 3) (by omega) a0).drew).ext (fun k hk => ?_), ((hf.setCell (.inl (by simp)) _).setCell (.inl (by simp)) _).drew⟩
        rcases (show k = 0 ∨ k = 1 ∨ k = 2 ∨ k = 3 by omega) with rfl | rfl | rfl | rfl <;> rfl)
      have c0 : wr.cell? ⟨b, 0, none⟩ = some (.int .u8 (a0.toNat : Int)) := hb.2.1 0 (by omega)
      have c3 : wr.cell? ⟨b, 3, none⟩ = some (.int .u8 (a3.toNat : Int)) := hb.2.1 3 (by omega)
      have f0 := hb.2.2 0 (by omega)
      have f3 := hb.2.2 3 (by omega)
      have hl := hb.1
      clear hb hf
      go_upto_region 3 with fail
      go_region
      go_wp2_with fail
      go_roundg 2
      case measure => omega
      case rel => exact .inr (.inl ⟨rfl, rfl, rfl, (HB.out _ rfl).1, (HB.out _ rfl).2⟩)
    · have HB : Hid (∀ u, u = ((wr.setCell ⟨b, 1, none⟩ (.int .u8 (a2.toNat : Int))).setCell ⟨b, 2, none⟩ (.int .u8 (a1.toNat : Int))).drew → B4 u b (f4 a3 a2 a1 a0) ∧ Fr [b] w u) := hide (by
        rintro u rfl
        refine ⟨(((hb.set (i := 1) (by omega) a2).set (i := 2) (by omega) a1).drew).ext (fun k hk => ?_), ((hf.setCell (.inl (by simp)) _).setCell (.inl (by simp)) _).drew⟩
        rcases (show k = 0 ∨ k = 1 ∨ k = 2 ∨ k = 3 by omega) with rfl | rfl | rfl | rfl <;> rfl)
      have c0 : wr.cell? ⟨b, 1, none⟩ = some (.int .u8 (a1.toNat : Int)) := hb.2.1 1 (by omega)
      have c3 : wr.cell? ⟨b, 2, none⟩ = some (.int .u8 (a2.toNat : Int)) := hb.2.1 2 (by omega)
      have f0 := hb.2.2 1 (by omega)
      have f3 := hb.2.2 2 (by omega)
      have hl := hb.1
      clear hb hf
      go_upto_region 3 with fail
      go_region
      go_wp2_with fail
      go_roundg 1
      case measure => omega
      case rel => exact .inr (.inr ⟨rfl, rfl, rfl, (HB.out _ rfl).1, (HB.out _ rfl).2⟩)
    · go_wp2_with fail
      refine bodyPost_end (results_none rfl _ _ _) rfl ?_
      exact ⟨rfl, hb, hf⟩

/-- '[]byte(s)' of four bytes. -/
theorem conv4 (w : World) (a0 a1 a2 a3 : UInt8) : ∃ cap W, (convert 9 22 (.string ⟨[a0, a1, a2, a3].toArray⟩)).run Tryz.prog w = .ok (.slice (some ⟨w.heap.size, 0, none⟩) 4 cap) W ∧ Fr [] w W ∧ B4 W w.heap.size (f4 a0 a1 a2 a3) ∧ 4 ≤ cap := by
  have hr := run_bytes_of_string (P := Tryz.prog) w 9 22 5 ⟨[a0, a1, a2, a3].toArray⟩ Tryz.underlying9 Tryz.underlying22 Tryz.underlying5
  have hcap := grownCap_ge w 4 0 5
  refine ⟨_, _, hr, ((Fr.refl _ w).drew).alloc _, ⟨by simp, fun k hk => ?_, fun k hk => ?_⟩, hcap⟩
  · have h1 := World.cell?_alloc_mark w.drew (bytesRow ⟨[a0, a1, a2, a3].toArray⟩ (grownCap w (ByteArray.size ⟨[a0, a1, a2, a3].toArray⟩) 0 5)) 5 ((bytesRow ⟨[a0, a1, a2, a3].toArray⟩ (grownCap w (ByteArray.size ⟨[a0, a1, a2, a3].toArray⟩) 0 5)).size, (bytesRow ⟨[a0, a1, a2, a3].toArray⟩ (grownCap w (ByteArray.size ⟨[a0, a1, a2, a3].toArray⟩) 0 5)).size + 1) k
    refine Eq.trans h1 ?_
    rw [bytesRow_at _ _ k (by simpa using hk)]
    rcases (show k = 0 ∨ k = 1 ∨ k = 2 ∨ k = 3 by omega) with rfl | rfl | rfl | rfl <;> rfl
  · have h2 : (bytesRow ⟨[a0, a1, a2, a3].toArray⟩ (grownCap w (ByteArray.size ⟨[a0, a1, a2, a3].toArray⟩) 0 5)).size ≥ 4 := by
      unfold bytesRow
      simp
    have h3 : (w.drew.alloc (.cells (bytesRow ⟨[a0, a1, a2, a3].toArray⟩ (grownCap w (ByteArray.size ⟨[a0, a1, a2, a3].toArray⟩) 0 5)) 5 ((bytesRow ⟨[a0, a1, a2, a3].toArray⟩ (grownCap w (ByteArray.size ⟨[a0, a1, a2, a3].toArray⟩) 0 5)).size, (bytesRow ⟨[a0, a1, a2, a3].toArray⟩ (grownCap w (ByteArray.size ⟨[a0, a1, a2, a3].toArray⟩) 0 5)).size + 1))).heap[w.heap.size]? = some (.cells (bytesRow ⟨[a0, a1, a2, a3].toArray⟩ (grownCap w (ByteArray.size ⟨[a0, a1, a2, a3].toArray⟩) 0 5)) 5 ((bytesRow ⟨[a0, a1, a2, a3].toArray⟩ (grownCap w (ByteArray.size ⟨[a0, a1, a2, a3].toArray⟩) 0 5)).size, (bytesRow ⟨[a0, a1, a2, a3].toArray⟩ (grownCap w (ByteArray.size ⟨[a0, a1, a2, a3].toArray⟩) 0 5)).size + 1)) := heap_alloc_eq rfl
    simp only [World.frozen?, h3]
    simp
    omega
set_option maxRecDepth 100000 in
set_option maxHeartbeats 4000000 in
theorem putl18_any (n : Nat) (w : World) (hn : n < 4294967296) : Calls Tryz.prog 18 #[.int .i64 n, .int .i64 4] w fun e w' => e = .returned (.string ⟨(le4 n).toArray⟩) ∧ Fr [] w w' := by
  have H40 := hide (put40_any n w hn)
  obtain ⟨bs, hbs⟩ : ∃ b : ByteArray, b = ⟨(be4 n).toArray⟩ := ⟨_, rfl⟩
  rw [← hbs] at H40
  have HBS := hide hbs
  clear hbs
  go_enter Tryz.func18, Tryz.ntmps18
  go_wp2_with fail
  refine (unhide H40).mono ?_
  rintro e w1 ⟨rfl, hf⟩
  obtain ⟨cap, w2, hcv, hf2, hb4, hcap⟩ := conv4 w1 (pb n 3) (pb n 2) (pb n 1) (pb n 0)
  rw [show (⟨[pb n 3, pb n 2, pb n 1, pb n 0].toArray⟩ : ByteArray) = bs from HBS.out.symm] at hcv
  obtain ⟨b, hb⟩ : ∃ b, b = w1.heap.size := ⟨_, rfl⟩
  rw [← hb] at hcv hb4
  have H41 := hide (rev41_4 b cap _ _ _ _ w2 hb4)
  have HF2 := hide (hf.trans hf2)
  have HBW : Hid (w.heap.size ≤ b) := hide (by rw [hb]; exact hf.size)
  clear hf hf2 hb4 hb
  go_wp2_with fail
  refine (unhide H41).mono ?_
  rintro e w3 ⟨rfl, hb4, hf3⟩
  have hst := hb4.str (c := cap)
  have HF3 : Hid (Fr [] w w3) := hide (HF2.out.andThen hf3 (fun x hx => .inr (by rw [List.mem_singleton] at hx; have := HBW.out; omega)))
  obtain ⟨r, hr⟩ : ∃ r : ByteArray, r = ⟨(le4 n).toArray⟩ := ⟨_, rfl⟩
  rw [show (⟨[f4 (pb n 0) (pb n 1) (pb n 2) (pb n 3) 0, f4 (pb n 0) (pb n 1) (pb n 2) (pb n 3) 1, f4 (pb n 0) (pb n 1) (pb n 2) (pb n 3) 2, f4 (pb n 0) (pb n 1) (pb n 2) (pb n 3) 3].toArray⟩ : ByteArray) = r from hr.symm] at hst
  have HR := hide hr
  clear hb4 hf3 hr hcv
  go_wp2_with fail
  go_ret
  exact ⟨by rw [← HR.out]; rfl, HF3.out⟩

/-- The number of bytes. -/
def acc (f : Nat → UInt8) : Nat → Nat
  | 0 => 0
  | k + 1 => acc f k * 256 + (f k).toNat
theorem acc_lt (f : Nat → UInt8) : ∀ k, acc f k < 256 ^ k
  | 0 => by simp [acc]
  | k + 1 => by
    have := acc_lt f k
    have := UInt8.toNat_lt (f k)
    rw [acc, Nat.pow_succ]
    omega
theorem or_join (x y : Nat) (hx : x < 4294967296) (hy : y < 256) : bits .or .i64 ((x : Int) * 256) (y : Int) = ((x * 256 + y : Nat) : Int) := by
  have h := (bits_nat .i64 63 (by decide) (fun n h0 h1 => IntWalk.i64_in _ (by omega)) (x * 256) y (by omega) (by omega)).2
  rw [show (x : Int) * 256 = ((x * 256 : Nat) : Int) by omega, h]
  congr 1
  have := Nat.two_pow_add_eq_or_of_lt (i := 8) (b := y) (by omega) x
  rw [Nat.mul_comm] at this
  rw [← this]
set_option maxRecDepth 100000 in
set_option maxHeartbeats 4000000 in
theorem num134_4 (b c : Nat) (f : Nat → UInt8) (w : World) (h : B4 w b f) : Calls Tryz.prog 134 #[.slice (some ⟨b, 0, none⟩) 4 c] w fun e w' => e = .returned (.int .i64 (acc f 4 : Nat)) ∧ w = w' := by
  have H := hide h
  clear h
  go_enter Tryz.func134, Tryz.ntmps134
  go_wp2_with fail
  go_loopg [3, 8] 5 (fun gk v i wr => ∃ k : Nat, gk = 5 - k ∧ k ≤ 4 ∧ i = .int .i64 k ∧ v = .int .i64 (acc f k : Nat) ∧ wr = w)
  case atStart => exact ⟨0, rfl, by omega, rfl, rfl, rfl⟩
  case round =>
    obtain ⟨k, hgk, hk, rfl, rfl, rfl⟩ := hrel
    have HGK := hide hgk
    clear hgk
    by_cases hlt : k < 4
    · have hc := H.out.2.1 k hlt
      have hl := H.out.1
      obtain ⟨y, hy⟩ : ∃ y, y = (f k).toNat := ⟨_, rfl⟩
      have hyb : y < 256 := by rw [hy]; exact UInt8.toNat_lt _
      obtain ⟨x, hx⟩ : ∃ x, x = acc f k := ⟨_, rfl⟩
      have hxb : x < 4294967296 := by
        have h1 := acc_lt f k
        have h2 := Nat.pow_le_pow_right (n := 256) (by omega) (show k ≤ 4 by omega)
        rw [hx]
        omega
      rw [← hy] at hc
      rw [← hx]
      have HS : Hid (acc f (k + 1) = x * 256 + y) := hide (by rw [acc, ← hx, ← hy])
      have hor := or_join x y hxb hyb
      clear hx hy
      go_wp2_with fail
      go_roundg (5 - (k + 1))
      case measure => have := HGK.out; omega
      case rel => exact ⟨k + 1, rfl, by omega, by go_num, by rw [HS.out, Int.natCast_add, Int.natCast_mul]; rfl, rfl⟩
    · obtain rfl : k = 4 := by omega
      go_wp2_with fail
      go_ret
      exact ⟨rfl, rfl⟩

set_option maxRecDepth 100000 in
set_option maxHeartbeats 4000000 in
theorem part133_4 (a0 a1 a2 a3 : UInt8) (w : World) : Calls Tryz.prog 133 #[.string ⟨[a0, a1, a2, a3].toArray⟩, .int .i64 0, .int .i64 4] w fun e w' => ∃ b, w.heap.size ≤ b ∧ e = .returned (.tuple #[.slice (some ⟨b, 0, none⟩) 4 4, .int .i64 0]) ∧ Fr [] w w' ∧ B4 w' b (f4 a0 a1 a2 a3) := by
  have H58 := hide (valid58_4 w)
  obtain ⟨cap, w2, hcv, hf2, hb4, hcap⟩ := conv4 w a0 a1 a2 a3
  obtain ⟨s, hs⟩ : ∃ b : ByteArray, b = ⟨[a0, a1, a2, a3].toArray⟩ := ⟨_, rfl⟩
  rw [← hs] at hcv ⊢
  have hsz : s.size = 4 := by rw [hs]; rfl
  have HB := hide hb4
  have HF := hide hf2
  have HCV := hide hcv
  have hsz2 : (s.size : Int) = 4 := by omega
  clear hb4 hf2 hs hcv
  go_enter Tryz.func133, Tryz.ntmps133
  go_wp2_with fail
  refine (unhide H58).mono ?_
  rintro e w1 ⟨rfl, rfl⟩
  have hcv := HCV.out
  have hcap4 : (4 : Int) ≤ (cap : Int) := by omega
  go_wp2_with fail
  go_ret2
  exact ⟨_, Nat.le_refl _, rfl, HF.out, HB.out⟩
set_option maxRecDepth 100000 in
set_option maxHeartbeats 4000000 in
theorem getl127_any (s : ByteArray) (p : Nat) (a0 a1 a2 a3 : UInt8) (w : World) (hp : p ≤ 4) (hs : s.size = p + 4) (hx : s.extract p (p + 4) = ⟨[a0, a1, a2, a3].toArray⟩) :
    Calls Tryz.prog 127 #[.string s, .int .i64 p, .int .i64 4] w fun e w' => e = .returned (.tuple #[.int .i64 (acc (f4 a3 a2 a1 a0) 4 : Nat), .int .i64 0]) ∧ Fr [] w w' := by
  have H58 := hide (valid58_4 w)
  have H133 := hide (part133_4 a0 a1 a2 a3 w)
  obtain ⟨u, hu⟩ : ∃ b : ByteArray, b = ⟨[a0, a1, a2, a3].toArray⟩ := ⟨_, rfl⟩
  rw [← hu] at hx H133
  obtain ⟨n, hn⟩ : ∃ n, n = s.size := ⟨_, rfl⟩
  have hsz : n = p + 4 := by omega
  have hnb : (p : Int) ≤ (n : Int) ∧ (n : Int) - (p : Int) = 4 := by omega
  have hsn : (s.size : Int) = (n : Int) := by omega
  have hle : p + 4 ≤ s.size := by omega
  clear hu hs hn
  subst hsz
  go_enter Tryz.func127, Tryz.ntmps127
  go_wp2_with fail
  refine (unhide H58).mono ?_
  rintro e w1 ⟨rfl, rfl⟩
  go_wp2_with fail
  refine (unhide H133).mono ?_
  rintro e w2 ⟨b, hb, rfl, hf, hb4⟩
  have H41 := hide (rev41_4 b 4 _ _ _ _ w2 hb4)
  have HB := hide hb
  have HF := hide hf
  clear hb hf hb4
  go_wp2_with fail
  refine (unhide H41).mono ?_
  rintro e w3 ⟨rfl, hb4, hf3⟩
  have H134 := hide (num134_4 b 4 _ w3 hb4)
  have HF3 : Hid (Fr [] w w3) := hide (HF.out.andThen hf3 (fun x hx => .inr (by rw [List.mem_singleton] at hx; have := HB.out; omega)))
  clear hb4 hf3
  go_wp2_with fail
  refine (unhide H134).mono ?_
  rintro e w4 ⟨rfl, rfl⟩
  go_wp2_with fail
  go_ret2
  exact ⟨rfl, HF3.out⟩
theorem acc_le4 (n : Nat) (h : n < 4294967296) : acc (f4 (pb n 3) (pb n 2) (pb n 1) (pb n 0)) 4 = n := by
  show (((0 * 256 + (pb n 3).toNat) * 256 + (pb n 2).toNat) * 256 + (pb n 1).toNat) * 256 + (pb n 0).toNat = n
  rw [pb_val, pb_val, pb_val, pb_val]
  simp only [Nat.reducePow]
  omega
end Go.Proofs.YthmhcnnigepohaaGreatDoor.En
