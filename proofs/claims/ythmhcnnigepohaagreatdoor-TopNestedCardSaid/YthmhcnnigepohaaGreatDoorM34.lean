/- gzip.Decoder: a byte of the header. -/
import Derived.Test.YthmhcnnigepohaaGreatDoorM33
import Derived.Deep.CutBlock
namespace Go.Proofs.YthmhcnnigepohaaGreatDoor.En
open Go.RowKit
open If (Grows ORD Ost)
open Dg (BAt bcells)
set_option linter.unusedVariables false

def hPart (p : Nat) : Nat := if p < 3 then 0 else if p = 3 then 1 else if p < 10 then 2 else if p < 13 then 5 else 8
def hCount (p : Nat) : Nat := if p < 3 then p else if p < 5 then 0 else if p < 10 then p - 4 else if p < 13 then p - 10 else 0
def hFlags (p : Nat) : Nat := if p < 4 then 0 else 8
def hName (p : Nat) : List UInt8 := if p < 11 then [] else if p = 11 then [105] else [105, 110]
/-- The header after p bytes. -/
structure HdOk (p : Nat) (g : GV) : Prop where
  part : g.part = hPart p
  count : g.count = hCount p
  flags : g.flags = hFlags p
  extra : g.extra = 0
  sum0 : 0 ≤ g.sum
  sum1 : g.sum ≤ 4294967295

set_option maxRecDepth 100000 in
set_option maxHeartbeats 4000000 in
theorem next121_any (Z : Nat) (g : GV) (p q : Nat) (w : World) (h : GI w Z g) (hp : g.part = p) (hpq : (p + 1 = 1 ∧ q = 1) ∨ (p + 1 = 2 ∧ q = 2) ∨ (p + 1 = 3 ∧ q = 5) ∨ (p + 1 = 6 ∧ q = 8)) (hf : 3 ≤ p + 1 → g.flags = 8 ∧ g.extra = 0) :
    Calls Tryz.prog 121 #[.pointer (some ⟨Z, 0, none⟩)] w fun e w' => e = .returned (.tuple #[]) ∧ GI w' Z { g with part := q, count := 0 } ∧ Fr [Z] w w' := by
  obtain ⟨w1, hw1⟩ : ∃ x, x = (w.setCell ⟨Z, 0, none⟩ (.int .i64 ((p : Int) + 1))).setCell ⟨Z, 1, none⟩ (.int .i64 0) := ⟨_, rfl⟩
  have h1 : GI w1 Z { g with part := ((p + 1 : Nat) : Int), count := 0 } := by
    rw [hw1]
    unfold GI
    rw [heap_set, heap_set, h]
    rfl
  have HF1 : Hid (Fr [Z] w w1) := by rw [hw1]; exact hide (((Fr.refl _ _).setCell (.inl (by simp)) _).setCell (.inl (by simp)) _)
  have H128 := hide (skip128_any Z _ (p + 1) q w1 h1 rfl hpq hf)
  obtain ⟨part, count, flags, extra, sum, check, name, out, data, crc, size, trl, within, names, sizes⟩ := g
  simp only at hp
  subst hp
  have hl := h.lt
  have hpb : p ≤ 8 := by omega
  have c0 : w.cell? ⟨Z, 0, none⟩ = some (.int .i64 (p : Int)) := cell_blk h 0
  have c1 : w.cell? ⟨Z, 1, none⟩ = some (.int .i64 count) := cell_blk h 1
  have cf0 : w.frozen? ⟨Z, 0, none⟩ = false := froz_blk h 0
  have cf1 : w.frozen? ⟨Z, 1, none⟩ = false := froz_blk h 1
  have HW1 := hide hw1
  clear h h1 hpq hf hw1
  go_enter Tryz.func121, Tryz.ntmps121
  go_upto_region 2 with fail
  rw [← HW1.out]
  go_wp2_with fail
  refine (unhide H128).mono ?_
  rintro e w2 ⟨rfl, hg, hf⟩
  have HR := hide (And.intro hg (HF1.out.trans hf))
  clear hg hf
  go_wp2_with fail
  refine bodyPost_end (results_none rfl _ _ _) rfl ?_
  exact ⟨rfl, HR.out⟩
theorem conv1 (c : UInt8) (w : World) : (convert 22 9 (.slice (some ⟨w.heap.size, 0, none⟩) 1 1)).run Tryz.prog (w.alloc (.cells #[.int .u8 (c.toNat : Int)] 5)) = .ok (.string ⟨[c].toArray⟩) (w.alloc (.cells #[.int .u8 (c.toNat : Int)] 5)) :=
  run_convert_bytes_back _ 22 9 5 ⟨w.heap.size, 0, none⟩ 1 [c] Tryz.underlying22 Tryz.underlying5 Tryz.underlying9 (fun j hj => by
    rw [Addr.add_lit, Nat.zero_add]
    obtain rfl : j = 0 := by simpa using hj
    exact cell_blk (heap_alloc_eq rfl) 0)
def TakePost (Z : Nat) (g : GV) (gn : Option Nat) (p : Nat) (w : World) (e : Ending) (w' : World) : Prop :=
  e = .returned (.int .i64 0) ∧ ∃ sum name gn', GI w' Z { g with part := hPart (p + 1), count := hCount (p + 1), flags := hFlags (p + 1), sum := sum, name := name } ∧ 0 ≤ sum ∧ sum ≤ 4294967295 ∧ BAt w' name gn' (hName (p + 1)) ∧
    (∀ b, gn' = some b → b ≠ Z ∧ (gn = some b ∨ w.heap.size ≤ b)) ∧ Fr (Z :: gn.toList) w w'
set_option maxRecDepth 100000 in
set_option maxHeartbeats 16000000 in
theorem take115_any (Z p : Nat) (g : GV) (gn : Option Nat) (w : World) (hp : p < 13) (h : GI w Z g) (hg : HdOk p g) (hn : BAt w g.name gn (hName p)) (hz : ∀ b, gn = some b → b ≠ Z) :
    Calls Tryz.prog 115 #[.pointer (some ⟨Z, 0, none⟩), .int .u8 ((HDR.getD p 0).toNat : Int)] w (TakePost Z g gn p w) := by
  obtain ⟨part, count, flags, extra, sum, check, name, out, data, crc, size, trl, within, names, sizes⟩ := g
  obtain ⟨hpart, hcount, hflags, hextra, hs0, hs1⟩ := hg
  simp only at hpart hcount hflags hextra hs0 hs1 hn
  subst hpart hcount hflags hextra
  obtain ⟨c, hc⟩ : ∃ c, c = HDR.getD p 0 := ⟨_, rfl⟩
  rw [← hc]
  have H42 := fun W => crc42_any sum ⟨[c].toArray⟩ W ⟨hs0, hs1⟩ (by show 1 ≤ 1000000; omega)
  have H42 := hide H42
  have HH := hide h
  have HN := hide hn
  have HZ := hide hz
  have HC := hide hc
  obtain ⟨k, hk⟩ : ∃ k, k = hCount p := ⟨_, rfl⟩
  obtain ⟨m, hm⟩ : ∃ m, m = hPart p := ⟨_, rfl⟩
  rw [← hk, ← hm] at h HH
  have hkb : k ≤ 6 := by rw [hk]; unfold hCount; split <;> (try split) <;> (try split) <;> (try split) <;> omega
  have HK := hide (And.intro hk hm)
  have hl := h.lt
  have c0 : w.cell? ⟨Z, 0, none⟩ = some (.int .i64 (m : Int)) := cell_blk h 0
  have c1 : w.cell? ⟨Z, 1, none⟩ = some (.int .i64 (k : Int)) := cell_blk h 1
  have cf1 : w.frozen? ⟨Z, 1, none⟩ = false := froz_blk h 1
  have c4 : w.cell? ⟨Z, 4, none⟩ = some (.int .u32 sum) := cell_blk h 4
  have cf4 : w.frozen? ⟨Z, 4, none⟩ = false := froz_blk h 4
  have hcv := conv1 c w
  have hcv2 : (convert 22 9 (.slice (some ⟨w.heap.size, 0, none⟩) 1 1)).run Tryz.prog (w.drew.alloc (.cells #[.int .u8 (c.toNat : Int)] 5)) = .ok (.string ⟨[c].toArray⟩) (w.drew.alloc (.cells #[.int .u8 (c.toNat : Int)] 5)) := conv1 c w.drew
  have hcv3 : (convert 22 9 (.slice (some ⟨w.heap.size, 0, none⟩) 1 1)).run Tryz.prog (w.alloc (.cells #[.int .u8 (c.toNat : Int)] 5)).drew = .ok (.string ⟨[c].toArray⟩) (w.alloc (.cells #[.int .u8 (c.toNat : Int)] 5)).drew := conv1 c w.drew
  clear h hn hz hc hk hm hs0 hs1
  go_enter Tryz.func115, Tryz.ntmps115
  go_upto_region 2 with fail
  go_cut [] (fun wd => ∃ s2, 0 ≤ s2 ∧ s2 ≤ 4294967295 ∧ GI wd Z ⟨m, k, hFlags p, 0, s2, check, name, out, data, crc, size, trl, within, names, sizes⟩ ∧ Fr [Z] w wd)
  case first =>
    go_region_with (first | ((with_reducible refine (H42.out _).mono ?_); rintro e w2 ⟨rfl, hf2⟩; (have hfw : Fr [] w w2 := by first | exact (((Fr.refl [] w).alloc _).drew).trans hf2 | exact (((Fr.refl [] w).drew).alloc _).trans hf2); have hgi := HH.out.fr hfw (by simp); (have q4 : w2.cell? ⟨Z, 4, none⟩ = some (.int .u32 sum) := cell_blk hgi 4); (have qf4 : w2.frozen? ⟨Z, 4, none⟩ = false := froz_blk hgi 4); have ql := hgi.lt; clear hf2))
    all_goals go_wp2_with fail
    all_goals go_meet
    all_goals
      refine ⟨crcF sum [c], (crcF_in _ _).1, (crcF_in _ _).2, ?_, by first | exact ((hfw.mono (T := [Z]) (by simp)).setCell (.inl (by simp)) _).drew | exact ((hfw.mono (T := [Z]) (by simp)).setCell (.inl (by simp)) _)⟩
      unfold GI
      rw [heap_set, hgi]
      rfl
  case rest =>
    obtain ⟨s2, hs20, hs21, hg2, hfz⟩ := hcut
    have HG := hide hg2
    have HFZ := hide hfz
    have HF : Hid (Fr (Z :: gn.toList) w wc) := hide (hfz.sub (by simp))
    have HS := hide (And.intro hs20 hs21)
    have hl := hg2.lt
    have d0 : wc.cell? ⟨Z, 0, none⟩ = some (.int .i64 (m : Int)) := cell_blk hg2 0
    have d1 : wc.cell? ⟨Z, 1, none⟩ = some (.int .i64 (k : Int)) := cell_blk hg2 1
    have df1 : wc.frozen? ⟨Z, 1, none⟩ = false := froz_blk hg2 1
    have d2 : wc.cell? ⟨Z, 2, none⟩ = some (.int .i64 (hFlags p : Int)) := cell_blk hg2 2
    have df2 : wc.frozen? ⟨Z, 2, none⟩ = false := froz_blk hg2 2
    clear hg2 hfz hs20 hs21 c0 c1 cf1 c4 cf4 hcv hcv2 hcv3 hkb
    rcases (show p = 0 ∨ p = 1 ∨ p = 2 ∨ p = 3 ∨ p = 4 ∨ p = 5 ∨ p = 6 ∨ p = 7 ∨ p = 8 ∨ p = 9 ∨ p = 10 ∨ p = 11 ∨ p = 12 by omega) with rfl | rfl | rfl | rfl | rfl | rfl | rfl | rfl | rfl | rfl | rfl | rfl | rfl
    · obtain rfl : k = 0 := by rw [HK.out.1]; rfl
      obtain rfl : m = 0 := by rw [HK.out.2]; rfl
      obtain rfl : c = 31 := by rw [HC.out]; rfl
      have HG3 : Hid (GI (wc.setCell ⟨Z, 1, none⟩ (.int .i64 1)) Z ⟨0, 1, 0, 0, s2, check, name, out, data, crc, size, trl, within, names, sizes⟩ ∧ Fr (Z :: gn.toList) w (wc.setCell ⟨Z, 1, none⟩ (.int .i64 1))) := by
        refine hide ⟨?_, HF.out.setCell (.inl (by simp)) _⟩
        unfold GI
        rw [heap_set, HG.out]
        rfl
      have HN3 : Hid (BAt (wc.setCell ⟨Z, 1, none⟩ (.int .i64 1)) name gn (hName 0)) := hide (SlAt.fr HN.out ((HFZ.out).setCell (.inl (by simp)) _) (fun b hb => by have := HZ.out b hb; simpa using this))
      have hx : ((31 : Int) != (((⟨#[31, 139, 8]⟩ : ByteArray)[0]'(by decide)).toNat : Int)) = false := by decide
      go_wp2_with fail
      go_ret
      exact ⟨rfl, s2, name, gn, HG3.out.1, HS.out.1, HS.out.2, HN3.out, fun b hb => ⟨HZ.out b hb, .inl hb⟩, HG3.out.2⟩
    · obtain rfl : k = 1 := by rw [HK.out.1]; rfl
      obtain rfl : m = 0 := by rw [HK.out.2]; rfl
      obtain rfl : c = 139 := by rw [HC.out]; rfl
      have HG3 : Hid (GI (wc.setCell ⟨Z, 1, none⟩ (.int .i64 2)) Z ⟨0, 2, 0, 0, s2, check, name, out, data, crc, size, trl, within, names, sizes⟩ ∧ Fr (Z :: gn.toList) w (wc.setCell ⟨Z, 1, none⟩ (.int .i64 2))) := by
        refine hide ⟨?_, HF.out.setCell (.inl (by simp)) _⟩
        unfold GI
        rw [heap_set, HG.out]
        rfl
      have HN3 : Hid (BAt (wc.setCell ⟨Z, 1, none⟩ (.int .i64 2)) name gn (hName 1)) := hide (SlAt.fr HN.out ((HFZ.out).setCell (.inl (by simp)) _) (fun b hb => by have := HZ.out b hb; simpa using this))
      have hx : ((139 : Int) != (((⟨#[31, 139, 8]⟩ : ByteArray)[1]'(by decide)).toNat : Int)) = false := by decide
      go_wp2_with fail
      go_ret
      exact ⟨rfl, s2, name, gn, HG3.out.1, HS.out.1, HS.out.2, HN3.out, fun b hb => ⟨HZ.out b hb, .inl hb⟩, HG3.out.2⟩
    · obtain rfl : k = 2 := by rw [HK.out.1]; rfl
      obtain rfl : m = 0 := by rw [HK.out.2]; rfl
      obtain rfl : c = 8 := by rw [HC.out]; rfl
      have HG3 : Hid (GI (wc.setCell ⟨Z, 1, none⟩ (.int .i64 3)) Z ⟨0, 3, 0, 0, s2, check, name, out, data, crc, size, trl, within, names, sizes⟩ ∧ Fr (Z :: gn.toList) w (wc.setCell ⟨Z, 1, none⟩ (.int .i64 3))) := by
        refine hide ⟨?_, HF.out.setCell (.inl (by simp)) _⟩
        unfold GI
        rw [heap_set, HG.out]
        rfl
      have HN3 : Hid (BAt (wc.setCell ⟨Z, 1, none⟩ (.int .i64 3)) name gn (hName 2)) := hide (SlAt.fr HN.out ((HFZ.out).setCell (.inl (by simp)) _) (fun b hb => by have := HZ.out b hb; simpa using this))
      have hx : ((8 : Int) != (((⟨#[31, 139, 8]⟩ : ByteArray)[2]'(by decide)).toNat : Int)) = false := by decide
      obtain ⟨w3, hw3⟩ : ∃ x, x = wc.setCell ⟨Z, 1, none⟩ (.int .i64 3) := ⟨_, rfl⟩
      rw [← hw3] at HG3 HN3
      have H121 := hide (next121_any Z _ 0 1 w3 HG3.out.1 rfl (by omega) (by omega))
      have HW3 := hide hw3
      clear hw3
      go_upto_region 37 with fail
      rw [← HW3.out]
      go_wp2_with fail
      refine (unhide H121).mono ?_
      rintro e w4 ⟨rfl, hg4, hf4⟩
      have HR : Hid (GI w4 Z ⟨1, 0, 0, 0, s2, check, name, out, data, crc, size, trl, within, names, sizes⟩ ∧ BAt w4 name gn (hName 2) ∧ Fr (Z :: gn.toList) w w4) := hide ⟨hg4, SlAt.fr HN3.out hf4 (fun b hb => by have := HZ.out b hb; simpa using this), HG3.out.2.andThen hf4 (fun x hx => .inl (by simp at hx; simp [hx]))⟩
      clear hg4 hf4
      go_wp2_with fail
      go_ret
      obtain ⟨r1, r2, r3⟩ := HR.out
      exact ⟨rfl, s2, name, gn, r1, HS.out.1, HS.out.2, r2, fun b hb => ⟨HZ.out b hb, .inl hb⟩, r3⟩
    · obtain rfl : k = 0 := by rw [HK.out.1]; rfl
      obtain rfl : m = 1 := by rw [HK.out.2]; rfl
      obtain rfl : c = 8 := by rw [HC.out]; rfl
      have HG3 : Hid (GI (wc.setCell ⟨Z, 1, none⟩ (.int .i64 1)) Z ⟨1, 1, 0, 0, s2, check, name, out, data, crc, size, trl, within, names, sizes⟩ ∧ Fr (Z :: gn.toList) w (wc.setCell ⟨Z, 1, none⟩ (.int .i64 1))) := by
        refine hide ⟨?_, HF.out.setCell (.inl (by simp)) _⟩
        unfold GI
        rw [heap_set, HG.out]
        rfl
      have HN3 : Hid (BAt (wc.setCell ⟨Z, 1, none⟩ (.int .i64 1)) name gn (hName 3)) := hide (SlAt.fr HN.out ((HFZ.out).setCell (.inl (by simp)) _) (fun b hb => by have := HZ.out b hb; simpa using this))
      have HG4 : Hid (GI ((wc.setCell ⟨Z, 1, none⟩ (.int .i64 1)).setCell ⟨Z, 2, none⟩ (.int .i64 8)) Z ⟨1, 1, 8, 0, s2, check, name, out, data, crc, size, trl, within, names, sizes⟩ ∧ Fr (Z :: gn.toList) w ((wc.setCell ⟨Z, 1, none⟩ (.int .i64 1)).setCell ⟨Z, 2, none⟩ (.int .i64 8))) := by
        refine hide ⟨?_, HG3.out.2.setCell (.inl (by simp)) _⟩
        unfold GI
        rw [heap_set, HG3.out.1]
        rfl
      have HN4 : Hid (BAt ((wc.setCell ⟨Z, 1, none⟩ (.int .i64 1)).setCell ⟨Z, 2, none⟩ (.int .i64 8)) name gn (hName 3)) := hide (SlAt.keep HN3.out (fun b hb => heap_set_other (by have := HZ.out b hb; exact this)))
      obtain ⟨w3, hw3⟩ : ∃ x, x = (wc.setCell ⟨Z, 1, none⟩ (.int .i64 1)).setCell ⟨Z, 2, none⟩ (.int .i64 8) := ⟨_, rfl⟩
      rw [← hw3] at HG4 HN4
      have H121 := hide (next121_any Z _ 1 2 w3 HG4.out.1 rfl (by omega) (by intro _; exact ⟨rfl, rfl⟩))
      have HW3 := hide hw3
      clear hw3
      go_upto_region 37 with fail
      rw [← HW3.out]
      go_wp2_with fail
      refine (unhide H121).mono ?_
      rintro e w4 ⟨rfl, hg4, hf4⟩
      have HR : Hid (GI w4 Z ⟨2, 0, 8, 0, s2, check, name, out, data, crc, size, trl, within, names, sizes⟩ ∧ BAt w4 name gn (hName 3) ∧ Fr (Z :: gn.toList) w w4) := hide ⟨hg4, SlAt.fr HN4.out hf4 (fun b hb => by have := HZ.out b hb; simpa using this), HG4.out.2.andThen hf4 (fun x hx => .inl (by simp at hx; simp [hx]))⟩
      clear hg4 hf4
      go_wp2_with fail
      go_ret
      obtain ⟨r1, r2, r3⟩ := HR.out
      exact ⟨rfl, s2, name, gn, r1, HS.out.1, HS.out.2, r2, fun b hb => ⟨HZ.out b hb, .inl hb⟩, r3⟩
    · obtain rfl : k = 0 := by rw [HK.out.1]; rfl
      obtain rfl : m = 2 := by rw [HK.out.2]; rfl
      obtain rfl : c = 0 := by rw [HC.out]; rfl
      have HG3 : Hid (GI (wc.setCell ⟨Z, 1, none⟩ (.int .i64 1)) Z ⟨2, 1, 8, 0, s2, check, name, out, data, crc, size, trl, within, names, sizes⟩ ∧ Fr (Z :: gn.toList) w (wc.setCell ⟨Z, 1, none⟩ (.int .i64 1))) := by
        refine hide ⟨?_, HF.out.setCell (.inl (by simp)) _⟩
        unfold GI
        rw [heap_set, HG.out]
        rfl
      have HN3 : Hid (BAt (wc.setCell ⟨Z, 1, none⟩ (.int .i64 1)) name gn (hName 4)) := hide (SlAt.fr HN.out ((HFZ.out).setCell (.inl (by simp)) _) (fun b hb => by have := HZ.out b hb; simpa using this))
      go_wp2_with fail
      go_ret
      exact ⟨rfl, s2, name, gn, HG3.out.1, HS.out.1, HS.out.2, HN3.out, fun b hb => ⟨HZ.out b hb, .inl hb⟩, HG3.out.2⟩
    · obtain rfl : k = 1 := by rw [HK.out.1]; rfl
      obtain rfl : m = 2 := by rw [HK.out.2]; rfl
      obtain rfl : c = 0 := by rw [HC.out]; rfl
      have HG3 : Hid (GI (wc.setCell ⟨Z, 1, none⟩ (.int .i64 2)) Z ⟨2, 2, 8, 0, s2, check, name, out, data, crc, size, trl, within, names, sizes⟩ ∧ Fr (Z :: gn.toList) w (wc.setCell ⟨Z, 1, none⟩ (.int .i64 2))) := by
        refine hide ⟨?_, HF.out.setCell (.inl (by simp)) _⟩
        unfold GI
        rw [heap_set, HG.out]
        rfl
      have HN3 : Hid (BAt (wc.setCell ⟨Z, 1, none⟩ (.int .i64 2)) name gn (hName 5)) := hide (SlAt.fr HN.out ((HFZ.out).setCell (.inl (by simp)) _) (fun b hb => by have := HZ.out b hb; simpa using this))
      go_wp2_with fail
      go_ret
      exact ⟨rfl, s2, name, gn, HG3.out.1, HS.out.1, HS.out.2, HN3.out, fun b hb => ⟨HZ.out b hb, .inl hb⟩, HG3.out.2⟩
    · obtain rfl : k = 2 := by rw [HK.out.1]; rfl
      obtain rfl : m = 2 := by rw [HK.out.2]; rfl
      obtain rfl : c = 0 := by rw [HC.out]; rfl
      have HG3 : Hid (GI (wc.setCell ⟨Z, 1, none⟩ (.int .i64 3)) Z ⟨2, 3, 8, 0, s2, check, name, out, data, crc, size, trl, within, names, sizes⟩ ∧ Fr (Z :: gn.toList) w (wc.setCell ⟨Z, 1, none⟩ (.int .i64 3))) := by
        refine hide ⟨?_, HF.out.setCell (.inl (by simp)) _⟩
        unfold GI
        rw [heap_set, HG.out]
        rfl
      have HN3 : Hid (BAt (wc.setCell ⟨Z, 1, none⟩ (.int .i64 3)) name gn (hName 6)) := hide (SlAt.fr HN.out ((HFZ.out).setCell (.inl (by simp)) _) (fun b hb => by have := HZ.out b hb; simpa using this))
      go_wp2_with fail
      go_ret
      exact ⟨rfl, s2, name, gn, HG3.out.1, HS.out.1, HS.out.2, HN3.out, fun b hb => ⟨HZ.out b hb, .inl hb⟩, HG3.out.2⟩
    · obtain rfl : k = 3 := by rw [HK.out.1]; rfl
      obtain rfl : m = 2 := by rw [HK.out.2]; rfl
      obtain rfl : c = 0 := by rw [HC.out]; rfl
      have HG3 : Hid (GI (wc.setCell ⟨Z, 1, none⟩ (.int .i64 4)) Z ⟨2, 4, 8, 0, s2, check, name, out, data, crc, size, trl, within, names, sizes⟩ ∧ Fr (Z :: gn.toList) w (wc.setCell ⟨Z, 1, none⟩ (.int .i64 4))) := by
        refine hide ⟨?_, HF.out.setCell (.inl (by simp)) _⟩
        unfold GI
        rw [heap_set, HG.out]
        rfl
      have HN3 : Hid (BAt (wc.setCell ⟨Z, 1, none⟩ (.int .i64 4)) name gn (hName 7)) := hide (SlAt.fr HN.out ((HFZ.out).setCell (.inl (by simp)) _) (fun b hb => by have := HZ.out b hb; simpa using this))
      go_wp2_with fail
      go_ret
      exact ⟨rfl, s2, name, gn, HG3.out.1, HS.out.1, HS.out.2, HN3.out, fun b hb => ⟨HZ.out b hb, .inl hb⟩, HG3.out.2⟩
    · obtain rfl : k = 4 := by rw [HK.out.1]; rfl
      obtain rfl : m = 2 := by rw [HK.out.2]; rfl
      obtain rfl : c = 0 := by rw [HC.out]; rfl
      have HG3 : Hid (GI (wc.setCell ⟨Z, 1, none⟩ (.int .i64 5)) Z ⟨2, 5, 8, 0, s2, check, name, out, data, crc, size, trl, within, names, sizes⟩ ∧ Fr (Z :: gn.toList) w (wc.setCell ⟨Z, 1, none⟩ (.int .i64 5))) := by
        refine hide ⟨?_, HF.out.setCell (.inl (by simp)) _⟩
        unfold GI
        rw [heap_set, HG.out]
        rfl
      have HN3 : Hid (BAt (wc.setCell ⟨Z, 1, none⟩ (.int .i64 5)) name gn (hName 8)) := hide (SlAt.fr HN.out ((HFZ.out).setCell (.inl (by simp)) _) (fun b hb => by have := HZ.out b hb; simpa using this))
      go_wp2_with fail
      go_ret
      exact ⟨rfl, s2, name, gn, HG3.out.1, HS.out.1, HS.out.2, HN3.out, fun b hb => ⟨HZ.out b hb, .inl hb⟩, HG3.out.2⟩
    · obtain rfl : k = 5 := by rw [HK.out.1]; rfl
      obtain rfl : m = 2 := by rw [HK.out.2]; rfl
      obtain rfl : c = 255 := by rw [HC.out]; rfl
      have HG3 : Hid (GI (wc.setCell ⟨Z, 1, none⟩ (.int .i64 6)) Z ⟨2, 6, 8, 0, s2, check, name, out, data, crc, size, trl, within, names, sizes⟩ ∧ Fr (Z :: gn.toList) w (wc.setCell ⟨Z, 1, none⟩ (.int .i64 6))) := by
        refine hide ⟨?_, HF.out.setCell (.inl (by simp)) _⟩
        unfold GI
        rw [heap_set, HG.out]
        rfl
      have HN3 : Hid (BAt (wc.setCell ⟨Z, 1, none⟩ (.int .i64 6)) name gn (hName 9)) := hide (SlAt.fr HN.out ((HFZ.out).setCell (.inl (by simp)) _) (fun b hb => by have := HZ.out b hb; simpa using this))
      obtain ⟨w3, hw3⟩ : ∃ x, x = wc.setCell ⟨Z, 1, none⟩ (.int .i64 6) := ⟨_, rfl⟩
      rw [← hw3] at HG3 HN3
      have H121 := hide (next121_any Z _ 2 5 w3 HG3.out.1 rfl (by omega) (by intro _; exact ⟨rfl, rfl⟩))
      have HW3 := hide hw3
      clear hw3
      go_upto_region 37 with fail
      rw [← HW3.out]
      go_wp2_with fail
      refine (unhide H121).mono ?_
      rintro e w4 ⟨rfl, hg4, hf4⟩
      have HR : Hid (GI w4 Z ⟨5, 0, 8, 0, s2, check, name, out, data, crc, size, trl, within, names, sizes⟩ ∧ BAt w4 name gn (hName 9) ∧ Fr (Z :: gn.toList) w w4) := hide ⟨hg4, SlAt.fr HN3.out hf4 (fun b hb => by have := HZ.out b hb; simpa using this), HG3.out.2.andThen hf4 (fun x hx => .inl (by simp at hx; simp [hx]))⟩
      clear hg4 hf4
      go_wp2_with fail
      go_ret
      obtain ⟨r1, r2, r3⟩ := HR.out
      exact ⟨rfl, s2, name, gn, r1, HS.out.1, HS.out.2, r2, fun b hb => ⟨HZ.out b hb, .inl hb⟩, r3⟩
    · obtain rfl : k = 0 := by rw [HK.out.1]; rfl
      obtain rfl : m = 5 := by rw [HK.out.2]; rfl
      obtain rfl : c = 105 := by rw [HC.out]; rfl
      have HG3 : Hid (GI (wc.setCell ⟨Z, 1, none⟩ (.int .i64 1)) Z ⟨5, 1, 8, 0, s2, check, name, out, data, crc, size, trl, within, names, sizes⟩ ∧ Fr (Z :: gn.toList) w (wc.setCell ⟨Z, 1, none⟩ (.int .i64 1))) := by
        refine hide ⟨?_, HF.out.setCell (.inl (by simp)) _⟩
        unfold GI
        rw [heap_set, HG.out]
        rfl
      have HN3 : Hid (BAt (wc.setCell ⟨Z, 1, none⟩ (.int .i64 1)) name gn (hName 10)) := hide (SlAt.fr HN.out ((HFZ.out).setCell (.inl (by simp)) _) (fun b hb => by have := HZ.out b hb; simpa using this))
      obtain ⟨w3, hw3⟩ : ∃ x, x = wc.setCell ⟨Z, 1, none⟩ (.int .i64 1) := ⟨_, rfl⟩
      rw [← hw3] at HG3 HN3
      obtain ⟨v', w', g', hap, hb', hf', hg'⟩ := Dg.BAt.push HN3.out [105] #[.int .u8 105] rfl (by decide) (by decide)
      obtain ⟨va, vc, rfl⟩ := SlAt.shape hb'
      have hz' : ∀ b, g' = some b → b ≠ Z ∧ (gn = some b ∨ w.heap.size ≤ b) := by
        intro b hb
        rcases hg' with h | ⟨b2, h, h2⟩
        · rw [h] at hb; exact ⟨HZ.out b hb, .inl hb⟩
        · rw [h] at hb; injection hb with hb; have h3 := HG3.out.1.lt; have h4 := HG3.out.2.size; exact ⟨by omega, .inr (by omega)⟩
      have hgi : GI w' Z ⟨5, 1, 8, 0, s2, check, name, out, data, crc, size, trl, within, names, sizes⟩ := HG3.out.1.fr hf' (by intro hm; cases hgn : gn with | none => simp [hgn] at hm | some b => simp [hgn] at hm; exact HZ.out b hgn hm.symm)
      have HR : Hid (GI (w'.setCell ⟨Z, 6, none⟩ (.slice va 1 vc)) Z ⟨5, 1, 8, 0, s2, check, .slice va 1 vc, out, data, crc, size, trl, within, names, sizes⟩ ∧ BAt (w'.setCell ⟨Z, 6, none⟩ (.slice va 1 vc)) (.slice va 1 vc) g' (hName 11) ∧ (∀ b, g' = some b → b ≠ Z ∧ (gn = some b ∨ w.heap.size ≤ b)) ∧ Fr (Z :: gn.toList) w (w'.setCell ⟨Z, 6, none⟩ (.slice va 1 vc))) := by
        refine hide ⟨?_, SlAt.keep hb' (fun b hb => heap_set_other (hz' b hb).1), hz', (HG3.out.2.andThen hf' (fun x hx => .inl (by simp at hx; simp [hx]))).setCell (.inl (by simp)) _⟩
        unfold GI
        rw [heap_set, hgi]
        rfl
      have n6 : w'.cell? ⟨Z, 6, none⟩ = some name := cell_blk hgi 6
      have nf6 : w'.frozen? ⟨Z, 6, none⟩ = false := froz_blk hgi 6
      have nl := hgi.lt
      have HW3 := hide hw3
      have d6 : w3.cell? ⟨Z, 6, none⟩ = some name := cell_blk HG3.out.1 6
      have dl := HG3.out.1.lt
      clear hw3 hb' hf' hg' hz' hgi
      go_upto_region 26 with fail
      rw [← HW3.out]
      go_wp2_with (at_builtin; refine wpList_append_run rfl _ _ 22 rfl hap rfl rfl ?_)
      go_ret
      obtain ⟨r1, r2, r3, r4⟩ := HR.out
      exact ⟨rfl, s2, _, g', r1, HS.out.1, HS.out.2, r2, r3, r4⟩
    · obtain rfl : k = 1 := by rw [HK.out.1]; rfl
      obtain rfl : m = 5 := by rw [HK.out.2]; rfl
      obtain rfl : c = 110 := by rw [HC.out]; rfl
      have HG3 : Hid (GI (wc.setCell ⟨Z, 1, none⟩ (.int .i64 2)) Z ⟨5, 2, 8, 0, s2, check, name, out, data, crc, size, trl, within, names, sizes⟩ ∧ Fr (Z :: gn.toList) w (wc.setCell ⟨Z, 1, none⟩ (.int .i64 2))) := by
        refine hide ⟨?_, HF.out.setCell (.inl (by simp)) _⟩
        unfold GI
        rw [heap_set, HG.out]
        rfl
      have HN3 : Hid (BAt (wc.setCell ⟨Z, 1, none⟩ (.int .i64 2)) name gn (hName 11)) := hide (SlAt.fr HN.out ((HFZ.out).setCell (.inl (by simp)) _) (fun b hb => by have := HZ.out b hb; simpa using this))
      obtain ⟨w3, hw3⟩ : ∃ x, x = wc.setCell ⟨Z, 1, none⟩ (.int .i64 2) := ⟨_, rfl⟩
      rw [← hw3] at HG3 HN3
      obtain ⟨v', w', g', hap, hb', hf', hg'⟩ := Dg.BAt.push HN3.out [110] #[.int .u8 110] rfl (by decide) (by decide)
      obtain ⟨va, vc, rfl⟩ := SlAt.shape hb'
      have hz' : ∀ b, g' = some b → b ≠ Z ∧ (gn = some b ∨ w.heap.size ≤ b) := by
        intro b hb
        rcases hg' with h | ⟨b2, h, h2⟩
        · rw [h] at hb; exact ⟨HZ.out b hb, .inl hb⟩
        · rw [h] at hb; injection hb with hb; have h3 := HG3.out.1.lt; have h4 := HG3.out.2.size; exact ⟨by omega, .inr (by omega)⟩
      have hgi : GI w' Z ⟨5, 2, 8, 0, s2, check, name, out, data, crc, size, trl, within, names, sizes⟩ := HG3.out.1.fr hf' (by intro hm; cases hgn : gn with | none => simp [hgn] at hm | some b => simp [hgn] at hm; exact HZ.out b hgn hm.symm)
      have HR : Hid (GI (w'.setCell ⟨Z, 6, none⟩ (.slice va 2 vc)) Z ⟨5, 2, 8, 0, s2, check, .slice va 2 vc, out, data, crc, size, trl, within, names, sizes⟩ ∧ BAt (w'.setCell ⟨Z, 6, none⟩ (.slice va 2 vc)) (.slice va 2 vc) g' (hName 12) ∧ (∀ b, g' = some b → b ≠ Z ∧ (gn = some b ∨ w.heap.size ≤ b)) ∧ Fr (Z :: gn.toList) w (w'.setCell ⟨Z, 6, none⟩ (.slice va 2 vc))) := by
        refine hide ⟨?_, SlAt.keep hb' (fun b hb => heap_set_other (hz' b hb).1), hz', (HG3.out.2.andThen hf' (fun x hx => .inl (by simp at hx; simp [hx]))).setCell (.inl (by simp)) _⟩
        unfold GI
        rw [heap_set, hgi]
        rfl
      have n6 : w'.cell? ⟨Z, 6, none⟩ = some name := cell_blk hgi 6
      have nf6 : w'.frozen? ⟨Z, 6, none⟩ = false := froz_blk hgi 6
      have nl := hgi.lt
      have HW3 := hide hw3
      have d6 : w3.cell? ⟨Z, 6, none⟩ = some name := cell_blk HG3.out.1 6
      have dl := HG3.out.1.lt
      clear hw3 hb' hf' hg' hz' hgi
      go_upto_region 26 with fail
      rw [← HW3.out]
      go_wp2_with (at_builtin; refine wpList_append_run rfl _ _ 22 rfl hap rfl rfl ?_)
      go_ret
      obtain ⟨r1, r2, r3, r4⟩ := HR.out
      exact ⟨rfl, s2, _, g', r1, HS.out.1, HS.out.2, r2, r3, r4⟩
    · obtain rfl : k = 2 := by rw [HK.out.1]; rfl
      obtain rfl : m = 5 := by rw [HK.out.2]; rfl
      obtain rfl : c = 0 := by rw [HC.out]; rfl
      have HG3 : Hid (GI (wc.setCell ⟨Z, 1, none⟩ (.int .i64 3)) Z ⟨5, 3, 8, 0, s2, check, name, out, data, crc, size, trl, within, names, sizes⟩ ∧ Fr (Z :: gn.toList) w (wc.setCell ⟨Z, 1, none⟩ (.int .i64 3))) := by
        refine hide ⟨?_, HF.out.setCell (.inl (by simp)) _⟩
        unfold GI
        rw [heap_set, HG.out]
        rfl
      have HN3 : Hid (BAt (wc.setCell ⟨Z, 1, none⟩ (.int .i64 3)) name gn (hName 12)) := hide (SlAt.fr HN.out ((HFZ.out).setCell (.inl (by simp)) _) (fun b hb => by have := HZ.out b hb; simpa using this))
      obtain ⟨w3, hw3⟩ : ∃ x, x = wc.setCell ⟨Z, 1, none⟩ (.int .i64 3) := ⟨_, rfl⟩
      rw [← hw3] at HG3 HN3
      have H121 := hide (next121_any Z _ 5 8 w3 HG3.out.1 rfl (by omega) (by intro _; exact ⟨rfl, rfl⟩))
      have HW3 := hide hw3
      clear hw3
      go_upto_region 37 with fail
      rw [← HW3.out]
      go_wp2_with fail
      refine (unhide H121).mono ?_
      rintro e w4 ⟨rfl, hg4, hf4⟩
      have HR : Hid (GI w4 Z ⟨8, 0, 8, 0, s2, check, name, out, data, crc, size, trl, within, names, sizes⟩ ∧ BAt w4 name gn (hName 12) ∧ Fr (Z :: gn.toList) w w4) := hide ⟨hg4, SlAt.fr HN3.out hf4 (fun b hb => by have := HZ.out b hb; simpa using this), HG3.out.2.andThen hf4 (fun x hx => .inl (by simp at hx; simp [hx]))⟩
      clear hg4 hf4
      go_wp2_with fail
      go_ret
      obtain ⟨r1, r2, r3⟩ := HR.out
      exact ⟨rfl, s2, name, gn, r1, HS.out.1, HS.out.2, r2, fun b hb => ⟨HZ.out b hb, .inl hb⟩, r3⟩
end Go.Proofs.YthmhcnnigepohaaGreatDoor.En

/- gzip.Decoder: a byte of the trailer. -/
namespace Go.Proofs.YthmhcnnigepohaaGreatDoor.En
open Go.RowKit
open If (Grows ORD Ost)
open Dg (BAt bcells)
set_option linter.unusedVariables false

def trS (s : List UInt8) (t : Nat) : ByteArray := ⟨((TRL s).take t).toArray⟩
theorem TRL_len (s : List UInt8) : (TRL s).length = 8 := rfl
theorem trS_size (s : List UInt8) (t : Nat) (h : t ≤ 8) : (trS s t).size = t := by
  show ((TRL s).take t).toArray.size = t
  simp [TRL_len, h]
theorem trS_snoc (s : List UInt8) (t : Nat) (h : t < 8) : trS s t ++ ⟨[(TRL s).getD t 0].toArray⟩ = trS s (t + 1) := by
  apply ByteArray.ext
  have ht : t < (TRL s).length := by rw [TRL_len]; exact h
  simp only [trS, ByteArray.data_append]
  rw [List.take_succ_eq_append_getElem ht]
  simp [List.getD, List.getElem?_eq_getElem ht]

set_option maxRecDepth 100000 in
set_option maxHeartbeats 8000000 in
theorem end119_any (Z t : Nat) (g : GV) (s : List UInt8) (w : World) (ht : t < 8) (h : GI w Z g) (htr : g.trl = trS s t) (hcr : g.crc = (crcN s : Int)) (hsz : g.size = (s.length : Int)) (hsl : s.length < 4294967296) :
    Calls Tryz.prog 119 #[.pointer (some ⟨Z, 0, none⟩), .int .u8 (((TRL s).getD t 0).toNat : Int)] w fun e w' => e = .returned (.int .i64 0) ∧ GI w' Z { g with trl := trS s (t + 1), within := if t = 7 then false else g.within } ∧ Fr [Z] w w' := by
  obtain ⟨part, count, flags, extra, sum, check, name, out, data, crc, size, trl, within, names, sizes⟩ := g
  simp only at htr hcr hsz
  subst hcr hsz
  obtain ⟨c, hc⟩ : ∃ c, c = (TRL s).getD t 0 := ⟨_, rfl⟩
  obtain ⟨u, hu⟩ : ∃ u, u = trS s (t + 1) := ⟨_, rfl⟩
  have hcat : trl ++ ⟨[c].toArray⟩ = u := by rw [htr, hc, hu]; exact trS_snoc s t ht
  have hts : trl.size = t := by rw [htr]; exact trS_size s t (by omega)
  have hus : u.size = t + 1 := by rw [hu]; exact trS_size s (t + 1) (by omega)
  rw [← hc, ← hu]
  have HU := hide hu
  have HH := hide h
  have HUS := hide hus
  have hl := h.lt
  have c12 : w.cell? ⟨Z, 12, none⟩ = some (.string trl) := cell_blk h 12
  have cf12 : w.frozen? ⟨Z, 12, none⟩ = false := froz_blk h 12
  have hcv := conv1 c w
  have hcv2 : (convert 22 9 (.slice (some ⟨w.heap.size, 0, none⟩) 1 1)).run Tryz.prog (w.drew.alloc (.cells #[.int .u8 (c.toNat : Int)] 5)) = .ok (.string ⟨[c].toArray⟩) (w.drew.alloc (.cells #[.int .u8 (c.toNat : Int)] 5)) := conv1 c w.drew
  have hcv3 : (convert 22 9 (.slice (some ⟨w.heap.size, 0, none⟩) 1 1)).run Tryz.prog (w.alloc (.cells #[.int .u8 (c.toNat : Int)] 5)).drew = .ok (.string ⟨[c].toArray⟩) (w.alloc (.cells #[.int .u8 (c.toNat : Int)] 5)).drew := conv1 c w.drew
  have hone : ByteArray.size ⟨[c].toArray⟩ = 1 := rfl
  clear h htr hc hu hus
  go_enter Tryz.func119, Tryz.ntmps119
  go_upto_region 1 with fail
  go_cut [] (fun wd => GI wd Z ⟨part, count, flags, extra, sum, check, name, out, data, (crcN s : Int), (s.length : Int), u, within, names, sizes⟩ ∧ Fr [Z] w wd)
  case first =>
    go_region
    all_goals go_wp2_with fail
    all_goals go_meet
    refine ⟨?_, (((Fr.refl [Z] w).setCell (.inl (by simp)) _).alloc _).drew⟩
    unfold GI
    show ((w.setCell ⟨Z, 12, none⟩ (.string u)).alloc _).heap[Z]? = _
    rw [heap_alloc_lt (by rw [World.size_setCell]; exact HH.out.lt), heap_set, HH.out]
    rfl
  case rest =>
    obtain ⟨hg, hf⟩ := hcut
    have HG := hide hg
    have HF := hide hf
    have hl := hg.lt
    have d12 : wc.cell? ⟨Z, 12, none⟩ = some (.string u) := cell_blk hg 12
    have d10 : wc.cell? ⟨Z, 10, none⟩ = some (.int .u32 (crcN s : Int)) := cell_blk hg 10
    have d11 : wc.cell? ⟨Z, 11, none⟩ = some (.int .i64 (s.length : Int)) := cell_blk hg 11
    have d13 : wc.cell? ⟨Z, 13, none⟩ = some (.bool within) := cell_blk hg 13
    have df13 : wc.frozen? ⟨Z, 13, none⟩ = false := froz_blk hg 13
    clear hg hf c12 cf12 hcv hcv2 hcv3 hone hcat hts
    by_cases h3 : t = 3
    · subst h3
      have hx : u.extract 0 (0 + 4) = ⟨[pb (crcN s) 0, pb (crcN s) 1, pb (crcN s) 2, pb (crcN s) 3].toArray⟩ := by rw [HU.out]; rfl
      have H127 := hide (getl127_any u 0 _ _ _ _ wc (by omega) (by rw [HUS.out]) hx)
      rw [acc_le4 _ (crcN_lt s)] at H127
      obtain ⟨r, hr⟩ : ∃ r, r = crcN s := ⟨_, rfl⟩
      have hrb := crcN_lt s
      rw [← hr] at H127 d10 hrb HG
      have HRR := hide hr
      have hne : IntKind.u32.wrap (r : Int) = (r : Int) := by rw [IntKind.wrap_u32]; omega
      have hus := HUS.out
      clear hx hr
      go_wp2_with fail
      refine (unhide H127).mono ?_
      rintro e w2 ⟨rfl, hf2⟩
      have hg2 := HG.out.fr hf2 (by simp)
      have e10 : w2.cell? ⟨Z, 10, none⟩ = some (.int .u32 (r : Int)) := cell_blk hg2 10
      have el := hg2.lt
      have HR := hide (And.intro hg2 (HF.out.trans (hf2.mono (T := [Z]) (by simp))))
      clear hg2 hf2 H127
      go_wp2_with fail
      go_ret
      have h := HR.out
      rw [HRR.out] at h
      exact ⟨rfl, h⟩
    · by_cases h7 : t = 7
      · subst h7
        have hx : u.extract 4 (4 + 4) = ⟨[pb s.length 0, pb s.length 1, pb s.length 2, pb s.length 3].toArray⟩ := by rw [HU.out]; rfl
        have H127 := hide (getl127_any u 4 _ _ _ _ wc (by omega) (by rw [HUS.out]) hx)
        rw [acc_le4 _ hsl] at H127
        have hus := HUS.out
        clear hx
        go_wp2_with fail
        refine (unhide H127).mono ?_
        rintro e w2 ⟨rfl, hf2⟩
        have hg2 := HG.out.fr hf2 (by simp)
        have e11 : w2.cell? ⟨Z, 11, none⟩ = some (.int .i64 (s.length : Int)) := cell_blk hg2 11
        have e13 : w2.cell? ⟨Z, 13, none⟩ = some (.bool within) := cell_blk hg2 13
        have ef13 : w2.frozen? ⟨Z, 13, none⟩ = false := froz_blk hg2 13
        have el := hg2.lt
        have HR : Hid (GI (w2.setCell ⟨Z, 13, none⟩ (.bool false)) Z ⟨part, count, flags, extra, sum, check, name, out, data, (crcN s : Int), (s.length : Int), u, false, names, sizes⟩ ∧ Fr [Z] w (w2.setCell ⟨Z, 13, none⟩ (.bool false))) := by
          refine hide ⟨?_, (HF.out.trans (hf2.mono (T := [Z]) (by simp))).setCell (.inl (by simp)) _⟩
          unfold GI
          rw [heap_set, hg2]
          rfl
        clear hg2 hf2 H127
        go_wp2_with fail
        go_ret
        exact ⟨rfl, HR.out⟩
      · have hus := HUS.out
        have k1 : ((t : Int) + 1 == 4) = false := by simp; omega
        have k2 : ((t : Int) + 1 == 8) = false := by simp; omega
        go_wp2_with fail
        go_ret
        exact ⟨rfl, HG.out, HF.out⟩
end Go.Proofs.YthmhcnnigepohaaGreatDoor.En
