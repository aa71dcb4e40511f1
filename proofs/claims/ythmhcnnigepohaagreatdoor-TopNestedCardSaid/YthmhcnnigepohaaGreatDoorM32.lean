/- gzip.Encode. -/
import Derived.Test.YthmhcnnigepohaaGreatDoorM30
import Derived.Test.YthmhcnnigepohaaGreatDoorM31
import Derived.Test.YthmhcnnigepohaaGreatDoorM15
namespace Go.Proofs.YthmhcnnigepohaaGreatDoor.En
open Go.RowKit
open If (Ost)
set_option linter.unusedVariables false

theorem fr_cell {w w' : World} {S : List Nat} (hf : Fr S w w') {a : Addr} {v : Value} (h : w.cell? a = some v) (ha : a.block ∉ S := by simp) : w'.cell? a = some v := by
  rw [World.cell?_of_block (w := w) (hf.block a.block (World.block_lt_of_cell? w a h) ha)]
  exact h
/-- The bytes ahead of the data of a member "in". -/
def HDR : List UInt8 := [31, 139, 8, 8, 0, 0, 0, 0, 0, 255, 105, 110, 0]
def crcN (l : List UInt8) : Nat := (crcF 0 l).toNat
theorem crcN_lt (l : List UInt8) : crcN l < 4294967296 := by have := crcF_in 0 l; unfold crcN; omega
def TRL (l : List UInt8) : List UInt8 := le4 (crcN l) ++ le4 l.length
def mem (d l : List UInt8) : List UInt8 := HDR ++ d ++ TRL l
def inS : ByteArray := ⟨#[105, 110]⟩
def EncPost (s : ByteArray) (w : World) (e : Ending) (w' : World) : Prop :=
  ∃ d, e = .returned (.tuple #[.string ⟨(mem d s.data.toList).toArray⟩, .int .i64 0]) ∧ Inflates d s.data.toList ∧ d.length ≤ 11 * s.size / 8 + 600 ∧ Fr [] w w'

theorem conv8 (w : World) : (convert 22 9 (.slice (some ⟨w.heap.size, 0, none⟩) 1 1)).run Tryz.prog (w.alloc (.cells #[.int .u8 8] 5)).drew = .ok (.string ⟨[8].toArray⟩) (w.alloc (.cells #[.int .u8 8] 5)).drew :=
  run_convert_bytes_back _ 22 9 5 ⟨w.heap.size, 0, none⟩ 1 [8] Tryz.underlying22 Tryz.underlying5 Tryz.underlying9 (fun j hj => by
    rw [Addr.add_lit, Nat.zero_add]
    obtain rfl : j = 0 := by simpa using hj
    exact cell_blk (heap_alloc_eq rfl) 0)
set_option maxRecDepth 100000 in
set_option maxHeartbeats 4000000 in
theorem encode7_any (s : ByteArray) (k : Nat) (w : World) (hk : k < 3) (hs : s.size ≤ 65535) (ho : Ost w) : Calls Tryz.prog 7 #[.agg #[.string inS, .string s], .int .i64 k] w (EncPost s w) := by
  have H14 := fun W => Tryz.strings_Contains_one inS 0 W
  rw [show decide (0 ≤ Lib.indexByte inS.data.toList 0) = false by decide] at H14
  have H14 := hide H14
  have hin : inS.size = 2 := rfl
  have hin2 : inS.toList.isEmpty = false := by decide +kernel
  have hkb : (k : Int) < 3 ∧ 0 ≤ (k : Int) := by omega
  obtain ⟨t, ht⟩ : ∃ t, t = inS := ⟨_, rfl⟩
  rw [← ht] at H14 hin hin2 ⊢
  have HT := hide ht
  have HO := hide ho
  obtain ⟨M, hM⟩ : ∃ M, M = w.heap.size := ⟨_, rfl⟩
  obtain ⟨w0, hw0⟩ : ∃ x, x = w.alloc (.cells #[.string t, .string s] 36) := ⟨_, rfl⟩
  have h0 : w0.heap[M]? = some (.cells #[.string t, .string s] 36 (0, 0)) := by rw [hw0]; exact heap_alloc_eq hM
  have c0 : w0.cell? ⟨M, 0, none⟩ = some (.string t) := cell_blk h0 0
  have c1 : w0.cell? ⟨M, 1, none⟩ = some (.string s) := cell_blk h0 1
  have HF0 : Hid (Fr [] w w0) := by rw [hw0]; exact hide ((Fr.refl _ _).alloc _)
  have HM := hide hM
  have HW0 := hide hw0
  clear ho ht hM hw0 h0
  go_enter Tryz.func7, Tryz.ntmps7
  go_upto_region 1 with fail
  rw [← HM.out, ← HW0.out]
  go_wp2_with fail
  refine (H14.out _).mono ?_
  rintro e w1 ⟨rfl, rfl⟩
  go_upto_region 9 with fail
  have h8 := conv8 w1
  have hl := World.block_lt_of_cell? w1 _ c0
  go_region
  go_upto_block 1 with fail
  obtain ⟨w2, hw2⟩ : ∃ x, x = (w1.alloc (.cells #[.int .u8 8] 5)).drew := ⟨_, rfl⟩
  rw [← hw2]
  have hf2 : Fr [] w1 w2 := by rw [hw2]; exact ((Fr.refl _ _).alloc _).drew
  have d1 : w2.cell? ⟨M, 1, none⟩ = some (.string s) := fr_cell hf2 c1
  have HF2 := hide (HF0.out.trans hf2)
  have H15 := hide (stored15_any s w2 hs)
  have H16 := hide (fixed16_any s w2 (by omega))
  have H17 := hide (dynamic17_any s w2 (by omega) (HO.out.fr HF2.out (by simp)))
  clear hw2 hf2 c0 c1 h8 hl
  go_cut [8] (fun v wd => ∃ d, v = .string ⟨d.toArray⟩ ∧ Inflates d s.data.toList ∧ d.length ≤ 11 * s.size / 8 + 600 ∧ Fr [] w2 wd)
  case first =>
    rcases (show k = 0 ∨ k = 1 ∨ k = 2 by omega) with rfl | rfl | rfl
    · go_wp2_with fail
      refine (unhide H15).mono ?_
      rintro e w3 ⟨d, rfl, h1, h2, h3⟩
      have HR := hide (And.intro h1 (And.intro h2 h3))
      clear h1 h2 h3
      go_wp2_with fail
      go_meet
      exact ⟨d, rfl, HR.out⟩
    · go_wp2_with fail
      refine (unhide H16).mono ?_
      rintro e w3 ⟨d, rfl, h1, h2, h3⟩
      have HR := hide (And.intro h1 (And.intro h2 h3))
      clear h1 h2 h3
      go_wp2_with fail
      go_meet
      exact ⟨d, rfl, HR.out⟩
    · go_wp2_with fail
      refine (unhide H17).mono ?_
      rintro e w3 ⟨d, rfl, h1, h2, h3⟩
      have HR := hide (And.intro h1 (And.intro h2 h3))
      clear h1 h2 h3
      go_wp2_with fail
      go_meet
      exact ⟨d, rfl, HR.out⟩
  case rest =>
    obtain ⟨d, rfl, hd1, hd2, hd3⟩ := hcut
    have HD := hide (And.intro hd1 hd2)
    have e1 : wc.cell? ⟨M, 1, none⟩ = some (.string s) := fr_cell hd3 d1
    have HF3 := hide (HF2.out.trans hd3)
    have H19 := fun W => crc19_any s W (by omega)
    obtain ⟨cr, hcr⟩ : ∃ n, n = crcN s.data.toList := ⟨_, rfl⟩
    have hcr2 : crcF 0 s.data.toList = (cr : Int) := by rw [hcr]; have := crcF_in 0 s.data.toList; unfold crcN; omega
    have hcrb : cr < 4294967296 := by rw [hcr]; exact crcN_lt _
    rw [hcr2] at H19
    have H18 := fun W => putl18_any cr W hcrb
    have H18b := fun W => putl18_any s.size W (by omega)
    have H19 := hide H19
    have H18 := hide H18
    have H18b := hide H18b
    have hmask : bits .and .i64 (s.size : Int) 4294967295 = (s.size : Int) := by
      have := bits_mask .i64 63 (by decide) (fun n h0 h1 => IntWalk.i64_in _ (by omega)) 32 (by omega) (s.size : Int) (by omega) (by omega)
      rw [show (2 : Int) ^ 32 - 1 = 4294967295 by decide] at this
      rw [this]
      omega
    have HCR := hide hcr
    have hwr : IntKind.i64.wrap (cr : Int) = (cr : Int) := IntWalk.i64_in _ (by omega)
    obtain ⟨ds, hds⟩ : ∃ b : ByteArray, b = ⟨d.toArray⟩ := ⟨_, rfl⟩
    rw [← hds]
    have HDS := hide hds
    have hz4 : ByteArray.size ⟨(le4 cr).toArray⟩ = 4 := rfl
    have hz5 : ByteArray.size ⟨(le4 s.size).toArray⟩ = 4 := rfl
    clear hd1 hd2 hd3 hcr hcr2 hds d1
    go_upto_region 17 with fail
    go_region_held3 (fun W => W.cell? ⟨M, 1, none⟩ = some (.string s)) (first | assumption | exact fr_cell ‹_› ‹_›) (first | ((with_reducible refine (H19.out _).mono ?_); rintro e wx ⟨rfl, hfx⟩; have := fr_cell hfx (by assumption)) | ((with_reducible refine (H18.out _).mono ?_); rintro e wy ⟨rfl, hfy⟩; have := fr_cell hfy (by assumption)) | ((with_reducible refine (H18b.out _).mono ?_); rintro e wz ⟨rfl, hfz⟩; have := fr_cell hfz (by assumption)))
    have HF4 : Hid (Fr [] w wz) := hide ((HF3.out.drew).trans (hfx.trans (hfy.trans hfz)))
    obtain ⟨tr, htr⟩ : ∃ b : ByteArray, b = ⟨(le4 cr).toArray⟩ ++ ⟨(le4 s.size).toArray⟩ := ⟨_, rfl⟩
    rw [← htr]
    have htsz : tr.size = 8 := by rw [htr, ByteArray.size_append]; rfl
    have hdsz : ds.size ≤ 1000000 := by
      have h1 : ds.size = d.length := by rw [HDS.out]; rfl
      have h2 := HD.out.2
      omega
    have HTR := hide htr
    clear hfx hfy hfz htr
    go_wp2_with fail
    go_ret2
    refine ⟨d, ?_, HD.out.1, HD.out.2, HF4.out⟩
    have e : ∀ a : ByteArray, a.data.toList = mem d s.data.toList → a = ⟨(mem d s.data.toList).toArray⟩ := by
      intro a h
      apply ByteArray.ext
      rw [← h]
    have hz : s.data.toList.length = s.size := by simp
    have he := e ((((⟨#[31, 139, 8]⟩ : ByteArray) ++ ⟨#[8]⟩) ++ ⟨#[0, 0, 0, 0, 0, 255]⟩) ++ (t ++ ⟨#[0]⟩) ++ ds ++ tr) (by
      rw [HTR.out, HT.out, HDS.out]
      unfold mem TRL HDR
      rw [hz, ← HCR.out]
      simp [inS, ByteArray.data_append])
    rw [← he]
    rfl
end Go.Proofs.YthmhcnnigepohaaGreatDoor.En
