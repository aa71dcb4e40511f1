/- inflate.Stored. -/
import Derived.Test.YthmhcnnigepohaaGreatDoorM27
import Derived.Test.YthmhcnnigepohaaGreatDoorM15
import Derived.Test.YthmhcnnigepohaaGreatDoorM26
import Derived.Shelf.Bytes.WriteAny
namespace Go.Proofs.YthmhcnnigepohaaGreatDoor.En
open Go.RowKit
set_option linter.unusedVariables false

theorem xor_u8 : ∀ x : Nat, x < 256 → bits BinOp.xor IntKind.u8 IntKind.u8.max (x : Int) = ((255 - x : Nat) : Int) := by decide +kernel
def hdC (n : Nat) : List Value := [.int .u8 1, .int .u8 ((n : Int) % 256), .int .u8 ((n : Int) / 256), .int .u8 (bits BinOp.xor IntKind.u8 IntKind.u8.max ((n : Int) % 256)), .int .u8 (bits BinOp.xor IntKind.u8 IntKind.u8.max ((n : Int) / 256))]
theorem hdC_eq (s : ByteArray) (hs : s.size ≤ 65535) : hdC s.size ++ Lib.byteCells s.data.toList = Lib.byteCells (storedB s.data.toList) := by
  have e : s.data.toList.length = s.size := by simp
  unfold storedB hdC
  rw [e]
  have a1 : ((s.size : Int) % 256) = ((s.size % 256 : Nat) : Int) := by omega
  have a2 : ((s.size : Int) / 256) = ((s.size / 256 : Nat) : Int) := by omega
  rw [a1, a2, xor_u8 _ (by omega), xor_u8 _ (by omega)]
  have b : ∀ x : Nat, x < 256 → ((UInt8.ofNat x).toNat : Int) = (x : Int) := fun x hx => by rw [UInt8.toNat_ofNat', Nat.mod_eq_of_lt hx]
  simp only [Lib.byteCells, List.map_append, List.map_cons, List.map_nil]
  rw [b _ (by omega), b _ (by omega), b _ (by omega), b _ (by omega)]
  rfl
set_option maxRecDepth 100000 in
set_option maxHeartbeats 4000000 in
theorem stored15_any (s : ByteArray) (w : World) (hs : s.size ≤ 65535) : Calls Tryz.prog 15 #[.string s] w (DataPost s w) := by
  obtain ⟨n, hn⟩ : ∃ n, n = s.size := ⟨_, rfl⟩
  have zmin : min (n : Int) 65535 = (n : Int) := by omega
  have HN := hide hn
  rw [hn] at zmin
  clear hn
  go_enter Tryz.func15, Tryz.ntmps15
  go_wp2_with fail
  obtain ⟨w0, hw0⟩ : ∃ x, x = w.alloc (.cells #[.slice none 0 0, .int .i64 0, .int .i8 0] 67) := ⟨_, rfl⟩
  obtain ⟨U, hU⟩ : ∃ U, U = w.heap.size := ⟨_, rfl⟩
  rw [← hw0, ← hU]
  have hbuf : Lib.IsBuffer 67 5 U U [] w0 := by rw [hw0, hU]; exact Lib.fresh_isBuffer 67 5 w
  have hb0 : Below U w w0 := by rw [hw0, hU]; exact (Below.refl _ w).alloc (Nat.le_refl _) _
  have hlU := hbuf.lt
  have HBUF := hide hbuf
  have HB0 := hide hb0
  have HUU := hide hU
  clear hw0 hU hbuf hb0
  go_loopg [0] 1 (fun gk u wr => gk = 1 ∧ u = .string s ∧ wr = w0)
  case atStart => exact ⟨rfl, rfl, rfl⟩
  case round =>
    obtain ⟨rfl, rfl, rfl⟩ := hrel
    have HW := hide (Any.Buffer_Write_any Tryz.laysM180 U U [] (hdC s.size) ⟨wr.heap.size, 0, none⟩ 5 5 (wr.alloc (.cells (hdC s.size).toArray 5)) (HBUF.out.alloc _) (by have := HBUF.out.lt; simp; omega) (by simp) rfl (by simp; omega) (fun j v hj => by
      rw [Addr.add_lit, cell_blk (heap_alloc_eq rfl)]
      simpa using hj) (by simp [hdC, Value.oneCell']) (by simp))
    go_wp2_with fail
    refine (unhide HW).mono ?_
    rintro e w1 ⟨rfl, hb1, hbl1, -⟩
    have HBL1 : Hid (Below U w w1) := hide ((HB0.out.trans ((Below.refl U wr).alloc (by omega) _)).trans hbl1)
    have HWS := hide (Tryz.Buffer_WriteString_kept U U ([] ++ hdC s.size) s w1 hb1 (by have := hb1.lt; omega) (by simp [hdC, Value.oneCell']) (by simp [hdC]; omega))
    clear hb1 hbl1
    go_wp2_with fail
    refine (unhide HWS).mono ?_
    rintro e w2 ⟨rfl, hb2, hbl2, -⟩
    rw [List.nil_append, hdC_eq s hs] at hb2
    have HBL2 : Hid (Below U w w2) := hide (HBL1.out.trans hbl2)
    have HST := hide (Tryz.Buffer_String U U (storedB s.data.toList) w2 hb2)
    clear hb2 hbl2
    go_wp2_with fail
    refine (unhide HST).mono ?_
    rintro e w3 ⟨rfl, q, rfl⟩
    have HRES : Hid (DataPost s w (.returned (.string ⟨(storedB s.data.toList).toArray⟩)) (w2.drewN q)) := by
      have hu := HUU.out
      have hb := HBL2.out
      rw [hu] at hb
      have e : s.data.toList.length = s.size := by simp
      refine hide ⟨_, rfl, stored_inflates _ (by omega), by simp [storedB]; omega, (below_fr hb).drewN q⟩
    go_wp2_with fail
    go_ret
    exact HRES.out
end Go.Proofs.YthmhcnnigepohaaGreatDoor.En
