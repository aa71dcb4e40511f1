/- SHA-256 in the program: objects as what was written; Len, Sum, Hex. -/
import Derived.Test.YthmhcnnigepohaaGreatDoorM11
import Derived.Deep.RegionLaw
import Derived.BigRegion
namespace Go.Proofs.YthmhcnnigepohaaGreatDoor.Dg
open Go.RowKit

/-- The object to which l was written. -/
def HashOf (w : World) (hb : Nat) (l : List UInt8) : Prop := ∃ r : ByteArray, r.data.toList = (comp KK s0 l).2 ∧ HashIs w hb (comp KK s0 l).1 r l.length
theorem HashOf.lt {w : World} {hb : Nat} {l : List UInt8} (h : HashOf w hb l) : hb < w.heap.size := by
  obtain ⟨r, _, h⟩ := h
  exact lt_of_blk h
theorem HashOf.fr {w w' : World} {S : List Nat} {hb : Nat} {l : List UInt8} (h : HashOf w hb l) (hf : Fr S w w') (hn : hb ∉ S) : HashOf w' hb l := by
  obtain ⟨r, h1, h2⟩ := h
  exact ⟨r, h1, (hf.block hb (lt_of_blk h2) hn).trans h2⟩

theorem hnew_any (w : World) :
    Calls Tryz.prog 11 #[] w fun e w' => ∃ hb, e = .returned (.pointer (some ⟨hb, 0, none⟩)) ∧ w.heap.size ≤ hb ∧ HashOf w' hb [] ∧ Fr [] w w' :=
  (new13_any w).mono fun e w' ⟨hb, h1, h2, h3, h4⟩ => ⟨hb, h1, h2, ⟨⟨#[]⟩, by rw [comp_lt (by simp)], by rw [comp_lt (by simp)]; exact h3⟩, h4⟩

theorem hwrite_any (hb : Nat) (l : List UInt8) (s : ByteArray) (w : World) (h : HashOf w hb l) (hk : Kst w) (h0 : hb ≠ 1) (hl : l.length + s.size ≤ 100000) :
    Calls Tryz.prog 12 #[.pointer (some ⟨hb, 0, none⟩), .string s] w fun e w' => e = .returned (.tuple #[]) ∧ HashOf w' hb (l ++ s.data.toList) ∧ Fr [hb] w w' := by
  obtain ⟨r, h1, h2⟩ := h
  have hr : r.size = l.length % 64 := by
    have := congrArg List.length h1
    rw [comp_rest] at this
    simpa using this
  refine (write14_any hb _ r s _ w h2 hk h0 (by omega) (by omega) (by omega)).mono ?_
  rintro e w' ⟨he, hf, r', hr', hh'⟩
  refine ⟨he, ⟨r', ?_, ?_⟩, hf⟩
  · rw [hr', h1]
    exact (congrArg Prod.snd (comp_append KK s0 l s.data.toList)).symm
  · rw [comp_append]
    rw [h1] at hh'
    rw [List.length_append, show ((l.length + s.data.toList.length : Nat) : Int) = (l.length : Int) + (s.size : Int) by simp]
    exact hh'

theorem hsum_any (hb : Nat) (l : List UInt8) (w : World) (h : HashOf w hb l) (hk : Kst w) (hl : l.length ≤ 100000) :
    Calls Tryz.prog 23 #[.pointer (some ⟨hb, 0, none⟩)] w fun e w' => e = .returned (.string ⟨(sha KK l).toArray⟩) ∧ Fr [] w w' := by
  obtain ⟨r, h1, h2⟩ := h
  have hr : r.size = l.length % 64 := by
    have := congrArg List.length h1
    rw [comp_rest] at this
    simpa using this
  have h3 := sum19_any hb _ r l.length w h2 hk (by omega) (by omega) hr
  rw [h1, ← sha_split] at h3
  exact h3

theorem hlen_any (hb : Nat) (l : List UInt8) (w : World) (h : HashOf w hb l) :
    Calls Tryz.prog 99 #[.pointer (some ⟨hb, 0, none⟩)] w fun e w' => e = .returned (.int .i64 l.length) ∧ w = w' := by
  obtain ⟨r, h1, h2⟩ := h
  have e9 : w.cell? ⟨hb, 9, none⟩ = some (.int .i64 l.length) := by rw [cell_blk h2]; rfl
  clear h1 h2
  go_enter Tryz.func99, Tryz.ntmps99
  go_wp2
  go_ret
  exact ⟨rfl, rfl⟩
theorem hlen_nil (w : World) :
    Calls Tryz.prog 99 #[.pointer none] w fun e w' => e = .returned (.int .i64 0) ∧ w = w' := by
  go_enter Tryz.func99, Tryz.ntmps99
  go_wp2
  go_ret
  exact ⟨rfl, rfl⟩
theorem hhex_nil (w : World) :
    Calls Tryz.prog 13 #[.pointer none] w fun e w' => e = .returned (.string ⟨#[]⟩) ∧ w = w' := by
  go_enter Tryz.func13, Tryz.ntmps13
  go_wp2
  go_ret
  exact ⟨rfl, rfl⟩

theorem sha_len (K : List Int) (l : List UInt8) : (sha K l).length = 32 := by simp [sha, out8, w4]
theorem hex_len (l : List UInt8) : (hex l).length = 2 * l.length := by
  induction l with
  | nil => rfl
  | cons b l ih => simp only [hex, List.flatMap_cons, List.length_append, List.length_cons] at ih ⊢; rw [ih]; simp; omega

theorem and15 (n : Nat) (h : n < 256) : bits .and .u8 (n : Int) 15 = ((n % 16 : Nat) : Int) := by
  revert n
  decide +kernel

theorem step_append_run {P : Program} {ops : Array Oper} {o : Oper} {a : Act} {w : World} {K : Act → World → Prop} {Q : Exit → Act → World → Prop} {E : Prop} (hg : o.guard = none) (s x : Operand) (t : TypeId)
    (ho : o.op = .call { callee := .builtin .append, args := #[s, x], argTypes := #[t, t] }) {v y v' : Value} {w' : World} (hrun : (Builtin.append_ #[t, t] o.type #[v, y]).run P w = .ok v' w')
    (hs : a.eval s = v) (hx : a.eval x = y) (h : K (a.put o.dst v') w') : if Region.wanted o (yielded ops a.tmps) = true then Oper.wp P o a w K Q else E := by
  have hw : Region.wanted o (yielded ops a.tmps) = true := by simp [Region.wanted, hg]
  rw [if_pos hw]
  unfold Oper.wp execOp
  simp only [ho, resolve, invoke, builtin, Sem.run_bind, Sem.run_pure, Result.andThen_ok, List.map_toArray, List.map_cons, List.map_nil, hs, hx, hrun]
  exact h

theorem dig_at (i : Nat) (h : i < 16) : (({ data := #[48, 49, 50, 51, 52, 53, 54, 55, 56, 57, 97, 98, 99, 100, 101, 102] } : ByteArray)[i]'h) = hexd.getD i 0 := by
  match i, h with
  | 0, _ => rfl
  | 1, _ => rfl
  | 2, _ => rfl
  | 3, _ => rfl
  | 4, _ => rfl
  | 5, _ => rfl
  | 6, _ => rfl
  | 7, _ => rfl
  | 8, _ => rfl
  | 9, _ => rfl
  | 10, _ => rfl
  | 11, _ => rfl
  | 12, _ => rfl
  | 13, _ => rfl
  | 14, _ => rfl
  | 15, _ => rfl
  | n + 16, h => exact absurd h (by omega)
theorem hex_take (m : List UInt8) (t : Nat) (h : t < m.length) : hex (m.take (t + 1)) = hex (m.take t) ++ [hexd.getD ((m[t]'h).toNat / 16) 0, hexd.getD ((m[t]'h).toNat % 16) 0] := by
  have h1 : m.take (t + 1) = m.take t ++ [m[t]'h] := by rw [List.take_add_one, List.getElem?_eq_getElem h]; rfl
  rw [h1]
  unfold hex
  rw [List.flatMap_append]
  rfl

/-- '[]byte(s)': what it lays. -/
theorem conv_bytes (w : World) (m : List UInt8) : ∃ cap W, (convert 9 22 (.string ⟨m.toArray⟩)).run Tryz.prog w = .ok (.slice (some ⟨w.heap.size, 0, none⟩) m.length cap) W ∧ Fr [] w W ∧ w.heap.size < W.heap.size ∧
    ∀ i (h : i < m.length), W.cell? ⟨w.heap.size, i, none⟩ = some (.int .u8 ((m[i]).toNat : Int)) := by
  have hr := run_bytes_of_string (P := Tryz.prog) w 9 22 5 ⟨m.toArray⟩ Tryz.underlying9 Tryz.underlying22 Tryz.underlying5
  refine ⟨_, _, hr, ((Fr.refl _ w).drew).alloc _, by simp, fun i h => ?_⟩
  have h1 := World.cell?_alloc_mark w.drew (bytesRow ⟨m.toArray⟩ (grownCap w (ByteArray.size ⟨m.toArray⟩) 0 5)) 5 ((bytesRow ⟨m.toArray⟩ (grownCap w (ByteArray.size ⟨m.toArray⟩) 0 5)).size, (bytesRow ⟨m.toArray⟩ (grownCap w (ByteArray.size ⟨m.toArray⟩) 0 5)).size + 1) i
  refine Eq.trans h1 ?_
  rw [bytesRow_at _ _ i (by simpa using h)]
  simp

set_option maxRecDepth 100000 in
set_option maxHeartbeats 1000000 in
theorem hhex_any (hb : Nat) (l : List UInt8) (w : World) (h : HashOf w hb l) (hk : Kst w) (hl : l.length ≤ 100000) :
    Calls Tryz.prog 13 #[.pointer (some ⟨hb, 0, none⟩)] w fun e w' => e = .returned (.string ⟨(hex (sha KK l)).toArray⟩) ∧ Fr [] w w' := by
  have HS := hide (hsum_any hb l w h hk hl)
  obtain ⟨m, hm⟩ : ∃ m, m = sha KK l := ⟨_, rfl⟩
  rw [← hm] at HS ⊢
  have hml : m.length = 32 := by rw [hm]; exact sha_len _ _
  clear h hk hm
  go_enter Tryz.func13, Tryz.ntmps13
  go_wp2_with fail
  refine (unhide HS).mono ?_
  rintro e w1 ⟨rfl, hf⟩
  have HF1 := hide hf
  clear hf
  obtain ⟨cap, W, hcv, hfw, hsw, hcell⟩ := conv_bytes w1 m
  rw [hml] at hcv
  have HFW := hide (HF1.out.trans hfw)
  have HCE := hide hcell
  obtain ⟨B, hB⟩ : ∃ B, B = w1.heap.size := ⟨_, rfl⟩
  rw [← hB] at hcv hsw HCE
  clear hfw hcell hB
  go_wp2_with fail
  go_loopg [3, 12] 33 (fun gk vr i wr => ∃ (t : Nat) (g : Option Nat), gk = 33 - t ∧ t ≤ 32 ∧ i = .int .i64 t ∧ BAt wr vr g (hex (m.take t)) ∧ (∀ b, g = some b → W.heap.size ≤ b) ∧ Fr [] W wr)
  case atStart => exact ⟨0, none, rfl, by omega, rfl, SlAt.nil_ _, by simp, Fr.refl _ _⟩
  case round =>
    obtain ⟨t, g, hgk, ht, rfl, hbt, hg, hf⟩ := hrel
    have HGK := hide hgk
    have HB := hide hbt
    have HG := hide hg
    have HF := hide hf
    obtain ⟨av, cv, hv⟩ := SlAt.shape hbt
    clear hgk hg
    by_cases hlt : t < 32
    · have ec : wr.cell? ⟨B, t, none⟩ = some (.int .u8 ((m[t]'(by omega)).toNat : Int)) := by
        rw [World.cell?_of_block (w := W) (hf.block B hsw (by simp))]
        exact HCE.out t (by omega)
      obtain ⟨bx, hbx⟩ : ∃ x, x = (m[t]'(by omega)).toNat := ⟨_, rfl⟩
      rw [← hbx] at ec
      have hbl : bx < 256 := by rw [hbx]; exact UInt8.toNat_lt _
      obtain ⟨lo, hlo⟩ : ∃ x, x = bx % 16 := ⟨_, rfl⟩
      obtain ⟨hi, hhi⟩ : ∃ x, x = bx / 16 := ⟨_, rfl⟩
      have h15 : bits .and .u8 (bx : Int) 15 = (lo : Int) := by rw [hlo]; exact and15 bx hbl
      have h16 : (bx : Int) / 16 = (hi : Int) := by omega
      have hBr : B < wr.heap.size := by have := hf.size; omega
      have hlo2 : (0 : Int) ≤ (lo : Int) ∧ (lo : Int) < 16 := by omega
      have hhi2 : (0 : Int) ≤ (hi : Int) ∧ (hi : Int) < 16 := by omega
      have HLO := hide hlo
      have HHI := hide hhi
      clear hlo hhi
      have hhl : (hex (m.take t)).length = 2 * t := by rw [hex_len]; simp; omega
      rw [hhl] at hv
      subst hv
      have HBX := hide hbx
      clear hbx hf
      go_upto_region 7 with (fail)
      have hlo3 : lo < 16 := by omega
      have hhi3 : hi < 16 := by omega
      obtain ⟨v', w', g', happ, hb', hf', hg'⟩ := BAt.push (w := wr.drew) (SlAt.fr hbt ((Fr.refl [] wr).drew) (by simp)) [hexd.getD hi 0, hexd.getD lo 0] #[.int .u8 ((({ data := #[48, 49, 50, 51, 52, 53, 54, 55, 56, 57, 97, 98, 99, 100, 101, 102] } : ByteArray)[hi]'hhi3).toNat : Int), .int .u8 ((({ data := #[48, 49, 50, 51, 52, 53, 54, 55, 56, 57, 97, 98, 99, 100, 101, 102] } : ByteArray)[lo]'hlo3).toNat : Int)] (by rw [dig_at, dig_at]; rfl) (by simp) (by rw [hhl]; simp; omega)
      have hap : (Builtin.append_ #[22, 22] 22 #[.slice av (2 * t) cv, .slice (some ⟨wr.heap.size, 0, none⟩) 2 2]).run Tryz.prog ((wr.alloc (.cells #[.int .u8 ((({ data := #[48, 49, 50, 51, 52, 53, 54, 55, 56, 57, 97, 98, 99, 100, 101, 102] } : ByteArray)[hi]'hhi3).toNat : Int), .int .u8 ((({ data := #[48, 49, 50, 51, 52, 53, 54, 55, 56, 57, 97, 98, 99, 100, 101, 102] } : ByteArray)[lo]'hlo3).toNat : Int)] 5)).drew) = .ok v' w' := happ
      have HB' := hide hb'
      have HF' := hide (((Fr.refl g.toList wr).drew).trans hf')
      have HG' := hide hg'
      clear hbt happ hb' hf' hg'
      go_region_law (first | (refine step_append_run rfl _ _ 22 rfl hap rfl rfl ?_))
      all_goals
        go_wp2
        go_roundg (33 - (t + 1))
        case measure => have := HGK.out; omega
        case rel =>
          refine ⟨t + 1, g', rfl, by omega, by go_num, ?_, ?_, HF.out.andThen HF'.out (fun y hy => .inr (HG.out y (by simpa using hy)))⟩
          · have h1 := HB'.out
            rw [hex_take m t (by omega), ← HBX.out, ← HHI.out, ← HLO.out]
            exact h1
          · intro b2 hb2
            rcases HG'.out with h1 | ⟨b3, h1, h2⟩
            · exact HG.out b2 (h1 ▸ hb2)
            · rw [h1] at hb2
              injection hb2 with hb2
              have h3 : wr.drew.heap.size = wr.heap.size := rfl
              have := HF.out.size
              omega
    · obtain rfl : t = 32 := by omega
      rw [List.take_of_length_le (by omega)] at hbt
      obtain ⟨hstr, b, off, cp, hv2⟩ := hbt.str (by rw [hex_len]; omega)
      subst hv2
      clear hbt hv
      have HFE := hide (HFW.out.andThen hf (by simp))
      clear hf
      go_wp2
      go_ret
      exact ⟨rfl, HFE.out⟩

/-- Hex. -/
theorem hex11_any (s : ByteArray) (w : World) (hk : Kst w) (hs : s.size ≤ 100000) :
    Calls Tryz.prog 6 #[.string s] w fun e w' => e = .returned (.string ⟨(hex (sha KK s.data.toList)).toArray⟩) ∧ Fr [] w w' := by
  have HK := hide hk
  have h0 := hk.lt
  clear hk
  go_enter Tryz.func6, Tryz.ntmps6
  go_wp2_with fail
  refine (hnew_any _).mono ?_
  rintro e w1 ⟨hb, rfl, hge, hh, hf⟩
  have HF1 := hide hf
  have HW := hide (hwrite_any hb [] s w1 hh (HK.out.fr hf (by simp)) (by omega) (by simpa using hs))
  clear hh hf
  go_wp2_with fail
  refine (unhide HW).mono ?_
  rintro e w2 ⟨rfl, hh, hf⟩
  have HF2 := hide (HF1.out.andThen hf (by simp; omega))
  have HS := hide (hhex_any hb _ w2 hh (HK.out.fr HF2.out (by simp)) (by simpa using hs))
  clear hh hf
  go_wp2_with fail
  refine (unhide HS).mono ?_
  rintro e w3 ⟨rfl, hf⟩
  have HF3 := hide (HF2.out.andThen hf (by simp))
  clear hf
  go_wp2
  go_ret
  exact ⟨rfl, HF3.out⟩
end Go.Proofs.YthmhcnnigepohaaGreatDoor.Dg
