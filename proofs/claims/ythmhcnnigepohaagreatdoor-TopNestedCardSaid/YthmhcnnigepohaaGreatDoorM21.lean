/- inflate.writer: number, code. -/
import Derived.Test.YthmhcnnigepohaaGreatDoorM03
import Derived.Test.YthmhcnnigepohaaGreatDoorM02
import Derived.Test.YthmhcnnigepohaaGreatDoorM13
import Derived.StillTailTactics
import Derived.Laws.BitsLemmas
import Derived.Lib.RabinKarpLaws
namespace Go.Proofs.YthmhcnnigepohaaGreatDoor.En
open Go.RowKit
open Dg (BAt bcells)
open If (Grows)
set_option linter.unusedVariables false

/-- The writer's block and its bytes; all that it owns lies in G. -/
def Wr (w : World) (U : Nat) (G : List Nat) (W : List Nat) : Prop :=
  ∃ g v, w.heap[U]? = some (.cells #[v, .int .i64 (free W.length : Nat)] 75 (0, 0)) ∧ BAt w v g (packB W) ∧ U ∈ G ∧ (∀ b, g = some b → b ∈ G) ∧ In w G
def WPost (U : Nat) (G : List Nat) (W' : List Nat) (w : World) (e : Ending) (w' : World) : Prop :=
  e = .returned (.tuple #[]) ∧ ∃ G', Wr w' U G' W' ∧ Grows w G G' ∧ Fr G w w'
theorem Wr.fr {w w' : World} {U : Nat} {G S : List Nat} {W : List Nat} (h : Wr w U G W) (hf : Fr S w w') (hS : ∀ b ∈ G, b ∉ S) : Wr w' U G W := by
  obtain ⟨g, v, h1, h2, h3, h4, h5⟩ := h
  exact ⟨g, v, (hf.block U (lt_of_blk h1) (hS U h3)).trans h1, SlAt.fr h2 hf (fun b hb => hS b (h4 b hb)), h3, h4, h5.fr hf⟩
theorem free_lt (n : Nat) : free n < 8 := Nat.mod_lt _ (by omega)

theorem or_bit0 : ∀ f : Nat, f < 9 → ∀ x : Nat, x < 2 → ∀ c : Nat, c < 256 → (c < 2 ^ (8 - f) ∧ 0 < f) → bits .or .u8 (c : Int) ((x : Int) * 2 ^ (8 - f) % 256) = ((c + x * 2 ^ (8 - f) : Nat) : Int) ∧ c + x * 2 ^ (8 - f) < 256 := by decide +kernel
theorem or_bit (f : Nat) (h1 : f < 9) (h2 : 0 < f) (x : Nat) (h3 : x < 2) (c : Nat) (h4 : c < 256) (h5 : c < 2 ^ (8 - f)) : bits .or .u8 (c : Int) ((x : Int) * 2 ^ (8 - f) % 256) = ((c + x * 2 ^ (8 - f) : Nat) : Int) ∧ c + x * 2 ^ (8 - f) < 256 := or_bit0 f h1 x h3 c h4 ⟨h5, h2⟩
theorem bat_set {w : World} {v : Value} {g : Option Nat} {L : List UInt8} {b off cap n i : Nat} (h : BAt w v g L) (hn : n = L.length) (hv : v = .slice (some ⟨b, off, none⟩) n cap) (hi : i < L.length) (y : UInt8) : BAt (w.setCell ⟨b, off + i, none⟩ (.int .u8 (y.toNat : Int))) v g (L.set i y) := by
  rcases h with ⟨h0, _, h1, _⟩ | ⟨b', off', cap', cur, hg, hv', hblk, hnc, hfit, hxs, hcells⟩
  · omega
  · rw [hv] at hv'
    injection hv' with e1 e2 e3
    injection e1 with e1
    injection e1 with e1 e4
    subst e1 e4 e3
    refine .inr ⟨b, off, cap, cur.setIfInBounds (off + i) (.int .u8 (y.toNat : Int)), hg, by rw [hv, hn, List.length_set], ?_, by rw [List.length_set]; exact hnc, by simpa using hfit, by rw [Dg.bcells_len, List.length_set]; omega, fun j u hj => ?_⟩
    · exact heap_set_same hblk
    · have hj2 : (bcells (L.set i y))[j]? = if j = i then some (.int .u8 (y.toNat : Int)) else (bcells L)[j]? := by
        unfold bcells
        rw [List.getElem?_map, List.getElem?_map, List.getElem?_set]
        by_cases hji : i = j
        · subst hji; rw [if_pos rfl, if_pos hi, if_pos rfl]; rfl
        · rw [if_neg hji, if_neg (fun e => hji e.symm)]
      rw [hj2] at hj
      rw [Array.getElem?_setIfInBounds]
      by_cases hji : j = i
      · subst hji
        rw [if_pos rfl] at hj
        rw [if_pos rfl, if_pos (by omega)]
        exact hj
      · rw [if_neg hji] at hj
        rw [if_neg (by omega)]
        exact hcells j u hj
theorem wr_store {w : World} {U : Nat} {G : List Nat} {g : Option Nat} {sv : Value} {b off cap m f x : Nat} {L : List UInt8} {X : List Nat} {c : UInt8} (hb : w.heap[U]? = some (.cells #[sv, .int .i64 (f : Nat)] 75 (0, 0))) (hby : BAt w sv g L) (hgb : g = some b) (hsv : sv = .slice (some ⟨b, off, none⟩) m cap) (hm : m = L.length) (hm0 : 0 < m)
    (hcl : c.toNat < 2 ^ (8 - f)) (hf : 0 < f ∧ f ≤ 8) (hx : x ≤ 1) (hU : U ∈ G) (hgG : b ∈ G) (hin : In w G) (hp : packB (X ++ [x]) = L.set (m - 1) (UInt8.ofNat (c.toNat + x * 2 ^ (8 - f)))) (hfree : free (X.length + 1) = f - 1) :
    Wr ((w.setCell ⟨b, off + (m - 1), none⟩ (.int .u8 (bits .or .u8 (c.toNat : Int) ((x : Int) * 2 ^ (8 - f) % 256)))).setCell ⟨U, 1, none⟩ (.int .i64 ((f : Int) - 1))).drew U G (X ++ [x]) ∧
      Fr G w ((w.setCell ⟨b, off + (m - 1), none⟩ (.int .u8 (bits .or .u8 (c.toNat : Int) ((x : Int) * 2 ^ (8 - f) % 256)))).setCell ⟨U, 1, none⟩ (.int .i64 ((f : Int) - 1))).drew := by
  obtain ⟨e1, e2⟩ := or_bit f (by omega) hf.1 x (by omega) c.toNat (UInt8.toNat_lt c) hcl
  have e3 : (UInt8.ofNat (c.toNat + x * 2 ^ (8 - f))).toNat = c.toNat + x * 2 ^ (8 - f) := by rw [UInt8.toNat_ofNat', Nat.mod_eq_of_lt e2]
  rw [e1, ← e3]
  have hbU : b ≠ U := by
    rintro rfl
    obtain ⟨cur, hcur⟩ := SlAt.lt hby _ hgb
    rw [hb] at hcur; injection hcur with hcur; injection hcur with _ hcur _; cases hcur
  have hf1 : Fr G w (w.setCell ⟨b, off + (m - 1), none⟩ (.int .u8 ((UInt8.ofNat (c.toNat + x * 2 ^ (8 - f))).toNat : Int))) := (Fr.refl G w).setCell (.inl hgG) _
  have hf2 : Fr G w ((w.setCell ⟨b, off + (m - 1), none⟩ (.int .u8 ((UInt8.ofNat (c.toNat + x * 2 ^ (8 - f))).toNat : Int))).setCell ⟨U, 1, none⟩ (.int .i64 ((f : Int) - 1))).drew := (hf1.setCell (.inl hU) _).drew
  refine ⟨⟨g, sv, ?_, ?_, hU, fun b' hb' => by rw [hgb] at hb'; injection hb' with hb'; rw [← hb']; exact hgG, hin.fr hf2⟩, hf2⟩
  · rw [heap_drew, heap_set, heap_set_other (by simpa using hbU.symm), hb]
    simp only [Option.map_some, setAt_cells]
    rw [List.length_append, List.length_singleton, hfree, show ((f - 1 : Nat) : Int) = (f : Int) - 1 by omega]
    rfl
  · have h1 := bat_set hby hm hsv (i := m - 1) (by omega) (UInt8.ofNat (c.toNat + x * 2 ^ (8 - f)))
    rw [← hp] at h1
    refine SlAt.fr h1 (((Fr.refl [U] _).setCell (.inl (by simp)) _).drew) (fun b' hb' => ?_)
    rw [hgb] at hb'; injection hb' with hb'
    simp only [List.mem_singleton]
    omega

set_option maxRecDepth 100000 in
set_option maxHeartbeats 4000000 in
theorem number28_any (U : Nat) (G : List Nat) (W : List Nat) (v n : Nat) (w : World) (h : Wr w U G W) (hv : v ≤ 1000000) (hn : n ≤ 16) (hW : W.length ≤ 7000000) (hle : ∀ x ∈ W, x ≤ 1) :
    Calls Tryz.prog 28 #[.pointer (some ⟨U, 0, none⟩), .int .i64 v, .int .i64 n] w (WPost U G (W ++ lsb v n) w) := by
  have HH := hide h
  have HL := hide hle
  clear h hle
  go_enter Tryz.func28, Tryz.ntmps28
  go_wp2_with fail
  go_loopg [8] (n + 1) (fun gk i wr => ∃ (k : Nat) (G' : List Nat), gk = n + 1 - k ∧ k ≤ n ∧ i = .int .i64 k ∧ Wr wr U G' (W ++ lsb v k) ∧ Grows w G G' ∧ Fr G w wr)
  case atStart => exact ⟨0, G, rfl, by omega, rfl, by simpa [lsb] using HH.out, Grows.refl _ _, Fr.refl _ _⟩
  case round =>
    obtain ⟨k, G', hgk, hk, rfl, hw, hg, hf⟩ := hrel
    have HGK := hide hgk
    have HG := hide hg
    have HF := hide hf
    by_cases hlt : k < n
    · obtain ⟨X, hX⟩ : ∃ X, X = W ++ lsb v k := ⟨_, rfl⟩
      have hXl : X.length = W.length + k := by rw [hX, List.length_append, lsb_len]
      rw [← hX] at hw
      obtain ⟨g, sv, hb, hby, hU, hgG, hin⟩ := hw
      obtain ⟨f, hfr⟩ : ∃ f, f = free X.length := ⟨_, rfl⟩
      rw [← hfr] at hb
      have hf8 : f < 8 := by rw [hfr]; exact free_lt _
      by_cases h0 : f = 0
      · subst h0
        have hX8 : X.length % 8 = 0 := by unfold free at hfr; omega
        obtain ⟨m, hm⟩ : ∃ m, m = (packB X).length := ⟨_, rfl⟩
        have hmb : m ≤ 1000000 - 1 := by rw [hm, packB_len]; unfold nb; omega
        obtain ⟨pa, pc, hpv⟩ := SlAt.shape hby
        rw [← hm] at hpv
        subst hpv
        obtain ⟨v1, w1, g1, hap, hb1, hfr1, hg1⟩ := hby.push [0] #[.int .u8 0] rfl (by simp) (by simp; omega)
        have hap1 : (Builtin.append_ #[22, 22] 22 #[.slice pa m pc, .slice (some ⟨wr.heap.size, 0, none⟩) 1 1]).run Tryz.prog (wr.alloc (.cells #[.int .u8 0] 5)) = .ok v1 w1 := hap
        have hUg : U ∉ g.toList := fun hm2 => by
          obtain ⟨cur, hcur⟩ := SlAt.lt hby U (by simpa using hm2)
          rw [hb] at hcur; injection hcur with hcur; injection hcur with _ hcur _; cases hcur
        have hU1 : w1.heap[U]? = some (.cells #[.slice pa m pc, .int .i64 ((0 : Nat) : Int)] 75 (0, 0)) := (hfr1.block U (lt_of_blk hb) hUg).trans hb
        have a0 : wr.cell? ⟨U, 0, none⟩ = some (.slice pa m pc) := cell_blk hb 0
        have a1 : wr.cell? ⟨U, 1, none⟩ = some (.int .i64 0) := cell_blk hb 1
        have af0 : wr.frozen? ⟨U, 0, none⟩ = false := froz_blk hb 0
        have al := lt_of_blk hb
        have n0 : w1.cell? ⟨U, 0, none⟩ = some (.slice pa m pc) := cell_blk hU1 0
        have n1 : w1.cell? ⟨U, 1, none⟩ = some (.int .i64 0) := cell_blk hU1 1
        have nf0 : w1.frozen? ⟨U, 0, none⟩ = false := froz_blk hU1 0
        have nf1 : w1.frozen? ⟨U, 1, none⟩ = false := froz_blk hU1 1
        have nl := lt_of_blk hU1
        obtain ⟨w2, hw2⟩ : ∃ x, x = (w1.setCell ⟨U, 0, none⟩ v1).setCell ⟨U, 1, none⟩ (.int .i64 8) := ⟨_, rfl⟩
        obtain ⟨f8, hf88⟩ : ∃ f8 : Nat, f8 = 8 := ⟨_, rfl⟩
        have hb2 : w2.heap[U]? = some (.cells #[v1, .int .i64 (f8 : Int)] 75 (0, 0)) := by rw [hw2, heap_set, heap_set, hU1, hf88]; rfl
        have hfr2 : Fr [U] w1 w2 := by rw [hw2]; exact ((Fr.refl [U] w1).setCell (.inl (by simp)) _).setCell (.inl (by simp)) _
        obtain ⟨m1, hm1⟩ : ∃ m1, m1 = m + 1 := ⟨_, rfl⟩
        obtain ⟨va, vc, hv1⟩ := SlAt.shape hb1
        rw [List.length_append, ← hm, List.length_singleton, ← hm1] at hv1
        have hby2 : BAt w2 v1 g1 (packB X ++ [0]) := SlAt.fr hb1 hfr2 (fun b hb3 => by
          rcases hg1 with h | ⟨b2, h, h2⟩
          · rw [h] at hb3
            intro hm2
            simp only [List.mem_singleton] at hm2
            rw [hm2] at hb3
            exact hUg (by simpa using hb3)
          · rw [h] at hb3; injection hb3 with hb3
            simp only [List.mem_singleton]
            omega)
        have hlen2 : m1 = (packB X ++ [0]).length := by rw [List.length_append, ← hm, List.length_singleton, hm1]
        obtain ⟨b, off, cap, hgb, hsv, hbl, hcell⟩ := If.bat_get hby2 (i := m1 - 1) (by omega)
        rw [← hlen2, hv1] at hsv
        injection hsv with hva _ hvc
        subst hva hvc hv1
        have hc0 : (packB X ++ [0]).getD (m1 - 1) 0 = 0 := by
          rw [show m1 - 1 = (packB X).length by omega]
          simp
        rw [hc0] at hcell
        have hcell : w2.cell? ⟨b, off + (m1 - 1), none⟩ = some (.int .u8 0) := hcell
        have hin2 : In w2 (g1.toList ++ G') := by
          intro y hy
          rcases List.mem_append.1 hy with h | h
          · rw [hgb] at h
            simp only [Option.toList_some, List.mem_singleton] at h
            rw [h]; exact hbl
          · have := hin y h
            have := hfr1.size
            have := hfr2.size
            omega
        have hG2 : Hid (Grows wr G' (g1.toList ++ G')) := by
          refine hide fun y hy => ?_
          rcases List.mem_append.1 hy with h | h
          · rcases hg1 with h1 | ⟨b2, h1, h2⟩
            · rw [h1] at h
              exact .inl (hgG y (by simpa using h))
            · rw [h1] at h
              simp only [Option.toList_some, List.mem_singleton] at h
              right; omega
          · exact .inl h
        have hF2 : Fr G' wr w2 := (hfr1.sub (fun y hy => hgG y (by simpa using hy))).trans (hfr2.sub (fun y hy => by simp only [List.mem_singleton] at hy; rw [hy]; exact hU))
        have e0 : w2.cell? ⟨U, 0, none⟩ = some (.slice (some ⟨b, off, none⟩) m1 vc) := cell_blk hb2 0
        have e1 : w2.cell? ⟨U, 1, none⟩ = some (.int .i64 (f8 : Int)) := cell_blk hb2 1
        have b6 : (0 : Int) ≤ 8 - (f8 : Int) ∧ 8 - (f8 : Int) < 64 := by omega
        have z3 : IntKind.i64.wrap (8 - (f8 : Int)) = 8 - (f8 : Int) := IntWalk.i64_in _ (by omega)
        have hfz : w2.frozen? ⟨b, off + (m1 - 1), none⟩ = false := by
          obtain ⟨cur, hcur⟩ := SlAt.lt hby2 b hgb
          exact froz_blk hcur _
        have hf1 : w2.frozen? ⟨U, 1, none⟩ = false := froz_blk hb2 1
        have hbU : b ≠ U := by
          rintro rfl
          obtain ⟨cur, hcur⟩ := SlAt.lt hby2 _ hgb
          rw [hb2] at hcur; injection hcur with hcur; injection hcur with _ hcur _; cases hcur
        have hbU2 : U ≠ b := hbU.symm
        have hl := lt_of_blk hb2
        have z1 : IntKind.i64.wrap ((m1 : Int) - 1) = (m1 : Int) - 1 := IntWalk.i64_in _ (by omega)
        have b0 : (0 : Int) ≤ (m1 : Int) - 1 ∧ (m1 : Int) - 1 < (m1 : Int) := by omega
        have b1 : (1 : Int) ≤ (m1 : Int) := by omega
        have b2 : 1 ≤ m1 := by omega
        have z2 : ((m1 : Int) - 1).toNat = m1 - 1 := by omega
        have b5 : (0 : Int) ≤ (k : Int) ∧ (k : Int) < 64 := by omega
        obtain ⟨x, hx⟩ : ∃ x, x = v / 2 ^ k % 2 := ⟨_, rfl⟩
        have z4 : bits BinOp.and IntKind.i64 ((v : Int) / 2 ^ k) 1 = (x : Int) := by
          rw [hx, show (v : Int) / 2 ^ k = ((v / 2 ^ k : Nat) : Int) by simp]
          exact Go.Proofs.and_one _ (Nat.lt_of_le_of_lt (Nat.div_le_self _ _) (by omega))
        have hx1 : x ≤ 1 := by omega
        have HST : Hid (Wr ((w2.setCell ⟨b, off + (m1 - 1), none⟩ (.int .u8 (bits .or .u8 0 ((x : Int) * 2 ^ (8 - f8) % 256)))).setCell ⟨U, 1, none⟩ (.int .i64 ((f8 : Int) - 1))).drew U (g1.toList ++ G') (W ++ lsb v (k + 1)) ∧ Fr (g1.toList ++ G') w2 ((w2.setCell ⟨b, off + (m1 - 1), none⟩ (.int .u8 (bits .or .u8 0 ((x : Int) * 2 ^ (8 - f8) % 256)))).setCell ⟨U, 1, none⟩ (.int .i64 ((f8 : Int) - 1))).drew) := by
          rw [lsb_snoc, ← List.append_assoc, ← hX, ← hx]
          refine hide (wr_store (f := f8) (c := 0) hb2 hby2 hgb rfl hlen2 (by omega) (by rw [hf88]; decide) (by omega) hx1 (by simp [hU]) (by simp [hgb]) hin2 ?_ (by unfold free; omega))
          rw [hf88, packB_new X x hX8, show m1 - 1 = (packB X).length by omega, List.set_append_right _ _ (Nat.le_refl _)]
          simp
        have HF3 := hide (HF.out.thru HG.out hF2)
        have HG3 := hide (HG.out.trans hG2.out HF.out.size)
        have HX := hide hx
        have HW2 := hide hw2
        have f8b : f8 ≤ 8 ∧ 0 < f8 := by omega
        clear hf88 hgk hg hf hX hXl hb hby hU hgG hin hfr hm hgb hx hX8 hap hb1 hfr1 hg1 hUg hU1 hb2 hfr2 hlen2 hby2 hc0 hin2 hF2 hm1 hw2
        have z5 : IntKind.u8.wrap (x : Int) = (x : Int) := IntWalk.u8_in _ (by omega)
        go_upto_region 5 with (at_builtin; refine wpList_append_run rfl _ _ 22 rfl hap1 rfl rfl ?_)
        clear a0 a1 af0 al hap1
        go_upto_region 6 with fail
        rw [← HW2.out]
        clear n0 n1 nf0 nf1 nl
        go_still_tail 24, (by kernel_rfl)
        change wpList _ _ _ _ _ w2.drew
        go_wp2_with fail
        go_roundg (n + 1 - (k + 1))
        case measure => have := HGK.out; omega
        case rel =>
          obtain ⟨r1, r2⟩ := HST.out
          exact ⟨k + 1, _, rfl, by omega, by go_num, r1, HG3.out, HF3.out.thru HG3.out r2⟩
      · obtain ⟨m, hm⟩ : ∃ m, m = (packB X).length := ⟨_, rfl⟩
        have hm0 : 0 < m := by rw [hm, packB_len]; unfold nb; unfold free at hfr; omega
        have hmb : m ≤ 1000000 := by rw [hm, packB_len]; unfold nb; omega
        obtain ⟨b, off, cap, hgb, hsv, hbl, hcell⟩ := If.bat_get hby (i := m - 1) (by omega)
        rw [← hm] at hsv
        obtain ⟨c, hc⟩ : ∃ c, c = (packB X).getD (m - 1) 0 := ⟨_, rfl⟩
        rw [← hc] at hcell
        have c0 : wr.cell? ⟨U, 0, none⟩ = some (.slice (some ⟨b, off, none⟩) m cap) := by rw [cell_blk hb]; show some sv = _; rw [hsv]
        have c1 : wr.cell? ⟨U, 1, none⟩ = some (.int .i64 (f : Nat)) := by rw [cell_blk hb]; rfl
        have hfz : wr.frozen? ⟨b, off + (m - 1), none⟩ = false := by
          obtain ⟨cur, hcur⟩ := SlAt.lt hby b hgb
          exact froz_blk hcur _
        have hf1 : wr.frozen? ⟨U, 1, none⟩ = false := froz_blk hb 1
        have hbU : b ≠ U := by
          rintro rfl
          obtain ⟨cur, hcur⟩ := SlAt.lt hby _ hgb
          rw [hb] at hcur; injection hcur with hcur; injection hcur with _ hcur _; cases hcur
        have hbU2 : U ≠ b := hbU.symm
        have hl := lt_of_blk hb
        have d1 : (((f : Nat) : Int) == 0) = false := by simpa using h0
        have z1 : IntKind.i64.wrap ((m : Int) - 1) = (m : Int) - 1 := IntWalk.i64_in _ (by omega)
        have b0 : (0 : Int) ≤ (m : Int) - 1 ∧ (m : Int) - 1 < (m : Int) := by omega
        have b1 : (1 : Int) ≤ (m : Int) := by omega
        have b2 : 1 ≤ m := by omega
        have z2 : ((m : Int) - 1).toNat = m - 1 := by omega
        have b5 : (0 : Int) ≤ (k : Int) ∧ (k : Int) < 64 := by omega
        have b6 : (0 : Int) ≤ 8 - (f : Int) ∧ 8 - (f : Int) < 64 := by omega
        have z3 : IntKind.i64.wrap (8 - (f : Int)) = 8 - (f : Int) := IntWalk.i64_in _ (by omega)
        obtain ⟨x, hx⟩ : ∃ x, x = v / 2 ^ k % 2 := ⟨_, rfl⟩
        have z4 : bits BinOp.and IntKind.i64 ((v : Int) / 2 ^ k) 1 = (x : Int) := by
          rw [hx, show (v : Int) / 2 ^ k = ((v / 2 ^ k : Nat) : Int) by simp]
          exact Go.Proofs.and_one _ (Nat.lt_of_le_of_lt (Nat.div_le_self _ _) (by omega))
        have hx1 : x ≤ 1 := by omega
        have HST : Hid (Wr ((wr.setCell ⟨b, off + (m - 1), none⟩ (.int .u8 (bits .or .u8 (c.toNat : Int) ((x : Int) * 2 ^ (8 - f) % 256)))).setCell ⟨U, 1, none⟩ (.int .i64 ((f : Int) - 1))).drew U G' (W ++ lsb v (k + 1)) ∧ Fr G' wr ((wr.setCell ⟨b, off + (m - 1), none⟩ (.int .u8 (bits .or .u8 (c.toNat : Int) ((x : Int) * 2 ^ (8 - f) % 256)))).setCell ⟨U, 1, none⟩ (.int .i64 ((f : Int) - 1))).drew) := by
          have hXle : ∀ y ∈ X, y ≤ 1 := by
            intro y hy
            rw [hX] at hy
            rcases List.mem_append.1 hy with h | h
            · exact HL.out y h
            · exact lsb_le _ _ y h
          have e8 : 8 - f = X.length % 8 := by unfold free at hfr; omega
          have hnb : nb X.length = m := by rw [hm, packB_len]
          have hcl : c.toNat < 2 ^ (8 - f) := by
            rw [hc, packB_get X _ (by omega), UInt8.toNat_ofNat', Nat.mod_eq_of_lt (val_lt X hXle _ 8), e8, val_over X _ (X.length % 8) 8 (by omega) (by rw [← hnb]; unfold nb; omega)]
            exact val_lt X hXle _ _
          rw [lsb_snoc, ← List.append_assoc, ← hX, ← hx]
          refine hide (wr_store hb hby hgb hsv hm hm0 hcl (by omega) hx1 hU (hgG b hgb) hin ?_ (by unfold free at hfr ⊢; omega))
          rw [packB_old X x (by unfold free at hfr; omega), hnb, ← hc, e8]
        clear hgk hg hf hX hXl hb hby hU hgG hin hfr hm hgb hsv hc hx
        go_wp2_with fail
        have z5 : IntKind.u8.wrap (x : Int) = (x : Int) := IntWalk.u8_in _ (by omega)
        go_still_tail 24, (by kernel_rfl)
        change wpList _ _ _ _ _ wr.drew
        go_wp2_with fail
        go_roundg (n + 1 - (k + 1))
        case measure => have := HGK.out; omega
        case rel =>
          obtain ⟨r1, r2⟩ := HST.out
          exact ⟨k + 1, G', rfl, by omega, by go_num, r1, HG.out, HF.out.thru HG.out r2⟩
    · obtain rfl : k = n := by omega
      have HW := hide hw
      clear hgk hg hf hw
      go_wp2
      refine bodyPost_end (results_none rfl _ _ _) rfl ?_
      exact ⟨rfl, G', HW.out, HG.out, HF.out⟩
end Go.Proofs.YthmhcnnigepohaaGreatDoor.En
