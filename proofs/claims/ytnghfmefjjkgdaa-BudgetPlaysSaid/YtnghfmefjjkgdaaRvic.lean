/- The reference's pool of layer 54: Used, worse, Victim. -/
import Derived.Test.YtnghfmefjjkgdaaRpool
namespace Go.Proofs.Ytnghfmefjjkgdaa
open Go.RowKit

theorem sumN_take {L : AM} {k : Nat} {x : Int × (Int × Int)} (h : L[k]? = some x) : sumN (L.take (k + 1)) = sumN (L.take k) + x.2.1 := by
  rw [List.take_add_one, h, sumN_append]
  simp [sumN]

/-- The accounts' numbers are small, and there are few. -/
structure Small (L : AM) : Prop where
  acc : ∀ x ∈ L, 1 ≤ x.2.1 ∧ x.2.1 ≤ 1073741824
  len : L.length ≤ 900
theorem Small.sum {L : AM} (h : Small L) (k : Nat) : 0 ≤ sumN (L.take k) ∧ sumN (L.take k) ≤ 1000000000000 := by
  have := sumN_bound (L.take k) (fun x hx => h.acc x (List.mem_of_mem_take hx))
  have := h.len
  have : (L.take k).length ≤ L.length := by simp; omega
  omega

set_option maxHeartbeats 400000 in
theorem rused_any (rp : Nat) (v : Value) (g : Option Nat) (p : Pl) (w : World) (h : RPoolIs w rp v g p) (hs : Small p.M) :
    Calls Try.prog 31 #[.pointer (some ⟨rp, 0, none⟩)] w fun e w' => e = .returned (.int .i64 (sumN p.M)) ∧ w = w' := by
  have c3 : w.cell? ⟨rp, 3, none⟩ = some v := by rw [cell_blk h.blk]; rfl
  obtain ⟨av, cv, hv⟩ := h.sl.shape
  have HL := hide h.sl
  have HS := hide hs
  have hlen := hs.len
  obtain ⟨L, hL⟩ : ∃ L, L = p.M := ⟨_, rfl⟩
  rw [← hL] at HL HS hlen hv
  have HLL := hide hL
  subst hv
  clear h hs hL
  go_enter Try.func31, Try.ntmps31
  go_wp2_with fail
  go_loopg [3, 4] (L.length + 1) (fun gk n i wr => ∃ k : Nat, gk = L.length + 1 - k ∧ k ≤ L.length ∧ i = .int .i64 k ∧ n = .int .i64 (sumN (L.take k)) ∧ w = wr)
  case atStart => exact ⟨0, rfl, by omega, rfl, rfl, rfl⟩
  case round =>
    obtain ⟨k, hgk, hk, rfl, rfl, rfl⟩ := hrel
    have HGK := hide hgk
    clear hgk
    have hsb := HS.out.sum k
    by_cases hlt : k < L.length
    · obtain ⟨x, hx⟩ : ∃ x, L[k]? = some x := ⟨_, List.getElem?_eq_getElem hlt⟩
      obtain ⟨b, off, cap, hg, hv, e0, e1, e2, hb⟩ := HL.out.acc hx
      have hxb := HS.out.acc x (List.mem_of_getElem? hx)
      have HSN := hide (sumN_take hx)
      injection hv with hv1 _ hv3
      subst hv1 hv3
      obtain ⟨s0, hs0⟩ : ∃ s, s = sumN (L.take k) := ⟨_, rfl⟩
      rw [← hs0] at HSN hsb ⊢
      clear hx hg hs0
      go_wp2
      go_roundg (L.length + 1 - (k + 1))
      case measure => have := HGK.out; omega
      case rel => exact ⟨k + 1, rfl, by omega, by go_num, by rw [HSN.out], rfl⟩
    · have hk1 : k = L.length := by omega
      subst hk1
      go_wp2
      go_ret
      rw [List.take_length, HLL.out]
      exact ⟨rfl, rfl⟩

instance (a b : Int × (Int × Int)) : Decidable (worse a b) := by unfold worse; infer_instance

theorem worse_any (a b : Int × (Int × Int)) (w : World) :
    Calls Try.prog 51 #[.agg #[.int .i64 a.1, .int .i64 a.2.1, .int .i64 a.2.2], .agg #[.int .i64 b.1, .int .i64 b.2.1, .int .i64 b.2.2]] w fun e w' => e = .returned (.bool (decide (worse a b))) ∧ Fr [] w w' := by
  obtain ⟨a0, a1, a2⟩ := a
  obtain ⟨b0, b1, b2⟩ := b
  obtain ⟨r, hr⟩ : ∃ r, r = decide (worse (a0, (a1, a2)) (b0, (b1, b2))) := ⟨_, rfl⟩
  have HR := hide hr
  rw [← hr]
  clear hr
  dsimp only
  by_cases h1 : a2 = b2
  · by_cases h2 : a1 = b1
    · go_enter Try.func51, Try.ntmps51
      go_wp2
      all_goals
        go_ret
        refine ⟨?_, ((Fr.refl _ _).alloc _).alloc _⟩
        rw [HR.out]
        refine congrArg (fun x => Ending.returned (Value.bool x)) ?_
        rw [decide_eq_decide]
        unfold worse
        dsimp only
        omega
    · go_enter Try.func51, Try.ntmps51
      go_wp2
      all_goals
        go_ret
        refine ⟨?_, ((Fr.refl _ _).alloc _).alloc _⟩
        rw [HR.out]
        refine congrArg (fun x => Ending.returned (Value.bool x)) ?_
        rw [decide_eq_decide]
        unfold worse
        dsimp only
        omega
  · go_enter Try.func51, Try.ntmps51
    go_wp2
    all_goals
      go_ret
      refine ⟨?_, ((Fr.refl _ _).alloc _).alloc _⟩
      rw [HR.out]
      refine congrArg (fun x => Ending.returned (Value.bool x)) ?_
      rw [decide_eq_decide]
      unfold worse
      dsimp only
      omega

theorem quiet_same {P : Program} {f : FuncId} {args : Array Value} {w : World} {n : Nat} {v : Value}
    (h : Calls P f args (w.drewN n) fun e w' => e = .returned v ∧ w.drewN n = w') : Calls P f args (w.drewN n) fun e w'' => e = .returned v ∧ ∃ m, w'' = w.drewN m :=
  h.mono fun _ _ ⟨he, hm⟩ => ⟨he, n, hm.symm⟩

set_option maxRecDepth 100000 in
set_option maxHeartbeats 1000000 in
theorem rvictim_any (rp : Nat) (v : Value) (g : Option Nat) (p : Pl) (k : Nat) (w : World) (h : RPoolIs w rp v g p) (hs : Small p.M) (inv : PInv p k) :
    Calls Try.prog 37 #[.pointer (some ⟨rp, 0, none⟩)] w fun e w' => ∃ v, e = .returned (.int .i64 v) ∧ VicOf p v ∧ Fr [] w w' := by
  have hrp := lt_of_blk h.blk
  have c0 : w.cell? ⟨rp, 0, none⟩ = some (.int .i64 p.total) := by rw [cell_blk h.blk]; rfl
  have c3 : w.cell? ⟨rp, 3, none⟩ = some v := by rw [cell_blk h.blk]; rfl
  have HB := hide h
  have HU : Hid (∀ n, Calls Try.prog 31 #[.pointer (some ⟨rp, 0, none⟩)] (w.drewN n) fun e w' => e = .returned (.int .i64 p.used) ∧ w.drewN n = w') := by
    show ∀ n, _
    intro n
    rw [inv.used]
    exact rused_any rp v g p _ (h.drewN n) hs
  obtain ⟨av, cv, hv⟩ := h.sl.shape
  have HI := hide inv
  have HSM := hide hs
  clear h hs inv
  by_cases hu : p.used ≤ p.total
  · have HV : Hid (VicOf p 0) := by show VicOf p 0; unfold VicOf; rw [if_pos hu]
    have hd := decide_eq_true hu
    go_enter Try.func37, Try.ntmps37
    go_upto_region 1 with (fail)
    go_quiet (exact quiet_same (HU.out _))
    go_wp2
    go_ret
    exact ⟨0, rfl, HV.out, (Fr.refl _ _).drewN _⟩
  · have HV : Hid (∀ v, IsVic p.M v → VicOf p v) := by show ∀ v, _ → _; intro v hv; unfold VicOf; rw [if_neg hu]; exact hv
    have hd := decide_eq_false hu
    obtain ⟨L, hL⟩ : ∃ L, L = p.M := ⟨_, rfl⟩
    have HLL := hide hL
    have hlen := HSM.out.len
    have HL := hide HB.out.sl
    rw [← hL] at hv HL hlen HV
    have hpos : 0 < L.length := by
      rcases Nat.eq_zero_or_pos L.length with h0 | h0
      · exfalso
        have h1 := HI.out.used
        rw [← hL, List.eq_nil_of_length_eq_zero h0] at h1
        have := HI.out.total
        simp [sumN] at h1
        omega
      · exact h0
    have HN : Hid ((L.map (·.1)).Nodup) := by show (L.map (·.1)).Nodup; rw [hL]; exact HI.out.keys
    clear hL
    obtain ⟨x, hx⟩ : ∃ x, L[0]? = some x := ⟨_, List.getElem?_eq_getElem hpos⟩
    obtain ⟨b, off, cap, hg, hv2, e0, e1, e2, hb⟩ := HL.out.acc hx
    rw [hv2] at hv c3
    have HC3 := hide c3
    injection hv with hv1 _ hv3
    subst hv1 hv3
    have HX := hide hx
    have hge := HB.out.ne _ hg
    simp only [Nat.zero_mul, Nat.add_zero] at e0 e1 e2
    have HV2 := hide hv2
    have HG := hide hg
    clear hv2 hg hx
    go_enter Try.func37, Try.ntmps37
    go_upto_region 1 with (fail)
    go_quiet (exact quiet_same (HU.out _))
    have hFd : Fr [] w (w.drewN nq) := (Fr.refl _ _).drewN _
    have c3d : (w.drewN nq).cell? ⟨rp, 3, none⟩ = some (.slice (some ⟨b, off, none⟩) L.length cap) := c3
    have e0d : (w.drewN nq).cell? ⟨b, off, none⟩ = some (.int .i64 x.1) := e0
    have e1d : (w.drewN nq).cell? ⟨b, off + 1, none⟩ = some (.int .i64 x.2.1) := e1
    have e2d : (w.drewN nq).cell? ⟨b, off + 2, none⟩ = some (.int .i64 x.2.2) := e2
    have hrpd : rp < (w.drewN nq).heap.size := hrp
    have hbd : b < (w.drewN nq).heap.size := hb
    generalize w.drewN nq = wd at *
    clear c3 e0 e1 e2
    go_wp2_with fail
    obtain ⟨G, hG⟩ : ∃ G, G = wd.heap.size := ⟨_, rfl⟩
    have HG2 := hide hG
    rw [← hG]
    have hGw : w.heap.size ≤ G := by have := hFd.size; omega
    clear hG
    go_loopg [4] L.length (fun gk i wr => ∃ (k : Nat) (y : Int × (Int × Int)), gk = L.length + 1 - k ∧ 1 ≤ k ∧ k ≤ L.length ∧ i = .int .i64 k ∧ y ∈ L ∧ (∀ z ∈ L.take k, z = y ∨ worse y z) ∧
        wr.heap[G]? = some (.cells #[.int .i64 y.1, .int .i64 y.2.1, .int .i64 y.2.2] 88 (0, 0)) ∧ Fr [] w wr)
    case atStart =>
      refine ⟨1, x, by omega, by omega, by omega, rfl, List.mem_of_getElem? HX.out, ?_, heap_alloc_eq HG2.out, hFd.alloc _⟩
      intro z hz
      cases hL : L with
      | nil => rw [hL] at hpos; simp at hpos
      | cons a L' =>
        have h1 := HX.out
        rw [hL] at h1 hz
        simp at h1 hz
        left
        rw [hz, h1]
    case round =>
      obtain ⟨k, y, hgk, hk1, hk, rfl, hy, hw, hblk, hfr⟩ := hrel
      have HGK := hide hgk
      have HY := hide hy
      have HW := hide hw
      have HFR := hide hfr
      have HBK := hide hblk
      have c3r : wr.cell? ⟨rp, 3, none⟩ = some (.slice (some ⟨b, off, none⟩) L.length cap) := by rw [World.cell?_of_block (w := w) (hfr.block _ hrp (by simp))]; exact HC3.out
      have hsr := HL.out.fr hfr (by simp)
      have hrpr : rp < wr.heap.size := by have := hfr.size; omega
      have hGr : G < wr.heap.size := lt_of_blk hblk
      clear hgk hy hw hfr
      have y0 : wr.cell? ⟨G, 0, none⟩ = some (.int .i64 y.1) := cell_blk hblk 0
      have y1 : wr.cell? ⟨G, 1, none⟩ = some (.int .i64 y.2.1) := cell_blk hblk 1
      have y2 : wr.cell? ⟨G, 2, none⟩ = some (.int .i64 y.2.2) := cell_blk hblk 2
      have yf0 : wr.frozen? ⟨G, 0, none⟩ = false := froz_blk hblk 0
      have yf1 : wr.frozen? ⟨G, 1, none⟩ = false := froz_blk hblk 1
      have yf2 : wr.frozen? ⟨G, 2, none⟩ = false := froz_blk hblk 2
      clear hblk
      by_cases hlt : k < L.length
      · obtain ⟨z, hz⟩ : ∃ z, L[k]? = some z := ⟨_, List.getElem?_eq_getElem hlt⟩
        obtain ⟨b2, off2, cap2, hg2, hv2, e0, e1, e2, hb2⟩ := hsr.acc hz
        rw [HV2.out] at hv2
        injection hv2 with hv21 _ hv23
        injection hv21 with hv21
        injection hv21 with hv22 hv24
        subst hv22 hv24 hv23
        have HZ := hide hz
        have HWS := hide (worse_any z y wr.drew)
        have hbG : b ≠ G := by omega
        clear hz hg2 hsr
        go_upto_region 7 with (fail)
        go_cut [35] from 18 to 35 (fun s wq => s = .bool (decide (worse z y)) ∧ Fr [] wr wq)
        case first =>
          go_region_with (go_at_call 51; with_reducible refine (unhide HWS).mono ?_; rintro e w' ⟨rfl, hf2⟩)
          all_goals
            go_wp2
            go_meet
            case rel => exact ⟨rfl, ((Fr.refl _ _).drew).trans hf2⟩
        case rest =>
        obtain ⟨rfl, hf2⟩ := hcut
        have HF2 := hide (HFR.out.trans hf2)
        have hblk2 := (hf2.block G hGr (by simp)).trans HBK.out
        have c3q : wc.cell? ⟨rp, 3, none⟩ = some (.slice (some ⟨b, off, none⟩) L.length cap) := by rw [World.cell?_of_block (w := wr) (hf2.block _ hrpr (by simp))]; exact c3r
        have e0q : wc.cell? ⟨b, off + k * 3, none⟩ = some (.int .i64 z.1) := by rw [World.cell?_of_block (w := wr) (hf2.block _ hb2 (by simp))]; exact e0
        have e1q : wc.cell? ⟨b, off + k * 3 + 1, none⟩ = some (.int .i64 z.2.1) := by rw [World.cell?_of_block (w := wr) (hf2.block _ hb2 (by simp))]; exact e1
        have e2q : wc.cell? ⟨b, off + k * 3 + 2, none⟩ = some (.int .i64 z.2.2) := by rw [World.cell?_of_block (w := wr) (hf2.block _ hb2 (by simp))]; exact e2
        have hrpq : rp < wc.heap.size := by have := hf2.size; omega
        have hbq : b < wc.heap.size := by have := hf2.size; omega
        have hGq : G < wc.heap.size := by have := hf2.size; omega
        have HB2 := hide hblk2
        clear hf2 y0 y1 y2 yf0 yf1 yf2 c3r e0 e1 e2
        have y0 : wc.cell? ⟨G, 0, none⟩ = some (.int .i64 y.1) := cell_blk hblk2 0
        have y1 : wc.cell? ⟨G, 1, none⟩ = some (.int .i64 y.2.1) := cell_blk hblk2 1
        have y2 : wc.cell? ⟨G, 2, none⟩ = some (.int .i64 y.2.2) := cell_blk hblk2 2
        have yf0 : wc.frozen? ⟨G, 0, none⟩ = false := froz_blk hblk2 0
        have yf1 : wc.frozen? ⟨G, 1, none⟩ = false := froz_blk hblk2 1
        have yf2 : wc.frozen? ⟨G, 2, none⟩ = false := froz_blk hblk2 2
        clear hblk2
        have HTK := hide (show L.take (k + 1) = L.take k ++ [z] by rw [List.take_add_one, HZ.out]; rfl)
        by_cases hwz : worse z y
        · rw [decide_eq_true hwz]
          have HWZ := hide hwz
          clear hwz
          go_wp2
          go_roundg (L.length + 1 - (k + 1))
          case measure => have := HGK.out; omega
          case rel =>
            refine ⟨k + 1, z, by omega, by omega, by omega, by go_num, List.mem_of_getElem? HZ.out, ?_, ?_, ((HF2.out.setCell (.inr hGw) _).setCell (.inr hGw) _).setCell (.inr hGw) _⟩
            · intro u hu
              rw [HTK.out] at hu
              rcases List.mem_append.1 hu with h1 | h1
              · rcases HW.out u h1 with h2 | h2
                · rw [h2]; exact .inr HWZ.out
                · exact .inr (worse_trans HWZ.out h2)
              · exact .inl (by simpa using h1)
            · simp [heap_set, HB2.out, setAt_cells]
        · rw [decide_eq_false hwz]
          have HWZ := hide hwz
          clear hwz
          go_wp2
          go_roundg (L.length + 1 - (k + 1))
          case measure => have := HGK.out; omega
          case rel =>
            refine ⟨k + 1, y, by omega, by omega, by omega, by go_num, HY.out, ?_, HB2.out, HF2.out⟩
            intro u hu
            rw [HTK.out] at hu
            rcases List.mem_append.1 hu with h1 | h1
            · exact HW.out u h1
            · have h2 : u = z := by simpa using h1
              rw [h2]
              by_cases h3 : worse y z
              · exact .inr h3
              · left
                have h4 : z.1 = y.1 := worse_total HWZ.out h3
                have hz1 : (z.1, z.2) ∈ L := List.mem_of_getElem? HZ.out
                have hy1 : (y.1, y.2) ∈ L := HY.out
                have h5 := mget_of_mem HN.out hz1
                have h6 := mget_of_mem HN.out hy1
                rw [h4, h6] at h5
                injection h5 with h5
                exact Prod.ext h4 h5.symm
      · have hk2 : k = L.length := by omega
        subst hk2
        go_wp2
        go_ret
        refine ⟨y.1, rfl, HV.out _ ⟨y.2, HY.out, fun u hu => ?_⟩, HFR.out⟩
        exact HW.out u (by rw [List.take_length]; exact hu)
end Go.Proofs.Ytnghfmefjjkgdaa

