/- The reference: pad; the table of constants. -/
import Derived.Test.YtgkhjenlfajdcaaDoorDigits
namespace Go.Proofs.YtgkhjenlfajdcaaDoor
open Go.RowKit

/-- A slice of bytes in a block that may bear a frozen mark behind its end ('[]byte(s)'). -/
def BF (w : World) (v : Value) (b : Nat) (l : List UInt8) : Prop :=
  ∃ off cap cur fr, v = .slice (some ⟨b, off, none⟩) l.length cap ∧ w.heap[b]? = some (.cells cur 5 fr) ∧ (∀ i, i < cur.size → (decide (fr.1 ≤ i) && decide (i < fr.2)) = false) ∧ l.length ≤ cap ∧ off + cap ≤ cur.size ∧ ∀ j u, (bcells l)[j]? = some u → cur[off + j]? = some u
theorem BF.lt {w : World} {v : Value} {b : Nat} {l : List UInt8} (h : BF w v b l) : b < w.heap.size := by
  obtain ⟨off, cap, cur, fr, h1, h2, _⟩ := h
  exact lt_of_blk h2
theorem BF.keep {w w' : World} {v : Value} {b : Nat} {l : List UInt8} (h : BF w v b l) (e : w'.heap[b]? = w.heap[b]?) : BF w' v b l := by
  obtain ⟨off, cap, cur, fr, h1, h2, h3⟩ := h
  exact ⟨off, cap, cur, fr, h1, e.trans h2, h3⟩
theorem BF.shape {w : World} {v : Value} {b : Nat} {l : List UInt8} (h : BF w v b l) : ∃ a c, v = .slice a l.length c := by
  obtain ⟨off, cap, cur, fr, h1, _⟩ := h
  exact ⟨_, _, h1⟩
/-- Read alone. -/
def RAt (w : World) (v : Value) (l : List UInt8) : Prop := ∃ b off cap, v = .slice (some ⟨b, off, none⟩) l.length cap ∧ b < w.heap.size ∧ ∀ i (h : i < l.length), w.cell? ⟨b, off + i, none⟩ = some (.int .u8 ((l[i]).toNat : Int))
theorem BF.read {w : World} {v : Value} {b : Nat} {l : List UInt8} (h : BF w v b l) : RAt w v l := by
  obtain ⟨off, cap, cur, fr, h1, h2, h3, h4, h5, h6⟩ := h
  refine ⟨b, off, cap, h1, lt_of_blk h2, fun i hi => ?_⟩
  have h7 := h6 i (.int .u8 ((l[i]).toNat : Int)) (by simp [bcells, List.getElem?_eq_getElem hi])
  simp [World.cell?, h2, h7]
theorem RAt.fr {w w' : World} {v : Value} {l : List UInt8} (h : RAt w v l) (hf : Fr [] w w') : RAt w' v l := by
  obtain ⟨b, off, cap, h1, h2, h3⟩ := h
  refine ⟨b, off, cap, h1, by have := hf.size; omega, fun i hi => ?_⟩
  rw [World.cell?_of_block (w := w) (hf.block b h2 (by simp))]
  exact h3 i hi

theorem BF.push {w : World} {v : Value} {b : Nat} {l : List UInt8} (h : BF w v b l) (x : UInt8) (hl : l.length ≤ 1000000) :
    ∃ v' w' b', (Builtin.append_ #[27, 27] 27 #[v, .slice (some ⟨w.heap.size, 0, none⟩) 1 1]).run Tryd.prog (w.alloc (.cells #[.int .u8 (x.toNat : Int)] 5)) = .ok v' w' ∧ BF w' v' b' (l ++ [x]) ∧ Fr [b] w w' ∧ (b' = b ∨ w.heap.size ≤ b') := by
  have hb := h.lt
  obtain ⟨off, cap, cur, fr, rfl, hblk, hfz, hlc, hfit, hcells⟩ := h
  obtain ⟨i, z, hi, hz, hsz, hby, hzs⟩ := elem5.info
  have hW : (w.alloc (.cells #[.int .u8 (x.toNat : Int)] 5)).heap[b]? = some (.cells cur 5 fr) := (heap_alloc_lt hb).trans hblk
  have hnew : ∀ j u, [Value.int .u8 (x.toNat : Int)][j]? = some u → (w.alloc (.cells #[.int .u8 (x.toNat : Int)] 5)).cell? ((⟨w.heap.size, 0, none⟩ : Addr).add j) = some u := by
    intro j u hj
    rw [Addr.add_lit, cell_blk (heap_alloc_eq rfl)]
    simpa using hj
  have hold : ∀ j u, (bcells l)[j]? = some u → (w.alloc (.cells #[.int .u8 (x.toNat : Int)] 5)).cell? ((⟨b, off, none⟩ : Addr).add j) = some u := by
    intro j u hj
    rw [Addr.add_lit]
    simp [World.cell?, hW, hcells j u hj]
  by_cases hroom : l.length + 1 ≤ cap
  · have hf := run_firstCells_some (P := Tryd.prog) (w := w.alloc (.cells #[.int .u8 (x.toNat : Int)] 5)) i.size 1 ⟨w.heap.size, 0, none⟩ 1 1 [Value.int .u8 (x.toNat : Int)] (by simp [hsz]) hnew
    have hlt : off + l.length < cur.size := by omega
    have hst := run_storeCells_cells (P := Tryd.prog) b (off + l.length) [Value.int .u8 (x.toNat : Int)] 0 (w.alloc (.cells #[.int .u8 (x.toNat : Int)] 5)) (fun j hj => by
        have hj0 : j = 0 := by simpa using hj
        subst hj0
        simp [World.cell?, hW, Array.getElem?_eq_getElem hlt]) (fun j hj => by
        have hj0 : j = 0 := by simpa using hj
        subst hj0
        have := hfz _ hlt
        simpa [World.frozen?, hW] using this) (by simp [Value.oneCell'])
    simp only [Nat.add_zero, World.setCells] at hst
    refine ⟨.slice (some ⟨b, off, none⟩) (l.length + 1) cap, (w.alloc (.cells #[.int .u8 (x.toNat : Int)] 5)).setCell ⟨b, off + l.length, none⟩ (.int .u8 (x.toNat : Int)), b, ?_, ?_, ((Fr.refl _ w).alloc _).setCell (.inl (by simp)) _, .inl rfl⟩
    · have hf' := hf
      rw [hsz] at hf'
      simp [Builtin.append_, run_underlying Tryd.underlying27, sizeOf, typeInfo, hi, hsz, Builtin.lenOf, hroom, hf', Addr.add_lit, hst]
    · refine ⟨off, cap, cur.setIfInBounds (off + l.length) (.int .u8 (x.toNat : Int)), fr, by simp, heap_set_same hW, by simpa using hfz, by simp; omega, by simpa using hfit, fun j u hj => ?_⟩
      rw [bcells_append, List.getElem?_append, bcells_len] at hj
      rw [Array.getElem?_setIfInBounds]
      by_cases hjl : j < l.length
      · rw [if_pos hjl] at hj
        rw [if_neg (by omega)]
        exact hcells j u hj
      · rw [if_neg hjl] at hj
        have hj2 : j = l.length := by
          have := (List.getElem?_eq_some_iff.1 hj).1
          simp [bcells] at this
          omega
        subst hj2
        rw [if_pos rfl, if_pos hlt]
        simpa [bcells] using hj
  · have hr := run_append_grow (P := Tryd.prog) (w := w.alloc (.cells #[.int .u8 (x.toNat : Int)] 5)) 27 27 5 i z Tryd.underlying27 hi hz ⟨b, off, none⟩ l.length cap (bcells l) (by rw [hsz, bcells_len]; omega) hold ⟨w.heap.size, 0, none⟩ 1 1 [Value.int .u8 (x.toNat : Int)] (by simp [hsz]) hnew (by omega) (by omega) (growslice_fits (by omega) (by rw [hby]; omega))
    refine ⟨_, _, (w.alloc (.cells #[.int .u8 (x.toNat : Int)] 5)).heap.size, hr, ⟨0, _, _, (0, 0), by simp; rfl, heap_alloc_eq rfl, by simp, ?_, ?_, fun j u hj => ?_⟩, (((Fr.refl _ w).alloc _).drew).alloc _, .inr (by simp)⟩
    · have := grownCap_ge (w.alloc (.cells #[.int .u8 (x.toNat : Int)] 5)) (l.length + 1) cap 5
      simpa using this
    · have := grownCap_ge (w.alloc (.cells #[.int .u8 (x.toNat : Int)] 5)) (l.length + 1) cap 5
      simp only [Array.size_append, List.size_toArray, size_zeroCells, hzs, bcells_len, Nat.zero_add, List.length_cons, List.length_nil, Nat.mul_one]
      omega
    · have hjl : j < (bcells l ++ [Value.int .u8 (x.toNat : Int)]).length := by
        rw [bcells_append] at hj
        exact (List.getElem?_eq_some_iff.1 hj).1
      rw [Nat.zero_add, Array.getElem?_append_left (by simpa using hjl)]
      rw [bcells_append] at hj
      simpa [bcells] using hj

theorem conv_bf (s : ByteArray) (w : World) : ∃ v W, (convert 9 27 (.string s)).run Tryd.prog w = .ok v W ∧ BF W v w.heap.size s.data.toList ∧ Fr [] w W := by
  have hr := run_bytes_of_string (P := Tryd.prog) w 9 27 5 s Tryd.underlying9 Tryd.underlying27 Tryd.underlying5
  have hc := grownCap_ge w s.size 0 5
  have hbs : (bytesRow s (grownCap w s.size 0 5)).size = grownCap w s.size 0 5 := by simp [bytesRow]; omega
  refine ⟨_, _, hr, ⟨0, _, _, _, by simp; rfl, heap_alloc_eq rfl, fun i hi => ?_, by simpa using hc, by simp [hbs], fun j u hj => ?_⟩, ((Fr.refl _ w).drew).alloc _⟩
  · simp
    intro h1
    omega
  · have hjl : j < s.data.size := by
      have := (List.getElem?_eq_some_iff.1 hj).1
      simpa [bcells] using this
    rw [Nat.zero_add, bytesRow_at s _ j hjl, ← hj]
    simp only [bcells, List.getElem?_map, Array.getElem?_toList, Array.getElem?_eq_getElem hjl, Option.map_some]

def PadPost (m : List UInt8) (w : World) (e : Ending) (w' : World) : Prop := ∃ v, e = .returned v ∧ RAt w' v m ∧ Fr [] w w'

set_option maxRecDepth 100000 in
set_option maxHeartbeats 1000000 in
theorem pad20_any (s : ByteArray) (w : World) (hs : s.size ≤ 100000) :
    Calls Tryd.prog 20 #[.string s] w (PadPost (s.data.toList ++ padOf s.size) w) := by
  obtain ⟨m, hm⟩ : ∃ m, m = s.data.toList := ⟨_, rfl⟩
  obtain ⟨n, hn⟩ : ∃ n, n = s.size := ⟨_, rfl⟩
  have hml : m.length = n := by rw [hm, hn]; simp
  obtain ⟨v0, W0, hcv, hb0, hf0⟩ := conv_bf s w
  rw [← hm] at hb0
  rw [← hm, ← hn]
  have HN := hide hn
  obtain ⟨zn, hzn⟩ : ∃ z, z = zeros n := ⟨_, rfl⟩
  have hz2 : zn = (119 - n % 64) % 64 := hzn
  have HZN := hide hzn
  have hn5 : n ≤ 100000 := by omega
  have HF0 := hide hf0
  obtain ⟨a0, c0, hv0⟩ := hb0.shape
  rw [hml] at hv0
  obtain ⟨v1, W1, b1, hap1, hb1, hf1, hg1⟩ := hb0.push 128 (by omega)
  have hap : (Builtin.append_ #[27, 27] 27 #[v0, .slice (some ⟨W0.heap.size, 0, none⟩) 1 1]).run Tryd.prog (W0.alloc (.cells #[.int .u8 128] 5)) = .ok v1 W1 := hap1
  rw [hv0] at hap hcv
  have hw0 : w.heap.size ≤ W0.heap.size := hf0.size
  have HF1 := hide (hf0.andThen hf1 (by simp))
  have HB1 := hide hb1
  have HG1 := hide (show w.heap.size ≤ b1 by omega)
  clear hm hn hzn hf0 hb0 hap1 hb1 hf1 hg1 hs hw0
  go_enter Tryd.func20, Tryd.ntmps20
  go_wp2_with (at_builtin; refine wpList_append_run rfl _ _ 27 rfl hap rfl rfl ?_)
  go_loopg [3] (zn + 1) (fun gk vr wr => ∃ (z b : Nat), gk = zn - z + 1 ∧ z ≤ zn ∧ BF wr vr b (m ++ (128 :: List.replicate z 0)) ∧ w.heap.size ≤ b ∧ Fr [] w wr)
  case atStart => exact ⟨0, b1, by omega, by omega, HB1.out, HG1.out, HF1.out⟩
  case round =>
    obtain ⟨z, b, hgk, hz, hbt, hg, hf⟩ := hrel
    have HGK := hide hgk
    have HB := hide hbt
    have HF := hide hf
    obtain ⟨av, cv, hv⟩ := hbt.shape
    have hlen : (m ++ (128 :: List.replicate z (0 : UInt8))).length = n + (z + 1) := by simp [hml]
    rw [hlen] at hv
    clear hgk hf
    by_cases hlt : z < zn
    · have hne : ((n : Int) + ((z : Int) + 1)) % 64 ≠ 56 := by omega
      obtain ⟨v', w', b', happ, hb', hf', hg'⟩ := hbt.push 0 (by rw [hlen]; omega)
      rw [hv] at happ
      have hap2 : (Builtin.append_ #[27, 27] 27 #[.slice av (n + (z + 1)) cv, .slice (some ⟨wr.heap.size, 0, none⟩) 1 1]).run Tryd.prog (wr.alloc (.cells #[.int .u8 0] 5)) = .ok v' w' := happ
      have HB' := hide hb'
      have HF' := hide (HF.out.andThen hf' (by simp; omega))
      have HG' := hide (show w.heap.size ≤ b' by have := HF.out.size; omega)
      subst hv
      clear hbt happ hb' hf' hg' hap hcv
      go_wp2_with (at_builtin; refine wpList_append_run rfl _ _ 27 rfl hap2 rfl rfl ?_)
      go_roundg (zn - (z + 1) + 1)
      case measure => have := HGK.out; omega
      case rel =>
        refine ⟨z + 1, b', rfl, by omega, ?_, HG'.out, HF'.out⟩
        have h1 := HB'.out
        rw [List.append_assoc, List.cons_append, ← List.replicate_succ'] at h1
        exact h1
    · obtain rfl : z = zn := by omega
      have heq : ((n : Int) + ((z : Int) + 1)) % 64 = 56 := by omega
      have hzb : z ≤ 63 := by omega
      have hsn : s.size = n := HN.out.symm
      subst hv
      clear hbt hz2 hap hcv
      go_wp2_with fail
      clear heq
      go_loopg [3, 5] 9 (fun gk vr i wr => ∃ (t b : Nat), gk = 9 - t ∧ t ≤ 8 ∧ i = .int .i64 (7 - (t : Int)) ∧ BF wr vr b (m ++ (128 :: List.replicate z 0) ++ lenk ((n : Int) * 8) t) ∧ w.heap.size ≤ b ∧ Fr [] w wr)
      case atStart => exact ⟨0, b, rfl, by omega, rfl, by simpa [lenk] using HB.out, hg, HF.out⟩
      case round =>
        obtain ⟨t, b, hgk, ht, rfl, hbt, hg, hf⟩ := hrel
        have HGK := hide hgk
        have HB := hide hbt
        have HF := hide hf
        obtain ⟨av2, cv2, hv⟩ := hbt.shape
        have hlen : (m ++ (128 :: List.replicate z (0 : UInt8)) ++ lenk ((n : Int) * 8) t).length = n + (z + 1) + t := by simp [lenk_len, hml]; omega
        rw [hlen] at hv
        clear hgk hf
        by_cases hlt : t < 8
        · have n56 : (8 * (7 - (t : Int))).toNat = 56 - 8 * t := by omega
          have hb56 : (0 : Int) ≤ 8 * (7 - (t : Int)) ∧ 8 * (7 - (t : Int)) ≤ 64 := by omega
          obtain ⟨bv, hbv⟩ : ∃ x : Int, x = (n : Int) * 8 / 2 ^ (56 - 8 * t) % 256 := ⟨_, rfl⟩
          have hbv2 : 0 ≤ bv ∧ bv < 256 := by rw [hbv]; omega
          obtain ⟨v', w', b', happ, hb', hf', hg'⟩ := hbt.push (UInt8.ofNat bv.toNat) (by rw [hlen]; omega)
          rw [hv, ofNat_val _ hbv2] at happ
          have hap2 : (Builtin.append_ #[27, 27] 27 #[.slice av2 (n + (z + 1) + t) cv2, .slice (some ⟨wr.heap.size, 0, none⟩) 1 1]).run Tryd.prog (wr.alloc (.cells #[.int .u8 bv] 5)) = .ok v' w' := happ
          rw [hbv] at hap2
          have HB' := hide hb'
          have HF' := hide (HF.out.andThen hf' (by simp; omega))
          have HG' := hide (show w.heap.size ≤ b' by have := HF.out.size; omega)
          have HBV := hide hbv
          subst hv
          clear hbt happ hb' hf' hg' hbv hbv2
          go_wp2_with (at_builtin; refine wpList_append_run rfl _ _ 27 rfl hap2 rfl rfl ?_)
          go_roundg (9 - (t + 1))
          case measure => have := HGK.out; omega
          case rel =>
            refine ⟨t + 1, b', rfl, by omega, by go_num, ?_, HG'.out, HF'.out⟩
            have h1 := HB'.out
            rw [HBV.out, List.append_assoc _ (lenk _ _)] at h1
            exact h1
        · obtain rfl : t = 8 := by omega
          have hlist : m ++ (128 :: List.replicate z (0 : UInt8)) ++ lenk ((n : Int) * 8) 8 = m ++ padOf n := by
            rw [lenk_all, HZN.out, List.append_assoc]
            rfl
          rw [hlist] at HB
          clear hbt
          go_wp2
          go_ret
          exact ⟨_, rfl, HB.out.read, HF.out⟩
end Go.Proofs.YtgkhjenlfajdcaaDoor

