/- inflate.Dynamic. -/
import Derived.Test.YthmhcnnigepohaaGreatDoorM28
import Derived.Test.YthmhcnnigepohaaGreatDoorM26
import Derived.Test.YthmhcnnigepohaaGreatDoorM17
import Derived.Deep.CutBlock
namespace Go.Proofs.YthmhcnnigepohaaGreatDoor.En
open Go.RowKit
open If (Grows ORD Ost)
open Hf (Ar mk_ints made_ar lensN zI IR Nw)
set_option linter.unusedVariables false

/-- A row of numbers in a block. -/
def Sh (w : World) (b o : Nat) (L : List Nat) : Prop := b < w.heap.size ∧ ∀ i, i < L.length → w.cell? ⟨b, o + i, none⟩ = some (.int .i64 (L.getD i 0 : Nat))
theorem Sh.fr {S : List Nat} {w w' : World} {b o : Nat} {L : List Nat} (h : Sh w b o L) (hf : Fr S w w') (hb : b ∉ S) : Sh w' b o L :=
  ⟨Nat.lt_of_lt_of_le h.1 hf.size, fun i hi => by rw [World.cell?_of_block (w := w) (hf.block b h.1 hb)]; exact h.2 i hi⟩
theorem Sh.nr {w : World} {G : List Nat} {b o c : Nat} {L : List Nat} (h : Sh w b o L) (hb : b ∉ G) : NR w G (.slice (some ⟨b, o, none⟩) L.length c) L := ⟨b, o, c, rfl, hb, h.1, h.2⟩
theorem sh_of {w w' : World} {v : Value} {L : List Nat} (h : IR w' v (zI L)) (hn : Nw w v) (h0 : 0 < L.length) : ∃ b o c, v = .slice (some ⟨b, o, none⟩) L.length c ∧ w.heap.size ≤ b ∧ L.length ≤ c ∧ Sh w' b o L := by
  obtain ⟨a, c, rfl, h2⟩ := h
  rw [Hf.zI_len] at h2 hn ⊢
  obtain ⟨x, rfl, hx⟩ := h2 0 h0
  obtain ⟨hs, hb, hc⟩ := hn x _ _ rfl
  obtain ⟨b, o, sp⟩ := x
  simp only at hs hb
  subst hs
  rw [Addr.add_lit] at hx
  refine ⟨b, o, c, rfl, hb, hc, World.block_lt_of_cell? w' _ hx, fun i hi => ?_⟩
  obtain ⟨y, hy, hy2⟩ := h2 i hi
  injection hy with hy
  rw [← hy, Addr.add_lit, Hf.zI_get] at hy2
  exact hy2
theorem sh_nat {w : World} {v : Value} {g : Option Nat} {L : List Nat} (h : Hf.NAt w v g L) (h0 : 0 < L.length) : ∃ b o c, g = some b ∧ v = .slice (some ⟨b, o, none⟩) L.length c ∧ Sh w b o L := by
  obtain ⟨b, o, c, hg, hv, hb, _⟩ := Hf.NAt.read h (i := 0) (List.getElem?_eq_getElem h0)
  refine ⟨b, o, c, hg, hv, hb, fun i hi => ?_⟩
  obtain ⟨b', o', c', hg', hv', hb', hc⟩ := Hf.NAt.read h (i := i) (List.getElem?_eq_getElem hi)
  rw [hv] at hv'
  injection hv' with e1 e2 e3
  injection e1 with e1
  injection e1 with e1 e4
  subst e1 e4
  rw [hc]
  simp [List.getD, hi]

theorem Run1.val {t t' : List Nat} {r : Rn} (h : Run1 t r t') : r.val < 128 := by
  cases h <;> simp <;> omega
theorem Runs.val {t t' : List Nat} {l : List Rn} (h : Runs t l t') : ∀ x ∈ l, x.val < 128 := by
  induction h with
  | nil => simp
  | cons h _ ih =>
    intro x hx
    rcases List.mem_cons.1 hx with rfl | hx
    · exact h.val
    · exact ih x hx
theorem sh_nr {w w' : World} {G : List Nat} {b o c : Nat} {L : List Nat} (h : Sh w b o L) (hf : Fr [] w w') (hG : ∀ x ∈ G, w.heap.size ≤ x) : NR w' G (.slice (some ⟨b, o, none⟩) L.length c) L :=
  (h.fr hf (by simp)).nr (fun hm => by have h1 := hG b hm; have h2 := h.1; omega)
theorem wstep {wj w w' : World} {G G' : List Nat} (hf : Fr [] wj w) (hG : ∀ b ∈ G, wj.heap.size ≤ b) (hg : Grows w G G') (hf' : Fr G w w') : Fr [] wj w' ∧ ∀ b ∈ G', wj.heap.size ≤ b :=
  ⟨hf.andThen hf' (fun x hx => .inr (hG x hx)), fun b hb => by
    rcases hg b hb with h | h
    · exact hG b h
    · have := hf.size; omega⟩
theorem thBits_snoc (T : List Nat) : ∀ d i, thBits T i (d + 1) = thBits T i d ++ lsb (T.getD (ORD.getD (i + d) 0) 0) 3
  | 0, i => by simp [thBits]
  | d + 1, i => by
    show lsb (T.getD (ORD.getD i 0) 0) 3 ++ thBits T (i + 1) (d + 1) = (lsb (T.getD (ORD.getD i 0) 0) 3 ++ thBits T (i + 1) d) ++ _
    rw [thBits_snoc T d (i + 1), List.append_assoc, show i + 1 + d = i + (d + 1) by omega]
theorem le_app {W V : List Nat} (h : ∀ x ∈ W, x ≤ 1) (h2 : ∀ x ∈ V, x ≤ 1) : ∀ x ∈ W ++ V, x ≤ 1 := fun x hx => (List.mem_append.1 hx).elim (h x) (h2 x)
theorem run_order (m : Nat) (hm : m ≤ 19) (W : World) : (Instr.sliceAt 92 (.pointer (some ⟨0, 0, none⟩)) none (some (.int .i64 (m : Int))) none).run Tryz.prog W = .ok (.slice (some ⟨0, 0, none⟩) m 19) W := by
  have h := Tryz.underlying92
  have hl : Tryz.prog.arrayLen 92 = 19 := by simp [Program.arrayLen, h]
  have he : Tryz.prog.elem 92 = 3 := by simp [Program.elem, h]
  have hr := run_sliceAt_array_h W 92 ⟨0, 0, none⟩ (P := Tryz.prog) (by rw [hl, he]; exact h) .i64 (m : Int) (by omega) (by rw [hl]; exact_mod_cast hm)
  rw [hr, hl, he, show (m : Int).toNat = m by omega]
  have hs : (sizeOf 3).run Tryz.prog W = .ok 1 W := by simp [sizeOf]; rfl
  rw [hs]
  simp [Result.andThen, slicedAt, Addr.add]
theorem getD_pre {X Z : List Nat} {i : Nat} (h : i < X.length) : (X ++ Z).getD i 0 = X.getD i 0 := by
  simp [List.getD, List.getElem?_append, h]

set_option maxRecDepth 100000 in
set_option maxHeartbeats 16000000 in
theorem dynamic17_any (s : ByteArray) (w : World) (hs : s.size ≤ 65536) (ho : Ost w) : Calls Tryz.prog 17 #[.string s] w (DataPost s w) := by
  have H31 := hide (items31_any s w hs)
  have HO := hide ho
  have m286 : ∀ W, (Instr.makeSlice 77 (.int .i64 286) (.int .i64 286)).run Tryz.prog W = .ok (.slice (some ⟨W.heap.size, 0, none⟩) 286 286) (W.alloc (.cells (madeCells #[.int .i64 0] 286) 3)) := fun W => mk_ints 286 (by omega) W
  have m30 : ∀ W, (Instr.makeSlice 77 (.int .i64 30) (.int .i64 30)).run Tryz.prog W = .ok (.slice (some ⟨W.heap.size, 0, none⟩) 30 30) (W.alloc (.cells (madeCells #[.int .i64 0] 30) 3)) := fun W => mk_ints 30 (by omega) W
  clear ho
  go_enter Tryz.func17, Tryz.ntmps17
  go_wp2_with fail
  refine (unhide H31).mono ?_
  rintro e w1 ⟨vl, gl, l, rfl, hl, hgl, hv, hok, hlen, hf1⟩
  have HL := hide hl
  have HGL := hide hgl
  have HV := hide hv
  have HOK := hide hok
  have HLEN := hide hlen
  have HF1 := hide hf1
  obtain ⟨n, hn⟩ : ∃ n, n = l.length := ⟨_, rfl⟩
  obtain ⟨pa, pc, rfl⟩ := SlAt.shape hl
  rw [← hn] at HL hlen ⊢
  have HN := hide hn
  clear hl hgl hv hok hf1 hn
  go_upto_region 2 with fail
  go_cut [4, 5] (fun s4 s5 wd => ∃ A B, s4 = .slice (some ⟨A, 0, none⟩) 286 286 ∧ s5 = .slice (some ⟨B, 0, none⟩) 30 30 ∧ Ar wd A 3 286 (fun _ => 0) ∧ Ar wd B 3 30 (fun _ => 0) ∧ A ≠ B ∧ w1.heap.size ≤ A ∧ w1.heap.size ≤ B ∧ Fr [] w1 wd)
  case first =>
    go_region_held3 (fun W => True) (trivial) (fail)
    all_goals go_wp2_with fail
    all_goals go_meet
    · exact ⟨w1.heap.size, w1.heap.size + 1, rfl, rfl, ((made_ar 286 w1).keep (heap_alloc_lt (by rw [World.size_alloc]; omega))), by have h := made_ar 30 (w1.alloc (.cells (madeCells #[.int .i64 0] 286) 3)); rw [World.size_alloc] at h; exact h.keep rfl, by omega, by omega, by omega, (((Fr.refl [] w1).alloc _).alloc _).drew⟩
    · exact ⟨w1.heap.size + 1, w1.heap.size, rfl, rfl, by have h := made_ar 286 (w1.alloc (.cells (madeCells #[.int .i64 0] 30) 3)); rw [World.size_alloc] at h; exact h.keep rfl, ((made_ar 30 w1).keep (heap_alloc_lt (by rw [World.size_alloc]; omega))), by omega, by omega, by omega, (((Fr.refl [] w1).alloc _).alloc _).drew⟩
  case rest =>
    obtain ⟨A, B, rfl, rfl, hA, hB, hAB, hA1, hB1, hf2⟩ := hcut
    have HA := hide hA
    have HFC := hide hf2
    obtain ⟨q0, q1⟩ : wc.cell? ⟨A, 256, none⟩ = some (.int .i64 0) ∧ wc.frozen? ⟨A, 256, none⟩ = false := ⟨hA.cell (by omega), hA.froz 256⟩
    have HA2 : Hid (Ar (wc.setCell ⟨A, 256, none⟩ (.int .i64 1)) A 3 286 (fun i => freqL (l.take 0) i)) := hide ((hA.set (m := 256) (by omega) 1).ext (fun i hi => by
      show _ = ((freqL [] i : Nat) : Int)
      unfold freqL
      by_cases h : i = 256 <;> simp [h]))
    have HB2 : Hid (Ar (wc.setCell ⟨A, 256, none⟩ (.int .i64 1)) B 3 30 (fun i => freqD (l.take 0) i)) := hide (hB.keep (heap_set_other (show B ≠ A from fun h => hAB h.symm)))
    have HFD : Hid (Fr [] w1 (wc.setCell ⟨A, 256, none⟩ (.int .i64 1))) := hide (hf2.setCell (.inr hA1) _)
    obtain ⟨w2, hw2⟩ : ∃ x, x = wc.setCell ⟨A, 256, none⟩ (.int .i64 1) := ⟨_, rfl⟩
    rw [← hw2] at HA2 HB2 HFD
    clear hA hB hf2
    have HAB : Hid (A ≠ B ∧ w1.heap.size ≤ A ∧ w1.heap.size ≤ B) := hide ⟨hAB, hA1, hB1⟩
    have HBL : Hid (A < w2.heap.size ∧ B < w2.heap.size) := hide ⟨HA2.out.lt, HB2.out.lt⟩
    go_upto_block 0 with fail
    rw [← hw2]
    clear hw2 q0 q1
    clear hAB hA1 hB1
    go_cut [7] (fun _ wd => Ar wd A 3 286 (fun i => freqL l i) ∧ Ar wd B 3 30 (fun i => freqD l i) ∧ Fr [] w1 wd)
    case first =>
      go_wp2_with fail
      go_loopg [32] (n + 1) (fun gk i wr => ∃ (k : Nat), gk = n + 1 - k ∧ k ≤ n ∧ i = .int .i64 k ∧ Ar wr A 3 286 (fun i => freqL (l.take k) i) ∧ Ar wr B 3 30 (fun i => freqD (l.take k) i) ∧ Fr [] w1 wr)
      case atStart => exact ⟨0, rfl, by omega, rfl, HA2.out, HB2.out, HFD.out⟩
      case round =>
        obtain ⟨k, hgk, hk, rfl, hA, hB, hf⟩ := hrel
        have HGK := hide hgk
        have HA := hide hA
        have HB := hide hB
        have HF := hide hf
        clear hgk hf HA2 HB2 HFD
        by_cases hlt : k < n
        · obtain ⟨x, hx⟩ : ∃ x, x = l[k]'(by have := HN.out; omega) := ⟨_, rfl⟩
          have hxl : l[k]? = some x := by rw [hx]; exact List.getElem?_eq_getElem _
          have hxm : x ∈ l := by rw [hx]; exact List.getElem_mem _
          have htk : l.take (k + 1) = l.take k ++ [x] := by rw [hx]; exact List.take_succ_eq_append_getElem _
          have hok := HOK.out x hxm
          have hir : ItAt wr (.slice pa n pc) gl l := SlAt.fr HL.out HF.out (by simp)
          obtain ⟨b, off, cap, hgb, hsv, hbl, i0, i1, i2⟩ := hir.get hxl
          have hbA : b ≠ A ∧ b ≠ B := by
            obtain ⟨cur, hc⟩ := SlAt.lt HL.out b hgb
            have h1 := lt_of_blk hc
            obtain ⟨_, h2, h3⟩ := HAB.out
            omega
          injection hsv with hpa hnl hpc
          clear hnl
          subst hpa hpc
          have HTK := hide htk
          clear hx hxl hxm htk hir hgb
          obtain ⟨xc, xn, xf⟩ := x
          simp only at i0 i1 i2 hok
          obtain ⟨c, hc⟩ : ∃ c, c = xc.toNat := ⟨_, rfl⟩
          rw [← hc] at i0
          have hcb : c < 256 := by rw [hc]; exact UInt8.toNat_lt _
          have HC := hide hc
          obtain ⟨wa, hwa⟩ : ∃ x, x = wr.alloc (.cells #[.int .u8 (c : Int), .int .i64 (xn : Int), .int .i64 (xf : Int)] 84) := ⟨_, rfl⟩
          have hfa : Fr [] wr wa := by rw [hwa]; exact (Fr.refl _ _).alloc _
          obtain ⟨N, hN⟩ : ∃ N, N = wr.heap.size := ⟨_, rfl⟩
          have h1 : wa.heap[N]? = some (.cells #[.int .u8 (c : Int), .int .i64 (xn : Int), .int .i64 (xf : Int)] 84 (0, 0)) := by rw [hwa]; exact heap_alloc_eq hN
          obtain ⟨a0, a1, a2, aN⟩ : wa.cell? ⟨N, 0, none⟩ = some (.int .u8 (c : Int)) ∧ wa.cell? ⟨N, 1, none⟩ = some (.int .i64 (xn : Int)) ∧ wa.cell? ⟨N, 2, none⟩ = some (.int .i64 (xf : Int)) ∧ N < wa.heap.size := ⟨cell_blk h1 0, cell_blk h1 1, cell_blk h1 2, lt_of_blk h1⟩
          have hNA : N ≠ A ∧ N ≠ B := by
            have h2 := hA.lt
            have h3 := hB.lt
            omega
          have HAa := hide (HA.out.fr hfa (by simp))
          have HBa := hide (HB.out.fr hfa (by simp))
          have HFa := hide (HF.out.trans hfa)
          have HWA := hide hwa
          have HNN := hide hN
          clear hc hfa h1 hA hB
          have hlL : ∀ i, freqL (l.take k) i ≤ n + 1 := by
            intro i
            unfold freqL
            have := List.countP_le_length (p := fun x => isym x == i) (l := l.take k)
            rw [List.length_take] at this
            split <;> omega
          have hlD : ∀ i, freqD (l.take k) i ≤ n := by
            intro i
            unfold freqD
            have := List.countP_le_length (p := fun x : It => x.n != 0 && dsym x.far == i) (l := l.take k)
            rw [List.length_take] at this
            omega
          by_cases h0 : xn = 0
          · have d1 : ((xn : Int) == 0) = true := by simp [h0]
            have ac := HAa.out.cell (i := c) (by omega)
            have af := HAa.out.froz c
            have HI : Hid (isym ⟨xc, xn, xf⟩ = c ∧ xn = 0) := hide ⟨by unfold isym; rw [if_pos h0, HC.out], h0⟩
            obtain ⟨f, hfq⟩ : ∃ f, f = freqL (l.take k) c := ⟨_, rfl⟩
            have hfb : f ≤ n + 1 := by rw [hfq]; exact hlL c
            rw [← hfq] at ac
            have HFQ := hide hfq
            have HRND : Hid (Ar (wa.setCell ⟨A, c, none⟩ (.int .i64 ((f : Int) + 1))) A 3 286 (fun i => freqL (l.take (k + 1)) i) ∧ Ar (wa.setCell ⟨A, c, none⟩ (.int .i64 ((f : Int) + 1))) B 3 30 (fun i => freqD (l.take (k + 1)) i) ∧ Fr [] w1 (wa.setCell ⟨A, c, none⟩ (.int .i64 ((f : Int) + 1)))) := by
              obtain ⟨x1, x2, x3⟩ := HAB.out
              refine hide ⟨(HAa.out.set (m := c) (by omega) _).ext (fun i hi => ?_), (HBa.out.keep (heap_set_other (show B ≠ A from fun h => x1 h.symm))).ext (fun i hi => ?_), HFa.out.setCell (.inr x2) _⟩
              · rw [HTK.out, freqL_snoc, HI.out.1]
                by_cases h : i = c
                · rw [if_pos h, if_pos h.symm, h, ← HFQ.out]; omega
                · rw [if_neg h, if_neg (fun h' => h h'.symm)]; omega
              · rw [HTK.out, freqD_snoc, if_neg (fun h => h.1 h0)]
                omega
            clear hok h0 hwa hN hfq hlL hlD
            go_upto_region 7 with fail
            rw [← HWA.out, ← HNN.out]
            go_wp2_with fail
            go_roundg (n + 1 - (k + 1))
            case measure => have := HGK.out; omega
            case rel =>
              obtain ⟨r1, r2, r3⟩ := HRND.out
              exact ⟨k + 1, rfl, by omega, by go_num, r1, r2, r3⟩
          · obtain ⟨v1', v2', v3', v4'⟩ : 3 ≤ xn ∧ xn ≤ 258 ∧ 1 ≤ xf ∧ xf ≤ 32768 := by rcases hok with h | h; exact absurd h h0; exact h
            obtain ⟨l1, l2, l3, l4, l5⟩ := lsym_all xn (by omega) v1'
            obtain ⟨e1, e2, e3, e4⟩ := dsym_all xf v3' v4'
            have d1 : ((xn : Int) == 0) = false := by simp; omega
            have HI : Hid (isym ⟨xc, xn, xf⟩ = lsym xn) := hide (by unfold isym; rw [if_neg h0])
            obtain ⟨p, hp⟩ : ∃ p, p = lsym xn := ⟨_, rfl⟩
            obtain ⟨q, hq⟩ : ∃ q, q = dsym xf := ⟨_, rfl⟩
            have H32 := hide (fun w' => lsym32_any xn w' v1' v2')
            have H33 := hide (fun w' => dsym33_any xf w')
            rw [← hp] at H32 HI l2
            rw [← hq] at H33 e1
            obtain ⟨f, hfq⟩ : ∃ f, f = freqL (l.take k) p := ⟨_, rfl⟩
            obtain ⟨g, hgq⟩ : ∃ g, g = freqD (l.take k) q := ⟨_, rfl⟩
            have hfb : f ≤ n + 1 := by rw [hfq]; exact hlL p
            have hgb : g ≤ n := by rw [hgq]; exact hlD q
            obtain ⟨wb, hwb⟩ : ∃ x, x = wa.setCell ⟨A, p, none⟩ (.int .i64 ((f : Int) + 1)) := ⟨_, rfl⟩
            have ac := HAa.out.cell (i := p) (by omega)
            have af := HAa.out.froz p
            rw [← hfq] at ac
            have hAb : Ar wb A 3 286 (fun i => freqL (l.take (k + 1)) i) := by
              rw [hwb]
              refine (HAa.out.set (m := p) (by omega) _).ext (fun i hi => ?_)
              rw [HTK.out, freqL_snoc, HI.out]
              by_cases h : i = p
              · rw [if_pos h, if_pos h.symm, h, ← hfq]; omega
              · rw [if_neg h, if_neg (fun h' => h h'.symm)]; omega
            obtain ⟨x1, x2, x3⟩ := HAB.out
            have hBb : Ar wb B 3 30 (fun i => freqD (l.take k) i) := by rw [hwb]; exact HBa.out.keep (heap_set_other (show B ≠ A from fun h => x1 h.symm))
            have hFb : Fr [] w1 wb := by rw [hwb]; exact HFa.out.setCell (.inr x2) _
            have bc := hBb.cell (i := q) (by omega)
            have bf := hBb.froz q
            rw [← hgq] at bc
            have bN : wb.cell? ⟨N, 2, none⟩ = some (.int .i64 (xf : Int)) := by
              rw [hwb, World.cell?_of_block (w := wa) (heap_set_other (by exact hNA.1))]; exact a2
            have HRND : Hid (Ar (wb.setCell ⟨B, q, none⟩ (.int .i64 ((g : Int) + 1))) A 3 286 (fun i => freqL (l.take (k + 1)) i) ∧ Ar (wb.setCell ⟨B, q, none⟩ (.int .i64 ((g : Int) + 1))) B 3 30 (fun i => freqD (l.take (k + 1)) i) ∧ Fr [] w1 (wb.setCell ⟨B, q, none⟩ (.int .i64 ((g : Int) + 1)))) := by
              refine hide ⟨hAb.keep (heap_set_other (show A ≠ B from x1)), (hBb.set (m := q) (by omega) _).ext (fun i hi => ?_), hFb.setCell (.inr x3) _⟩
              rw [HTK.out, freqD_snoc]
              by_cases h : i = q
              · rw [if_pos h, if_pos ⟨h0, by rw [h]; exact hq.symm⟩, h, ← hgq]; omega
              · rw [if_neg h, if_neg (fun h' => h (by rw [hq]; exact h'.2.symm))]; omega
            have HWB := hide hwb
            clear hok h0 hwa hN hfq hgq hlL hlD hwb hAb hBb hFb hp hq l1 l3 l4 l5 e2 e3 e4 x1 x2 x3
            go_upto_region 7 with fail
            rw [← HWA.out, ← HNN.out]
            go_upto_region 9 with fail
            go_wp2_with fail
            refine (H32.out _).mono ?_
            rintro e w3 ⟨rfl, rfl⟩
            go_upto_region 10 with fail
            rw [← HWB.out]
            go_wp2_with fail
            refine (H33.out _).mono ?_
            rintro e w3 ⟨rfl, rfl⟩
            go_wp2_with fail
            go_roundg (n + 1 - (k + 1))
            case measure => have := HGK.out; omega
            case rel =>
              obtain ⟨r1, r2, r3⟩ := HRND.out
              exact ⟨k + 1, rfl, by omega, by go_num, r1, r2, r3⟩
        · have hkn : k = n := by omega
          have htl : l.take k = l := by rw [hkn, HN.out]; exact List.take_length
          rw [htl] at HA HB
          clear htl hA hB
          go_wp2_with fail
          go_meet
          exact ⟨HA.out, HB.out, HF.out⟩
    case rest =>
      clear HA2 HB2 HFD m286 m30 HAB HBL
      obtain ⟨hA, hB, hF⟩ := hcut
      obtain ⟨LA, hLA⟩ : ∃ L, L = lensN (FL l) 15 := ⟨_, rfl⟩
      obtain ⟨LB, hLB⟩ : ∃ L, L = lensN (FD l) 15 := ⟨_, rfl⟩
      have lA : LA.length = 286 := by rw [hLA, Hf.lensN_len]; simp [FL]
      have lB : LB.length = 30 := by rw [hLB, Hf.lensN_len]; simp [FD]
      have H34 := hide (Hf.lengths18_any (.slice (some ⟨A, 0, none⟩) 286 286) (FL l) 15 wc hA.ints (by simp [FL]))
      rw [lensOf_FL, ← hLA] at H34
      have HB := hide hB
      have HLA := hide hLA
      have HLB := hide hLB
      have HLN := hide (And.intro lA lB)
      have HF := hide hF
      clear hA hB hF hLA hLB lA lB
      go_wp2_with fail
      refine (unhide H34).mono ?_
      rintro e wd ⟨va, rfl, hra, hfa, hna⟩
      obtain ⟨ba, oa, ca, rfl, ha1, ha2, hsa⟩ := sh_of hra hna (by have := HLN.out.1; omega)
      have HSA := hide hsa
      have HF2 := hide (HF.out.trans hfa)
      have HBA : Hid (w1.heap.size ≤ ba ∧ LA.length ≤ ca) := hide ⟨by have := HF.out.size; omega, ha2⟩
      have H34b := hide (Hf.lengths18_any (.slice (some ⟨B, 0, none⟩) 30 30) (FD l) 15 wd (HB.out.fr hfa (by simp)).ints (by simp [FD]))
      rw [lensOf_FD, ← HLB.out] at H34b
      clear hra hfa hna hsa ha1 ha2 HF H34
      go_wp2_with fail
      refine (unhide H34b).mono ?_
      rintro e we ⟨vb, rfl, hrb, hfb, hnb⟩
      obtain ⟨bb, ob, cb, rfl, hb1, hb2, hsb⟩ := sh_of hrb hnb (by have := HLN.out.2; omega)
      have HSB := hide hsb
      have HSA' := hide (HSA.out.fr hfb (by simp))
      have HF3 := hide (HF2.out.trans hfb)
      have HBB : Hid (w1.heap.size ≤ bb ∧ LB.length ≤ cb) := hide ⟨by have := HF2.out.size; omega, hb2⟩
      have H35 := hide (trimmed35_any ba oa ca 257 LA we HSA'.out.1 HSA'.out.2 HBA.out.2 (by omega) (by have := HLN.out.1; omega))
      have H35b := hide (trimmed35_any bb ob cb 1 LB we HSB.out.1 HSB.out.2 HBB.out.2 (by omega) (by have := HLN.out.2; omega))
      clear hrb hfb hnb hsb hb1 hb2 HF2 H34b HSA HB
      go_wp2_with fail
      refine (unhide H35).mono ?_
      rintro e w6 ⟨X, rfl, hX, rfl⟩
      have HX := hide hX
      clear hX H35
      go_wp2_with fail
      refine (unhide H35b).mono ?_
      rintro e w6 ⟨Y, rfl, hY, rfl⟩
      have HY := hide hY
      clear hY H35b
      obtain ⟨kx, ex, bx⟩ := HX.out.spec
      obtain ⟨ky, ey, by_⟩ := HY.out.spec
      have bx := bx (by have := HLN.out.1; omega)
      have by_ := by_ (by have := HLN.out.2; omega)
      have hxl : X.length ≤ 286 := by have := congrArg List.length ex; rw [List.length_append, HLN.out.1] at this; omega
      have hyl : Y.length ≤ 30 := by have := congrArg List.length ey; rw [List.length_append, HLN.out.2] at this; omega
      obtain ⟨wf, hwf⟩ : ∃ x, x = we.alloc (.cells #[.slice (some ⟨ba, oa, none⟩) X.length ca, .slice (some ⟨bb, ob, none⟩) Y.length cb] 77) := ⟨_, rfl⟩
      obtain ⟨z, hz⟩ : ∃ z, z = we.heap.size := ⟨_, rfl⟩
      have hfz : Fr [] we wf := by rw [hwf]; exact (Fr.refl _ _).alloc _
      have hSA := HSA'.out.fr hfz (by simp)
      have hSB := HSB.out.fr hfz (by simp)
      have HXI : Hid (∀ i, i < X.length → X.getD i 0 = LA.getD i 0) := hide (fun i hi => by rw [ex, getD_pre hi])
      have HYI : Hid (∀ i, i < Y.length → Y.getD i 0 = LB.getD i 0) := hide (fun i hi => by rw [ey, getD_pre hi])
      have H37 := hide (concat37_any z ba oa ca bb ob cb X Y wf (by rw [hwf]; exact heap_alloc_eq hz) (by omega) (by omega)
        (fun i hi => by rw [HXI.out i hi]; exact hSA.2 i (by have := HLN.out.1; omega)) (fun i hi => by rw [HYI.out i hi]; exact hSB.2 i (by have := HLN.out.2; omega)))
      have HF4 := hide (HF3.out.trans hfz)
      have HSA2 := hide hSA
      have HSB2 := hide hSB
      have HXL : Hid (257 ≤ X.length ∧ X.length ≤ 286 ∧ 1 ≤ Y.length ∧ Y.length ≤ 30) := hide ⟨bx, hxl, by_, hyl⟩
      have HWF := hide hwf
      have HZ := hide hz
      have HDC : Hid ((∀ x ∈ l, HasIt LA LB x) ∧ Has LA 256 ∧ If.LOk LA ∧ If.LOk LB ∧ (itsBits LA LB l).length + LA.getD 256 0 ≤ 11 * s.size + 9) := by
        have hs' : s.data.toList.length ≤ 65536 := by rw [Array.length_toList]; exact hs
        obtain ⟨c1, c2, c3, c4, c5⟩ := dyn_codes HV.out hs'
        rw [← HLA.out, ← HLB.out] at c1 c5
        rw [← HLA.out] at c2 c3
        rw [← HLB.out] at c4
        rw [Array.length_toList] at c5
        exact hide ⟨c1, c2, lok_of c3, lok_of c4, c5⟩
      have HXY : Hid (∀ i, i < (X ++ Y).length → (X ++ Y).getD i 0 ≤ 15) := by
        refine hide fun i hi => ?_
        have hm : (X ++ Y).getD i 0 ∈ X ++ Y := by rw [List.getD, List.getElem?_eq_getElem hi]; exact List.getElem_mem _
        rcases List.mem_append.1 hm with h | h
        · exact HDC.out.2.2.1.hL _ (by rw [ex]; exact List.mem_append.2 (.inl h))
        · exact HDC.out.2.2.2.1.hL _ (by rw [ey]; exact List.mem_append.2 (.inl h))
      clear ex ey bx by_ hxl hyl hfz hSA hSB HF3 HSA' HSB hwf hz
      go_upto_region 14 with fail
      go_wp2_with fail
      rw [← HWF.out, ← HZ.out]
      refine (unhide H37).mono ?_
      rintro e wg ⟨vc, gc, rfl, hcat, hgc, hfg⟩
      obtain ⟨bc, oc, cc, hgcb, rfl, hsc⟩ := sh_nat hcat (by rw [List.length_append]; have := HXL.out; omega)
      have HF5 := hide (HF4.out.trans hfg)
      have HSA3 := hide (HSA2.out.fr hfg (by simp))
      have HSB3 := hide (HSB2.out.fr hfg (by simp))
      have H36 := hide (runs36_any bc oc cc (X ++ Y) wg hsc.1 hsc.2 HXY.out (by rw [List.length_append]; have := HXL.out; omega))
      obtain ⟨xy, hxy⟩ : ∃ n, n = (X ++ Y).length := ⟨_, rfl⟩
      rw [← hxy] at H36 ⊢
      clear hxy
      clear hcat hgc hfg hgcb hsc H37 HF4
      go_wp2_with fail
      refine (unhide H36).mono ?_
      rintro e wh ⟨vr, gr, rs, rfl, hrn, hgr, hrs, hfh⟩
      have HF6 := hide (HF5.out.trans hfh)
      have HSA4 := hide (HSA3.out.fr hfh (by simp))
      have HSB4 := hide (HSB3.out.fr hfh (by simp))
      obtain ⟨rn, hrnn⟩ : ∃ n, n = rs.length := ⟨_, rfl⟩
      obtain ⟨pr, rc, rfl⟩ := SlAt.shape hrn
      rw [← hrnn] at hrn ⊢
      have HRN := hide hrn
      have HRNN := hide hrnn
      have HRS := hide hrs
      have hrl : rn ≤ 316 := by
        have h1 := hrs.len.1
        rw [List.length_append] at h1
        have := HXL.out
        simp only [List.length_nil] at h1
        omega
      clear hrn hgr hrs hfh H36 HF5 hrnn
      have m19 : ∀ W, (Instr.makeSlice 77 (.int .i64 19) (.int .i64 19)).run Tryz.prog W = .ok (.slice (some ⟨W.heap.size, 0, none⟩) 19 19) (W.alloc (.cells (madeCells #[.int .i64 0] 19) 3)) := fun W => mk_ints 19 (by omega) W
      obtain ⟨T, hT⟩ : ∃ T, T = wh.heap.size := ⟨_, rfl⟩
      obtain ⟨wi, hwi⟩ : ∃ x, x = wh.alloc (.cells (madeCells #[.int .i64 0] 19) 3) := ⟨_, rfl⟩
      have HTA : Hid (Ar wi T 3 19 (fun i => freqR (rs.take 0) i)) := by
        have h := made_ar 19 wh
        rw [← hT, ← hwi] at h
        exact hide (h.ext (fun i hi => rfl))
      have hfi : Fr [] wh wi := by rw [hwi]; exact (Fr.refl _ _).alloc _
      have HRN2 : Hid (RnAt wi (.slice pr rn rc) gr rs) := hide (SlAt.fr HRN.out hfi (by simp))
      have HGR : Hid (∀ b, gr = some b → b ≠ T) := by
        refine hide fun b hb => ?_
        obtain ⟨cur, hc⟩ := SlAt.lt HRN.out b hb
        have h1 := lt_of_blk hc
        omega
      have HF7 := hide (HF6.out.trans hfi)
      have HSA5 := hide (HSA4.out.fr hfi (by simp))
      have HSB5 := hide (HSB4.out.fr hfi (by simp))
      have HNT : Hid (ba ≠ T ∧ bb ≠ T) := hide (by have := HSA4.out.1; have := HSB4.out.1; omega)
      have HTW : Hid (w1.heap.size ≤ T) := hide (by have := HF6.out.size; omega)
      have HT := hide hT
      have HWI := hide hwi
      clear hT hwi hfi HRN HF6 HSA2 HSA3 HSA4 HSB2 HSB3 HSB4
      go_upto_block 2 with fail
      rw [← HT.out, ← HWI.out]
      clear m19
      go_cut [15] (fun _ wd => Ar wd T 3 19 (fun i => freqR rs i) ∧ Fr [T] wi wd)
      case first =>
        go_wp2_with fail
        go_loopg [79] (rn + 1) (fun gk i wr => ∃ (k : Nat), gk = rn + 1 - k ∧ k ≤ rn ∧ i = .int .i64 k ∧ Ar wr T 3 19 (fun i => freqR (rs.take k) i) ∧ Fr [T] wi wr)
        case atStart => exact ⟨0, rfl, by omega, rfl, HTA.out, Fr.refl _ _⟩
        case round =>
          obtain ⟨k, hgk, hk, rfl, hA, hf⟩ := hrel
          have HGK := hide hgk
          have HA := hide hA
          have HF := hide hf
          clear hgk hf HTA
          by_cases hlt : k < rn
          · obtain ⟨x, hx⟩ : ∃ x, x = rs[k]'(by have := HRNN.out; omega) := ⟨_, rfl⟩
            have hxl : rs[k]? = some x := by rw [hx]; exact List.getElem?_eq_getElem _
            have hxm : x ∈ rs := by rw [hx]; exact List.getElem_mem _
            have htk : rs.take (k + 1) = rs.take k ++ [x] := by rw [hx]; exact List.take_succ_eq_append_getElem _
            have hx19 := (HRS.out.le15 x hxm).1
            have hir : RnAt wr (.slice pr rn rc) gr rs := SlAt.fr HRN2.out HF.out (fun b hb => by have := HGR.out b hb; simpa using this)
            obtain ⟨b, off, cap, hgb, hsv, hbl, i0, i1, i2⟩ := hir.get hxl
            have hbT := HGR.out b hgb
            injection hsv with hpa hnl hpc
            clear hnl
            subst hpa hpc
            have HTK := hide htk
            clear hx hxl hxm htk hir hgb
            obtain ⟨c, xv, xb⟩ := x
            simp only at i0 i1 i2 hx19
            obtain ⟨wa, hwa⟩ : ∃ x, x = wr.alloc (.cells #[.int .i64 (c : Int), .int .i64 (xv : Int), .int .i64 (xb : Int)] 91) := ⟨_, rfl⟩
            have hfa : Fr [] wr wa := by rw [hwa]; exact (Fr.refl _ _).alloc _
            obtain ⟨N, hN⟩ : ∃ N, N = wr.heap.size := ⟨_, rfl⟩
            have h1 : wa.heap[N]? = some (.cells #[.int .i64 (c : Int), .int .i64 (xv : Int), .int .i64 (xb : Int)] 91 (0, 0)) := by rw [hwa]; exact heap_alloc_eq hN
            obtain ⟨a0, a1, a2, aN⟩ : wa.cell? ⟨N, 0, none⟩ = some (.int .i64 (c : Int)) ∧ wa.cell? ⟨N, 1, none⟩ = some (.int .i64 (xv : Int)) ∧ wa.cell? ⟨N, 2, none⟩ = some (.int .i64 (xb : Int)) ∧ N < wa.heap.size := ⟨cell_blk h1 0, cell_blk h1 1, cell_blk h1 2, lt_of_blk h1⟩
            have hNA : N ≠ T := by have h2 := hA.lt; omega
            have HAa := hide (HA.out.fr hfa (by simp))
            have HFa := hide (HF.out.trans (hfa.mono (T := [T]) (by simp)))
            have ac := HAa.out.cell (i := c) hx19
            have af := HAa.out.froz c
            obtain ⟨f, hfq⟩ : ∃ f, f = freqR (rs.take k) c := ⟨_, rfl⟩
            have hfb : f ≤ rn := by rw [hfq]; have h1 := freqR_le (rs.take k) c; rw [List.length_take] at h1; omega
            rw [← hfq] at ac
            have HFQ := hide hfq
            have HWA := hide hwa
            have HNN := hide hN
            clear hfa h1 hA hwa hN hfq
            have HRND : Hid (Ar (wa.setCell ⟨T, c, none⟩ (.int .i64 ((f : Int) + 1))) T 3 19 (fun i => freqR (rs.take (k + 1)) i) ∧ Fr [T] wi (wa.setCell ⟨T, c, none⟩ (.int .i64 ((f : Int) + 1)))) := by
              refine hide ⟨(HAa.out.set (m := c) hx19 _).ext (fun i hi => ?_), HFa.out.setCell (.inl (by simp)) _⟩
              rw [HTK.out, freqR_snoc]
              show _ = ((freqR (rs.take k) i + if c = i then 1 else 0 : Nat) : Int)
              by_cases h : i = c
              · rw [if_pos h, if_pos h.symm, h, ← HFQ.out]; omega
              · rw [if_neg h, if_neg (fun h' => h h'.symm)]; omega
            go_upto_region 19 with fail
            rw [← HWA.out, ← HNN.out]
            go_wp2_with fail
            go_roundg (rn + 1 - (k + 1))
            case measure => have := HGK.out; omega
            case rel =>
              obtain ⟨r1, r2⟩ := HRND.out
              exact ⟨k + 1, rfl, by omega, by go_num, r1, r2⟩
          · have hkn : k = rn := by omega
            have htl : rs.take k = rs := by rw [hkn, HRNN.out]; exact List.take_length
            rw [htl] at HA
            clear htl hA
            go_wp2_with fail
            go_meet
            exact ⟨HA.out, HF.out⟩
      case rest =>
        obtain ⟨hTA, hfT⟩ := hcut
        have HFW := hide (HF7.out.andThen hfT (fun x hx => by rw [List.mem_singleton] at hx; exact .inr (by have := HTW.out; omega)))
        have HSA6 := hide (HSA5.out.fr hfT (by simp [HNT.out.1]))
        have HSB6 := hide (HSB5.out.fr hfT (by simp [HNT.out.2]))
        have HRN3 : Hid (RnAt wc (.slice pr rn rc) gr rs) := hide (SlAt.fr HRN2.out hfT (fun b hb => by have := HGR.out b hb; simpa using this))
        have H34c := hide (Hf.lengths18_any (.slice (some ⟨T, 0, none⟩) 19 19) (FR rs) 7 wc hTA.ints (by simp [FR]))
        rw [lensOf_FR] at H34c
        obtain ⟨LT, hLT⟩ : ∃ L, L = lensN (FR rs) 7 := ⟨_, rfl⟩
        rw [← hLT] at H34c
        have HTF : Hid (If.LOk LT ∧ LT.length = 19 ∧ (∀ j, LT.getD j 0 ≤ 7) ∧ (∀ r ∈ rs, Has LT r.sym)) := by rw [hLT]; exact hide (third_facts HRS.out)
        have HLT := hide hLT
        clear hTA hfT hLT HSA5 HSB5 HRN2 HTA HF7 HNT HGR
        go_wp2_with fail
        refine (unhide H34c).mono ?_
        rintro e wj ⟨vt, rfl, hrt, hft, hnt⟩
        obtain ⟨bt, ot, ct, rfl, ht1, ht2, hst⟩ := sh_of hrt hnt (by have := HTF.out.2.1; omega)
        have HSA7 := hide (HSA6.out.fr hft (by simp))
        have HSB7 := hide (HSB6.out.fr hft (by simp))
        have HST := hide hst
        have HRN4 : Hid (RnAt wj (.slice pr rn rc) gr rs) := hide (SlAt.fr HRN3.out hft (by simp))
        have HFJ := hide (HFW.out.trans hft)
        have HOJ : Hid (Ost wj) := hide (HO.out.fr (HF1.out.trans HFJ.out) (by simp))
        have HLJ : Hid (ItAt wj (.slice pa n pc) gl l) := hide (SlAt.fr HL.out HFJ.out (by simp))
        have HCT := hide ht2
        obtain ⟨lt, hlt⟩ : ∃ n, n = LT.length := ⟨_, rfl⟩
        have hlt19 : lt = 19 := by rw [hlt]; exact HTF.out.2.1
        rw [← hlt]
        have HLTL := hide hlt
        have hltb : 19 ≤ lt := by omega
        clear hrt hft hnt ht1 ht2 hst hlt hlt19 HSA6 HSB6 HRN3 HFW H34c
        go_upto_block 4 with fail
        go_cut [17] (fun v wd => ∃ m : Nat, v = .int .i64 m ∧ 4 ≤ m ∧ m ≤ 19 ∧ (∀ k, m ≤ k → k < 19 → LT.getD (ORD.getD k 0) 0 = 0) ∧ wd = wj)
        case first =>
          go_wp2_with fail
          go_loopg [17] 20 (fun gk v wr => ∃ m : Nat, gk = m + 1 ∧ v = .int .i64 m ∧ 4 ≤ m ∧ m ≤ 19 ∧ (∀ k, m ≤ k → k < 19 → LT.getD (ORD.getD k 0) 0 = 0) ∧ wr = wj)
          case atStart => exact ⟨19, rfl, rfl, by omega, by omega, fun k h1 h2 => by omega, rfl⟩
          case round =>
            obtain ⟨m, hgk, rfl, hm4, hm, hz, rfl⟩ := hrel
            have HGK := hide hgk
            have HZ := hide hz
            clear hgk hz
            by_cases h4 : 4 < m
            · obtain ⟨p, hp⟩ : ∃ p, p = ORD.getD (m - 1) 0 := ⟨_, rfl⟩
              have hp19 : p < 19 := by rw [hp]; exact If.ord_lt _
              obtain ⟨x, hx⟩ : ∃ x, x = LT.getD p 0 := ⟨_, rfl⟩
              have oc : wr.cell? ⟨0, m - 1, none⟩ = some (.int .i64 (p : Int)) := by rw [hp]; exact HOJ.out (m - 1) (by omega)
              have tc : wr.cell? ⟨bt, ot + p, none⟩ = some (.int .i64 (x : Int)) := by rw [hx]; exact HST.out.2 p (by have := HLTL.out; omega)
              have z1 : IntKind.i64.wrap ((m : Int) - 1) = (m : Int) - 1 := IntWalk.i64_in _ (by omega)
              have b1 : (1 : Int) ≤ (m : Int) := by omega
              have b2 : 1 ≤ m := by omega
              have b0 : (0 : Int) ≤ (m : Int) - 1 ∧ (m : Int) - 1 < 19 := by omega
              have z2 : ((m : Int) - 1).toNat = m - 1 := by omega
              have HP := hide hp
              have HX := hide hx
              clear hp hx
              by_cases h0 : x = 0
              · subst h0
                go_wp2_with fail
                go_roundg (m - 1 + 1)
                case measure => have := HGK.out; omega
                case rel =>
                  refine ⟨m - 1, rfl, by go_num, by omega, by omega, fun k h1 h2 => ?_, rfl⟩
                  rcases Nat.lt_or_ge k m with h | h
                  · rw [show k = m - 1 by omega, ← HP.out, ← HX.out]
                  · exact HZ.out k h h2
              · have d2 : ((x : Int) == 0) = false := by simpa using h0
                go_wp2_with fail
                go_meet
                exact ⟨m, rfl, hm4, hm, HZ.out, rfl⟩
            · go_wp2_with fail
              go_meet
              exact ⟨m, rfl, hm4, hm, HZ.out, rfl⟩
        case rest =>
          obtain ⟨m, rfl, hm4, hm19, hz, rfl⟩ := hcut
          obtain ⟨wb, rfl⟩ : ∃ x, x = wc := ⟨_, rfl⟩
          have HZ := hide hz
          obtain ⟨v0, hv0⟩ : ∃ x, x = wb.alloc (.cells #[.slice none 0 0, .int .i64 0] 75) := ⟨_, rfl⟩
          obtain ⟨U, hU⟩ : ∃ U, U = wb.heap.size := ⟨_, rfl⟩
          have hWr : Wr v0 U [U] [] := wr_new (by rw [hv0]; exact heap_alloc_eq hU)
          have HFK0 : Hid (Fr [] wb v0) := hide (by rw [hv0]; exact (Fr.refl _ _).alloc _)
          have HGK0 : Hid (∀ b ∈ [U], wb.heap.size ≤ b) := hide (by intro b hb; simp at hb; omega)
          have H1 := hide (number28_any U [U] [] 5 3 v0 hWr (by omega) (by omega) (by simp) (by simp))
          obtain ⟨xl, hxl⟩ : ∃ n, n = X.length := ⟨_, rfl⟩
          obtain ⟨yl, hyl⟩ : ∃ n, n = Y.length := ⟨_, rfl⟩
          have hxb := HXL.out
          rw [← hxl, ← hyl] at hxb
          obtain ⟨x0, hx0⟩ : ∃ n, n = xl - 257 := ⟨_, rfl⟩
          obtain ⟨y0, hy0⟩ : ∃ n, n = yl - 1 := ⟨_, rfl⟩
          obtain ⟨n0, hn0⟩ : ∃ n, n = m - 4 := ⟨_, rfl⟩
          have zx : (xl : Int) - 257 = (x0 : Int) := by omega
          have zy : (yl : Int) - 1 = (y0 : Int) := by omega
          have zn : (m : Int) - 4 = (n0 : Int) := by omega
          have zxw : IntKind.i64.wrap (x0 : Int) = (x0 : Int) := IntWalk.i64_in _ (by omega)
          have zyw : IntKind.i64.wrap (y0 : Int) = (y0 : Int) := IntWalk.i64_in _ (by omega)
          have znw : IntKind.i64.wrap (n0 : Int) = (n0 : Int) := IntWalk.i64_in _ (by omega)
          have hb0 : x0 ≤ 1000 ∧ y0 ≤ 1000 ∧ n0 ≤ 1000 := by omega
          rw [← hxl, ← hyl]
          have HXE : Hid (x0 = X.length - 257 ∧ y0 = Y.length - 1 ∧ n0 = m - 4) := hide (by rw [hx0, hy0, hn0, hxl, hyl]; exact ⟨rfl, rfl, rfl⟩)
          have HV0 := hide hv0
          have HUU := hide hU
          clear hz hWr hv0 hU hxl hyl hx0 hy0 hn0
          go_upto_region 26 with fail
          rw [← HV0.out, ← HUU.out]
          go_wp2_with fail
          refine (unhide H1).mono ?_
          rintro e v1 ⟨rfl, G1, hw1, hg1, hf1⟩
          obtain ⟨k1, k2⟩ := wstep HFK0.out HGK0.out hg1 hf1
          have HW1 := hide hw1
          have HFK1 := hide k1
          have HGK1 := hide k2
          clear hw1 hg1 hf1 k1 k2 H1
          have L1 : Hid (∀ x ∈ [] ++ lsb 5 3, x ≤ 1) := hide (le_app (by simp) (lsb_le _ _))
          have H2 := hide (number28_any U G1 ([] ++ lsb 5 3) x0 5 v1 HW1.out (by omega) (by omega) (by simp only [List.length_append, lsb_len, List.length_nil]; omega) L1.out)
          go_wp2_with fail
          refine (unhide H2).mono ?_
          rintro e v2 ⟨rfl, G2, hw2, hg2, hf2⟩
          obtain ⟨k1, k2⟩ := wstep HFK1.out HGK1.out hg2 hf2
          have HW2 := hide hw2
          have HFK2 := hide k1
          have HGK2 := hide k2
          clear hw2 hg2 hf2 k1 k2 H2
          have L2 : Hid (∀ x ∈ [] ++ lsb 5 3 ++ lsb x0 5, x ≤ 1) := hide (le_app L1.out (lsb_le _ _))
          have H3 := hide (number28_any U G2 ([] ++ lsb 5 3 ++ lsb x0 5) y0 5 v2 HW2.out (by omega) (by omega) (by simp only [List.length_append, lsb_len, List.length_nil]; omega) L2.out)
          go_wp2_with fail
          refine (unhide H3).mono ?_
          rintro e v3 ⟨rfl, G3, hw3, hg3, hf3⟩
          obtain ⟨k1, k2⟩ := wstep HFK2.out HGK2.out hg3 hf3
          have HW3 := hide hw3
          have HFK3 := hide k1
          have HGK3 := hide k2
          clear hw3 hg3 hf3 k1 k2 H3
          have L3 : Hid (∀ x ∈ [] ++ lsb 5 3 ++ lsb x0 5 ++ lsb y0 5, x ≤ 1) := hide (le_app L2.out (lsb_le _ _))
          have H4 := hide (number28_any U G3 ([] ++ lsb 5 3 ++ lsb x0 5 ++ lsb y0 5) n0 4 v3 HW3.out (by omega) (by omega) (by simp only [List.length_append, lsb_len, List.length_nil]; omega) L3.out)
          go_wp2_with fail
          refine (unhide H4).mono ?_
          rintro e v4 ⟨rfl, G4, hw4, hg4, hf4⟩
          obtain ⟨k1, k2⟩ := wstep HFK3.out HGK3.out hg4 hf4
          have HW4 := hide hw4
          have HFK4 := hide k1
          have HGK4 := hide k2
          clear hw4 hg4 hf4 k1 k2 H4
          have L4 : Hid (∀ x ∈ [] ++ lsb 5 3 ++ lsb x0 5 ++ lsb y0 5 ++ lsb n0 4, x ≤ 1) := hide (le_app L3.out (lsb_le _ _))
          obtain ⟨W4, hW4⟩ : ∃ W, W = [] ++ lsb 5 3 ++ lsb x0 5 ++ lsb y0 5 ++ lsb n0 4 := ⟨_, rfl⟩
          rw [← hW4] at L4 HW4
          have hl4 : W4.length = 17 := by rw [hW4]; simp only [List.length_append, lsb_len, List.length_nil]
          have HW4E := hide hW4
          have HL4 := hide hl4
          clear hW4 hl4 L1 L2 L3 HW1 HW2 HW3 HFK1 HFK2 HFK3 HGK1 HGK2 HGK3 zx zy zn zxw zyw znw hb0
          have hord := fun W => run_order m hm19 W
          go_upto_block 6 with fail
          clear hord
          go_cut [20] (fun _ wd => ∃ G, Wr wd U G (W4 ++ thBits LT 0 m) ∧ Fr [] wb wd ∧ ∀ b ∈ G, wb.heap.size ≤ b)
          case first =>
            go_wp2_with fail
            go_loopg [128] (m + 1) (fun gk i wr => ∃ (k : Nat) (G : List Nat), gk = m + 1 - k ∧ k ≤ m ∧ i = .int .i64 k ∧ Wr wr U G (W4 ++ thBits LT 0 k) ∧ Fr [] wb wr ∧ ∀ b ∈ G, wb.heap.size ≤ b)
            case atStart => exact ⟨0, G4, rfl, by omega, rfl, by simpa [thBits] using HW4.out, HFK4.out, HGK4.out⟩
            case round =>
              obtain ⟨k, G, hgk, hk, rfl, hw, hf, hG⟩ := hrel
              have HGK := hide hgk
              have HWR := hide hw
              have HF := hide hf
              have HG := hide hG
              clear hgk hw hf hG
              by_cases hlt : k < m
              · obtain ⟨p, hp⟩ : ∃ p, p = ORD.getD k 0 := ⟨_, rfl⟩
                have hp19 : p < 19 := by rw [hp]; exact If.ord_lt _
                obtain ⟨x, hx⟩ : ∃ x, x = LT.getD p 0 := ⟨_, rfl⟩
                have hx7 : x ≤ 7 := by rw [hx]; exact HTF.out.2.2.1 p
                have oc : wr.cell? ⟨0, k, none⟩ = some (.int .i64 (p : Int)) := by rw [hp]; exact (HOJ.out.fr HF.out (by simp)) k (by omega)
                have tc : wr.cell? ⟨bt, ot + p, none⟩ = some (.int .i64 (x : Int)) := by rw [hx]; exact (HST.out.fr HF.out (by simp)).2 p (by have := HLTL.out; omega)
                have htl := thBits_len LT k 0
                have H1 := hide (number28_any U G (W4 ++ thBits LT 0 k) x 3 wr HWR.out (by omega) (by omega) (by rw [List.length_append, htl]; have := HL4.out; omega) (le_app L4.out (thBits_le _ _ _)))
                have HTS : Hid (thBits LT 0 (k + 1) = thBits LT 0 k ++ lsb x 3) := hide (by rw [thBits_snoc, Nat.zero_add, ← hp, ← hx])
                clear hp hx htl
                go_wp2_with fail
                refine (unhide H1).mono ?_
                rintro e wq ⟨rfl, G', hw', hg', hf'⟩
                obtain ⟨k1, k2⟩ := wstep HF.out HG.out hg' hf'
                rw [List.append_assoc, ← HTS.out] at hw'
                have HW' := hide hw'
                have HF' := hide k1
                have HG' := hide k2
                clear hw' hg' hf' k1 k2 H1
                go_wp2_with fail
                go_roundg (m + 1 - (k + 1))
                case measure => have := HGK.out; omega
                case rel => exact ⟨k + 1, G', rfl, by omega, by go_num, HW'.out, HF'.out, HG'.out⟩
              · have hkn : k = m := by omega
                rw [hkn] at HWR
                go_wp2_with fail
                go_meet
                exact ⟨G, HWR.out, HF.out, HG.out⟩
          case rest =>
            obtain ⟨G, hw, hf, hG⟩ := hcut
            obtain ⟨W5, hW5⟩ : ∃ W, W = W4 ++ thBits LT 0 m := ⟨_, rfl⟩
            rw [← hW5] at hw
            have L5 : Hid (∀ x ∈ W5, x ≤ 1) := by rw [hW5]; exact hide (le_app L4.out (thBits_le _ _ _))
            have hl5 : W5.length ≤ 17 + 57 := by rw [hW5, List.length_append, thBits_len, HL4.out]; omega
            have HW5 := hide hw
            have HF5 := hide hf
            have HG5 := hide hG
            have HW5E := hide hW5
            have H38 := hide (Hf.codes14_any (.slice (some ⟨bt, ot, none⟩) lt ct) (zI LT) wc (by
              have h := (sh_nr (c := ct) HST.out hf hG).ir
              rw [← HLTL.out] at h
              exact h) (by rw [Hf.zI_len]; have := HTF.out.2.1; omega))
            rw [codesOf_lok HTF.out.1] at H38
            clear hw hf hG hW5 HW4 HFK4 HGK4 HFK0 HGK0
            go_wp2_with fail
            refine (unhide H38).mono ?_
            rintro e wq ⟨vc, rfl, hrc, hfc, hnc⟩
            have hin : In wc G := by obtain ⟨_, _, _, _, _, _, h⟩ := HW5.out; exact h
            have HNC := hide (nr_of (L := codesN LT) hrc hnc hin (by rw [codesN_len]; have := HTF.out.2.1; omega))
            have HW6 := hide (HW5.out.fr hfc (by simp))
            have HF6 := hide (HF5.out.trans hfc)
            clear hrc hnc hin hfc HW5 HF5 H38
            go_upto_block 8 with fail
            go_cut [23] (fun _ wd => ∃ G', Wr wd U G' (W5 ++ rnsBits LT rs) ∧ Fr [] wb wd ∧ ∀ b ∈ G', wb.heap.size ≤ b)
            case first =>
              go_wp2_with fail
              go_loopg [143] (rn + 1) (fun gk i wr => ∃ (k : Nat) (G' : List Nat), gk = rn + 1 - k ∧ k ≤ rn ∧ i = .int .i64 k ∧ Wr wr U G' (W5 ++ rnsBits LT (rs.take k)) ∧ Grows wq G G' ∧ Fr G wq wr)
              case atStart => exact ⟨0, G, rfl, by omega, rfl, by simpa [rnsBits] using HW6.out, Grows.refl _ _, Fr.refl _ _⟩
              case round =>
                obtain ⟨k, G', hgk, hk, rfl, hw, hg, hf⟩ := hrel
                have HGK := hide hgk
                have HWR := hide hw
                obtain ⟨k1, k2⟩ := wstep HF6.out HG5.out hg hf
                have HFB := hide k1
                have HGB := hide k2
                have HG1 := hide hg
                have HFQ := hide hf
                clear hgk hw hf hg k1 k2
                by_cases hlt : k < rn
                · obtain ⟨x, hx⟩ : ∃ x, x = rs[k]'(by have := HRNN.out; omega) := ⟨_, rfl⟩
                  have hxl : rs[k]? = some x := by rw [hx]; exact List.getElem?_eq_getElem _
                  have hxm : x ∈ rs := by rw [hx]; exact List.getElem_mem _
                  have htk : rs.take (k + 1) = rs.take k ++ [x] := by rw [hx]; exact List.take_succ_eq_append_getElem _
                  have hbits : rnsBits LT (rs.take (k + 1)) = rnsBits LT (rs.take k) ++ rnBits LT x := by rw [htk]; simp [rnsBits]
                  have hx19 := HRS.out.le15 x hxm
                  have hxv := HRS.out.val x hxm
                  have hxh := HTF.out.2.2.2 x hxm
                  have hlen : (rnsBits LT (rs.take k)).length ≤ 14 * 316 := by
                    have h1 := rns_len HTF.out.2.2.1 (l := rs.take k) (fun r hr => HRS.out.le15 r (List.mem_of_mem_take hr))
                    rw [List.length_take] at h1
                    have h2 := HRNN.out
                    omega
                  have hir : RnAt wr (.slice pr rn rc) gr rs := SlAt.fr HRN4.out HFB.out (by simp)
                  obtain ⟨b, off, cap, hgb, hsv, hbl, i0, i1, i2⟩ := hir.get hxl
                  injection hsv with hpa hnl hpc
                  clear hnl
                  subst hpa hpc
                  obtain ⟨c, xv, xb⟩ := x
                  simp only at i0 i1 i2 hx19 hxv hxh
                  have HBT : Hid (rnsBits LT (rs.take (k + 1)) = rnsBits LT (rs.take k) ++ (cd LT c ++ lsb xv xb)) := hide hbits
                  clear hx hxl hxm htk hir hgb hbits
                  obtain ⟨V, hV⟩ : ∃ V, V = W5 ++ rnsBits LT (rs.take k) := ⟨_, rfl⟩
                  have hlv : V.length ≤ 5000 := by rw [hV, List.length_append]; omega
                  have LV : Hid (∀ x ∈ V, x ≤ 1) := by rw [hV]; exact hide (le_app L5.out (rnsBits_le _ _))
                  rw [← hV] at HWR
                  have HVE := hide hV
                  clear hV hlen
                  obtain ⟨wa, hwa⟩ : ∃ x, x = wr.alloc (.cells #[.int .i64 (c : Int), .int .i64 (xv : Int), .int .i64 (xb : Int)] 91) := ⟨_, rfl⟩
                  have hfa : Fr [] wr wa := by rw [hwa]; exact (Fr.refl _ _).alloc _
                  obtain ⟨N, hN⟩ : ∃ N, N = wr.heap.size := ⟨_, rfl⟩
                  have HNB : Hid (∀ w', Fr G' wa w' → w'.cell? ⟨N, 0, none⟩ = some (.int .i64 (c : Int)) ∧ w'.cell? ⟨N, 1, none⟩ = some (.int .i64 (xv : Int)) ∧ w'.cell? ⟨N, 2, none⟩ = some (.int .i64 (xb : Int)) ∧ N < w'.heap.size) := by
                    refine hide fun w' hf' => ?_
                    have h1 : wa.heap[N]? = some (.cells #[.int .i64 (c : Int), .int .i64 (xv : Int), .int .i64 (xb : Int)] 91 (0, 0)) := by rw [hwa]; exact heap_alloc_eq hN
                    have h2 : w'.heap[N]? = some (.cells #[.int .i64 (c : Int), .int .i64 (xv : Int), .int .i64 (xb : Int)] 91 (0, 0)) := by
                      refine (hf'.block N (lt_of_blk h1) (fun hm => ?_)).trans h1
                      obtain ⟨_, _, _, _, _, _, hin⟩ := HWR.out
                      have := hin N hm
                      omega
                    exact ⟨cell_blk h2 0, cell_blk h2 1, cell_blk h2 2, lt_of_blk h2⟩
                  obtain ⟨a0, a1, a2, aN⟩ := HNB.out wa (Fr.refl _ _)
                  have HWa := hide (HWR.out.fr hfa (by simp))
                  have HFQa := hide (HFQ.out.trans (hfa.mono (T := G) (by simp)))
                  have HFBa := hide (HFB.out.trans hfa)
                  have H39 := hide (code39_sym U G' V LT vc (.slice (some ⟨bt, ot, none⟩) lt ct) c wa HWa.out (HNC.out.fr HFQa.out HG1.out) (by
                    have h := sh_nr (c := ct) HST.out HFBa.out HGB.out
                    rw [← HLTL.out] at h
                    exact h) HTF.out.1 hxh (by omega) LV.out)
                  have HWA := hide hwa
                  have HNN := hide hN
                  have hT7 := HTF.out.2.2.1 c
                  have HC7 : Hid ((V ++ cd LT c).length ≤ 5100 ∧ xv < 128 ∧ xb ≤ 7) := hide (by rw [List.length_append, cd_len]; omega)
                  have HSZ : Hid (wq.heap.size ≤ wa.heap.size) := hide HFQa.out.size
                  clear hwa hN hfa hxh hT7 hxv hx19
                  go_upto_region 39 with fail
                  rw [← HWA.out, ← HNN.out]
                  go_wp2_with fail
                  refine (unhide H39).mono ?_
                  rintro e w3 ⟨rfl, G3, hw3, hg3, hf3⟩
                  obtain ⟨c0, c1, c2, cN⟩ := HNB.out w3 hf3
                  have L3 : Hid (∀ z ∈ V ++ cd LT c, z ≤ 1) := hide (le_app LV.out (cd_le _ _))
                  have H28 := hide (number28_any U G3 (V ++ cd LT c) xv xb w3 hw3 (by have := HC7.out; omega) (by have := HC7.out; omega) (by have := HC7.out; omega) L3.out)
                  have HF3 := hide hf3
                  have HG3 := hide hg3
                  clear hw3 hg3 hf3 a0 a1 a2 aN H39
                  go_wp2_with fail
                  refine (unhide H28).mono ?_
                  rintro e w4 ⟨rfl, G4', hw4, hg4, hf4⟩
                  have hfg4 := HF3.out.thru HG3.out hf4
                  have hgg4 := HG3.out.trans hg4 HF3.out.size
                  have HRND : Hid (Wr w4 U G4' (W5 ++ rnsBits LT (rs.take (k + 1))) ∧ Grows wq G G4' ∧ Fr G wq w4) := by
                    refine hide ⟨?_, HG1.out.trans hgg4 HSZ.out, HFQa.out.thru HG1.out hfg4⟩
                    rw [HBT.out, ← List.append_assoc, ← List.append_assoc, ← HVE.out]
                    exact hw4
                  clear hw4 hg4 hf4 hfg4 hgg4
                  go_wp2_with fail
                  go_roundg (rn + 1 - (k + 1))
                  case measure => have := HGK.out; omega
                  case rel =>
                    obtain ⟨r1, r2, r3⟩ := HRND.out
                    exact ⟨k + 1, G4', rfl, by omega, by go_num, r1, r2, r3⟩
                · have hkn : k = rn := by omega
                  have htl : rs.take k = rs := by rw [hkn, HRNN.out]; exact List.take_length
                  rw [htl] at HWR
                  clear htl
                  go_wp2_with fail
                  go_meet
                  exact ⟨G', HWR.out, HFB.out, HGB.out⟩
            case rest =>
              obtain ⟨G7, hw7, hf7, hG7⟩ := hcut
              have hlr : (rnsBits LT rs).length ≤ 14 * 316 := by
                have h1 := rns_len HTF.out.2.2.1 (l := rs) (fun r hr => HRS.out.le15 r hr)
                have h2 := HRNN.out
                omega
              have hla := HLN.out
              obtain ⟨d1, d2, d3, d4, d5⟩ := HDC.out
              have hit : ItAt wc (.slice pa n pc) gl l := SlAt.fr HLJ.out hf7 (by simp)
              have hgl : ∀ b, gl = some b → b ∉ G7 := fun b hb hm => by
                obtain ⟨cur, hc⟩ := SlAt.lt HLJ.out b hb
                have h1 := lt_of_blk hc
                have h2 := hG7 b hm
                omega
              have hlb : l.length ≤ 65536 := by have := HLEN.out; omega
              have H30 := hide (items30_any U G7 (W5 ++ rnsBits LT rs) LA LB l gl (.slice pa n pc) (.slice (some ⟨ba, oa, none⟩) LA.length ca) (.slice (some ⟨bb, ob, none⟩) LB.length cb) wc hw7 (le_app L5.out (rnsBits_le _ _)) hit hgl
                (sh_nr HSA7.out hf7 hG7) (sh_nr HSB7.out hf7 hG7) d3 d4 (by omega) (fun x hx => ⟨d1 x hx, HOK.out x hx⟩) d2 (by rw [List.length_append]; omega) (by omega))
              have HF7 := hide hf7
              have HG7 := hide hG7
              obtain ⟨la, hlaa⟩ : ∃ x, x = LA.length := ⟨_, rfl⟩
              obtain ⟨lb', hlbb⟩ : ∃ x, x = LB.length := ⟨_, rfl⟩
              rw [← hlaa, ← hlbb] at H30 ⊢
              clear hw7 hf7 hG7 hlr hla d1 d2 d3 d4 d5 hit hgl hlb hlaa hlbb
              go_wp2_with fail
              refine (unhide H30).mono ?_
              rintro e w8 ⟨rfl, G8, hw8, hg8, hf8⟩
              obtain ⟨v, c0, ul, hcv⟩ := wr_str hw8
              have HRES : Hid (DataPost s w (.returned (.string ⟨(packB (W5 ++ rnsBits LT rs ++ (itsBits LA LB l ++ cd LA 256))).toArray⟩)) w8) := by
                obtain ⟨q1, q2⟩ := dyn_all (s := s.data.toList) (n := m) HV.out (by simpa using hs) (by rw [← HLA.out]; exact HX.out) (by rw [← HLB.out]; exact HY.out) HRS.out ⟨hm4, hm19⟩ (by rw [← HLT.out]; exact HZ.out)
                rw [← HLA.out, ← HLB.out, ← HLT.out] at q1 q2
                have e1 : W5 ++ rnsBits LT rs ++ (itsBits LA LB l ++ cd LA 256) = dynBits X Y LT LA LB m rs l := by
                  obtain ⟨x1, x2, x3⟩ := HXE.out
                  rw [HW5E.out, HW4E.out, x1, x2, x3]
                  simp only [dynBits, dynHead, List.nil_append, List.append_assoc]
                have hsz : s.data.toList.length = s.size := by simp
                rw [e1]
                obtain ⟨f1, f2⟩ := wstep HF7.out HG7.out hg8 hf8
                exact hide ⟨_, rfl, q1, by omega, (HF1.out.trans HFJ.out).trans f1⟩
              clear hw8 hg8 hf8
              go_wp2_with fail
              go_ret
              have h := HRES.out
              rw [List.append_assoc] at h
              exact h
end Go.Proofs.YthmhcnnigepohaaGreatDoor.En

/- checksum: CRC-32 as a function. -/
namespace Go.Proofs.YthmhcnnigepohaaGreatDoor.En
open Go.RowKit
set_option linter.unusedVariables false

/-- One shift of the register. -/
def crcS (r : Int) : Int := if bits .and .u32 r 1 = 1 then bits .xor .u32 (r / 2) 3988292384 else r / 2
def crcB : Nat → Int → Int
  | 0, r => r
  | k + 1, r => crcS (crcB k r)
theorem crcS_in {r : Int} (h : 0 ≤ r ∧ r ≤ 4294967295) : 0 ≤ crcS r ∧ crcS r ≤ 4294967295 := by
  unfold crcS
  split
  · exact ⟨bits_lo_u32 _ _ _, bits_hi_u32 _ _ _⟩
  · omega
theorem crcB_in {r : Int} (h : 0 ≤ r ∧ r ≤ 4294967295) : ∀ k, 0 ≤ crcB k r ∧ crcB k r ≤ 4294967295
  | 0 => h
  | k + 1 => crcS_in (crcB_in h k)
def tcell (i : Nat) : Int := crcB 8 (i : Int)
theorem tcell_in (i : Nat) (h : i < 256) : 0 ≤ tcell i ∧ tcell i ≤ 4294967295 := crcB_in (by omega) 8
/-- The table. -/
def ctab : Array Value := ((List.range 256).map (fun i => Value.int .u32 (tcell i))).toArray
theorem ctab_size : ctab.size = 256 := by simp [ctab]
theorem ctab_get (i : Nat) (h : i < 256) : ctab[i]? = some (.int .u32 (tcell i)) := by simp [ctab, h]
/-- A block of n words. -/
def Uw (w : World) (B : Nat) (n : Nat) (g : Nat → Int) : Prop :=
  ∃ cur, w.heap[B]? = some (.cells cur 133 (0, 0)) ∧ cur.size = n ∧ ∀ i, i < n → cur[i]? = some (.int .u32 (g i))
theorem Uw.set {w : World} {B n : Nat} {g : Nat → Int} (h : Uw w B n g) {m : Nat} (hm : m < n) (x : Int) : Uw (w.setCell ⟨B, m, none⟩ (.int .u32 x)) B n (fun i => if i = m then x else g i) := by
  obtain ⟨cur, h1, h2, h3⟩ := h
  refine ⟨_, heap_set_same h1, by simpa using h2, fun i hi => ?_⟩
  rw [Array.getElem?_setIfInBounds]
  by_cases him : m = i
  · subst him
    rw [if_pos rfl, if_pos (by omega)]
    simp
  · rw [if_neg him]
    show _ = some (Value.int .u32 (if i = m then x else g i))
    rw [if_neg (fun h => him h.symm)]
    exact h3 i hi
theorem Uw.ext {w : World} {B n : Nat} {g g' : Nat → Int} (h : Uw w B n g) (e : ∀ i, i < n → g i = g' i) : Uw w B n g' := by
  obtain ⟨cur, h1, h2, h3⟩ := h
  exact ⟨cur, h1, h2, fun i hi => by rw [← e i hi]; exact h3 i hi⟩
theorem zeros133 (i : Nat) (h : i < 256) : Tryz.zeroCells133[i]? = some (.int .u32 0) := by
  have e : Tryz.zeroCells133 = ((List.range 256).map (fun _ => Value.int .u32 0)).toArray := by kernel_rfl
  rw [e]
  simp [h]

set_option maxRecDepth 100000 in
set_option maxHeartbeats 4000000 in
theorem table59_any (w : World) : Calls Tryz.prog 59 #[] w fun e w' => e = .returned (.agg ctab) ∧ Fr [] w w' := by
  obtain ⟨T, hT⟩ : ∃ T, T = ctab := ⟨_, rfl⟩
  rw [← hT]
  have HT := hide hT
  clear hT
  go_enter Tryz.func59, Tryz.ntmps59
  go_wp2_with fail
  obtain ⟨w0, hw0⟩ : ∃ w0, w0 = (w.alloc (.cells Tryz.zeroCells133 133)).alloc (.cells Tryz.zeroCells133 133) := ⟨_, rfl⟩
  have hzz : Tryz.zeroCells133.size = 256 := by kernel_rfl
  have HA0 : Hid (Uw w0 (w.heap.size + 1) 256 (fun _ => 0)) := by
    rw [hw0]
    exact hide ⟨_, heap_alloc_eq (by simp), hzz, zeros133⟩
  have HR0 : Hid (w0.heap[w.heap.size]? = some (.cells Tryz.zeroCells133 133 (0, 0))) := by
    rw [hw0, heap_alloc_lt (by simp)]
    exact hide (heap_alloc_eq rfl)
  have HF0 : Hid (Fr [] w w0) := by
    rw [hw0]
    exact hide (((Fr.refl _ _).alloc _).alloc _)
  have HZZ := hide hzz
  rw [← hw0]
  obtain ⟨R, hR⟩ : ∃ R, R = w.heap.size := ⟨_, rfl⟩
  rw [← hR] at HA0 HR0 ⊢
  have HRR := hide hR
  clear hw0 hzz hR
  go_loopg [5] 257 (fun gk i wr => ∃ (k : Nat), gk = 257 - k ∧ k ≤ 256 ∧ i = .int .i64 k ∧ Uw wr (R + 1) 256 (fun i => if i < k then tcell i else 0) ∧ wr.heap[R]? = some (.cells Tryz.zeroCells133 133 (0, 0)) ∧ Fr [] w wr)
  case atStart => exact ⟨0, rfl, by omega, rfl, HA0.out.ext (fun i _ => by simp), HR0.out, HF0.out⟩
  case round =>
    obtain ⟨k, hgk, hk, rfl, ha, hr, hf⟩ := hrel
    have HGK := hide hgk
    have HA := hide ha
    have HR := hide hr
    have HF := hide hf
    clear hgk ha hr hf HA0 HR0 HF0
    by_cases hlt : k < 256
    · have hlt2 : (k : Int) < 256 := by omega
      go_upto_block 2 with fail
      go_cut [3] (fun v wd => v = .int .u32 (tcell k) ∧ wd = wr)
      case first =>
        go_wp2_with fail
        go_loopg [3, 10] 9 (fun gk v i wd => ∃ j : Nat, gk = 9 - j ∧ j ≤ 8 ∧ i = .int .i64 j ∧ v = .int .u32 (crcB j k) ∧ wd = wr)
        case atStart => exact ⟨0, rfl, by omega, rfl, by first | rfl | (simp [crcB]), rfl⟩
        case round =>
          obtain ⟨j, hgk, hj, rfl, rfl, rfl⟩ := hrel
          have HGJ := hide hgk
          clear hgk
          obtain ⟨r, hr⟩ : ∃ r, r = crcB j k := ⟨_, rfl⟩
          have hrb := crcB_in (r := (k : Int)) (by omega) j
          rw [← hr] at hrb ⊢
          have HS : Hid (crcB (j + 1) k = crcS r) := hide (by rw [hr]; rfl)
          have HR8 := hide hr
          clear hr
          by_cases hl8 : j < 8
          · have hl8' : (j : Int) < 8 := by omega
            by_cases h1 : bits .and .u32 r 1 = 1
            · have d1 : (bits .and .u32 r 1 == 1) = true := by simp [h1]
              have HX : Hid (crcS r = bits .xor .u32 (r / 2) 3988292384) := hide (by unfold crcS; rw [if_pos h1])
              clear h1
              go_wp2_with fail
              go_roundg (9 - (j + 1))
              case measure => have := HGJ.out; omega
              case rel => exact ⟨j + 1, rfl, by omega, by go_num, by rw [HS.out, HX.out], rfl⟩
            · have d1 : (bits .and .u32 r 1 == 1) = false := by simp [h1]
              have HX : Hid (crcS r = r / 2) := hide (by unfold crcS; rw [if_neg h1])
              clear h1
              go_wp2_with fail
              go_roundg (9 - (j + 1))
              case measure => have := HGJ.out; omega
              case rel => exact ⟨j + 1, rfl, by omega, by go_num, by rw [HS.out, HX.out], rfl⟩
          · obtain rfl : j = 8 := by omega
            go_wp2_with fail
            go_meet
            exact ⟨by rw [HR8.out]; rfl, rfl⟩
      case rest =>
        obtain ⟨rfl, rfl⟩ := hcut
        obtain ⟨x, hx⟩ : ∃ x, x = tcell k := ⟨_, rfl⟩
        rw [← hx]
        have HX := hide hx
        have HU := hide ((HA.out.set (m := k) hlt x).ext (g' := fun i => if i < k + 1 then tcell i else 0) (fun i hi => by
          by_cases h : i = k
          · rw [if_pos h, if_pos (by omega), h, hx]
          · rw [if_neg h]
            by_cases h2 : i < k
            · rw [if_pos h2, if_pos (by omega)]
            · rw [if_neg h2, if_neg (by omega)]))
        have hfz : wc.frozen? ⟨R + 1, k, none⟩ = false := by
          obtain ⟨cur, h1, h2, h3⟩ := HA.out
          exact froz_blk h1 k
        have hcl : wc.cell? ⟨R + 1, k, none⟩ = some (.int .u32 0) := by
          obtain ⟨cur, h1, h2, h3⟩ := HA.out
          rw [cell_blk h1, h3 k hlt]
          simp
        have HR' : Hid ((wc.setCell ⟨R + 1, k, none⟩ (.int .u32 x)).heap[R]? = some (.cells Tryz.zeroCells133 133 (0, 0))) := hide ((heap_set_other (show R ≠ R + 1 by omega)).trans HR.out)
        have HF' : Hid (Fr [] w (wc.setCell ⟨R + 1, k, none⟩ (.int .u32 x))) := hide (HF.out.setCell (.inr (by have := HRR.out; show w.heap.size ≤ R + 1; omega)) _)
        clear hx
        go_wp2_with fail
        go_roundg (257 - (k + 1))
        case measure => have := HGK.out; omega
        case rel => exact ⟨k + 1, rfl, by omega, by go_num, HU.out, HR'.out, HF'.out⟩
    · obtain rfl : k = 256 := by omega
      have hce : ∀ j v, ctab.toList[j]? = some v → wr.cell? ((⟨R + 1, 0, none⟩ : Addr).add j) = some v := by
        intro j v hj
        have hj2 : j < 256 := by
          have := (List.getElem?_eq_some_iff.1 hj).1
          simpa [ctab] using this
        obtain ⟨cur, h1, h2, h3⟩ := HA.out
        rw [Addr.add_lit, Nat.zero_add, cell_blk h1, h3 j hj2, ← hj]
        simp only [if_pos hj2]
        rw [Array.getElem?_toList]
        exact (ctab_get j hj2).symm
      have hone : ctab.toList.all (·.oneCell') = true := by simp [ctab, Value.oneCell']
      have hinfo : (Tryz.prog.info? 133).map (·.size) = some ctab.size := by
        rw [ctab_size]
        kernel_rfl
      have hzs : Tryz.zeroCells133.size = ctab.size := by rw [ctab_size]; exact HZZ.out
      rw [← HT.out] at hce hone hinfo hzs
      have HCE := hide hce
      have HONE := hide hone
      have HINFO := hide hinfo
      have HZS := hide hzs
      clear hce hone hinfo hzs
      go_wp2_with (first | ((with_reducible refine wpList_load_agg rfl 133 (.tmp 1) ?_ ⟨R + 1, 0, none⟩ T _ ?_ Tryz.underlying133 ?_ HINFO.out HCE.out ?_); rfl; rfl; rfl) | ((with_reducible refine wpList_store_row rfl 133 (.tmp 0) (.tmp 25) ?_ ?_ R T 133 Tryz.zeroCells133 HR.out ?_ ?_ HINFO.out HZS.out HONE.out ?_); rfl; rfl; rfl; rfl))
      have hset := setRow_heap wr R Tryz.zeroCells133 T 133 (0, 0) HR.out
      refine bodyPost_ret (results_cell_row rfl _ _ R 133 T (0, 0) _ rfl hset Tryz.underlying133 rfl HINFO.out) rfl ?_
      exact ⟨rfl, HF.out.andThen (T := [R]) ⟨rfl, rfl, rfl, by simp, fun k _ hk => setRow_other wr R k _ (by simpa using hk)⟩ (by simp [HRR.out])⟩

/-- The register over a row of bytes. -/
def crcStep (r : Int) (c : UInt8) : Int := bits .xor .u32 (r / 256) (tcell (bits .xor .u8 (r % 256) (c.toNat : Int)).toNat)
def crcNot (r : Int) : Int := bits .xor .u32 IntKind.u32.max r
def crcF (crc : Int) (l : List UInt8) : Int := crcNot (l.foldl crcStep (crcNot crc))
theorem crcStep_in (r : Int) (c : UInt8) : 0 ≤ crcStep r c ∧ crcStep r c ≤ 4294967295 := ⟨bits_lo_u32 _ _ _, bits_hi_u32 _ _ _⟩
theorem crcNot_in (r : Int) : 0 ≤ crcNot r ∧ crcNot r ≤ 4294967295 := ⟨bits_lo_u32 _ _ _, bits_hi_u32 _ _ _⟩
theorem crcR_in (l : List UInt8) : ∀ r, (0 ≤ r ∧ r ≤ 4294967295) → 0 ≤ l.foldl crcStep r ∧ l.foldl crcStep r ≤ 4294967295 := by
  induction l with
  | nil => exact fun r h => h
  | cons c l ih => exact fun r h => ih _ (crcStep_in r c)
theorem zero133 : ∀ W, (zeroValue 133).run Tryz.prog W = .ok (.agg Tryz.zeroCells133) W := fun _ => by kernel_rfl
set_option maxRecDepth 100000 in
set_option maxHeartbeats 4000000 in
theorem crc42_any (c : Int) (s : ByteArray) (w : World) (hc : 0 ≤ c ∧ c ≤ 4294967295) (hs : s.size ≤ 1000000) : Calls Tryz.prog 42 #[.int .u32 c, .string s] w fun e w' => e = .returned (.int .u32 (crcF c s.data.toList)) ∧ Fr [] w w' := by
  have H59 := hide (table59_any w)
  obtain ⟨T, hT⟩ : ∃ T, T = ctab := ⟨_, rfl⟩
  rw [← hT] at H59
  have HT := hide hT
  have HINFO : Hid ((Tryz.prog.info? 133).map (·.size) = some T.size) := by
    rw [hT, ctab_size]
    exact hide (by kernel_rfl)
  have HZS : Hid (Tryz.zeroCells133.size = T.size) := by
    rw [hT, ctab_size]
    exact hide (by kernel_rfl)
  have HONE : Hid (T.toList.all (·.oneCell') = true) := by
    rw [hT]
    exact hide (by simp [ctab, Value.oneCell'])
  clear hT
  go_enter Tryz.func42, Tryz.ntmps42
  go_wp2_with fail
  refine (unhide H59).mono ?_
  rintro e w1 ⟨rfl, hf⟩
  have HF := hide hf
  clear hf
  go_wp2_with (first | ((with_reducible refine wpList_var' rfl rfl 133 5 8 rfl rfl rfl rfl Tryz.zeroCells133 T zero133 ?_ ?_ ?_ ?_ ?_ ?_ ?_); decide; exact of_decide_eq_true rfl; exact HINFO.out; exact HZS.out; exact HONE.out; rfl; go_frame))
  obtain ⟨w2, hw2⟩ : ∃ x, x = w1.alloc (.cells T 133) := ⟨_, rfl⟩
  obtain ⟨B, hB⟩ : ∃ B, B = w1.heap.size := ⟨_, rfl⟩
  have HTC : Hid (∀ i, i < 256 → w2.cell? ⟨B, i, none⟩ = some (.int .u32 (tcell i))) := by
    rw [hw2, hB]
    refine hide fun i hi => ?_
    rw [cell_blk (heap_alloc_eq rfl), HT.out]
    exact ctab_get i hi
  have HF2 : Hid (Fr [] w w2) := by rw [hw2]; exact hide (HF.out.alloc _)
  rw [← hw2, ← hB]
  obtain ⟨r0, hr0⟩ : ∃ r, r = crcNot c := ⟨_, rfl⟩
  have hr0b := crcNot_in c
  rw [← hr0] at hr0b
  rw [show bits .xor .u32 IntKind.u32.max c = r0 from hr0.symm]
  obtain ⟨n, hn⟩ : ∃ n, n = s.size := ⟨_, rfl⟩
  rw [← hn] at hs ⊢
  have HN := hide hn
  have HR0 := hide hr0
  clear hw2 hB hr0 hn
  go_loopg [6, 13] (n + 1) (fun gk v i wd => ∃ k : Nat, gk = n + 1 - k ∧ k ≤ n ∧ i = .int .i64 k ∧ v = .int .u32 ((s.data.toList.take k).foldl crcStep r0) ∧ wd = w2)
  case atStart => exact ⟨0, rfl, by omega, rfl, by simp, rfl⟩
  case round =>
    obtain ⟨k, hgk, hk, rfl, rfl, rfl⟩ := hrel
    have HGK := hide hgk
    clear hgk
    obtain ⟨r, hr⟩ : ∃ r, r = (s.data.toList.take k).foldl crcStep r0 := ⟨_, rfl⟩
    have hrb := crcR_in (s.data.toList.take k) r0 hr0b
    rw [← hr] at hrb ⊢
    have HR := hide hr
    clear hr
    by_cases hlt : k < n
    · have hks : k < s.size := by have := HN.out; omega
      have il := bits_lo_u8 .xor (r % 256) ((s[k]).toNat : Int)
      have ih := bits_hi_u8 .xor (r % 256) ((s[k]).toNat : Int)
      obtain ⟨x, hx⟩ : ∃ x, x = tcell (bits .xor .u8 (r % 256) ((s[k]).toNat : Int)).toNat := ⟨_, rfl⟩
      have hcl : wr.cell? ⟨B, (bits .xor .u8 (r % 256) ((s[k]).toNat : Int)).toNat, none⟩ = some (.int .u32 x) := by rw [hx]; exact HTC.out _ (by omega)
      have HS : Hid ((s.data.toList.take (k + 1)).foldl crcStep r0 = bits .xor .u32 (r / 256) x) := by
        have hk2 : k < s.data.toList.length := by simpa using hks
        rw [List.take_succ_eq_append_getElem hk2, List.foldl_append, ← HR.out, hx]
        exact hide rfl
      clear hx
      go_wp2_with fail
      go_roundg (n + 1 - (k + 1))
      case measure => have := HGK.out; omega
      case rel => exact ⟨k + 1, rfl, by omega, by go_num, by rw [HS.out], rfl⟩
    · have hkn : k = n := by omega
      have HX : Hid (crcNot r = crcF c s.data.toList) := by
        rw [HR.out, hkn, HN.out, List.take_of_length_le (by simp), HR0.out]
        exact hide rfl
      clear hkn
      go_wp2_with fail
      go_ret
      exact ⟨by rw [← HX.out]; rfl, HF2.out⟩

theorem xor_u32 (a b : Nat) (ha : a < 4294967296) (hb : b < 4294967296) : bits .xor .u32 (a : Int) (b : Int) = ((a ^^^ b : Nat) : Int) := by
  have hp : (2 : Nat) ^ IntKind.u32.bits = 4294967296 := rfl
  have hx : a ^^^ b < 4294967296 := Nat.xor_lt_two_pow (n := 32) ha hb
  simp only [bits, BitVec.ofInt_natCast, BitVec.toNat_xor, BitVec.toNat_ofNat, hp, Nat.mod_eq_of_lt ha, Nat.mod_eq_of_lt hb]
  rw [IntKind.wrap_u32]
  omega
theorem crcNot_not (r : Int) (h : 0 ≤ r ∧ r ≤ 4294967295) : crcNot (crcNot r) = r := by
  obtain ⟨n, rfl⟩ : ∃ n : Nat, r = n := ⟨r.toNat, by omega⟩
  have hm : IntKind.u32.max = ((4294967295 : Nat) : Int) := rfl
  have hn : n < 4294967296 := by omega
  have hx : 4294967295 ^^^ n < 4294967296 := Nat.xor_lt_two_pow (n := 32) (by omega) hn
  unfold crcNot
  rw [hm, xor_u32 _ _ (by omega) hn, xor_u32 _ _ (by omega) hx, ← Nat.xor_assoc, Nat.xor_self, Nat.zero_xor]
theorem crcF_in (c : Int) (l : List UInt8) : 0 ≤ crcF c l ∧ crcF c l ≤ 4294967295 := crcNot_in _
theorem crcF_append (c : Int) (a b : List UInt8) : crcF (crcF c a) b = crcF c (a ++ b) := by
  unfold crcF
  rw [crcNot_not _ (crcR_in a _ (crcNot_in c)), List.foldl_append]
theorem crcF_nil (c : Int) (h : 0 ≤ c ∧ c ≤ 4294967295) : crcF c [] = c := crcNot_not c h
set_option maxRecDepth 100000 in
theorem crc19_any (s : ByteArray) (w : World) (hs : s.size ≤ 1000000) : Calls Tryz.prog 19 #[.string s] w fun e w' => e = .returned (.int .u32 (crcF 0 s.data.toList)) ∧ Fr [] w w' := by
  have H42 := hide (crc42_any 0 s w (by omega) hs)
  go_enter Tryz.func19, Tryz.ntmps19
  go_wp2_with fail
  refine (unhide H42).mono ?_
  rintro e w1 ⟨rfl, hf⟩
  have HF := hide hf
  clear hf
  go_wp2_with fail
  go_ret
  exact ⟨rfl, HF.out⟩
end Go.Proofs.YthmhcnnigepohaaGreatDoor.En
