/- The reference's decoder. -/
import Derived.Test.YthmhcnnigepohaaStep
namespace Go.Proofs.Ythmhcnnigepohaa
open Go.RowKit

/-- The reference's decoder in block D. -/
def RB (w : World) (D : Nat) (lv cv : Value) (n c : Int) : Prop := w.heap[D]? = some (.cells #[lv, cv, .int .i64 n, .int .i64 c] 64 (0, 0))
def codesI (L : List Nat) : List Int := (List.range L.length).map (fun i => (code L i : Int))
theorem codesI_len (L : List Nat) : (codesI L).length = L.length := by simp [codesI]
theorem codesI_get (L : List Nat) (i : Nat) (h : i < L.length) : (codesI L).getD i 0 = (code L i : Int) := by
  simp [codesI, List.getD, h]
theorem codesOf_ok {L : List Nat} (h : chk (zI L) = 0 ∨ chk (zI L) = 1) : codesOf (zI L) = codesI L := by
  unfold codesOf codesI
  rw [if_pos h, zI_nat, zI_len]
/-- Read in another block than D. -/
def IRD (w : World) (D : Nat) (v : Value) (l : List Int) : Prop :=
  ∃ a cap, v = .slice a l.length cap ∧ ∀ i, i < l.length → ∃ x, a = some x ∧ (x.add i).block ≠ D ∧ w.cell? (x.add i) = some (.int .i64 (l.getD i 0))
theorem IRD.fr {w w' : World} {D : Nat} {v : Value} {l : List Int} (h : IRD w D v l) (hf : Fr [D] w w') : IRD w' D v l := by
  obtain ⟨a, cap, h1, h2⟩ := h
  refine ⟨a, cap, h1, fun i hi => ?_⟩
  obtain ⟨x, h3, h4, h5⟩ := h2 i hi
  exact ⟨x, h3, h4, by rw [World.cell?_of_block (w := w) (hf.block _ (World.block_lt_of_cell? w _ h5) (by simpa using h4))]; exact h5⟩
theorem IR.away {w : World} {v : Value} {l : List Int} (h : IR w v l) {W : World} {D : Nat} (hf : Fr [] w W) (hD : w.heap.size ≤ D) : IRD W D v l := by
  obtain ⟨a, cap, h1, h2⟩ := h
  refine ⟨a, cap, h1, fun i hi => ?_⟩
  obtain ⟨x, h3, h4⟩ := h2 i hi
  have h5 := World.block_lt_of_cell? w _ h4
  exact ⟨x, h3, by omega, by rw [World.cell?_of_block (w := w) (hf.block _ h5 (by simp))]; exact h4⟩

def RNPost (v : Value) (L : List Nat) (w : World) (e : Ending) (w' : World) : Prop :=
  ∃ D cv, e = .returned (.tuple #[.pointer (some ⟨D, 0, none⟩), .int .i64 0]) ∧ w.heap.size ≤ D ∧ RB w' D v cv 0 0 ∧ IR w' cv (codesI L) ∧ Fr [] w w' ∧ IRD w' D cv (codesI L) ∧ ∀ x n c, cv = .slice (some x) n c → w.heap.size ≤ x.block

set_option maxRecDepth 100000 in
set_option maxHeartbeats 2000000 in
theorem rnewdec21_bad (v : Value) (l : List Int) (w : World) (h : IR w v l) (hl : l.length ≤ 1000) (hc : chk l ≠ 0) :
    Calls Try.prog 21 #[v] w fun e w' => e = .returned (.tuple #[.pointer none, .int .i64 (chk l)]) ∧ w = w' := by
  have HCHK := hide (rcheck12_any v l w h (by omega))
  obtain ⟨c, hcc⟩ : ∃ c, c = chk l := ⟨_, rfl⟩
  rw [← hcc] at HCHK hc ⊢
  obtain ⟨a, cap, rfl, _⟩ := h
  have d1 : (c != 0) = true := by simpa using hc
  clear hcc hc
  go_enter Try.func21, Try.ntmps21
  go_wp2_with fail
  refine (unhide HCHK).mono ?_
  rintro e w1 ⟨rfl, rfl⟩
  go_wp2
  go_ret2
  exact ⟨rfl, rfl⟩
set_option maxRecDepth 100000 in
set_option maxHeartbeats 2000000 in
theorem rnewdec21_any (v : Value) (L : List Nat) (w : World) (h : IR w v (zI L)) (hl : L.length ≤ 320) (hok : chk (zI L) = 0) :
    Calls Try.prog 21 #[v] w (RNPost v L w) := by
  have hck := rcheck12_any v (zI L) w h (by rw [zI_len]; omega)
  rw [hok] at hck
  have HCHK := hide hck
  have hco := rcodes15_new v (zI L) w h (by rw [zI_len]; omega)
  rw [codesOf_ok (.inl hok)] at hco
  have HCO := hide hco
  obtain ⟨a, cap, rfl, _⟩ := h
  rw [zI_len] at HCHK HCO ⊢
  have hcl := codesI_len L
  obtain ⟨n, hn⟩ : ∃ n, n = L.length := ⟨_, rfl⟩
  rw [← hn] at hl HCHK HCO hcl ⊢
  have HN := hide hn
  have HCL := hide hcl
  clear hck hco hok hn hcl
  go_enter Try.func21, Try.ntmps21
  go_wp2_with fail
  refine (unhide HCHK).mono ?_
  rintro e w1 ⟨rfl, rfl⟩
  go_wp2_with fail
  refine (unhide HCO).mono ?_
  rintro e w1 ⟨cv, rfl, hi, hf, hnw⟩
  have HNW := hide hnw
  clear hnw
  obtain ⟨ca, cc, hcv, hir⟩ := hi
  have HIR : Hid (IR w1 cv (codesI L)) := hide ⟨ca, cc, hcv, hir⟩
  have HF := hide hf
  have HDW : Hid (w.heap.size ≤ w1.heap.size) := hide hf.size
  rw [HCL.out] at hcv
  have HCV := hide hcv
  subst hcv
  clear hir hf
  go_wp2
  go_ret2
  exact ⟨_, _, rfl, HDW.out, heap_alloc_eq rfl, HIR.out.fr ((Fr.refl [] w1).alloc _), HF.out.alloc _, HIR.out.away ((Fr.refl [] w1).alloc _) (Nat.le_refl _), HNW.out⟩

/-- Whether one of the first k codes is longer and begins with c. -/
def bgk (L : List Nat) (m c : Nat) : Nat → Bool
  | 0 => false
  | k + 1 => bgk L m c k || (decide (m < L.getD k 0) && decide (code L k / 2 ^ (L.getD k 0 - m) = c))

theorem RB.setN {w : World} {D : Nat} {lv cv : Value} {n c : Int} (h : RB w D lv cv n c) (x : Int) : RB (w.setCell ⟨D, 2, none⟩ (.int .i64 x)) D lv cv x c := heap_set_same h
theorem RB.setC {w : World} {D : Nat} {lv cv : Value} {n c : Int} (h : RB w D lv cv n c) (x : Int) : RB (w.setCell ⟨D, 3, none⟩ (.int .i64 x)) D lv cv n x := heap_set_same h
theorem RB.fr {w w' : World} {S : List Nat} {D : Nat} {lv cv : Value} {n c : Int} (h : RB w D lv cv n c) (hf : Fr S w w') (hn : D ∉ S) : RB w' D lv cv n c := (hf.block D (lt_of_blk h) hn).trans h
theorem pre_le (L : List Nat) (n k : Nat) : pre L n k ≤ L.length := by
  unfold pre
  have h3 := List.count_le_length (a := n) (l := L.take k)
  simp at h3
  omega
theorem fits_no {L : List Nat} {m c x : Nat} (hx : x < L.length) (h0 : 0 < m) (h1 : L.getD x 0 = m) (h2 : code L x = c) : ∀ k, k < x → ¬ (L.getD k 0 = m ∧ code L k = c) := by
  intro k hk ⟨h3, h4⟩
  have := code_inj (L := L) (i := k) (k := x) (by omega) hx (by omega) (by omega) (by omega)
  omega

set_option maxRecDepth 100000 in
set_option maxHeartbeats 8000000 in
theorem rstep23_hit (D : Nat) (L : List Nat) (lv cv : Value) (c n r : Nat) (bit : Int) (w : World) (hd : RB w D lv cv n c) (hl : IRD w D lv (zI L)) (hc : IRD w D cv (codesI L))
    (hL : ∀ x ∈ L, x ≤ 15) (hLL : L.length ≤ 1000) (hcb : c ≤ 100000) (hn : n ≤ 1000) (hr : (r : Int) = bit % 2) (x : Nat) (hyp : x < L.length ∧ L.getD x 0 = n + 1 ∧ code L x = c * 2 + r) :
    Calls Try.prog 23 #[.pointer (some ⟨D, 0, none⟩), .int .i64 bit] w fun e w' => e = .returned (.tuple #[.int .i64 x, .bool true, .int .i64 0]) ∧ RB w' D lv cv 0 0 ∧ Fr [D] w w' := by
  obtain ⟨c1, hc1⟩ : ∃ x : Nat, x = c * 2 + r := ⟨_, rfl⟩
  obtain ⟨m, hm⟩ : ∃ x : Nat, x = n + 1 := ⟨_, rfl⟩
  rw [← hc1, ← hm] at hyp
  have hb1 : bits .and .i64 bit 1 = (r : Int) := by rw [hr]; exact i64_and1 bit
  have hr2 : r < 2 := by omega
  have HDB := hide hd
  have HLI := hide hl
  have HCI := hide hc
  have HLV := hide hL
  obtain ⟨la, lc, rfl, hlc⟩ := hl
  obtain ⟨ca, cc, rfl, hcc⟩ := hc
  rw [zI_len] at hlc HLI HDB hd
  rw [codesI_len] at hcc HCI HDB hd
  obtain ⟨N, hN⟩ : ∃ n, n = L.length := ⟨_, rfl⟩
  rw [← hN] at hlc HLI HDB hd hcc HCI hLL
  have HN := hide hN
  have HY := hide hyp
  have d2 := cell_blk hd 2
  have d3 := cell_blk hd 3
  have f2 := froz_blk hd 2
  have f3 := froz_blk hd 3
  have hDl := lt_of_blk hd
  simp only [List.getElem?_toArray] at d2 d3
  replace d2 : w.cell? ⟨D, 2, none⟩ = some (.int .i64 n) := d2
  replace d3 : w.cell? ⟨D, 3, none⟩ = some (.int .i64 c) := d3
  have HC1 := hide hc1
  have HM := hide hm
  have hml : m ≤ 1001 := by omega
  have hcl : c1 ≤ 1000000 := by omega
  clear hlc hcc hd hN hr hc1 hm hyp hL
  go_enter Try.func23, Try.ntmps23
  go_wp2_with fail
  have e1 : (n : Int) + 1 = ((m : Nat) : Int) := by have := HM.out; omega
  have e2 : 2 * (c : Int) + (r : Int) = ((c1 : Nat) : Int) := by have := HC1.out; omega
  rw [e1, e2]
  obtain ⟨w1, hw1⟩ : ∃ w1, w1 = (w.setCell ⟨D, 2, none⟩ (.int .i64 ((m : Nat) : Int))).setCell ⟨D, 3, none⟩ (.int .i64 ((c1 : Nat) : Int)) := ⟨_, rfl⟩
  have HD1 : Hid (RB w1 D (.slice la N lc) (.slice ca N cc) m c1) := hide (by rw [hw1]; exact (HDB.out.setN m).setC c1)
  have HF1 : Hid (Fr [D] w w1) := hide (by rw [hw1]; exact ((Fr.refl [D] w).setCell (.inl (by simp)) _).setCell (.inl (by simp)) _)
  have HCE : Hid (∀ k, k < N → ∃ x y, la = some x ∧ ca = some y ∧ (x.add k).block < w1.heap.size ∧ (y.add k).block < w1.heap.size ∧ w1.cell? (x.add k) = some (.int .i64 ((L.getD k 0 : Nat) : Int)) ∧ w1.cell? (y.add k) = some (.int .i64 ((code L k : Nat) : Int))) := by
    show ∀ k, _ → _
    intro k hk
    obtain ⟨a1, p1, q1, r1⟩ := HLI.out.fr HF1.out
    obtain ⟨a2, p2, q2, r2⟩ := HCI.out.fr HF1.out
    injection q1 with q1 _ _
    injection q2 with q2 _ _
    obtain ⟨x, x1, _, x2⟩ := r1 k (by rw [zI_len]; have := HN.out; omega)
    obtain ⟨y, y1, _, y2⟩ := r2 k (by rw [codesI_len]; have := HN.out; omega)
    rw [zI_get] at x2
    rw [codesI_get L k (by have := HN.out; omega)] at y2
    exact ⟨x, y, by rw [q1, x1], by rw [q2, y1], World.block_lt_of_cell? w1 _ x2, World.block_lt_of_cell? w1 _ y2, x2, y2⟩
  rw [← hw1]
  clear hw1 d2 d3 f2 f3 hDl hb1 e1 e2 hr2 hcb hn
  have hd1 := HD1.out
  have d0 : w1.cell? ⟨D, 0, none⟩ = some (.slice la N lc) := cell_blk hd1 0
  have d1 : w1.cell? ⟨D, 1, none⟩ = some (.slice ca N cc) := cell_blk hd1 1
  have d2 : w1.cell? ⟨D, 2, none⟩ = some (.int .i64 ((m : Nat) : Int)) := cell_blk hd1 2
  have d3 : w1.cell? ⟨D, 3, none⟩ = some (.int .i64 ((c1 : Nat) : Int)) := cell_blk hd1 3
  have f2 := froz_blk hd1 2
  have f3 := froz_blk hd1 3
  have hDl := lt_of_blk hd1
  clear hd1
  go_loopg [7, 8] (N + 1) (fun gk b i wr => ∃ (k nd : Nat), gk = N + 1 - k ∧ k ≤ x ∧ i = .int .i64 k ∧ b = .bool (bgk L m c1 k) ∧ wr = w1.drewN nd)
  case atStart => exact ⟨0, 0, rfl, by omega, rfl, rfl, rfl⟩
  case round =>
    obtain ⟨k, nd, hgk, hk, rfl, rfl, rfl⟩ := hrel
    have HGK := hide hgk
    have HBG := hide (show bgk L m c1 (k + 1) = (bgk L m c1 k || (decide (m < L.getD k 0) && decide (code L k / 2 ^ (L.getD k 0 - m) = c1))) from rfl)
    obtain ⟨bg, hbg⟩ : ∃ b, b = bgk L m c1 k := ⟨_, rfl⟩
    have HBK := hide hbg
    rw [← hbg] at HBG ⊢
    clear hgk hbg
    by_cases hlt : k < x
    · have hkN : k < N := by have := (HY.out).1; have := HN.out; omega
      obtain ⟨x1, y1, rfl, rfl, hxb, hyb, hx, hy⟩ := HCE.out k hkN
      have hno := (fits_no (HY.out).1 (by have := HM.out; omega) (HY.out).2.1 (HY.out).2.2) k hlt
      have hy15 : L.getD k 0 ≤ 15 := by
        have e : L.getD k 0 = L[k]'(by have := HN.out; omega) := by simp [List.getD, List.getElem?_eq_getElem (show k < L.length by have := HN.out; omega)]
        rw [e]; exact HLV.out _ (List.getElem_mem _)
      have hcdb : code L k ≤ 20000000 := by
        unfold code
        split
        · omega
        · have h1 := fst_le HLV.out (L.getD k 0) hy15
          have h2 := pre_le L (L.getD k 0) k
          have := HN.out
          omega
      obtain ⟨y, hyd⟩ : ∃ y, y = L.getD k 0 := ⟨_, rfl⟩
      obtain ⟨cd, hcd⟩ : ∃ y, y = code L k := ⟨_, rfl⟩
      rw [← hyd] at hx hno HBG hy15
      rw [← hcd] at hy hno HBG hcdb
      clear hyd hcd
      have b0 : (0 : Int) ≤ (k : Int) ∧ (k : Int) < (N : Int) := by omega
      have hcs : (y = m ∧ cd ≠ c1) ∨ (y < m) ∨ (m < y ∧ cd / 2 ^ (y - m) = c1) ∨ (m < y ∧ cd / 2 ^ (y - m) ≠ c1) := by
        rcases Nat.lt_trichotomy y m with h | h | h
        · exact .inr (.inl h)
        · exact .inl ⟨h, fun h2 => hno ⟨h, h2⟩⟩
        · by_cases h2 : cd / 2 ^ (y - m) = c1
          · exact .inr (.inr (.inl ⟨h, h2⟩))
          · exact .inr (.inr (.inr ⟨h, h2⟩))
      clear hno
      rcases hcs with ⟨rfl, h2⟩ | h1 | ⟨h1, h2⟩ | ⟨h1, h2⟩
      · have g1 : ((cd : Int) == (c1 : Int)) = false := by simp; omega
        rw [show decide (y < y) = false by simp, Bool.false_and, Bool.or_false] at HBG
        go_upto_region 9 with (fail)
        go_quiet (fail)
        go_upto_region 13 with (fail)
        go_quiet (fail)
        go_wp2_with fail
        go_roundg (N + 1 - (k + 1))
        case measure => have := HGK.out; omega
        case rel => exact ⟨k + 1, _, rfl, by omega, by go_num, by rw [HBG.out], rfl⟩
      · have g1 : ((y : Int) == (m : Int)) = false := by simp; omega
        have g2 : decide (m < y) = false := by simp; omega
        rw [g2, Bool.false_and, Bool.or_false] at HBG
        go_upto_region 9 with (fail)
        go_quiet (fail)
        go_upto_region 13 with (fail)
        go_quiet (fail)
        go_wp2_with fail
        go_roundg (N + 1 - (k + 1))
        case measure => have := HGK.out; omega
        case rel => exact ⟨k + 1, _, rfl, by omega, by go_num, by rw [HBG.out], rfl⟩
      · have g1 : ((y : Int) == (m : Int)) = false := by simp; omega
        have g2 : decide (m < y) = true := by simp; omega
        rw [g2, decide_eq_true h2, Bool.and_true, Bool.or_true] at HBG
        have s1 : ((y : Int) - (m : Int)).toNat = y - m := by omega
        have s2 : (0 : Int) ≤ (y : Int) - (m : Int) ∧ (y : Int) - (m : Int) ≤ 15 := by omega
        have s3 : IntKind.u64.wrap ((y : Int) - (m : Int)) = (y : Int) - (m : Int) := by rw [IntWalk.u64_in _ (by omega)]
        have s4 : IntKind.i64.wrap ((y : Int) - (m : Int)) = (y : Int) - (m : Int) := IntWalk.i64_in _ (by omega)
        have s5 : (cd : Int) / 2 ^ (y - m) = (c1 : Int) := by rw [← h2]; simp
        clear h2
        go_upto_region 9 with (fail)
        go_quiet (fail)
        go_upto_region 13 with (fail)
        go_quiet (fail)
        go_wp2_with fail
        go_roundg (N + 1 - (k + 1))
        case measure => have := HGK.out; omega
        case rel => exact ⟨k + 1, _, rfl, by omega, by go_num, by rw [HBG.out], rfl⟩
      · have g1 : ((y : Int) == (m : Int)) = false := by simp; omega
        have g2 : decide (m < y) = true := by simp; omega
        rw [g2, decide_eq_false h2, Bool.and_false, Bool.or_false] at HBG
        have s1 : ((y : Int) - (m : Int)).toNat = y - m := by omega
        have s2 : (0 : Int) ≤ (y : Int) - (m : Int) ∧ (y : Int) - (m : Int) ≤ 15 := by omega
        have s3 : IntKind.u64.wrap ((y : Int) - (m : Int)) = (y : Int) - (m : Int) := by rw [IntWalk.u64_in _ (by omega)]
        have s4 : IntKind.i64.wrap ((y : Int) - (m : Int)) = (y : Int) - (m : Int) := IntWalk.i64_in _ (by omega)
        have s5 : ((cd : Int) / 2 ^ (y - m) == (c1 : Int)) = false := by
          have h3 : (cd : Int) / 2 ^ (y - m) = ((cd / 2 ^ (y - m) : Nat) : Int) := by simp
          rw [h3]
          simp only [beq_eq_false_iff_ne, ne_eq]
          omega
        clear h2
        go_upto_region 9 with (fail)
        go_quiet (fail)
        go_upto_region 13 with (fail)
        go_quiet (fail)
        go_wp2_with fail
        go_roundg (N + 1 - (k + 1))
        case measure => have := HGK.out; omega
        case rel => exact ⟨k + 1, _, rfl, by omega, by go_num, by rw [HBG.out], rfl⟩
    · obtain rfl : k = x := by omega
      have hkN : k < N := by have := (HY.out).1; have := HN.out; omega
      obtain ⟨x1, y1, rfl, rfl, hxb, hyb, hx, hy⟩ := HCE.out k hkN
      have h1 := (HY.out).2.1
      have h2 := (HY.out).2.2
      rw [h1] at hx
      rw [h2] at hy
      have b0 : (0 : Int) ≤ (k : Int) ∧ (k : Int) < (N : Int) := by omega
      clear h1 h2
      go_upto_region 9 with (fail)
      go_quiet (fail)
      go_wp2_with fail
      go_ret3
      exact ⟨rfl, by rw [zI_len, codesI_len, ← HN.out]; exact (RB.setN (w := w1.drewN _) HD1.out 0).setC 0, ((HF1.out.drewN _).setCell (.inl (by simp)) _).setCell (.inl (by simp)) _⟩
/-- Where no code fits: whether one begins so. -/
inductive MPost (D : Nat) (L : List Nat) (lv cv : Value) (m c : Nat) (w : World) : Ending → World → Prop where
  | yes {w'} (hb : bgk L m c L.length = true) (hd : RB w' D lv cv m c) (hf : Fr [D] w w') : MPost D L lv cv m c w (.returned (.tuple #[.int .i64 0, .bool false, .int .i64 0])) w'
  | no {w'} (hb : bgk L m c L.length = false) (hd : RB w' D lv cv 0 0) (hf : Fr [D] w w') : MPost D L lv cv m c w (.returned (.tuple #[.int .i64 0, .bool false, .int .i64 2])) w'

set_option maxRecDepth 100000 in
set_option maxHeartbeats 8000000 in
theorem rstep23_miss (D : Nat) (L : List Nat) (lv cv : Value) (c n r : Nat) (bit : Int) (w : World) (hd : RB w D lv cv n c) (hl : IRD w D lv (zI L)) (hc : IRD w D cv (codesI L))
    (hL : ∀ x ∈ L, x ≤ 15) (hLL : L.length ≤ 1000) (hcb : c ≤ 100000) (hn : n ≤ 1000) (hr : (r : Int) = bit % 2) (hyp : ∀ k, k < L.length → ¬ (L.getD k 0 = n + 1 ∧ code L k = c * 2 + r)) :
    Calls Try.prog 23 #[.pointer (some ⟨D, 0, none⟩), .int .i64 bit] w (MPost D L lv cv (n + 1) (c * 2 + r) w) := by
  obtain ⟨c1, hc1⟩ : ∃ x : Nat, x = c * 2 + r := ⟨_, rfl⟩
  obtain ⟨m, hm⟩ : ∃ x : Nat, x = n + 1 := ⟨_, rfl⟩
  rw [← hc1, ← hm] at hyp
  have hb1 : bits .and .i64 bit 1 = (r : Int) := by rw [hr]; exact i64_and1 bit
  have hr2 : r < 2 := by omega
  have HDB := hide hd
  have HLI := hide hl
  have HCI := hide hc
  have HLV := hide hL
  obtain ⟨la, lc, rfl, hlc⟩ := hl
  obtain ⟨ca, cc, rfl, hcc⟩ := hc
  rw [zI_len] at hlc HLI HDB hd
  rw [codesI_len] at hcc HCI HDB hd
  obtain ⟨N, hN⟩ : ∃ n, n = L.length := ⟨_, rfl⟩
  rw [← hN] at hlc HLI HDB hd hcc HCI hLL
  have HN := hide hN
  have HY := hide hyp
  have d2 := cell_blk hd 2
  have d3 := cell_blk hd 3
  have f2 := froz_blk hd 2
  have f3 := froz_blk hd 3
  have hDl := lt_of_blk hd
  simp only [List.getElem?_toArray] at d2 d3
  replace d2 : w.cell? ⟨D, 2, none⟩ = some (.int .i64 n) := d2
  replace d3 : w.cell? ⟨D, 3, none⟩ = some (.int .i64 c) := d3
  have HC1 := hide hc1
  have HM := hide hm
  have hml : m ≤ 1001 := by omega
  have hcl : c1 ≤ 1000000 := by omega
  clear hlc hcc hd hN hr hc1 hm hyp hL
  go_enter Try.func23, Try.ntmps23
  go_wp2_with fail
  have e1 : (n : Int) + 1 = ((m : Nat) : Int) := by have := HM.out; omega
  have e2 : 2 * (c : Int) + (r : Int) = ((c1 : Nat) : Int) := by have := HC1.out; omega
  rw [e1, e2]
  obtain ⟨w1, hw1⟩ : ∃ w1, w1 = (w.setCell ⟨D, 2, none⟩ (.int .i64 ((m : Nat) : Int))).setCell ⟨D, 3, none⟩ (.int .i64 ((c1 : Nat) : Int)) := ⟨_, rfl⟩
  have HD1 : Hid (RB w1 D (.slice la N lc) (.slice ca N cc) m c1) := hide (by rw [hw1]; exact (HDB.out.setN m).setC c1)
  have HF1 : Hid (Fr [D] w w1) := hide (by rw [hw1]; exact ((Fr.refl [D] w).setCell (.inl (by simp)) _).setCell (.inl (by simp)) _)
  have HCE : Hid (∀ k, k < N → ∃ x y, la = some x ∧ ca = some y ∧ (x.add k).block < w1.heap.size ∧ (y.add k).block < w1.heap.size ∧ w1.cell? (x.add k) = some (.int .i64 ((L.getD k 0 : Nat) : Int)) ∧ w1.cell? (y.add k) = some (.int .i64 ((code L k : Nat) : Int))) := by
    show ∀ k, _ → _
    intro k hk
    obtain ⟨a1, p1, q1, r1⟩ := HLI.out.fr HF1.out
    obtain ⟨a2, p2, q2, r2⟩ := HCI.out.fr HF1.out
    injection q1 with q1 _ _
    injection q2 with q2 _ _
    obtain ⟨x, x1, _, x2⟩ := r1 k (by rw [zI_len]; have := HN.out; omega)
    obtain ⟨y, y1, _, y2⟩ := r2 k (by rw [codesI_len]; have := HN.out; omega)
    rw [zI_get] at x2
    rw [codesI_get L k (by have := HN.out; omega)] at y2
    exact ⟨x, y, by rw [q1, x1], by rw [q2, y1], World.block_lt_of_cell? w1 _ x2, World.block_lt_of_cell? w1 _ y2, x2, y2⟩
  rw [← hw1]
  clear hw1 d2 d3 f2 f3 hDl hb1 e1 e2 hr2 hcb hn
  have hd1 := HD1.out
  have d0 : w1.cell? ⟨D, 0, none⟩ = some (.slice la N lc) := cell_blk hd1 0
  have d1 : w1.cell? ⟨D, 1, none⟩ = some (.slice ca N cc) := cell_blk hd1 1
  have d2 : w1.cell? ⟨D, 2, none⟩ = some (.int .i64 ((m : Nat) : Int)) := cell_blk hd1 2
  have d3 : w1.cell? ⟨D, 3, none⟩ = some (.int .i64 ((c1 : Nat) : Int)) := cell_blk hd1 3
  have f2 := froz_blk hd1 2
  have f3 := froz_blk hd1 3
  have hDl := lt_of_blk hd1
  clear hd1
  go_loopg [7, 8] (N + 1) (fun gk b i wr => ∃ (k nd : Nat), gk = N + 1 - k ∧ k ≤ N ∧ i = .int .i64 k ∧ b = .bool (bgk L m c1 k) ∧ wr = w1.drewN nd)
  case atStart => exact ⟨0, 0, rfl, by omega, rfl, rfl, rfl⟩
  case round =>
    obtain ⟨k, nd, hgk, hk, rfl, rfl, rfl⟩ := hrel
    have HGK := hide hgk
    have HBG := hide (show bgk L m c1 (k + 1) = (bgk L m c1 k || (decide (m < L.getD k 0) && decide (code L k / 2 ^ (L.getD k 0 - m) = c1))) from rfl)
    obtain ⟨bg, hbg⟩ : ∃ b, b = bgk L m c1 k := ⟨_, rfl⟩
    have HBK := hide hbg
    rw [← hbg] at HBG ⊢
    clear hgk hbg
    by_cases hlt : k < N
    · have hkN : k < N := hlt
      obtain ⟨x1, y1, rfl, rfl, hxb, hyb, hx, hy⟩ := HCE.out k hkN
      have hno := HY.out k (by have := HN.out; omega)
      have hy15 : L.getD k 0 ≤ 15 := by
        have e : L.getD k 0 = L[k]'(by have := HN.out; omega) := by simp [List.getD, List.getElem?_eq_getElem (show k < L.length by have := HN.out; omega)]
        rw [e]; exact HLV.out _ (List.getElem_mem _)
      have hcdb : code L k ≤ 20000000 := by
        unfold code
        split
        · omega
        · have h1 := fst_le HLV.out (L.getD k 0) hy15
          have h2 := pre_le L (L.getD k 0) k
          have := HN.out
          omega
      obtain ⟨y, hyd⟩ : ∃ y, y = L.getD k 0 := ⟨_, rfl⟩
      obtain ⟨cd, hcd⟩ : ∃ y, y = code L k := ⟨_, rfl⟩
      rw [← hyd] at hx hno HBG hy15
      rw [← hcd] at hy hno HBG hcdb
      clear hyd hcd
      have b0 : (0 : Int) ≤ (k : Int) ∧ (k : Int) < (N : Int) := by omega
      have hcs : (y = m ∧ cd ≠ c1) ∨ (y < m) ∨ (m < y ∧ cd / 2 ^ (y - m) = c1) ∨ (m < y ∧ cd / 2 ^ (y - m) ≠ c1) := by
        rcases Nat.lt_trichotomy y m with h | h | h
        · exact .inr (.inl h)
        · exact .inl ⟨h, fun h2 => hno ⟨h, h2⟩⟩
        · by_cases h2 : cd / 2 ^ (y - m) = c1
          · exact .inr (.inr (.inl ⟨h, h2⟩))
          · exact .inr (.inr (.inr ⟨h, h2⟩))
      clear hno
      rcases hcs with ⟨rfl, h2⟩ | h1 | ⟨h1, h2⟩ | ⟨h1, h2⟩
      · have g1 : ((cd : Int) == (c1 : Int)) = false := by simp; omega
        rw [show decide (y < y) = false by simp, Bool.false_and, Bool.or_false] at HBG
        go_upto_region 9 with (fail)
        go_quiet (fail)
        go_upto_region 13 with (fail)
        go_quiet (fail)
        go_wp2_with fail
        go_roundg (N + 1 - (k + 1))
        case measure => have := HGK.out; omega
        case rel => exact ⟨k + 1, _, rfl, by omega, by go_num, by rw [HBG.out], rfl⟩
      · have g1 : ((y : Int) == (m : Int)) = false := by simp; omega
        have g2 : decide (m < y) = false := by simp; omega
        rw [g2, Bool.false_and, Bool.or_false] at HBG
        go_upto_region 9 with (fail)
        go_quiet (fail)
        go_upto_region 13 with (fail)
        go_quiet (fail)
        go_wp2_with fail
        go_roundg (N + 1 - (k + 1))
        case measure => have := HGK.out; omega
        case rel => exact ⟨k + 1, _, rfl, by omega, by go_num, by rw [HBG.out], rfl⟩
      · have g1 : ((y : Int) == (m : Int)) = false := by simp; omega
        have g2 : decide (m < y) = true := by simp; omega
        rw [g2, decide_eq_true h2, Bool.and_true, Bool.or_true] at HBG
        have s1 : ((y : Int) - (m : Int)).toNat = y - m := by omega
        have s2 : (0 : Int) ≤ (y : Int) - (m : Int) ∧ (y : Int) - (m : Int) ≤ 15 := by omega
        have s3 : IntKind.u64.wrap ((y : Int) - (m : Int)) = (y : Int) - (m : Int) := by rw [IntWalk.u64_in _ (by omega)]
        have s4 : IntKind.i64.wrap ((y : Int) - (m : Int)) = (y : Int) - (m : Int) := IntWalk.i64_in _ (by omega)
        have s5 : (cd : Int) / 2 ^ (y - m) = (c1 : Int) := by rw [← h2]; simp
        clear h2
        go_upto_region 9 with (fail)
        go_quiet (fail)
        go_upto_region 13 with (fail)
        go_quiet (fail)
        go_wp2_with fail
        go_roundg (N + 1 - (k + 1))
        case measure => have := HGK.out; omega
        case rel => exact ⟨k + 1, _, rfl, by omega, by go_num, by rw [HBG.out], rfl⟩
      · have g1 : ((y : Int) == (m : Int)) = false := by simp; omega
        have g2 : decide (m < y) = true := by simp; omega
        rw [g2, decide_eq_false h2, Bool.and_false, Bool.or_false] at HBG
        have s1 : ((y : Int) - (m : Int)).toNat = y - m := by omega
        have s2 : (0 : Int) ≤ (y : Int) - (m : Int) ∧ (y : Int) - (m : Int) ≤ 15 := by omega
        have s3 : IntKind.u64.wrap ((y : Int) - (m : Int)) = (y : Int) - (m : Int) := by rw [IntWalk.u64_in _ (by omega)]
        have s4 : IntKind.i64.wrap ((y : Int) - (m : Int)) = (y : Int) - (m : Int) := IntWalk.i64_in _ (by omega)
        have s5 : ((cd : Int) / 2 ^ (y - m) == (c1 : Int)) = false := by
          have h3 : (cd : Int) / 2 ^ (y - m) = ((cd / 2 ^ (y - m) : Nat) : Int) := by simp
          rw [h3]
          simp only [beq_eq_false_iff_ne, ne_eq]
          omega
        clear h2
        go_upto_region 9 with (fail)
        go_quiet (fail)
        go_upto_region 13 with (fail)
        go_quiet (fail)
        go_wp2_with fail
        go_roundg (N + 1 - (k + 1))
        case measure => have := HGK.out; omega
        case rel => exact ⟨k + 1, _, rfl, by omega, by go_num, by rw [HBG.out], rfl⟩
    · obtain rfl : k = N := by omega
      cases bg with
      | false =>
        go_wp2_with fail
        go_ret3
        refine MPost.no (by rw [← HM.out, ← HC1.out, ← HN.out]; exact HBK.out.symm) ?_ (((HF1.out.drewN _).setCell (.inl (by simp)) _).setCell (.inl (by simp)) _)
        rw [zI_len, codesI_len, ← HN.out]
        exact (RB.setN (w := w1.drewN _) HD1.out 0).setC 0
      | true =>
        go_wp2_with fail
        go_ret3
        refine MPost.yes (by rw [← HM.out, ← HC1.out, ← HN.out]; exact HBK.out.symm) ?_ (HF1.out.drewN _)
        rw [zI_len, codesI_len, ← HN.out, ← HM.out, ← HC1.out]
        exact HD1.out

end Go.Proofs.Ythmhcnnigepohaa

