/- inflate.runs. -/
import Derived.Test.YthmhcnnigepohaaGreatDoorM27
namespace Go.Proofs.YthmhcnnigepohaaGreatDoor.En
open Go.RowKit
set_option linter.unusedVariables false

theorem elem91 : ElemOk Tryz.prog 87 91 3 24 := ⟨Tryz.underlying87, by
  have h : (Tryz.prog.info? 91).map (fun i => (i.zero.map (fun z => z.cells.size), i.size, i.bytes)) = some (some 3, 3, 24) := by kernel_rfl
  cases hq : Tryz.prog.info? 91 with
  | none => rw [hq] at h; cases h
  | some i =>
    rw [hq] at h
    simp only [Option.map_some, Option.some.injEq, Prod.mk.injEq] at h
    obtain ⟨h1, h2, h3⟩ := h
    cases hz : i.zero with
    | none => rw [hz] at h1; cases h1
    | some z =>
      rw [hz] at h1
      simp only [Option.map_some, Option.some.injEq] at h1
      exact ⟨i, z, rfl, hz, h2, h3, h1⟩, by decide⟩
def rnC (r : Rn) : List Value := [.int .i64 (r.sym : Nat), .int .i64 (r.val : Nat), .int .i64 (r.bits : Nat)]
def rnsC (l : List Rn) : List Value := l.flatMap rnC
theorem rnsC_len : ∀ l : List Rn, (rnsC l).length = l.length * 3
  | [] => rfl
  | x :: l => by
    have := rnsC_len l
    unfold rnsC at this ⊢
    rw [List.flatMap_cons, List.length_append, this, List.length_cons]
    simp only [rnC, List.length_cons, List.length_nil]
    omega
theorem rnsC_get : ∀ (l : List Rn) (i : Nat) (x : Rn), l[i]? = some x → (rnsC l)[i * 3]? = some (.int .i64 (x.sym : Nat)) ∧ (rnsC l)[i * 3 + 1]? = some (.int .i64 (x.val : Nat)) ∧ (rnsC l)[i * 3 + 2]? = some (.int .i64 (x.bits : Nat))
  | [], i, x, h => by simp at h
  | y :: l, 0, x, h => by
    simp only [List.getElem?_cons_zero, Option.some.injEq] at h
    subst h
    unfold rnsC
    rw [List.flatMap_cons]
    simp [rnC]
  | y :: l, i + 1, x, h => by
    have ih := rnsC_get l i x (by simpa using h)
    unfold rnsC at ih ⊢
    rw [List.flatMap_cons]
    have e : ∀ k, (rnC y ++ List.flatMap rnC l)[(i + 1) * 3 + k]? = (List.flatMap rnC l)[i * 3 + k]? := fun k => by
      rw [List.getElem?_append_right (by simp [rnC]; omega)]
      congr 1
      simp [rnC]; omega
    exact ⟨by have := e 0; simpa using this.trans ih.1, by rw [e 1]; exact ih.2.1, by rw [e 2]; exact ih.2.2⟩
/-- A slice of runs. -/
def RnAt (w : World) (v : Value) (g : Option Nat) (l : List Rn) : Prop := SlAt 91 3 w v g l.length (rnsC l)
theorem RnAt.get {w : World} {v : Value} {g : Option Nat} {l : List Rn} (h : RnAt w v g l) {i : Nat} {x : Rn} (hx : l[i]? = some x) :
    ∃ b off cap, g = some b ∧ v = .slice (some ⟨b, off, none⟩) l.length cap ∧ b < w.heap.size ∧ w.cell? ⟨b, off + i * 3, none⟩ = some (.int .i64 (x.sym : Nat)) ∧ w.cell? ⟨b, off + i * 3 + 1, none⟩ = some (.int .i64 (x.val : Nat)) ∧ w.cell? ⟨b, off + i * 3 + 2, none⟩ = some (.int .i64 (x.bits : Nat)) := by
  rcases h with ⟨_, _, h1, _⟩ | ⟨b, off, cap, cur, hg, hv, hblk, hnc, hfit, hxs, hcells⟩
  · have := (List.getElem?_eq_some_iff.1 hx).1
    omega
  · obtain ⟨r1, r2, r3⟩ := rnsC_get l i x hx
    refine ⟨b, off, cap, hg, hv, lt_of_blk hblk, ?_, ?_, ?_⟩
    · rw [cell_blk hblk]; exact hcells _ _ r1
    · rw [cell_blk hblk, Nat.add_assoc]; exact hcells _ _ r2
    · rw [cell_blk hblk, Nat.add_assoc]; exact hcells _ _ r3
theorem RnAt.push {w : World} {v : Value} {g : Option Nat} {l : List Rn} (h : RnAt w v g l) (m : List Rn) (cs : Array Value) (hcs : cs.toList = rnsC m) (hm : 0 < m.length) (hl : l.length + m.length ≤ 1000000) :
    ∃ v' w' g', (Builtin.append_ #[87, 87] 87 #[v, .slice (some ⟨w.heap.size, 0, none⟩) m.length m.length]).run Tryz.prog (w.alloc (.cells cs 91)) = .ok v' w' ∧ RnAt w' v' g' (l ++ m) ∧ Fr g.toList w w' ∧ (g' = g ∨ ∃ b, g' = some b ∧ w.heap.size ≤ b) := by
  have hk : RnAt (w.alloc (.cells cs 91)) v g l := SlAt.keep h (fun b hb => heap_alloc_lt (by obtain ⟨cur, hc⟩ := SlAt.lt h b hb; exact lt_of_blk hc))
  have h1 : ∀ (l : List Rn), ∀ u ∈ rnsC l, u.oneCell' = true := fun l u hu => by
    obtain ⟨r, _, hr⟩ := List.mem_flatMap.1 hu
    simp only [rnC, List.mem_cons, List.not_mem_nil, or_false] at hr
    rcases hr with rfl | rfl | rfl <;> rfl
  obtain ⟨v', w', g', happ, hsl', hfr', hg'⟩ := SlAt.append elem91 hk 87 ⟨w.heap.size, 0, none⟩ m.length m.length (rnsC m) hm (rnsC_len m) (fun j u hj => by
    rw [Addr.add_lit, cell_blk (heap_alloc_eq rfl), ← Array.getElem?_toList, hcs]
    simpa using hj) (h1 m) (by omega) (by unfold maxLen; omega)
  refine ⟨v', w', g', happ, ?_, ((Fr.refl _ w).alloc _).andThen hfr' (fun x hx => .inl hx), ?_⟩
  · unfold RnAt
    rw [List.length_append]
    have : rnsC (l ++ m) = rnsC l ++ rnsC m := by simp [rnsC]
    rw [this]
    exact hsl'
  · rcases hg' with h1 | ⟨h1, _⟩
    · exact .inl h1
    · exact .inr ⟨_, h1, by simp⟩
theorem take_rep (L : List Nat) (i x : Nat) : ∀ n, i + n ≤ L.length → (∀ j, j < n → L.getD (i + j) 0 = x) → L.take (i + n) = L.take i ++ List.replicate n x
  | 0, _, _ => by simp
  | n + 1, h, hj => by
    rw [← Nat.add_assoc, List.take_succ_eq_append_getElem (by omega), take_rep L i x n (by omega) (fun j hjn => hj j (by omega)), List.replicate_succ', List.append_assoc]
    have := hj n (by omega)
    simp only [List.getD, List.getElem?_eq_getElem (show i + n < L.length by omega), Option.getD_some] at this
    rw [this]
/-- The four kinds of runs. -/
theorem run_z7 {L : List Nat} {i n : Nat} {rs : List Rn} (h : Runs [] rs (L.take i)) (h1 : 11 ≤ n) (h2 : n ≤ 138) (hl : i + n ≤ L.length) (hj : ∀ j, j < n → L.getD (i + j) 0 = 0) : Runs [] (rs ++ [⟨18, n - 11, 7⟩]) (L.take (i + n)) := by
  rw [take_rep L i 0 n hl hj, show n = 11 + (n - 11) by omega]
  have : n - 11 < 128 := by omega
  rw [Nat.add_sub_cancel_left]
  exact h.snoc (.z7 (by omega))
theorem run_z3 {L : List Nat} {i n : Nat} {rs : List Rn} (h : Runs [] rs (L.take i)) (h1 : 3 ≤ n) (h2 : n < 11) (hl : i + n ≤ L.length) (hj : ∀ j, j < n → L.getD (i + j) 0 = 0) : Runs [] (rs ++ [⟨17, n - 3, 3⟩]) (L.take (i + n)) := by
  rw [take_rep L i 0 n hl hj, show n = 3 + (n - 3) by omega]
  rw [Nat.add_sub_cancel_left]
  exact h.snoc (.z3 (by omega))
theorem run_lit {L : List Nat} {i x : Nat} {rs : List Rn} (h : Runs [] rs (L.take i)) (hl : i < L.length) (hx : L.getD i 0 = x) (hx15 : x ≤ 15) : Runs [] (rs ++ [⟨x, 0, 0⟩]) (L.take (i + 1)) := by
  rw [take_rep L i x 1 hl (fun j hj => by obtain rfl : j = 0 := by omega
                                          exact hx)]
  exact h.snoc (.lit (by omega))
theorem run_rep {L : List Nat} {i n x : Nat} {rs : List Rn} (h : Runs [] rs (L.take i)) (h1 : 4 ≤ n) (h2 : n ≤ 7) (hl : i + n ≤ L.length) (hx15 : x ≤ 15) (hj : ∀ j, j < n → L.getD (i + j) 0 = x) : Runs [] (rs ++ [⟨x, 0, 0⟩, ⟨16, n - 4, 2⟩]) (L.take (i + n)) := by
  have e1 := run_lit h (by omega) (hj 0 (by omega)) hx15
  have hlen : (L.take (i + 1)).length = i + 1 := by rw [List.length_take]; omega
  have hlast : (L.take (i + 1)).getD ((L.take (i + 1)).length - 1) 0 = x := by
    rw [hlen, Nat.add_sub_cancel]
    have := hj 0 (by omega)
    rw [Nat.add_zero] at this
    rw [← this]
    simp only [List.getD, List.getElem?_take_of_lt (Nat.lt_succ_self i)]
  have e2 : Run1 (L.take (i + 1)) ⟨16, n - 4, 2⟩ (L.take (i + n)) := by
    have e3 := Run1.rep (t := L.take (i + 1)) (k := n - 4) (by omega) (by omega)
    rw [hlast] at e3
    rw [show i + n = i + 1 + (3 + (n - 4)) by omega, take_rep L (i + 1) x (3 + (n - 4)) (by omega) (fun j hjn => by rw [Nat.add_assoc]; exact hj (1 + j) (by omega))]
    exact e3
  have := e1.snoc e2
  rwa [List.append_assoc] at this

def RunsPost (L : List Nat) (w : World) (e : Ending) (w' : World) : Prop := ∃ v g rs, e = .returned v ∧ RnAt w' v g rs ∧ (∀ b, g = some b → w.heap.size ≤ b) ∧ Runs [] rs L ∧ Fr [] w w'
set_option maxRecDepth 100000 in
set_option maxHeartbeats 8000000 in
theorem runs36_any (b off cap : Nat) (L : List Nat) (w : World) (hb : b < w.heap.size) (hcell : ∀ i, i < L.length → w.cell? ⟨b, off + i, none⟩ = some (.int .i64 (L.getD i 0 : Nat))) (h15 : ∀ i, i < L.length → L.getD i 0 ≤ 15) (hl : L.length ≤ 1000) :
    Calls Tryz.prog 36 #[.slice (some ⟨b, off, none⟩) L.length cap] w (RunsPost L w) := by
  have HC := hide hcell
  have H15 := hide h15
  obtain ⟨m, hm⟩ : ∃ m, m = L.length := ⟨_, rfl⟩
  have HLM := hide hm
  rw [← hm] at hl ⊢
  clear hcell h15 hm
  go_enter Tryz.func36, Tryz.ntmps36
  go_wp2_with fail
  go_loopg [3, 4] (m + 1) (fun gk v ii wr => ∃ (i : Nat) (rs : List Rn) (g : Option Nat), gk = m + 1 - i ∧ i ≤ m ∧ ii = .int .i64 i ∧ Runs [] rs (L.take i) ∧ RnAt wr v g rs ∧ (∀ b, g = some b → w.heap.size ≤ b) ∧ Fr [] w wr)
  case atStart => exact ⟨0, [], none, rfl, by omega, rfl, by simpa using Runs.nil, SlAt.nil_ _, by simp, Fr.refl _ _⟩
  case round =>
    obtain ⟨i, rs, g, hgk, hi, rfl, hru, hrn, hg, hf⟩ := hrel
    have HGK := hide hgk
    have HRU := hide hru
    have HG := hide hg
    have HFW := hide hf
    obtain ⟨v, hv⟩ : ∃ v, v = u3 := ⟨_, rfl⟩
    subst hv
    obtain ⟨pa, pc, hpv⟩ := SlAt.shape hrn
    obtain ⟨nr, hnr⟩ : ∃ n, n = rs.length := ⟨_, rfl⟩
    rw [← hnr] at hpv
    subst hpv
    have HRN := hide hrn
    have HRL : Hid (rs.length ≤ 1000) := hide (by
      have := hru.len.1
      rw [List.length_take] at this
      simp at this
      omega)
    by_cases hlt : i < m
    · obtain ⟨x, hx⟩ : ∃ x, x = L.getD i 0 := ⟨_, rfl⟩
      have hx15 : x ≤ 15 := by rw [hx]; exact H15.out i (by have := HLM.out; omega)
      have HX := hide hx
      have HBL : Hid (∀ W, Fr [] wr W → W.cell? ⟨b, off + i, none⟩ = some (.int .i64 (x : Nat)) ∧ b < W.heap.size) := by
        refine hide fun W hW => ?_
        have h := HFW.out.trans hW
        rw [World.cell?_of_block (w := w) (h.block b hb (by simp)), hx]
        exact ⟨HC.out i (by have := HLM.out; omega), Nat.lt_of_lt_of_le hb h.size⟩
      clear hgk hru hrn hg hf hnr hx
      go_wp2_with fail
      obtain ⟨wo, rfl⟩ : ∃ wo : World, wo = wr := ⟨_, rfl⟩
      go_loopg [5] m (fun gj n wr => ∃ k : Nat, gj = m + 1 - k ∧ 1 ≤ k ∧ i + k ≤ m ∧ n = .int .i64 k ∧ (∀ j, j < k → L.getD (i + j) 0 = x) ∧ Fr [] wo wr)
      case atStart =>
        refine ⟨1, rfl, by omega, by omega, rfl, fun j hj => ?_, Fr.refl _ _⟩
        obtain rfl : j = 0 := by omega
        exact HX.out.symm
      case round =>
        obtain ⟨k, hgj, hk1, hkm, rfl, hj, hf2⟩ := hrel
        have HGJ := hide hgj
        have HJ := hide hj
        have HF2 := hide hf2
        have HK1 := hide hk1
        obtain ⟨ci, bl⟩ := HBL.out wr hf2
        have za : IntKind.i64.wrap ((i : Int) + (k : Int)) = (i : Int) + (k : Int) := IntWalk.i64_in _ (by omega)
        have zt : ((i : Int) + (k : Int)).toNat = i + k := by omega
        have b0 : (0 : Int) ≤ (i : Int) + (k : Int) := by omega
        have b1 : (i : Int) < (m : Int) := by omega
        clear hgj hj hf2
        by_cases hik : i + k < m
        · have e1 : decide ((i : Int) + (k : Int) < (m : Int)) = true := by simp; omega
          have b2 : (i : Int) + (k : Int) < (m : Int) := by omega
          obtain ⟨y, hy⟩ : ∃ y, y = L.getD (i + k) 0 := ⟨_, rfl⟩
          have ck : wr.cell? ⟨b, off + (i + k), none⟩ = some (.int .i64 (y : Nat)) := by
            rw [World.cell?_of_block (w := w) ((HFW.out.trans HF2.out).block b hb (by simp)), hy]
            exact HC.out (i + k) (by have := HLM.out; omega)
          have HYY := hide hy
          clear hy
          by_cases hyx : y = x
          · have e2 : ((y : Int) == (x : Int)) = true := by simp [hyx]
            have HYX := hide hyx
            clear hyx
            go_upto_region 5 with (fail)
            go_quiet (fail)
            go_wp2_with fail
            go_roundg (m + 1 - (k + 1))
            case measure => have := HGJ.out; omega
            case rel =>
              refine ⟨k + 1, rfl, by omega, by omega, by go_num, fun j hj => ?_, HF2.out.drewN _⟩
              by_cases hjk : j = k
              · rw [hjk, ← HYY.out]; exact HYX.out
              · exact HJ.out j (by omega)
          · have e2 : ((y : Int) == (x : Int)) = false := by simp; omega
            clear hyx
            go_upto_region 5 with (fail)
            go_quiet (fail)
            clear za zt b0 b1 b2 e1 e2 ck hik
            obtain ⟨V, hV⟩ : ∃ x, x = wr.drewN nq := ⟨_, rfl⟩
            rw [← hV]
            have HFV : Hid (Fr [] w V) := hide (by rw [hV]; exact (HFW.out.trans HF2.out).drewN nq)
            have hrv : RnAt V (.slice pa nr pc) g rs := by rw [hV]; exact (SlAt.fr (SlAt.fr HRN.out HF2.out (by simp)) ((Fr.refl [] wr).drewN nq) (by simp) : SlAt 91 3 (wr.drewN nq) _ _ _ _)
            have hci : V.cell? ⟨b, off + i, none⟩ = some (.int .i64 (x : Nat)) := by rw [hV]; exact ci
            have hbV : b < V.heap.size := by rw [hV]; exact bl
            clear hV ci bl
            by_cases hx0 : x = 0
            · have d0 : ((x : Int) == 0) = true := by simp [hx0]
              by_cases h11 : 11 ≤ k
              · have d1 : decide ((11 : Int) ≤ (k : Int)) = true := by simp; omega
                obtain ⟨n1, hn⟩ : ∃ n, n = min k 138 := ⟨_, rfl⟩
                have zmin : min (k : Int) 138 = (n1 : Int) := by omega
                have hn1b : 11 ≤ n1 ∧ n1 ≤ 138 ∧ n1 ≤ k := by omega
                obtain ⟨y, hy⟩ : ∃ y, y = n1 - 11 := ⟨_, rfl⟩
                have zy : (n1 : Int) - 11 = (y : Int) := by omega
                have zw : IntKind.i64.wrap (y : Int) = (y : Int) := IntWalk.i64_in _ (by omega)
                have HY := hide hy
                have HX0 := hide hx0
                have hyb : y ≤ 200 := by omega
                clear hn hy hx0
                obtain ⟨v1, w1, g1, hap, hn1, hf1, hg1⟩ := hrv.push [⟨18, y, 7⟩] #[.int .i64 18, .int .i64 (y : Int), .int .i64 7] (by simp [rnsC, rnC]) (by simp) (by have := HRL.out; simp; omega)
                have HR : Hid (RnAt w1 v1 g1 (rs ++ [⟨18, y, 7⟩]) ∧ (∀ b, g1 = some b → w.heap.size ≤ b) ∧ Fr [] w w1) := hide ⟨hn1, fun b hb => by
                  rcases hg1 with h | ⟨b2, h, h2⟩
                  · exact HG.out b (h ▸ hb)
                  · rw [h] at hb; injection hb with hb; have := HFV.out.size; omega, HFV.out.andThen hf1 (fun b hb => .inr (HG.out b (by simpa using hb)))⟩
                have HRUN : Hid (Runs [] (rs ++ [⟨18, y, 7⟩]) (L.take (i + n1))) := hide (by rw [HY.out]; exact run_z7 HRU.out (by omega) (by omega) (by have := HLM.out; omega) (fun j hj => (HJ.out j (by omega)).trans HX0.out))
                clear hn1 hf1 hg1 hrv
                go_wp2_with (at_builtin; refine wpList_append_run rfl _ _ 87 rfl hap rfl rfl ?_)
                go_roundg (m + 1 - (i + n1))
                case measure => have := HGK.out; omega
                case rel =>
                  obtain ⟨r1, r2, r3⟩ := HR.out
                  exact ⟨i + n1, _, g1, rfl, by omega, by go_num, HRUN.out, r1, r2, r3⟩
              · have d1 : decide ((11 : Int) ≤ (k : Int)) = false := by simp; omega
                by_cases h3 : 3 ≤ k
                · have d2 : decide ((3 : Int) ≤ (k : Int)) = true := by simp; omega
                  obtain ⟨y, hy⟩ : ∃ y, y = k - 3 := ⟨_, rfl⟩
                  have zy : (k : Int) - 3 = (y : Int) := by omega
                  have zw : IntKind.i64.wrap (y : Int) = (y : Int) := IntWalk.i64_in _ (by omega)
                  have HY := hide hy
                  have HX0 := hide hx0
                  have hyb : y ≤ 200 := by omega
                  clear hy hx0
                  obtain ⟨v1, w1, g1, hap, hn1, hf1, hg1⟩ := hrv.push [⟨17, y, 3⟩] #[.int .i64 17, .int .i64 (y : Int), .int .i64 3] (by simp [rnsC, rnC]) (by simp) (by have := HRL.out; simp; omega)
                  have HR : Hid (RnAt w1 v1 g1 (rs ++ [⟨17, y, 3⟩]) ∧ (∀ b, g1 = some b → w.heap.size ≤ b) ∧ Fr [] w w1) := hide ⟨hn1, fun b hb => by
                    rcases hg1 with h | ⟨b2, h, h2⟩
                    · exact HG.out b (h ▸ hb)
                    · rw [h] at hb; injection hb with hb; have := HFV.out.size; omega, HFV.out.andThen hf1 (fun b hb => .inr (HG.out b (by simpa using hb)))⟩
                  have HRUN : Hid (Runs [] (rs ++ [⟨17, y, 3⟩]) (L.take (i + k))) := hide (by rw [HY.out]; exact run_z3 HRU.out (by omega) (by omega) (by have := HLM.out; omega) (fun j hj => (HJ.out j hj).trans HX0.out))
                  clear hn1 hf1 hg1 hrv
                  go_wp2_with (at_builtin; refine wpList_append_run rfl _ _ 87 rfl hap rfl rfl ?_)
                  go_roundg (m + 1 - (i + k))
                  case measure => have := HGK.out; omega
                  case rel =>
                    obtain ⟨r1, r2, r3⟩ := HR.out
                    exact ⟨i + k, _, g1, rfl, by omega, by go_num, HRUN.out, r1, r2, r3⟩
                · have d2 : decide ((3 : Int) ≤ (k : Int)) = false := by simp; omega
                  have d3 : decide ((4 : Int) ≤ (k : Int)) = false := by simp; omega
                  have HX00 := hide hx0
                  clear hx0
                  have hkk : 1 ≤ k := HK1.out
                  obtain ⟨v1, w1, g1, hap, hn1, hf1, hg1⟩ := hrv.push [⟨x, 0, 0⟩] #[.int .i64 (x : Int), .int .i64 0, .int .i64 0] (by simp [rnsC, rnC]) (by simp) (by have := HRL.out; simp; omega)
                  have HR : Hid (RnAt w1 v1 g1 (rs ++ [⟨x, 0, 0⟩]) ∧ (∀ b, g1 = some b → w.heap.size ≤ b) ∧ Fr [] w w1) := hide ⟨hn1, fun b hb => by
                    rcases hg1 with h | ⟨b2, h, h2⟩
                    · exact HG.out b (h ▸ hb)
                    · rw [h] at hb; injection hb with hb; have := HFV.out.size; omega, HFV.out.andThen hf1 (fun b hb => .inr (HG.out b (by simpa using hb)))⟩
                  have HRUN : Hid (Runs [] (rs ++ [⟨x, 0, 0⟩]) (L.take (i + 1))) := hide (run_lit HRU.out (by have := HLM.out; omega) (by have := HJ.out 0 (by omega); rwa [Nat.add_zero] at this) (by omega))
                  clear hn1 hf1 hg1 hrv
                  go_wp2_with (at_builtin; refine wpList_append_run rfl _ _ 87 rfl hap rfl rfl ?_)
                  go_roundg (m + 1 - (i + 1))
                  case measure => have := HGK.out; omega
                  case rel =>
                    obtain ⟨r1, r2, r3⟩ := HR.out
                    exact ⟨i + 1, _, g1, rfl, by omega, by go_num, HRUN.out, r1, r2, r3⟩
            · have d0 : ((x : Int) == 0) = false := by simp; omega
              by_cases h4 : 4 ≤ k
              · have d3 : decide ((4 : Int) ≤ (k : Int)) = true := by simp; omega
                obtain ⟨n1, hn⟩ : ∃ n, n = min k 7 := ⟨_, rfl⟩
                have zmin : min (k : Int) 7 = (n1 : Int) := by omega
                have hn1b : 4 ≤ n1 ∧ n1 ≤ 7 ∧ n1 ≤ k := by omega
                obtain ⟨y, hy⟩ : ∃ y, y = n1 - 4 := ⟨_, rfl⟩
                have zy : (n1 : Int) - 4 = (y : Int) := by omega
                have zw : IntKind.i64.wrap (y : Int) = (y : Int) := IntWalk.i64_in _ (by omega)
                have HY := hide hy
                have hyb : y ≤ 200 := by omega
                clear hn hy
                obtain ⟨v1, w1, g1, hap, hn1, hf1, hg1⟩ := hrv.push [⟨x, 0, 0⟩, ⟨16, y, 2⟩] #[.int .i64 (x : Int), .int .i64 0, .int .i64 0, .int .i64 16, .int .i64 (y : Int), .int .i64 2] (by simp [rnsC, rnC]) (by simp) (by have := HRL.out; simp; omega)
                have HR : Hid (RnAt w1 v1 g1 (rs ++ [⟨x, 0, 0⟩, ⟨16, y, 2⟩]) ∧ (∀ b, g1 = some b → w.heap.size ≤ b) ∧ Fr [] w w1) := hide ⟨hn1, fun b hb => by
                  rcases hg1 with h | ⟨b2, h, h2⟩
                  · exact HG.out b (h ▸ hb)
                  · rw [h] at hb; injection hb with hb; have := HFV.out.size; omega, HFV.out.andThen hf1 (fun b hb => .inr (HG.out b (by simpa using hb)))⟩
                have HRUN : Hid (Runs [] (rs ++ [⟨x, 0, 0⟩, ⟨16, y, 2⟩]) (L.take (i + n1))) := hide (by rw [HY.out]; exact run_rep HRU.out (by omega) (by omega) (by have := HLM.out; omega) (by omega) (fun j hj => HJ.out j (by omega)))
                clear hn1 hf1 hg1 hrv
                go_wp2_with (at_builtin; refine wpList_append_run rfl _ _ 87 rfl hap rfl rfl ?_)
                go_roundg (m + 1 - (i + n1))
                case measure => have := HGK.out; omega
                case rel =>
                  obtain ⟨r1, r2, r3⟩ := HR.out
                  exact ⟨i + n1, _, g1, rfl, by omega, by go_num, HRUN.out, r1, r2, r3⟩
              · have d3 : decide ((4 : Int) ≤ (k : Int)) = false := by simp; omega
                have hkk : 1 ≤ k := HK1.out
                obtain ⟨v1, w1, g1, hap, hn1, hf1, hg1⟩ := hrv.push [⟨x, 0, 0⟩] #[.int .i64 (x : Int), .int .i64 0, .int .i64 0] (by simp [rnsC, rnC]) (by simp) (by have := HRL.out; simp; omega)
                have HR : Hid (RnAt w1 v1 g1 (rs ++ [⟨x, 0, 0⟩]) ∧ (∀ b, g1 = some b → w.heap.size ≤ b) ∧ Fr [] w w1) := hide ⟨hn1, fun b hb => by
                  rcases hg1 with h | ⟨b2, h, h2⟩
                  · exact HG.out b (h ▸ hb)
                  · rw [h] at hb; injection hb with hb; have := HFV.out.size; omega, HFV.out.andThen hf1 (fun b hb => .inr (HG.out b (by simpa using hb)))⟩
                have HRUN : Hid (Runs [] (rs ++ [⟨x, 0, 0⟩]) (L.take (i + 1))) := hide (run_lit HRU.out (by have := HLM.out; omega) (by have := HJ.out 0 (by omega); rwa [Nat.add_zero] at this) (by omega))
                clear hn1 hf1 hg1 hrv
                go_wp2_with (at_builtin; refine wpList_append_run rfl _ _ 87 rfl hap rfl rfl ?_)
                go_roundg (m + 1 - (i + 1))
                case measure => have := HGK.out; omega
                case rel =>
                  obtain ⟨r1, r2, r3⟩ := HR.out
                  exact ⟨i + 1, _, g1, rfl, by omega, by go_num, HRUN.out, r1, r2, r3⟩
        · have e1 : decide ((i : Int) + (k : Int) < (m : Int)) = false := by simp; omega
          go_upto_region 5 with (fail)
          go_quiet (fail)
          clear za zt b0 b1 e1 hik
          obtain ⟨V, hV⟩ : ∃ x, x = wr.drewN nq := ⟨_, rfl⟩
          rw [← hV]
          have HFV : Hid (Fr [] w V) := hide (by rw [hV]; exact (HFW.out.trans HF2.out).drewN nq)
          have hrv : RnAt V (.slice pa nr pc) g rs := by rw [hV]; exact (SlAt.fr (SlAt.fr HRN.out HF2.out (by simp)) ((Fr.refl [] wr).drewN nq) (by simp) : SlAt 91 3 (wr.drewN nq) _ _ _ _)
          have hci : V.cell? ⟨b, off + i, none⟩ = some (.int .i64 (x : Nat)) := by rw [hV]; exact ci
          have hbV : b < V.heap.size := by rw [hV]; exact bl
          clear hV ci bl
          by_cases hx0 : x = 0
          · have d0 : ((x : Int) == 0) = true := by simp [hx0]
            by_cases h11 : 11 ≤ k
            · have d1 : decide ((11 : Int) ≤ (k : Int)) = true := by simp; omega
              obtain ⟨n1, hn⟩ : ∃ n, n = min k 138 := ⟨_, rfl⟩
              have zmin : min (k : Int) 138 = (n1 : Int) := by omega
              have hn1b : 11 ≤ n1 ∧ n1 ≤ 138 ∧ n1 ≤ k := by omega
              obtain ⟨y, hy⟩ : ∃ y, y = n1 - 11 := ⟨_, rfl⟩
              have zy : (n1 : Int) - 11 = (y : Int) := by omega
              have zw : IntKind.i64.wrap (y : Int) = (y : Int) := IntWalk.i64_in _ (by omega)
              have HY := hide hy
              have HX0 := hide hx0
              have hyb : y ≤ 200 := by omega
              clear hn hy hx0
              obtain ⟨v1, w1, g1, hap, hn1, hf1, hg1⟩ := hrv.push [⟨18, y, 7⟩] #[.int .i64 18, .int .i64 (y : Int), .int .i64 7] (by simp [rnsC, rnC]) (by simp) (by have := HRL.out; simp; omega)
              have HR : Hid (RnAt w1 v1 g1 (rs ++ [⟨18, y, 7⟩]) ∧ (∀ b, g1 = some b → w.heap.size ≤ b) ∧ Fr [] w w1) := hide ⟨hn1, fun b hb => by
                rcases hg1 with h | ⟨b2, h, h2⟩
                · exact HG.out b (h ▸ hb)
                · rw [h] at hb; injection hb with hb; have := HFV.out.size; omega, HFV.out.andThen hf1 (fun b hb => .inr (HG.out b (by simpa using hb)))⟩
              have HRUN : Hid (Runs [] (rs ++ [⟨18, y, 7⟩]) (L.take (i + n1))) := hide (by rw [HY.out]; exact run_z7 HRU.out (by omega) (by omega) (by have := HLM.out; omega) (fun j hj => (HJ.out j (by omega)).trans HX0.out))
              clear hn1 hf1 hg1 hrv
              go_wp2_with (at_builtin; refine wpList_append_run rfl _ _ 87 rfl hap rfl rfl ?_)
              go_roundg (m + 1 - (i + n1))
              case measure => have := HGK.out; omega
              case rel =>
                obtain ⟨r1, r2, r3⟩ := HR.out
                exact ⟨i + n1, _, g1, rfl, by omega, by go_num, HRUN.out, r1, r2, r3⟩
            · have d1 : decide ((11 : Int) ≤ (k : Int)) = false := by simp; omega
              by_cases h3 : 3 ≤ k
              · have d2 : decide ((3 : Int) ≤ (k : Int)) = true := by simp; omega
                obtain ⟨y, hy⟩ : ∃ y, y = k - 3 := ⟨_, rfl⟩
                have zy : (k : Int) - 3 = (y : Int) := by omega
                have zw : IntKind.i64.wrap (y : Int) = (y : Int) := IntWalk.i64_in _ (by omega)
                have HY := hide hy
                have HX0 := hide hx0
                have hyb : y ≤ 200 := by omega
                clear hy hx0
                obtain ⟨v1, w1, g1, hap, hn1, hf1, hg1⟩ := hrv.push [⟨17, y, 3⟩] #[.int .i64 17, .int .i64 (y : Int), .int .i64 3] (by simp [rnsC, rnC]) (by simp) (by have := HRL.out; simp; omega)
                have HR : Hid (RnAt w1 v1 g1 (rs ++ [⟨17, y, 3⟩]) ∧ (∀ b, g1 = some b → w.heap.size ≤ b) ∧ Fr [] w w1) := hide ⟨hn1, fun b hb => by
                  rcases hg1 with h | ⟨b2, h, h2⟩
                  · exact HG.out b (h ▸ hb)
                  · rw [h] at hb; injection hb with hb; have := HFV.out.size; omega, HFV.out.andThen hf1 (fun b hb => .inr (HG.out b (by simpa using hb)))⟩
                have HRUN : Hid (Runs [] (rs ++ [⟨17, y, 3⟩]) (L.take (i + k))) := hide (by rw [HY.out]; exact run_z3 HRU.out (by omega) (by omega) (by have := HLM.out; omega) (fun j hj => (HJ.out j hj).trans HX0.out))
                clear hn1 hf1 hg1 hrv
                go_wp2_with (at_builtin; refine wpList_append_run rfl _ _ 87 rfl hap rfl rfl ?_)
                go_roundg (m + 1 - (i + k))
                case measure => have := HGK.out; omega
                case rel =>
                  obtain ⟨r1, r2, r3⟩ := HR.out
                  exact ⟨i + k, _, g1, rfl, by omega, by go_num, HRUN.out, r1, r2, r3⟩
              · have d2 : decide ((3 : Int) ≤ (k : Int)) = false := by simp; omega
                have d3 : decide ((4 : Int) ≤ (k : Int)) = false := by simp; omega
                have HX00 := hide hx0
                clear hx0
                have hkk : 1 ≤ k := HK1.out
                obtain ⟨v1, w1, g1, hap, hn1, hf1, hg1⟩ := hrv.push [⟨x, 0, 0⟩] #[.int .i64 (x : Int), .int .i64 0, .int .i64 0] (by simp [rnsC, rnC]) (by simp) (by have := HRL.out; simp; omega)
                have HR : Hid (RnAt w1 v1 g1 (rs ++ [⟨x, 0, 0⟩]) ∧ (∀ b, g1 = some b → w.heap.size ≤ b) ∧ Fr [] w w1) := hide ⟨hn1, fun b hb => by
                  rcases hg1 with h | ⟨b2, h, h2⟩
                  · exact HG.out b (h ▸ hb)
                  · rw [h] at hb; injection hb with hb; have := HFV.out.size; omega, HFV.out.andThen hf1 (fun b hb => .inr (HG.out b (by simpa using hb)))⟩
                have HRUN : Hid (Runs [] (rs ++ [⟨x, 0, 0⟩]) (L.take (i + 1))) := hide (run_lit HRU.out (by have := HLM.out; omega) (by have := HJ.out 0 (by omega); rwa [Nat.add_zero] at this) (by omega))
                clear hn1 hf1 hg1 hrv
                go_wp2_with (at_builtin; refine wpList_append_run rfl _ _ 87 rfl hap rfl rfl ?_)
                go_roundg (m + 1 - (i + 1))
                case measure => have := HGK.out; omega
                case rel =>
                  obtain ⟨r1, r2, r3⟩ := HR.out
                  exact ⟨i + 1, _, g1, rfl, by omega, by go_num, HRUN.out, r1, r2, r3⟩
          · have d0 : ((x : Int) == 0) = false := by simp; omega
            by_cases h4 : 4 ≤ k
            · have d3 : decide ((4 : Int) ≤ (k : Int)) = true := by simp; omega
              obtain ⟨n1, hn⟩ : ∃ n, n = min k 7 := ⟨_, rfl⟩
              have zmin : min (k : Int) 7 = (n1 : Int) := by omega
              have hn1b : 4 ≤ n1 ∧ n1 ≤ 7 ∧ n1 ≤ k := by omega
              obtain ⟨y, hy⟩ : ∃ y, y = n1 - 4 := ⟨_, rfl⟩
              have zy : (n1 : Int) - 4 = (y : Int) := by omega
              have zw : IntKind.i64.wrap (y : Int) = (y : Int) := IntWalk.i64_in _ (by omega)
              have HY := hide hy
              have hyb : y ≤ 200 := by omega
              clear hn hy
              obtain ⟨v1, w1, g1, hap, hn1, hf1, hg1⟩ := hrv.push [⟨x, 0, 0⟩, ⟨16, y, 2⟩] #[.int .i64 (x : Int), .int .i64 0, .int .i64 0, .int .i64 16, .int .i64 (y : Int), .int .i64 2] (by simp [rnsC, rnC]) (by simp) (by have := HRL.out; simp; omega)
              have HR : Hid (RnAt w1 v1 g1 (rs ++ [⟨x, 0, 0⟩, ⟨16, y, 2⟩]) ∧ (∀ b, g1 = some b → w.heap.size ≤ b) ∧ Fr [] w w1) := hide ⟨hn1, fun b hb => by
                rcases hg1 with h | ⟨b2, h, h2⟩
                · exact HG.out b (h ▸ hb)
                · rw [h] at hb; injection hb with hb; have := HFV.out.size; omega, HFV.out.andThen hf1 (fun b hb => .inr (HG.out b (by simpa using hb)))⟩
              have HRUN : Hid (Runs [] (rs ++ [⟨x, 0, 0⟩, ⟨16, y, 2⟩]) (L.take (i + n1))) := hide (by rw [HY.out]; exact run_rep HRU.out (by omega) (by omega) (by have := HLM.out; omega) (by omega) (fun j hj => HJ.out j (by omega)))
              clear hn1 hf1 hg1 hrv
              go_wp2_with (at_builtin; refine wpList_append_run rfl _ _ 87 rfl hap rfl rfl ?_)
              go_roundg (m + 1 - (i + n1))
              case measure => have := HGK.out; omega
              case rel =>
                obtain ⟨r1, r2, r3⟩ := HR.out
                exact ⟨i + n1, _, g1, rfl, by omega, by go_num, HRUN.out, r1, r2, r3⟩
            · have d3 : decide ((4 : Int) ≤ (k : Int)) = false := by simp; omega
              have hkk : 1 ≤ k := HK1.out
              obtain ⟨v1, w1, g1, hap, hn1, hf1, hg1⟩ := hrv.push [⟨x, 0, 0⟩] #[.int .i64 (x : Int), .int .i64 0, .int .i64 0] (by simp [rnsC, rnC]) (by simp) (by have := HRL.out; simp; omega)
              have HR : Hid (RnAt w1 v1 g1 (rs ++ [⟨x, 0, 0⟩]) ∧ (∀ b, g1 = some b → w.heap.size ≤ b) ∧ Fr [] w w1) := hide ⟨hn1, fun b hb => by
                rcases hg1 with h | ⟨b2, h, h2⟩
                · exact HG.out b (h ▸ hb)
                · rw [h] at hb; injection hb with hb; have := HFV.out.size; omega, HFV.out.andThen hf1 (fun b hb => .inr (HG.out b (by simpa using hb)))⟩
              have HRUN : Hid (Runs [] (rs ++ [⟨x, 0, 0⟩]) (L.take (i + 1))) := hide (run_lit HRU.out (by have := HLM.out; omega) (by have := HJ.out 0 (by omega); rwa [Nat.add_zero] at this) (by omega))
              clear hn1 hf1 hg1 hrv
              go_wp2_with (at_builtin; refine wpList_append_run rfl _ _ 87 rfl hap rfl rfl ?_)
              go_roundg (m + 1 - (i + 1))
              case measure => have := HGK.out; omega
              case rel =>
                obtain ⟨r1, r2, r3⟩ := HR.out
                exact ⟨i + 1, _, g1, rfl, by omega, by go_num, HRUN.out, r1, r2, r3⟩
    · have HE : Hid (i = m) := hide (by omega)
      clear hgk hru hrn hg hf
      go_wp2
      go_ret
      have := HRU.out
      rw [List.take_of_length_le (by have := HE.out; have := HLM.out; omega)] at this
      exact ⟨_, g, rs, rfl, HRN.out, HG.out, this, HFW.out⟩
end Go.Proofs.YthmhcnnigepohaaGreatDoor.En
