/- Codes: in the program. -/
import Derived.Test.YthmhcnnigepohaaGreatDoorM05
import Derived.Laws.MakeOwn
import Derived.Maps.RangeWalk
namespace Go.Proofs.YthmhcnnigepohaaGreatDoor.Hf
open Go.RowKit

theorem elem3 : ElemOk Tryz.prog 77 3 1 8 := ⟨Tryz.underlying77, by
  have h : (Tryz.prog.info? 3).map (fun i => (i.zero.map (fun z => z.cells.size), i.size, i.bytes)) = some (some 1, 1, 8) := by kernel_rfl
  cases hq : Tryz.prog.info? 3 with
  | none => rw [hq] at h; cases h
  | some i =>
    rw [hq] at h
    simp only [Option.map_some, Option.some.injEq, Prod.mk.injEq] at h
    obtain ⟨h1, h2, h3⟩ := h
    cases hz : i.zero with
    | none => rw [hz] at h1; cases h1
    | some z =>
      rw [hz] at h1
      simp only [Option.map_some, Option.some.injEq] at h1
      exact ⟨i, z, rfl, hz, h2, h3, h1⟩, by decide⟩

theorem info3 : (Tryz.prog.info? 3).map (fun i => (i.zero, i.size, i.bytes)) = some (some (.int .i64 0), 1, 8) := by kernel_rfl
/-- 'make([]int, n)'. -/
theorem mk_ints (n : Nat) (hn : n ≤ 1000000) (w : World) : (Instr.makeSlice 77 (.int .i64 n) (.int .i64 n)).run Tryz.prog w = .ok (.slice (some ⟨w.heap.size, 0, none⟩) n n) (w.alloc (.cells (madeCells #[.int .i64 0] n) 3)) := by
  cases hq : Tryz.prog.info? 3 with
  | none => have h := info3; rw [hq] at h; cases h
  | some i =>
    have h := info3
    rw [hq] at h
    simp only [Option.map_some, Option.some.injEq, Prod.mk.injEq] at h
    obtain ⟨h1, h2, h3⟩ := h
    have hr := run_make (P := Tryz.prog) w 77 3 i (.int .i64 0) Tryz.underlying77 hq h1 .i64 .i64 (n : Int) (n : Int) (by omega) (by omega) (by rw [h3]; omega) (by omega)
    rw [h2, show (Value.int .i64 0).cells = #[.int .i64 0] from rfl] at hr
    simpa using hr
theorem made_ar (n : Nat) (w : World) : Ar (w.alloc (.cells (madeCells #[.int .i64 0] n) 3)) w.heap.size 3 n (fun _ => 0) := by
  refine ⟨_, heap_alloc_eq rfl, size_madeCells _ _, fun i hi => ?_⟩
  simp [madeCells, hi, Nat.mod_one]

/-- A row that the run has made and filled. -/
theorem Ar.ints {w : World} {B n : Nat} {g : Nat → Int} (h : Ar w B 3 n g) : IR w (.slice (some ⟨B, 0, none⟩) n n) ((List.range n).map g) := by
  refine ⟨some ⟨B, 0, none⟩, n, by simp, fun i hi => ⟨_, rfl, ?_⟩⟩
  rw [List.length_map, List.length_range] at hi
  rw [Addr.add_lit, Nat.zero_add, h.cell hi]
  simp [List.getD, hi]
theorem IR.nil (w : World) : IR w (.slice none 0 0) [] := ⟨none, 0, rfl, fun i hi => by simp at hi⟩

def codesOf (l : List Int) : List Int := if chk l = 0 ∨ chk l = 1 then (List.range l.length).map (fun i => (code (l.map Int.toNat) i : Int)) else []
/-- A slice of a block that is new. -/
def Nw (w : World) (v : Value) : Prop := ∀ a n c, v = .slice (some a) n c → a.spot = none ∧ w.heap.size ≤ a.block ∧ n ≤ c
theorem Nw.mk {w : World} {b o n c : Nat} (h : w.heap.size ≤ b) (hc : n ≤ c) : Nw w (.slice (some ⟨b, o, none⟩) n c) := fun a n' c' e => by
  injection e with e e2 e3
  injection e with e
  rw [← e, ← e2, ← e3]; exact ⟨rfl, h, hc⟩
theorem Nw.nil (w : World) : Nw w (.slice none 0 0) := fun a n' c' e => by
  injection e with e _ _
  cases e
def IPost (l : List Int) (w : World) (e : Ending) (w' : World) : Prop := ∃ v, e = .returned v ∧ IR w' v l ∧ Fr [] w w' ∧ Nw w v

theorem zI_nat (L : List Nat) : (zI L).map Int.toNat = L := by
  unfold zI
  rw [List.map_map]
  have : (Int.toNat ∘ fun n : Nat => (n : Int)) = id := by funext n; simp
  rw [this, List.map_id]
theorem bad_false {l : List Int} (h : bad l = false) : ∀ i, i < l.length → 0 ≤ l.getD i 0 ∧ l.getD i 0 ≤ 15 := by
  intro i hi
  refine Classical.byContradiction fun hn => ?_
  have := bad_at hi (by omega)
  rw [h] at this
  cases this
/-- What lists are that Check finds complete, or too short. -/
theorem chk_ok {l : List Int} (h : chk l = 0 ∨ chk l = 1) : ∃ L : List Nat, l = zI L ∧ (∀ x ∈ L, x ≤ 15) ∧ L.length ≤ 320 ∧ ks l l.length ≤ 32768 := by
  unfold chk at h
  by_cases h1 : 320 < l.length
  · rw [if_pos h1] at h; omega
  rw [if_neg h1] at h
  cases h2 : bad l with
  | true => rw [h2] at h; simp at h
  | false =>
    rw [h2] at h
    simp only [Bool.false_eq_true, if_false] at h
    obtain ⟨L, h3, h4⟩ := zI_of (bad_false h2)
    refine ⟨L, h3, h4, ?_, ?_⟩
    · have := zI_len L
      rw [← h3] at this
      omega
    · refine Classical.byContradiction fun hn => ?_
      rw [if_pos (by omega)] at h
      omega

theorem field45 (T : Array Value) (w : World) : (Instr.field 130 (.agg T) 1).run Tryz.prog w = .ok (.agg (T.extract 16 32)) w := by kernel_rfl
def fcells (L : List Nat) : Array Value := ((List.range 16).map (fun i => Value.int .i64 (fst L i : Int))).toArray
theorem tab_first (L : List Nat) : (tab L).extract 16 32 = fcells L := by
  refine Array.ext (by simp [tab, fcells]) fun i h1 h2 => ?_
  have hi : i < 16 := by simpa [fcells] using h2
  simp only [tab, fcells, Array.getElem_extract, List.getElem_toArray, List.getElem_map, List.getElem_range, tg]
  rw [if_neg (by omega), show 16 + i - 16 = i by omega]

abbrev Z16 : Array Value := #[.int .i64 0, .int .i64 0, .int .i64 0, .int .i64 0, .int .i64 0, .int .i64 0, .int .i64 0, .int .i64 0, .int .i64 0, .int .i64 0, .int .i64 0, .int .i64 0, .int .i64 0, .int .i64 0, .int .i64 0, .int .i64 0]
theorem zero43 : ∀ W, (zeroValue 128).run Tryz.prog W = .ok (.agg Z16) W := fun _ => by kernel_rfl
def nx (L : List Nat) (k m : Nat) : Int := (fst L m : Int) + if m = 0 then 0 else (pre L m k : Int)

theorem nx_succ {L : List Nat} {k : Nat} (hk : k < L.length) (m : Nat) : nx L (k + 1) m = if m = L.getD k 0 ∧ 0 < m then nx L k m + 1 else nx L k m := by
  unfold nx pre
  rw [take_get hk]
  obtain ⟨y, hy⟩ : ∃ y, y = L.getD k 0 := ⟨_, rfl⟩
  rw [← hy]
  by_cases h0 : m = 0
  · rw [if_pos h0, if_pos h0, if_neg (by omega)]
  · rw [if_neg h0, if_neg h0, List.count_append, List.count_singleton]
    by_cases he : m = y
    · subst he
      have h1 : m = m ∧ 0 < m := ⟨rfl, by omega⟩
      rw [if_pos h1, if_pos (by simp)]
      omega
    · have h1 : ¬ (m = y ∧ 0 < m) := fun h => he h.1
      have h2 : ¬ (y == m) = true := by simp; omega
      rw [if_neg h1, if_neg h2]
      omega
theorem nx_bd {L : List Nat} (hL : ∀ x ∈ L, x ≤ 15) {k m : Nat} (hm : m ≤ 15) : 0 ≤ nx L k m ∧ nx L k m ≤ L.length * 16385 := by
  have h1 := fst_le hL m hm
  have h2 : pre L m k ≤ L.length := by
    unfold pre
    have := List.count_le_length (a := m) (l := L.take k)
    simp at this
    omega
  unfold nx
  split <;> omega
theorem code_nx (L : List Nat) (k : Nat) : (code L k : Int) = if L.getD k 0 = 0 then 0 else nx L k (L.getD k 0) := by
  unfold code nx
  by_cases h : L.getD k 0 = 0
  · rw [if_pos h, if_pos h]; rfl
  · rw [if_neg h, if_neg h, if_neg h]; omega

set_option maxRecDepth 100000 in
set_option maxHeartbeats 2000000 in
theorem codes14_any (v : Value) (l : List Int) (w : World) (h : IR w v l) (hl : l.length ≤ 1000) :
    Calls Tryz.prog 38 #[v] w (IPost (codesOf l) w) := by
  have HI := hide h
  have HCHK := hide (check11_any v l w h (by omega))
  obtain ⟨c, hc⟩ : ∃ c, c = chk l := ⟨_, rfl⟩
  rw [← hc] at HCHK
  by_cases hok : c = 0 ∨ c = 1
  · obtain ⟨L, rfl, hL, hlen, hks⟩ := chk_ok (by rw [← hc]; exact hok)
    have HTO := hide (tableOf25_any v L w h hL (by omega))
    have hco : codesOf (zI L) = (List.range L.length).map (fun i => (code L i : Int)) := by
      unfold codesOf
      rw [if_pos (by rw [← hc]; exact hok), zI_nat, zI_len]
    rw [hco]
    obtain ⟨a, cap, rfl, _⟩ := h
    rw [zI_len] at HI HCHK HTO ⊢
    obtain ⟨n, hn⟩ : ∃ n, n = L.length := ⟨_, rfl⟩
    have HC : Hid (∀ (k : Nat) (W : World), k < n → Fr [] w W → ∃ x, a = some x ∧ W.cell? (x.add k) = some (.int .i64 (L.getD k 0 : Nat))) := by
      show ∀ (k : Nat) (W : World), _ → _ → _
      intro k W hk hW
      obtain ⟨b0, c0', e0, g0⟩ := HI.out.fr hW
      injection e0 with e0 _ _
      obtain ⟨x, hx, hx2⟩ := g0 k (by rw [zI_len]; omega)
      rw [zI_get] at hx2
      exact ⟨x, by rw [e0, hx], hx2⟩
    rw [← hn] at hlen HI HCHK HTO ⊢
    have HN := hide hn
    have HL : Hid (∀ k, k < n → L.getD k 0 ≤ 15) := by
      show ∀ k, _ → _
      intro k hk
      have e : L.getD k 0 = L[k] := by simp [List.getD, List.getElem?_eq_getElem (show k < L.length by omega)]
      rw [e]; exact hL _ (List.getElem_mem _)
    have HLL := hide hL
    obtain ⟨T, hT⟩ : ∃ T, T = tab L := ⟨_, rfl⟩
    obtain ⟨F, hF⟩ : ∃ F, F = fcells L := ⟨_, rfl⟩
    rw [← hT] at HTO
    have hfd := fun w => field45 T w
    rw [hT, tab_first, ← hF, ← hT] at hfd
    have hmk := fun w => mk_ints n (by omega) w
    have hFs : F.size = 16 := by rw [hF]; simp [fcells]
    have HFG : Hid (∀ (W : World) (B : Nat), W.heap[B]? = some (.cells F 128 (0, 0)) → Ar W B 128 16 (nx L 0)) := by
      show ∀ (W : World) (B : Nat), _ → _
      intro W B hW
      refine ⟨F, hW, hFs, fun i hi => ?_⟩
      rw [hF]
      simp [fcells, hi, nx, pre]
    have hone : F.toList.all (·.oneCell') = true := by rw [hF]; simp [fcells, Value.oneCell']
    have hinfo : (Tryz.prog.info? 128).map (·.size) = some F.size := by rw [hFs]; kernel_rfl
    have HONE := hide hone
    have HCC := hide hc
    have HFS : Hid (Z16.size = F.size) := by show _ = _; rw [hFs]; rfl
    have HINFO := hide hinfo
    clear hn HI hL hT hF hone hinfo hks hco hc hFs
    go_enter Tryz.func38, Tryz.ntmps38
    rcases hok with rfl | rfl
    all_goals
      go_wp2_with fail
      refine (unhide HCHK).mono ?_
      rintro e w1 ⟨rfl, rfl⟩
      go_wp2_with fail
      refine (unhide HTO).mono ?_
      rintro e w1 ⟨rfl, hf⟩
      have HF1 := hide hf
      clear hf
      go_wp2_with (first | ((with_reducible refine wpList_var' rfl rfl 128 4 18 rfl rfl rfl rfl Z16 F zero43 ?_ ?_ ?_ ?_ ?_ ?_ ?_); decide; exact of_decide_eq_true rfl; exact HINFO.out; exact HFS.out; exact HONE.out; rfl; go_frame))
      obtain ⟨N, hN⟩ : ∃ N, N = w1.heap.size := ⟨_, rfl⟩
      have HA0 : Hid (Ar ((w1.alloc (.cells F 128)).alloc (.cells (madeCells #[.int .i64 0] n) 3)) N 128 16 (nx L 0)) := HFG.out _ _ (by rw [hN, heap_alloc_lt (by simp)]; exact heap_alloc_eq rfl)
      have HO0 : Hid (Ar ((w1.alloc (.cells F 128)).alloc (.cells (madeCells #[.int .i64 0] n) 3)) (N + 1) 3 n (fun _ => 0)) := by
        have h1 := made_ar n (w1.alloc (.cells F 128))
        rw [show (w1.alloc (.cells F 128)).heap.size = N + 1 by rw [hN]; simp] at h1
        exact hide h1
      have HF0 := hide ((HF1.out.alloc (.cells F 128)).alloc (.cells (madeCells #[.int .i64 0] n) 3))
      have HNW : Hid (w.heap.size ≤ N) := hide (by rw [hN]; exact HF1.out.size)
      rw [← hN]
      clear hN hfd hmk
      generalize (w1.alloc (.cells F 128)).alloc (.cells (madeCells #[.int .i64 0] n) 3) = w2 at *
      go_loopg [24] (n + 1) (fun gk i wr => ∃ (k : Nat), gk = n + 1 - k ∧ k ≤ n ∧ i = .int .i64 k ∧ Ar wr N 128 16 (nx L k) ∧ Ar wr (N + 1) 3 n (fun i => if i < k then (code L i : Int) else 0) ∧ Fr [] w wr)
      case atStart => exact ⟨0, rfl, by omega, rfl, HA0.out, HO0.out.ext (fun i _ => by simp), HF0.out⟩
      case round =>
        obtain ⟨k, hgk, hk, rfl, ha, ho, hf⟩ := hrel
        have HGK := hide hgk
        have HA := hide ha
        have HO := hide ho
        have HF := hide hf
        clear hgk
        by_cases hlt : k < n
        · obtain ⟨x, rfl, hx⟩ := HC.out k wr hlt hf
          have hxb := World.block_lt_of_cell? wr _ hx
          have hy15 := HL.out k hlt
          obtain ⟨y, hy⟩ : ∃ y, y = L.getD k 0 := ⟨_, rfl⟩
          have HTG := hide (nx_succ (L := L) (k := k) (by have := HN.out; omega))
          have HCO := hide (code_nx L k)
          rw [← hy] at hx hy15 HCO
          simp only [← hy] at HTG
          clear hy
          by_cases hp : 0 < y
          · have hc := ha.cell (i := y) (by omega)
            have hfz := ha.froz y
            have hoc := ho.cell (i := k) hlt
            have hofz := ho.froz k
            have hBl := ha.lt
            have hOl := ho.lt
            have hcb := nx_bd (k := k) HLL.out hy15
            have hn3 := HN.out
            obtain ⟨c, hcd⟩ : ∃ c, c = nx L k y := ⟨_, rfl⟩
            rw [← hcd] at hc hcb
            have HCD := hide hcd
            have hcb2 : 0 ≤ c ∧ c ≤ 10000000 := by omega
            have b0 : (0 : Int) ≤ (y : Int) ∧ (y : Int) < 16 := by omega
            have b1 : (0 : Int) ≤ (k : Int) ∧ (k : Int) < (n : Int) := by omega
            have hp2 : (0 : Int) < (y : Int) := by omega
            clear hcd ha hf ho hn3 hcb
            go_wp2_with fail
            go_roundg (n + 1 - (k + 1))
            case measure => have := HGK.out; omega
            case rel =>
              refine ⟨k + 1, rfl, by omega, by go_num, ?_, ?_, (HF.out.setCell (.inr (by have := HNW.out; simp; omega)) _).setCell (.inr (by have := HNW.out; simp; omega)) _⟩
              · refine (Ar.set (m := y) (HA.out.keep (heap_set_other (by simp))) (by omega) (c + 1)).ext fun i hi => ?_
                rw [HTG.out i, HCD.out]
                by_cases he : i = y
                · subst he
                  have h1 : i = i ∧ 0 < i := ⟨rfl, hp⟩
                  rw [if_pos h1]; simp only [if_true]
                · have h1 : ¬ (i = y ∧ 0 < i) := fun h => he h.1
                  rw [if_neg h1]; simp only [if_neg he]
              · refine Ar.keep (w := wr.setCell ⟨N + 1, k, none⟩ (.int .i64 c)) (Ar.ext (HO.out.set (m := k) hlt c) fun i hi => ?_) (heap_set_other (by simp))
                by_cases he : i = k
                · subst he
                  simp only [if_true]
                  rw [if_pos (by omega), HCO.out, if_neg (by omega), HCD.out]
                · simp only [if_neg he]
                  by_cases h1 : i < k
                  · rw [if_pos h1, if_pos (by omega)]
                  · rw [if_neg h1, if_neg (by omega)]
          · obtain rfl : y = 0 := by omega
            clear ha hf ho
            go_wp2_with fail
            go_roundg (n + 1 - (k + 1))
            case measure => have := HGK.out; omega
            case rel =>
              refine ⟨k + 1, rfl, by omega, by go_num, HA.out.ext fun i hi => ?_, HO.out.ext fun i hi => ?_, HF.out⟩
              · have h1 : ¬ (i = 0 ∧ 0 < i) := by omega
                rw [HTG.out i, if_neg h1]
              · by_cases he : i = k
                · subst he
                  rw [if_neg (by omega), if_pos (by omega), HCO.out]; simp
                · by_cases h1 : i < k
                  · rw [if_pos h1, if_pos (by omega)]
                  · rw [if_neg h1, if_neg (by omega)]
        · obtain rfl : k = n := by omega
          have HRES : Hid (IR wr (.slice (some ⟨N + 1, 0, none⟩) k k) ((List.range k).map (fun i => (code L i : Int)))) := hide ((ho.ext (fun i hi => by rw [if_pos hi])).ints)
          clear ha ho hf
          go_wp2
          go_ret
          exact ⟨_, rfl, HRES.out, HF.out, Nw.mk (by have := HNW.out; omega) (Nat.le_refl _)⟩
  · have hco : codesOf l = [] := by unfold codesOf; rw [if_neg (by rw [← hc]; exact hok)]
    rw [hco]
    obtain ⟨a, cap, rfl, _⟩ := h
    have d1 : (c != 0) = true := by simp; omega
    have d2 : (c != 1) = true := by simp; omega
    clear hc hco hok
    go_enter Tryz.func38, Tryz.ntmps38
    go_wp2_with fail
    refine (unhide HCHK).mono ?_
    rintro e w1 ⟨rfl, rfl⟩
    go_wp2
    go_ret
    exact ⟨_, rfl, IR.nil _, Fr.refl _ _, Nw.nil _⟩
end Go.Proofs.YthmhcnnigepohaaGreatDoor.Hf
