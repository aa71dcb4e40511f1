/- The reference's pool of layer 54: Set. -/
import Derived.Test.YtnghfmefjjkgdaaRvic
namespace Go.Proofs.Ytnghfmefjjkgdaa
open Go.RowKit

theorem oth_snoc (o : Int) (x : Int × (Int × Int)) (L : AM) : oth (L ++ [x]) o = if x.1 = o then oth L o else oth L o ++ [x] := by
  unfold oth
  rw [List.filter_append]
  by_cases h : x.1 = o <;> simp [h]
theorem oth_take_len (o : Int) (L : AM) (k : Nat) : (oth (L.take k) o).length ≤ L.length := Nat.le_trans (oth_len _ _) (by simp; omega)

def newL (L : AM) (o n v : Int) : AM := if 0 < n then oth L o ++ [(o, (n, v))] else oth L o
theorem newL_small {L : AM} {o n v : Int} (h : Small L) (h8 : L.length ≤ 800) (hn : 0 ≤ n ∧ n ≤ 1073741824) : Small (newL L o n v) := by
  have hl := oth_len L o
  unfold newL
  split
  · refine ⟨fun x hx => ?_, by rw [List.length_append]; simp; omega⟩
    rcases List.mem_append.1 hx with h1 | h1
    · exact h.acc x (List.mem_filter.1 h1).1
    · simp at h1
      subst h1
      dsimp only
      omega
  · exact ⟨fun x hx => h.acc x (List.mem_filter.1 hx).1, by omega⟩

def RSetPost (p : Pl) (o n v : Int) (rp : Nat) (g : Option Nat) (w : World) (e : Ending) (w' : World) : Prop :=
  ∃ v' g', e = .returned (.tuple #[]) ∧ RPoolIs w' rp v' g' (rsetPl p o n v) ∧ Fr [rp] w w' ∧ ∀ b, g' = some b → g = some b ∨ w.heap.size ≤ b

set_option maxRecDepth 100000 in
set_option maxHeartbeats 1000000 in
theorem rset_any (rp : Nat) (rv : Value) (g : Option Nat) (p : Pl) (o n v : Int) (w : World) (h : RPoolIs w rp rv g p) (hs : Small p.M) (h8 : p.M.length ≤ 800) (ht : 1024 ≤ p.total ∧ p.total ≤ 1073741824) :
    Calls Try.prog 25 #[.pointer (some ⟨rp, 0, none⟩), .int .i64 o, .int .i64 n, .int .i64 v] w (RSetPost p o n v rp g w) := by
  by_cases hbad : o < 1 ∨ n < 0 ∨ 1073741824 < n ∨ v < 0 ∨ 3 < v
  · have hs : rsetPl p o n v = p := by unfold rsetPl setBad; rw [if_pos (decide_eq_true hbad)]
    have HP := hide (show RPoolIs w rp rv g (rsetPl p o n v) by rw [hs]; exact h)
    clear hs h
    go_enter Try.func25, Try.ntmps25
    go_wp2
    all_goals first
      | (exfalso; omega)
      | (refine bodyPost_ret (results_none rfl _ _ _) rfl ?_; exact ⟨rv, g, rfl, HP.out, Fr.refl _ _, fun b hb => .inl hb⟩)
  have hg : 1 ≤ o ∧ (0 ≤ n ∧ n ≤ 1073741824) ∧ 0 ≤ v ∧ v ≤ 3 := by omega
  have hrp := lt_of_blk h.blk
  have c3 : w.cell? ⟨rp, 3, none⟩ = some rv := by rw [cell_blk h.blk]; rfl
  have HP := hide h
  obtain ⟨L, hL⟩ : ∃ L, L = p.M := ⟨_, rfl⟩
  have HS := hide hs
  have HL := hide h.sl
  rw [← hL] at HS HL h8
  have HLL := hide hL
  have HC3 := hide c3
  obtain ⟨av, cv, hv⟩ := HL.out.shape
  have HV := hide hv
  rw [hv] at c3
  clear h hs hbad hL hv
  go_enter Try.func25, Try.ntmps25
  go_wp2_with fail
  go_loopg [8, 9] (L.length + 1) (fun gk vr i wr => ∃ (k : Nat) (gr : Option Nat), gk = L.length + 1 - k ∧ k ≤ L.length ∧ i = .int .i64 k ∧ SlAt 88 3 wr vr gr (oth (L.take k) o).length (flatA (oth (L.take k) o)) ∧ (∀ b, gr = some b → w.heap.size ≤ b) ∧ Fr [] w wr)
  case atStart => exact ⟨0, none, rfl, by omega, rfl, SlAt.nil_ _, by simp, Fr.refl _ _⟩
  case round =>
    obtain ⟨k, gr, hgk, hk, rfl, hsr, hgr, hfr⟩ := hrel
    have HGK := hide hgk
    have HSR := hide hsr
    have HGR := hide hgr
    have HFR := hide hfr
    have c3r : wr.cell? ⟨rp, 3, none⟩ = some (.slice av L.length cv) := by rw [World.cell?_of_block (w := w) (hfr.block _ hrp (by simp))]; exact c3
    have hrpr : rp < wr.heap.size := by have := hfr.size; omega
    have hslr := HL.out.fr hfr (by simp)
    clear hgk hsr hgr hfr
    by_cases hlt : k < L.length
    · obtain ⟨x, hx⟩ : ∃ x, L[k]? = some x := ⟨_, List.getElem?_eq_getElem hlt⟩
      obtain ⟨b, off, cap, hg2, hv2, e0, e1, e2, hb⟩ := hslr.acc hx
      rw [HV.out] at hv2
      injection hv2 with hv21 _ hv23
      subst hv21 hv23
      have HX := hide hx
      have HTK := hide (show L.take (k + 1) = L.take k ++ [x] by rw [List.take_add_one, HX.out]; rfl)
      have HOL := hide (oth_take_len o L k)
      clear hx hg2 hslr
      by_cases hxo : x.1 = o
      · have HXO := hide hxo
        have hbeq : (x.1 == o) = true := by simpa using hxo
        clear hxo
        go_wp2
        go_roundg (L.length + 1 - (k + 1))
        case measure => have := HGK.out; omega
        case rel => exact ⟨k + 1, gr, rfl, by omega, by go_num, by rw [HTK.out, oth_snoc, if_pos HXO.out]; exact HSR.out, HGR.out, HFR.out⟩
      · have HXO := hide hxo
        have hbeq : (x.1 == o) = false := by simpa using hxo
        clear hxo
        have hbs : ∀ W : World, (Instr.buildSlice 82 1 #[(0, .agg #[.int .i64 x.1, .int .i64 x.2.1, .int .i64 x.2.2])]).run Try.prog W = .ok (.slice (some ⟨W.heap.size, 0, none⟩) 1 1) (W.alloc (.cells #[.int .i64 x.1, .int .i64 x.2.1, .int .i64 x.2.2] 88)) := fun W => by kernel_rfl
        obtain ⟨v', w', g', happ, hsl', hfr', hg'⟩ := SlAt.append elem88 (HSR.out.keep (w' := wr.alloc (.cells #[.int .i64 x.1, .int .i64 x.2.1, .int .i64 x.2.2] 88)) (fun b hb => heap_alloc_lt (by obtain ⟨cur, hc⟩ := HSR.out.lt b hb; exact lt_of_blk hc))) 82 ⟨wr.heap.size, 0, none⟩ 1 (#[.int .i64 x.1, .int .i64 x.2.1, .int .i64 x.2.2] : Array Value).toList rfl (fun j u hj => by rw [Addr.add_lit, cell_blk (heap_alloc_eq rfl)]; simpa using hj) (by simp [Value.oneCell']) (by have := HOL.out; omega) (by have := HOL.out; unfold maxLen; omega)
        go_wp2_with (at_builtin; refine wpList_append_run rfl _ _ 82 rfl happ rfl rfl ?_)
        go_roundg (L.length + 1 - (k + 1))
        case measure => have := HGK.out; omega
        case rel =>
          refine ⟨k + 1, g', rfl, by omega, by go_num, ?_, ?_, (HFR.out.alloc _).andThen hfr' (fun x hx => .inr (HGR.out x (by simpa using hx)))⟩
          · rw [HTK.out, oth_snoc, if_neg HXO.out, flatA_snoc, List.length_append]
            exact hsl'
          · intro b2 hb2
            rcases hg' with rfl | ⟨rfl, _⟩
            · exact HGR.out b2 hb2
            · injection hb2 with hb2
              have := HFR.out.size
              have h3 : (wr.alloc (.cells #[.int .i64 x.1, .int .i64 x.2.1, .int .i64 x.2.2] 88)).heap.size = wr.heap.size + 1 := by simp
              omega
    · have hk1 : k = L.length := by omega
      subst hk1
      rw [List.take_length] at HSR
      obtain ⟨L', hL'⟩ : ∃ L', L' = newL L o n v := ⟨_, rfl⟩
      have HS' := hide (by rw [hL']; exact newL_small HS.out h8 hg.2.1 : Small L')
      have HL' := hide hL'
      have HOL := hide (oth_len L o)
      clear hL' hslr
      go_upto_if 60 with (fail)
      go_cut [8] from 9 to 67 (fun vr wd => ∃ gr, SlAt 88 3 wd vr gr L'.length (flatA L') ∧ (∀ b, gr = some b → w.heap.size ≤ b) ∧ Fr [] w wd)
      case first =>
        by_cases hn0 : 0 < n
        · have HN := hide (show L' = oth L o ++ [(o, (n, v))] by rw [HL'.out]; unfold newL; rw [if_pos hn0])
          have hbs : ∀ W : World, (Instr.buildSlice 82 1 #[(0, .agg #[.int .i64 o, .int .i64 n, .int .i64 v])]).run Try.prog W = .ok (.slice (some ⟨W.heap.size, 0, none⟩) 1 1) (W.alloc (.cells #[.int .i64 o, .int .i64 n, .int .i64 v] 88)) := fun W => by kernel_rfl
          obtain ⟨v', w', g', happ, hsl', hfr', hg'⟩ := SlAt.append elem88 (HSR.out.keep (w' := wr.alloc (.cells #[.int .i64 o, .int .i64 n, .int .i64 v] 88)) (fun b hb => heap_alloc_lt (by obtain ⟨cur, hc⟩ := HSR.out.lt b hb; exact lt_of_blk hc))) 82 ⟨wr.heap.size, 0, none⟩ 1 (#[.int .i64 o, .int .i64 n, .int .i64 v] : Array Value).toList rfl (fun j u hj => by rw [Addr.add_lit, cell_blk (heap_alloc_eq rfl)]; simpa using hj) (by simp [Value.oneCell']) (by have := HOL.out; omega) (by have := HOL.out; unfold maxLen; omega)
          go_wp2_with (at_builtin; refine wpList_append_run rfl _ _ 82 rfl happ rfl rfl ?_)
          go_meet
          case rel =>
            refine ⟨g', ?_, ?_, (HFR.out.alloc _).andThen hfr' (fun x hx => .inr (HGR.out x (by simpa using hx)))⟩
            · rw [HN.out, flatA_snoc, List.length_append]
              exact hsl'
            · intro b2 hb2
              rcases hg' with rfl | ⟨rfl, _⟩
              · exact HGR.out b2 hb2
              · injection hb2 with hb2
                have := HFR.out.size
                have h3 : (wr.alloc (.cells #[.int .i64 o, .int .i64 n, .int .i64 v] 88)).heap.size = wr.heap.size + 1 := by simp
                omega
        · have HN := hide (show L' = oth L o by rw [HL'.out]; unfold newL; rw [if_neg hn0])
          go_wp2
          go_meet
          case rel => exact ⟨gr, by rw [HN.out]; exact HSR.out, HGR.out, HFR.out⟩
      case rest =>
      obtain ⟨gr2, hsl2, hgr2, hfr2⟩ := hcut
      obtain ⟨av2, cv2, rfl⟩ := hsl2.shape
      obtain ⟨u, hu⟩ : ∃ u, u = sumN L' := ⟨_, rfl⟩
      have hub := HS'.out.sum L'.length
      rw [List.take_length, ← hu] at hub
      have hbwc := (hfr2.block _ hrp (by simp)).trans HP.out.blk
      have hsz := hfr2.size
      have hW3 : RPoolIs (wc.setCell ⟨rp, 3, none⟩ (.slice av2 L'.length cv2)) rp (.slice av2 L'.length cv2) gr2 { p with used := u, M := L' } := by
        refine ⟨by rw [heap_set, hbwc]; rfl, hsl2.keep (fun b hb => heap_set_other ?_)⟩
        have := hgr2 b hb
        dsimp only
        omega
      have HU := hide (rused_any rp _ gr2 _ _ hW3 HS'.out)
      dsimp only at HU
      rw [← hu] at HU
      have HW3 := hide hW3
      have HF3 := hide (show Fr [rp] w (wc.setCell ⟨rp, 3, none⟩ (.slice av2 L'.length cv2)) from (hfr2.mono (by simp)).setCell (.inl (by simp)) _)
      have HGR2 := hide hgr2
      have c3w : wc.cell? ⟨rp, 3, none⟩ = some rv := by rw [cell_blk hbwc]; rfl
      have f3w : wc.frozen? ⟨rp, 3, none⟩ = false := froz_blk hbwc _
      have hrpc : rp < wc.heap.size := by omega
      have HUU := hide hu
      clear hW3 hgr2 hsl2 hfr2 hbwc hsz hu c3r HSR HGR HFR HGK
      go_wp2_with fail
      generalize wc.setCell ⟨rp, 3, none⟩ (.slice av2 L'.length cv2) = w3 at *
      refine (unhide HU).mono ?_
      rintro e w' ⟨rfl, rfl⟩
      go_wp2_with fail
      go_loopg [11] 7 (fun gk i wr => ∃ k : Nat, gk = 7 - k ∧ k ≤ 6 ∧ i = .int .i64 ((k : Int) + 1) ∧ RPoolIs wr rp (.slice av2 L'.length cv2) gr2 { p with used := u, M := L', off := ticked p.total u p.off k } ∧ Fr [rp] w wr)
      case atStart => exact ⟨0, rfl, by omega, rfl, (by
        have h0 : ticked p.total u p.off 0 = p.off := by funext i; unfold ticked; rw [if_neg (by omega)]
        rw [h0]; exact HW3.out), HF3.out⟩
      case round =>
        obtain ⟨k, hgk, hk, rfl, hp, hf⟩ := hrel
        have HGK := hide hgk
        have HPK := hide hp
        have HFK := hide hf
        clear hgk hf
        by_cases hlt : k < 6
        · obtain ⟨bo, hbo⟩ : ∃ bo, bo = p.off (k + 1) := ⟨_, rfl⟩
          have hoff := hp.offAt (k + 1) (by omega)
          have htk : ticked p.total u p.off k (k + 1) = bo := by unfold ticked; rw [if_neg (by omega), hbo]
          dsimp only at hoff
          rw [htk] at hoff
          have foff : wr.frozen? ⟨rp, 4 + (k + 1), none⟩ = false := froz_blk hp.blk _
          have d0 : wr.cell? ⟨rp, 0, none⟩ = some (.int .i64 p.total) := by rw [cell_blk hp.blk]; rfl
          have HBO := hide hbo
          have HTK := hide htk
          clear htk hp hbo
          obtain ⟨D1, hD1⟩ : ∃ D1, D1 = p.total * (9 + ((k + 1 : Nat) : Int)) / 16 := ⟨_, rfl⟩
          obtain ⟨D2, hD2⟩ : ∃ D2, D2 = p.total * (8 + ((k + 1 : Nat) : Int)) / 16 := ⟨_, rfl⟩
          have hq1 : wrap64 ((wrap64 (p.total * (9 + ((k : Int) + 1)))).tdiv 16) = D1 := by
            rw [hD1]; exact tick_div ht (by omega) (by omega)
          have hq2 : wrap64 ((wrap64 (p.total * (8 + ((k : Int) + 1)))).tdiv 16) = D2 := by
            rw [hD2]; exact tick_div ht (by omega) (by omega)
          have htick : Hid (∀ x, x = (if bo = false ∧ D1 < u then true else if bo = true ∧ u < D2 then false else bo) → ticked p.total u p.off (k + 1) = fun j => if j = k + 1 then x else ticked p.total u p.off k j) := by
            show ∀ x, _ → _
            rintro x rfl
            rw [hD1, hD2, HBO.out]
            exact ticked_succ _ _ _ _
          clear hD1 hD2
          have HT := htick
          clear htick
          have hsize := lt_of_blk HPK.out.blk
          have hst : Hid (∀ x, ticked p.total u p.off (k + 1) = (fun j => if j = k + 1 then x else ticked p.total u p.off k j) → RPoolIs (wr.setCell ⟨rp, 4 + (k + 1), none⟩ (.bool x)) rp (.slice av2 L'.length cv2) gr2 { p with used := u, M := L', off := ticked p.total u p.off (k + 1) } ∧ Fr [rp] w (wr.setCell ⟨rp, 4 + (k + 1), none⟩ (.bool x))) := by
            show ∀ x, _ → _
            intro x hx
            exact ⟨(HPK.out.setOff (k + 1) (by omega) x).ext (by rw [hx]), HFK.out.setCell (.inl (by simp)) _⟩
          have hsame : Hid (ticked p.total u p.off (k + 1) = (fun j => if j = k + 1 then bo else ticked p.total u p.off k j) → RPoolIs wr rp (.slice av2 L'.length cv2) gr2 { p with used := u, M := L', off := ticked p.total u p.off (k + 1) } ∧ Fr [rp] w wr) := by
            show _ → _
            intro hx
            refine ⟨HPK.out.ext ?_, HFK.out⟩
            rw [hx]
            congr 1
            funext j
            by_cases hj : j = k + 1
            · rw [if_pos hj, hj, ← HTK.out]
            · rw [if_neg hj]
          cases bo
          · by_cases hc : D1 < u
            · go_wp2
              go_roundg (7 - (k + 1))
              case measure => have := HGK.out; omega
              case rel => exact ⟨k + 1, rfl, by omega, by go_num, hst.out _ (HT.out true (by simp [hc]))⟩
            · go_wp2
              go_roundg (7 - (k + 1))
              case measure => have := HGK.out; omega
              case rel => exact ⟨k + 1, rfl, by omega, by go_num, hsame.out (HT.out false (by simp [hc]))⟩
          · by_cases hc : u < D2
            · go_wp2
              go_roundg (7 - (k + 1))
              case measure => have := HGK.out; omega
              case rel => exact ⟨k + 1, rfl, by omega, by go_num, hst.out _ (HT.out false (by simp [hc]))⟩
            · go_wp2
              go_roundg (7 - (k + 1))
              case measure => have := HGK.out; omega
              case rel => exact ⟨k + 1, rfl, by omega, by go_num, hsame.out (HT.out true (by simp [hc]))⟩
        · have hk6 : k = 6 := by omega
          subst hk6
          clear hp
          have hblk6 := HPK.out.blk
          have hsize := lt_of_blk hblk6
          have hrs : Hid (rsetPl p o n v = { p with used := u, peak := max p.peak u, off := ticked p.total u p.off 6, M := L' }) := by
            show _ = _
            unfold rsetPl
            have hb : ¬ setBad o n v = true := by unfold setBad; simp only [decide_eq_true_eq]; omega
            rw [if_neg hb, HUU.out, HL'.out, HLL.out]
            rfl
          have e1 : wr.cell? ⟨rp, 1, none⟩ = some (.int .i64 p.peak) := by rw [cell_blk hblk6]; rfl
          have f1 : wr.frozen? ⟨rp, 1, none⟩ = false := froz_blk hblk6 _
          have HB6 := hide hblk6
          clear hblk6
          by_cases hc : p.peak < u
          · go_wp2
            refine bodyPost_end (results_none rfl _ _ _) rfl ?_
            refine ⟨.slice av2 L'.length cv2, gr2, rfl, ?_, HFK.out.setCell (.inl (by simp)) _, fun b hb => .inr (HGR2.out b hb)⟩
            have h1 : RPoolIs (wr.setCell ⟨rp, 1, none⟩ (.int .i64 u)) rp (.slice av2 L'.length cv2) gr2 { p with used := u, peak := max p.peak u, off := ticked p.total u p.off 6, M := L' } := by
              refine ⟨?_, HPK.out.sl.keep (fun b hb => heap_set_other (by exact HPK.out.ne b hb))⟩
              rw [heap_set, HB6.out, show max p.peak u = u by omega]
              rfl
            rw [hrs.out]
            exact h1
          · go_wp2
            refine bodyPost_end (results_none rfl _ _ _) rfl ?_
            refine ⟨.slice av2 L'.length cv2, gr2, rfl, ?_, HFK.out, fun b hb => .inr (HGR2.out b hb)⟩
            rw [hrs.out]
            exact HPK.out.ext (by rw [show max p.peak u = p.peak by omega])
end Go.Proofs.Ytnghfmefjjkgdaa

