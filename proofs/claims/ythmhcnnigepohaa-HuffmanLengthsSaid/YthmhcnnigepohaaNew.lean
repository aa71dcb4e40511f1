/- NewDecoder: in the program. -/
import Derived.Test.YthmhcnnigepohaaDec
namespace Go.Proofs.Ythmhcnnigepohaa
open Go.RowKit

def stt (L : List Nat) (i : Nat) : Int := if i = 0 then 0 else ((sys L (i - 1)).length : Int)
/-- The starts of lengths below n. -/
def stn (L : List Nat) (n i : Nat) : Int := if i < n then stt L i else 0
theorem lgk_zero (L : List Nat) (n : Nat) : lgk L n 0 = lgs L (n - 1) := by
  unfold lgk pre
  simp
theorem lgk_succ {L : List Nat} {n k : Nat} (hk : k < L.length) : lgk L n (k + 1) = if L.getD k 0 = n then n else lgk L n k := by
  unfold lgk pre
  rw [take_get hk, List.count_append, List.count_singleton]
  by_cases h : L.getD k 0 = n
  · have h2 : (L.getD k 0 == n) = true := by simpa using h
    rw [if_pos h, if_pos h2, if_neg (by omega)]
  · have h2 : ¬ (L.getD k 0 == n) = true := by simpa using h
    rw [if_neg h, if_neg h2]; simp
theorem lgk_all (L : List Nat) (n : Nat) (hn : 0 < n) : lgk L n L.length = lgs L n := by
  obtain ⟨m, rfl⟩ : ∃ m, n = m + 1 := ⟨n - 1, by omega⟩
  unfold lgk
  rw [lgs]
  have h : pre L (m + 1) L.length = cnt L (m + 1) := by
    unfold pre cnt
    rw [List.take_length, if_neg (by omega)]
  rw [h]
  simp

def NPost (L : List Nat) (w : World) (e : Ending) (w' : World) : Prop :=
  ∃ D g sv, e = .returned (.tuple #[.pointer (some ⟨D, 0, none⟩), .int .i64 0]) ∧ w.heap.size ≤ D ∧ DB w' D L (stt L) (lgs L 15) 0 0 sv ∧ NAt w' sv g (sys L 15) ∧ (∀ b, g = some b → w.heap.size ≤ b ∧ b ≠ D) ∧ Fr [] w w'

set_option maxRecDepth 100000 in
set_option maxHeartbeats 2000000 in
theorem newdec20_bad (v : Value) (l : List Int) (w : World) (h : IR w v l) (hl : l.length ≤ 1000) (hc : chk l ≠ 0) :
    Calls Try.prog 20 #[v] w fun e w' => e = .returned (.tuple #[.pointer none, .int .i64 (chk l)]) ∧ w = w' := by
  have HCHK := hide (check11_any v l w h (by omega))
  obtain ⟨c, hcc⟩ : ∃ c, c = chk l := ⟨_, rfl⟩
  rw [← hcc] at HCHK hc ⊢
  obtain ⟨a, cap, rfl, _⟩ := h
  have d1 : (c != 0) = true := by simpa using hc
  clear hcc hc
  go_enter Try.func20, Try.ntmps20
  go_wp2_with fail
  refine (unhide HCHK).mono ?_
  rintro e w1 ⟨rfl, rfl⟩
  go_wp2
  go_ret2
  exact ⟨rfl, rfl⟩

set_option maxRecDepth 100000 in
set_option maxHeartbeats 2000000 in
theorem newdec20_any (v : Value) (L : List Nat) (w : World) (h : IR w v (zI L)) (hL : ∀ x ∈ L, x ≤ 15) (hl : L.length ≤ 320) (hok : chk (zI L) = 0) :
    Calls Try.prog 20 #[v] w (NPost L w) := by
  have HI := hide h
  have hck := check11_any v (zI L) w h (by rw [zI_len]; omega)
  rw [hok] at hck
  have HCHK := hide hck
  have HTO := hide (tableOf25_any v L w h hL (by omega))
  obtain ⟨a, cap, rfl, _⟩ := h
  rw [zI_len] at HI HCHK HTO ⊢
  obtain ⟨n, hn⟩ : ∃ n, n = L.length := ⟨_, rfl⟩
  have HC : Hid (∀ (k : Nat) (W : World), k < n → Fr [] w W → ∃ x, a = some x ∧ W.cell? (x.add k) = some (.int .i64 (L.getD k 0 : Nat))) := by
    show ∀ (k : Nat) (W : World), _ → _ → _
    intro k W hk hW
    obtain ⟨b0, c0', e0, g0⟩ := HI.out.fr hW
    injection e0 with e0 _ _
    obtain ⟨x, hx, hx2⟩ := g0 k (by rw [zI_len]; omega)
    rw [zI_get] at hx2
    exact ⟨x, by rw [e0, hx], hx2⟩
  rw [← hn] at hl HI HCHK HTO ⊢
  have HN := hide hn
  obtain ⟨T, hT⟩ : ∃ T, T = tab L := ⟨_, rfl⟩
  obtain ⟨C, hC⟩ : ∃ C, C = dcells L := ⟨_, rfl⟩
  rw [← hT] at HTO
  have hbd := fun w => build_tab L w
  rw [← hT, ← hC] at hbd
  have HDN : Hid (∀ W : World, DB (W.alloc (.cells C 62)) W.heap.size L (fun _ => 0) 0 0 0 (.slice none 0 0)) := by
    show ∀ W : World, _
    intro W
    rw [hC]
    exact DB.new W L
  clear hn HI hT hC hck hok
  go_enter Try.func20, Try.ntmps20
  go_wp2_with fail
  refine (unhide HCHK).mono ?_
  rintro e w1 ⟨rfl, rfl⟩
  go_wp2_with (first | (go_at_call 25; refine (unhide HTO).mono ?_; rintro e w1 ⟨rfl, hf⟩; have HF1 := hide hf; clear hf) | ((with_reducible refine wpList_build_run rfl 62 0 (.tmp 15) rfl (.agg T) (.agg C) ?_ (hbd _) ?_); rfl))
  obtain ⟨D, hD⟩ : ∃ D, D = w1.heap.size := ⟨_, rfl⟩
  have HD0 := hide (HDN.out w1)
  have HFD := hide (HF1.out.alloc (.cells C 62))
  have HDW : Hid (w.heap.size ≤ D) := hide (by rw [hD]; exact HF1.out.size)
  rw [← hD] at HD0 ⊢
  clear hD hbd
  generalize w1.alloc (.cells C 62) = w2 at *
  go_loopg [6] 16 (fun gk i wr => ∃ (m : Nat) (g : Option Nat) (sv : Value), gk = 17 - m ∧ 1 ≤ m ∧ m ≤ 16 ∧ i = .int .i64 m ∧ DB wr D L (stn L m) (lgs L (m - 1)) 0 0 sv ∧ NAt wr sv g (sys L (m - 1)) ∧ (∀ b, g = some b → w.heap.size ≤ b ∧ b ≠ D) ∧ Fr [] w wr)
  case atStart => exact ⟨1, none, .slice none 0 0, rfl, by omega, by omega, rfl, HD0.out.ext (fun i _ => by unfold stn stt; split <;> rename_i h1; rw [if_pos (by omega)]; rfl), SlAt.nil_ _, by simp, HFD.out⟩
  case round =>
    obtain ⟨m, g, sv, hgm, hm1, hm, rfl, hd, hs, hg, hf⟩ := hrel
    have HGM := hide hgm
    have HD := hide hd
    have HS := hide hs
    have HG := hide hg
    have HF := hide hf
    by_cases hlt : m < 16
    · obtain ⟨av, cv, hv⟩ := SlAt.shape hs
      obtain ⟨q, hq⟩ : ∃ q, q = (sys L (m - 1)).length := ⟨_, rfl⟩
      rw [← hq] at hv
      have HQ := hide hq
      have hc32 := hd.gsym
      have hcst := hd.gst (i := m) hlt
      have hfst := hd.froz (33 + m)
      have hDl := hd.lt
      have hql : q ≤ 4800 := by
        have := sys_le L (m - 1)
        have h2 : (m - 1) * L.length ≤ 15 * L.length := Nat.mul_le_mul_right _ (by omega)
        have := HN.out
        omega
      subst hv
      have b1 : (0 : Int) ≤ (m : Int) ∧ (m : Int) < 16 := by omega
      clear hgm hd hs hg hf hq
      have hk0 : ∀ u, (wr.setCell ⟨D, 33 + m, none⟩ u).cell? ⟨D, 32, none⟩ = some (.slice av q cv) := fun u => by rw [cell_set_ne (by omega)]; exact hc32
      go_upto_region 8 with (fail)
      go_region_held3 (fun W => W.cell? ⟨D, 32, none⟩ = some (.slice av q cv)) (go_keep) (fail)
      have HD1 : Hid (DB ((wr.setCell ⟨D, 33 + m, none⟩ (.int .i64 q)).drew) D L (stn L (m + 1)) (lgs L (m - 1)) 0 0 (.slice av q cv)) := hide ((DB.ext (HD.out.setSt hlt q) (fun i hi => by
        unfold stn stt
        by_cases he : i = m
        · subst he
          simp only [if_true]
          have h0 : ¬ i = 0 := by omega
          have h1 : i < i + 1 := by omega
          rw [if_pos h1, if_neg h0, HQ.out]
        · simp only [if_neg he]
          by_cases h1 : i < m
          · rw [if_pos h1, if_pos (show i < m + 1 by omega)]
          · rw [if_neg h1, if_neg (show ¬ i < m + 1 by omega)])).keep rfl)
      have HF1' := hide ((HF.out.setCell (p := ⟨D, 33 + m, none⟩) (.inr (by have := HDW.out; simp; omega)) (.int .i64 q)).drew)
      have HS1 : Hid (NAt ((wr.setCell ⟨D, 33 + m, none⟩ (.int .i64 q)).drew) (.slice av q cv) g (sys L (m - 1))) := hide (SlAt.fr HS.out (((Fr.refl [D] wr).setCell (.inl (by simp)) _).drew) (fun b hb => by have := (HG.out b hb).2; simpa using this))
      clear hk0 hc32 hcst hfst hDl
      obtain ⟨wo, hwo⟩ : ∃ wo, wo = (wr.setCell ⟨D, 33 + m, none⟩ (.int .i64 q)).drew := ⟨_, rfl⟩
      rw [← hwo] at HD1 HF1' HS1 ⊢
      clear hwo
      have hds : decide ((m : Int) ≤ 15) = true := by simp; omega
      go_wp2_with fail
      go_loopg [34] (n + 1) (fun gk i wr => ∃ (k : Nat) (g : Option Nat) (sv : Value), gk = n + 1 - k ∧ k ≤ n ∧ i = .int .i64 k ∧ DB wr D L (stn L (m + 1)) (lgk L m k) 0 0 sv ∧ NAt wr sv g (sys L (m - 1) ++ syk L m k) ∧ (∀ b, g = some b → w.heap.size ≤ b ∧ b ≠ D) ∧ Fr [] w wr)
      case atStart => exact ⟨0, g, _, rfl, by omega, rfl, by rw [lgk_zero]; exact HD1.out, by rw [syk_zero, List.append_nil]; exact HS1.out, HG.out, HF1'.out⟩
      case round =>
        obtain ⟨k, g, sv, hgk, hk, rfl, hd, hs, hg, hf⟩ := hrel
        have HGK := hide hgk
        have HD := hide hd
        have HS := hide hs
        have HG := hide hg
        have HF := hide hf
        by_cases hlt2 : k < n
        · obtain ⟨ad, rfl, hx⟩ := HC.out k wr hlt2 hf
          have hadb := World.block_lt_of_cell? wr _ hx
          obtain ⟨y, hy⟩ : ∃ y, y = L.getD k 0 := ⟨_, rfl⟩
          have HSY := hide (syk_succ L m k)
          have HLG := hide (lgk_succ (L := L) (n := m) (k := k) (by have := HN.out; omega))
          rw [← hy] at hx HSY HLG
          clear hy
          by_cases he : y = m
          · subst he
            rw [if_pos rfl] at HSY HLG
            obtain ⟨av, cv, hv⟩ := SlAt.shape hs
            obtain ⟨q, hq⟩ : ∃ q, q = (sys L (y - 1) ++ syk L y k).length := ⟨_, rfl⟩
            have hql : (sys L (y - 1) ++ syk L y k).length ≤ 1000000 := by
              have h1 := sys_le L (y - 1)
              have h2 : (y - 1) * L.length ≤ 15 * L.length := Nat.mul_le_mul_right _ (by omega)
              have h3 := List.length_filter_le (fun i => L.getD i 0 == y) (List.range k)
              rw [List.length_range] at h3
              have := HN.out
              rw [List.length_append]
              unfold syk
              omega
            obtain ⟨v', w', g', happ, hs', hf', hg'⟩ := hs.push k hql
            rw [← hq] at hv
            obtain ⟨av2, cv2, hv2⟩ := SlAt.shape hs'
            obtain ⟨q2, hq2⟩ : ∃ q2, q2 = (sys L (y - 1) ++ syk L y k ++ [k]).length := ⟨_, rfl⟩
            rw [← hq2] at hv2
            rw [hv, hv2] at happ
            rw [hv2] at hs'
            have hc32 := hd.gsym
            rw [hv] at hc32
            have hDg : D ∉ g.toList := fun hm => (hg D (by simpa using hm)).2 rfl
            have hd' := hd.fr hf' hDg
            have hc32' := hd'.gsym
            have hf32' := hd'.froz 32
            have hc49' := hd'.glg
            have hf49' := hd'.froz 49
            have hDl := hd.lt
            have hDl' := hd'.lt
            have HD' := hide hd'
            have HS' := hide hs'
            have HF' := hide (HF.out.andThen hf' (fun z hz => .inr (HG.out z (by simpa using hz)).1))
            have HG' : Hid (∀ b, g' = some b → w.heap.size ≤ b ∧ b ≠ D) := by
              show ∀ b, _ → _
              intro b hb
              rcases hg' with h1 | ⟨b3, h1, h2⟩
              · exact HG.out b (h1 ▸ hb)
              · rw [h1] at hb
                injection hb with hb
                have := HF.out.size
                exact ⟨by omega, by omega⟩
            subst hv
            clear hgk hd hs hg hf hf' hg' hs' hd' hDg hq hq2 hv2
            go_wp2_with (at_builtin; refine wpList_append_run rfl _ _ 22 rfl happ rfl rfl ?_)
            go_roundg (n + 1 - (k + 1))
            case measure => have := HGK.out; omega
            case rel =>
              refine ⟨k + 1, g', .slice av2 q2 cv2, rfl, by omega, by go_num, ?_, ?_, HG'.out, (HF'.out.setCell (.inr (by have := HDW.out; simp; omega)) _).setCell (.inr (by have := HDW.out; simp; omega)) _⟩
              · rw [HLG.out]
                exact (HD'.out.setSym _).setLg y
              · rw [HSY.out, ← List.append_assoc]
                exact SlAt.fr HS'.out (((Fr.refl [D] w').setCell (.inl (by simp)) _).setCell (.inl (by simp)) _) (fun b hb => by have := (HG'.out b hb).2; simpa using this)
          · rw [if_neg he] at HSY HLG
            have hne : ((y : Int) == (m : Int)) = false := by simp; omega
            clear hgk hd hs hg hf
            go_wp2_with fail
            go_roundg (n + 1 - (k + 1))
            case measure => have := HGK.out; omega
            case rel =>
              refine ⟨k + 1, g, sv, rfl, by omega, by go_num, ?_, ?_, HG.out, HF.out⟩
              · rw [HLG.out]; exact HD.out
              · rw [HSY.out, List.append_nil]; exact HS.out
        · obtain rfl : k = n := by omega
          clear hgk hd hs hg hf
          go_wp2_with fail
          go_roundg (17 - (m + 1))
          case measure => have := HGM.out; omega
          case rel =>
            obtain ⟨j, hj⟩ : ∃ j, m = j + 1 := ⟨m - 1, by omega⟩
            refine ⟨m + 1, g, sv, rfl, by omega, by omega, by go_num, ?_, ?_, HG.out, HF.out⟩
            · have h1 := HD.out
              rw [HN.out, lgk_all L m (by omega)] at h1
              rw [show m + 1 - 1 = m by omega]
              exact h1
            · have h1 := HS.out
              rw [HN.out] at h1
              rw [show m + 1 - 1 = m by omega]
              subst hj
              rw [show j + 1 - 1 = j by omega] at h1
              exact h1
    · obtain rfl : m = 16 := by omega
      have HDE : Hid (DB wr D L (stt L) (lgs L 15) 0 0 sv) := hide (hd.ext (fun i hi => by unfold stn; rw [if_pos hi]))
      clear hgm hd hs hg hf
      go_wp2
      go_ret2
      exact ⟨D, g, sv, rfl, HDW.out, HDE.out, HS.out, HG.out, HF.out⟩
end Go.Proofs.Ythmhcnnigepohaa

