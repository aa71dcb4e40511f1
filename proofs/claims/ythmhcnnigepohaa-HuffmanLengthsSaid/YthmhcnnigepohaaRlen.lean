/- Lengths: in the reference. -/
import Derived.Test.YthmhcnnigepohaaRprs
namespace Go.Proofs.Ythmhcnnigepohaa
open Go.RowKit

theorem packs_packs (A B : List Pk) : packs (packs A ++ B) = packs (A ++ B) := by
  have h : ∀ X Y : List Pk, packs (X ++ Y) = Y.foldl (fun s x => ins x s) (packs X) := fun X Y => by simp [packs]
  rw [h, h, packs_srt_eq (packs_srt A)]
theorem lev_step (L : List Pk) (t : Nat) : lev (packs L) (t + 1) = packs (L ++ pairs (lev (packs L) t)) := packs_packs L _
theorem cnt_of_ar {w : World} {C N : Nat} {p : Pk} {f : Nat → Int} (h : Ar w C 3 N f) (hf : ∀ i, i < N → f i = ((p.s.count i : Nat) : Int)) (ok : Nat → Prop) (hok : ok C) (z : Int) (hz : z = p.w) : Cnt w N ok ⟨z, some ⟨C, 0, none⟩, N, N⟩ p :=
  ⟨C, 0, _, _, hz, rfl, rfl, hok, h.cells_eq, Nat.le_refl _, fun i hi => by simp [hi, hf i hi]⟩

set_option maxRecDepth 100000 in
set_option maxHeartbeats 16000000 in
theorem rlengths19_any (v : Value) (F : List Int) (most : Int) (w : World) (h : IR w v F) (hl : F.length ≤ 1000) :
    Calls Try.prog 19 #[v, .int .i64 most] w (IPost (lensOf F most) w) := by
  have HI := hide h
  obtain ⟨a, cap, rfl, hir⟩ := h
  have hM := lim_m most
  obtain ⟨r, hr⟩ : ∃ r, r = lensOf F most := ⟨_, rfl⟩
  obtain ⟨M, hMd⟩ : ∃ M : Nat, lim most 1 15 = (M : Int) := ⟨(lim most 1 15).toNat, by omega⟩
  rw [hMd] at hM
  have hr2 : r = if 320 < F.length ∨ 2 ^ M < (leavesAt F 0).length then [] else if (leavesAt F 0).length < 2 then (List.range F.length).map (fun i => if 0 < F.getD i 0 then 1 else 0) else (List.range F.length).map (fun i => ((top F (M - 1)).count i : Int)) := by
    rw [hr]
    unfold lensOf
    rw [hMd]
    rfl
  rw [← hr]
  have HR := hide hr2
  have HMD := hide hMd
  obtain ⟨N, hN⟩ : ∃ n, n = F.length := ⟨_, rfl⟩
  have HC : Hid (∀ (k : Nat) (W : World), k < N → Fr [] w W → ∃ x, a = some x ∧ W.cell? (x.add k) = some (.int .i64 (F.getD k 0))) := by
    show ∀ (k : Nat) (W : World), _ → _ → _
    intro k W hk hW
    obtain ⟨b0, c0', e0, g0⟩ := HI.out.fr hW
    injection e0 with e0 _ _
    obtain ⟨x, hx, hx2⟩ := g0 k (by omega)
    exact ⟨x, by rw [e0, hx], hx2⟩
  rw [← hN] at hl ⊢
  have HN := hide hN
  clear HI hir hr hr2 hN hMd
  go_enter Try.func19, Try.ntmps19
  go_upto_region 1 with (fail)
  go_cut [1] from 14 to 16 (fun m wd => m = .int .i64 (M : Int) ∧ wd = w)
  case first =>
    go_wp2
    all_goals
      go_meet
      case rel => exact ⟨by rw [← HMD.out]; unfold lim; congr 1; omega, rfl⟩
  case rest =>
  obtain ⟨rfl, rfl⟩ := hcut
  by_cases hbig : 320 < N
  · have HE : Hid (r = []) := hide (by rw [HR.out, if_pos (.inl (by have := HN.out; omega))])
    go_wp2
    go_ret
    exact ⟨_, rfl, by rw [HE.out]; exact IR.nil _, Fr.refl _ _⟩
  have hmk := fun w => mk_ints N (by omega) w
  obtain ⟨O, hO⟩ : ∃ O, O = wc.heap.size := ⟨_, rfl⟩
  obtain ⟨w2, hw2⟩ : ∃ w2, w2 = wc.alloc (.cells (madeCells #[.int .i64 0] N) 3) := ⟨_, rfl⟩
  have HA2 : Hid (Ar w2 O 3 N (fun _ => 0)) := hide (by rw [hw2, hO]; exact made_ar N wc)
  have HF2 : Hid (Fr [] wc w2) := hide (by rw [hw2]; exact (Fr.refl _ _).alloc _)
  have HOW : Hid (wc.heap.size ≤ O) := hide (by rw [hO]; exact Nat.le_refl _)
  go_wp2_with fail
  rw [← hO, ← hw2]
  clear hO hw2
  obtain ⟨w, rfl⟩ : ∃ x : World, x = wc := ⟨_, rfl⟩
  have hN320 : N ≤ 320 := by omega
  go_loopg [5, 7] (N + 1) (fun gk sv i wr => ∃ (k : Nat) (g : Option Nat) (R : List Rw), gk = N + 1 - k ∧ k ≤ N ∧ i = .int .i64 k ∧ QAt wr sv g R ∧ All2 (Cnt wr N (fun b => b ≠ O)) R (leavesAt (F.take k) 0) ∧ Ar wr O 3 N (fun i => if i < k ∧ 0 < F.getD i 0 then 1 else 0) ∧ (∀ b, g = some b → w.heap.size ≤ b ∧ b ≠ O) ∧ Fr [] w wr ∧ O < wr.heap.size)
  case atStart => exact ⟨0, none, [], rfl, by omega, rfl, SlAt.nil_ _, .nil, HA2.out.ext (fun i _ => by rw [if_neg (by omega)]), by simp, HF2.out, HA2.out.lt⟩
  case round =>
    obtain ⟨k, g, R, hgk, hk, rfl, hp, hsem, ho, hg, hf, hol⟩ := hrel
    have HGK := hide hgk
    have HP := hide hp
    have HSEM := hide hsem
    have HO := hide ho
    have HG := hide hg
    have HF := hide hf
    have hRl : R.length ≤ 320 := by
      have h1 := hsem.len
      have h2 := leaves_len_le (F.take k) 0
      simp at h2
      omega
    by_cases hlt : k < N
    · obtain ⟨x, rfl, hx⟩ := HC.out k wr hlt hf
      have hxb := World.block_lt_of_cell? wr _ hx
      have HLT := hide (leaves_take (F := F) (k := k) (by have := HN.out; omega))
      obtain ⟨y, hy⟩ : ∃ y, y = F.getD k 0 := ⟨_, rfl⟩
      have HY := hide hy
      rw [← hy] at hx HLT
      obtain ⟨q, hq⟩ : ∃ q, q = lim y 0 1048576 := ⟨_, rfl⟩
      have HFQ : Hid (∀ W, Calls Try.prog 27 #[.int .i64 y] W fun e w' => e = .returned (.int .i64 q) ∧ W = w') := hide (fun W => by rw [hq]; exact freq27_any y W)
      have hqb := lim_f y
      rw [← hq] at hqb
      have HQ := hide hq
      clear hy hq
      by_cases hp0 : 0 < y
      · have hq0 : 0 < q := by rw [HQ.out]; unfold lim; omega
        have hqm : q = min y 1048576 := by rw [HQ.out]; unfold lim; omega
        rw [if_pos hp0, ← hqm] at HLT
        obtain ⟨av, cv, hv⟩ := SlAt.shape hp
        obtain ⟨C, hC⟩ : ∃ C, C = wr.heap.size := ⟨_, rfl⟩
        obtain ⟨w4, hw4⟩ : ∃ w4, w4 = wr.alloc (.cells ((madeCells #[.int .i64 0] N).setIfInBounds k (.int .i64 1)) 3) := ⟨_, rfl⟩
        have l4 : C < w4.heap.size := by rw [hw4, hC]; simp
        have hF4 : Fr [] wr w4 := by rw [hw4]; exact (Fr.refl _ _).alloc _
        have hA4 : Ar w4 C 3 N (fun i => if i = k then 1 else 0) := by
          refine ⟨_, by rw [hw4, hC]; exact heap_alloc_eq rfl, by simp [size_madeCells], fun i hi => ?_⟩
          rw [Array.getElem?_setIfInBounds]
          by_cases he : k = i
          · subst he
            simp [size_madeCells, hi]
          · have he2 : ¬ i = k := fun h => he h.symm
            simp [he, he2, madeCells, hi, Nat.mod_one]
        have HA4 := hide hA4
        obtain ⟨x', hxe, c4⟩ := HC.out k w4 hlt (hf.trans hF4)
        injection hxe with hxe
        subst hxe
        have hx4 := World.block_lt_of_cell? w4 _ c4
        rw [← HY.out] at c4
        have HF4 := hide hF4
        have hp1 : QAt w4 _ g R := SlAt.fr hp hF4 (by simp)
        obtain ⟨v', w', g', happ, hp', hf', hg'⟩ := QAt.push hp1 ⟨q, some ⟨C, 0, none⟩, N, N⟩ (by omega)
        rw [hv] at happ
        simp only at happ
        have hgt : ∀ b ∈ g.toList, ∀ cs fr, w4.heap[b]? ≠ some (.cells cs 3 fr) := by
          intro b hb cs fr hc
          obtain ⟨cur, hcur⟩ := SlAt.lt hp1 b (by simpa using hb)
          rw [hcur] at hc
          injection hc with hc
          injection hc with _ hc _
          cases hc
        have HS' : Hid (All2 (Cnt w' N (fun b => b ≠ O)) (R ++ [⟨q, some ⟨C, 0, none⟩, N, N⟩]) (leavesAt (F.take (k + 1)) 0)) := hide (by
          rw [HLT.out]
          refine (hsem.imp fun a p hs => (hs.fr hF4 (by simp)).fr hf' (fun b hb _ => hgt b hb)).append (.cons ?_ .nil)
          refine (cnt_of_ar hA4 (fun i hi => ?_) (fun b => b ≠ O) (by omega) q rfl).fr hf' (fun b hb _ => hgt b hb)
          by_cases he : i = k
          · subst he; simp
          · rw [if_neg he]
            have h2 : ¬ (k == i) = true := by simpa using fun h => he h.symm
            rw [List.count_singleton, if_neg h2]
            rfl)
        have HP' := hide hp'
        have hOg : O ∉ g.toList := fun hm => (hg O (by simpa using hm)).2 rfl
        have hO' : Ar w' O 3 N (fun i => if i < k ∧ 0 < F.getD i 0 then 1 else 0) := (ho.fr hF4 (by simp)).fr hf' hOg
        have HG' : Hid (∀ b, g' = some b → w.heap.size ≤ b ∧ b ≠ O) := hide (by
          intro b hb
          rcases hg' with h | ⟨b2, h1, h2⟩
          · exact hg b (h ▸ hb)
          · rw [h1] at hb
            injection hb with hb
            have := hf.size
            have := hF4.size
            exact ⟨by omega, by omega⟩)
        have HF' := hide ((hf.trans hF4).andThen hf' (fun z hz => .inr (hg z (by simpa using hz)).1))
        have c5 := hO'.cell hlt
        have f5 := hO'.froz k
        have l5 := hO'.lt
        have HO' := hide hO'
        have HOS : Hid (Ar (w'.setCell ⟨O, k, none⟩ (.int .i64 1)) O 3 N (fun i => if i < k + 1 ∧ 0 < F.getD i 0 then 1 else 0)) := hide ((hO'.set hlt 1).ext (fun i hi => by
          by_cases he : i = k
          · subst he
            rw [if_pos rfl, if_pos ⟨by omega, by rw [← HY.out]; exact hp0⟩]
          · rw [if_neg he]
            by_cases h1 : i < k ∧ 0 < F.getD i 0
            · rw [if_pos h1, if_pos ⟨by omega, h1.2⟩]
            · rw [if_neg h1, if_neg (fun h => h1 ⟨by omega, h.2⟩)]))
        have HPS : Hid (QAt (w'.setCell ⟨O, k, none⟩ (.int .i64 1)) v' g' (R ++ [⟨q, some ⟨C, 0, none⟩, N, N⟩])) := hide (SlAt.fr hp' ((Fr.refl [O] w').setCell (.inl (by simp)) _) (fun b hb => by simpa using (HG'.out b hb).2))
        have HSS : Hid (All2 (Cnt (w'.setCell ⟨O, k, none⟩ (.int .i64 1)) N (fun b => b ≠ O)) (R ++ [⟨q, some ⟨C, 0, none⟩, N, N⟩]) (leavesAt (F.take (k + 1)) 0)) := hide (HS'.out.imp fun a p hs => hs.fr ((Fr.refl [O] w').setCell (.inl (by simp)) _) (fun b hb hn => absurd (by simpa using hb) hn))
        have HFS : Hid (Fr [] w (w'.setCell ⟨O, k, none⟩ (.int .i64 1))) := hide (HF'.out.setCell (.inr HOW.out) _)
        have hOl' : O < (w'.setCell ⟨O, k, none⟩ (.int .i64 1)).heap.size := by simp; omega
        have b0 : (0 : Int) ≤ (k : Int) ∧ (k : Int) < (N : Int) := by omega
        subst hv
        have HC9 := hide hC
        have HW4 := hide hw4
        have hc3 : (wr.alloc (.cells (madeCells #[.int .i64 0] N) 3)).cell? ⟨wr.heap.size, k, none⟩ = some (.int .i64 0) := (made_ar N wr).cell hlt
        have hf3 : ∀ i, (wr.alloc (.cells (madeCells #[.int .i64 0] N) 3)).frozen? ⟨wr.heap.size, i, none⟩ = false := fun i => froz_blk (heap_alloc_eq rfl) i
        clear hgk hp hsem ho hg hf hp1 hp' hf' hg' hgt hOg hO' hA4 hF4 hqm hC hw4
        go_wp2_with fail
        refine (HFQ.out _).mono ?_
        rintro e w9 ⟨rfl, rfl⟩
        go_upto_region 12 with (fail)
        rw [← HC9.out, ← HW4.out]
        go_wp2_with fail
        refine (HFQ.out _).mono ?_
        rintro e w9 ⟨rfl, rfl⟩
        go_wp2_with (at_builtin; refine wpList_append_run rfl _ _ 57 rfl happ rfl rfl ?_)
        go_roundg (N + 1 - (k + 1))
        case measure => have := HGK.out; omega
        case rel => exact ⟨k + 1, g', _, rfl, by omega, by go_num, HPS.out, HSS.out, HOS.out, HG'.out, HFS.out, hOl'⟩
      · have hq0 : q = 0 := by rw [HQ.out]; unfold lim; omega
        rw [if_neg hp0, List.append_nil] at HLT
        have HOE : Hid (Ar wr O 3 N (fun i => if i < k + 1 ∧ 0 < F.getD i 0 then 1 else 0)) := hide (ho.ext (fun i hi => by
          by_cases h1 : i < k ∧ 0 < F.getD i 0
          · rw [if_pos h1, if_pos ⟨by omega, h1.2⟩]
          · rw [if_neg h1, if_neg (fun h => ?_)]
            by_cases he : i = k
            · subst he
              exact hp0 (by rw [HY.out]; exact h.2)
            · exact h1 ⟨by omega, h.2⟩))
        subst hq0
        clear hgk hp hsem ho hg hf
        go_wp2_with fail
        refine (HFQ.out _).mono ?_
        rintro e w9 ⟨rfl, rfl⟩
        go_wp2_with fail
        go_roundg (N + 1 - (k + 1))
        case measure => have := HGK.out; omega
        case rel => exact ⟨k + 1, g, R, rfl, by omega, by go_num, HP.out, by rw [HLT.out]; exact HSEM.out, HOE.out, HG.out, HF.out, hol⟩
    · obtain rfl : k = N := by omega
      obtain ⟨n, hn⟩ : ∃ n, n = R.length := ⟨_, rfl⟩
      have htk : F.take k = F := List.take_of_length_le (by have := HN.out; omega)
      rw [htk] at hsem HSEM
      have hnl : n = (leavesAt F 0).length := by
        have h1 := hsem.len
        omega
      obtain ⟨av, cv, hv⟩ := SlAt.shape hp
      rw [← hn] at hv hRl
      have HE : Hid (r = if 2 ^ M < n then [] else if n < 2 then (List.range k).map (fun i => if 0 < F.getD i 0 then 1 else 0) else (List.range k).map (fun i => ((top F (M - 1)).count i : Int))) := hide (by
        rw [HR.out, ← HN.out, ← hnl]
        by_cases h : 2 ^ M < n
        · rw [if_pos (.inr h), if_pos h]
        · rw [if_neg (by omega), if_neg h])
      have HNL := hide hnl
      have HRN := hide hn
      have HOE : Hid (Ar wr O 3 k (fun i => if 0 < F.getD i 0 then 1 else 0)) := hide (ho.ext (fun i hi => by simp [hi]))
      subst hv
      obtain ⟨P, hP⟩ : ∃ P : Nat, P = 2 ^ M := ⟨_, rfl⟩
      have hP2 : (2 : Int) ^ M = (P : Int) := by rw [hP]; simp
      have hPb : P ≤ 32768 := by
        rw [hP]
        have := Nat.pow_le_pow_right (n := 2) (by omega) (show M ≤ 15 by omega)
        omega
      have hP1 : 1 ≤ P := by rw [hP]; exact Nat.one_le_two_pow
      rw [← hP] at HE
      have HPD := hide hP
      have hM64 : (0 : Int) ≤ (M : Int) ∧ (M : Int) ≤ 64 := by omega
      clear hgk hp hsem ho hg hf hnl hn hP htk hk hlt
      by_cases hbig2 : P < n
      · have HE2 : Hid (r = []) := hide (by rw [HE.out, if_pos hbig2])
        go_wp2
        go_ret
        exact ⟨_, rfl, by rw [HE2.out]; exact IR.nil _, HF.out⟩
      by_cases hn2 : n < 2
      · have HE2 : Hid (IR wr (.slice (some ⟨O, 0, none⟩) k k) r) := hide (by
          rw [HE.out, if_neg hbig2, if_pos hn2]
          exact HOE.out.ints)
        go_wp2
        go_ret
        exact ⟨_, rfl, HE2.out, HF.out⟩
      have hdn : decide ((n : Int) < 2) = false := by simp; omega
      have HNP : Hid (n ≤ P) := hide (by omega)
      have HK := hide (sorted29_any (.slice av n cv) g R wr HP.out (by have := HRN.out; omega))
      go_wp2_with fail
      refine (unhide HK).mono ?_
      rintro e w3 ⟨v0, g0, rfl, hq0, hg0, hf0⟩
      have HQ0 := hide hq0
      have HF3 := hide hf0
      have HS3 : Hid (All2 (Cnt w3 k (fun b => b ≠ O)) (packsR R) (packs (leavesAt F 0))) := hide (packs_all (fun _ _ h => h.w) (HSEM.out.imp fun x p hs => hs.fr hf0 (by simp)))
      obtain ⟨S, hS⟩ : ∃ S, S = packs (leavesAt F 0) := ⟨_, rfl⟩
      rw [← hS] at HS3
      have HSD := hide hS
      have HSN : Hid (S.length = n) := hide (by rw [hS, (packs_perm _).length_eq]; exact HNL.out.symm)
      have HSY : Hid ((syms S).length = n) := hide (by rw [hS, syms_len_packs, leaves_syms_len]; exact HNL.out.symm)
      have hM1 : 1 ≤ M := by omega
      have HWT : Hid (∀ t, ∀ x ∈ lev S t, Wt F x) := hide (wt_lev F S (by
        rw [hS]
        exact fun x hx => wt_leaf F x ((packs_perm _).mem_iff.1 hx)))
      clear hS hq0 hf0 hg0
      go_wp2_with fail
      obtain ⟨wl, rfl⟩ : ∃ x : World, x = wr := ⟨_, rfl⟩
      go_loopg [9, 10] M (fun gk lv i wr => ∃ (t : Nat) (g : Option Nat) (Q : List Rw), gk = M + 1 - t ∧ 1 ≤ t ∧ t ≤ M ∧ i = .int .i64 t ∧ QAt wr lv g Q ∧ All2 (Cnt wr k (fun b => b ≠ O)) Q (lev S (t - 1)) ∧ Fr [] w3 wr)
      case atStart => exact ⟨1, g0, packsR R, by omega, by omega, by omega, rfl, HQ0.out, HS3.out, Fr.refl _ _⟩
      case round =>
        obtain ⟨t, g1, Q, hgt, ht1, ht2, rfl, hq, hs, hf⟩ := hrel
        have HGT := hide hgt
        have HQ := hide hq
        have HS := hide hs
        have HFX := hide hf
        have hlv := lev_len_le S (t - 1)
        have hql : Q.length ≤ 2 * n := by have := hs.len; have := HSN.out; omega
        obtain ⟨qv, qc, hqv⟩ := SlAt.shape hq
        obtain ⟨m, hm⟩ : ∃ m, m = Q.length := ⟨_, rfl⟩
        rw [← hm] at hqv hql
        have HM := hide hm
        have hnk : 2 ≤ n ∧ n ≤ k := by
          have := leaves_len_le F 0
          have := HNL.out
          have := HN.out
          omega
        subst hqv
        by_cases hlt : t < M
        · have hlt2 : (t : Int) < (M : Int) := by omega
          have hwb : ∀ p ∈ lev S (t - 1), 0 ≤ p.w ∧ p.w ≤ 1000000000000 ∧ p.s.length ≤ 1000000 := by
            intro p hp
            have f1 := wt_bd (HWT.out (t - 1) p hp)
            have g1 := syms_mem_len hp
            have g3 := syms_len_lev S (t - 1)
            have g4 : (t - 1 + 1) * (syms S).length ≤ 15 * 1000 := Nat.mul_le_mul (by omega) (by have := HSY.out; omega)
            omega
          have hll : n ≤ (lev S (t - 1)).length := by
            have := HSN.out
            rcases Nat.eq_zero_or_pos (t - 1) with h0 | h0
            · rw [h0]; show n ≤ S.length; omega
            · obtain ⟨u, hu⟩ : ∃ u, t - 1 = u + 1 := ⟨t - 2, by omega⟩
              rw [hu, lev_len]; omega
          obtain ⟨w5, hw5⟩ : ∃ w5, w5 = wr.alloc (.cells #[] 59) := ⟨_, rfl⟩
          have hemp : SlAt 59 2 w5 (.slice (some ⟨wr.heap.size, 0, none⟩) 0 0) (some wr.heap.size) 0 [] := .inr ⟨wr.heap.size, 0, 0, #[], rfl, rfl, by rw [hw5]; exact heap_alloc_eq rfl, by omega, by simp, by simp, by simp⟩
          have hf5 : Fr [] wr w5 := by rw [hw5]; exact (Fr.refl _ _).alloc _
          have hlp : QAt w5 (.slice av n cv) g R := SlAt.fr (SlAt.fr HP.out (HF3.out.trans hf) (by simp)) hf5 (by simp)
          obtain ⟨b0, o0, k0, hgb0, hvv0, hbl0, hall0⟩ := hlp.all (by have := HRN.out; omega)
          rw [← HRN.out] at hvv0
          injection hvv0 with hva0 hvn0 hvc0
          clear hvn0
          subst hva0
          obtain ⟨nv, w6, ng, hap0, hpn, hfn, hgn⟩ := SlAt.append elem59 hemp 57 ⟨b0, o0, none⟩ n cv (rcs R) (by omega) (by rw [rcs_len, HRN.out]) hall0 (rcs_one _) (by omega) (by unfold maxLen; omega)
          rw [Nat.zero_add, List.nil_append] at hpn
          obtain ⟨nva, nvc, hnv⟩ := SlAt.shape hpn
          subst hnv
          have hf6 : Fr [] wr w6 := hf5.andThen hfn (by
            intro y hy
            right
            have h1 : y = wr.heap.size := by simpa using hy
            omega)
          have hgn6 : ∀ b, ng = some b → wr.heap.size ≤ b := by
            intro b hb
            rcases hgn with h | ⟨h1, _⟩
            · rw [h] at hb; injection hb with hb; omega
            · rw [h1] at hb; injection hb with hb
              rw [← hb, hw5]; simp
          have HGN := hide hgn6
          have HPN : Hid (QAt w6 (.slice nva n nvc) ng R) := hide (by unfold QAt; rw [← HRN.out]; exact hpn)
          have HF6 := hide hf6
          have HPR := hide (pairs30_any (.slice qv m qc) g1 Q (lev S (t - 1)) k w6 (SlAt.fr hq hf6 (by simp)) (hs.imp fun a p hc => (hc.fr hf6 (by simp)).mono (fun _ _ _ => trivial)) (by omega) (by omega) (by have := HM.out; omega) hwb)
          have HLL := hide hll
          rw [hw5] at hap0
          have HVC := hide hvc0
          have HWB := hide hwb
          clear hgt hq hs hf hlv hm hwb hw5 hemp hf5 hlp hgb0 hbl0 hall0 hvc0 hpn hfn hgn hf6 hgn6 hll
          go_wp2_with (at_builtin; refine wpList_append_run rfl _ _ 57 rfl hap0 rfl rfl ?_)
          refine (unhide HPR).mono ?_
          rintro e w7 ⟨pv, pg, X, rfl, hx, hxs, hxg, hf7⟩
          have hxl : X.length = (lev S (t - 1)).length / 2 := by rw [hxs.len, pairs_len]
          have hxl2 : 1 ≤ X.length ∧ X.length ≤ 1000 := by
            have := HLL.out
            have := lev_len_le S (t - 1)
            have := HSN.out
            omega
          obtain ⟨pva, pvc, hpv⟩ := SlAt.shape hx
          obtain ⟨xm, hxm⟩ : ∃ xm, xm = X.length := ⟨_, rfl⟩
          rw [← hxm] at hpv
          subst hpv
          have hn7 : QAt w7 (.slice nva n nvc) ng R := SlAt.fr HPN.out hf7 (by simp)
          obtain ⟨b1, o1, k1, hgb1, hvv1, hbl1, hall1⟩ := hx.all (by omega)
          rw [← hxm] at hvv1
          injection hvv1 with hva1 hvn1 hvc1
          clear hvn1
          subst hva1
          have hn7' : SlAt 59 2 w7 (.slice nva n nvc) ng n (rcs R) := by have h1 := hn7; unfold QAt at h1; rw [← HRN.out] at h1; exact h1
          obtain ⟨v8, w8, g8, hap8, hp8, hf8, hg8⟩ := SlAt.append elem59 hn7' 57 ⟨b1, o1, none⟩ xm pvc (rcs X) (by omega) (by rw [rcs_len, hxm]) hall1 (rcs_one _) (by omega) (by unfold maxLen; omega)
          obtain ⟨v8a, v8c, hv8⟩ := SlAt.shape hp8
          subst hv8
          have hgn8 : ∀ b ∈ ng.toList, wr.heap.size ≤ b := fun b hb => HGN.out b (by simpa using hb)
          have hQ8 : QAt w8 (.slice v8a (n + xm) v8c) g8 (R ++ X) := by
            unfold QAt
            rw [List.length_append, ← HRN.out, ← hxm, rcs_append]
            exact hp8
          have hF8 : Fr [] w3 w8 := ((HFX.out.trans HF6.out).trans hf7).andThen hf8 (fun y hy => .inr (by have := hgn8 y hy; have := HFX.out.size; omega))
          have hS8 : All2 (Cnt w8 k (fun b => b ≠ O)) (R ++ X) (leavesAt F 0 ++ pairs (lev S (t - 1))) := by
            have hnt : ∀ b ∈ ng.toList, ∀ cs fr, w7.heap[b]? ≠ some (.cells cs 3 fr) := by
              intro b hb cs fr hc
              obtain ⟨cur, hcur⟩ := SlAt.lt hn7 b (by simpa using hb)
              rw [hcur] at hc
              injection hc with hc
              injection hc with _ hc _
              cases hc
            refine (HSEM.out.imp fun a p hc => ((hc.fr ((HF3.out.trans HFX.out).trans HF6.out) (by simp)).fr hf7 (by simp)).fr hf8 (fun b hb _ => hnt b hb)).append (hxs.imp fun a p hc => (hc.mono (fun b _ hb => ?_)).fr hf8 (fun b hb _ => hnt b hb))
            have := ((HF3.out.trans HFX.out).trans HF6.out).size
            omega
          have HS8 := hide hS8
          have HF8 := hide hF8
          have HSRT := hide (sorted29_any (.slice v8a (n + xm) v8c) g8 (R ++ X) w8 hQ8 (by rw [List.length_append]; have := HRN.out; omega))
          clear hx hxs hxg hf7 hxl hxl2 hxm hn7 hgb1 hbl1 hall1 hvc1 hn7' hp8 hf8 hg8 hgn8 hQ8 hF8 hS8 hap0
          go_wp2_with (at_builtin; refine wpList_append_run rfl _ _ 57 rfl hap8 rfl rfl ?_)
          refine (unhide HSRT).mono ?_
          rintro e w9 ⟨v9, g9, rfl, hq9, hg9, hf9⟩
          have HQ9 := hide hq9
          have HS9 : Hid (All2 (Cnt w9 k (fun b => b ≠ O)) (packsR (R ++ X)) (lev S t)) := hide (by
            have h1 : lev S t = packs (leavesAt F 0 ++ pairs (lev S (t - 1))) := by
              obtain ⟨u, rfl⟩ : ∃ u, t = u + 1 := ⟨t - 1, by omega⟩
              rw [HSD.out, lev_step]
              rfl
            rw [h1]
            exact packs_all (fun _ _ h => h.w) (HS8.out.imp fun x p hc => hc.fr hf9 (by simp)))
          have HF9 := hide (HF8.out.trans hf9)
          clear hq9 hg9 hf9 hap8
          go_wp2_with fail
          go_roundg (M + 1 - (t + 1))
          case measure => have := HGT.out; omega
          case rel => exact ⟨t + 1, g9, packsR (R ++ X), rfl, by omega, by omega, by go_num, HQ9.out, by rw [Nat.add_sub_cancel]; exact HS9.out, HF9.out⟩
        · obtain rfl : t = M := by omega
          have henough : 2 * n - 2 ≤ m := by
            have h1 := lev_enough S (t - 1) (by have := HSN.out; omega) (by rw [show t - 1 + 1 = t by omega, ← HPD.out]; have := HSN.out; have := HNP.out; omega)
            have := HSN.out
            have := hs.len
            have := HM.out
            omega
          obtain ⟨b, off, cap2, hgb, hvv, hbl, hall⟩ := hq.all (by have := HM.out; omega)
          rw [← HM.out] at hvv
          injection hvv with hva hvn hvc
          subst hva hvc
          have HFE : Hid (Fr [] w wr) := hide ((HF.out.trans HF3.out).trans hf)
          have HAO : Hid (Ar wr O 3 k (fun i => if 0 < F.getD i 0 then 1 else 0)) := hide (HOE.out.fr (HF3.out.trans hf) (by simp))
          have HEN := hide henough
          have hlt3 : ¬ ((t : Int) < (t : Int)) := by omega
          clear hgt hq hs hf hlv hm hgb hbl hall hvn henough hbig2
          go_wp2_with fail
          obtain ⟨wo, rfl⟩ : ∃ x : World, x = wr := ⟨_, rfl⟩
          go_loopg [11] (k + 1) (fun gk i wr => ∃ (j : Nat), gk = k + 1 - j ∧ j ≤ k ∧ i = .int .i64 j ∧ Ar wr O 3 k (fun i => if i < j then 0 else if 0 < F.getD i 0 then 1 else 0) ∧ Fr [O] wo wr)
          case atStart => exact ⟨0, rfl, by omega, rfl, HAO.out.ext (fun i _ => by simp), Fr.refl _ _⟩
          case round =>
            obtain ⟨j, hgj, hj, rfl, ho, hf⟩ := hrel
            have HGJ := hide hgj
            have HO := hide ho
            have HFO := hide hf
            by_cases hjl : j < k
            · have c0 := ho.cell hjl
              have f0 := ho.froz j
              have l0 := ho.lt
              obtain ⟨u, hu⟩ : ∃ u : Int, u = if j < j then 0 else if 0 < F.getD j 0 then 1 else 0 := ⟨_, rfl⟩
              rw [← hu] at c0
              have b0 : (0 : Int) ≤ (j : Int) ∧ (j : Int) < (k : Int) := by omega
              clear hgj ho hf hu
              go_wp2_with fail
              go_roundg (k + 1 - (j + 1))
              case measure => have := HGJ.out; omega
              case rel =>
                refine ⟨j + 1, rfl, by omega, by go_num, (HO.out.set hjl 0).ext (fun i hi => ?_), HFO.out.setCell (.inl (by simp)) _⟩
                by_cases he : i = j
                · subst he
                  rw [if_pos rfl, if_pos (by omega)]
                · rw [if_neg he]
                  by_cases h1 : i < j
                  · rw [if_pos h1, if_pos (by omega)]
                  · rw [if_neg h1, if_neg (show ¬ i < j + 1 by omega)]
            · obtain rfl : j = k := by omega
              have HZ0 : Hid (Ar wr O 3 j (fun _ => 0)) := hide (ho.ext (fun i hi => by rw [if_pos hi]))
              clear hgj ho hf
              obtain ⟨Z, hZ⟩ : ∃ Z, Z = 2 * n - 2 := ⟨_, rfl⟩
              have HZ := hide hZ
              have hz6 : Z ≤ 100000 := by omega
              clear hZ
              go_wp2_with fail
              obtain ⟨wq, rfl⟩ : ∃ x : World, x = wr := ⟨_, rfl⟩
              obtain ⟨T, hT⟩ : ∃ T, T = lev S (t - 1) := ⟨_, rfl⟩
              rw [← hT] at HS
              have HTD := hide hT
              have HTL : Hid ((syms T).length ≤ 16000) := hide (by
                have h3 := syms_len_lev S (t - 1)
                have h4 : (t - 1 + 1) * (syms S).length ≤ 16 * 1000 := Nat.mul_le_mul (by omega) (by have := HSY.out; omega)
                rw [hT]
                omega)
              clear hT
              go_loopg [12] (Z + 1) (fun gk i wr => ∃ (q : Nat), gk = Z + 1 - q ∧ q ≤ Z ∧ i = .int .i64 q ∧ Ar wr O 3 j (fun i => ((syms (T.take q)).count i : Int)) ∧ Fr [O] wq wr)
              case atStart => exact ⟨0, rfl, by omega, rfl, HZ0.out.ext (fun i _ => by simp [syms]), Fr.refl _ _⟩
              case round =>
                obtain ⟨q, hgq, hq, rfl, ho, hf⟩ := hrel
                have HGQ := hide hgq
                have HO2 := hide ho
                have HFO2 := hide hf
                have hz1 : (2 * (n : Int) - 2) = (Z : Int) := by have := HZ.out; omega
                by_cases hql : q < Z
                · obtain ⟨x, hx⟩ : ∃ x, Q[q]? = some x := ⟨Q[q]'(by have := HM.out; have := HEN.out; have := HZ.out; omega), List.getElem?_eq_getElem _⟩
                  obtain ⟨p, hp, hs⟩ := HS.out.get hx
                  have HXQ := hide hx
                  have hs1 := (hs.fr HFO.out (fun b hb hb2 => absurd (List.mem_singleton.1 hb) hb2)).fr hf (fun b hb hb2 => absurd (List.mem_singleton.1 hb) hb2)
                  have HTK : Hid (∀ i, (syms (T.take (q + 1))).count i = (syms (T.take q)).count i + p.s.count i) := hide (by
                    intro i
                    rw [List.take_add_one, hp, syms_append, List.count_append]
                    simp [syms])
                  have HCB : Hid (∀ i, (syms (T.take q)).count i + p.s.count i ≤ 40000) := hide (by
                    intro i
                    have h1 := List.count_le_length (a := i) (l := syms (T.take q))
                    have h2 : (syms (T.take q)).length ≤ (syms T).length := by
                      have h3 : syms T = syms (T.take q) ++ syms (T.drop q) := by rw [← syms_append, List.take_append_drop]
                      rw [h3, List.length_append]
                      omega
                    have h4 := syms_mem_len (List.mem_of_getElem? hp)
                    have h5 := List.count_le_length (a := i) (l := p.s)
                    have := HTL.out
                    omega)
                  have HS1 := hide hs1
                  have hlt4 : (q : Int) < 2 * (n : Int) - 2 := by omega
                  have hz8 : (q : Int) < (Z : Int) := by omega
                  clear hgq ho hf hx hp hs hs1 hz1
                  go_wp2_with fail
                  obtain ⟨wp, rfl⟩ : ∃ x : World, x = wr := ⟨_, rfl⟩
                  go_loopg [13] (j + 1) (fun gk i wr => ∃ (c : Nat), gk = j + 1 - c ∧ c ≤ j ∧ i = .int .i64 c ∧ Ar wr O 3 j (fun i => ((syms (T.take q)).count i : Int) + if i < c then (p.s.count i : Int) else 0) ∧ Fr [O] wp wr)
                  case atStart => exact ⟨0, rfl, by omega, rfl, HO2.out.ext (fun i _ => by simp), Fr.refl _ _⟩
                  case round =>
                    obtain ⟨c, hgc, hc, rfl, ho, hf⟩ := hrel
                    have HGC := hide hgc
                    have HO3 := hide ho
                    have HFO3 := hide hf
                    by_cases hcl : c < j
                    · have hgO : ∀ b, g1 = some b → b ∉ [O] := by
                        intro b hb hm
                        obtain ⟨cur, hc⟩ := SlAt.lt HQ.out b hb
                        obtain ⟨cur2, hc2, _⟩ := HAO.out
                        rw [List.mem_singleton.1 hm, hc2] at hc
                        injection hc with hc
                        injection hc with _ hc _
                        cases hc
                      have hpq : QAt wr (.slice (some ⟨b, off, none⟩) m qc) g1 Q := SlAt.fr (SlAt.fr (SlAt.fr HQ.out HFO.out hgO) HFO2.out hgO) hf hgO
                      obtain ⟨b2, off2, cap3, hgb2, hvv2, hbl2, d0, d1, -⟩ := hpq.get HXQ.out
                      rw [← HM.out] at hvv2
                      injection hvv2 with hva2 hvn2 hvc2
                      injection hva2 with hva2
                      injection hva2 with hvb2 hvo2 _
                      subst hvb2 hvo2 hvc2
                      have hs3 := HS1.out.fr hf (fun b hb hb2 => absurd (List.mem_singleton.1 hb) hb2)
                      obtain ⟨b3, o3, hxa, hb3O, hb3l, hc3⟩ := hs3.at.2
                      have hxn := hs3.at.1
                      have c3 := hc3 c hcl
                      obtain ⟨xw, xa, xn, xc⟩ := x
                      simp only at d0 d1 hxa hxn
                      have hxn := hxn.symm
                      subst hxa hxn
                      have c0 := ho.cell hcl
                      have f0 := ho.froz c
                      have l0 := ho.lt
                      rw [if_neg (show ¬ c < c by omega), Int.add_zero] at c0
                      have hcb := HCB.out c
                      obtain ⟨u1, hu1⟩ : ∃ u, u = (syms (T.take q)).count c := ⟨_, rfl⟩
                      obtain ⟨u2, hu2⟩ : ∃ u, u = p.s.count c := ⟨_, rfl⟩
                      rw [← hu1] at c0 hcb
                      rw [← hu2] at c3 hcb
                      have HU1 := hide hu1
                      have HU2 := hide hu2
                      have b0 : (0 : Int) ≤ (q : Int) ∧ (q : Int) < (m : Int) := by have := HEN.out; have := HZ.out; omega
                      have b1 : (0 : Int) ≤ (c : Int) ∧ (c : Int) < (j : Int) := by omega
                      have zu : IntKind.i64.wrap ((u1 : Int) + (u2 : Int)) = (u1 : Int) + (u2 : Int) := IntWalk.i64_in _ (by omega)
                      clear hgc ho hf hgO hpq hgb2 hvn2 hs3 hc3 hu1 hu2
                      go_upto_region 33 with (fail)
                      go_still_tail 14, (by kernel_rfl)
                      change wpList _ _ _ _ _ wr.drew
                      go_wp2_with fail
                      go_roundg (j + 1 - (c + 1))
                      case measure => have := HGC.out; omega
                      case rel =>
                        refine ⟨c + 1, rfl, by omega, by go_num, (((HO3.out.fr ((Fr.refl [] wr).drew) (by simp)).set hcl ((u1 : Int) + (u2 : Int))).fr (Fr.refl [] _) (by simp)).ext (fun i hi => ?_), (HFO3.out.drew).setCell (.inl (by simp)) _⟩
                        by_cases he : i = c
                        · subst he
                          rw [if_pos rfl, if_pos (by omega), HU1.out, HU2.out]
                        · rw [if_neg he]
                          by_cases h1 : i < c
                          · rw [if_pos h1, if_pos (by omega)]
                          · rw [if_neg h1, if_neg (by omega)]
                    · obtain rfl : c = j := by omega
                      have HOF : Hid (Ar wr O 3 c (fun i => ((syms (T.take (q + 1))).count i : Int))) := hide (ho.ext (fun i hi => by rw [if_pos hi, HTK.out i]; omega))
                      have HFF := hide (HFO2.out.trans hf)
                      clear hgc ho hf
                      go_wp2_with fail
                      go_roundg (Z + 1 - (q + 1))
                      case measure => have := HGQ.out; omega
                      case rel => exact ⟨q + 1, rfl, by omega, by go_num, HOF.out, HFF.out⟩
                · obtain rfl : q = Z := by omega
                  have HRES : Hid (IR wr (.slice (some ⟨O, 0, none⟩) j j) r) := hide (by
                    have h1 := ho.ints
                    rw [HE.out, if_neg (by have := HNP.out; omega), if_neg hn2]
                    have h2 : top F (t - 1) = syms (T.take q) := by
                      unfold top
                      rw [HTD.out, HZ.out, HSD.out, HNL.out]
                    rw [h2]
                    exact h1)
                  have HFZ := hide ((HFE.out.andThen HFO.out (by have := HOW.out; simp; omega)).andThen hf (by have := HOW.out; simp; omega))
                  have hlt4 : ¬ (q : Int) < 2 * (n : Int) - 2 := by omega
                  clear hgq ho hf hz1
                  go_wp2
                  go_ret
                  exact ⟨_, rfl, HRES.out, HFZ.out⟩
end Go.Proofs.Ythmhcnnigepohaa

