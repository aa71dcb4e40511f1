/- insert: an element behind those that do not weigh more. -/
import Derived.Test.YthmhcnnigepohaaGreatDoorM08
import Derived.StillTailTactics
namespace Go.Proofs.YthmhcnnigepohaaGreatDoor.Hf
open Go.RowKit

def insR (x : Rw) : List Rw → List Rw
  | [] => [x]
  | y :: l => if x.w < y.w then x :: y :: l else y :: insR x l
def SrtR (l : List Rw) : Prop := l.Pairwise (fun a b => a.w ≤ b.w)
theorem insR_at (x : Rw) : ∀ (l : List Rw) (k : Nat), k ≤ l.length → SrtR l → (∀ j y, k ≤ j → l[j]? = some y → x.w < y.w) → (k = 0 ∨ ∃ y, l[k - 1]? = some y ∧ y.w ≤ x.w) → insR x l = l.take k ++ x :: l.drop k
  | [], k, hk, _, _, _ => by simp [insR]
  | y :: l, 0, _, _, h1, _ => by
    have := h1 0 y (by omega) rfl
    rw [insR, if_pos this]; rfl
  | y :: l, k + 1, hk, hs, h1, h2 => by
    unfold SrtR at hs
    rw [List.pairwise_cons] at hs
    obtain ⟨z, hz, hzx⟩ : ∃ z, (y :: l)[k + 1 - 1]? = some z ∧ z.w ≤ x.w := by
      rcases h2 with h2 | h2
      · omega
      · exact h2
    rw [show k + 1 - 1 = k by omega] at hz
    have hyx : y.w ≤ x.w := by
      cases k with
      | zero => simp at hz; subst hz; exact hzx
      | succ k =>
        have := hs.1 z (List.mem_of_getElem? (by simpa using hz))
        omega
    rw [insR, if_neg (by omega), insR_at x l k (by simpa using hk) hs.2 (fun j u hj hu => h1 (j + 1) u (by omega) (by simpa using hu)) ?_]
    · simp
    · cases k with
      | zero => exact .inl rfl
      | succ k => exact .inr ⟨z, by simpa using hz, hzx⟩

/-- The list in ascending order in block s. -/
def SI (w : World) (s : Nat) (v : Value) (g : Option Nat) (l : List Rw) : Prop :=
  w.heap[s]? = some (.cells #[v, .func (.func 69) #[] #[]] 125 (0, 0)) ∧ PAt w v g l ∧ ∀ b, g = some b → b ≠ s
theorem SI.fr {w w' : World} {s : Nat} {v : Value} {g : Option Nat} {l : List Rw} (h : SI w s v g l) (hf : Fr [] w w') : SI w' s v g l :=
  ⟨(hf.block s (lt_of_blk h.1) (by simp)).trans h.1, SlAt.fr h.2.1 hf (by simp), h.2.2⟩
theorem SI.c0 {w : World} {s : Nat} {v : Value} {g : Option Nat} {l : List Rw} (h : SI w s v g l) : w.cell? ⟨s, 0, none⟩ = some v := cell_blk h.1 0
theorem SI.c1 {w : World} {s : Nat} {v : Value} {g : Option Nat} {l : List Rw} (h : SI w s v g l) : w.cell? ⟨s, 1, none⟩ = some (.func (.func 69) #[] #[]) := cell_blk h.1 1
theorem size51 : (Tryz.prog.info? 120).map (·.size) = some 2 := by kernel_rfl
theorem copy_none49 (w : World) (dp sp : Option Addr) (dc sl sc : Nat) : (Builtin.copy_ #[118, 118] 3 #[.slice dp 0 dc, .slice sp sl sc]).run Tryz.prog w = .ok (goInt 0) w := by
  cases hq : Tryz.prog.info? 120 with
  | none => have h := size51; rw [hq] at h; cases h
  | some i => exact run_copy_none w 118 3 120 i dp sp dc sl sc Tryz.underlying118 hq
def IPst (s : Nat) (g : Option Nat) (l : List Rw) (w : World) (e : Ending) (w' : World) : Prop :=
  e = .returned (.tuple #[]) ∧ ∃ v' g', SI w' s v' g' l ∧ Fr (s :: g.toList) w w' ∧ (g' = g ∨ ∃ b, g' = some b ∧ w.heap.size ≤ b)

/-- A run of elements laid over others. -/
theorem PAt.over {w : World} {b off cap N : Nat} {g : Option Nat} {M : List Rw} (h : PAt w (.slice (some ⟨b, off, none⟩) N cap) g M) (i : Nat) (D : List Rw) (hi : i + D.length ≤ M.length) (cur : Array Value) (hb : w.heap[b]? = some (.cells cur 120 (0, 0))) :
    PAt (w.setRow b (cur.toList.take (off + i * 2) ++ rcs D ++ cur.toList.drop (off + i * 2 + (rcs D).length)).toArray) (.slice (some ⟨b, off, none⟩) N cap) g (M.take i ++ D ++ M.drop (i + D.length)) := by
  rcases h with ⟨h0, _⟩ | ⟨b', off', cap', cur', hg, hv, hblk, hnc, hfit, hxs, hcells⟩
  · cases h0
  · injection hv with hv1 hv2 hv3
    injection hv1 with hv1
    injection hv1 with hv1 hv4 _
    subst hv1 hv2 hv3 hv4
    rw [hb] at hblk
    injection hblk with hblk
    injection hblk with hblk _
    subst hblk
    have hlen : (M.take i ++ D ++ M.drop (i + D.length)).length = M.length := by simp; omega
    have hD := rcs_len D
    have hcl : off + i * 2 + D.length * 2 ≤ cur.size := by omega
    refine .inr ⟨b, off, cap, _, hg, by rw [hlen], setRow_heap w b cur _ 120 _ hb, by omega, ?_, by rw [rcs_len], fun j u hj => ?_⟩
    · simp [hD]
      omega
    · have hM := rcs_len M
      have h1 : (rcs (M.take i ++ D ++ M.drop (i + D.length))) = (rcs M).take (i * 2) ++ rcs D ++ (rcs M).drop ((i + D.length) * 2) := by
        have e : ∀ (Q : List Rw) (q : Nat), rcs (Q.take q) = (rcs Q).take (q * 2) ∧ rcs (Q.drop q) = (rcs Q).drop (q * 2) := by
          intro Q
          induction Q with
          | nil => intro q; simp [rcs]
          | cons z Q ih =>
            intro q
            cases q with
            | zero => simp [rcs]
            | succ q =>
              obtain ⟨e1, e2⟩ := ih q
              have hz : rcs (z :: Q) = [Value.int .i64 z.w, .slice z.a z.n z.c] ++ rcs Q := rfl
              rw [List.take_succ_cons, List.drop_succ_cons, hz, e2]
              have hz2 : rcs (z :: Q.take q) = [Value.int .i64 z.w, .slice z.a z.n z.c] ++ rcs (Q.take q) := rfl
              rw [hz2, e1, show (q + 1) * 2 = q * 2 + 1 + 1 by omega]
              simp
        rw [rcs_append, rcs_append, (e M i).1, (e M (i + D.length)).2]
      rw [h1] at hj
      rw [List.getElem?_toArray]
      have htl : (cur.toList.take (off + i * 2)).length = off + i * 2 := by simp; omega
      have htl2 : ((rcs M).take (i * 2)).length = i * 2 := by simp [hM]; omega
      rw [List.append_assoc, List.getElem?_append, htl2] at hj
      rw [List.append_assoc, List.getElem?_append, htl]
      by_cases hji : j < i * 2
      · rw [if_pos hji, List.getElem?_take, if_pos hji] at hj
        rw [if_pos (by omega), List.getElem?_take, if_pos (by omega)]
        have := hcells j u hj
        simpa using this
      · rw [if_neg hji, List.getElem?_append, hD] at hj
        rw [if_neg (by omega), List.getElem?_append, hD, show off + j - (off + i * 2) = j - i * 2 by omega]
        by_cases hjd : j - i * 2 < D.length * 2
        · rw [if_pos hjd] at hj ⊢
          exact hj
        · rw [if_neg hjd, List.getElem?_drop] at hj
          rw [if_neg hjd, List.getElem?_drop]
          have e2 : (i + D.length) * 2 + (j - i * 2 - D.length * 2) = j := by omega
          rw [e2] at hj
          have e3 : off + i * 2 + D.length * 2 + (j - i * 2 - D.length * 2) = off + j := by omega
          rw [e3]
          have := hcells j u hj
          simpa using this
/-- One element stored. -/
theorem PAt.put {w : World} {b off cap N : Nat} {g : Option Nat} {M : List Rw} (h : PAt w (.slice (some ⟨b, off, none⟩) N cap) g M) (i : Nat) (x : Rw) (hi : i < M.length) :
    PAt ((w.setCell ⟨b, off + i * 2, none⟩ (.int .i64 x.w)).setCell ⟨b, off + i * 2 + 1, none⟩ (.slice x.a x.n x.c)) (.slice (some ⟨b, off, none⟩) N cap) g (M.set i x) := by
  rcases h with ⟨h0, _⟩ | ⟨b', off', cap', cur', hg, hv, hblk, hnc, hfit, hxs, hcells⟩
  · cases h0
  · injection hv with hv1 hv2 hv3
    injection hv1 with hv1
    injection hv1 with hv1 hv4 _
    subst hv1 hv2 hv3 hv4
    have h2 := heap_set_same (j := off + i * 2) (v := .int .i64 x.w) hblk
    have h3 := heap_set_same (j := off + i * 2 + 1) (v := .slice x.a x.n x.c) h2
    have hM := rcs_len M
    refine .inr ⟨b, off, cap, _, hg, by rw [List.length_set], h3, by rw [List.length_set]; omega, by simpa using hfit, by rw [rcs_len], fun j u hj => ?_⟩
    have hset : ∀ (Q : List Rw) (q : Nat), rcs (Q.set q x) = ((rcs Q).set (q * 2) (.int .i64 x.w)).set (q * 2 + 1) (.slice x.a x.n x.c) := by
      intro Q
      induction Q with
      | nil => intro q; simp [rcs]
      | cons z Q ih =>
        intro q
        cases q with
        | zero => rfl
        | succ q =>
          have hz : rcs (z :: Q) = [Value.int .i64 z.w, .slice z.a z.n z.c] ++ rcs Q := rfl
          have hz2 : rcs (z :: Q.set q x) = [Value.int .i64 z.w, .slice z.a z.n z.c] ++ rcs (Q.set q x) := rfl
          rw [List.set_cons_succ, hz2, ih q, hz, show (q + 1) * 2 = q * 2 + 1 + 1 by omega]
          simp
    rw [hset] at hj
    have hjl : j < M.length * 2 := by
      have := (List.getElem?_eq_some_iff.1 hj).1
      simp [hM] at this
      exact this
    rw [Array.getElem?_setIfInBounds]
    rw [List.getElem?_set] at hj
    by_cases h4 : i * 2 + 1 = j
    · rw [if_pos h4, if_pos (by simp [hM]; omega)] at hj
      rw [if_pos (by omega), if_pos (by simp; omega)]
      exact hj
    · rw [if_neg h4, List.getElem?_set] at hj
      rw [if_neg (by omega), Array.getElem?_setIfInBounds]
      by_cases h5 : i * 2 = j
      · rw [if_pos h5, if_pos (by omega)] at hj
        rw [if_pos (by omega), if_pos (by omega)]
        exact hj
      · rw [if_neg h5] at hj
        rw [if_neg (by omega)]
        exact hcells j u hj

set_option maxRecDepth 100000 in
set_option maxHeartbeats 8000000 in
theorem insert32_any (s : Nat) (v : Value) (g : Option Nat) (l : List Rw) (x : Rw) (w : World) (h : SI w s v g l) (hs : SrtR l) (hl : l.length ≤ 100000) :
    Calls Tryz.prog 70 #[.pointer (some ⟨s, 0, none⟩), .agg #[.int .i64 x.w, .slice x.a x.n x.c]] w (IPst s g (insR x l) w) := by
  have HSI := hide h
  have HSR := hide hs
  obtain ⟨av, cv, hv⟩ := SlAt.shape h.2.1
  obtain ⟨n, hn⟩ : ∃ n, n = l.length := ⟨_, rfl⟩
  rw [← hn] at hv hl
  have hv2 := hv
  subst hv
  have HN := hide hn
  have hsl := lt_of_blk h.1
  obtain ⟨xw, xa, xn, xc⟩ := x
  obtain ⟨w1, hw1⟩ : ∃ w1, w1 = w.alloc (.cells #[.int .i64 xw, .slice xa xn xc] 120) := ⟨_, rfl⟩
  obtain ⟨X, hX⟩ : ∃ X, X = w.heap.size := ⟨_, rfl⟩
  have HF1 : Hid (Fr [] w w1) := hide (by rw [hw1]; exact (Fr.refl _ _).alloc _)
  have HXB : Hid (w1.heap[X]? = some (.cells #[.int .i64 xw, .slice xa xn xc] 120 (0, 0))) := hide (by rw [hw1, hX]; exact heap_alloc_eq rfl)
  have HXS : Hid (s < X) := hide (by omega)
  have HXW : Hid (w.heap.size ≤ X) := hide (by omega)
  have hd0 : w.cell? ⟨s, 0, none⟩ = some (.slice av n cv) := cell_blk h.1 0
  clear h hs hn hv2
  go_enter Tryz.func70, Tryz.ntmps70
  go_wp2_with fail
  rw [← hw1, ← hX]
  clear hX hd0 hsl hw1
  have HS1 := hide (HSI.out.fr HF1.out)
  go_loopg [4] (n + 1) (fun gk i wr => ∃ (k : Nat), gk = k + 1 ∧ k ≤ n ∧ i = .int .i64 k ∧ (∀ j y, k ≤ j → l[j]? = some y → xw < y.w) ∧ Fr [] w1 wr)
  case atStart => exact ⟨n, rfl, by omega, rfl, fun j y hj hy => by have := (List.getElem?_eq_some_iff.1 hy).1; have := HN.out; omega, Fr.refl _ _⟩
  case round =>
    obtain ⟨k, hgk, hk, rfl, hgt, hf⟩ := hrel
    have HGK := hide hgk
    have HGT := hide hgt
    have HF := hide hf
    have hsr := HS1.out.fr hf
    have d0 : wr.cell? ⟨s, 0, none⟩ = some (.slice av n cv) := cell_blk hsr.1 0
    have d1 : wr.cell? ⟨s, 1, none⟩ = some (.func (.func 69) #[] #[]) := cell_blk hsr.1 1
    have hsl := lt_of_blk hsr.1
    have hXb := (hf.block X (lt_of_blk HXB.out) (by simp)).trans HXB.out
    have e0 : wr.cell? ⟨X, 0, none⟩ = some (.int .i64 xw) := cell_blk hXb 0
    have e1 : wr.cell? ⟨X, 1, none⟩ = some (.slice xa xn xc) := cell_blk hXb 1
    have hXl := lt_of_blk hXb
    clear hgk hgt hXb
    by_cases hgo : ∃ y, l[k - 1]? = some y ∧ k ≠ 0 ∧ xw < y.w
    · obtain ⟨y, hy, h0, hlt⟩ := hgo
      obtain ⟨b, off, cap, hgb, hvv, hbl, c0, c1, -⟩ := hsr.2.1.get hy
      obtain ⟨yw, ya, yn, yc⟩ := y
      rw [← HN.out] at hvv
      injection hvv with hva hvn hvc
      subst hva
      subst hvc
      have hk1 : (0 : Int) ≤ (k : Int) - 1 ∧ (k : Int) - 1 < (n : Int) := by omega
      have hk2 : (1 : Int) ≤ (k : Int) := by omega
      have hk3 : ((k : Int) - 1).toNat = k - 1 := by omega
      have g0 : decide ((0 : Int) < (k : Int)) = true := by simp; omega
      have g0' : decide (0 < k) = true := by simp; omega
      have z1 : IntKind.i64.wrap ((k : Int) - 1) = (k : Int) - 1 := IntWalk.i64_in _ (by omega)
      simp only at c0 c1
      have HY := hide hy
      have g1 : decide (xw < yw) = true := by simpa using hlt
      clear hsr hf hgb hy h0 hvn
      go_upto_region 2 with (fail)
      go_region_held3 (fun W => W.cell? ⟨s, 0, none⟩ = some (.slice (some ⟨b, off, none⟩) n cv) ∧ W.cell? ⟨s, 1, none⟩ = some (.func (.func 69) #[] #[]) ∧ W.cell? ⟨X, 0, none⟩ = some (.int .i64 xw) ∧ W.cell? ⟨X, 1, none⟩ = some (.slice xa xn xc) ∧ W.cell? ⟨b, off + (k - 1) * 2, none⟩ = some (.int .i64 yw) ∧ W.cell? ⟨b, off + (k - 1) * 2 + 1, none⟩ = some (.slice ya yn yc)) (go_keep) (first | ((with_reducible refine (weight31_any ⟨yw, ya, yn, yc⟩ _).mono ?_); rintro e w' ⟨rfl, rfl⟩) | ((with_reducible refine (weight31_any ⟨xw, xa, xn, xc⟩ _).mono ?_); rintro e w' ⟨rfl, rfl⟩))
      go_wp2_with fail
      go_roundg k
      case measure => have := HGK.out; omega
      case rel =>
        refine ⟨k - 1, by omega, by omega, by rw [show ((k - 1 : Nat) : Int) = (k : Int) - 1 by omega], fun j y hj hjy => ?_, ((HF.out.alloc _).alloc _).drew⟩
        by_cases hjk : j = k - 1
        · subst hjk
          have h1 := HY.out
          rw [h1] at hjy
          injection hjy with hjy
          subst hjy
          exact hlt
        · exact HGT.out j y (by omega) hjy
    · have hex : k = 0 ∨ (k ≠ 0 ∧ ∃ y, l[k - 1]? = some y ∧ y.w ≤ xw) := by
        by_cases h0 : k = 0
        · exact .inl h0
        · have hy : l[k - 1]? = some (l[k - 1]'(by have := HN.out; omega)) := List.getElem?_eq_getElem _
          refine .inr ⟨h0, _, hy, ?_⟩
          refine Int.not_lt.1 fun hlt => hgo ⟨_, hy, h0, hlt⟩
      have HEX : Hid (k = 0 ∨ ∃ y, l[k - 1]? = some y ∧ y.w ≤ xw) := hide (by
        rcases hex with h | ⟨_, h⟩
        · exact .inl h
        · exact .inr h)
      clear hgo
      rcases hex with hk0 | ⟨h0, y, hy, hle⟩
      focus
        have g0 : decide ((0 : Int) < (k : Int)) = false := by simp; omega
        have g0' : decide (0 < k) = false := by simp; omega
        clear hsr hf hk0
        go_upto_region 2 with (fail)
        go_quiet (fail)
        go_upto_region 4 with (fail)
        obtain ⟨W, hW⟩ : ∃ W, W = wr.drewN nq := ⟨_, rfl⟩
        have HFW : Hid (Fr [] w1 W) := hide (by rw [hW]; exact HF.out.drewN _)
        rw [← hW]
        clear hW g0 g0' d0 d1 e0 e1 hsl hXl
      rotate_left
      focus
        obtain ⟨b, off, cap, hgb, hvv, hbl, c0, c1, -⟩ := hsr.2.1.get hy
        obtain ⟨yw, ya, yn, yc⟩ := y
        rw [← HN.out] at hvv
        injection hvv with hva hvn hvc
        subst hva
        subst hvc
        have hk1 : (0 : Int) ≤ (k : Int) - 1 ∧ (k : Int) - 1 < (n : Int) := by omega
        have hk2 : (1 : Int) ≤ (k : Int) := by omega
        have hk3 : ((k : Int) - 1).toNat = k - 1 := by omega
        have g0 : decide ((0 : Int) < (k : Int)) = true := by simp; omega
        have g0' : decide (0 < k) = true := by simp; omega
        have z1 : IntKind.i64.wrap ((k : Int) - 1) = (k : Int) - 1 := IntWalk.i64_in _ (by omega)
        simp only at c0 c1
        have g1 : decide (xw < yw) = false := by simpa using hle
        clear hsr hf hgb hy h0 hvn hle
        go_upto_region 2 with (fail)
        go_region_held3 (fun W => W.cell? ⟨s, 0, none⟩ = some (.slice (some ⟨b, off, none⟩) n cv) ∧ W.cell? ⟨s, 1, none⟩ = some (.func (.func 69) #[] #[]) ∧ W.cell? ⟨X, 0, none⟩ = some (.int .i64 xw) ∧ W.cell? ⟨X, 1, none⟩ = some (.slice xa xn xc) ∧ W.cell? ⟨b, off + (k - 1) * 2, none⟩ = some (.int .i64 yw) ∧ W.cell? ⟨b, off + (k - 1) * 2 + 1, none⟩ = some (.slice ya yn yc)) (go_keep) (first | ((with_reducible refine (weight31_any ⟨yw, ya, yn, yc⟩ _).mono ?_); rintro e w' ⟨rfl, rfl⟩) | ((with_reducible refine (weight31_any ⟨xw, xa, xn, xc⟩ _).mono ?_); rintro e w' ⟨rfl, rfl⟩))
        go_upto_region 4 with (fail)
        obtain ⟨W, hW⟩ : ∃ W, W = ((wr.alloc (.cells #[.int .i64 yw, .slice ya yn yc] 120)).alloc (.cells #[.int .i64 xw, .slice xa xn xc] 120)).drew := ⟨_, rfl⟩
        have HFW : Hid (Fr [] w1 W) := hide (by rw [hW]; exact ((HF.out.alloc _).alloc _).drew)
        rw [← hW]
        clear hW g0 g0' d0 d1 e0 e1 hsl hXl z1 hk1 hk2 hk3 g1 c0 c1 hbl
      all_goals
        have hsr := HS1.out.fr HFW.out
        have hXb := (HFW.out.block X (lt_of_blk HXB.out) (by simp)).trans HXB.out
        obtain ⟨v', w', g', happ, hp', hf', hg'⟩ := PAt.push (w := W.drew) (SlAt.fr hsr.2.1 ((Fr.refl [] W).drew) (by simp)) ⟨xw, xa, xn, xc⟩ (by have := HN.out; omega)
        have hap : (Builtin.append_ #[118, 118] 118 #[_, .slice (some ⟨W.heap.size, 0, none⟩) 1 1]).run Tryz.prog ((W.alloc (.cells #[.int .i64 xw, .slice xa xn xc] 120)).drew) = .ok v' w' := happ
        have hsg : s ∉ g.toList := fun hm => hsr.2.2 s (by simpa using hm) rfl
        have HP := hide hp'
        have hs' : w'.heap[s]? = _ := (hf'.block s (lt_of_blk hsr.1) hsg).trans hsr.1
        have hXg : X ∉ g.toList := by
          intro hm
          obtain ⟨cur, hc⟩ := SlAt.lt HSI.out.2.1 X (by simpa using hm)
          have := lt_of_blk hc
          have := HXW.out
          omega
        have hX' : w'.heap[X]? = some (.cells #[.int .i64 xw, .slice xa xn xc] 120 (0, 0)) := (hf'.block X (lt_of_blk hXb) hXg).trans hXb
        have HXG : Hid (∀ b, g' = some b → b ≠ X) := hide (by
          intro b hb
          rcases hg' with h | ⟨b2, h1, h2⟩
          · intro hbx
            exact hXg (by rw [← h, hb, hbx]; simp)
          · rw [h1] at hb
            injection hb with hb
            have h3 : W.drew.heap.size = W.heap.size := rfl
            have := lt_of_blk hXb
            omega)
        have HX' := hide hX'
        have HFA : Hid (Fr (s :: g.toList) w1 w') := hide ((HFW.out.mono (T := s :: g.toList) (by simp)).trans ((((Fr.refl (s :: g.toList) W).drew).trans (hf'.mono (fun z hz _ => List.mem_cons_of_mem _ hz)))))
        have HG : Hid (g' = g ∨ ∃ b, g' = some b ∧ w1.heap.size ≤ b) := hide (by
          rcases hg' with h | ⟨b, h1, h2⟩
          · exact .inl h
          · refine .inr ⟨b, h1, ?_⟩
            have h3 : W.drew.heap.size = W.heap.size := rfl
            have := HFW.out.size
            omega)
        have HGS : Hid (∀ b, g' = some b → b ≠ s) := hide (by
          intro b hb
          rcases hg' with h | ⟨b2, h1, h2⟩
          · exact hsr.2.2 b (h ▸ hb)
          · rw [h1] at hb
            injection hb with hb
            have h3 : W.drew.heap.size = W.heap.size := rfl
            have := lt_of_blk hsr.1
            omega)
        have d0 := hsr.c0
        have f0 := froz_blk hsr.1 0
        have hsl := lt_of_blk hsr.1
        have e0 : W.cell? ⟨X, 0, none⟩ = some (.int .i64 xw) := cell_blk hXb 0
        have e1 : W.cell? ⟨X, 1, none⟩ = some (.slice xa xn xc) := cell_blk hXb 1
        have hXl := lt_of_blk hXb
        have d0' : w'.cell? ⟨s, 0, none⟩ = some _ := cell_blk hs' 0
        have f0' := froz_blk hs' 0
        have hsl' := lt_of_blk hs'
        obtain ⟨avx, cvx, hvx⟩ := SlAt.shape hp'
        rw [show (l ++ [(⟨xw, xa, xn, xc⟩ : Rw)]).length = n + 1 by simp; have := HN.out; omega] at hvx
        rw [hvx] at hap
        have HVX := hide hvx
        have HS' := hide hs'
        clear hvx happ hp' hf' hg' hsg hXg hX' hsr hXb hs'
        go_cut [] from 36 to 45 (fun wd => wd = w'.setCell ⟨s, 0, none⟩ (.slice avx (n + 1) cvx))
        case first =>
          go_region_law (first | (refine step_append_run rfl _ _ 118 rfl hap rfl rfl ?_))
          all_goals
            go_wp2
            go_meet
            case rel => rfl
        case rest =>
        obtain rfl := hcut
        clear d0 f0 hsl e0 e1 hXl d0' f0' hsl' hap
        obtain ⟨w5, hw5⟩ : ∃ w5, w5 = w'.setCell ⟨s, 0, none⟩ (.slice avx (n + 1) cvx) := ⟨_, rfl⟩
        have hs5 : w5.heap[s]? = some (.cells #[.slice avx (n + 1) cvx, .func (.func 69) #[] #[]] 125 (0, 0)) := by rw [hw5]; exact heap_set_same HS'.out
        have HF5 : Hid (Fr (s :: g.toList) w1 w5) := hide (by rw [hw5]; exact HFA.out.setCell (.inl (by simp)) _)
        have hp5 : PAt w5 (.slice avx (n + 1) cvx) g' (l ++ [(⟨xw, xa, xn, xc⟩ : Rw)]) := by
          have h1 := HP.out
          rw [HVX.out] at h1
          rw [hw5]
          exact SlAt.fr h1 ((Fr.refl [s] w').setCell (.inl (by simp)) _) (fun b hb => by have := HGS.out b hb; simpa using this)
        have hX5 : w5.heap[X]? = some (.cells #[.int .i64 xw, .slice xa xn xc] 120 (0, 0)) := by
          rw [hw5, heap_set_other (by have := HXS.out; simp; omega)]
          exact HX'.out
        rw [← hw5]
        clear hw5
        have hlen : (l ++ [(⟨xw, xa, xn, xc⟩ : Rw)]).length = n + 1 := by simp; have := HN.out; omega
        have HP5 := hide hp5
        rcases hp5 with ⟨h0, _⟩ | ⟨b', off', cap', cur', hgb', hv', hblk', hnc', hfit', _, hcells'⟩
        · rw [hlen] at *
          rename_i h1 _
          omega
        rw [hlen] at hv' hnc'
        injection hv' with ha' _ hc'
        subst ha'
        subst hc'
        have d0 : w5.cell? ⟨s, 0, none⟩ = some (.slice (some ⟨b', off', none⟩) (n + 1) cvx) := cell_blk hs5 0
        have hsl := lt_of_blk hs5
        have hbl' := lt_of_blk hblk'
        have HCUT : Hid (∀ wd : World, wd = w5.drew ∨ True → True) := hide (fun _ _ => trivial)
        clear HCUT
        go_upto_region 5 with (fail)
        go_cut [] from 46 to 59 (fun wd => Fr [b'] w5 wd ∧ PAt wd (.slice (some ⟨b', off', none⟩) (n + 1) cvx) g' ((l ++ [(⟨xw, xa, xn, xc⟩ : Rw)]).take (k + 1) ++ l.drop k))
        case first =>
          by_cases hkn : k = n
          · subst hkn
            have k1 : (0 : Int) ≤ (k : Int) + 1 := by omega
            have k2 : (k : Int) ≤ (k : Int) + 1 := by omega
            have z1 : IntKind.i64.wrap ((k : Int) + 1) = (k : Int) + 1 := IntWalk.i64_in _ (by omega)
            have z2 : ((k : Int) + 1).toNat = k + 1 := by omega
            have hfin : PAt w5.drew (.slice (some ⟨b', off', none⟩) (k + 1) cvx) g' ((l ++ [(⟨xw, xa, xn, xc⟩ : Rw)]).take (k + 1) ++ l.drop k) := by
              rw [List.take_of_length_le (by omega), List.drop_of_length_le (by have := HN.out; omega), List.append_nil]
              exact SlAt.fr HP5.out ((Fr.refl [] w5).drew) (by simp)
            have HFIN := hide hfin
            have hcn := fun (dp sp : Option Addr) (dc sl sc : Nat) => copy_none49 w5.drew dp sp dc sl sc
            clear hblk' hfit' hcells' hs5 hX5 hfin
            by_cases hcap : cvx = k + 1
            · subst hcap
              go_region_law (first | (refine step_copy_run rfl _ _ 118 rfl (hcn _ _ _ _ _) (by rfl) (by rfl) ?_))
              all_goals
                go_wp2
                go_meet
                case rel => exact ⟨(Fr.refl _ _).drew, HFIN.out⟩
            · have hcap2 : ¬ cvx = k + 1 := hcap
              have hcap3 : (k : Int) + 1 ≤ (cvx : Int) := by omega
              have hcap4 : (k : Int) ≤ (cvx : Int) := by omega
              have hcap5 : ¬ cvx = k := by omega
              go_region_law (first | (refine step_copy_run rfl _ _ 118 rfl (hcn _ _ _ _ _) (by rfl) (by rfl) ?_))
              all_goals
                go_wp2
                go_meet
                case rel => exact ⟨(Fr.refl _ _).drew, HFIN.out⟩
          · have hkl : k < n := by omega
            have k1 : (0 : Int) ≤ (k : Int) + 1 := by omega
            have k2 : (k : Int) ≤ (n : Int) + 1 := by omega
            have k3 : (k : Int) + 1 ≤ (n : Int) + 1 := by omega
            have k4 : (k : Int) + 1 ≤ (cvx : Int) := by omega
            have k5 : (k : Int) ≤ (cvx : Int) := by omega
            have k6 : ¬ cvx = k := by omega
            have k7 : ¬ cvx = k + 1 := by omega
            have z1 : IntKind.i64.wrap ((k : Int) + 1) = (k : Int) + 1 := IntWalk.i64_in _ (by omega)
            have z2 : ((k : Int) + 1).toNat = k + 1 := by omega
            have hdl : (l.drop k).length = n - k := by simp; have := HN.out; omega
            have hrl : (rcs (l.drop k)).length = (n - k) * 2 := by rw [rcs_len, hdl]
            have hrun := run_copy_sz (P := Tryz.prog) w5.drew 118 3 120 2 b' (off' + (k + 1) * 2) (n - k) (cvx - (k + 1)) ⟨b', off' + k * 2, none⟩ (n + 1 - k) (cvx - k) cur' 120 (rcs (l.drop k)) (n - k) Tryz.underlying118 size51 hblk' (by show n - k = min (n + 1 - k) (n - k); omega) hrl (by
              intro j u hj
              rw [Addr.add_lit]
              have hjl := (List.getElem?_eq_some_iff.1 hj).1
              have h2 := hcells' (k * 2 + j) u (by
                rw [rcs_append, List.getElem?_append_left (by rw [rcs_len]; have := HN.out; omega)]
                rw [← hj]
                have e : ∀ (Q : List Rw) (q j : Nat), (rcs (Q.drop q))[j]? = (rcs Q)[q * 2 + j]? := by
                  intro Q
                  induction Q with
                  | nil => intro q j; simp [rcs]
                  | cons z Q ih =>
                    intro q j
                    cases q with
                    | zero => simp
                    | succ q =>
                      rw [List.drop_succ_cons, ih q j]
                      have hz : rcs (z :: Q) = [Value.int .i64 z.w, .slice z.a z.n z.c] ++ rcs Q := rfl
                      rw [hz, List.getElem?_append_right (by simp; omega)]
                      congr 1
                      simp
                      omega
                exact (e l k j).symm)
              show w5.cell? _ = _
              rw [cell_blk hblk', Nat.add_assoc]
              exact h2) (by rw [hrl]; omega) (rcs_one _)
            have hover := PAt.over HP5.out (k + 1) (l.drop k) (by rw [hdl, hlen]; omega) cur' hblk'
            have hfin : PAt ((w5.drew).setRow b' (cur'.toList.take (off' + (k + 1) * 2) ++ rcs (l.drop k) ++ cur'.toList.drop (off' + (k + 1) * 2 + (rcs (l.drop k)).length)).toArray) (.slice (some ⟨b', off', none⟩) (n + 1) cvx) g' ((l ++ [(⟨xw, xa, xn, xc⟩ : Rw)]).take (k + 1) ++ l.drop k) := by
              have h3 : (l ++ [(⟨xw, xa, xn, xc⟩ : Rw)]).drop (k + 1 + (l.drop k).length) = [] := List.drop_of_length_le (by rw [hdl, hlen]; omega)
              rw [h3, List.append_nil] at hover
              exact SlAt.keep hover (fun b _ => rfl)
            have HFIN := hide hfin
            have HFR : Hid (Fr [b'] w5 ((w5.drew).setRow b' (cur'.toList.take (off' + (k + 1) * 2) ++ rcs (l.drop k) ++ cur'.toList.drop (off' + (k + 1) * 2 + (rcs (l.drop k)).length)).toArray)) := hide ⟨rfl, rfl, rfl, by simp, fun q _ hq => setRow_other w5.drew b' q _ (by simpa using hq)⟩
            obtain ⟨wn, hwn⟩ : ∃ wn, wn = (w5.drew).setRow b' (cur'.toList.take (off' + (k + 1) * 2) ++ rcs (l.drop k) ++ cur'.toList.drop (off' + (k + 1) * 2 + (rcs (l.drop k)).length)).toArray := ⟨_, rfl⟩
            rw [← hwn] at hrun HFIN HFR
            clear hblk' hfit' hcells' hs5 hX5 hfin hover hwn hrl hdl hkn
            go_region_law (first | (refine step_copy_run rfl _ _ 118 rfl hrun (by rfl) (by rfl) ?_))
            all_goals
              go_wp2
              go_meet
              case rel => exact ⟨HFR.out, HFIN.out⟩
        case rest =>
        obtain ⟨hfc, hpc⟩ := hcut
        have hbs := HGS.out b' hgb'
        have hbX := HXG.out b' hgb'
        have hs6 := (hfc.block s hsl (by simpa using fun h => hbs h.symm)).trans hs5
        have hX6 := (hfc.block X (lt_of_blk hX5) (by simpa using fun h => hbX h.symm)).trans hX5
        have hml : ((l ++ [(⟨xw, xa, xn, xc⟩ : Rw)]).take (k + 1) ++ l.drop k).length = n + 1 := by
          rw [List.length_append, List.length_take, hlen, List.length_drop]
          have := HN.out
          omega
        have hset : ((l ++ [(⟨xw, xa, xn, xc⟩ : Rw)]).take (k + 1) ++ l.drop k).set k ⟨xw, xa, xn, xc⟩ = insR ⟨xw, xa, xn, xc⟩ l := by
          rw [insR_at ⟨xw, xa, xn, xc⟩ l k (by have := HN.out; omega) HSR.out HGT.out HEX.out]
          have hkl : k ≤ l.length := by have := HN.out; omega
          have h1 : (l ++ [(⟨xw, xa, xn, xc⟩ : Rw)]).take (k + 1) = l.take k ++ [(l ++ [(⟨xw, xa, xn, xc⟩ : Rw)])[k]'(by simp; omega)] := by
            rw [List.take_succ_eq_append_getElem (by simp; omega), List.take_append_of_le_length hkl]
          rw [h1, List.append_assoc, List.set_append_right _ _ (by simp; omega)]
          simp [hkl]
        have HPC := hide hpc
        have HFC := hide hfc
        obtain ⟨z, hz⟩ : ∃ z, ((l ++ [(⟨xw, xa, xn, xc⟩ : Rw)]).take (k + 1) ++ l.drop k)[k]? = some z := ⟨_, List.getElem?_eq_getElem (by rw [hml]; omega)⟩
        obtain ⟨b2, o2, c2, hg2, hv2, hbl2, z0, z1, hfz⟩ := hpc.get hz
        rw [hml] at hv2
        injection hv2 with hv3 _ hv5
        injection hv3 with hv3
        injection hv3 with hv6 hv7 _
        subst hv6 hv7 hv5
        have d6 : wc.cell? ⟨s, 0, none⟩ = some (.slice (some ⟨b', off', none⟩) (n + 1) cvx) := cell_blk hs6 0
        have e0 : wc.cell? ⟨X, 0, none⟩ = some (.int .i64 xw) := cell_blk hX6 0
        have e1 : wc.cell? ⟨X, 1, none⟩ = some (.slice xa xn xc) := cell_blk hX6 1
        have hsl6 := lt_of_blk hs6
        have hXl6 := lt_of_blk hX6
        have q1 : (0 : Int) ≤ (k : Int) ∧ (k : Int) < (n : Int) + 1 := by omega
        have y0 := hfz (off' + k * 2)
        have y1 := hfz (off' + k * 2 + 1)
        have hbs2 : ¬ s = b' := fun h => hbs h.symm
        have hbX2 : ¬ X = b' := fun h => hbX h.symm
        have p0 : ∀ u v, ((wc.setCell ⟨b', off' + k * 2, none⟩ u).setCell ⟨b', off' + k * 2 + 1, none⟩ v).cell? ⟨s, 0, none⟩ = some (.slice (some ⟨b', off', none⟩) (n + 1) cvx) := fun u v => by
          rw [cell_blk (((heap_set_other (by simpa using hbs2)).trans (heap_set_other (by simpa using hbs2))).trans hs6)]; rfl
        have p1 : ∀ u v, ((wc.setCell ⟨b', off' + k * 2, none⟩ u).setCell ⟨b', off' + k * 2 + 1, none⟩ v).cell? ⟨X, 0, none⟩ = some (.int .i64 xw) := fun u v => by
          rw [cell_blk (((heap_set_other (by simpa using hbX2)).trans (heap_set_other (by simpa using hbX2))).trans hX6)]; rfl
        have p2 : ∀ u v, ((wc.setCell ⟨b', off' + k * 2, none⟩ u).setCell ⟨b', off' + k * 2 + 1, none⟩ v).cell? ⟨X, 1, none⟩ = some (.slice xa xn xc) := fun u v => by
          rw [cell_blk (((heap_set_other (by simpa using hbX2)).trans (heap_set_other (by simpa using hbX2))).trans hX6)]; rfl
        have HFIN : Hid (IPst s g (insR ⟨xw, xa, xn, xc⟩ l) w (.returned (.tuple #[])) (((wc.setCell ⟨b', off' + k * 2, none⟩ (.int .i64 xw)).setCell ⟨b', off' + k * 2 + 1, none⟩ (.slice xa xn xc)).drew)) := by
          refine hide ⟨rfl, .slice (some ⟨b', off', none⟩) (n + 1) cvx, g', ⟨((heap_set_other (by simpa using hbs2)).trans (heap_set_other (by simpa using hbs2))).trans hs6, ?_, HGS.out⟩, ?_, ?_⟩
          · have h1 := PAt.put HPC.out k ⟨xw, xa, xn, xc⟩ (by rw [hml]; omega)
            rw [hset] at h1
            exact SlAt.keep h1 (fun _ _ => rfl)
          · have hbin : b' ∈ s :: g.toList ∨ w.heap.size ≤ b' := by
              rcases HG.out with h | ⟨b9, h1, h2⟩
              · left
                rw [← h, hgb']
                simp
              · right
                rw [hgb'] at h1
                injection h1 with h1
                have := HF1.out.size
                omega
            have hf6 : Fr (s :: g.toList) w wc := ((HF1.out.mono (T := s :: g.toList) (by simp)).trans HF5.out).andThen HFC.out (fun y hy => by
              rw [List.mem_singleton.1 hy]; exact hbin)
            exact ((hf6.setCell hbin _).setCell hbin _).drew
          · rcases HG.out with h | ⟨b9, h1, h2⟩
            · exact .inl h
            · exact .inr ⟨b9, h1, by have := HF1.out.size; omega⟩
        clear hfc hpc hs6 hX6 hml hset hz hg2 hbl2 hfz hs5 hX5 hblk' hfit' hcells' hnc' hgb' hlen hbs hbX
        go_upto_region 6 with (fail)
        go_region_held3 (fun W => W.cell? ⟨s, 0, none⟩ = some (.slice (some ⟨b', off', none⟩) (n + 1) cvx) ∧ W.cell? ⟨X, 0, none⟩ = some (.int .i64 xw) ∧ W.cell? ⟨X, 1, none⟩ = some (.slice xa xn xc)) (go_keep) (fail)
        all_goals
          go_wp2_with fail
          refine bodyPost_ret (results_none rfl _ _ _) rfl ?_
          exact HFIN.out
end Go.Proofs.YthmhcnnigepohaaGreatDoor.Hf
