/- The pool's Set. -/
import Derived.Test.YtnghfmefjjkgdaaPress
import Derived.Deep.QuietTactic
import Derived.BigQuiet
import Derived.Deep.LoopGhost
import Derived.Deep.DeepCutAuto
namespace Go.Proofs.Ytnghfmefjjkgdaa
open Go.RowKit Go.ChangeMaps

def accOf (p : Pl) (o : Int) : Int × Int := (mget p.M o).getD (0, 0)
def tickB (total u : Int) (i : Nat) (b : Bool) : Bool :=
  if b = false ∧ total * (9 + i) / 16 < u then true else if b = true ∧ u < total * (8 + i) / 16 then false else b
def ticked (total u : Int) (off : Nat → Bool) (k : Nat) : Nat → Bool := fun i => if 1 ≤ i ∧ i ≤ k then tickB total u i (off i) else off i
def setBad (o n v : Int) : Bool := decide (o < 1 ∨ n < 0 ∨ 1073741824 < n ∨ v < 0 ∨ 3 < v)
def setPl (p : Pl) (o n v : Int) : Pl :=
  if setBad o n v = true then p else
    let u := p.used + (n - (accOf p o).1)
    { p with used := u, peak := max p.peak u, off := ticked p.total u p.off 6, M := if n = 0 then mdel p.M o else mput p.M o (n, v) }

structure Pl.Ok (p : Pl) : Prop where
  total : 1024 ≤ p.total ∧ p.total ≤ 1073741824
  used : 0 ≤ p.used ∧ p.used ≤ 1000000000000
  acc : ∀ x ∈ p.M, 0 ≤ x.2.1 ∧ x.2.1 ≤ 1073741824

theorem zero86 (W : World) : (zeroValue 86).run Try.prog W = .ok (eAcc (0, 0)) W := by kernel_rfl

theorem tick_div {t a : Int} {k : Nat} (ht : 1024 ≤ t ∧ t ≤ 1073741824) (ha : 0 ≤ a ∧ a ≤ 9) (hk : k ≤ 6) : wrap64 ((wrap64 (t * (a + ((k : Int) + 1)))).tdiv 16) = t * (a + ((k + 1 : Nat) : Int)) / 16 := by
  have h1 : 0 ≤ t * (a + ((k : Int) + 1)) := Int.mul_nonneg (by omega) (by omega)
  have h2 : t * (a + ((k : Int) + 1)) ≤ 1073741824 * 16 := Int.mul_le_mul ht.2 (by omega) (by omega) (by omega)
  have e : (a + ((k + 1 : Nat) : Int)) = a + ((k : Int) + 1) := by omega
  rw [e]
  generalize t * (a + ((k : Int) + 1)) = T at *
  have h3 : wrap64 T = T := by unfold wrap64; omega
  rw [h3, Int.tdiv_eq_ediv_of_nonneg h1]
  unfold wrap64
  omega
theorem ticked_succ (t u : Int) (off : Nat → Bool) (k : Nat) :
    ticked t u off (k + 1) = fun j => if j = k + 1 then (if off (k + 1) = false ∧ t * (9 + ((k + 1 : Nat) : Int)) / 16 < u then true else if off (k + 1) = true ∧ u < t * (8 + ((k + 1 : Nat) : Int)) / 16 then false else off (k + 1)) else ticked t u off k j := by
  funext j
  by_cases hj : j = k + 1
  · subst hj
    unfold ticked tickB
    rw [if_pos (by omega), if_pos rfl]
  · rw [if_neg hj]
    unfold ticked
    by_cases h2 : 1 ≤ j ∧ j ≤ k
    · rw [if_pos h2, if_pos (by omega)]
    · rw [if_neg h2, if_neg (by omega)]
theorem PoolIs.setOff {w : World} {pb bm : Nat} {p : Pl} (h : PoolIs w pb bm p) (i : Nat) (hi : i < 7) (x : Bool) : PoolIs (w.setCell ⟨pb, 4 + i, none⟩ (.bool x)) pb bm { p with off := fun j => if j = i then x else p.off j } := by
  refine ⟨?_, h.map.keep (heap_set_other (by exact h.ne.symm))⟩
  rw [heap_set, h.blk]
  match i, hi with
  | 0, _ => rfl
  | 1, _ => rfl
  | 2, _ => rfl
  | 3, _ => rfl
  | 4, _ => rfl
  | 5, _ => rfl
  | 6, _ => rfl
theorem PoolIs.ext {w : World} {pb bm : Nat} {p q : Pl} (h : PoolIs w pb bm p) (e : p = q) : PoolIs w pb bm q := e ▸ h

set_option maxRecDepth 100000 in
set_option maxHeartbeats 1000000 in
theorem pset_any (pb bm : Nat) (p : Pl) (o n v : Int) (w : World) (h : PoolIs w pb bm p) (ok : p.Ok) :
    Calls Try.prog 24 #[.pointer (some ⟨pb, 0, none⟩), .int .i64 o, .int .i64 n, .int .i64 v] w fun e w' => e = .returned (.tuple #[]) ∧ PoolIs w' pb bm (setPl p o n v) ∧ Fr [pb, bm] w w' := by
  by_cases hbad : o < 1 ∨ n < 0 ∨ 1073741824 < n ∨ v < 0 ∨ 3 < v
  · have hs : setPl p o n v = p := by unfold setPl setBad; rw [if_pos (decide_eq_true hbad)]
    rw [hs]
    have HP := hide h
    clear hs h
    go_enter Try.func24, Try.ntmps24
    go_wp2
    all_goals first
      | (exfalso; omega)
      | (refine bodyPost_ret (results_none rfl _ _ _) rfl ?_; exact ⟨rfl, HP.out, Fr.refl _ _⟩)
  have hg : 1 ≤ o ∧ (0 ≤ n ∧ n ≤ 1073741824) ∧ 0 ≤ v ∧ v ≤ 3 := by omega
  obtain ⟨n0, v0, hacc⟩ : ∃ n0 v0, accOf p o = (n0, v0) := ⟨_, _, rfl⟩
  have hn0 : 0 ≤ n0 ∧ n0 ≤ 1073741824 := by
    have h1 : n0 = (accOf p o).1 := by rw [hacc]
    rw [h1]
    unfold accOf
    cases hm : mget p.M o with
    | none => simp
    | some x => exact ok.acc _ (mget_some hm)
  have hl : (Instr.lookup 78 (.map (some bm)) (.int .i64 o) false).run Try.prog w.drew = .ok (.agg #[.int .i64 n0, .int .i64 v0]) w.drew := by
    have hW : MapIs eInt eAcc w.drew bm p.M := h.map.keep rfl
    have h1 := MapIs.lookup keyOk3 Try.underlying78 (zero86 w.drew) hW o false
    rw [show (Value.int IntKind.i64 o) = eInt o from rfl, h1]
    have h2 : accOf p o = (n0, v0) := hacc
    unfold accOf at h2
    cases hm : mget p.M o with
    | none => rw [hm] at h2; simp at h2; obtain ⟨rfl, rfl⟩ := h2; rfl
    | some x => rw [hm] at h2; simp at h2; rw [h2]; rfl
  have hfd : (Instr.field 86 (.agg #[.int .i64 n0, .int .i64 v0]) 0).run Try.prog w.drew = .ok (.int .i64 n0) w.drew := by kernel_rfl
  have hu := ok.used
  have ht := ok.total
  have HP := hide h
  have HOK := hide ok
  have HACC := hide hacc
  have hblk := h.blk
  have hne := h.ne
  have hpb := lt_of_blk hblk
  clear h ok hacc hbad
  have c0 : w.cell? ⟨pb, 0, none⟩ = some (.int .i64 p.total) := cell_blk hblk 0
  have c1 : w.cell? ⟨pb, 1, none⟩ = some (.int .i64 p.used) := cell_blk hblk 1
  have c2 : w.cell? ⟨pb, 2, none⟩ = some (.int .i64 p.peak) := cell_blk hblk 2
  have c3 : w.cell? ⟨pb, 3, none⟩ = some (.int .i64 p.left) := cell_blk hblk 3
  have c4 : w.cell? ⟨pb, 4, none⟩ = some (.bool (p.off 0)) := cell_blk hblk 4
  have c5 : w.cell? ⟨pb, 5, none⟩ = some (.bool (p.off 1)) := cell_blk hblk 5
  have c6 : w.cell? ⟨pb, 6, none⟩ = some (.bool (p.off 2)) := cell_blk hblk 6
  have c7 : w.cell? ⟨pb, 7, none⟩ = some (.bool (p.off 3)) := cell_blk hblk 7
  have c8 : w.cell? ⟨pb, 8, none⟩ = some (.bool (p.off 4)) := cell_blk hblk 8
  have c9 : w.cell? ⟨pb, 9, none⟩ = some (.bool (p.off 5)) := cell_blk hblk 9
  have c10 : w.cell? ⟨pb, 10, none⟩ = some (.bool (p.off 6)) := cell_blk hblk 10
  have c11 : w.cell? ⟨pb, 11, none⟩ = some (.map (some bm)) := cell_blk hblk 11
  have cf0 : w.frozen? ⟨pb, 0, none⟩ = false := froz_blk hblk 0
  have cf1 : w.frozen? ⟨pb, 1, none⟩ = false := froz_blk hblk 1
  have cf2 : w.frozen? ⟨pb, 2, none⟩ = false := froz_blk hblk 2
  have cf3 : w.frozen? ⟨pb, 3, none⟩ = false := froz_blk hblk 3
  have cf4 : w.frozen? ⟨pb, 4, none⟩ = false := froz_blk hblk 4
  have cf5 : w.frozen? ⟨pb, 5, none⟩ = false := froz_blk hblk 5
  have cf6 : w.frozen? ⟨pb, 6, none⟩ = false := froz_blk hblk 6
  have cf7 : w.frozen? ⟨pb, 7, none⟩ = false := froz_blk hblk 7
  have cf8 : w.frozen? ⟨pb, 8, none⟩ = false := froz_blk hblk 8
  have cf9 : w.frozen? ⟨pb, 9, none⟩ = false := froz_blk hblk 9
  have cf10 : w.frozen? ⟨pb, 10, none⟩ = false := froz_blk hblk 10
  have cf11 : w.frozen? ⟨pb, 11, none⟩ = false := froz_blk hblk 11
  clear hblk
  go_enter Try.func24, Try.ntmps24
  go_upto_region 1 with (fail)
  go_cut [] from 31 to 47 (fun wd => wd = w.drew.setCell ⟨pb, 1, none⟩ (.int .i64 (p.used + (n - n0))))
  case first =>
    go_region
    all_goals
      go_wp2
      go_meet
      case rel => rfl
  case rest =>
  obtain ⟨u, hu2⟩ : ∃ u, u = p.used + (n - n0) := ⟨_, rfl⟩
  rw [← hu2] at hcut
  have hP1 : PoolIs wc pb bm { p with used := u } := by
    rw [hcut]
    exact ⟨by rw [heap_set, show w.drew.heap[pb]? = _ from HP.out.blk]; rfl, HP.out.map.keep (by rw [heap_set_other (by exact hne.symm)]; rfl)⟩
  have hF1 : Fr [pb, bm] w wc := by rw [hcut]; exact ((Fr.refl _ _).drew).setCell (.inl (by simp)) _
  have HP1 := hide hP1
  have HF1 := hide hF1
  have HU := hide hu2
  have hub : -1073741824 ≤ u ∧ u ≤ 1001073741824 := by omega
  have hblk1 := hP1.blk
  clear hcut hP1 hF1 hu2 c0 c1 c2 c3 c4 c5 c6 c7 c8 c9 c10 c11 cf0 cf1 cf2 cf3 cf4 cf5 cf6 cf7 cf8 cf9 cf10 cf11 hl hfd
  have c0 : wc.cell? ⟨pb, 0, none⟩ = some (.int .i64 p.total) := cell_blk hblk1 0
  have c1 : wc.cell? ⟨pb, 1, none⟩ = some (.int .i64 u) := cell_blk hblk1 1
  have c2 : wc.cell? ⟨pb, 2, none⟩ = some (.int .i64 p.peak) := cell_blk hblk1 2
  have c3 : wc.cell? ⟨pb, 3, none⟩ = some (.int .i64 p.left) := cell_blk hblk1 3
  have c4 : wc.cell? ⟨pb, 4, none⟩ = some (.bool (p.off 0)) := cell_blk hblk1 4
  have c5 : wc.cell? ⟨pb, 5, none⟩ = some (.bool (p.off 1)) := cell_blk hblk1 5
  have c6 : wc.cell? ⟨pb, 6, none⟩ = some (.bool (p.off 2)) := cell_blk hblk1 6
  have c7 : wc.cell? ⟨pb, 7, none⟩ = some (.bool (p.off 3)) := cell_blk hblk1 7
  have c8 : wc.cell? ⟨pb, 8, none⟩ = some (.bool (p.off 4)) := cell_blk hblk1 8
  have c9 : wc.cell? ⟨pb, 9, none⟩ = some (.bool (p.off 5)) := cell_blk hblk1 9
  have c10 : wc.cell? ⟨pb, 10, none⟩ = some (.bool (p.off 6)) := cell_blk hblk1 10
  have c11 : wc.cell? ⟨pb, 11, none⟩ = some (.map (some bm)) := cell_blk hblk1 11
  have cf0 : wc.frozen? ⟨pb, 0, none⟩ = false := froz_blk hblk1 0
  have cf1 : wc.frozen? ⟨pb, 1, none⟩ = false := froz_blk hblk1 1
  have cf2 : wc.frozen? ⟨pb, 2, none⟩ = false := froz_blk hblk1 2
  have cf3 : wc.frozen? ⟨pb, 3, none⟩ = false := froz_blk hblk1 3
  have cf4 : wc.frozen? ⟨pb, 4, none⟩ = false := froz_blk hblk1 4
  have cf5 : wc.frozen? ⟨pb, 5, none⟩ = false := froz_blk hblk1 5
  have cf6 : wc.frozen? ⟨pb, 6, none⟩ = false := froz_blk hblk1 6
  have cf7 : wc.frozen? ⟨pb, 7, none⟩ = false := froz_blk hblk1 7
  have cf8 : wc.frozen? ⟨pb, 8, none⟩ = false := froz_blk hblk1 8
  have cf9 : wc.frozen? ⟨pb, 9, none⟩ = false := froz_blk hblk1 9
  have cf10 : wc.frozen? ⟨pb, 10, none⟩ = false := froz_blk hblk1 10
  have cf11 : wc.frozen? ⟨pb, 11, none⟩ = false := froz_blk hblk1 11
  clear hblk1
  obtain ⟨M', hM'⟩ : ∃ M', M' = if n = 0 then mdel p.M o else mput p.M o (n, v) := ⟨_, rfl⟩
  have HM' := hide hM'
  clear hM'
  have hset : ∀ es' c', MapRep eInt eAcc es' c' M' → PoolIs (setBlock wc bm (.map es' c')) pb bm { p with used := u, M := M' } ∧ Fr [pb, bm] w (setBlock wc bm (.map es' c')) := by
    intro es' c' hr
    refine ⟨⟨(heap_blk_other hne).trans HP1.out.blk, es', c', heap_blk_same HP1.out.map.lt, hr⟩, HF1.out.setBlock (.inl (by simp)) _⟩
  have HSET := hide hset
  clear hset
  go_upto_if 48 with (fail)
  go_cut [2] from 9 to 62 (fun s2 wd => s2 = .int .i64 n ∧ PoolIs wd pb bm { p with used := u, M := M' } ∧ Fr [pb, bm] w wd)
  case first =>
    obtain ⟨es1, k1, hdel, hrep1⟩ := MapIs.delete keyOk3 Try.underlying78 (w := wc) HP1.out.map o 0 3
    obtain ⟨es2, k2, hup, hrep2⟩ := MapIs.update keyOk3 Try.underlying78 (w := wc) HP1.out.map o (n, v)
    have HR1 := hide (fun (hn : n = 0) => (by rw [HM'.out, if_pos hn]; exact hrep1 : MapRep eInt eAcc es1 k1 M'))
    have HR2 := hide (fun (hn : ¬ n = 0) => (by rw [HM'.out, if_neg hn]; exact hrep2 : MapRep eInt eAcc es2 k2 M'))
    clear hrep1 hrep2
    simp only [eInt, eAcc] at hdel hup
    by_cases hn : n = 0
    · go_wp2
      go_meet
      case rel => exact ⟨by rw [hn], HSET.out _ _ (HR1.out hn)⟩
    · go_wp2
      go_meet
      case rel => exact ⟨rfl, HSET.out _ _ (HR2.out hn)⟩
  case rest =>
  obtain ⟨rfl, hP2, hF2⟩ := hcut
  have HP2 := hide hP2
  have HF2 := hide hF2
  clear hP2 hF2 HP1 HF1 HSET c0 c1 c2 c3 c4 c5 c6 c7 c8 c9 c10 c11 cf0 cf1 cf2 cf3 cf4 cf5 cf6 cf7 cf8 cf9 cf10 cf11
  go_wp2_with fail
  go_loopg [8] 7 (fun gk i wr => ∃ k : Nat, gk = 7 - k ∧ k ≤ 6 ∧ i = .int .i64 ((k : Int) + 1) ∧ PoolIs wr pb bm { p with used := u, M := M', off := ticked p.total u p.off k } ∧ Fr [pb, bm] w wr)
  case atStart => exact ⟨0, rfl, by omega, rfl, (by
    have h0 : ticked p.total u p.off 0 = p.off := by funext i; unfold ticked; rw [if_neg (by omega)]
    rw [h0]; exact HP2.out), HF2.out⟩
  case round =>
    obtain ⟨k, hgk, hk, rfl, hp, hf⟩ := hrel
    have HGK := hide hgk
    have HPK := hide hp
    have HFK := hide hf
    clear hgk hf
    by_cases hlt : k < 6
    · obtain ⟨bo, hbo⟩ : ∃ bo, bo = p.off (k + 1) := ⟨_, rfl⟩
      have hoff := hp.offAt (k + 1) (by omega)
      have htk : ticked p.total u p.off k (k + 1) = bo := by unfold ticked; rw [if_neg (by omega), hbo]
      dsimp only at hoff
      rw [htk] at hoff
      have foff : wr.frozen? ⟨pb, 4 + (k + 1), none⟩ = false := froz_blk hp.blk _
      have d0 : wr.cell? ⟨pb, 0, none⟩ = some (.int .i64 p.total) := by rw [cell_blk hp.blk]; rfl
      have d1 : wr.cell? ⟨pb, 1, none⟩ = some (.int .i64 u) := by rw [cell_blk hp.blk]; rfl
      have HBO := hide hbo
      have HTK := hide htk
      clear htk hp hbo
      obtain ⟨D1, hD1⟩ : ∃ D1, D1 = p.total * (9 + ((k + 1 : Nat) : Int)) / 16 := ⟨_, rfl⟩
      obtain ⟨D2, hD2⟩ : ∃ D2, D2 = p.total * (8 + ((k + 1 : Nat) : Int)) / 16 := ⟨_, rfl⟩
      have hq1 : wrap64 ((wrap64 (p.total * (9 + ((k : Int) + 1)))).tdiv 16) = D1 := by
        rw [hD1]; exact tick_div ht (by omega) (by omega)
      have hq2 : wrap64 ((wrap64 (p.total * (8 + ((k : Int) + 1)))).tdiv 16) = D2 := by
        rw [hD2]; exact tick_div ht (by omega) (by omega)
      have htick : Hid (∀ x, x = (if bo = false ∧ D1 < u then true else if bo = true ∧ u < D2 then false else bo) → ticked p.total u p.off (k + 1) = fun j => if j = k + 1 then x else ticked p.total u p.off k j) := by
        show ∀ x, _ → _
        rintro x rfl
        rw [hD1, hD2, HBO.out]
        exact ticked_succ _ _ _ _
      clear hD1 hD2
      have HT := htick
      clear htick
      have hsize := lt_of_blk HPK.out.blk
      have hst : Hid (∀ (X : World) x, X.heap = wr.heap → Fr [pb, bm] w X → ticked p.total u p.off (k + 1) = (fun j => if j = k + 1 then x else ticked p.total u p.off k j) → PoolIs (X.setCell ⟨pb, 4 + (k + 1), none⟩ (.bool x)) pb bm { p with used := u, M := M', off := ticked p.total u p.off (k + 1) } ∧ Fr [pb, bm] w (X.setCell ⟨pb, 4 + (k + 1), none⟩ (.bool x))) := by
        show ∀ X x, _ → _
        intro X x hX hF hx
        have h1 : PoolIs X pb bm { p with used := u, M := M', off := ticked p.total u p.off k } := HPK.out.keep (by rw [hX]) (by rw [hX])
        exact ⟨(h1.setOff (k + 1) (by omega) x).ext (by rw [hx]), hF.setCell (.inl (by simp)) _⟩
      have hsame : Hid (∀ (X : World), X.heap = wr.heap → Fr [pb, bm] w X → ticked p.total u p.off (k + 1) = (fun j => if j = k + 1 then bo else ticked p.total u p.off k j) → PoolIs X pb bm { p with used := u, M := M', off := ticked p.total u p.off (k + 1) } ∧ Fr [pb, bm] w X) := by
        show ∀ X, _ → _
        intro X hX hF hx
        have h1 : PoolIs X pb bm { p with used := u, M := M', off := ticked p.total u p.off k } := HPK.out.keep (by rw [hX]) (by rw [hX])
        refine ⟨h1.ext ?_, hF⟩
        rw [hx]
        congr 1
        funext j
        by_cases hj : j = k + 1
        · rw [if_pos hj, hj, ← HTK.out]
        · rw [if_neg hj]
      cases bo
      · go_upto_region 8 with (fail)
        go_quiet (fail)
        rw [hq1]
        by_cases hc : D1 < u
        · go_wp2
          go_roundg (7 - (k + 1))
          case measure => have := HGK.out; omega
          case rel =>
            exact ⟨k + 1, rfl, by omega, by go_num, hst.out _ _ rfl (HFK.out.drewN _) (HT.out true (by simp [hc]))⟩
        · have hc' := decide_eq_false hc
          rw [hc']
          go_upto_region 10 with (fail)
          go_quiet (fail)
          go_wp2
          go_roundg (7 - (k + 1))
          case measure => have := HGK.out; omega
          case rel =>
            exact ⟨k + 1, rfl, by omega, by go_num, hsame.out _ rfl (HFK.out.drewN _) (HT.out false (by simp [hc]))⟩
      · go_upto_region 8 with (fail)
        go_quiet (fail)
        go_upto_region 10 with (fail)
        go_quiet (fail)
        rw [hq2]
        by_cases hc : u < D2
        · go_wp2
          go_roundg (7 - (k + 1))
          case measure => have := HGK.out; omega
          case rel =>
            exact ⟨k + 1, rfl, by omega, by go_num, hst.out _ _ rfl (HFK.out.drewN _) (HT.out false (by simp [hc]))⟩
        · have hc' := decide_eq_false hc
          rw [hc']
          go_wp2
          go_roundg (7 - (k + 1))
          case measure => have := HGK.out; omega
          case rel =>
            exact ⟨k + 1, rfl, by omega, by go_num, hsame.out _ rfl (HFK.out.drewN _) (HT.out true (by simp [hc]))⟩
    · have hk6 : k = 6 := by omega
      subst hk6
      clear hp
      have hblk6 := HPK.out.blk
      have hsize := lt_of_blk hblk6
      have hfin : Hid (∀ x, x = max p.peak u → PoolIs ((wr.setCell ⟨pb, 2, none⟩ (.int .i64 x)).drew) pb bm (setPl p o n v) ∧ Fr [pb, bm] w ((wr.setCell ⟨pb, 2, none⟩ (.int .i64 x)).drew)) := by
        show ∀ x, _ → _
        rintro x rfl
        have h1 : PoolIs ((wr.setCell ⟨pb, 2, none⟩ (.int .i64 (max p.peak u))).drew) pb bm { p with used := u, peak := max p.peak u, off := ticked p.total u p.off 6, M := M' } := by
          refine ⟨?_, HPK.out.map.keep (heap_set_other (by exact hne.symm))⟩
          rw [heap_drew, heap_set, HPK.out.blk]
          rfl
        refine ⟨h1.ext ?_, ((HFK.out).setCell (.inl (by simp)) _).drew⟩
        unfold setPl
        have hb : ¬ setBad o n v = true := by unfold setBad; simp only [decide_eq_true_eq]; omega
        rw [if_neg hb]
        simp only [HACC.out, ← HU.out, HM'.out]
      have e2 : wr.cell? ⟨pb, 2, none⟩ = some (.int .i64 p.peak) := by rw [cell_blk hblk6]; rfl
      have e1 : wr.cell? ⟨pb, 1, none⟩ = some (.int .i64 u) := by rw [cell_blk hblk6]; rfl
      have f2 : wr.frozen? ⟨pb, 2, none⟩ = false := froz_blk hblk6 _
      clear hblk6
      go_upto_region 12 with (fail)
      go_region
      all_goals go_wp2
      all_goals
        refine bodyPost_end (results_none rfl _ _ _) rfl ?_
        exact ⟨rfl, hfin.out _ (by omega)⟩
end Go.Proofs.Ytnghfmefjjkgdaa

