/- slices.Repeat of one number. -/
import Derived.Test.YthmhcnnigepohaaGreatDoorM13
import Derived.Test.YthmhcnnigepohaaGreatDoorM14
import Derived.Test.YthmhcnnigepohaaGreatDoorM15
import Derived.Deep.RegionLaw
import Derived.Deep.RegionHeld3
namespace Go.Proofs.YthmhcnnigepohaaGreatDoor.If
open Go.RowKit
open Hf
set_option linter.unusedVariables false

theorem wpList_copy_run {P : Program} {w : World} {ops : Array Oper} {rest : List Oper} {Q : Exit → Act → World → Prop} {a : Act} {o : Oper} (hg : o.guard = none) (s x : Operand) (t : TypeId)
    (ho : o.op = .call { callee := .builtin .copy, args := #[s, x], argTypes := #[t, t] }) {v y v' : Value} {w' : World} (hrun : (Builtin.copy_ #[t, t] o.type #[v, y]).run P w = .ok v' w')
    (hs : a.eval s = v) (hx : a.eval x = y) (h : wpList P ops Q rest (a.put o.dst v') w') : wpList P ops Q (o :: rest) a w := by
  refine wpList_plain hg fun K hK => ?_
  unfold Oper.wp execOp
  simp only [ho, resolve, invoke, builtin, Sem.run_bind, Sem.run_pure, Result.andThen_ok, List.map_toArray, List.map_cons, List.map_nil, hs, hx, hrun]
  exact hK _ _ h
/-- A block of n numbers, of which the first k are v. -/
def Fil (w : World) (R n k : Nat) (v : Int) : Prop := ∃ cs, w.heap[R]? = some (.cells cs 3 (0, 0)) ∧ cs.size = n ∧ ∀ i, i < k → cs[i]? = some (.int .i64 v)
def RepPost (n : Nat) (v : Int) (w : World) (e : Ending) (w' : World) : Prop :=
  e = .returned (.slice (some ⟨w.heap.size, 0, none⟩) n n) ∧ Fil w' w.heap.size n n v ∧ Fr [] w w'

theorem Fil.copy {w : World} {R n k : Nat} {v : Int} (h : Fil w R n k v) (hk : 1 ≤ k) (hkn : k ≤ n) : ∃ w', (Builtin.copy_ #[77, 77] 3 #[.slice (some ⟨R, k, none⟩) (n - k) (n - k), .slice (some ⟨R, 0, none⟩) k n]).run Tryz.prog w = .ok (.int .i64 ((min k (n - k) : Nat) : Int)) w' ∧ Fil w' R n (k + min k (n - k)) v ∧ Fr [R] w w' := by
  obtain ⟨cs, h1, h2, h3⟩ := h
  have hcl : (List.replicate (min k (n - k)) (Value.int .i64 v)).length = min k (n - k) := by simp
  have hrun := run_copy_sz (P := Tryz.prog) w 77 3 3 1 R k (n - k) (n - k) ⟨R, 0, none⟩ k n cs 3 (List.replicate (min k (n - k)) (.int .i64 v)) (min k (n - k)) Tryz.underlying77 (by kernel_rfl) h1 rfl (by rw [hcl, Nat.mul_one]) (fun j u hj => by
    rw [List.getElem?_replicate] at hj
    split at hj
    · rename_i h5
      injection hj with hj
      rw [Addr.add_lit, cell_blk h1, Nat.zero_add, h3 j (by omega), hj]
    · cases hj) (by rw [hcl, h2]; omega) (fun u hu => by rw [(List.mem_replicate.1 hu).2]; rfl)
  refine ⟨_, hrun, ⟨_, setRow_heap w R cs _ 3 _ h1, by simp; omega, fun i hi => ?_⟩, ?_⟩
  · rw [List.getElem?_toArray, List.append_assoc]
    by_cases hik : i < k
    · rw [List.getElem?_append_left (by simp; omega), List.getElem?_take, if_pos hik]
      simpa using h3 i hik
    · rw [List.getElem?_append_right (by simp; omega), List.getElem?_append_left (by simp; omega), List.getElem?_replicate, if_pos (by simp; omega)]
  · exact ⟨rfl, rfl, rfl, by simp, fun b hb hn => setRow_other w R b _ (by simpa using hn)⟩

set_option maxRecDepth 100000 in
set_option maxHeartbeats 4000000 in
theorem repeat48_one (v : Int) (b n : Nat) (w : World) (hv : w.heap[b]? = some (.cells #[.int .i64 v] 3 (0, 0))) (h1 : 1 ≤ n) (h2 : n ≤ 100000) :
    Calls Tryz.prog 48 #[.slice (some ⟨b, 0, none⟩) 1 1, .int .i64 n] w (RepPost n v w) := by
  have HV := hide hv
  have HM := hide (Tryz.bits_Mul 1 n (by omega) (by omega) w)
  have e1 : 1 * n / 18446744073709551616 = 0 := by omega
  have e2 : 1 * n % 18446744073709551616 = n := by omega
  rw [e1, e2] at HM
  obtain ⟨R, hR⟩ : ∃ R, R = w.heap.size := ⟨_, rfl⟩
  obtain ⟨w1, hw1⟩ : ∃ w1, w1 = w.alloc (.cells (madeCells #[.int .i64 0] n) 3) := ⟨_, rfl⟩
  have HR := hide hR
  have HW := hide hw1
  have hbl := lt_of_blk hv
  have hmk : (Instr.makeSlice 77 (.int .i64 n) (.int .i64 n)).run Tryz.prog w = .ok (.slice (some ⟨R, 0, none⟩) n n) w1 := by rw [hR, hw1]; exact mk_ints n (by omega) w
  have hR1 : w1.heap[R]? = some (.cells (madeCells #[.int .i64 0] n) 3 (0, 0)) := by rw [hR, hw1]; exact heap_alloc_eq rfl
  have hb1 : w1.cell? ⟨b, 0, none⟩ = some (.int .i64 v) := by rw [hw1]; exact (cell_blk ((heap_alloc_lt hbl).trans hv) 0).trans rfl
  have hcp1 := run_copy_sz (P := Tryz.prog) w1 77 3 3 1 R 0 n n ⟨b, 0, none⟩ 1 1 (madeCells #[.int .i64 0] n) 3 [Value.int .i64 v] 1 Tryz.underlying77 (by kernel_rfl) hR1 (by show 1 = min 1 n; omega) rfl (fun j u hj => by
    rcases Nat.eq_zero_or_pos j with rfl | hj0
    · simp at hj; subst hj; exact hb1
    · rw [List.getElem?_eq_none (by simp; omega)] at hj; cases hj) (by simp [size_madeCells]; omega) (by simp [Value.oneCell'])
  obtain ⟨w2, hw2⟩ : ∃ w2, w2 = w1.setRow R ((madeCells #[.int .i64 0] n).toList.take 0 ++ [Value.int .i64 v] ++ (madeCells #[.int .i64 0] n).toList.drop (0 + [Value.int .i64 v].length)).toArray := ⟨_, rfl⟩
  rw [← hw2] at hcp1
  have hcp : (Builtin.copy_ #[77, 77] 3 #[.slice (some ⟨R, 0, none⟩) n n, .slice (some ⟨b, 0, none⟩) 1 1]).run Tryz.prog w1 = .ok (.int .i64 1) w2 := hcp1
  have HFI : Hid (Fil w2 R n 1 v) := by
    refine hide ⟨_, by rw [hw2]; exact setRow_heap w1 R _ _ 3 _ hR1, by simp [size_madeCells]; omega, fun i hi => ?_⟩
    obtain rfl : i = 0 := by omega
    simp
  have HF2 : Hid (Fr [] w w2) := hide ((by rw [hw1]; exact (Fr.refl [] w).alloc _ : Fr [] w w1).andThen (T := [R]) ⟨by rw [hw2]; rfl, by rw [hw2]; rfl, by rw [hw2]; rfl, by rw [hw2]; simp, fun k hk hn => by rw [hw2]; exact setRow_other w1 R k _ (by simpa using hn)⟩ (by simp; omega))
  have hh1 : (1 : Int) ≤ (n : Int) := by omega
  have hg0 : ¬ (n : Int) < 0 := by omega
  have q1 : IntKind.u64.wrap (n : Int) = (n : Int) := by rw [IntWalk.u64_in _ (by omega)]
  clear hv hR hw1 hbl hR1 hb1 hcp1 hw2 e1 e2
  go_enter Tryz.func48, Tryz.ntmps48
  go_wp2_with fail
  refine (unhide HM).mono ?_
  rintro e w0 ⟨rfl, hw0⟩
  obtain rfl : w = w0 := hw0.symm
  clear hw0
  have d0 : decide ((9223372036854775807 : Int) < (n : Int)) = false := by simp; omega
  have q2 : IntKind.i64.wrap (n : Int) = (n : Int) := IntWalk.i64_in _ (by omega)
  go_wp2_with ((with_reducible refine wpList_copy_run rfl _ _ 77 rfl hcp ?_ ?_ ?_); rfl; rfl)
  clear hcp hmk hh1 hg0 q1 q2 d0
  go_loopg [8] (n + 1) (fun gk i wr => ∃ (k : Nat), gk = n + 2 - k ∧ 1 ≤ k ∧ k ≤ n ∧ i = .int .i64 k ∧ Fil wr R n k v ∧ Fr [R] w2 wr)
  case atStart => exact ⟨1, by omega, by omega, by omega, rfl, HFI.out, Fr.refl _ _⟩
  case round =>
    obtain ⟨k, hgk, hk1, hk2, rfl, hfi, hf⟩ := hrel
    have HGK := hide hgk
    by_cases hlt : k < n
    · have hfd : Fil wr.drew R n k v := hfi
      obtain ⟨w3, hrun, hfi3, hf3⟩ := hfd.copy hk1 hk2
      obtain ⟨m, hm⟩ : ∃ m, m = min k (n - k) := ⟨_, rfl⟩
      rw [← hm] at hrun hfi3
      have HFI3 := hide hfi3
      have HF3 : Hid (Fr [R] w2 w3) := hide (hf.drew.trans hf3)
      have hmb : m ≤ n ∧ 1 ≤ m ∧ k + m ≤ n := by omega
      have b0 : (0 : Int) ≤ (k : Int) ∧ (k : Int) < (n : Int) := by omega
      have b1 : (k : Int) ≤ (n : Int) := by omega
      have b2 : ¬ n = k := by omega
      have b3 : ¬ k = n := by omega
      have zk : IntKind.i64.wrap ((k : Int) + (m : Int)) = (k : Int) + (m : Int) := IntWalk.i64_in _ (by omega)
      have kb : wr.cell? ⟨R, 0, none⟩ = some (.int .i64 v) := by obtain ⟨cs, x1, x2, x3⟩ := hfi; rw [cell_blk x1]; exact x3 0 (by omega)
      have kb3 : w3.cell? ⟨R, 0, none⟩ = some (.int .i64 v) := by obtain ⟨cs, x1, x2, x3⟩ := hfi3; rw [cell_blk x1]; exact x3 0 (by omega)
      clear hgk hfi hf hfd hm hfi3 hf3
      go_upto_region 9 with (fail)
      go_region_held3 (fun W => W.cell? ⟨R, 0, none⟩ = some (.int .i64 v)) (go_keep) (first | ((with_reducible refine step_copy_run rfl _ _ 77 rfl hrun ?_ ?_ ?_); rfl; rfl))
      all_goals
        go_wp2_with fail
        go_roundg (n + 2 - (k + m))
        case measure => have := HGK.out; omega
        case rel => exact ⟨k + m, rfl, by omega, by omega, by go_num, HFI3.out, HF3.out⟩
    · obtain rfl : k = n := by omega
      have HRES : Hid (RepPost k v w (.returned (.slice (some ⟨R, 0, none⟩) k k)) wr) := by
        have hr := HR.out
        refine hide ⟨by rw [hr], by rw [← hr]; exact hfi, HF2.out.andThen hf (by simp; omega)⟩
      clear hgk hfi hf
      go_wp2
      go_ret
      exact HRES.out
end Go.Proofs.YthmhcnnigepohaaGreatDoor.If

/- The lengths of the fixed codes; fixed. -/
namespace Go.Proofs.YthmhcnnigepohaaGreatDoor.If
open Go.RowKit
open Hf
set_option linter.unusedVariables false
variable [Foreign]

def fixAt (k : Nat) : Nat := if k < 144 ∨ 280 ≤ k then 8 else if k < 256 then 9 else 7
def fixL : List Nat := (List.range 288).map fixAt
def fixD : List Nat := List.replicate 32 5
omit [Foreign] in
theorem nat_ir {w : World} {v : Value} {g : Option Nat} {l : List Nat} (h : NAt w v g l) : IR w v (zI l) := by
  obtain ⟨a, c, hv⟩ := SlAt.shape h
  refine ⟨a, c, by rw [zI_len]; exact hv, fun i hi => ?_⟩
  rw [zI_len] at hi
  obtain ⟨b, off, cap, _, hv2, _, hc⟩ := h.read (i := i) (x := l[i]) (List.getElem?_eq_getElem hi)
  rw [hv] at hv2
  injection hv2 with hv2 _ _
  refine ⟨_, hv2, ?_⟩
  rw [Addr.add_lit, hc, zI_get]
  simp [List.getD, List.getElem?_eq_getElem hi]
omit [Foreign] in
theorem fil_ir {w : World} {R n : Nat} {v : Nat} (h : Fil w R n n (v : Int)) : IR w (.slice (some ⟨R, 0, none⟩) n n) (zI (List.replicate n v)) := by
  obtain ⟨cs, h1, h2, h3⟩ := h
  refine ⟨some ⟨R, 0, none⟩, n, by rw [zI_len]; simp, fun i hi => ⟨_, rfl, ?_⟩⟩
  rw [zI_len, List.length_replicate] at hi
  rw [Addr.add_lit, cell_blk h1, Nat.zero_add, h3 i hi, zI_get]
  simp [List.getD, hi]
omit [Foreign] in
theorem nw_of_nat {w w' : World} {v : Value} {g : Option Nat} {l : List Nat} (h : NAt w' v g l) (hg : ∀ b, g = some b → w.heap.size ≤ b) : Hf.Nw w v := by
  rcases h with ⟨e, _⟩ | ⟨b, off, cap', cur, hgb, hv, _, hnc, _⟩
  · rw [e]; exact Hf.Nw.nil _
  · rw [hv]; exact Hf.Nw.mk (hg b hgb) hnc
def FixPost (w : World) (e : Ending) (w' : World) : Prop :=
  ∃ va vb, e = .returned (.tuple #[va, vb]) ∧ IR w' va (zI fixL) ∧ IR w' vb (zI fixD) ∧ Fr [] w w' ∧ Hf.Nw w va ∧ Hf.Nw w vb

set_option maxRecDepth 100000 in
set_option maxHeartbeats 4000000 in
omit [Foreign] in
theorem fixed29_any (w : World) : Calls Tryz.prog 29 #[] w (FixPost w) := by
  go_enter Tryz.func29, Tryz.ntmps29
  go_wp2_with fail
  go_loopg [0, 3] 289 (fun gk v i wr => ∃ (k : Nat) (g : Option Nat), gk = 289 - k ∧ k ≤ 288 ∧ i = .int .i64 k ∧ NAt wr v g ((List.range k).map fixAt) ∧ (∀ b, g = some b → w.heap.size ≤ b) ∧ Fr [] w wr)
  case atStart => exact ⟨0, none, rfl, by omega, rfl, SlAt.nil_ _, by simp, Fr.refl _ _⟩
  case round =>
    obtain ⟨k, g, hgk, hk, rfl, hn, hg, hf⟩ := hrel
    have HGK := hide hgk
    have HN := hide hn
    have HG := hide hg
    have HF := hide hf
    obtain ⟨av, cv, hv⟩ := SlAt.shape hn
    rw [List.length_map, List.length_range] at hv
    by_cases hlt : k < 288
    · obtain ⟨x, hx⟩ : ∃ x, x = fixAt k := ⟨_, rfl⟩
      obtain ⟨v', w', g', happ, hn', hf', hg'⟩ := hn.push x (by simp; omega)
      have HX := hide hx
      have HN' : Hid (NAt w' v' g' ((List.range (k + 1)).map fixAt)) := hide (by rw [List.range_succ, List.map_append, List.map_singleton, ← hx]; exact hn')
      have HF' := hide (hf.andThen hf' (fun b hb => .inr (hg b (by simpa using hb))))
      have HG' : Hid (∀ b, g' = some b → w.heap.size ≤ b) := hide (fun b hb => by
        rcases hg' with h | ⟨b2, h1, h2⟩
        · exact hg b (h ▸ hb)
        · rw [h1] at hb; injection hb with hb; have := hf.size; omega)
      subst hv
      clear hgk hn hg hf hx hn' hf' hg'
      have hcs : (k < 144 ∧ x = 8) ∨ (144 ≤ k ∧ 280 ≤ k ∧ x = 8) ∨ (144 ≤ k ∧ k < 280 ∧ k < 256 ∧ x = 9) ∨ (144 ≤ k ∧ k < 280 ∧ 256 ≤ k ∧ x = 7) := by
        have hx := HX.out
        unfold fixAt at hx
        by_cases h1 : k < 144
        · rw [if_pos (.inl h1)] at hx; exact .inl ⟨h1, hx⟩
        · by_cases h2 : 280 ≤ k
          · rw [if_pos (.inr h2)] at hx; exact .inr (.inl ⟨by omega, h2, hx⟩)
          · rw [if_neg (by omega)] at hx
            by_cases h3 : k < 256
            · rw [if_pos h3] at hx; exact .inr (.inr (.inl ⟨by omega, by omega, h3, hx⟩))
            · rw [if_neg h3] at hx; exact .inr (.inr (.inr ⟨by omega, by omega, by omega, hx⟩))
      rcases hcs with ⟨h1, rfl⟩ | ⟨h1, h2, rfl⟩ | ⟨h1, h2, h3, rfl⟩ | ⟨h1, h2, h3, rfl⟩
      all_goals
        go_wp2_with (at_builtin; refine wpList_append_run rfl _ _ 77 rfl happ rfl rfl ?_)
        go_roundg (289 - (k + 1))
        case measure => have := HGK.out; omega
        case rel => exact ⟨k + 1, g', rfl, by omega, by go_num, HN'.out, HG'.out, HF'.out⟩
    · obtain rfl : k = 288 := by omega
      subst hv
      have hfb : Fr [] wr (wr.alloc (.cells #[.int .i64 5] 3)) := (Fr.refl _ _).alloc _
      have HB : Hid ((wr.alloc (.cells #[.int .i64 5] 3)).heap[wr.heap.size]? = some (.cells #[.int .i64 5] 3 (0, 0))) := hide (heap_alloc_eq rfl)
      have HR := hide (repeat48_one 5 wr.heap.size 32 (wr.alloc (.cells #[.int .i64 5] 3)) HB.out (by omega) (by omega))
      have HFB := hide hfb
      clear hgk hn hg hf hfb
      go_wp2_with fail
      refine (unhide HR).mono ?_
      rintro e w2 ⟨rfl, hfi, hf2⟩
      have hsz : (wr.alloc (.cells #[.int .i64 5] 3)).heap.size = wr.heap.size + 1 := by simp
      rw [hsz] at hfi
      have HRES : Hid (FixPost w (.returned (.tuple #[.slice av 288 cv, .slice (some ⟨wr.heap.size + 1, 0, none⟩) 32 32])) w2) :=
        hide ⟨_, _, rfl, (nat_ir HN.out).fr (HFB.out.trans hf2), fil_ir hfi, (HF.out.trans HFB.out).trans hf2, nw_of_nat HN.out HG.out, Hf.Nw.mk (by have := HF.out.size; omega) (Nat.le_refl _)⟩
      clear hfi hf2 hsz
      go_wp2_with fail
      go_ret2
      exact HRES.out

omit [Foreign] in
theorem fixL_len : fixL.length = 288 := by simp [fixL]
omit [Foreign] in
theorem fixD_len : fixD.length = 32 := by simp [fixD]
omit [Foreign] in
theorem fixAt_le (i : Nat) : fixAt i ≤ 15 := by
  unfold fixAt
  split
  · omega
  · split <;> omega
omit [Foreign] in
theorem fixL_ok : LOk fixL := ⟨by unfold fixL; intro x hx; obtain ⟨i, _, rfl⟩ := List.mem_map.1 hx; exact fixAt_le i, by rw [fixL_len]; omega, .inl (by decide +kernel), by decide +kernel, by decide +kernel⟩
omit [Foreign] in
theorem fixD_ok : LOk fixD := ⟨by intro x hx; rw [(List.mem_replicate.1 hx).2]; omega, by rw [fixD_len]; omega, .inl (by decide +kernel), by decide +kernel, by decide +kernel⟩

set_option maxRecDepth 100000 in
set_option maxHeartbeats 2000000 in
theorem fixed138_any (D : Nat) (d : DV) (G : List Nat) (w : World) (h : DI w D d) (hG : In w G) (hDG : D ∈ G) :
    Calls Tryz.prog 138 #[.pointer (some ⟨D, 0, none⟩)] w (CodesPost D d fixL fixD G w) := by
  have HD := hide h
  have HG := hide hG
  have HF := hide (fixed29_any w)
  clear h hG
  go_enter Tryz.func138, Tryz.ntmps138
  go_wp2_with fail
  refine (unhide HF).mono ?_
  rintro e w1 ⟨va, vb, rfl, ha, hb, hf, -⟩
  have HC := hide (codes144_any D d va vb fixL fixD G w1 (HD.out.fr hf (by simp)) (HG.out.fr hf) hDG ha hb fixL_ok fixD_ok)
  have HF1 := hide hf
  clear ha hb hf
  go_wp2_with fail
  refine (unhide HC).mono ?_
  rintro e w2 ⟨rfl, Da, Db, d', c1, c2, c3, g1, g2, g3, g4⟩
  have HRES : Hid (CodesPost D d fixL fixD G w (.returned (.int .i64 0)) w2) := by
    obtain ⟨g4, g5, g6, g7, g8, g9, g10, g11, g12⟩ := g4
    have hs := HF1.out.size
    exact hide ⟨rfl, Da, Db, d', c1, c2, c3, by omega, by omega, g3, g4, g5, g6, g7, g8, g9, g10, g11, (HF1.out.mono (by simp)).trans g12⟩
  clear g1 g2 g3 g4
  go_wp2
  go_ret
  exact HRES.out
end Go.Proofs.YthmhcnnigepohaaGreatDoor.If

/- inflate.Decoder: what it waits for, as a plain state; how the state lies in memory. -/
namespace Go.Proofs.YthmhcnnigepohaaGreatDoor.If
open Go.RowKit
open Dg (BAt bcells)
set_option linter.unusedVariables false
variable [Foreign]

inductive Ctl where
  | blk | slen | schk (n : Nat) | raw (n : Nat)
  | hlit | hdist (lits : Nat) | hclen (lits dists : Nat)
  | third (l : List Nat) (i n lits dists : Nat)
  | lens (C l : List Nat) (lits dists : Nat)
  | rep (C l : List Nat) (lits dists bits least value : Nat)
  | lit (A B : List Nat) | lenx (A B : List Nat) (n bits : Nat) | dist (A B : List Nat) (n more : Nat) | distx (A B : List Nat) (n more far bits : Nat)
  | fin
def Ctl.isFin : Ctl → Bool
  | .fin => true
  | _ => false
/-- The state: what is waited for; how far (bits read, and their value); what was put out. -/
structure PS where
  k : Ctl
  q : Nat
  c : Nat
  last : Bool
  out : List UInt8
  fresh : List UInt8
  skip : Bool

def ptr (b : Nat) : Value := .pointer (some ⟨b, 0, none⟩)
def num (w : World) (d : DV) (q c bits : Nat) : Prop := d.code = .pointer none ∧ d.need = bits ∧ d.have_ = q ∧ d.acc = c
def KR (w : World) (D : Nat) (G : List Nat) (d : DV) (q c : Nat) : Ctl → Prop
  | .blk => num w d q c 3 ∧ ∃ p, d.next = .func (.func 136) #[] #[p] ∧ Box w G p 173 (ptr D)
  | .slen => num w d q c 16 ∧ ∃ p, d.next = .func (.func 141) #[] #[p] ∧ Box w G p 173 (ptr D)
  | .schk n => num w d q c 16 ∧ ∃ p pn, d.next = .func (.func 142) #[] #[pn, p] ∧ Box w G p 173 (ptr D) ∧ Box w G pn 3 (.int .i64 n)
  | .raw n => num w d q c 8 ∧ ∃ p pn, d.next = .func (.func 149) #[] #[p, pn] ∧ Box w G p 173 (ptr D) ∧ Box w G pn 3 (.int .i64 n)
  | .hlit => num w d q c 5 ∧ ∃ p, d.next = .func (.func 145) #[] #[p] ∧ Box w G p 173 (ptr D)
  | .hdist l => num w d q c 5 ∧ ∃ p pl, d.next = .func (.func 146) #[] #[p, pl] ∧ Box w G p 173 (ptr D) ∧ Box w G pl 3 (.int .i64 l)
  | .hclen l n => num w d q c 4 ∧ ∃ p pl pn, d.next = .func (.func 147) #[] #[p, pl, pn] ∧ Box w G p 173 (ptr D) ∧ Box w G pl 3 (.int .i64 l) ∧ Box w G pn 3 (.int .i64 n)
  | .third l i n a b => num w d q c 3 ∧ ∃ p pl pi pn pa pb L, d.next = .func (.func 154) #[] #[pl, pi, p, pn, pa, pb] ∧ Box w G p 173 (ptr D) ∧ Box w G pl 77 (.slice (some ⟨L, 0, none⟩) 19 19) ∧ Box w G pi 3 (.int .i64 i) ∧ Box w G pn 3 (.int .i64 n) ∧ Box w G pa 3 (.int .i64 a) ∧ Box w G pb 3 (.int .i64 b) ∧
      L ∈ G ∧ l.length = 19 ∧ Hf.Ar w L 3 19 (fun j => ((l.getD j 0 : Nat) : Int))
  | .lens C l a b => ∃ p pc pl pa pb pr vc vl gl, d.code = vc ∧ d.next = .func (.func 164) #[] #[p, pc, pl, pa, pb, pr] ∧ Box w G p 173 (ptr D) ∧ Box w G pc 192 vc ∧ Box w G pl 77 vl ∧ Box w G pa 3 (.int .i64 a) ∧ Box w G pb 3 (.int .i64 b) ∧
      Box w G pr 215 (.func (.func 162) #[] #[p, pl, pa, pb, pc]) ∧ Dec w G vc C q c ∧ Hf.NAt w vl gl l ∧ (∀ x, gl = some x → x ∈ G)
  | .rep C l a b bits least v => num w d q c bits ∧ ∃ p pc pl pa pb pm pv vc vl gl, d.next = .func (.func 163) #[] #[pl, pm, pa, pb, p, pc, pv] ∧ Box w G p 173 (ptr D) ∧ Box w G pc 192 vc ∧ Box w G pl 77 vl ∧ Box w G pa 3 (.int .i64 a) ∧ Box w G pb 3 (.int .i64 b) ∧
      Box w G pm 3 (.int .i64 least) ∧ Box w G pv 3 (.int .i64 v) ∧ Dec w G vc C 0 0 ∧ Hf.NAt w vl gl l ∧ (∀ x, gl = some x → x ∈ G)
  | .lit A B => ∃ p pa pb va vb, d.code = va ∧ d.next = .func (.func 157) #[] #[p, pa, pb] ∧ Box w G p 173 (ptr D) ∧ Box w G pa 192 va ∧ Box w G pb 192 vb ∧ Dec w G va A q c ∧ Dec w G vb B 0 0 ∧ va ≠ vb
  | .lenx A B n bits => num w d q c bits ∧ ∃ p pa pb pn va vb, d.next = .func (.func 158) #[] #[p, pb, pn, pa] ∧ Box w G p 173 (ptr D) ∧ Box w G pa 192 va ∧ Box w G pb 192 vb ∧ Box w G pn 3 (.int .i64 n) ∧ Dec w G va A 0 0 ∧ Dec w G vb B 0 0 ∧ va ≠ vb
  | .dist A B n m => ∃ p pa pb pn pm va vb, d.code = vb ∧ d.next = .func (.func 159) #[] #[p, pn, pm, pa, pb] ∧ Box w G p 173 (ptr D) ∧ Box w G pa 192 va ∧ Box w G pb 192 vb ∧ Box w G pn 3 (.int .i64 n) ∧ Box w G pm 3 (.int .i64 m) ∧ Dec w G va A 0 0 ∧ Dec w G vb B q c ∧ va ≠ vb
  | .distx A B n m far bits => num w d q c bits ∧ ∃ p pa pb pn pm pf va vb, d.next = .func (.func 160) #[] #[p, pn, pm, pf, pa, pb] ∧ Box w G p 173 (ptr D) ∧ Box w G pa 192 va ∧ Box w G pb 192 vb ∧ Box w G pn 3 (.int .i64 n) ∧ Box w G pm 3 (.int .i64 m) ∧ Box w G pf 3 (.int .i64 far) ∧ Dec w G va A 0 0 ∧ Dec w G vb B 0 0 ∧ va ≠ vb
  | .fin => True

/-- All but what is waited for. -/
structure Core (w : World) (D : Nat) (G : List Nat) (d : DV) (gp gf : Option Nat) (inp : Int) (rest : ByteArray) (last : Bool) (done : Bool) (skip : Bool) (out fresh : List UInt8) : Prop where
  di : DI w D d
  mem : D ∈ G
  inn : In w G
  outs : Outs w d G gp gf out fresh
  last : d.last = last
  done : d.done = done
  skip : d.skip = skip
  inp : d.inp = inp
  rest : d.rest = rest
def Rep (w : World) (D : Nat) (G : List Nat) (inp : Int) (rest : ByteArray) (s : PS) : Prop :=
  ∃ d gp gf, Core w D G d gp gf inp rest s.last s.k.isFin s.skip s.out s.fresh ∧ KR w D G d s.q s.c s.k
def FP (D : Nat) (G : List Nat) (inp : Int) (rest : ByteArray) (w : World) (s : PS) (e : Ending) (w' : World) : Prop :=
  e = .returned (.int .i64 0) ∧ ∃ G', Rep w' D G' inp rest s ∧ Grows w G G' ∧ Fr G w w'

theorem Core.set {w w' : World} {D : Nat} {G : List Nat} {d d' : DV} {gp gf : Option Nat} {inp : Int} {rest : ByteArray} {last done skip : Bool} {out fresh : List UInt8} (h : Core w D G d gp gf inp rest last done skip out fresh)
    (hd : DI w' D d') (hf : Fr [D] w w') (e1 : d'.past = d.past) (e2 : d'.fresh = d.fresh) (e3 : d'.tot = d.tot) (e4 : d'.inp = d.inp) (e5 : d'.last = d.last) (e6 : d'.done = d.done) (e7 : d'.skip = d.skip) (e8 : d'.rest = d.rest) :
    Core w' D G d' gp gf inp rest last done skip out fresh := by
  obtain ⟨o1, o2, o3, o4, o5, o6⟩ := h.outs
  refine ⟨hd, h.mem, h.inn.fr hf, ⟨?_, ?_, o3, o4, o5, by rw [e3]; exact o6⟩, e5.trans h.last, e6.trans h.done, e7.trans h.skip, e4.trans h.inp, e8.trans h.rest⟩
  · rw [e1]; exact SlAt.fr o1 hf (fun b hb => by simpa using bat_ne h.di o1 b hb)
  · rw [e2]; exact SlAt.fr o2 hf (fun b hb => by simpa using bat_ne h.di o2 b hb)
theorem Core.lt {w : World} {D : Nat} {G : List Nat} {d : DV} {gp gf : Option Nat} {inp : Int} {rest : ByteArray} {last done skip : Bool} {out fresh : List UInt8} (h : Core w D G d gp gf inp rest last done skip out fresh) : D < w.heap.size := h.di.lt
/-- A setter's frame, of the whole of G. -/
theorem Core.frG {w w' : World} {D : Nat} {G : List Nat} {d : DV} {gp gf : Option Nat} {inp : Int} {rest : ByteArray} {last done skip : Bool} {out fresh : List UInt8} (h : Core w D G d gp gf inp rest last done skip out fresh) (hf : Fr [D] w w') : Fr G w w' := hf.sub (fun b hb => by simp at hb; rw [hb]; exact h.mem)
end Go.Proofs.YthmhcnnigepohaaGreatDoor.If

/- inflate.Decoder: the closures that only set what is waited for (printed by tools/genfire.py). -/
namespace Go.Proofs.YthmhcnnigepohaaGreatDoor.If
open Go.RowKit
set_option linter.unusedVariables false
variable [Foreign]

/-- A code's decoder, where the inflating one is set. -/
theorem Dec.set {w w' : World} {G : List Nat} {D : Nat} {d : DV} {v : Value} {L : List Nat} {n c : Nat} (h : Dec w G v L n c) (hd : DI w D d) (hD : D ∈ G) (hf : Fr [D] w w') : Dec w' G v L n c := by
  refine h.keep hf (fun b hb => by simp at hb; rw [hb]; exact hD) (Grows.refl _ _) (fun _ h => h) (fun D' hD' hm => ?_)
  obtain ⟨D2, g, sv, h1, h2, h3, h4, h5⟩ := h
  rw [h1] at hD'
  injection hD' with hD'
  injection hD' with hD'
  injection hD' with hD' _
  simp at hm
  subst hD' hm
  obtain ⟨cur, hc, _⟩ := h4
  rw [hd] at hc
  injection hc with hc
  injection hc with _ hc _
  cases hc

set_option maxRecDepth 100000 in
set_option maxHeartbeats 2000000 in
theorem fire141 (D : Nat) (G : List Nat) (d : DV) (gp gf : Option Nat) (inp : Int) (rest : ByteArray) (last skip : Bool) (out fresh : List UInt8) (v : Nat) (p : Value) (w : World)
    (hc : Core w D G d gp gf inp rest last false skip out fresh) (hp : Box w G p 173 (ptr D)) :
    Calls Tryz.prog 141 #[.int .i64 v, p] w (FP D G inp rest w ⟨.schk v, 0, 0, last, out, fresh, skip⟩) := by
  have HC := hide hc
  obtain ⟨bp, ep, lp, -, cp⟩ := hp.at_
  subst ep
  have HS := hide (number135_any D d 16 (.func 142) #[] #[(.pointer (some ⟨w.heap.size, 0, none⟩)), (.pointer (some ⟨bp, 0, none⟩))] (bw w [(.int .i64 v, 3)]) (hc.di.fr (bw_fr _ _) (by simp)))
  have Hp := hide hp
  have HRES : Hid (∀ w2, DI w2 D { d with acc := 0, have_ := 0, need := 16, code := .pointer none, next := .func (.func 142) #[] #[(.pointer (some ⟨w.heap.size, 0, none⟩)), (.pointer (some ⟨bp, 0, none⟩))] } → Fr [D] (bw w [(.int .i64 v, 3)]) w2 → FP D G inp rest w ⟨.schk v, 0, 0, last, out, fresh, skip⟩ (.returned (.int .i64 0)) w2) := by
    refine hide (fun w2 hd hf => ?_)
    have hf2 : Fr [D] w w2 := ((bw_fr _ w).mono (by simp)).trans hf
    have hfG := HC.out.frG hf2
    have hin := HC.out.inn
    have hlt := HC.out.lt
    refine ⟨rfl, G, ⟨_, gp, gf, HC.out.set hd hf2 rfl rfl rfl rfl rfl rfl rfl rfl, ?_⟩, Grows.refl _ _, hfG⟩
    exact ⟨⟨rfl, rfl, rfl, rfl⟩, _, _, rfl, Hp.out.fr hfG (Grows.refl _ _), bw_box (i := 0) hin (by simpa using hlt) hf rfl⟩
  clear hc hp
  go_enter Tryz.func141, Tryz.ntmps141
  go_wp2_with fail
  refine (unhide HS).mono ?_
  rintro e w2 ⟨rfl, hd, hf⟩
  have HR2 := hide (HRES.out w2 hd hf)
  clear hd hf
  go_wp2
  go_ret
  exact HR2.out

set_option maxRecDepth 100000 in
set_option maxHeartbeats 2000000 in
theorem fire145 (D : Nat) (G : List Nat) (d : DV) (gp gf : Option Nat) (inp : Int) (rest : ByteArray) (last skip : Bool) (out fresh : List UInt8) (v : Nat) (p : Value) (w : World)
    (hc : Core w D G d gp gf inp rest last false skip out fresh) (hp : Box w G p 173 (ptr D)) (hv : v ≤ 29) :
    Calls Tryz.prog 145 #[.int .i64 v, p] w (FP D G inp rest w ⟨.hdist (v + 257), 0, 0, last, out, fresh, skip⟩) := by
  have d1 : decide ((286 : Int) < (v : Int) + 257) = false := by simp; omega
  have HC := hide hc
  obtain ⟨bp, ep, lp, -, cp⟩ := hp.at_
  subst ep
  have HS := hide (number135_any D d 5 (.func 146) #[] #[(.pointer (some ⟨bp, 0, none⟩)), (.pointer (some ⟨w.heap.size, 0, none⟩))] (bw w [(.int .i64 ((v : Int) + 257), 3)]) (hc.di.fr (bw_fr _ _) (by simp)))
  have Hp := hide hp
  have HRES : Hid (∀ w2, DI w2 D { d with acc := 0, have_ := 0, need := 5, code := .pointer none, next := .func (.func 146) #[] #[(.pointer (some ⟨bp, 0, none⟩)), (.pointer (some ⟨w.heap.size, 0, none⟩))] } → Fr [D] (bw w [(.int .i64 ((v : Int) + 257), 3)]) w2 → FP D G inp rest w ⟨.hdist (v + 257), 0, 0, last, out, fresh, skip⟩ (.returned (.int .i64 0)) w2) := by
    refine hide (fun w2 hd hf => ?_)
    have hf2 : Fr [D] w w2 := ((bw_fr _ w).mono (by simp)).trans hf
    have hfG := HC.out.frG hf2
    have hin := HC.out.inn
    have hlt := HC.out.lt
    refine ⟨rfl, G, ⟨_, gp, gf, HC.out.set hd hf2 rfl rfl rfl rfl rfl rfl rfl rfl, ?_⟩, Grows.refl _ _, hfG⟩
    exact ⟨⟨rfl, rfl, rfl, rfl⟩, _, _, rfl, Hp.out.fr hfG (Grows.refl _ _), bw_box (i := 0) hin (by simpa using hlt) hf rfl⟩
  clear hc hp
  go_enter Tryz.func145, Tryz.ntmps145
  go_wp2_with fail
  refine (unhide HS).mono ?_
  rintro e w2 ⟨rfl, hd, hf⟩
  have HR2 := hide (HRES.out w2 hd hf)
  clear hd hf
  go_wp2
  go_ret
  exact HR2.out

set_option maxRecDepth 100000 in
set_option maxHeartbeats 2000000 in
theorem fire146 (D : Nat) (G : List Nat) (d : DV) (gp gf : Option Nat) (inp : Int) (rest : ByteArray) (last skip : Bool) (out fresh : List UInt8) (v : Nat) (p pl : Value) (l : Nat) (w : World)
    (hc : Core w D G d gp gf inp rest last false skip out fresh) (hp : Box w G p 173 (ptr D)) (hpl : Box w G pl 3 (.int .i64 l)) (hv : v ≤ 29) :
    Calls Tryz.prog 146 #[.int .i64 v, p, pl] w (FP D G inp rest w ⟨.hclen l (v + 1), 0, 0, last, out, fresh, skip⟩) := by
  have d1 : decide ((30 : Int) < (v : Int) + 1) = false := by simp; omega
  have HC := hide hc
  obtain ⟨bp, ep, lp, -, cp⟩ := hp.at_
  obtain ⟨bpl, epl, lpl, -, cpl⟩ := hpl.at_
  subst ep epl
  have HS := hide (number135_any D d 4 (.func 147) #[] #[(.pointer (some ⟨bp, 0, none⟩)), (.pointer (some ⟨bpl, 0, none⟩)), (.pointer (some ⟨w.heap.size, 0, none⟩))] (bw w [(.int .i64 ((v : Int) + 1), 3)]) (hc.di.fr (bw_fr _ _) (by simp)))
  have Hp := hide hp
  have Hpl := hide hpl
  have HRES : Hid (∀ w2, DI w2 D { d with acc := 0, have_ := 0, need := 4, code := .pointer none, next := .func (.func 147) #[] #[(.pointer (some ⟨bp, 0, none⟩)), (.pointer (some ⟨bpl, 0, none⟩)), (.pointer (some ⟨w.heap.size, 0, none⟩))] } → Fr [D] (bw w [(.int .i64 ((v : Int) + 1), 3)]) w2 → FP D G inp rest w ⟨.hclen l (v + 1), 0, 0, last, out, fresh, skip⟩ (.returned (.int .i64 0)) w2) := by
    refine hide (fun w2 hd hf => ?_)
    have hf2 : Fr [D] w w2 := ((bw_fr _ w).mono (by simp)).trans hf
    have hfG := HC.out.frG hf2
    have hin := HC.out.inn
    have hlt := HC.out.lt
    refine ⟨rfl, G, ⟨_, gp, gf, HC.out.set hd hf2 rfl rfl rfl rfl rfl rfl rfl rfl, ?_⟩, Grows.refl _ _, hfG⟩
    exact ⟨⟨rfl, rfl, rfl, rfl⟩, _, _, _, rfl, Hp.out.fr hfG (Grows.refl _ _), Hpl.out.fr hfG (Grows.refl _ _), bw_box (i := 0) hin (by simpa using hlt) hf rfl⟩
  clear hc hp hpl
  go_enter Tryz.func146, Tryz.ntmps146
  go_wp2_with fail
  refine (unhide HS).mono ?_
  rintro e w2 ⟨rfl, hd, hf⟩
  have HR2 := hide (HRES.out w2 hd hf)
  clear hd hf
  go_wp2
  go_ret
  exact HR2.out

set_option maxRecDepth 100000 in
set_option maxHeartbeats 2000000 in
theorem fire158 (D : Nat) (G : List Nat) (d : DV) (gp gf : Option Nat) (inp : Int) (rest : ByteArray) (last skip : Bool) (out fresh : List UInt8) (v : Nat) (p pb pn pa : Value) (A B : List Nat) (n : Nat) (Da Db : Nat) (w : World)
    (hc : Core w D G d gp gf inp rest last false skip out fresh) (hp : Box w G p 173 (ptr D)) (hpb : Box w G pb 192 (ptr Db)) (hpn : Box w G pn 3 (.int .i64 n)) (hpa : Box w G pa 192 (ptr Da)) (ha : Dec w G (ptr Da) A 0 0) (hb : Dec w G (ptr Db) B 0 0) (hne : Da ≠ Db) :
    Calls Tryz.prog 158 #[.int .i64 v, p, pb, pn, pa] w (FP D G inp rest w ⟨.dist A B n v, 0, 0, last, out, fresh, skip⟩) := by
  have HA := hide ha
  have HB := hide hb
  have HNE : Hid (ptr Da ≠ ptr Db) := hide (fun h => hne (by injection h with h; injection h with h; injection h))
  have HC := hide hc
  obtain ⟨bp, ep, lp, -, cp⟩ := hp.at_
  obtain ⟨bpb, epb, lpb, -, cpb⟩ := hpb.at_
  obtain ⟨bpn, epn, lpn, -, cpn⟩ := hpn.at_
  obtain ⟨bpa, epa, lpa, -, cpa⟩ := hpa.at_
  subst ep epb epn epa
  have HS := hide (symbol156_any D d (some ⟨Db, 0, none⟩) (.func 159) #[] #[(.pointer (some ⟨bp, 0, none⟩)), (.pointer (some ⟨bpn, 0, none⟩)), (.pointer (some ⟨w.heap.size, 0, none⟩)), (.pointer (some ⟨bpa, 0, none⟩)), (.pointer (some ⟨bpb, 0, none⟩))] (bw w [(.int .i64 v, 3)]) (hc.di.fr (bw_fr _ _) (by simp)))
  have Hp := hide hp
  have Hpb := hide hpb
  have Hpn := hide hpn
  have Hpa := hide hpa
  have HRES : Hid (∀ w2, DI w2 D { d with code := .pointer (some ⟨Db, 0, none⟩), next := .func (.func 159) #[] #[(.pointer (some ⟨bp, 0, none⟩)), (.pointer (some ⟨bpn, 0, none⟩)), (.pointer (some ⟨w.heap.size, 0, none⟩)), (.pointer (some ⟨bpa, 0, none⟩)), (.pointer (some ⟨bpb, 0, none⟩))] } → Fr [D] (bw w [(.int .i64 v, 3)]) w2 → FP D G inp rest w ⟨.dist A B n v, 0, 0, last, out, fresh, skip⟩ (.returned (.int .i64 0)) w2) := by
    refine hide (fun w2 hd hf => ?_)
    have hf2 : Fr [D] w w2 := ((bw_fr _ w).mono (by simp)).trans hf
    have hfG := HC.out.frG hf2
    have hin := HC.out.inn
    have hlt := HC.out.lt
    refine ⟨rfl, G, ⟨_, gp, gf, HC.out.set hd hf2 rfl rfl rfl rfl rfl rfl rfl rfl, ?_⟩, Grows.refl _ _, hfG⟩
    exact ⟨_, _, _, _, _, _, _, rfl, rfl, Hp.out.fr hfG (Grows.refl _ _), Hpa.out.fr hfG (Grows.refl _ _), Hpb.out.fr hfG (Grows.refl _ _), Hpn.out.fr hfG (Grows.refl _ _), bw_box (i := 0) hin (by simpa using hlt) hf rfl, HA.out.set HC.out.di HC.out.mem hf2, HB.out.set HC.out.di HC.out.mem hf2, HNE.out⟩
  clear hc hp hpb hpn hpa ha hb hne
  go_enter Tryz.func158, Tryz.ntmps158
  go_wp2_with fail
  refine (unhide HS).mono ?_
  rintro e w2 ⟨rfl, hd, hf⟩
  have HR2 := hide (HRES.out w2 hd hf)
  clear hd hf
  go_wp2
  go_ret
  exact HR2.out

set_option maxRecDepth 100000 in
set_option maxHeartbeats 2000000 in
theorem fire159 (D : Nat) (G : List Nat) (d : DV) (gp gf : Option Nat) (inp : Int) (rest : ByteArray) (last skip : Bool) (out fresh : List UInt8) (v : Nat) (p pn pm pa pb : Value) (A B : List Nat) (n : Nat) (Da Db : Nat) (m : Nat) (w : World)
    (hc : Core w D G d gp gf inp rest last false skip out fresh) (hp : Box w G p 173 (ptr D)) (hpn : Box w G pn 3 (.int .i64 n)) (hpm : Box w G pm 3 (.int .i64 m)) (hpa : Box w G pa 192 (ptr Da)) (hpb : Box w G pb 192 (ptr Db)) (ha : Dec w G (ptr Da) A 0 0) (hb : Dec w G (ptr Db) B 0 0) (hne : Da ≠ Db) (hv : v ≤ 29) :
    Calls Tryz.prog 159 #[.int .i64 v, p, pn, pm, pa, pb] w (FP D G inp rest w ⟨.distx A B n m (dstM v) (dstK v), 0, 0, last, out, fresh, skip⟩) := by
  have HA := hide ha
  have HB := hide hb
  have HNE : Hid (ptr Da ≠ ptr Db) := hide (fun h => hne (by injection h with h; injection h with h; injection h))
  have HC := hide hc
  obtain ⟨bp, ep, lp, -, cp⟩ := hp.at_
  obtain ⟨bpn, epn, lpn, -, cpn⟩ := hpn.at_
  obtain ⟨bpm, epm, lpm, -, cpm⟩ := hpm.at_
  obtain ⟨bpa, epa, lpa, -, cpa⟩ := hpa.at_
  obtain ⟨bpb, epb, lpb, -, cpb⟩ := hpb.at_
  subst ep epn epm epa epb
  have HS := hide (number135_any D d ((dstK v : Nat) : Int) (.func 160) #[] #[(.pointer (some ⟨bp, 0, none⟩)), (.pointer (some ⟨bpn, 0, none⟩)), (.pointer (some ⟨bpm, 0, none⟩)), (.pointer (some ⟨w.heap.size, 0, none⟩)), (.pointer (some ⟨bpa, 0, none⟩)), (.pointer (some ⟨bpb, 0, none⟩))] (bw w [(.int .i64 ((dstM v : Nat) : Int), 3)]) (hc.di.fr (bw_fr _ _) (by simp)))
  have Hp := hide hp
  have Hpn := hide hpn
  have Hpm := hide hpm
  have Hpa := hide hpa
  have Hpb := hide hpb
  have HRES : Hid (∀ w2, DI w2 D { d with acc := 0, have_ := 0, need := ((dstK v : Nat) : Int), code := .pointer none, next := .func (.func 160) #[] #[(.pointer (some ⟨bp, 0, none⟩)), (.pointer (some ⟨bpn, 0, none⟩)), (.pointer (some ⟨bpm, 0, none⟩)), (.pointer (some ⟨w.heap.size, 0, none⟩)), (.pointer (some ⟨bpa, 0, none⟩)), (.pointer (some ⟨bpb, 0, none⟩))] } → Fr [D] (bw w [(.int .i64 ((dstM v : Nat) : Int), 3)]) w2 → FP D G inp rest w ⟨.distx A B n m (dstM v) (dstK v), 0, 0, last, out, fresh, skip⟩ (.returned (.int .i64 0)) w2) := by
    refine hide (fun w2 hd hf => ?_)
    have hf2 : Fr [D] w w2 := ((bw_fr _ w).mono (by simp)).trans hf
    have hfG := HC.out.frG hf2
    have hin := HC.out.inn
    have hlt := HC.out.lt
    refine ⟨rfl, G, ⟨_, gp, gf, HC.out.set hd hf2 rfl rfl rfl rfl rfl rfl rfl rfl, ?_⟩, Grows.refl _ _, hfG⟩
    exact ⟨⟨rfl, rfl, rfl, rfl⟩, _, _, _, _, _, _, _, _, rfl, Hp.out.fr hfG (Grows.refl _ _), Hpa.out.fr hfG (Grows.refl _ _), Hpb.out.fr hfG (Grows.refl _ _), Hpn.out.fr hfG (Grows.refl _ _), Hpm.out.fr hfG (Grows.refl _ _), bw_box (i := 0) hin (by simpa using hlt) hf rfl, HA.out.set HC.out.di HC.out.mem hf2, HB.out.set HC.out.di HC.out.mem hf2, HNE.out⟩
  clear hc hp hpn hpm hpa hpb ha hb hne
  go_enter Tryz.func159, Tryz.ntmps159
  go_wp2_with fail
  refine (distance50_any v _ hv).mono ?_
  rintro e w9 ⟨rfl, rfl⟩
  go_wp2_with fail
  refine (unhide HS).mono ?_
  rintro e w2 ⟨rfl, hd, hf⟩
  have HR2 := hide (HRES.out w2 hd hf)
  clear hd hf
  go_wp2
  go_ret
  exact HR2.out

set_option maxRecDepth 100000 in
set_option maxHeartbeats 2000000 in
theorem fire157_len (D : Nat) (G : List Nat) (d : DV) (gp gf : Option Nat) (inp : Int) (rest : ByteArray) (last skip : Bool) (out fresh : List UInt8) (v : Nat) (p pa pb : Value) (A B : List Nat) (Da Db : Nat) (w : World)
    (hc : Core w D G d gp gf inp rest last false skip out fresh) (hp : Box w G p 173 (ptr D)) (hpa : Box w G pa 192 (ptr Da)) (hpb : Box w G pb 192 (ptr Db)) (ha : Dec w G (ptr Da) A 0 0) (hb : Dec w G (ptr Db) B 0 0) (hne : Da ≠ Db) (hv1 : 257 ≤ v) (hv : v ≤ 285) :
    Calls Tryz.prog 157 #[.int .i64 v, p, pa, pb] w (FP D G inp rest w ⟨.lenx A B (lenM v) (lenK v), 0, 0, last, out, fresh, skip⟩) := by
  have HA := hide ha
  have HB := hide hb
  have HNE : Hid (ptr Da ≠ ptr Db) := hide (fun h => hne (by injection h with h; injection h with h; injection h))
  have d1 : ((v : Int) == 256) = false := by simp; omega
  have HC := hide hc
  obtain ⟨bp, ep, lp, -, cp⟩ := hp.at_
  obtain ⟨bpa, epa, lpa, -, cpa⟩ := hpa.at_
  obtain ⟨bpb, epb, lpb, -, cpb⟩ := hpb.at_
  subst ep epa epb
  have HS := hide (number135_any D d ((lenK v : Nat) : Int) (.func 158) #[] #[(.pointer (some ⟨bp, 0, none⟩)), (.pointer (some ⟨bpb, 0, none⟩)), (.pointer (some ⟨w.heap.size, 0, none⟩)), (.pointer (some ⟨bpa, 0, none⟩))] (bw w [(.int .i64 ((lenM v : Nat) : Int), 3)]) (hc.di.fr (bw_fr _ _) (by simp)))
  have Hp := hide hp
  have Hpa := hide hpa
  have Hpb := hide hpb
  have HRES : Hid (∀ w2, DI w2 D { d with acc := 0, have_ := 0, need := ((lenK v : Nat) : Int), code := .pointer none, next := .func (.func 158) #[] #[(.pointer (some ⟨bp, 0, none⟩)), (.pointer (some ⟨bpb, 0, none⟩)), (.pointer (some ⟨w.heap.size, 0, none⟩)), (.pointer (some ⟨bpa, 0, none⟩))] } → Fr [D] (bw w [(.int .i64 ((lenM v : Nat) : Int), 3)]) w2 → FP D G inp rest w ⟨.lenx A B (lenM v) (lenK v), 0, 0, last, out, fresh, skip⟩ (.returned (.int .i64 0)) w2) := by
    refine hide (fun w2 hd hf => ?_)
    have hf2 : Fr [D] w w2 := ((bw_fr _ w).mono (by simp)).trans hf
    have hfG := HC.out.frG hf2
    have hin := HC.out.inn
    have hlt := HC.out.lt
    refine ⟨rfl, G, ⟨_, gp, gf, HC.out.set hd hf2 rfl rfl rfl rfl rfl rfl rfl rfl, ?_⟩, Grows.refl _ _, hfG⟩
    exact ⟨⟨rfl, rfl, rfl, rfl⟩, _, _, _, _, _, _, rfl, Hp.out.fr hfG (Grows.refl _ _), Hpa.out.fr hfG (Grows.refl _ _), Hpb.out.fr hfG (Grows.refl _ _), bw_box (i := 0) hin (by simpa using hlt) hf rfl, HA.out.set HC.out.di HC.out.mem hf2, HB.out.set HC.out.di HC.out.mem hf2, HNE.out⟩
  clear hc hp hpa hpb ha hb hne
  go_enter Tryz.func157, Tryz.ntmps157
  go_wp2_with fail
  refine (length49_any v _ hv1 hv).mono ?_
  rintro e w9 ⟨rfl, rfl⟩
  go_wp2_with fail
  refine (unhide HS).mono ?_
  rintro e w2 ⟨rfl, hd, hf⟩
  have HR2 := hide (HRES.out w2 hd hf)
  clear hd hf
  go_wp2
  go_ret
  exact HR2.out
end Go.Proofs.YthmhcnnigepohaaGreatDoor.If

/- inflate.Decoder: the closures that put out. -/
namespace Go.Proofs.YthmhcnnigepohaaGreatDoor.If
open Go.RowKit
open Dg (BAt bcells)
set_option linter.unusedVariables false
variable [Foreign]

section
variable {w w' : World} {D : Nat} {G G' : List Nat} {d : DV} {gp gf gp' gf' : Option Nat} {inp : Int} {rest : ByteArray} {last done skip : Bool} {out fresh out' fresh' : List UInt8}
/-- What put leaves, with the blocks that it may have made. -/
def gAll (gp gf : Option Nat) (G : List Nat) : List Nat := gp.toList ++ gf.toList ++ G
omit [Foreign] in
theorem gAll_sub {b : Nat} (h : b ∈ G) : b ∈ gAll gp gf G := by simp [gAll, h]
theorem Core.wS (h : Core w D G d gp gf inp rest last done skip out fresh) : ∀ b ∈ wS D gp gf, b ∈ G := by
  intro b hb
  simp only [If.wS, List.mem_cons, List.mem_append, Option.mem_toList] at hb
  rcases hb with rfl | hb | hb
  · exact h.mem
  · exact h.outs.2.2.1 b hb
  · exact h.outs.2.2.2.1 b hb
theorem Core.after (h : Core w D G d gp gf inp rest last done skip out fresh) {p f : Value} {t : Int} (hd : DI w' D { d with past := p, fresh := f, tot := t }) (ho : Outs w' { d with past := p, fresh := f, tot := t } (gp'.toList ++ gf'.toList ++ G) gp' gf' out' fresh')
    (hf : Fr (If.wS D gp gf) w w') : Core w' D (gAll gp' gf' G) { d with past := p, fresh := f, tot := t } gp' gf' inp rest last done skip out' fresh' := by
  refine ⟨hd, gAll_sub h.mem, (h.inn.fr hf).of fun b hb => ?_, ho, h.last, h.done, h.skip, h.inp, h.rest⟩
  simp only [gAll, List.mem_append, Option.mem_toList] at hb
  rcases hb with (hb | hb) | hb
  · exact bat_lt ho.1 b hb
  · exact bat_lt ho.2.1 b hb
  · exact h.inn.fr hf b hb
theorem grows_put (h : Core w D G d gp gf inp rest last done skip out fresh) (h1 : ∀ b, gp' = some b → gp = some b ∨ w.heap.size ≤ b) (h2 : ∀ b, gf' = some b → gf = some b ∨ w.heap.size ≤ b) : Grows w G (gAll gp' gf' G) := by
  intro b hb
  simp only [gAll, List.mem_append, Option.mem_toList] at hb
  rcases hb with (hb | hb) | hb
  · rcases h1 b hb with h3 | h3
    · exact .inl (h.outs.2.2.1 b h3)
    · exact .inr h3
  · rcases h2 b hb with h3 | h3
    · exact .inl (h.outs.2.2.2.1 b h3)
    · exact .inr h3
  · exact .inl hb
theorem Dec.blk {v : Value} {L : List Nat} {n c : Nat} (h : Dec w G v L n c) : ∀ D', v = .pointer (some ⟨D', 0, none⟩) → ∃ cs, w.heap[D']? = some (.cells cs 207 (0, 0)) := by
  intro D' hD'
  obtain ⟨D2, g, sv, h1, h2, h3, h4, h5⟩ := h
  rw [h1] at hD'
  injection hD' with hD'
  injection hD' with hD'
  injection hD' with hD' _
  subst hD'
  obtain ⟨cur, hc, _⟩ := h4
  exact ⟨cur, hc⟩
theorem Dec.put {v : Value} {L : List Nat} {n c : Nat} (k : Dec w G v L n c) (h : Core w D G d gp gf inp rest last done skip out fresh) (hf : Fr (If.wS D gp gf) w w') (hg : Grows w G G') (hs : ∀ b ∈ G, b ∈ G') : Dec w' G' v L n c := by
  refine k.keep hf h.wS hg hs (fun D' hD' hm => ?_)
  obtain ⟨cs, hc⟩ := k.blk D' hD'
  simp only [If.wS, List.mem_cons, List.mem_append, Option.mem_toList] at hm
  rcases hm with rfl | hm | hm
  · rw [h.di] at hc; injection hc with hc; injection hc with _ hc _; cases hc
  · obtain ⟨cur, hc2⟩ := SlAt.lt h.outs.1 D' hm
    rw [hc2] at hc; injection hc with hc; injection hc with _ hc _; cases hc
  · obtain ⟨cur, hc2⟩ := SlAt.lt h.outs.2.1 D' hm
    rw [hc2] at hc; injection hc with hc; injection hc with _ hc _; cases hc
end

set_option maxRecDepth 100000 in
set_option maxHeartbeats 2000000 in
theorem fire157_byte (D : Nat) (G : List Nat) (d : DV) (gp gf : Option Nat) (inp : Int) (rest : ByteArray) (last skip : Bool) (out fresh : List UInt8) (b : UInt8) (p pa pb : Value) (A B : List Nat) (Da Db : Nat) (w : World)
    (hc : Core w D G d gp gf inp rest last false skip out fresh) (hp : Box w G p 173 (ptr D)) (hpa : Box w G pa 192 (ptr Da)) (hpb : Box w G pb 192 (ptr Db)) (ha : Dec w G (ptr Da) A 0 0) (hb : Dec w G (ptr Db) B 0 0) (hne : Da ≠ Db)
    (hi : 0 ≤ inp ∧ inp ≤ 1000000) (h1 : out.length < 65536) (h2 : (out.length : Int) < 1100 * inp + 1024) (h3 : fresh.length ≤ 65536) :
    Calls Tryz.prog 157 #[.int .i64 (b.toNat : Int), p, pa, pb] w (FP D G inp rest w ⟨.lit A B, 0, 0, last, out ++ [b], fresh ++ [b], skip⟩) := by
  have HC := hide hc
  have HP := hide hp
  have HPA := hide hpa
  have HPB := hide hpb
  have HA := hide ha
  have HB := hide hb
  have HNE : Hid (ptr Da ≠ ptr Db) := hide (fun h => hne (by injection h with h; injection h with h; injection h))
  obtain ⟨b1, e1, l1, -, c1⟩ := hp.at_
  obtain ⟨b2, e2, l2, -, c2⟩ := hpa.at_
  obtain ⟨b3, e3, l3, -, c3⟩ := hpb.at_
  obtain ⟨v, hv⟩ : ∃ v, v = b.toNat := ⟨_, rfl⟩
  have hvb : v < 256 := by rw [hv]; exact b.toNat_lt
  have HPUT := put150_any D d gp gf G out fresh b w hc.di hc.outs (by rw [hc.inp]; exact hi) h1 (by rw [hc.inp]; exact h2) h3
  rw [← hv] at HPUT ⊢
  have HPUT := hide HPUT
  have zw : IntKind.u8.wrap (v : Int) = (v : Int) := by rw [IntWalk.u8_in _ (by omega)]
  have hvi : (v : Int) < 256 := by omega
  subst e1 e2 e3
  clear hc hp hpa hpb ha hb hne hi h1 h2 h3 hv
  go_enter Tryz.func157, Tryz.ntmps157
  go_wp2_with fail
  refine (unhide HPUT).mono ?_
  rintro e w1 ⟨rfl, pv, fv, t, gp', gf', hd, ho, hx1, hx2, hf⟩
  have hc1 := HC.out.after hd ho hf
  have hg := grows_put HC.out hx1 hx2
  have hfG : Fr G w w1 := hf.sub HC.out.wS
  have HC1 := hide hc1
  have HG1 := hide hg
  have HFG := hide hfG
  have hp1 := HP.out.fr hfG hg
  have hpa1 := HPA.out.fr hfG hg
  have hpb1 := HPB.out.fr hfG hg
  have HA1 := hide (HA.out.put HC.out hf hg (fun _ h => gAll_sub h))
  have HB1 := hide (HB.out.put HC.out hf hg (fun _ h => gAll_sub h))
  obtain ⟨_, x1, k1, -, y1⟩ := hp1.at_
  injection x1 with x1; injection x1 with x1; injection x1 with x1 _; subst x1
  obtain ⟨_, x2, k2, -, y2⟩ := hpa1.at_
  injection x2 with x2; injection x2 with x2; injection x2 with x2 _; subst x2
  obtain ⟨_, x3, k3, -, y3⟩ := hpb1.at_
  injection x3 with x3; injection x3 with x3; injection x3 with x3 _; subst x3
  have HL := hide (literal152_any D _ (some ⟨Da, 0, none⟩) (some ⟨Db, 0, none⟩) _ w1 hc1.di hc1.inn)
  clear hd ho hx1 hx2 hf hc1 hg hfG hp1 hpa1 hpb1 c1 c2 c3 l1 l2 l3
  go_wp2_with fail
  refine (unhide HL).mono ?_
  rintro e w2 ⟨rfl, d', hd, ⟨q1, q2, q3, hde, z1, z2, z3⟩, hf⟩
  have HRES : Hid (FP D G inp rest w ⟨.lit A B, 0, 0, last, out ++ [b], fresh ++ [b], skip⟩ (.returned (.int .i64 0)) w2) := by
    have hfG2 := HC1.out.frG hf
    subst hde
    exact hide ⟨rfl, _, ⟨_, gp', gf', HC1.out.set hd hf rfl rfl rfl rfl rfl rfl rfl rfl, ⟨_, _, _, _, _, rfl, rfl, z1, z2, z3, HA1.out.set HC1.out.di HC1.out.mem hf, HB1.out.set HC1.out.di HC1.out.mem hf, HNE.out⟩⟩, HG1.out, HFG.out.thru HG1.out hfG2⟩
  clear hd hde z1 z2 z3 hf
  go_wp2
  go_ret
  exact HRES.out
end Go.Proofs.YthmhcnnigepohaaGreatDoor.If

/- inflate.Decoder: the closures that put out, and the ends (printed by tools/genfire2.py). -/
namespace Go.Proofs.YthmhcnnigepohaaGreatDoor.If
open Go.RowKit
open Dg (BAt bcells)
set_option linter.unusedVariables false
variable [Foreign]

set_option maxRecDepth 100000 in
set_option maxHeartbeats 4000000 in
theorem fire160 (D : Nat) (G : List Nat) (d : DV) (gp gf : Option Nat) (inp : Int) (rest : ByteArray) (last skip : Bool) (out fresh : List UInt8) (A B : List Nat) (Da Db n m far v : Nat) (p pn pm pf pa pb : Value) (w : World)
    (hc : Core w D G d gp gf inp rest last false skip out fresh) (hp : Box w G p 173 (ptr D)) (hpn : Box w G pn 3 (.int .i64 n)) (hpm : Box w G pm 3 (.int .i64 m)) (hpf : Box w G pf 3 (.int .i64 far)) (hpa : Box w G pa 192 (ptr Da)) (hpb : Box w G pb 192 (ptr Db)) (ha : Dec w G (ptr Da) A 0 0) (hb : Dec w G (ptr Db) B 0 0) (hne : Da ≠ Db) (hi : 0 ≤ inp ∧ inp ≤ 1000000) (h1 : out.length + (n + m) ≤ 65536) (h2 : (out.length : Int) + ((n + m : Nat) : Int) ≤ 1100 * inp + 1024) (h3 : fresh.length + (n + m) ≤ 65536) (h4 : 1 ≤ far + v) (h5 : far + v ≤ out.length) :
    Calls Tryz.prog 160 #[.int .i64 v, p, pn, pm, pf, pa, pb] w (FP D G inp rest w ⟨.lit A B, 0, 0, last, out ++ cp (far + v) (n + m) out, fresh ++ cp (far + v) (n + m) out, skip⟩) := by
  have HC := hide hc
  have Hp := hide hp
  obtain ⟨bp, ep, lp, -, cp⟩ := hp.at_
  have Hpn := hide hpn
  obtain ⟨bpn, epn, lpn, -, cpn⟩ := hpn.at_
  have Hpm := hide hpm
  obtain ⟨bpm, epm, lpm, -, cpm⟩ := hpm.at_
  have Hpf := hide hpf
  obtain ⟨bpf, epf, lpf, -, cpf⟩ := hpf.at_
  have Hpa := hide hpa
  obtain ⟨bpa, epa, lpa, -, cpa⟩ := hpa.at_
  have Hpb := hide hpb
  obtain ⟨bpb, epb, lpb, -, cpb⟩ := hpb.at_
  have HA := hide ha
  have HB := hide hb
  have HNE : Hid (ptr Da ≠ ptr Db) := hide (fun h => hne (by injection h with h; injection h with h; injection h))
  have HPU := copy161_any D d gp gf G out fresh (n + m) (far + v) w hc.di hc.outs (by rw [hc.inp]; exact hi) h1 (by rw [hc.inp]; exact h2) h3 h4 h5
  rw [Int.natCast_add, Int.natCast_add] at HPU
  have z1 : IntKind.i64.wrap ((n : Int) + (m : Int)) = (n : Int) + (m : Int) := IntWalk.i64_in _ (by omega)
  have z2 : IntKind.i64.wrap ((far : Int) + (v : Int)) = (far : Int) + (v : Int) := IntWalk.i64_in _ (by omega)
  have HPUT := hide (HPU)
  subst ep epn epm epf epa epb
  clear hc hp hpn hpm hpf hpa hpb ha hb hne hi h1 h2 h3 h4 h5 HPU
  go_enter Tryz.func160, Tryz.ntmps160
  go_wp2_with fail
  refine (unhide HPUT).mono ?_
  rintro e w1 ⟨rfl, pv, fv, t, gp', gf', hd, ho, hx1, hx2, hf⟩
  have hc1 := HC.out.after hd ho hf
  have hg := grows_put HC.out hx1 hx2
  have hfG : Fr G w w1 := hf.sub HC.out.wS
  have HC1 := hide hc1
  have HG1 := hide hg
  have HFG := hide hfG
  have HA1 := hide (HA.out.put HC.out hf hg (fun _ h => gAll_sub h))
  have HB1 := hide (HB.out.put HC.out hf hg (fun _ h => gAll_sub h))
  have hp1 := Hp.out.fr hfG hg
  obtain ⟨_, xp, kp, -, yp⟩ := hp1.at_
  injection xp with xp; injection xp with xp; injection xp with xp _; subst xp
  have hpn1 := Hpn.out.fr hfG hg
  obtain ⟨_, xpn, kpn, -, ypn⟩ := hpn1.at_
  injection xpn with xpn; injection xpn with xpn; injection xpn with xpn _; subst xpn
  have hpm1 := Hpm.out.fr hfG hg
  obtain ⟨_, xpm, kpm, -, ypm⟩ := hpm1.at_
  injection xpm with xpm; injection xpm with xpm; injection xpm with xpm _; subst xpm
  have hpf1 := Hpf.out.fr hfG hg
  obtain ⟨_, xpf, kpf, -, ypf⟩ := hpf1.at_
  injection xpf with xpf; injection xpf with xpf; injection xpf with xpf _; subst xpf
  have hpa1 := Hpa.out.fr hfG hg
  obtain ⟨_, xpa, kpa, -, ypa⟩ := hpa1.at_
  injection xpa with xpa; injection xpa with xpa; injection xpa with xpa _; subst xpa
  have hpb1 := Hpb.out.fr hfG hg
  obtain ⟨_, xpb, kpb, -, ypb⟩ := hpb1.at_
  injection xpb with xpb; injection xpb with xpb; injection xpb with xpb _; subst xpb
  have HL := hide (literal152_any D _ (some ⟨Da, 0, none⟩) (some ⟨Db, 0, none⟩) _ w1 hc1.di hc1.inn)
  clear hd ho hx1 hx2 hf hc1 hg hfG hp1 hpn1 hpm1 hpf1 hpa1 hpb1 cp cpn cpm cpf cpa cpb lp lpn lpm lpf lpa lpb
  go_wp2_with fail
  refine (unhide HL).mono ?_
  rintro e w2 ⟨rfl, d', hd, ⟨q1, q2, q3, hde, z1, z2, z3⟩, hf⟩
  have HRES : Hid (FP D G inp rest w ⟨.lit A B, 0, 0, last, out ++ cp (far + v) (n + m) out, fresh ++ cp (far + v) (n + m) out, skip⟩ (.returned (.int .i64 0)) w2) := by
    have hfG2 := HC1.out.frG hf
    subst hde
    exact hide ⟨rfl, _, ⟨_, gp', gf', HC1.out.set hd hf rfl rfl rfl rfl rfl rfl rfl rfl, ⟨_, _, _, _, _, rfl, rfl, z1, z2, z3, HA1.out.set HC1.out.di HC1.out.mem hf, HB1.out.set HC1.out.di HC1.out.mem hf, HNE.out⟩⟩, HG1.out, HFG.out.thru HG1.out hfG2⟩
  clear hd hde z1 z2 z3 hf
  go_wp2
  go_ret
  exact HRES.out

set_option maxRecDepth 100000 in
set_option maxHeartbeats 4000000 in
theorem fire149 (D : Nat) (G : List Nat) (d : DV) (gp gf : Option Nat) (inp : Int) (rest : ByteArray) (last skip : Bool) (out fresh : List UInt8) (b : UInt8) (n m : Nat) (p pn : Value) (w : World)
    (hc : Core w D G d gp gf inp rest last false skip out fresh) (hp : Box w G p 173 (ptr D)) (hpn : Box w G pn 3 (.int .i64 (n : Nat))) (hi : 0 ≤ inp ∧ inp ≤ 1000000) (h1 : out.length < 65536) (h2 : (out.length : Int) < 1100 * inp + 1024) (h3 : fresh.length ≤ 65536) (hn : n ≤ 70000) (hm : n = m + 1) (hm0 : m ≠ 0) :
    Calls Tryz.prog 149 #[.int .i64 (b.toNat : Int), p, pn] w (FP D G inp rest w ⟨.raw m, 0, 0, last, out ++ [b], fresh ++ [b], skip⟩) := by
  have HC := hide hc
  have Hp := hide hp
  obtain ⟨bp, ep, lp, -, cp⟩ := hp.at_
  have Hpn := hide hpn
  obtain ⟨bpn, epn, lpn, -, cpn⟩ := hpn.at_
  have HPU := put150_any D d gp gf G out fresh b w hc.di hc.outs (by rw [hc.inp]; exact hi) h1 (by rw [hc.inp]; exact h2) h3
  obtain ⟨v, hv⟩ : ∃ v, v = b.toNat := ⟨_, rfl⟩
  have hvb : v < 256 := by rw [hv]; exact b.toNat_lt
  rw [← hv] at HPU ⊢
  have zw : IntKind.u8.wrap (v : Int) = (v : Int) := by rw [IntWalk.u8_in _ (by omega)]
  have hvi : (v : Int) < 256 := by omega
  have zn : (n : Int) - 1 = (m : Int) := by omega
  have hmb : m ≤ 70000 := by omega
  have hn1 : (1 : Int) ≤ (n : Int) := by omega
  have HPUT := hide (HPU)
  subst ep epn
  clear hc hp hpn hi h1 h2 h3 HPU hv hm
  go_enter Tryz.func149, Tryz.ntmps149
  go_wp2_with fail
  refine (unhide HPUT).mono ?_
  rintro e w1 ⟨rfl, pv, fv, t, gp', gf', hd, ho, hx1, hx2, hf⟩
  have hc1 := HC.out.after hd ho hf
  have hg := grows_put HC.out hx1 hx2
  have hfG : Fr G w w1 := hf.sub HC.out.wS
  have HC1 := hide hc1
  have HG1 := hide hg
  have HFG := hide hfG
  have hp1 := Hp.out.fr hfG hg
  obtain ⟨_, xp, kp, -, yp⟩ := hp1.at_
  injection xp with xp; injection xp with xp; injection xp with xp _; subst xp
  have hpn1 := Hpn.out.fr hfG hg
  obtain ⟨_, xpn, kpn, -, ypn⟩ := hpn1.at_
  injection xpn with xpn; injection xpn with xpn; injection xpn with xpn _; subst xpn
  have HL := hide (raw143_any D _ m _ w1 hc1.di hc1.inn hm0 (by omega))
  clear hd ho hx1 hx2 hf hc1 hg hfG hp1 hpn1 cp cpn lp lpn
  clear hm0
  go_wp2_with fail
  refine (unhide HL).mono ?_
  rintro e w2 ⟨rfl, d', hd, ⟨q1, q2, hde, z1, z2⟩, hf⟩
  have HRES : Hid (FP D G inp rest w ⟨.raw m, 0, 0, last, out ++ [b], fresh ++ [b], skip⟩ (.returned (.int .i64 0)) w2) := by
    have hfG2 := HC1.out.frG hf
    subst hde
    exact hide ⟨rfl, _, ⟨_, gp', gf', HC1.out.set hd hf rfl rfl rfl rfl rfl rfl rfl rfl, ⟨⟨rfl, rfl, rfl, rfl⟩, _, _, rfl, z1, z2⟩⟩, HG1.out, HFG.out.thru HG1.out hfG2⟩
  clear hd hde z1 z2 hf
  go_wp2
  go_ret
  exact HRES.out

set_option maxRecDepth 100000 in
set_option maxHeartbeats 4000000 in
theorem fire149_end (D : Nat) (G : List Nat) (d : DV) (gp gf : Option Nat) (inp : Int) (rest : ByteArray) (last skip : Bool) (out fresh : List UInt8) (b : UInt8) (n : Nat) (p pn : Value) (w : World)
    (hc : Core w D G d gp gf inp rest last false skip out fresh) (hp : Box w G p 173 (ptr D)) (hpn : Box w G pn 3 (.int .i64 (n : Nat))) (hi : 0 ≤ inp ∧ inp ≤ 1000000) (h1 : out.length < 65536) (h2 : (out.length : Int) < 1100 * inp + 1024) (h3 : fresh.length ≤ 65536) (hl : last = true) (hn : n = 1) :
    Calls Tryz.prog 149 #[.int .i64 (b.toNat : Int), p, pn] w (FP D G inp rest w ⟨.fin, 0, 0, last, out ++ [b], fresh ++ [b], skip⟩) := by
  have HC := hide hc
  have Hp := hide hp
  obtain ⟨bp, ep, lp, -, cp⟩ := hp.at_
  have Hpn := hide hpn
  obtain ⟨bpn, epn, lpn, -, cpn⟩ := hpn.at_
  have HPU := put150_any D d gp gf G out fresh b w hc.di hc.outs (by rw [hc.inp]; exact hi) h1 (by rw [hc.inp]; exact h2) h3
  obtain ⟨v, hv⟩ : ∃ v, v = b.toNat := ⟨_, rfl⟩
  have hvb : v < 256 := by rw [hv]; exact b.toNat_lt
  rw [← hv] at HPU ⊢
  have zw : IntKind.u8.wrap (v : Int) = (v : Int) := by rw [IntWalk.u8_in _ (by omega)]
  have hvi : (v : Int) < 256 := by omega
  have zn : (n : Int) - 1 = 0 := by omega
  have hnb : n ≤ 1 := by omega
  have HPUT := hide (HPU)
  subst ep epn
  clear hc hp hpn hi h1 h2 h3 HPU hv hn
  go_enter Tryz.func149, Tryz.ntmps149
  go_wp2_with fail
  refine (unhide HPUT).mono ?_
  rintro e w1 ⟨rfl, pv, fv, t, gp', gf', hd, ho, hx1, hx2, hf⟩
  have hc1 := HC.out.after hd ho hf
  have hg := grows_put HC.out hx1 hx2
  have hfG : Fr G w w1 := hf.sub HC.out.wS
  have HC1 := hide hc1
  have HG1 := hide hg
  have HFG := hide hfG
  have hp1 := Hp.out.fr hfG hg
  obtain ⟨_, xp, kp, -, yp⟩ := hp1.at_
  injection xp with xp; injection xp with xp; injection xp with xp _; subst xp
  have hpn1 := Hpn.out.fr hfG hg
  obtain ⟨_, xpn, kpn, -, ypn⟩ := hpn1.at_
  injection xpn with xpn; injection xpn with xpn; injection xpn with xpn _; subst xpn
  have HL := hide (raw143_end D _ w1 hc1.di (by rw [hc1.last]; exact hl))
  clear hd ho hx1 hx2 hf hc1 hg hfG hp1 hpn1 cp cpn lp lpn
  go_wp2_with fail
  refine (unhide HL).mono ?_
  rintro e w2 ⟨rfl, d', hd, hde, hf⟩
  have HRES : Hid (FP D G inp rest w ⟨.fin, 0, 0, last, out ++ [b], fresh ++ [b], skip⟩ (.returned (.int .i64 0)) w2) := by
    have hfG2 := HC1.out.frG hf
    subst hde
    have hc2 := HC1.out
    exact hide ⟨rfl, _, ⟨_, gp', gf', ⟨hd, hc2.mem, hc2.inn.fr hf, ⟨SlAt.fr hc2.outs.1 hf (fun b hb => by simpa using bat_ne hc2.di hc2.outs.1 b hb), SlAt.fr hc2.outs.2.1 hf (fun b hb => by simpa using bat_ne hc2.di hc2.outs.2.1 b hb), hc2.outs.2.2⟩, hc2.last, rfl, hc2.skip, hc2.inp, hc2.rest⟩, trivial⟩, HG1.out, HFG.out.thru HG1.out hfG2⟩
  clear hd hde  hf
  go_wp2
  go_ret
  exact HRES.out
end Go.Proofs.YthmhcnnigepohaaGreatDoor.If
