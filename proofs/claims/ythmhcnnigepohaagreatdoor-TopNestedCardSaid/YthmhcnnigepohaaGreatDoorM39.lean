/- file: (*packed).files; the files of whatever has taken a content. -/
import Derived.Test.YthmhcnnigepohaaGreatDoorM38
namespace Go.Proofs.YthmhcnnigepohaaGreatDoor.Fi
open Go.RowKit
open If (Grows Ost PS ptr)
open En (In GRep Inflates Along mem phAt outAt inS mem_len slat_some Ph)
open Dg (HashOf Kst)
set_option linter.unusedVariables false

theorem FA.one : ∀ {c : Ch} {name : ByteArray} {l : List Value}, FA c name l → ∀ u ∈ l, u.oneCell' = true
  | .leaf X, name, l, h => by
    obtain ⟨t, rfl, _⟩ := h
    intro u hu
    simp only [fCells, List.mem_cons, List.not_mem_nil, or_false] at hu
    rcases hu with rfl | rfl | rfl | rfl | rfl | rfl <;> rfl
  | .wrap d st c, name, l, h => by
    obtain ⟨t, l', rfl, _, h⟩ := h
    intro u hu
    rw [List.mem_append] at hu
    rcases hu with hu | hu
    · simp only [fCells, List.mem_cons, List.not_mem_nil, or_false] at hu
      rcases hu with rfl | rfl | rfl | rfl | rfl | rfl <;> rfl
    · exact FA.one h u hu
theorem depth_le : ∀ (c : Ch) (lv : Nat), c.Good lv → lv + depth c ≤ 7
  | .leaf _, lv, h => by unfold depth; have := h.1; omega
  | .wrap d st c, lv, h => by have := depth_le c (lv + 1) h.2.2.2.2; simp only [depth]; omega
def FPost (c : Ch) (name : ByteArray) (w : World) (e : Ending) (w' : World) : Prop :=
  ∃ v b l, e = .returned v ∧ FA c name l ∧ SlAt 29 6 w' v (some b) (depth c) l ∧ w.heap.size ≤ b ∧ Fr [] w w'
def FilesOK (c : Ch) (lv : Nat) : Prop := ∀ (C : Nat) (v : Value) (G : List Nat) (name : ByteArray) (w : World), Sk w C lv c c.bytes.length v G → Kst w →
  ∃ P, (v = .iface 99 (ptr P) ∧ Calls Tryz.prog 95 #[ptr P, .string name] w (FPost c name w)) ∨ (v = .iface 100 (ptr P) ∧ Calls Tryz.prog 102 #[ptr P, .string name] w (FPost c name w))
theorem elem29 : ElemOk Tryz.prog 26 29 6 72 := ⟨Tryz.underlying26, by
  have h : (Tryz.prog.info? 29).map (fun i => (i.zero.map (fun z => z.cells.size), i.size, i.bytes)) = some (some 6, 6, 72) := by kernel_rfl
  cases hq : Tryz.prog.info? 29 with
  | none => rw [hq] at h; cases h
  | some i =>
    rw [hq] at h
    simp only [Option.map_some, Option.some.injEq, Prod.mk.injEq] at h
    obtain ⟨h1, h2, h3⟩ := h
    cases hz : i.zero with
    | none => rw [hz] at h1; cases h1
    | some z =>
      rw [hz] at h1
      simp only [Option.map_some, Option.some.injEq] at h1
      exact ⟨i, z, rfl, hz, h2, h3, h1⟩, by decide⟩
set_option maxRecDepth 100000 in
set_option maxHeartbeats 16000000 in
theorem files102_leaf {P : Nat} {X : List UInt8} {w : World} {p : PV} (name : ByteArray) (hX : X.length ≤ 60000) (hpi : PI w P p) (hh : HashOf w p.hb X) (hk : Kst w) (hhead : p.head = hd X X.length) (hnw : p.now = .nilIface) (hmm : p.mem = .slice none 0 0) :
    Calls Tryz.prog 102 #[ptr P, .string name] w (FPost (.leaf X) name w) := by
  have H95 := hide (pfiles95_any P p.hb 104 (PC p) X name w hpi (by rw [← hhead]; rfl) rfl rfl hh hk hX)
  have HPI := hide hpi
  have hl := hpi.lt
  have HNW := hide hnw
  have HMM := hide hmm
  clear hpi hh hk hhead hnw hmm
  unfold ptr
  go_enter Tryz.func102, Tryz.ntmps102
  go_wp2_with fail
  refine (unhide H95).mono ?_
  rintro e w1 ⟨v0, b0, t, rfl, ht, hs, hb, hf⟩
  have hpi1 := HPI.out.fr hf (by simp)
  have hl1 := hpi1.lt
  have c12 : w1.cell? ⟨P, 12, none⟩ = some (.slice none 0 0) := by rw [cell_blk hpi1]; show some p.mem = _; rw [HMM.out]
  have c11 : w1.cell? ⟨P, 11, none⟩ = some .nilIface := by rw [cell_blk hpi1]; show some p.now = _; rw [HNW.out]
  obtain ⟨va, vc, hv0⟩ := SlAt.shape hs
  have HRES : Hid (FPost (.leaf X) name w (.returned v0) w1) := hide ⟨v0, b0, _, rfl, ⟨t, rfl, ht⟩, hs, hb, hf⟩
  subst hv0
  clear ht hs hb hf hpi1
  go_wp2_with fail
  go_loopg [5, 39] 1 (fun gk a b wr => gk = 1 ∧ a = .slice va 1 vc ∧ b = .int .i64 0 ∧ wr = w1)
  case atStart => exact ⟨rfl, rfl, rfl, rfl⟩
  case round =>
    obtain ⟨rfl, rfl, rfl, rfl⟩ := hrel
    go_wp2_with fail
    go_ret
    exact HRES.out
set_option maxRecDepth 100000 in
set_option maxHeartbeats 16000000 in
theorem files102_wrap {C lv P bm : Nat} {d : List UInt8} {st : Nat → PS} {c : Ch} {w : World} {p : PV} {vn : Value} {Gn : List Nat} (name : ByteArray) (IH : FilesOK c (lv + 1)) (hgd : c.Good (lv + 1)) (hX : (mem d c.bytes).length ≤ 60000) (hpi : PI w P p) (hh : HashOf w p.hb (mem d c.bytes)) (hk : Kst w) (hhead : p.head = hd (mem d c.bytes) (mem d c.bytes).length) (hnw : p.now = .nilIface)
    (hmm : SlAt 168 2 w p.mem (some bm) 1 [.string inS, vn]) (hsk : Sk w C (lv + 1) c c.bytes.length vn Gn) :
    Calls Tryz.prog 102 #[ptr P, .string name] w (FPost (.wrap d st c) name w) := by
  have H95 := hide (pfiles95_any P p.hb 104 (PC p) (mem d c.bytes) name w hpi (by rw [← hhead]; rfl) rfl rfl hh hk hX)
  have HPI := hide hpi
  have hl := hpi.lt
  have HNW := hide hnw
  have HMM := hide hmm
  have HSK := hide hsk
  have HK := hide hk
  have HIH : Hid (FilesOK c (lv + 1)) := hide IH
  have HGD := hide hgd
  clear hpi hh hk hhead hnw hmm IH hsk hgd
  unfold ptr
  go_enter Tryz.func102, Tryz.ntmps102
  go_wp2_with fail
  refine (unhide H95).mono ?_
  rintro e w1 ⟨v0, b0, t, rfl, ht, hs, hb, hf⟩
  have hpi1 := HPI.out.fr hf (by simp)
  have hl1 := hpi1.lt
  obtain ⟨off, cap, cur, hmv, hmb, m1, m2, m3, m4⟩ : ∃ off cap cur, p.mem = .slice (some ⟨bm, off, none⟩) 1 cap ∧ w1.heap[bm]? = some (.cells cur 168 (0, 0)) ∧ 1 ≤ cap ∧ off + cap * 2 ≤ cur.size ∧ cur[off]? = some (.string inS) ∧ cur[off + 1]? = some vn := by
    rcases SlAt.fr HMM.out hf (by simp) with ⟨_, h, _⟩ | ⟨b', off, cap, cur, hg, hv, hb, h1, h2, h3, h4⟩
    · cases h
    · injection hg with hg
      subst hg
      exact ⟨off, cap, cur, hv, hb, h1, h2, h4 0 _ rfl, h4 1 _ rfl⟩
  have c12 : w1.cell? ⟨P, 12, none⟩ = some (.slice (some ⟨bm, off, none⟩) 1 cap) := by rw [cell_blk hpi1]; show some p.mem = _; rw [hmv]
  have c11 : w1.cell? ⟨P, 11, none⟩ = some .nilIface := by rw [cell_blk hpi1]; show some p.now = _; rw [HNW.out]
  have e0 : w1.cell? ⟨bm, off, none⟩ = some (.string inS) := by rw [cell_blk hmb]; exact m3
  have e1 : w1.cell? ⟨bm, off + 1, none⟩ = some vn := by rw [cell_blk hmb]; exact m4
  have hlb := lt_of_blk hmb
  obtain ⟨va, vc, hv0⟩ := SlAt.shape hs
  obtain ⟨l0, hl0⟩ : ∃ l, l = fCells name (mem d c.bytes) t := ⟨_, rfl⟩
  rw [← hl0] at hs
  have HS0 := hide hs
  have HF1 := hide hf
  have HB0 := hide hb
  have HT := hide ht
  have HL0 := hide hl0
  subst hv0
  clear ht hs hb hf hpi1 hmv hmb m1 m2 m3 m4 hl0
  go_wp2_with fail
  go_loopg [5, 39] 2 (fun gk a b wr => ∃ k : Nat, gk = 2 - k ∧ b = .int .i64 k ∧ ∃ v, v = a ∧ ((k = 0 ∧ SlAt 29 6 wr v (some b0) 1 l0 ∧ wr = w1) ∨ (k = 1 ∧ ∃ b1 l1, SlAt 29 6 wr v (some b1) (1 + depth c) (l0 ++ l1) ∧ FA c inS l1 ∧ w.heap.size ≤ b1 ∧ Fr [] w wr)))
  case atStart => exact ⟨0, rfl, rfl, _, rfl, .inl ⟨rfl, HS0.out, rfl⟩⟩
  case round =>
    obtain ⟨k, hgk, rfl, ov, rfl, ⟨rfl, hs, rfl⟩ | ⟨rfl, b1, l1, hs, hfa, hb1, hfw⟩⟩ := hrel
    · have HGK := hide hgk
      have HSO := hide hs
      obtain ⟨ao, co, hov⟩ := SlAt.shape hs
      obtain ⟨dn, hdn⟩ : ∃ n, n = depth c := ⟨_, rfl⟩
      obtain ⟨P', hcall⟩ := HIH.out C vn Gn inS (wr.alloc (.cells #[.string inS, vn] 168)) (Sk.fr ((HF1.out.trans ((Fr.refl [] wr).alloc _))) _ _ _ _ _ HSK.out (fun b _ => by simp)) (HK.out.fr (HF1.out.trans ((Fr.refl [] wr).alloc _)) (by simp))
      have hine : inS.toList.isEmpty = false := by decide +kernel
      obtain ⟨nm, hnm⟩ : ∃ y, y = inS := ⟨_, rfl⟩
      rw [← hnm] at hine e0 hcall
      have HNM := hide hnm
      have HDN := hide hdn
      have HDP := hide (depth_pos c)
      have HDL := hide (depth_le c (lv + 1) HGD.out)
      clear hgk hs hnm hdn
      rcases hcall with ⟨rfl, hcall⟩ | ⟨rfl, hcall⟩
      all_goals
        have HCALL := hide hcall
        clear hcall
        unfold ptr at e1 HCALL
        subst hov
        go_wp2_with fail
        refine (unhide HCALL).mono ?_
        rintro e w3 ⟨v2, b2, l1, rfl, hfa, hs2, hb2, hf3⟩
        have hf3' : Fr [] wr w3 := ((Fr.refl [] wr).alloc _).trans hf3
        have hs3 := SlAt.fr HSO.out hf3' (by simp)
        obtain ⟨o2, c2, cur2, hv2, hbk2, q1, q2, q3⟩ : ∃ off cap cur, v2 = .slice (some ⟨b2, off, none⟩) (depth c) cap ∧ w3.heap[b2]? = some (.cells cur 29 (0, 0)) ∧ depth c ≤ cap ∧ off + cap * 6 ≤ cur.size ∧ ∀ j u, l1[j]? = some u → cur[off + j]? = some u := by
          rcases hs2 with ⟨_, h, _⟩ | ⟨b', off, cap, cur, hg, hv, hb, h1, h2, h3, h4⟩
          · cases h
          · injection hg with hg
            subst hg
            exact ⟨off, cap, cur, hv, hb, h1, h2, h4⟩
        have hdl := HDL.out
        obtain ⟨v', w4, g4, hap, hsl, hf4, hg4⟩ := SlAt.append elem29 hs3 26 ⟨b2, o2, none⟩ (depth c) c2 l1 HDP.out (hfa.len) (fun j u hj => by rw [Addr.add_lit, cell_blk hbk2]; exact q3 j u hj) hfa.one (by omega) (by unfold maxLen; omega)
        have hf4 : Fr [b0] w3 w4 := hf4
        have hws := HF1.out.size
        have hws3 := hf3'.size
        have hb0 := HB0.out
        have hfw4 : Fr [] w w4 := (HF1.out.trans hf3').andThen hf4 (fun x hx => by simp at hx; subst hx; exact .inr hb0)
        obtain ⟨b1, rfl, hb1⟩ : ∃ b, g4 = some b ∧ w.heap.size ≤ b := by
          rcases hg4 with rfl | ⟨h, -⟩
          · exact ⟨b0, rfl, hb0⟩
          · exact ⟨_, h, by omega⟩
        have HRES : Hid (∃ k : Nat, 1 = 2 - k ∧ Value.int .i64 1 = .int .i64 k ∧ ∃ v, v = v' ∧ ((k = 0 ∧ SlAt 29 6 w4 v (some b0) 1 l0 ∧ w4 = wr) ∨ (k = 1 ∧ ∃ b1 l1, SlAt 29 6 w4 v (some b1) (1 + depth c) (l0 ++ l1) ∧ FA c inS l1 ∧ w.heap.size ≤ b1 ∧ Fr [] w w4))) := by
          rw [HNM.out] at hfa
          exact hide ⟨1, rfl, rfl, v', rfl, .inr ⟨rfl, b1, l1, hsl, hfa, hb1, hfw4⟩⟩
        rw [← HDN.out] at hap hv2
        subst hv2
        clear hfa hs2 hb2 hf3 hf3' hs3 hbk2 q1 q2 q3 hsl hf4 hg4 hws hws3 hb0 hfw4 hb1 hdl
        go_wp2_with (at_builtin; refine wpList_append_run rfl _ _ 26 rfl hap rfl rfl ?_)
        go_roundg 1
        case measure => have := HGK.out; omega
        case rel => exact HRES.out
    · obtain ⟨ao, co, hv⟩ := SlAt.shape hs
      have hres : Hid (FPost (.wrap d st c) name w (.returned ov) wr) := hide ⟨_, b1, _, rfl, ⟨t, l1, by rw [HL0.out], HT.out, hfa⟩, hs, hb1, hfw⟩
      subst hv
      clear hs hfa hb1 hfw hgk
      go_wp2_with fail
      go_ret
      exact hres.out
theorem files_ok : ∀ (c : Ch) (lv : Nat), c.Good lv → FilesOK c lv
  | .leaf X, lv, hg => by
    intro C v G name w hs hk
    obtain ⟨h0, P, hb, h1, h2, h3, h4, h5, h6⟩ := hs
    have hX : (Ch.leaf X).bytes.length = X.length := rfl
    rw [hX] at h2 h6
    rw [List.take_length] at h2
    rcases h6 with ⟨k1, k2, k3⟩ | ⟨k1, k2, p, k3, k4, k5, k6, k7, k8, k9, k10, k11⟩
    · refine ⟨P, .inl ⟨k2, (pfiles95_any P hb 98 _ X name w k3 rfl rfl rfl h2 hk hg.2.1).mono ?_⟩⟩
      rintro e w' ⟨v', b, t, q1, q2, q3, q4, q5⟩
      exact ⟨v', b, _, q1, ⟨t, rfl, q2⟩, q3, q4, q5⟩
    · subst k4
      exact ⟨P, .inr ⟨k2, files102_leaf name hg.2.1 k3 h2 hk k5 k9 k10⟩⟩
  | .wrap d st c, lv, hg => by
    intro C v G name w hs hk
    obtain ⟨h0, h1, P, p, Gd, Gn, k1, k2, k3, k4, k5, k6, k7, k8, k9, k10, k11, k12, k13, k14, k15, k16, k17, k18, k19⟩ := hs
    have hX : (Ch.wrap d st c).bytes = mem d c.bytes := rfl
    rw [hX] at k4 k8 k19
    rw [List.take_length] at k4
    have hl := mem_len d c.bytes
    rcases k19 with ⟨q, _⟩ | ⟨_, q0, ⟨q1, _⟩ | ⟨q1, q2, q3, bm, vn, q4, q5, q6⟩⟩
    · omega
    · omega
    · exact ⟨P, .inr ⟨k1, files102_wrap name (files_ok c (lv + 1) hg.2.2.2.2) hg.2.2.2.2 hg.2.2.2.1 k2 k4 hk k8 q2 q5 q6⟩⟩
end Go.Proofs.YthmhcnnigepohaaGreatDoor.Fi

/- file.Extractor: New, Write, Close. -/
namespace Go.Proofs.YthmhcnnigepohaaGreatDoor.Fi
open Go.RowKit
open If (Grows Ost PS ptr)
open En (In GRep Inflates Along mem phAt outAt inS mem_len slat_some Ph)
open Dg (HashOf Kst)
set_option linter.unusedVariables false

/-- The extractor at block E, after n bytes. -/
structure Ex (w : World) (E C : Nat) (c : Ch) (name : ByteArray) (n : Nat) (v : Value) (G : List Nat) : Prop where
  blk : w.heap[E]? = some (.cells #[.string name, v] 55 (0, 0))
  sk : Sk w C 0 c n v G
  env : Env w C G (made c n)
  eg : E ∉ G
  ec : E ≠ C
def NewPost (c : Ch) (name : ByteArray) (w : World) (e : Ending) (w' : World) : Prop :=
  ∃ E C v G, e = .returned (ptr E) ∧ Ex w' E C c name 0 v G ∧ Fr [] w w' ∧ (∀ b ∈ E :: C :: G, w.heap.size ≤ b)
set_option maxRecDepth 100000 in
set_option maxHeartbeats 8000000 in
theorem new8_any (c : Ch) (name : ByteArray) (w : World) (hg : c.Good 0) (hk : Kst w) (ho : Ost w) : Calls Tryz.prog 8 #[.string name, .agg #[.int .i64 65536, .int .i64 1100]] w (NewPost c name w) := by
  obtain ⟨B, hB⟩ : ∃ B, B = w.heap.size := ⟨_, rfl⟩
  obtain ⟨C, hC⟩ : ∃ C, C = w.heap.size + 1 := ⟨_, rfl⟩
  obtain ⟨w0, hw0⟩ : ∃ x, x = (w.alloc (.cells #[.int .i64 65536, .int .i64 1100] 40)).alloc (.cells #[.int .i64 0] 3) := ⟨_, rfl⟩
  have hf0 : Fr [] w w0 := by rw [hw0]; exact ((Fr.refl _ _).alloc _).alloc _
  have hct : Ct w0 C 0 := by rw [hw0]; exact heap_alloc_eq (by rw [hC]; simp)
  have hb0 : (w.alloc (.cells #[.int .i64 65536, .int .i64 1100] 40)).heap[B]? = some (.cells #[.int .i64 65536, .int .i64 1100] 40 (0, 0)) := heap_alloc_eq hB
  have c0 : (w.alloc (.cells #[.int .i64 65536, .int .i64 1100] 40)).cell? ⟨B, 0, none⟩ = some (.int .i64 65536) := cell_blk hb0 0
  have c1 : (w.alloc (.cells #[.int .i64 65536, .int .i64 1100] 40)).cell? ⟨B, 1, none⟩ = some (.int .i64 1100) := cell_blk hb0 1
  have H20 := hide (content20_any C 0 0 c w0 hg hct (by omega))
  have HF0 := hide hf0
  have HCT := hide hct
  have HW0 := hide hw0
  have HB := hide hB
  have HC := hide hC
  have HK := hide hk
  have HO := hide ho
  clear hf0 hct hw0 hb0 hB hk ho hg
  rw [show ((0 : Nat) : Int) = 0 from rfl] at H20
  unfold ptr at H20
  go_enter Tryz.func8, Tryz.ntmps8
  go_upto_region 1 with fail
  rw [← HB.out]
  go_wp2_with fail
  rw [← HC.out, ← HW0.out]
  refine (unhide H20).mono ?_
  rintro e w1 ⟨v, G, rfl, hs, hge, hc1, hf1⟩
  obtain ⟨t, x, hv⟩ := sk_iface hs
  obtain ⟨E, hE⟩ : ∃ E, E = w1.heap.size := ⟨_, rfl⟩
  have HRES : Hid (NewPost c name w (.returned (.pointer (some ⟨w1.heap.size, 0, none⟩))) (w1.alloc (.cells #[.string name, v] 55))) := by
    have hf2 : Fr [] w1 (w1.alloc (.cells #[.string name, v] 55)) := (Fr.refl _ _).alloc _
    have hs0 := HF0.out.size
    have hs1 := hf1.size
    have hC := HC.out
    have hCl := lt_of_blk hc1
    have hin := hs.inn
    have hkl := HK.out.lt
    have hf01 : Fr [] w w1 := HF0.out.andThen hf1 (fun b hb => by simp at hb; subst hb; right; omega)
    refine hide ⟨w1.heap.size, C, v, G, rfl, ⟨heap_alloc_eq rfl, Sk.fr hf2 _ _ _ _ _ hs (fun b _ => by simp), ⟨HK.out.fr (hf01.trans hf2) (by simp), HO.out.fr (hf01.trans hf2) (by simp), by rw [made_zero]; exact hc1.fr hf2 (by simp), by omega, fun hm => ?_, fun hm => ?_, fun hm => ?_⟩, fun hm => ?_, by omega⟩, hf01.trans hf2, fun b hb => ?_⟩
    · have := hge C hm
      have h2 := lt_of_blk HCT.out
      omega
    · have := hge 0 hm; omega
    · have := hge 1 hm; omega
    · have := hin _ hm; omega
    · simp only [List.mem_cons] at hb
      rcases hb with rfl | rfl | hb
      · omega
      · omega
      · have := hge b hb; omega
  subst hv
  clear hs hge hc1 hf1
  go_wp2_with fail
  go_ret
  exact HRES.out
def ExWPost (E C : Nat) (c : Ch) (name : ByteArray) (n : Nat) (v : Value) (G : List Nat) (w : World) (e : Ending) (w' : World) : Prop :=
  e = .returned (.tuple #[]) ∧ ∃ G', Ex w' E C c name n v G' ∧ Grows w G G' ∧ Fr (C :: G) w w'
set_option maxRecDepth 100000 in
set_option maxHeartbeats 8000000 in
theorem write9_any {E C n k : Nat} {c : Ch} {name s : ByteArray} {v : Value} {G : List Nat} {w : World} (hg : c.Good 0) (h : Ex w E C c name n v G) (hk : 0 < k) (hs : s = ba ((c.bytes.drop n).take k)) (hn : n + k ≤ c.bytes.length) :
    Calls Tryz.prog 9 #[ptr E, .string s] w (ExWPost E C c name (n + k) v G w) := by
  have hw := write_ok c 0 hg C n k v G s w hk h.sk hs hn (by rw [Nat.zero_add]; exact h.env)
  obtain ⟨t, x, hv⟩ := sk_iface h.sk
  have c1 : w.cell? ⟨E, 1, none⟩ = some v := cell_blk h.blk 1
  have hl := lt_of_blk h.blk
  have HE := hide h
  obtain ⟨P, hw⟩ := hw
  have key : ∀ e w', WPost C 0 c n k v G w e w' → ExWPost E C c name (n + k) v G w e w' := by
    rintro e w' ⟨rfl, G', h1, h2, h3, h4⟩
    have hne : E ∉ C :: G := by rw [List.mem_cons]; rintro (e | e); exact HE.out.ec e; exact HE.out.eg e
    rw [Nat.zero_add] at h2
    exact ⟨rfl, G', ⟨(h4.block E hl hne).trans HE.out.blk, h1, HE.out.env.step h3 h4 h2, gnot h3 hl HE.out.eg, HE.out.ec⟩, h3, h4⟩
  have KEY := hide key
  clear h hs key
  rcases hw with ⟨hv, hw⟩ | ⟨hv, hw⟩
  all_goals
    subst hv
    have HW := hide hw
    clear hw
    unfold ptr at c1
    unfold ptr
    go_enter Tryz.func9, Tryz.ntmps9
    go_wp2_with fail
    refine (unhide HW).mono ?_
    rintro e w1 hp
    have hp2 := KEY.out e w1 hp
    obtain ⟨rfl, hp3⟩ := hp2
    have HRES := hide hp3
    clear hp hp3
    go_wp2_with fail
    refine bodyPost_end (results_none rfl _ _ _) rfl ?_
    exact ⟨rfl, HRES.out⟩
def ClosePost (c : Ch) (name : ByteArray) (E : Nat) (w : World) (e : Ending) (w' : World) : Prop :=
  ∃ v b l, e = .returned v ∧ FA c name l ∧ SlAt 29 6 w' v (some b) (depth c) l ∧ w.heap.size ≤ b ∧ Fr [E] w w'
set_option maxRecDepth 100000 in
set_option maxHeartbeats 8000000 in
theorem close10_any {E C : Nat} {c : Ch} {name : ByteArray} {v : Value} {G : List Nat} {w : World} (hg : c.Good 0) (h : Ex w E C c name c.bytes.length v G) : Calls Tryz.prog 10 #[ptr E] w (ClosePost c name E w) := by
  have hw := files_ok c 0 hg C v G name w.drew (Sk.fr (Fr.refl [] w).drew _ _ _ _ _ h.sk (fun b _ => by simp)) (h.env.kst.fr (Fr.refl [] w).drew (by simp))
  have c1 : w.cell? ⟨E, 1, none⟩ = some v := cell_blk h.blk 1
  have c0 : w.cell? ⟨E, 0, none⟩ = some (.string name) := cell_blk h.blk 0
  have hl := lt_of_blk h.blk
  have HB := hide h.blk
  obtain ⟨P, hw⟩ := hw
  clear h hg
  rcases hw with ⟨hv, hw⟩ | ⟨hv, hw⟩
  · subst hv
    unfold ptr at hw c1
    have HW : Hid (Calls _ _ _ _ (FPost c name w)) := hide (hw.mono (by rintro e w' ⟨v, b, l, h1, h2, h3, h4, h5⟩; exact ⟨v, b, l, h1, h2, h3, h4, ((Fr.refl [] w).drew).trans h5⟩))
    have HC := hide (And.intro c0 c1)
    have hmeth : (Go.method 319 99 (.pointer (some ⟨P, 0, none⟩)) "intrusion/file.files").run Tryz.prog w.drew = .ok (95, .pointer (some ⟨P, 0, none⟩)) w.drew := by kernel_rfl
    clear hw
    unfold ptr
    go_enter Tryz.func10, Tryz.ntmps10
    go_upto_region 3 with fail
    go_region_held3 (fun W => W.cell? ⟨E, 0, none⟩ = some (.string name) ∧ W.cell? ⟨E, 1, none⟩ = some (.iface 99 (.pointer (some ⟨P, 0, none⟩)))) (first | assumption | exact En.fr_cell ‹_› HC.out.1 | exact En.fr_cell ‹_› HC.out.2 | exact HC.out | exact ⟨En.fr_cell ‹_› HC.out.1, En.fr_cell ‹_› HC.out.2⟩) (first | ((with_reducible refine (unhide HW).mono ?_); rintro e w1 ⟨fv, fb, l, rfl, hfa, hs, hb, hf⟩))
    have hf1 : Fr [] w w1 := hf
    have hb1 : w1.heap[E]? = _ := (hf1.block E hl (by simp)).trans HB.out
    have d1 : w1.cell? ⟨E, 1, none⟩ = some (.iface 99 (.pointer (some ⟨P, 0, none⟩))) := cell_blk hb1 1
    have df1 : w1.frozen? ⟨E, 1, none⟩ = false := froz_blk hb1 1
    have hl1 := lt_of_blk hb1
    have hbE : fb ≠ E := by
      rintro rfl
      obtain ⟨cur, hc⟩ := SlAt.lt hs _ rfl
      rw [hb1] at hc
      injection hc with hc; injection hc with _ hc _; cases hc
    have hf2 : Fr [E] w1 (w1.setCell ⟨E, 1, none⟩ .nilIface) := (Fr.refl [E] w1).setCell (.inl (by simp)) _
    have HRES : Hid (ClosePost c name E w (.returned fv) (w1.setCell ⟨E, 1, none⟩ .nilIface)) := hide ⟨fv, fb, l, rfl, hfa, slat_some hs hf2 (by simpa using hbE), hb, (hf1.mono (by simp)).trans hf2⟩
    obtain ⟨ao, co, hfv⟩ := SlAt.shape hs
    subst hfv
    clear hfa hs hb hf hf1 hb1 hbE hf2 hmeth
    go_wp2_with fail
    go_ret
    exact HRES.out
  · subst hv
    unfold ptr at hw c1
    have HW : Hid (Calls _ _ _ _ (FPost c name w)) := hide (hw.mono (by rintro e w' ⟨v, b, l, h1, h2, h3, h4, h5⟩; exact ⟨v, b, l, h1, h2, h3, h4, ((Fr.refl [] w).drew).trans h5⟩))
    have HC := hide (And.intro c0 c1)
    have hmeth : (Go.method 319 100 (.pointer (some ⟨P, 0, none⟩)) "intrusion/file.files").run Tryz.prog w.drew = .ok (102, .pointer (some ⟨P, 0, none⟩)) w.drew := by kernel_rfl
    clear hw
    unfold ptr
    go_enter Tryz.func10, Tryz.ntmps10
    go_upto_region 3 with fail
    go_region_held3 (fun W => W.cell? ⟨E, 0, none⟩ = some (.string name) ∧ W.cell? ⟨E, 1, none⟩ = some (.iface 100 (.pointer (some ⟨P, 0, none⟩)))) (first | assumption | exact En.fr_cell ‹_› HC.out.1 | exact En.fr_cell ‹_› HC.out.2 | exact HC.out | exact ⟨En.fr_cell ‹_› HC.out.1, En.fr_cell ‹_› HC.out.2⟩) (first | ((with_reducible refine (unhide HW).mono ?_); rintro e w1 ⟨fv, fb, l, rfl, hfa, hs, hb, hf⟩))
    have hf1 : Fr [] w w1 := hf
    have hb1 : w1.heap[E]? = _ := (hf1.block E hl (by simp)).trans HB.out
    have d1 : w1.cell? ⟨E, 1, none⟩ = some (.iface 100 (.pointer (some ⟨P, 0, none⟩))) := cell_blk hb1 1
    have df1 : w1.frozen? ⟨E, 1, none⟩ = false := froz_blk hb1 1
    have hl1 := lt_of_blk hb1
    have hbE : fb ≠ E := by
      rintro rfl
      obtain ⟨cur, hc⟩ := SlAt.lt hs _ rfl
      rw [hb1] at hc
      injection hc with hc; injection hc with _ hc _; cases hc
    have hf2 : Fr [E] w1 (w1.setCell ⟨E, 1, none⟩ .nilIface) := (Fr.refl [E] w1).setCell (.inl (by simp)) _
    have HRES : Hid (ClosePost c name E w (.returned fv) (w1.setCell ⟨E, 1, none⟩ .nilIface)) := hide ⟨fv, fb, l, rfl, hfa, slat_some hs hf2 (by simpa using hbE), hb, (hf1.mono (by simp)).trans hf2⟩
    obtain ⟨ao, co, hfv⟩ := SlAt.shape hs
    subst hfv
    clear hfa hs hb hf hf1 hb1 hbE hf2 hmeth
    go_wp2_with fail
    go_ret
    exact HRES.out
end Go.Proofs.YthmhcnnigepohaaGreatDoor.Fi

/- intrusiontop.packed. -/
namespace Go.Proofs.YthmhcnnigepohaaGreatDoor.Tp
open Go.RowKit
open If (Grows Ost PS ptr)
open En (In Inflates Along mem inS mem_len slat_some elem9)
open Dg (HashOf Kst)
open Fi (Ch ba ba_data ba_size ba_of depth)
set_option linter.unusedVariables false

/-- Bytes that can be read. -/
def BR (w : World) (v : Value) (l : List Nat) : Prop := ∃ a cap, v = .slice a l.length cap ∧ (∀ x ∈ l, x < 256) ∧ ∀ i, i < l.length → ∃ ad, a = some ad ∧ w.cell? (ad.add i) = some (.int .u8 ((l.getD i 0 : Nat) : Int))
theorem BR.fr {w w' : World} {v : Value} {l : List Nat} (h : BR w v l) (hf : Fr [] w w') : BR w' v l := by
  obtain ⟨a, cap, h1, h2, h3⟩ := h
  refine ⟨a, cap, h1, h2, fun i hi => ?_⟩
  obtain ⟨ad, e1, e2⟩ := h3 i hi
  exact ⟨ad, e1, En.fr_cell hf e2⟩
/-- A content that is as it should be, whatever its level. -/
def Sound : Ch → Prop
  | .leaf X => X.length ≤ 60000 ∧ X.head? ≠ some 31
  | .wrap d st c => Inflates d c.bytes ∧ Along d c.bytes st ∧ (mem d c.bytes).length ≤ 60000 ∧ Sound c
theorem Sound.good : ∀ {c : Ch} {lv : Nat}, Sound c → lv + depth c ≤ 7 → c.Good lv
  | .leaf X, lv, h, hd => ⟨by simp only [depth] at hd; omega, h⟩
  | .wrap d st c, lv, h, hd => by
    simp only [depth] at hd
    have := Fi.depth_pos c
    exact ⟨by omega, h.1, h.2.1, h.2.2.1, Sound.good h.2.2.2 (by omega)⟩
def layers : Ch → List (List UInt8)
  | .leaf X => [X]
  | .wrap d st c => mem d c.bytes :: layers c
def inner : Ch → List UInt8
  | .leaf X => X
  | .wrap _ _ c => inner c
theorem layers_len : ∀ c : Ch, (layers c).length = depth c
  | .leaf _ => rfl
  | .wrap d st c => by simp only [layers, depth, List.length_cons, layers_len c]; omega
theorem layers_head : ∀ c : Ch, ∃ r, layers c = c.bytes :: r
  | .leaf _ => ⟨[], rfl⟩
  | .wrap d st c => ⟨layers c, rfl⟩
def strs (c : Ch) : List Value := (layers c).map (fun X => .string (ba X))
theorem strs_len (c : Ch) : (strs c).length = depth c := by unfold strs; rw [List.length_map, layers_len]
theorem strs_one (c : Ch) : ∀ u ∈ strs c, u.oneCell' = true := by
  intro u hu
  unfold strs at hu
  rw [List.mem_map] at hu
  obtain ⟨X, _, rfl⟩ := hu
  rfl
/-- How long a content may be after n rounds. -/
def Bn : Nat → Nat
  | 0 => 2000
  | n + 1 => 11 * Bn n / 8 + 621
theorem Bn_le (n : Nat) (h : n ≤ 6) : Bn n ≤ 30000 := by
  have : n = 0 ∨ n = 1 ∨ n = 2 ∨ n = 3 ∨ n = 4 ∨ n = 5 ∨ n = 6 := by omega
  rcases this with rfl | rfl | rfl | rfl | rfl | rfl | rfl <;> decide
theorem slat_at {e k n b : Nat} {w : World} {v : Value} {xs : List Value} (h : SlAt e k w v (some b) n xs) : ∃ off cap, v = .slice (some ⟨b, off, none⟩) n cap ∧ b < w.heap.size ∧ ∀ j u, xs[j]? = some u → w.cell? ⟨b, off + j, none⟩ = some u := by
  rcases h with ⟨_, h, _⟩ | ⟨b', off, cap, cur, hg, hv, hb, h1, h2, h3, h4⟩
  · cases h
  · injection hg with hg
    subst hg
    exact ⟨off, cap, hv, lt_of_blk hb, fun j u hj => by rw [cell_blk hb]; exact h4 j u hj⟩
def PkPost (s : ByteArray) (ks : List Nat) (w : World) (e : Ending) (w' : World) : Prop :=
  ∃ v b c, e = .returned (.tuple #[v, .bool true]) ∧ Sound c ∧ depth c = ks.length + 1 ∧ inner c = s.data.toList ∧ SlAt 9 1 w' v (some b) (depth c) (strs c) ∧ Fr [] w w'
set_option maxRecDepth 100000 in
set_option maxHeartbeats 16000000 in
theorem packed4_any (s : ByteArray) (kv : Value) (ks : List Nat) (w : World) (hkv : BR w kv ks) (hks : ks.length ≤ 6) (hs : s.size ≤ 2000) (hs0 : s.data.toList.head? ≠ some 31) (ho : Ost w) : Calls Tryz.prog 4 #[.string s, kv] w (PkPost s ks w) := by
  obtain ⟨X, hX⟩ : ∃ X, X = s.data.toList := ⟨_, rfl⟩
  have hXl : X.length = s.size := by rw [hX, Array.length_toList]; rfl
  have hsX : s = ba X := by rw [hX]; exact ba_of rfl
  obtain ⟨n, hn⟩ : ∃ n, n = ks.length := ⟨_, rfl⟩
  obtain ⟨ka, kc, hkv1, hkb, hkc⟩ := hkv
  rw [← hn] at hkv1 hkc hks
  obtain ⟨lb0, hlb0⟩ : ∃ b, b = w.heap.size := ⟨_, rfl⟩
  have HS0 : Hid (SlAt 9 1 (w.alloc (.cells #[.string s] 9)) (.slice (some ⟨lb0, 0, none⟩) 1 1) (some lb0) (depth (.leaf X)) (strs (.leaf X))) := by
    refine hide (.inr ⟨lb0, 0, 1, _, rfl, rfl, by rw [hlb0]; exact heap_alloc_eq rfl, Nat.le_refl _, by simp, rfl, fun j u hj => ?_⟩)
    rw [Nat.zero_add]
    match j, hj with
    | 0, hj => rw [hsX]; exact hj
  have HF0 : Hid (Fr [] w (w.alloc (.cells #[.string s] 9))) := hide ((Fr.refl _ _).alloc _)
  have HSND : Hid (Sound (.leaf X) ∧ inner (.leaf X) = X ∧ (Ch.leaf X).bytes.length ≤ Bn 0) := hide ⟨⟨by omega, by rw [hX]; exact hs0⟩, rfl, by show X.length ≤ 2000; omega⟩
  have HKB := hide hkb
  have HKC := hide hkc
  have HO := hide ho
  have HX := hide hX
  have HN := hide hn
  have HLB := hide hlb0
  subst hkv1
  clear hX hXl hsX hkb hkc ho hs0 hn hlb0 hs
  go_enter Tryz.func4, Tryz.ntmps4
  go_wp2_with fail
  rw [← HLB.out]
  go_loopg [6, 7] (n + 1) (fun gk a b wr => ∃ i : Nat, gk = n + 1 - i ∧ i ≤ n ∧ b = .int .i64 i ∧ ∃ v, v = a ∧ ∃ (lb : Nat) (c : Ch), Sound c ∧ depth c = i + 1 ∧ inner c = X ∧ c.bytes.length ≤ Bn i ∧ SlAt 9 1 wr v (some lb) (depth c) (strs c) ∧ Fr [] w wr)
  case atStart => exact ⟨0, rfl, by omega, rfl, _, rfl, lb0, .leaf X, HSND.out.1, rfl, HSND.out.2.1, HSND.out.2.2, HS0.out, HF0.out⟩
  case round =>
    obtain ⟨i, hgk, hi, rfl, lv, rfl, lb, c, hsnd, hdep, hinn, hlen, hsl, hf⟩ := hrel
    have HGK := hide hgk
    obtain ⟨off, cap, hlv, hlbl, hcell⟩ := slat_at hsl
    obtain ⟨dn, hdn⟩ : ∃ m, m = depth c := ⟨_, rfl⟩
    have hdn0 : 0 < dn := by omega
    have hdn7 : dn ≤ 7 := by omega
    rw [← hdn] at hlv
    have HDN := hide hdn
    clear hdn
    have HSL := hide hsl
    have HF := hide hf
    have HSD := hide (And.intro hsnd (And.intro hdep (And.intro hinn hlen)))
    by_cases hlt : i < n
    · have hBl := Bn_le i (by omega)
      have hc0 : (strs c)[0]? = some (.string (ba c.bytes)) := by
        obtain ⟨r, hr⟩ := layers_head c
        unfold strs
        rw [hr]
        rfl
      obtain ⟨t, ht⟩ : ∃ t, t = ba c.bytes := ⟨_, rfl⟩
      rw [← ht] at hc0
      have l0 : wr.cell? ⟨lb, off, none⟩ = some (.string t) := hcell 0 _ hc0
      obtain ⟨ad, hka, hkcell⟩ := HKC.out i hlt
      obtain ⟨x, hx⟩ : ∃ x, x = ks.getD i 0 := ⟨_, rfl⟩
      have hx256 : x < 256 := by
        rw [hx]
        have hi2 : i < ks.length := by rw [← HN.out]; exact hlt
        rw [List.getD_eq_getElem?_getD, List.getElem?_eq_getElem hi2]
        exact HKB.out _ (List.getElem_mem hi2)
      rw [← hx] at hkcell
      have k0 : wr.cell? (ad.add i) = some (.int .u8 (x : Int)) := En.fr_cell hf hkcell
      obtain ⟨y, hy⟩ : ∃ y, y = x % 3 := ⟨_, rfl⟩
      have H7 : Hid (Calls _ _ _ _ (En.EncPost t wr)) := hide ((En.encode7_any t y wr.drew (by omega) (by rw [ht, ba_size]; omega) ((HO.out.fr hf (by simp)).fr (Fr.refl [] wr).drew (by simp))).mono (by rintro e w' ⟨d, h1, h2, h3, h4⟩; exact ⟨d, h1, h2, h3, ((Fr.refl [] wr).drew).trans h4⟩))
      have hm1 : (x : Int) % 3 = (y : Int) := by omega
      have hm2 : Int.tmod (x : Int) 3 = (y : Int) := by rw [Int.tmod_eq_emod_of_nonneg (by omega)]; omega
      have hy3 : y < 3 := by omega
      have hw3 : IntKind.i64.wrap (y : Int) = (y : Int) := IntWalk.i64_in _ (by omega)
      have hnm : (⟨#[105, 110]⟩ : ByteArray) = inS := rfl
      have HT := hide ht
      clear hgk hsnd hdep hinn hlen hsl hf hcell hc0 hkcell ht hy hx
      subst hlv
      subst hka
      go_upto_region 5 with fail
      go_region_held3 (fun W => W.cell? ⟨lb, off, none⟩ = some (.string t) ∧ W.cell? (ad.add i) = some (.int .u8 (x : Int))) (first | assumption | exact En.fr_cell ‹_› ‹_› | exact ⟨En.fr_cell ‹_› l0, En.fr_cell ‹_› k0⟩ | exact ⟨l0, k0⟩) (first | ((with_reducible refine (unhide H7).mono ?_); rintro e w1 ⟨d, rfl, hd1, hd2, hf1⟩))
      have hfw1 : Fr [] wr w1 := hf1
      obtain ⟨st, hal⟩ := En.along_of hd1 (by have := HSD.out.2.2.2; rw [HT.out, ba_size] at hd2; omega)
      obtain ⟨M, hM⟩ : ∃ M : ByteArray, M = ⟨(mem d t.data.toList).toArray⟩ := ⟨_, rfl⟩
      have hMb : M = ba (mem d c.bytes) := by rw [hM, HT.out]; rfl
      rw [HT.out, ba_data] at hd1 hal
      rw [HT.out, ba_size] at hd2
      obtain ⟨lc2, hlc2⟩ : ∃ q : Ch, q = .wrap d st c := ⟨_, rfl⟩
      have hml : (mem d c.bytes).length ≤ Bn (i + 1) := by
        have h := HSD.out.2.2.2
        rw [mem_len]
        show _ ≤ 11 * Bn i / 8 + 621
        omega
      have hBl1 := Bn_le (i + 1) (by omega)
      have hsnd2 : Sound lc2 ∧ depth lc2 = i + 1 + 1 ∧ inner lc2 = X ∧ lc2.bytes.length ≤ Bn (i + 1) := by
        rw [hlc2]
        exact ⟨⟨hd1, hal, by omega, HSD.out.1⟩, by show 1 + depth c = _; rw [HSD.out.2.1]; omega, HSD.out.2.2.1, hml⟩
      have hstr : strs lc2 = [.string M] ++ strs c := by rw [hlc2, hMb]; rfl
      have hdep2 : depth lc2 = 1 + depth c := by rw [hlc2]; rfl
      rw [← hM]
      obtain ⟨w2, hw2⟩ : ∃ q, q = w1.alloc (.cells #[.string M] 9) := ⟨_, rfl⟩
      have hf2 : Fr [] w1 w2 := by rw [hw2]; exact (Fr.refl _ _).alloc _
      have hs2 : SlAt 9 1 w2 (.slice (some ⟨w1.heap.size, 0, none⟩) 1 1) (some w1.heap.size) 1 [.string M] := by
        refine .inr ⟨w1.heap.size, 0, 1, _, rfl, rfl, by rw [hw2]; exact heap_alloc_eq rfl, Nat.le_refl _, by simp, rfl, fun j u hj => ?_⟩
        rw [Nat.zero_add]
        match j, hj with
        | 0, hj => exact hj
      have hfw2 := hfw1.trans hf2
      have hdnn := HDN.out
      have hold := SlAt.fr HSL.out hfw2 (by simp)
      obtain ⟨off2, cap2, e1, e2, hcell2⟩ := slat_at hold
      obtain ⟨rfl, rfl⟩ : off2 = off ∧ cap2 = cap := by
        injection e1 with e1 e3 e4
        injection e1 with e1
        injection e1 with e1 e5
        exact ⟨e5.symm, e4.symm⟩
      obtain ⟨v', w3, g3, hap, hsl3, hf3, hg3⟩ := SlAt.append elem9 hs2 23 ⟨lb, off2, none⟩ (depth c) cap2 (strs c) (by omega) (by rw [strs_len]; omega) (fun j u hj => by rw [Addr.add_lit]; exact hcell2 j u hj) (strs_one c) (by omega) (by unfold maxLen; omega)
      have hf3 : Fr [w1.heap.size] w2 w3 := hf3
      have hws := HF.out.size
      have hws1 := hfw1.size
      have hfw3 : Fr [] w w3 := (HF.out.trans hfw2).andThen hf3 (fun b hb => by simp at hb; subst hb; right; omega)
      obtain ⟨b3, rfl⟩ : ∃ b, g3 = some b := by
        rcases hg3 with rfl | ⟨h, -⟩
        · exact ⟨_, rfl⟩
        · exact ⟨_, h⟩
      have HRES : Hid (∃ j : Nat, n + 1 - (i + 1) = n + 1 - j ∧ j ≤ n ∧ Value.int .i64 ((i : Int) + 1) = .int .i64 j ∧ ∃ v, v = v' ∧ ∃ (lb : Nat) (c : Ch), Sound c ∧ depth c = j + 1 ∧ inner c = X ∧ c.bytes.length ≤ Bn j ∧ SlAt 9 1 w3 v (some lb) (depth c) (strs c) ∧ Fr [] w w3) := by
        refine hide ⟨i + 1, rfl, hlt, by go_num, v', rfl, b3, lc2, hsnd2.1, hsnd2.2.1, hsnd2.2.2.1, hsnd2.2.2.2, ?_, hfw3⟩
        rw [hstr, hdep2]
        exact hsl3
      have hap1 : (Builtin.append_ #[23, 23] 23 #[.slice (some ⟨w1.heap.size, 0, none⟩) 1 1, .slice (some ⟨lb, off2, none⟩) dn cap2]).run Tryz.prog (w1.alloc (.cells #[.string M] 9)) = .ok v' w3 := by rw [← hw2, hdnn]; exact hap
      obtain ⟨va, vl, vc, hv'⟩ : ∃ a l c, v' = .slice a l c := by
        obtain ⟨a, c, h⟩ := SlAt.shape hsl3
        exact ⟨a, _, c, h⟩
      subst hv'
      clear hf1 hd1 hd2 hal hM hMb hlc2 hml hsnd2 hstr hdep2 hw2 hf2 hs2 hfw1 hfw2 hold e1 e2 hcell2 hap hsl3 hf3 hg3 hws hws1 hfw3 hdnn l0 k0
      go_wp2_with (at_builtin; refine wpList_append_run rfl _ _ 23 rfl hap1 rfl rfl ?_)
      go_roundg (n + 1 - (i + 1))
      case measure => have := HGK.out; omega
      case rel => exact HRES.out
    · have hin : i = n := by omega
      have HRES : Hid (PkPost s ks w (.returned (.tuple #[lv, .bool true])) wr) := hide ⟨_, lb, c, rfl, hsnd, by rw [hdep, hin, HN.out], by rw [hinn, HX.out], hsl, hf⟩
      subst hlv
      subst hin
      clear hgk hsnd hdep hinn hlen hsl hf hcell
      go_wp2_with fail
      go_ret2
      exact HRES.out
end Go.Proofs.YthmhcnnigepohaaGreatDoor.Tp

/- intrusiontop.extracted. -/
namespace Go.Proofs.YthmhcnnigepohaaGreatDoor.Tp
open Go.RowKit
open If (Grows Ost PS ptr)
open En (In Inflates Along mem inS mem_len slat_some elem9)
open Dg (HashOf Kst)
open Fi (Ch ba ba_data ba_size ba_of ba_ext depth FA Ex)
set_option linter.unusedVariables false

def outS : ByteArray := ⟨#[111, 117, 116]⟩
def XtPost (c : Ch) (w : World) (e : Ending) (w' : World) : Prop :=
  ∃ v b l, e = .returned v ∧ FA c outS l ∧ SlAt 29 6 w' v (some b) (depth c) l ∧ w.heap.size ≤ b ∧ Fr [] w w'
set_option maxRecDepth 100000 in
set_option maxHeartbeats 16000000 in
theorem extracted5_any (c : Ch) (z : Nat) (w : World) (hg : c.Good 0) (hz : 0 < z) (hz2 : z ≤ 1000) (hk : Kst w) (ho : Ost w) : Calls Tryz.prog 5 #[.string (ba c.bytes), .int .i64 z] w (XtPost c w) := by
  have H8 := Fi.new8_any c outS w hg hk ho
  obtain ⟨on, hon⟩ : ∃ o, o = outS := ⟨_, rfl⟩
  have H8 := hide H8
  have hlen := hg.len
  obtain ⟨n, hn⟩ : ∃ n, n = c.bytes.length := ⟨_, rfl⟩
  obtain ⟨s0, hs0⟩ : ∃ s, s = ba c.bytes := ⟨_, rfl⟩
  rw [← hs0]
  rw [← hn] at hlen
  have HG := hide hg
  have HN := hide hn
  have HS0 := hide hs0
  have hout : (⟨#[111, 117, 116]⟩ : ByteArray) = outS := rfl
  clear hg hk ho hn hs0 hon
  go_enter Tryz.func5, Tryz.ntmps5
  go_wp2_with fail
  refine (unhide H8).mono ?_
  rintro e w1 ⟨E, C, v, G, he, hex, hf1, hnew⟩
  have he : e = .returned (.pointer (some ⟨E, 0, none⟩)) := he
  subst he
  have HEX := hide hex
  have HF1 := hide hf1
  have HNEW := hide hnew
  clear hex hf1 hnew
  go_wp2_with fail
  go_loopg [0] (n + 1) (fun gk a wr => ∃ (m : Nat) (t : ByteArray) (G' : List Nat), gk = n + 1 - m ∧ m ≤ n ∧ a = .string t ∧ t = ba (c.bytes.drop m) ∧ Ex wr E C c outS m v G' ∧ Fr [] w wr ∧ (∀ b ∈ E :: C :: G', w.heap.size ≤ b))
  case atStart => exact ⟨0, s0, G, rfl, Nat.zero_le _, rfl, HS0.out, HEX.out, HF1.out, HNEW.out⟩
  case round =>
    obtain ⟨m, t, G', hgk, hm, rfl, ht, hex, hf, hnew⟩ := hrel
    have HGK := hide hgk
    have HT := hide ht
    have HEX2 := hide hex
    have HF := hide hf
    have HNEW2 := hide hnew
    by_cases hlt : m < n
    · have hts : t.size = n - m := by rw [ht, ba_size, List.length_drop, HN.out]
      have hte : t.toList.isEmpty = false := by
        rw [Lib.toList_data]
        have h1 : t.data.toList.length = n - m := by rw [← hts, Array.length_toList]; rfl
        cases h : t.data.toList with
        | nil => rw [h] at h1; simp at h1; omega
        | cons a b => rfl
      obtain ⟨q, hq⟩ : ∃ q, q = min z t.size := ⟨_, rfl⟩
      have hq0 : 0 < q := by omega
      have hqt : q ≤ t.size := by omega
      have hpc : t.extract 0 q = ba ((c.bytes.drop m).take q) := by rw [ht, ba_ext]; rfl
      have hrest : t.extract q t.size = ba (c.bytes.drop (m + q)) := by
        rw [ht, ba_ext, ba_size]
        congr 1
        rw [List.drop_drop, List.take_of_length_le]
        rw [List.length_drop, List.length_drop]
        omega
      have H9 := hide (Fi.write9_any (s := t.extract 0 q) HG.out hex hq0 hpc (by rw [← HN.out]; omega))
      obtain ⟨tz, htz⟩ : ∃ y, y = t.size := ⟨_, rfl⟩
      have e1 : ((if (z : Int) < (t.size : Int) then (z : Int) else (t.size : Int))) = (q : Int) := by split <;> omega
      have e2 : ((if (t.size : Int) < (z : Int) then (t.size : Int) else (z : Int))) = (q : Int) := by split <;> omega
      have e3 : ((if (z : Int) ≤ (t.size : Int) then (z : Int) else (t.size : Int))) = (q : Int) := by split <;> omega
      have e4 : ((if (t.size : Int) ≤ (z : Int) then (t.size : Int) else (z : Int))) = (q : Int) := by split <;> omega
      have e5 : min (z : Int) (t.size : Int) = (q : Int) := by omega
      have HQ : Hid (0 < q ∧ q ≤ n - m) := hide ⟨hq0, by omega⟩
      have HREST := hide hrest
      have hnn : (q : Int) ≤ (t.size : Int) := by omega
      have hn0 : (0 : Int) ≤ (q : Int) := by omega
      clear hgk ht hex hf hnew hts hq hpc hrest htz
      go_wp2_with fail
      refine (unhide H9).mono ?_
      rintro e w2 ⟨rfl, G2, hex2, hgr2, hf2⟩
      have HRES : Hid (∃ (m' : Nat) (t' : ByteArray) (G' : List Nat), n + 1 - (m + q) = n + 1 - m' ∧ m' ≤ n ∧ Value.string (t.extract q t.size) = .string t' ∧ t' = ba (c.bytes.drop m') ∧ Ex w2 E C c outS m' v G' ∧ Fr [] w w2 ∧ (∀ b ∈ E :: C :: G', w.heap.size ≤ b)) := by
        have hq := HQ.out
        have hs := HF.out.size
        have hnew := HNEW2.out
        refine hide ⟨m + q, _, G2, rfl, by omega, rfl, HREST.out, hex2, HF.out.andThen hf2 (fun b hb => .inr ?_), fun b hb => ?_⟩
        · rw [List.mem_cons] at hb
          rcases hb with rfl | hb
          · exact hnew _ (by simp)
          · exact hnew b (by simp [hb])
        · simp only [List.mem_cons] at hb
          rcases hb with rfl | rfl | hb
          · exact hnew _ (by simp)
          · exact hnew _ (by simp)
          · rcases hgr2 b hb with h | h
            · exact hnew b (by simp [h])
            · omega
      clear hex2 hgr2 hf2
      go_wp2_with fail
      go_roundg (n + 1 - (m + q))
      case measure => have := HGK.out; have := HQ.out; omega
      case rel => exact HRES.out
    · have hmn : m = c.bytes.length := by rw [← HN.out]; omega
      have hte : t = ⟨#[]⟩ := by rw [ht, hmn, List.drop_length]; rfl
      subst hte
      rw [hmn] at hex
      have H10 := hide (Fi.close10_any HG.out hex)
      clear hgk ht hex hf hnew hmn
      go_wp2_with fail
      refine (unhide H10).mono ?_
      rintro e w2 ⟨fv, fb, l, rfl, hfa, hsl, hfb, hf2⟩
      have HRES : Hid (XtPost c w (.returned fv) w2) := by
        have hs := HF.out.size
        exact hide ⟨fv, fb, l, rfl, hfa, hsl, by omega, HF.out.andThen hf2 (fun b hb => by simp at hb; subst hb; exact .inr (HNEW2.out _ (by simp)))⟩
      obtain ⟨fa, fc, hfv⟩ := SlAt.shape hsl
      subst hfv
      clear hfa hsl hfb hf2
      go_wp2_with fail
      go_ret
      exact HRES.out
end Go.Proofs.YthmhcnnigepohaaGreatDoor.Tp
