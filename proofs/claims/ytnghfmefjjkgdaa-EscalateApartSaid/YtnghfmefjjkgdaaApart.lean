/-
  Alerts and cases of other subjects have no influence on a subject, as long as they do not come later; at most 60 of them. Conditions: none.
-/
import Derived.Test.YtnghfmefjjkgdaaArg
import Derived.Test.YtnghfmefjjkgdaaApartLaw
import Derived.WalkKit
import Derived.ProofKit
import Derived.OpenShut
import Derived.Deep.LoopGhost
import Derived.Deep.RegionHeld3
namespace Go.Proofs.Ytnghfmefjjkgdaa.escalateApart
open Go.ChangeShapes Go.WideShapes Go.ChangeAt Go.RowKit

theorem own : ownKnob Try.prog.godebug = none := by kernel_rfl

theorem wp_alloc_row {P : Program} {o : Oper} {a : Act} {w : World} {K : Act → World → Prop} {Q : Exit → Act → World → Prop} (t : TypeId) (ho : o.op = .alloc t) (z : Array Value) (hz : ∀ W, (zeroValue t).run P W = .ok (.agg z) W)
    (h : K (a.put o.dst (.pointer (some ⟨w.heap.size, 0, none⟩))) (w.alloc (.cells z t))) : o.wp P a w K Q := by
  unfold Oper.wp
  simp only [execOp, ho, Instr.alloc, Sem.run_bind, hz, Result.andThen_ok, Oper.upon, newVar, newRow, Value.cells, run_newObj, Sem.run_pure, World.alloc_eq]
  exact h

def z39 : Array Value := #[.string ⟨#[]⟩, .int .i64 0, .int .i64 0, .bool false, .int .u64 0, .int .u64 0, .bool false, .int .u64 0, .int .u64 0, .int .i64 0, .bool false]
theorem zero39 (W : World) : (zeroValue 39).run Try.prog W = .ok (.agg z39) W := by kernel_rfl

structure ApSt (w wr : World) (pb bm pc bc : Nat) (sid : Int) (k : Nat) (B C : Bk) : Prop where
  b : BookIs wr pb bm B
  c : BookIs wr pc bc C
  bok : B.Ok
  cok : C.Ok
  bcl : B.cl ≤ k
  ccl : C.cl ≤ k
  yb : Young k B
  yc : Young k C
  ag : Agree sid B C
  fr : Fr [] w wr

set_option maxRecDepth 100000 in
set_option maxHeartbeats 1000000 in
theorem walk (a : Option Addr) (L cap : Nat) (ev : Nat → Ev) (a1 : Int) (w : World) (hev : EvsAt w a L ev) (hone : ∀ i, (ev i).One) :
    Calls Try.prog 8 #[.slice a L cap, .int .i64 a1] w fun e w' => e = .returned (.bool true) ∧ Fr [] w w' := by
  have HEV := hide hev
  clear hev
  by_cases hbad : 60 < L
  · go_enter Try.func8, Try.ntmps8
    go_wp2_with (first | (go_at_call 14; refine (lives_any _).mono ?_; rintro e w3 ⟨rfl, hf3⟩; have HF3 := hide hf3; clear hf3))
    all_goals first
      | (go_ret; exact ⟨rfl, HF3.out⟩)
      | (exfalso; omega)
  go_enter Try.func8, Try.ntmps8
  go_wp2_with (first | (go_at_call 14; refine (lives_any _).mono ?_; rintro e w0 ⟨rfl, hf0⟩; have HF0 := hide hf0; clear hf0))
  refine (new_bk 1000 _).mono ?_
  rintro e w1 ⟨rfl, hB1, hf1, hs1⟩
  have HB1 := hide hB1
  have HF1 := hide hf1
  have HS1 := hide hs1
  clear hB1 hf1 hs1
  go_wp2_with fail
  refine (new_bk 1000 _).mono ?_
  rintro e w2 ⟨rfl, hB2, hf2, hs2⟩
  obtain ⟨pb, hpb⟩ : ∃ pb, pb = w0.heap.size + 1 := ⟨_, rfl⟩
  obtain ⟨pc, hpc⟩ : ∃ pc, pc = w1.heap.size + 1 := ⟨_, rfl⟩
  obtain ⟨bm, hbm⟩ : ∃ bm, bm = w0.heap.size := ⟨_, rfl⟩
  obtain ⟨bc, hbc⟩ : ∃ bc, bc = w1.heap.size := ⟨_, rfl⟩
  have hst0 : ApSt w w2 pb bm pc bc a1 0 (bk0 1000) (bk0 1000) :=
    ⟨by rw [hpb, hbm]; exact HB1.out.fr hf2 (by simp) (by simp), by rw [hpc, hbc]; exact hB2, bk0_ok _, bk0_ok _, by simp [bk0], by simp [bk0], young0, young0, agree0 _, (HF0.out.trans HF1.out).trans hf2⟩
  have HST0 := hide hst0
  have hdis : (pb ≠ pc ∧ pb ≠ bc) ∧ (bm ≠ pc ∧ bm ≠ bc) ∧ (w.heap.size ≤ pb ∧ w.heap.size ≤ bm) ∧ (w.heap.size ≤ pc ∧ w.heap.size ≤ bc) := by
    have h0 := HF0.out.size
    have h1 := HS1.out
    omega
  rw [← hpb, ← hpc]
  have HDIS := hide hdis
  clear hst0 hB2 hf2 hs2 hdis hpb hpc hbm hbc
  go_wp2_with fail
  go_loopg [7] (L + 1) (fun gk i wr => ∃ (k : Nat) (B C : Bk), gk = L + 1 - k ∧ k ≤ L ∧ i = .int .i64 k ∧ ApSt w wr pb bm pc bc a1 k B C)
  case atStart => exact ⟨0, _, _, by omega, by omega, rfl, HST0.out⟩
  case round =>
    obtain ⟨k, B, C, hgk, hk, rfl, hst⟩ := hrel
    have HGK := hide hgk
    have HST := hide hst
    clear hgk hst
    by_cases hlt : k < L
    · obtain ⟨b, off, rfl, hcs⟩ := (HEV.out.keep HST.out.fr.below.block) (by omega)
      have hON := hide (hone k)
      obtain ⟨e, he⟩ : ∃ e, e = ev k := ⟨_, rfl⟩
      have hcs2 : ∀ j u, e.cells.toList[j]? = some u → wr.cell? ⟨b, off + k * 34 + j, none⟩ = some u := by rw [he]; exact hcs k hlt
      rw [← he] at hON
      clear he hcs
      obtain ⟨cse, al, ca, val⟩ := e
      have hrA : wr.rangeAt b (off + k * 34 + 1) al.cells.toList := fun j u hj => by
        have := hcs2 (1 + j) u (by rw [Array.getElem?_toList]; exact Ev.alert _ j u hj)
        rw [show off + k * 34 + 1 + j = off + k * 34 + (1 + j) by omega]; exact this
      have hrC : wr.rangeAt b (off + k * 34 + 22) ca.cells.toList := fun j u hj => by
        have := hcs2 (22 + j) u (by rw [Array.getElem?_toList]; exact Ev.found _ j u hj)
        rw [show off + k * 34 + 22 + j = off + k * 34 + (22 + j) by omega]; exact this
      have c0 : wr.cell? ⟨b, off + k * 34, none⟩ = some (.bool cse) := hcs2 0 _ rfl
      have c33 : wr.cell? ⟨b, off + k * 34 + 33, none⟩ = some (.int .i64 val) := hcs2 33 _ rfl
      have hbw : b < wr.heap.size := by
        cases hb : wr.heap[b]? with
        | none => simp [World.cell?, hb] at c33
        | some o => exact (Array.getElem?_eq_some_iff.1 hb).1
      have hbn : b ∉ [pb, bm, pc, bc] := by
        have h1 := HEV.out.lt (by omega)
        have h2 := HDIS.out
        simp; omega
      have HOLD : Hid (∀ W, Fr [] wr W → W.rangeAt b (off + k * 34 + 1) al.cells.toList ∧ W.rangeAt b (off + k * 34 + 22) ca.cells.toList) := by
        show ∀ W, Fr [] wr W → W.rangeAt b (off + k * 34 + 1) al.cells.toList ∧ W.rangeAt b (off + k * 34 + 22) ca.cells.toList
        intro W hW
        have hbl := hW.block b hbw (by simp)
        exact ⟨fun j u hj => by rw [← hrA j u hj]; simp only [World.cell?, hbl], fun j u hj => by rw [← hrC j u hj]; simp only [World.cell?, hbl]⟩
      clear hcs2 hrA hrC
      have hi37 : (Try.prog.info? 37).map (·.size) = some al.cells.toList.length := size37
      have hi39 : (Try.prog.info? 39).map (·.size) = some ca.cells.toList.length := size39
      go_upto_region 9 with (fail)
      go_cut [8, 9] from 21 to 87 (fun s8 s9 wd => ∃ p8 p9, s8 = .pointer (some ⟨p8, 0, none⟩) ∧ s9 = .pointer (some ⟨p9, 0, none⟩) ∧ p8 ≠ p9 ∧ wr.heap.size ≤ p8 ∧ wr.heap.size ≤ p9 ∧ wd.heap[p8]? = some (.cells al.cells 37 (0, 0)) ∧ wd.heap[p9]? = some (.cells ca.cells 39 (0, 0)) ∧ Fr [] wr wd)
      case first =>
        refine wp_region_held_drew (S := (fun w' => w'.rangeAt b (off + k * 34 + 1) al.cells.toList ∧ w'.rangeAt b (off + k * 34 + 22) ca.cells.toList)) (by kernel_rfl) (HOLD.out _ (Fr.refl _ _).drew) (fun hHeld => ?_)
        refine wpAnyH_take (i := 0) (oi := { dst := some 27, op := Op.move (Operand.tmp 0), type := 25, pos := "law.go:149", after := #[], guard := none }) (v := .slice (some ⟨b, off, none⟩) L cap) rfl (by kernel_rfl) (by kernel_rfl) (by kernel_rfl) (fun _ _ _ h => h) (Or.inl ⟨by rfl, fun W hSw => ?_⟩) (by assumption) ?_
        · go_simp
        try simp only [Act.put, List.setIfInBounds_toArray, List.set_cons_zero, List.set_cons_succ]
        refine wpAnyH_take (i := 1) (oi := { dst := some 28, op := Op.move (Operand.tmp 7), type := 3, pos := "law.go:149", after := #[], guard := none }) (v := .int .i64 k) rfl (by kernel_rfl) (by kernel_rfl) (by kernel_rfl) (fun _ _ _ h => h) (Or.inl ⟨by rfl, fun W hSw => ?_⟩) (by assumption) ?_
        · go_simp
        try simp only [Act.put, List.setIfInBounds_toArray, List.set_cons_zero, List.set_cons_succ]
        refine wpAnyH_take (i := 2) (oi := { dst := some 29, op := Op.indexAddr 25 (Operand.tmp 27) (Operand.tmp 28), type := 0, pos := "law.go:149", after := #[{ on := 0, ground := Ground.data }, { on := 1, ground := Ground.data }], guard := none }) (v := .pointer (some ⟨b, off + k * 34, none⟩)) rfl (by kernel_rfl) (by kernel_rfl) (by kernel_rfl) (fun _ _ _ h => h) (Or.inl ⟨by rfl, fun W hSw => ?_⟩) (by assumption) ?_
        · go_simp
        try simp only [Act.put, List.setIfInBounds_toArray, List.set_cons_zero, List.set_cons_succ]
        refine wpAnyH_take (i := 3) (oi := { dst := some 30, op := Op.fieldAddr 41 (Operand.tmp 29) 1, type := 0, pos := "law.go:149", after := #[{ on := 2, ground := Ground.data }], guard := none }) (v := .pointer (some ⟨b, off + k * 34 + 1, none⟩)) rfl (by kernel_rfl) (by kernel_rfl) (by kernel_rfl) (fun _ _ _ h => h) (Or.inl ⟨by rfl, fun W hSw => ?_⟩) (by assumption) ?_
        · go_simp
        try simp only [Act.put, List.setIfInBounds_toArray, List.set_cons_zero, List.set_cons_succ]
        refine' wpAnyH_take (i := 4) (oi := { dst := some 31, op := Op.load 37 (Operand.tmp 30), type := 37, pos := "law.go:149", after := #[{ on := 3, ground := Ground.data }], guard := none }) (v := _) rfl (by kernel_rfl) (by kernel_rfl) (by kernel_rfl) (fun _ _ _ h => h) (yieldsIf_load_mid (by rfl) _ _ rfl _ _ rfl _ _ (fun w h => h.1) Try.underlying37 rfl hi37) (by assumption) ?_
        try simp only [Act.put, List.setIfInBounds_toArray, List.set_cons_zero, List.set_cons_succ]
        refine wpAnyH_take (i := 5) (oi := { dst := some 32, op := Op.move (Operand.tmp 0), type := 25, pos := "law.go:149", after := #[{ on := 12, ground := Ground.gcOnly Departure.lateStores }], guard := none }) (v := .slice (some ⟨b, off, none⟩) L cap) rfl (by kernel_rfl) (by kernel_rfl) (by kernel_rfl) (fun _ _ _ h => h) (Or.inl ⟨by rfl, fun W hSw => ?_⟩) (by assumption) ?_
        · go_simp
        try simp only [Act.put, List.setIfInBounds_toArray, List.set_cons_zero, List.set_cons_succ]
        refine wpAnyH_take (i := 6) (oi := { dst := some 33, op := Op.move (Operand.tmp 7), type := 3, pos := "law.go:149", after := #[{ on := 12, ground := Ground.gcOnly Departure.lateStores }], guard := none }) (v := .int .i64 k) rfl (by kernel_rfl) (by kernel_rfl) (by kernel_rfl) (fun _ _ _ h => h) (Or.inl ⟨by rfl, fun W hSw => ?_⟩) (by assumption) ?_
        · go_simp
        try simp only [Act.put, List.setIfInBounds_toArray, List.set_cons_zero, List.set_cons_succ]
        refine wpAnyH_take (i := 7) (oi := { dst := some 34, op := Op.indexAddr 25 (Operand.tmp 32) (Operand.tmp 33), type := 0, pos := "law.go:149", after := #[{ on := 5, ground := Ground.data }, { on := 6, ground := Ground.data }, { on := 12, ground := Ground.gcOnly Departure.lateStores }], guard := none }) (v := .pointer (some ⟨b, off + k * 34, none⟩)) rfl (by kernel_rfl) (by kernel_rfl) (by kernel_rfl) (fun _ _ _ h => h) (Or.inl ⟨by rfl, fun W hSw => ?_⟩) (by assumption) ?_
        · go_simp
        try simp only [Act.put, List.setIfInBounds_toArray, List.set_cons_zero, List.set_cons_succ]
        refine wpAnyH_take (i := 8) (oi := { dst := some 35, op := Op.fieldAddr 41 (Operand.tmp 34) 2, type := 0, pos := "law.go:149", after := #[{ on := 7, ground := Ground.data }, { on := 12, ground := Ground.gcOnly Departure.lateStores }], guard := none }) (v := .pointer (some ⟨b, off + k * 34 + 22, none⟩)) rfl (by kernel_rfl) (by kernel_rfl) (by kernel_rfl) (fun _ _ _ h => h) (Or.inl ⟨by rfl, fun W hSw => ?_⟩) (by assumption) ?_
        · go_simp
        try simp only [Act.put, List.setIfInBounds_toArray, List.set_cons_zero, List.set_cons_succ]
        refine' wpAnyH_take (i := 9) (oi := { dst := some 36, op := Op.load 39 (Operand.tmp 35), type := 39, pos := "law.go:149", after := #[{ on := 8, ground := Ground.data }, { on := 12, ground := Ground.gcOnly Departure.lateStores }], guard := none }) (v := _) rfl (by kernel_rfl) (by kernel_rfl) (by kernel_rfl) (fun _ _ _ h => h) (yieldsIf_load_mid (by rfl) _ _ rfl _ _ rfl _ _ (fun w h => h.2) Try.underlying39 rfl hi39) (by assumption) ?_
        try simp only [Act.put, List.setIfInBounds_toArray, List.set_cons_zero, List.set_cons_succ]
        refine wpAnyH_ready (rs := [10, 11]) (by kernel_rfl) (by simp) ?_
        refine AllReadyH.cons (o := { dst := some 8, op := Op.alloc 37, type := 0, pos := "law.go:149", after := #[], guard := none }) rfl (fun K hK => ?_) (AllReadyH.cons (o := { dst := some 9, op := Op.alloc 39, type := 0, pos := "law.go:149", after := #[], guard := none }) rfl (fun K hK => ?_) AllReadyH.nil)
        · rw [if_pos (by rfl)]
          refine wp_alloc_row 37 rfl z37 zero37 ?_
          refine hK.out _ _ (HOLD.out _ (((Fr.refl [] wr).drew).alloc _)) (fun hHeld2 => ?_)
          clear hK
          try simp only [Act.put, List.setIfInBounds_toArray, List.set_cons_zero, List.set_cons_succ]
          refine wpAnyH_ready (rs := [11]) (by kernel_rfl) (by simp) ?_
          refine AllReadyH.cons (o := { dst := some 9, op := Op.alloc 39, type := 0, pos := "law.go:149", after := #[], guard := none }) rfl (fun K hK => ?_) AllReadyH.nil
          rw [if_pos (by rfl)]
          refine wp_alloc_row 39 rfl z39 zero39 ?_
          refine hK.out _ _ (HOLD.out _ ((((Fr.refl [] wr).drew).alloc _).alloc _)) (fun hHeld2 => ?_)
          clear hK
          try simp only [Act.put, List.setIfInBounds_toArray, List.set_cons_zero, List.set_cons_succ]
          have hz0 : wr.drew.heap.size = wr.heap.size := rfl
          have hz1 : ((wr.drew).alloc (.cells z37 37)).heap.size = wr.heap.size + 1 := by simp
          have hb8 : (((wr.drew).alloc (.cells z37 37)).alloc (.cells z39 39)).heap[wr.drew.heap.size]? = some (.cells z37 37 (0, 0)) := (by rw [heap_alloc_lt (by simp), heap_alloc_eq rfl])
          have hb9 : (((wr.drew).alloc (.cells z37 37)).alloc (.cells z39 39)).heap[((wr.drew).alloc (.cells z37 37)).heap.size]? = some (.cells z39 39 (0, 0)) := (heap_alloc_eq rfl)
          have hf2 : Fr [] wr (((wr.drew).alloc (.cells z37 37)).alloc (.cells z39 39)) := ((((Fr.refl [] wr).drew).alloc _).alloc _)
          have hne : ((wr.drew).alloc (.cells z37 37)).heap.size ≠ wr.drew.heap.size := by omega
          have hl8 : wr.heap.size ≤ wr.drew.heap.size := by omega
          have hl9 : wr.heap.size ≤ ((wr.drew).alloc (.cells z37 37)).heap.size := by omega
          have hb9' : ((((wr.drew).alloc (.cells z37 37)).alloc (.cells z39 39)).setRow wr.drew.heap.size al.cells).heap[((wr.drew).alloc (.cells z37 37)).heap.size]? = some (.cells z39 39 (0, 0)) := (setRow_other _ _ _ _ hne).trans hb9
          have hf3 : Fr [] wr ((((wr.drew).alloc (.cells z37 37)).alloc (.cells z39 39)).setRow wr.drew.heap.size al.cells) := hf2.andThen (T := [wr.drew.heap.size]) ⟨rfl, rfl, rfl, by simp, fun q _ hq => setRow_other _ _ _ _ (by simpa using hq)⟩ (fun x hx => by rw [List.mem_singleton] at hx; subst hx; exact .inr hl8)
          have hf4 : Fr [] wr (((((wr.drew).alloc (.cells z37 37)).alloc (.cells z39 39)).setRow wr.drew.heap.size al.cells).setRow ((wr.drew).alloc (.cells z37 37)).heap.size ca.cells) := hf3.andThen (T := [((wr.drew).alloc (.cells z37 37)).heap.size]) ⟨rfl, rfl, rfl, by simp, fun q _ hq => setRow_other _ _ _ _ (by simpa using hq)⟩ (fun x hx => by rw [List.mem_singleton] at hx; subst hx; exact .inr hl9)
          have he8 : (((((wr.drew).alloc (.cells z37 37)).alloc (.cells z39 39)).setRow wr.drew.heap.size al.cells).setRow ((wr.drew).alloc (.cells z37 37)).heap.size ca.cells).heap[wr.drew.heap.size]? = some (.cells al.cells 37 (0, 0)) := (setRow_other _ _ _ _ hne.symm).trans (setRow_heap _ _ _ _ _ _ hb8)
          have he9 : (((((wr.drew).alloc (.cells z37 37)).alloc (.cells z39 39)).setRow wr.drew.heap.size al.cells).setRow ((wr.drew).alloc (.cells z37 37)).heap.size ca.cells).heap[((wr.drew).alloc (.cells z37 37)).heap.size]? = some (.cells ca.cells 39 (0, 0)) := setRow_heap _ _ _ _ _ _ hb9'
          clear hz0 hz1
          refine wpAnyH_ready (rs := [12]) (by kernel_rfl) (by simp) ?_
          refine AllReadyH.cons (o := { dst := none, op := Op.store 37 (Operand.tmp 8) (Operand.tmp 31), type := 0, pos := "law.go:149", after := #[{ on := 10, ground := Ground.data }, { on := 4, ground := Ground.data }, { on := 0, ground := Ground.phase }, { on := 1, ground := Ground.phase }, { on := 2, ground := Ground.phase }, { on := 3, ground := Ground.phase }, { on := 4, ground := Ground.phase }, { on := 5, ground := Ground.textOnly Departure.lateStores }, { on := 6, ground := Ground.textOnly Departure.lateStores }, { on := 7, ground := Ground.textOnly Departure.lateStores }, { on := 8, ground := Ground.textOnly Departure.lateStores }, { on := 9, ground := Ground.textOnly Departure.lateStores }, { on := 10, ground := Ground.phase }, { on := 11, ground := Ground.phase }], guard := none }) rfl (fun K hK => ?_) AllReadyH.nil
          rw [if_pos (by rfl)]
          refine wp_store_row 37 (.tmp 8) (.tmp 31) rfl wr.drew.heap.size al.cells rfl rfl 37 z37 hb8 size37 rfl (by rw [← Array.all_toList]; exact hON.out.1) ?_
          refine hK.out _ _ (HOLD.out _ hf3) (fun hHeld3 => ?_)
          clear hK
          try simp only [Act.put]
          refine wpAnyH_ready (rs := [13]) (by kernel_rfl) (by simp) ?_
          refine AllReadyH.cons (o := { dst := none, op := Op.store 39 (Operand.tmp 9) (Operand.tmp 36), type := 0, pos := "law.go:149", after := #[{ on := 11, ground := Ground.data }, { on := 9, ground := Ground.data }, { on := 12, ground := Ground.chain }, { on := 0, ground := Ground.phase }, { on := 1, ground := Ground.phase }, { on := 2, ground := Ground.phase }, { on := 3, ground := Ground.phase }, { on := 4, ground := Ground.phase }, { on := 5, ground := Ground.phase }, { on := 6, ground := Ground.phase }, { on := 7, ground := Ground.phase }, { on := 8, ground := Ground.phase }, { on := 9, ground := Ground.phase }, { on := 10, ground := Ground.phase }, { on := 11, ground := Ground.phase }, { on := 12, ground := Ground.phase }], guard := none }) rfl (fun K hK => ?_) AllReadyH.nil
          rw [if_pos (by rfl)]
          refine wp_store_row 39 (.tmp 9) (.tmp 36) rfl ((wr.drew).alloc (.cells z37 37)).heap.size ca.cells rfl rfl 39 z39 hb9' size39 rfl (by rw [← Array.all_toList]; exact hON.out.2) ?_
          refine hK.out _ _ (HOLD.out _ hf4) (fun hHeld3 => ?_)
          clear hK
          try simp only [Act.put]
          refine wpAnyH_done (by kernel_rfl) ?_ _
          clear hHeld hHeld2 hHeld3 hf2 hf3 hb8 hb9 hb9'
          generalize hW4 : ((((wr.drew).alloc (.cells z37 37)).alloc (.cells z39 39)).setRow wr.drew.heap.size al.cells).setRow ((wr.drew).alloc (.cells z37 37)).heap.size ca.cells = W4 at hf4 he8 he9 ⊢
          clear hW4
          generalize hq8 : wr.drew.heap.size = q8 at hne hl8 he8 ⊢
          generalize hq9 : ((wr.drew).alloc (.cells z37 37)).heap.size = q9 at hne hl9 he9 ⊢
          clear hq8 hq9
          have HF4 := hide hf4
          have HE8 := hide he8
          have HE9 := hide he9
          have HNE := hide hne
          have HL8 := hide hl8
          have HL9 := hide hl9
          clear hf4 he8 he9 hne hl8 hl9
          go_wp2
          go_meet
          case rel => exact ⟨_, _, rfl, rfl, HNE.out.symm, HL8.out, HL9.out, HE8.out, HE9.out, HF4.out⟩
        · rw [if_pos (by rfl)]
          refine wp_alloc_row 39 rfl z39 zero39 ?_
          refine hK.out _ _ (HOLD.out _ (((Fr.refl [] wr).drew).alloc _)) (fun hHeld2 => ?_)
          clear hK
          try simp only [Act.put, List.setIfInBounds_toArray, List.set_cons_zero, List.set_cons_succ]
          refine wpAnyH_ready (rs := [10]) (by kernel_rfl) (by simp) ?_
          refine AllReadyH.cons (o := { dst := some 8, op := Op.alloc 37, type := 0, pos := "law.go:149", after := #[], guard := none }) rfl (fun K hK => ?_) AllReadyH.nil
          rw [if_pos (by rfl)]
          refine wp_alloc_row 37 rfl z37 zero37 ?_
          refine hK.out _ _ (HOLD.out _ ((((Fr.refl [] wr).drew).alloc _).alloc _)) (fun hHeld2 => ?_)
          clear hK
          try simp only [Act.put, List.setIfInBounds_toArray, List.set_cons_zero, List.set_cons_succ]
          have hz0 : wr.drew.heap.size = wr.heap.size := rfl
          have hz1 : ((wr.drew).alloc (.cells z39 39)).heap.size = wr.heap.size + 1 := by simp
          have hb8 : (((wr.drew).alloc (.cells z39 39)).alloc (.cells z37 37)).heap[((wr.drew).alloc (.cells z39 39)).heap.size]? = some (.cells z37 37 (0, 0)) := (heap_alloc_eq rfl)
          have hb9 : (((wr.drew).alloc (.cells z39 39)).alloc (.cells z37 37)).heap[wr.drew.heap.size]? = some (.cells z39 39 (0, 0)) := (by rw [heap_alloc_lt (by simp), heap_alloc_eq rfl])
          have hf2 : Fr [] wr (((wr.drew).alloc (.cells z39 39)).alloc (.cells z37 37)) := ((((Fr.refl [] wr).drew).alloc _).alloc _)
          have hne : wr.drew.heap.size ≠ ((wr.drew).alloc (.cells z39 39)).heap.size := by omega
          have hl8 : wr.heap.size ≤ ((wr.drew).alloc (.cells z39 39)).heap.size := by omega
          have hl9 : wr.heap.size ≤ wr.drew.heap.size := by omega
          have hb9' : ((((wr.drew).alloc (.cells z39 39)).alloc (.cells z37 37)).setRow ((wr.drew).alloc (.cells z39 39)).heap.size al.cells).heap[wr.drew.heap.size]? = some (.cells z39 39 (0, 0)) := (setRow_other _ _ _ _ hne).trans hb9
          have hf3 : Fr [] wr ((((wr.drew).alloc (.cells z39 39)).alloc (.cells z37 37)).setRow ((wr.drew).alloc (.cells z39 39)).heap.size al.cells) := hf2.andThen (T := [((wr.drew).alloc (.cells z39 39)).heap.size]) ⟨rfl, rfl, rfl, by simp, fun q _ hq => setRow_other _ _ _ _ (by simpa using hq)⟩ (fun x hx => by rw [List.mem_singleton] at hx; subst hx; exact .inr hl8)
          have hf4 : Fr [] wr (((((wr.drew).alloc (.cells z39 39)).alloc (.cells z37 37)).setRow ((wr.drew).alloc (.cells z39 39)).heap.size al.cells).setRow wr.drew.heap.size ca.cells) := hf3.andThen (T := [wr.drew.heap.size]) ⟨rfl, rfl, rfl, by simp, fun q _ hq => setRow_other _ _ _ _ (by simpa using hq)⟩ (fun x hx => by rw [List.mem_singleton] at hx; subst hx; exact .inr hl9)
          have he8 : (((((wr.drew).alloc (.cells z39 39)).alloc (.cells z37 37)).setRow ((wr.drew).alloc (.cells z39 39)).heap.size al.cells).setRow wr.drew.heap.size ca.cells).heap[((wr.drew).alloc (.cells z39 39)).heap.size]? = some (.cells al.cells 37 (0, 0)) := (setRow_other _ _ _ _ hne.symm).trans (setRow_heap _ _ _ _ _ _ hb8)
          have he9 : (((((wr.drew).alloc (.cells z39 39)).alloc (.cells z37 37)).setRow ((wr.drew).alloc (.cells z39 39)).heap.size al.cells).setRow wr.drew.heap.size ca.cells).heap[wr.drew.heap.size]? = some (.cells ca.cells 39 (0, 0)) := setRow_heap _ _ _ _ _ _ hb9'
          clear hz0 hz1
          refine wpAnyH_ready (rs := [12]) (by kernel_rfl) (by simp) ?_
          refine AllReadyH.cons (o := { dst := none, op := Op.store 37 (Operand.tmp 8) (Operand.tmp 31), type := 0, pos := "law.go:149", after := #[{ on := 10, ground := Ground.data }, { on := 4, ground := Ground.data }, { on := 0, ground := Ground.phase }, { on := 1, ground := Ground.phase }, { on := 2, ground := Ground.phase }, { on := 3, ground := Ground.phase }, { on := 4, ground := Ground.phase }, { on := 5, ground := Ground.textOnly Departure.lateStores }, { on := 6, ground := Ground.textOnly Departure.lateStores }, { on := 7, ground := Ground.textOnly Departure.lateStores }, { on := 8, ground := Ground.textOnly Departure.lateStores }, { on := 9, ground := Ground.textOnly Departure.lateStores }, { on := 10, ground := Ground.phase }, { on := 11, ground := Ground.phase }], guard := none }) rfl (fun K hK => ?_) AllReadyH.nil
          rw [if_pos (by rfl)]
          refine wp_store_row 37 (.tmp 8) (.tmp 31) rfl ((wr.drew).alloc (.cells z39 39)).heap.size al.cells rfl rfl 37 z37 hb8 size37 rfl (by rw [← Array.all_toList]; exact hON.out.1) ?_
          refine hK.out _ _ (HOLD.out _ hf3) (fun hHeld3 => ?_)
          clear hK
          try simp only [Act.put]
          refine wpAnyH_ready (rs := [13]) (by kernel_rfl) (by simp) ?_
          refine AllReadyH.cons (o := { dst := none, op := Op.store 39 (Operand.tmp 9) (Operand.tmp 36), type := 0, pos := "law.go:149", after := #[{ on := 11, ground := Ground.data }, { on := 9, ground := Ground.data }, { on := 12, ground := Ground.chain }, { on := 0, ground := Ground.phase }, { on := 1, ground := Ground.phase }, { on := 2, ground := Ground.phase }, { on := 3, ground := Ground.phase }, { on := 4, ground := Ground.phase }, { on := 5, ground := Ground.phase }, { on := 6, ground := Ground.phase }, { on := 7, ground := Ground.phase }, { on := 8, ground := Ground.phase }, { on := 9, ground := Ground.phase }, { on := 10, ground := Ground.phase }, { on := 11, ground := Ground.phase }, { on := 12, ground := Ground.phase }], guard := none }) rfl (fun K hK => ?_) AllReadyH.nil
          rw [if_pos (by rfl)]
          refine wp_store_row 39 (.tmp 9) (.tmp 36) rfl wr.drew.heap.size ca.cells rfl rfl 39 z39 hb9' size39 rfl (by rw [← Array.all_toList]; exact hON.out.2) ?_
          refine hK.out _ _ (HOLD.out _ hf4) (fun hHeld3 => ?_)
          clear hK
          try simp only [Act.put]
          refine wpAnyH_done (by kernel_rfl) ?_ _
          clear hHeld hHeld2 hHeld3 hf2 hf3 hb8 hb9 hb9'
          generalize hW4 : ((((wr.drew).alloc (.cells z39 39)).alloc (.cells z37 37)).setRow ((wr.drew).alloc (.cells z39 39)).heap.size al.cells).setRow wr.drew.heap.size ca.cells = W4 at hf4 he8 he9 ⊢
          clear hW4
          generalize hq8 : ((wr.drew).alloc (.cells z39 39)).heap.size = q8 at hne hl8 he8 ⊢
          generalize hq9 : wr.drew.heap.size = q9 at hne hl9 he9 ⊢
          clear hq8 hq9
          have HF4 := hide hf4
          have HE8 := hide he8
          have HE9 := hide he9
          have HNE := hide hne
          have HL8 := hide hl8
          have HL9 := hide hl9
          clear hf4 he8 he9 hne hl8 hl9
          go_wp2
          go_meet
          case rel => exact ⟨_, _, rfl, rfl, HNE.out.symm, HL8.out, HL9.out, HE8.out, HE9.out, HF4.out⟩
      case rest =>
      obtain ⟨p8, p9, rfl, rfl, hne, hl8, hl9, he8, he9, hfr⟩ := hcut
      have hnb8 : p8 ≠ b := by omega
      have hnb9 : p9 ≠ b := by omega
      have h8l := lt_of_blk he8
      have h9l := lt_of_blk he9
      have x0 : wc.cell? ⟨p8, 0, none⟩ = some (.int .i64 al.at_) := by rw [cell_blk he8]; rfl
      have y1 : wc.cell? ⟨p9, 1, none⟩ = some (.int .i64 ca.at_) := by rw [cell_blk he9]; rfl
      have xf0 : wc.frozen? ⟨p8, 0, none⟩ = false := froz_blk he8 _
      have yf1 : wc.frozen? ⟨p9, 1, none⟩ = false := froz_blk he9 _
      have hW8 : ((wc.setCell ⟨p8, 0, none⟩ (.int .i64 k)).setCell ⟨p9, 1, none⟩ (.int .i64 k)).heap[p8]? = some (.cells ({ al with at_ := (k : Int) } : Al).cells 37 (0, 0)) := by
        rw [heap_set_other (by simp; omega), heap_set, he8]; rfl
      have hW9 : ((wc.setCell ⟨p8, 0, none⟩ (.int .i64 k)).setCell ⟨p9, 1, none⟩ (.int .i64 k)).heap[p9]? = some (.cells ({ ca with at_ := (k : Int) } : Ca).cells 39 (0, 0)) := by
        rw [heap_set, heap_set_other (by simp; omega), he9]; rfl
      have hFW : Fr [] wr ((wc.setCell ⟨p8, 0, none⟩ (.int .i64 k)).setCell ⟨p9, 1, none⟩ (.int .i64 k)) := (hfr.setCell (.inr hl8) _).setCell (.inr hl9) _
      have H8 := hide hW8
      have H9 := hide hW9
      have HFW := hide hFW
      clear hW8 hW9 hFW he8 he9 hfr
      go_upto_region 11 with (fail)
      generalize hWe : (wc.setCell ⟨p8, 0, none⟩ (.int .i64 k)).setCell ⟨p9, 1, none⟩ (.int .i64 k) = W at H8 H9 HFW ⊢
      clear hWe x0 y1 xf0 yf1 h8l h9l
      have d0 : W.cell? ⟨b, off + k * 34, none⟩ = some (.bool cse) := by
        rw [← c0]
        simp only [World.cell?, HFW.out.block b hbw (by simp)]
      have d33 : W.cell? ⟨b, off + k * 34 + 33, none⟩ = some (.int .i64 val) := by
        rw [← c33]
        simp only [World.cell?, HFW.out.block b hbw (by simp)]
      clear c0 c33
      have hWl := HFW.out.size
      have hbW : b < W.heap.size := by omega
      obtain ⟨al2, hal2⟩ : ∃ x : Al, x = { al with at_ := (k : Int) } := ⟨_, rfl⟩
      obtain ⟨ca2, hca2⟩ : ∃ x : Ca, x = { ca with at_ := (k : Int) } := ⟨_, rfl⟩
      rw [← hal2] at H8
      rw [← hca2] at H9
      have hat : Hid (al2.at_ = k) := by show al2.at_ = k; rw [hal2]
      have hct : Hid (ca2.at_ = k) := by show ca2.at_ = k; rw [hca2]
      clear hal2 hca2
      have hold8 : p8 ∉ [pb, bm, pc, bc] ∧ p9 ∉ [pb, bm, pc, bc] := by
        have h1 := lt_of_blk HST.out.b.blk
        have h2 := HST.out.b.map.lt
        have h3 := lt_of_blk HST.out.c.blk
        have h4 := HST.out.c.map.lt
        simp; omega
      have HOLD8 := hide hold8
      clear hold8
      have hp8W := lt_of_blk H8.out
      have hp9W := lt_of_blk H9.out
      have KEEP8 : Hid (∀ w3, Fr [pb, bm, pc, bc] W w3 → w3.rangeAt p8 0 al2.cells.toList ∧ w3.cell? ⟨b, off + k * 34 + 33, none⟩ = some (.int .i64 val)) := by
        show ∀ w3, Fr [pb, bm, pc, bc] W w3 → w3.rangeAt p8 0 al2.cells.toList ∧ w3.cell? ⟨b, off + k * 34 + 33, none⟩ = some (.int .i64 val)
        intro w3 hf
        refine ⟨fun j u hj => ?_, ?_⟩
        · rw [cell_blk ((hf.block _ hp8W HOLD8.out.1).trans H8.out), Nat.zero_add, ← Array.getElem?_toList]; exact hj
        · rw [← d33]; simp only [World.cell?, hf.block b hbW hbn]
      have KEEP9 : Hid (∀ w3, Fr [pb, bm, pc, bc] W w3 → w3.rangeAt p9 0 ca2.cells.toList ∧ w3.cell? ⟨b, off + k * 34 + 33, none⟩ = some (.int .i64 val)) := by
        show ∀ w3, Fr [pb, bm, pc, bc] W w3 → w3.rangeAt p9 0 ca2.cells.toList ∧ w3.cell? ⟨b, off + k * 34 + 33, none⟩ = some (.int .i64 val)
        intro w3 hf
        refine ⟨fun j u hj => ?_, ?_⟩
        · rw [cell_blk ((hf.block _ hp9W HOLD8.out.2).trans H9.out), Nat.zero_add, ← Array.getElem?_toList]; exact hj
        · rw [← d33]; simp only [World.cell?, hf.block b hbW hbn]
      have hj37 : (Try.prog.info? 37).map (·.size) = some al2.cells.toList.length := size37
      have hj39 : (Try.prog.info? 39).map (·.size) = some ca2.cells.toList.length := size39
      have hBW := hide (HST.out.b.fr HFW.out (by simp) (by simp))
      have hCW := hide (HST.out.c.fr HFW.out (by simp) (by simp))
      have hk60 : k ≤ 60 := by omega
      have hbcl : B.cl < 1000000 := by have := HST.out.bcl; omega
      have hccl : C.cl < 1000000 := by have := HST.out.ccl; omega
      cases cse
      · have hcall := hide (alert_any pb bm al2 val B _ (hBW.out.fr (Fr.refl [] W).drew (by simp) (by simp)) HST.out.bok)
        rw [hat.out] at hcall
        go_upto_region 13 with (fail)
        go_cut [10, 11] from 21 to 87 (fun s10 s11 wd => ∃ n nt B', s10 = .int .i64 n ∧ s11 = .bool nt ∧ Enters B k al2.sub (alertLevel al2.prio val) n nt B' ∧ BookIs wd pb bm B' ∧ Fr [pb, bm] W wd)
        case first =>
          refine wp_region_held_drew (S := (fun w' => w'.rangeAt p8 0 al2.cells.toList ∧ w'.cell? ⟨b, off + k * 34 + 33, none⟩ = some (.int .i64 val))) (by kernel_rfl) (KEEP8.out _ (Fr.refl _ _).drew) (fun hHeld => ?_)
          refine' wpAnyH_take (i := 1) (oi := { dst := some 56, op := Op.load 37 (Operand.tmp 8), type := 37, pos := "law.go:155", after := #[], guard := none }) (v := _) rfl (by kernel_rfl) (by kernel_rfl) (by kernel_rfl) (fun _ _ _ h => h) (yieldsIf_load_mid (by rfl) _ _ rfl _ _ rfl _ _ (fun w h => h.1) Try.underlying37 rfl hj37) (by assumption) ?_
          try simp only [Act.put, List.setIfInBounds_toArray, List.set_cons_zero, List.set_cons_succ]
          refine wpAnyH_take (i := 0) (oi := { dst := some 55, op := Op.move (Operand.tmp 5), type := 26, pos := "law.go:155", after := #[], guard := none }) (v := .pointer (some ⟨pb, 0, none⟩)) rfl (by kernel_rfl) (by kernel_rfl) (by kernel_rfl) (fun _ _ _ h => h) (Or.inl ⟨by rfl, fun W hSw => ?_⟩) (by assumption) ?_
          · go_simp
          try simp only [Act.put, List.setIfInBounds_toArray, List.set_cons_zero, List.set_cons_succ]
          refine wpAnyH_take (i := 2) (oi := { dst := some 57, op := Op.move (Operand.tmp 0), type := 25, pos := "law.go:155", after := #[], guard := none }) (v := .slice (some ⟨b, off, none⟩) L cap) rfl (by kernel_rfl) (by kernel_rfl) (by kernel_rfl) (fun _ _ _ h => h) (Or.inl ⟨by rfl, fun W hSw => ?_⟩) (by assumption) ?_
          · go_simp
          try simp only [Act.put, List.setIfInBounds_toArray, List.set_cons_zero, List.set_cons_succ]
          refine wpAnyH_take (i := 3) (oi := { dst := some 58, op := Op.move (Operand.tmp 7), type := 3, pos := "law.go:155", after := #[], guard := none }) (v := .int .i64 k) rfl (by kernel_rfl) (by kernel_rfl) (by kernel_rfl) (fun _ _ _ h => h) (Or.inl ⟨by rfl, fun W hSw => ?_⟩) (by assumption) ?_
          · go_simp
          try simp only [Act.put, List.setIfInBounds_toArray, List.set_cons_zero, List.set_cons_succ]
          refine wpAnyH_take (i := 4) (oi := { dst := some 59, op := Op.indexAddr 25 (Operand.tmp 57) (Operand.tmp 58), type := 0, pos := "law.go:155", after := #[{ on := 2, ground := Ground.data }, { on := 3, ground := Ground.data }], guard := none }) (v := .pointer (some ⟨b, off + k * 34, none⟩)) rfl (by kernel_rfl) (by kernel_rfl) (by kernel_rfl) (fun _ _ _ h => h) (Or.inl ⟨by rfl, fun W hSw => ?_⟩) (by assumption) ?_
          · go_simp
          try simp only [Act.put, List.setIfInBounds_toArray, List.set_cons_zero, List.set_cons_succ]
          refine wpAnyH_take (i := 5) (oi := { dst := some 60, op := Op.fieldAddr 41 (Operand.tmp 59) 3, type := 0, pos := "law.go:155", after := #[{ on := 4, ground := Ground.data }], guard := none }) (v := .pointer (some ⟨b, off + k * 34 + 33, none⟩)) rfl (by kernel_rfl) (by kernel_rfl) (by kernel_rfl) (fun _ _ _ h => h) (Or.inl ⟨by rfl, fun W hSw => ?_⟩) (by assumption) ?_
          · go_simp
          try simp only [Act.put, List.setIfInBounds_toArray, List.set_cons_zero, List.set_cons_succ]
          refine wpAnyH_take (i := 6) (oi := { dst := some 61, op := Op.load 3 (Operand.tmp 60), type := 3, pos := "law.go:155", after := #[{ on := 5, ground := Ground.data }], guard := none }) (v := .int .i64 val) rfl (by kernel_rfl) (by kernel_rfl) (by kernel_rfl) (fun _ _ _ h => h) (Or.inl ⟨by rfl, fun W hSw => ?_⟩) (by assumption) ?_
          · have h33 := hSw.2
            go_simp
          try simp only [Act.put, List.setIfInBounds_toArray, List.set_cons_zero, List.set_cons_succ]
          refine wpAnyH_ready (rs := [7]) (by kernel_rfl) (by simp) ?_
          refine AllReadyH.cons (o := { dst := some 62, op := Op.call { callee := Callee.value (Operand.func 19), args := #[Operand.tmp 55, Operand.tmp 56, Operand.tmp 61], argTypes := #[26, 37, 3] }, type := 44, pos := "law.go:155", after := #[{ on := 0, ground := Ground.data }, { on := 1, ground := Ground.data }, { on := 6, ground := Ground.data }], guard := none }) rfl (fun K hK => ?_) AllReadyH.nil
          go_simp
          refine (unhide hcall).mono ?_
          rintro e w3 ⟨n, nt, B', hE, rfl, hB', hf3⟩
          have HE3 := hide hE
          have HB3 := hide hB'
          have HF3 := hide hf3
          clear hE hB' hf3
          refine hK.out _ _ (KEEP8.out _ ((Fr.refl _ _).drew.andThen HF3.out (by simp))) (fun hHeld2 => ?_)
          clear hK
          try simp only [Act.put, List.setIfInBounds_toArray, List.set_cons_zero, List.set_cons_succ]
          refine wpAnyH_take (i := 8) (oi := { dst := some 54, op := Op.move (Operand.tmp 62), type := 44, pos := "law.go:155", after := #[{ on := 7, ground := Ground.data }], guard := none }) (v := .tuple #[.int .i64 n, .bool nt]) rfl (by kernel_rfl) (by kernel_rfl) (by kernel_rfl) (fun _ _ _ h => h) (Or.inl ⟨by rfl, fun W hSw => ?_⟩) (by assumption) ?_
          · go_simp
          try simp only [Act.put, List.setIfInBounds_toArray, List.set_cons_zero, List.set_cons_succ]
          refine wpAnyH_take (i := 9) (oi := { dst := some 63, op := Op.extract (Operand.tmp 54) 0, type := 3, pos := "law.go:155", after := #[{ on := 8, ground := Ground.data }], guard := none }) (v := .int .i64 n) rfl (by kernel_rfl) (by kernel_rfl) (by kernel_rfl) (fun _ _ _ h => h) (Or.inl ⟨by rfl, fun W hSw => ?_⟩) (by assumption) ?_
          · go_simp
          try simp only [Act.put, List.setIfInBounds_toArray, List.set_cons_zero, List.set_cons_succ]
          refine wpAnyH_take (i := 10) (oi := { dst := some 64, op := Op.extract (Operand.tmp 54) 1, type := 4, pos := "law.go:155", after := #[{ on := 8, ground := Ground.data }, { on := 11, ground := Ground.gcOnly Departure.lateStores }], guard := none }) (v := .bool nt) rfl (by kernel_rfl) (by kernel_rfl) (by kernel_rfl) (fun _ _ _ h => h) (Or.inl ⟨by rfl, fun W hSw => ?_⟩) (by assumption) ?_
          · go_simp
          try simp only [Act.put, List.setIfInBounds_toArray, List.set_cons_zero, List.set_cons_succ]
          refine wpAnyH_take (i := 11) (oi := { dst := some 10, op := Op.assign (Operand.tmp 63), type := 3, pos := "law.go:155", after := #[{ on := 9, ground := Ground.data }, { on := 7, ground := Ground.chain }, { on := 0, ground := Ground.phase }, { on := 1, ground := Ground.phase }, { on := 2, ground := Ground.phase }, { on := 3, ground := Ground.phase }, { on := 4, ground := Ground.phase }, { on := 5, ground := Ground.phase }, { on := 6, ground := Ground.phase }, { on := 7, ground := Ground.phase }, { on := 8, ground := Ground.phase }, { on := 9, ground := Ground.phase }, { on := 10, ground := Ground.textOnly Departure.lateStores }], guard := none }) (v := .int .i64 n) rfl (by kernel_rfl) (by kernel_rfl) (by kernel_rfl) (fun _ _ _ h => h) (Or.inl ⟨by rfl, fun W hSw => ?_⟩) (by assumption) ?_
          · go_simp
          try simp only [Act.put, List.setIfInBounds_toArray, List.set_cons_zero, List.set_cons_succ]
          refine wpAnyH_take (i := 12) (oi := { dst := some 11, op := Op.assign (Operand.tmp 64), type := 4, pos := "law.go:155", after := #[{ on := 10, ground := Ground.data }, { on := 11, ground := Ground.chain }, { on := 0, ground := Ground.phase }, { on := 1, ground := Ground.phase }, { on := 2, ground := Ground.phase }, { on := 3, ground := Ground.phase }, { on := 4, ground := Ground.phase }, { on := 5, ground := Ground.phase }, { on := 6, ground := Ground.phase }, { on := 7, ground := Ground.phase }, { on := 8, ground := Ground.phase }, { on := 9, ground := Ground.phase }, { on := 10, ground := Ground.phase }, { on := 11, ground := Ground.phase }], guard := none }) (v := .bool nt) rfl (by kernel_rfl) (by kernel_rfl) (by kernel_rfl) (fun _ _ _ h => h) (Or.inl ⟨by rfl, fun W hSw => ?_⟩) (by assumption) ?_
          · go_simp
          try simp only [Act.put, List.setIfInBounds_toArray, List.set_cons_zero, List.set_cons_succ]
          refine wpAnyH_done (by kernel_rfl) ?_ _
          go_wp2
          go_meet
          case rel => exact ⟨n, nt, B', rfl, rfl, HE3.out, HB3.out, (Fr.refl _ _).drew.andThen HF3.out (by simp)⟩
        case rest =>
        obtain ⟨n, nt, B', rfl, rfl, hE, hB', hf3⟩ := hcut
        have g1 : wc.cell? ⟨p8, 1, none⟩ = some (.int .i64 al2.sid) := by
          rw [cell_blk ((hf3.block _ hp8W (by have := HOLD8.out.1; simp at this ⊢; omega)).trans H8.out)]; rfl
        have g1b := hf3
        have HE := hide hE
        have HB2 := hide hB'
        have HF3 := hide hf3
        have hE1 := hide (HST.out.yb.step hk60 hE)
        have hw8 : p8 < wc.heap.size := by have := hf3.size; omega
        clear hE hB' hf3 g1b
        have hD := HDIS.out
        have hokB := hide (HE.out.ok HST.out.bok hbcl)
        have hclB : Hid (B'.cl ≤ ((k + 1 : Nat) : Int)) := by
          obtain ⟨M1, _, _, _, rfl⟩ := HE.out
          have := HST.out.bcl
          show B.cl + 1 ≤ _
          omega
        have hfrB : Hid (Fr [] w wc) := (HST.out.fr.trans (HFW.out.mono (by simp))).andThen HF3.out (by simp; omega)
        have hcC := hide (hCW.out.fr HF3.out (by simp; omega) (by simp; omega))
        clear hD
        by_cases hsid : al2.sid = a1
        · have hcall2 := hide (alert_any pc bc al2 val C _ (hcC.out.fr (Fr.refl [] wc).drew (by simp) (by simp)) HST.out.cok)
          rw [hat.out] at hcall2
          have HKEEP := hide (fun w3 (hf : Fr [pb, bm, pc, bc] wc w3) => KEEP8.out w3 ((Fr.mono HF3.out (by simp)).andThen hf (fun x hx => .inl hx)))
          go_upto_region 15 with (fail)
          go_cut [12, 13] from 21 to 87 (fun s12 s13 wd => ∃ m mt C', s12 = .int .i64 m ∧ s13 = .bool mt ∧ Enters C k al2.sub (alertLevel al2.prio val) m mt C' ∧ BookIs wd pc bc C' ∧ Fr [pc, bc] wc wd)
          case first =>
            refine wp_region_held_drew (S := (fun w' => w'.rangeAt p8 0 al2.cells.toList ∧ w'.cell? ⟨b, off + k * 34 + 33, none⟩ = some (.int .i64 val))) (by kernel_rfl) (HKEEP.out _ (Fr.refl _ _).drew) (fun hHeld => ?_)
            refine' wpAnyH_take (i := 1) (oi := { dst := some 71, op := Op.load 37 (Operand.tmp 8), type := 37, pos := "law.go:159", after := #[], guard := none }) (v := _) rfl (by kernel_rfl) (by kernel_rfl) (by kernel_rfl) (fun _ _ _ h => h) (yieldsIf_load_mid (by rfl) _ _ rfl _ _ rfl _ _ (fun w h => h.1) Try.underlying37 rfl hj37) (by assumption) ?_
            try simp only [Act.put, List.setIfInBounds_toArray, List.set_cons_zero, List.set_cons_succ]
            refine wpAnyH_take (i := 0) (oi := { dst := some 70, op := Op.move (Operand.tmp 6), type := 26, pos := "law.go:159", after := #[], guard := none }) (v := .pointer (some ⟨pc, 0, none⟩)) rfl (by kernel_rfl) (by kernel_rfl) (by kernel_rfl) (fun _ _ _ h => h) (Or.inl ⟨by rfl, fun W hSw => ?_⟩) (by assumption) ?_
            · go_simp
            try simp only [Act.put, List.setIfInBounds_toArray, List.set_cons_zero, List.set_cons_succ]
            refine wpAnyH_take (i := 2) (oi := { dst := some 72, op := Op.move (Operand.tmp 0), type := 25, pos := "law.go:159", after := #[], guard := none }) (v := .slice (some ⟨b, off, none⟩) L cap) rfl (by kernel_rfl) (by kernel_rfl) (by kernel_rfl) (fun _ _ _ h => h) (Or.inl ⟨by rfl, fun W hSw => ?_⟩) (by assumption) ?_
            · go_simp
            try simp only [Act.put, List.setIfInBounds_toArray, List.set_cons_zero, List.set_cons_succ]
            refine wpAnyH_take (i := 3) (oi := { dst := some 73, op := Op.move (Operand.tmp 7), type := 3, pos := "law.go:159", after := #[], guard := none }) (v := .int .i64 k) rfl (by kernel_rfl) (by kernel_rfl) (by kernel_rfl) (fun _ _ _ h => h) (Or.inl ⟨by rfl, fun W hSw => ?_⟩) (by assumption) ?_
            · go_simp
            try simp only [Act.put, List.setIfInBounds_toArray, List.set_cons_zero, List.set_cons_succ]
            refine wpAnyH_take (i := 4) (oi := { dst := some 74, op := Op.indexAddr 25 (Operand.tmp 72) (Operand.tmp 73), type := 0, pos := "law.go:159", after := #[{ on := 2, ground := Ground.data }, { on := 3, ground := Ground.data }], guard := none }) (v := .pointer (some ⟨b, off + k * 34, none⟩)) rfl (by kernel_rfl) (by kernel_rfl) (by kernel_rfl) (fun _ _ _ h => h) (Or.inl ⟨by rfl, fun W hSw => ?_⟩) (by assumption) ?_
            · go_simp
            try simp only [Act.put, List.setIfInBounds_toArray, List.set_cons_zero, List.set_cons_succ]
            refine wpAnyH_take (i := 5) (oi := { dst := some 75, op := Op.fieldAddr 41 (Operand.tmp 74) 3, type := 0, pos := "law.go:159", after := #[{ on := 4, ground := Ground.data }], guard := none }) (v := .pointer (some ⟨b, off + k * 34 + 33, none⟩)) rfl (by kernel_rfl) (by kernel_rfl) (by kernel_rfl) (fun _ _ _ h => h) (Or.inl ⟨by rfl, fun W hSw => ?_⟩) (by assumption) ?_
            · go_simp
            try simp only [Act.put, List.setIfInBounds_toArray, List.set_cons_zero, List.set_cons_succ]
            refine wpAnyH_take (i := 6) (oi := { dst := some 76, op := Op.load 3 (Operand.tmp 75), type := 3, pos := "law.go:159", after := #[{ on := 5, ground := Ground.data }], guard := none }) (v := .int .i64 val) rfl (by kernel_rfl) (by kernel_rfl) (by kernel_rfl) (fun _ _ _ h => h) (Or.inl ⟨by rfl, fun W hSw => ?_⟩) (by assumption) ?_
            · have h33 := hSw.2
              go_simp
            try simp only [Act.put, List.setIfInBounds_toArray, List.set_cons_zero, List.set_cons_succ]
            refine wpAnyH_ready (rs := [7]) (by kernel_rfl) (by simp) ?_
            refine AllReadyH.cons (o := { dst := some 77, op := Op.call { callee := Callee.value (Operand.func 19), args := #[Operand.tmp 70, Operand.tmp 71, Operand.tmp 76], argTypes := #[26, 37, 3] }, type := 44, pos := "law.go:159", after := #[{ on := 0, ground := Ground.data }, { on := 1, ground := Ground.data }, { on := 6, ground := Ground.data }], guard := none }) rfl (fun K hK => ?_) AllReadyH.nil
            go_simp
            refine (unhide hcall2).mono ?_
            rintro e w3 ⟨n', nt', B'', hE, rfl, hB'', hf4⟩
            have HE4 := hide hE
            have HB4 := hide hB''
            have HF4 := hide hf4
            clear hE hB'' hf4
            refine hK.out _ _ (HKEEP.out _ ((Fr.refl _ _).drew.andThen HF4.out (by simp))) (fun hHeld2 => ?_)
            clear hK
            try simp only [Act.put, List.setIfInBounds_toArray, List.set_cons_zero, List.set_cons_succ]
            refine wpAnyH_take (i := 8) (oi := { dst := some 69, op := Op.move (Operand.tmp 77), type := 44, pos := "law.go:159", after := #[{ on := 7, ground := Ground.data }], guard := none }) (v := .tuple #[.int .i64 n', .bool nt']) rfl (by kernel_rfl) (by kernel_rfl) (by kernel_rfl) (fun _ _ _ h => h) (Or.inl ⟨by rfl, fun W hSw => ?_⟩) (by assumption) ?_
            · go_simp
            try simp only [Act.put, List.setIfInBounds_toArray, List.set_cons_zero, List.set_cons_succ]
            refine wpAnyH_take (i := 9) (oi := { dst := some 78, op := Op.extract (Operand.tmp 69) 0, type := 3, pos := "law.go:159", after := #[{ on := 8, ground := Ground.data }], guard := none }) (v := .int .i64 n') rfl (by kernel_rfl) (by kernel_rfl) (by kernel_rfl) (fun _ _ _ h => h) (Or.inl ⟨by rfl, fun W hSw => ?_⟩) (by assumption) ?_
            · go_simp
            try simp only [Act.put, List.setIfInBounds_toArray, List.set_cons_zero, List.set_cons_succ]
            refine wpAnyH_take (i := 10) (oi := { dst := some 79, op := Op.extract (Operand.tmp 69) 1, type := 4, pos := "law.go:159", after := #[{ on := 8, ground := Ground.data }, { on := 11, ground := Ground.gcOnly Departure.lateStores }], guard := none }) (v := .bool nt') rfl (by kernel_rfl) (by kernel_rfl) (by kernel_rfl) (fun _ _ _ h => h) (Or.inl ⟨by rfl, fun W hSw => ?_⟩) (by assumption) ?_
            · go_simp
            try simp only [Act.put, List.setIfInBounds_toArray, List.set_cons_zero, List.set_cons_succ]
            refine wpAnyH_take (i := 11) (oi := { dst := some 12, op := Op.assign (Operand.tmp 78), type := 3, pos := "law.go:159", after := #[{ on := 9, ground := Ground.data }, { on := 7, ground := Ground.chain }, { on := 0, ground := Ground.phase }, { on := 1, ground := Ground.phase }, { on := 2, ground := Ground.phase }, { on := 3, ground := Ground.phase }, { on := 4, ground := Ground.phase }, { on := 5, ground := Ground.phase }, { on := 6, ground := Ground.phase }, { on := 7, ground := Ground.phase }, { on := 8, ground := Ground.phase }, { on := 9, ground := Ground.phase }, { on := 10, ground := Ground.textOnly Departure.lateStores }], guard := none }) (v := .int .i64 n') rfl (by kernel_rfl) (by kernel_rfl) (by kernel_rfl) (fun _ _ _ h => h) (Or.inl ⟨by rfl, fun W hSw => ?_⟩) (by assumption) ?_
            · go_simp
            try simp only [Act.put, List.setIfInBounds_toArray, List.set_cons_zero, List.set_cons_succ]
            refine wpAnyH_take (i := 12) (oi := { dst := some 13, op := Op.assign (Operand.tmp 79), type := 4, pos := "law.go:159", after := #[{ on := 10, ground := Ground.data }, { on := 11, ground := Ground.chain }, { on := 0, ground := Ground.phase }, { on := 1, ground := Ground.phase }, { on := 2, ground := Ground.phase }, { on := 3, ground := Ground.phase }, { on := 4, ground := Ground.phase }, { on := 5, ground := Ground.phase }, { on := 6, ground := Ground.phase }, { on := 7, ground := Ground.phase }, { on := 8, ground := Ground.phase }, { on := 9, ground := Ground.phase }, { on := 10, ground := Ground.phase }, { on := 11, ground := Ground.phase }], guard := none }) (v := .bool nt') rfl (by kernel_rfl) (by kernel_rfl) (by kernel_rfl) (fun _ _ _ h => h) (Or.inl ⟨by rfl, fun W hSw => ?_⟩) (by assumption) ?_
            · go_simp
            try simp only [Act.put, List.setIfInBounds_toArray, List.set_cons_zero, List.set_cons_succ]
            refine wpAnyH_done (by kernel_rfl) ?_ _
            go_wp2
            go_meet
            case rel => exact ⟨n', nt', B'', rfl, rfl, HE4.out, HB4.out, (Fr.refl _ _).drew.andThen HF4.out (by simp)⟩
          case rest =>
          obtain ⟨m, mt, C', rfl, rfl, hF, hC', hf5⟩ := hcut
          obtain ⟨rfl, rfl, hag⟩ := HST.out.ag.both HST.out.yb HST.out.yc hk60 HE.out hF rfl hsid
          have hst2 : ApSt w wc pb bm pc bc a1 (k + 1) B' C' := by
            have hD := HDIS.out
            refine ⟨HB2.out.fr hf5 (by simp; omega) (by simp; omega), hC', hokB.out, hF.ok HST.out.cok hccl, hclB.out, ?_, hE1.out.1, (HST.out.yc.step hk60 hF).1, hag, hfrB.out.andThen hf5 (by simp; omega)⟩
            obtain ⟨M1, _, _, _, rfl⟩ := hF
            have := HST.out.ccl
            dsimp only
            omega
          have HST2 := hide hst2
          clear hst2 hag hF hC' hf5
          go_wp2
          all_goals
            go_roundg (L + 1 - (k + 1))
            case measure => have := HGK.out; omega
            case rel => exact ⟨k + 1, B', C', rfl, by omega, by go_num, HST2.out⟩
        · have hst2 : ApSt w wc pb bm pc bc a1 (k + 1) B' C :=
            ⟨HB2.out, hcC.out, hokB.out, HST.out.cok, hclB.out, by have := HST.out.ccl; omega, hE1.out.1, HST.out.yc.mono (by omega), HST.out.ag.other HST.out.yb hk60 HE.out (fun hh => hsid hh.2), hfrB.out⟩
          have HST2 := hide hst2
          clear hst2
          go_wp2
          all_goals
            go_roundg (L + 1 - (k + 1))
            case measure => have := HGK.out; omega
            case rel => exact ⟨k + 1, B', C, rfl, by omega, by go_num, HST2.out⟩
      · have hcall := hide (case_any pb bm ca2 val B _ (hBW.out.fr (Fr.refl [] W).drew (by simp) (by simp)) HST.out.bok)
        rw [hct.out] at hcall
        go_upto_region 12 with (fail)
        go_cut [] from 21 to 87 (fun wd => ∃ n nt B', Enters B k ca2.sub (fun _ => caseLevel ca2.level val) n nt B' ∧ BookIs wd pb bm B' ∧ Fr [pb, bm] W wd)
        case first =>
          refine wp_region_held_drew (S := (fun w' => w'.rangeAt p9 0 ca2.cells.toList ∧ w'.cell? ⟨b, off + k * 34 + 33, none⟩ = some (.int .i64 val))) (by kernel_rfl) (KEEP9.out _ (Fr.refl _ _).drew) (fun hHeld => ?_)
          refine' wpAnyH_take (i := 1) (oi := { dst := some 47, op := Op.load 39 (Operand.tmp 9), type := 39, pos := "law.go:152", after := #[], guard := none }) (v := _) rfl (by kernel_rfl) (by kernel_rfl) (by kernel_rfl) (fun _ _ _ h => h) (yieldsIf_load_mid (by rfl) _ _ rfl _ _ rfl _ _ (fun w h => h.1) Try.underlying39 rfl hj39) (by assumption) ?_
          try simp only [Act.put, List.setIfInBounds_toArray, List.set_cons_zero, List.set_cons_succ]
          refine wpAnyH_take (i := 0) (oi := { dst := some 46, op := Op.move (Operand.tmp 5), type := 26, pos := "law.go:152", after := #[], guard := none }) (v := .pointer (some ⟨pb, 0, none⟩)) rfl (by kernel_rfl) (by kernel_rfl) (by kernel_rfl) (fun _ _ _ h => h) (Or.inl ⟨by rfl, fun W hSw => ?_⟩) (by assumption) ?_
          · go_simp
          try simp only [Act.put, List.setIfInBounds_toArray, List.set_cons_zero, List.set_cons_succ]
          refine wpAnyH_take (i := 2) (oi := { dst := some 48, op := Op.move (Operand.tmp 0), type := 25, pos := "law.go:152", after := #[], guard := none }) (v := .slice (some ⟨b, off, none⟩) L cap) rfl (by kernel_rfl) (by kernel_rfl) (by kernel_rfl) (fun _ _ _ h => h) (Or.inl ⟨by rfl, fun W hSw => ?_⟩) (by assumption) ?_
          · go_simp
          try simp only [Act.put, List.setIfInBounds_toArray, List.set_cons_zero, List.set_cons_succ]
          refine wpAnyH_take (i := 3) (oi := { dst := some 49, op := Op.move (Operand.tmp 7), type := 3, pos := "law.go:152", after := #[], guard := none }) (v := .int .i64 k) rfl (by kernel_rfl) (by kernel_rfl) (by kernel_rfl) (fun _ _ _ h => h) (Or.inl ⟨by rfl, fun W hSw => ?_⟩) (by assumption) ?_
          · go_simp
          try simp only [Act.put, List.setIfInBounds_toArray, List.set_cons_zero, List.set_cons_succ]
          refine wpAnyH_take (i := 4) (oi := { dst := some 50, op := Op.indexAddr 25 (Operand.tmp 48) (Operand.tmp 49), type := 0, pos := "law.go:152", after := #[{ on := 2, ground := Ground.data }, { on := 3, ground := Ground.data }], guard := none }) (v := .pointer (some ⟨b, off + k * 34, none⟩)) rfl (by kernel_rfl) (by kernel_rfl) (by kernel_rfl) (fun _ _ _ h => h) (Or.inl ⟨by rfl, fun W hSw => ?_⟩) (by assumption) ?_
          · go_simp
          try simp only [Act.put, List.setIfInBounds_toArray, List.set_cons_zero, List.set_cons_succ]
          refine wpAnyH_take (i := 5) (oi := { dst := some 51, op := Op.fieldAddr 41 (Operand.tmp 50) 3, type := 0, pos := "law.go:152", after := #[{ on := 4, ground := Ground.data }], guard := none }) (v := .pointer (some ⟨b, off + k * 34 + 33, none⟩)) rfl (by kernel_rfl) (by kernel_rfl) (by kernel_rfl) (fun _ _ _ h => h) (Or.inl ⟨by rfl, fun W hSw => ?_⟩) (by assumption) ?_
          · go_simp
          try simp only [Act.put, List.setIfInBounds_toArray, List.set_cons_zero, List.set_cons_succ]
          refine wpAnyH_take (i := 6) (oi := { dst := some 52, op := Op.load 3 (Operand.tmp 51), type := 3, pos := "law.go:152", after := #[{ on := 5, ground := Ground.data }], guard := none }) (v := .int .i64 val) rfl (by kernel_rfl) (by kernel_rfl) (by kernel_rfl) (fun _ _ _ h => h) (Or.inl ⟨by rfl, fun W hSw => ?_⟩) (by assumption) ?_
          · have h33 := hSw.2
            go_simp
          try simp only [Act.put, List.setIfInBounds_toArray, List.set_cons_zero, List.set_cons_succ]
          refine wpAnyH_ready (rs := [7]) (by kernel_rfl) (by simp) ?_
          refine AllReadyH.cons (o := { dst := some 53, op := Op.call { callee := Callee.value (Operand.func 20), args := #[Operand.tmp 46, Operand.tmp 47, Operand.tmp 52], argTypes := #[26, 39, 3] }, type := 44, pos := "law.go:152", after := #[{ on := 0, ground := Ground.data }, { on := 1, ground := Ground.data }, { on := 6, ground := Ground.data }], guard := none }) rfl (fun K hK => ?_) AllReadyH.nil
          go_simp
          refine (unhide hcall).mono ?_
          rintro e w3 ⟨n, nt, B', hE, rfl, hB', hf3⟩
          have HE3 := hide hE
          have HB3 := hide hB'
          have HF3 := hide hf3
          clear hE hB' hf3
          refine hK.out _ _ (KEEP9.out _ ((Fr.refl _ _).drew.andThen HF3.out (by simp))) (fun hHeld2 => ?_)
          clear hK
          try simp only [Act.put, List.setIfInBounds_toArray, List.set_cons_zero, List.set_cons_succ]
          refine wpAnyH_done (by kernel_rfl) ?_ _
          go_wp2
          go_meet
          case rel => exact ⟨n, nt, B', HE3.out, HB3.out, (Fr.refl _ _).drew.andThen HF3.out (by simp)⟩
        case rest =>
        obtain ⟨n, nt, B', hE, hB', hf3⟩ := hcut
        have hE1 := HST.out.yb.step hk60 hE
        have hst2 : ApSt w wc pb bm pc bc a1 (k + 1) B' C := by
          have hD := HDIS.out
          refine ⟨hB', hCW.out.fr hf3 (by simp; omega) (by simp; omega), hE.ok HST.out.bok hbcl, HST.out.cok, ?_, by have := HST.out.ccl; omega, hE1.1, HST.out.yc.mono (by omega), HST.out.ag.other HST.out.yb hk60 hE (by intro hh; cases hh.1), (HST.out.fr.trans (HFW.out.mono (by simp))).andThen hf3 (by simp; omega)⟩
          obtain ⟨M1, _, _, _, rfl⟩ := hE
          have := HST.out.bcl
          dsimp only
          omega
        have HST2 := hide hst2
        clear hst2 hE1 hE hB' hf3
        go_wp2
        all_goals
          go_roundg (L + 1 - (k + 1))
          case measure => have := HGK.out; omega
          case rel => exact ⟨k + 1, B', C, rfl, by omega, by go_num, HST2.out⟩
    · go_wp2
      all_goals
        go_ret
        exact ⟨rfl, HST.out.fr⟩

/-! ### The row -/
set_option maxRecDepth 100000 in
theorem lifted (os : Os) (started : os.Started) (H : Type) (enc : TypeId × Value → H) :
    ReturnsInHanded {} Try.checked os 8 .any (Rows.escalateApartSpec.pre6 enc Try.prog Try.f8 Rows.escalateApartRow.domain false) (Rows.escalateApartSpec.post enc Try.prog Try.f8 false true false false) := by
  refine returnsInHanded_of_change (C := Try.checked) own started (by kernel_rfl) Try.func8
    (ChangeSpec.witness6 (enc := enc) (C := Try.checked) false ⟨#[], #[.slice none 0 0, .int .i64 0], []⟩ 8 (by kernel_rfl) (by kernel_rfl) (by kernel_rfl) (by kernel_rfl)) ?_
  intro W base args ds gs before hval0 hW hcnd _
  have hval : ∀ (j : Nat) t v, Try.f8.params[j]? = some t → args[j]? = some v → Value.okWide Try.prog W .any base t v := hval0
  have hW' := hW
  obtain ⟨p, q, hA0, hV, rfl, hfz, hnd⟩ := hW
  have hA : DataW.TrodAll enc Try.prog W 0 (fun _ => true) true Try.f8.params.toList args.toList ds p := hA0
  rw [Try.params8] at hA hval
  obtain ⟨v0, vs0, d0, ds0, p0, q0, hargs, rfl, rfl, h0, r0⟩ := trodAll_cons hA
  obtain ⟨v1, vs1, d1, ds1, p1, q1, rfl, rfl, rfl, h1, r1⟩ := trodAll_cons r0
  obtain ⟨rfl, rfl, rfl⟩ := trodAll_nil r1
  obtain rfl : args = #[v0, v1] := by cases args; simp_all
  obtain ⟨rfl, rfl⟩ := trodVars_none hV
  have h0k := h0
  obtain ⟨a0, L0, cap0, ev0, rfl, hev0, hone0⟩ := open_evs1 (hval 0 25 v0 rfl rfl) h0
  obtain ⟨a1, rfl, rfl, rfl, w1⟩ := open_int Try.underlying3 (hval 1 3 v1 rfl rfl) h1
  clear hA0 hval0
  simp only [List.append_nil] at hW'
  refine (walk a0 L0 cap0 ev0 a1 W hev0 hone0).mono fun e W' ⟨he, hg⟩ => ?_
  subst he
  exact ⟨_, rfl, _, _, _, [], _, [], hW', (trodAll_cons_mk (shut_bool Try.underlying4 _) trodAll_mk0), (trodAll_cons_mk (Below.trod laid read25 row25 h0k hg.below (fun x hx => by simpa using hW'.lt x (by simp [hx]))) (trodAll_cons_mk (shut_int Try.underlying3 w1) trodAll_mk0)), rfl, hg.below.frame _, fun h => by cases h⟩

theorem over : Rows.escalateApartRow.holds Try.pinned (OpenSpec.ofChange Rows.escalateApartSpec) :=
  OpenClaim.holds_of_wide 8 Try.f8 rfl rfl rfl rfl rfl rfl rfl ⟨rfl, rfl, rfl, rfl, rfl⟩ rfl rfl rfl rfl rfl (by kernel_rfl) Try.func8 (by kernel_rfl)
    (of_decide_eq_true (by kernel_rfl)) (by unfold Func.isWrapper; first | (rw [if_pos (by decide +kernel)]; kernel_rfl) | (rw [if_neg (by decide +kernel)]; exact ⟨rfl, rfl⟩))
    (fun os started H enc _ => lifted os started H enc)

theorem proved : Rows.EscalateApartSaid :=
  over
#print axioms proved
end Go.Proofs.Ytnghfmefjjkgdaa.escalateApart

