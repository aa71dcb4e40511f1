/- The law package's enter: a book of the program and one of the reference go together. -/
import Derived.Test.YtnghfmefjjkgdaaTwin
namespace Go.Proofs.Ytnghfmefjjkgdaa
open Go.RowKit

structure Ev where
  case_ : Bool
  al : Al
  ca : Ca
  val : Int
def Ev.cells (e : Ev) : Array Value := #[.bool e.case_, .int .i64 e.al.at_, .int .i64 e.al.sid, e.al.z2, .int .i64 e.al.prio, e.al.z4, e.al.z5, e.al.z6, e.al.z7, e.al.z8, e.al.z9, .bool e.al.v6, .int .u64 e.al.hi, .int .u64 e.al.lo, e.al.z13, e.al.z14, e.al.z15, e.al.z16, e.al.z17, e.al.z18, e.al.z19, e.al.z20,
  .string e.ca.name, .int .i64 e.ca.at_, e.ca.z2, .bool e.ca.v6, .int .u64 e.ca.hi, .int .u64 e.ca.lo, e.ca.z6, e.ca.z7, e.ca.z8, .int .i64 e.ca.level, e.ca.z10, .int .i64 e.val]

theorem Ev.list (e : Ev) : e.cells.toList = .bool e.case_ :: (e.al.cells.toList ++ (e.ca.cells.toList ++ [.int .i64 e.val])) := rfl
theorem Ev.alert (e : Ev) (j : Nat) (u : Value) (h : e.al.cells.toList[j]? = some u) : e.cells[1 + j]? = some u := by
  have hj : j < e.al.cells.toList.length := (List.getElem?_eq_some_iff.1 h).1
  rw [← Array.getElem?_toList, Ev.list, Nat.add_comm 1 j, List.getElem?_cons_succ, List.getElem?_append_left hj]
  exact h
theorem Ev.found (e : Ev) (j : Nat) (u : Value) (h : e.ca.cells.toList[j]? = some u) : e.cells[22 + j]? = some u := by
  have hj : j < e.ca.cells.toList.length := (List.getElem?_eq_some_iff.1 h).1
  rw [← Array.getElem?_toList, Ev.list, show 22 + j = (21 + j) + 1 by omega, List.getElem?_cons_succ, List.getElem?_append_right (by show 21 ≤ 21 + j; omega)]
  rw [show 21 + j - e.al.cells.toList.length = j by show 21 + j - 21 = j; omega, List.getElem?_append_left hj]
  exact h

structure Both (w : World) (pb bm rp : Nat) (v : Value) (g : Option Nat) (B : Bk) (R : RBk) : Prop where
  bk : BookIs w pb bm B
  rf : RIs w rp v g R
  tw : Twin B R
  ok : B.Ok
  n1 : rp ∉ [pb, bm]
  n2 : ∀ b, g = some b → b ∉ [pb, bm]

def BothIs (w : World) (pb bm rp : Nat) (n : Int) : Prop := ∃ v g B R, Both w pb bm rp v g B R ∧ B.cl = n

theorem Both.fr {w w' : World} {pb bm rp : Nat} {v : Value} {g : Option Nat} {B : Bk} {R : RBk} (h : Both w pb bm rp v g B R) (hf : Fr [] w w') : Both w' pb bm rp v g B R :=
  ⟨h.bk.fr hf (by simp) (by simp), h.rf.fr hf (by simp) (by simp), h.tw, h.ok, h.n1, h.n2⟩

theorem MapIs.keys {w : World} {bm : Nat} {M : List (Sub × Ent)} (h : MapIs eSub eEnt w bm M) : (M.map (·.1)).Nodup := by
  obtain ⟨es, c, _, hr⟩ := h
  exact hr.keys

/-- The two calls, one behind the other. -/
theorem Both.step {w w1 w2 : World} {pb bm rp : Nat} {v : Value} {g : Option Nat} {B B' : Bk} {R : RBk} {at_ : Int} {s : Sub} {f : Int → Int} {n : Int} {nt : Bool} (h : Both w pb bm rp v g B R) (hc : B.cl < 1000000)
    (hE : Enters B at_ s f n nt B') (hB : BookIs w1 pb bm B') (hf1 : Fr [pb, bm] w w1) {v' : Value} {g' : Option Nat} (hR : RIs w2 rp v' g' (stepR R at_ s f).2.2) (hf2 : Fr [rp] w1 w2) (hg : ∀ b, g' = some b → w1.heap.size ≤ b) :
    (stepR R at_ s f).1 = n ∧ (stepR R at_ s f).2.1 = nt ∧ Both w2 pb bm rp v' g' B' (stepR R at_ s f).2.2 ∧ B'.cl = B.cl + 1 ∧ Fr [pb, bm, rp] w w2 := by
  obtain ⟨h1, h2, h3⟩ := twin_step h.tw h.ok h.bk.map.keys hE
  have hn := h.n1
  simp only [List.mem_cons, List.not_mem_nil, or_false, not_or] at hn
  have hpb := lt_of_blk h.bk.blk
  have hbm := h.bk.map.lt
  have hs := hf1.size
  refine ⟨h1, h2, ⟨hB.fr hf2 (by simp; omega) (by simp; omega), hR, h3, hE.ok h.ok hc, h.n1, fun b hb => ?_⟩, ?_, ?_⟩
  · have := hg b hb
    simp
    omega
  · obtain ⟨M1, _, _, _, rfl⟩ := hE; rfl
  · exact (hf1.mono (T := [pb, bm, rp]) (by simp)).andThen hf2 (by simp)

theorem both_fr1 {w w1 : World} {pb bm rp : Nat} {v : Value} {g : Option Nat} {B : Bk} {R : RBk} (h : Both w pb bm rp v g B R) (hf1 : Fr [pb, bm] w w1) : RIs w1 rp v g R :=
  h.rf.fr hf1 h.n1 h.n2

theorem size39 : (Try.prog.info? 39).map (·.size) = some 11 := by kernel_rfl

def LawPost (pb bm rp : Nat) (n : Int) (w : World) (e : Ending) (w' : World) : Prop := e = .returned (.bool true) ∧ BothIs w' pb bm rp (n + 1) ∧ Fr [pb, bm, rp] w w'

set_option maxRecDepth 100000 in
set_option maxHeartbeats 1000000 in
theorem lawenter_any (pb bm rp : Nat) (v : Value) (g : Option Nat) (B : Bk) (R : RBk) (ev : Ev) (w : World) (h : Both w pb bm rp v g B R) (hc : B.cl < 1000000) :
    Calls Try.prog 17 #[.pointer (some ⟨pb, 0, none⟩), .pointer (some ⟨rp, 0, none⟩), .agg ev.cells] w (LawPost pb bm rp B.cl w) := by
  obtain ⟨cs, al, ca, val⟩ := ev
  obtain ⟨w0, hw0⟩ : ∃ w0, w0 = w.alloc (.cells (Ev.cells ⟨cs, al, ca, val⟩) 41) := ⟨_, rfl⟩
  have hF0 : Fr [] w w0 := by rw [hw0]; exact (Fr.refl _ _).alloc _
  have hs0 : w0.heap.size = w.heap.size + 1 := by rw [hw0]; simp
  have hblk0 : w0.heap[w.heap.size]? = some (.cells (Ev.cells ⟨cs, al, ca, val⟩) 41 (0, 0)) := by rw [hw0, heap_alloc_eq rfl]
  have hpb := lt_of_blk h.bk.blk
  have hbm := h.bk.map.lt
  have hrp := lt_of_blk h.rf.blk
  have HH := hide (h.fr hF0)
  have HW := hide hw0
  clear hw0
  have HF := hide hF0
  clear h
  cases cs
  · have hca : Hid (∀ W, BookIs W pb bm B → Calls Try.prog 19 #[.pointer (some ⟨pb, 0, none⟩), .agg al.cells, .int .i64 val] W (StepPost B al.at_ al.sub (alertLevel al.prio val) pb bm W)) := fun W hW => alert_any pb bm al val B W hW HH.out.ok
    have hra : Hid (∀ W, RIs W rp v g R → Calls Try.prog 46 #[.pointer (some ⟨rp, 0, none⟩), .agg al.cells, .int .i64 val] W (RStepPost rp W (stepR R al.at_ al.sub (alertLevel al.prio val)))) := fun W hW => ralert_any rp al val v g R W hW (by rw [twin_len HH.out.tw]; exact HH.out.tw.len) (fun nw => twin_cnt HH.out.tw HH.out.ok HH.out.bk.map.keys _ nw)
    have c0 : w0.cell? ⟨w.heap.size, 0, none⟩ = some (.bool false) := by rw [cell_blk hblk0]; rfl
    have c33 : w0.cell? ⟨w.heap.size, 33, none⟩ = some (.int .i64 val) := by rw [cell_blk hblk0]; rfl
    have hag : Hid (∀ W : World, W.heap[w.heap.size]? = some (.cells (Ev.cells ⟨false, al, ca, val⟩) 41 (0, 0)) → ∀ j u, al.cells.toList[j]? = some u → W.cell? ((⟨w.heap.size, 1, none⟩ : Addr).add j) = some u) := by
      show ∀ W : World, W.heap[w.heap.size]? = some (.cells (Ev.cells ⟨false, al, ca, val⟩) 41 (0, 0)) → ∀ j u, al.cells.toList[j]? = some u → W.cell? ((⟨w.heap.size, 1, none⟩ : Addr).add j) = some u
      intro W hW j u hj
      rw [Addr.add_lit, cell_blk hW]
      exact Ev.alert _ j u hj
    clear hF0
    have HB0 := hide hblk0
    clear hblk0
    simp only [Ev.cells, Al.cells] at *
    go_enter Try.func17, Try.ntmps17
    go_upto_region 1 with (fail)
    have hwe := HW.out
    rw [← hwe]
    clear hwe
    go_wp2_with (first | ((with_reducible refine wpList_load_agg rfl 37 (.tmp 52) rfl ⟨w.heap.size, 1, none⟩ #[.int .i64 al.at_, .int .i64 al.sid, al.z2, .int .i64 al.prio, al.z4, al.z5, al.z6, al.z7, al.z8, al.z9, .bool al.v6, .int .u64 al.hi, .int .u64 al.lo, al.z13, al.z14, al.z15, al.z16, al.z17, al.z18, al.z19, al.z20] _ ?_ Try.underlying37 ?_ ?_ (hag.out _ HB0.out) ?_); rfl; rfl; exact size37))
    refine (unhide hca _ HH.out.bk).mono ?_
    rintro e w1 ⟨n, nt, B', hE, rfl, hB', hf1⟩
    have hblk1 : w1.heap[w.heap.size]? = _ := (hf1.block _ (by omega) (by simp; omega)).trans HB0.out
    have c33' : w1.cell? ⟨w.heap.size, 33, none⟩ = some (.int .i64 val) := by rw [cell_blk hblk1]; rfl
    have HB1 := hide hblk1
    have hR1 := hide (both_fr1 HH.out hf1)
    have HE := hide hE
    have HBB := hide hB'
    have HF1 := hide hf1
    clear hE hB' hf1 hblk1
    go_wp2_with (first | ((with_reducible refine wpList_load_agg rfl 37 (.tmp 61) rfl ⟨w.heap.size, 1, none⟩ #[.int .i64 al.at_, .int .i64 al.sid, al.z2, .int .i64 al.prio, al.z4, al.z5, al.z6, al.z7, al.z8, al.z9, .bool al.v6, .int .u64 al.hi, .int .u64 al.lo, al.z13, al.z14, al.z15, al.z16, al.z17, al.z18, al.z19, al.z20] _ ?_ Try.underlying37 ?_ ?_ (hag.out _ HB1.out) ?_); rfl; rfl; exact size37))
    refine (unhide hra _ hR1.out).mono ?_
    rintro e w2 ⟨v2, g2, rfl, hR2, hf2, hg2⟩
    obtain ⟨e1, e2, hboth, hcl, hf12⟩ := Both.step HH.out hc HE.out HBB.out HF1.out hR2 hf2 hg2
    rw [e1, e2]
    have hle := twin_len hboth.tw
    have HLE := hide hle
    have HX := hide hboth
    have HCL := hide hcl
    have HF2 := hide hf12
    have HG2 := hide hg2
    have hlb := hide (fun W (hW : BookIs W pb bm B') => len_bk pb bm B' W hW)
    clear e1 e2 hle hboth hcl hf12 hR2 hf2 hg2
    go_wp2_with (first | (go_at_call 18; refine (len_bk _ _ _ _ HX.out.bk).mono ?_; rintro e w' ⟨rfl, rfl⟩) | (go_at_call 45; refine (rlen_any _ _ _ _ _ HX.out.rf).mono ?_; rintro e w' ⟨rfl, rfl⟩; rw [HLE.out]))
    all_goals
      go_ret
      exact ⟨by simp, ⟨v2, g2, B', _, HX.out, HCL.out⟩, (HF.out.mono (by simp)).andThen HF2.out (by simp)⟩
  · have hca : Hid (∀ W, BookIs W pb bm B → Calls Try.prog 20 #[.pointer (some ⟨pb, 0, none⟩), .agg ca.cells, .int .i64 val] W (StepPost B ca.at_ ca.sub (fun _ => caseLevel ca.level val) pb bm W)) := fun W hW => case_any pb bm ca val B W hW HH.out.ok
    have hra : Hid (∀ W, RIs W rp v g R → Calls Try.prog 44 #[.pointer (some ⟨rp, 0, none⟩), .agg ca.cells, .int .i64 val] W (RStepPost rp W (stepR R ca.at_ ca.sub (fun _ => caseLevel ca.level val)))) := fun W hW => rcase_any rp ca val v g R W hW (by rw [twin_len HH.out.tw]; exact HH.out.tw.len)
    have c0 : w0.cell? ⟨w.heap.size, 0, none⟩ = some (.bool true) := by rw [cell_blk hblk0]; rfl
    have c33 : w0.cell? ⟨w.heap.size, 33, none⟩ = some (.int .i64 val) := by rw [cell_blk hblk0]; rfl
    have hag : Hid (∀ W : World, W.heap[w.heap.size]? = some (.cells (Ev.cells ⟨true, al, ca, val⟩) 41 (0, 0)) → ∀ j u, ca.cells.toList[j]? = some u → W.cell? ((⟨w.heap.size, 22, none⟩ : Addr).add j) = some u) := by
      show ∀ W : World, W.heap[w.heap.size]? = some (.cells (Ev.cells ⟨true, al, ca, val⟩) 41 (0, 0)) → ∀ j u, ca.cells.toList[j]? = some u → W.cell? ((⟨w.heap.size, 22, none⟩ : Addr).add j) = some u
      intro W hW j u hj
      rw [Addr.add_lit, cell_blk hW]
      exact Ev.found _ j u hj
    clear hF0
    have HB0 := hide hblk0
    clear hblk0
    simp only [Ev.cells, Ca.cells] at *
    go_enter Try.func17, Try.ntmps17
    go_upto_region 1 with (fail)
    have hwe := HW.out
    rw [← hwe]
    clear hwe
    go_wp2_with (first | ((with_reducible refine wpList_load_agg rfl 39 (.tmp 19) rfl ⟨w.heap.size, 22, none⟩ #[.string ca.name, .int .i64 ca.at_, ca.z2, .bool ca.v6, .int .u64 ca.hi, .int .u64 ca.lo, ca.z6, ca.z7, ca.z8, .int .i64 ca.level, ca.z10] _ ?_ Try.underlying39 ?_ ?_ (hag.out _ HB0.out) ?_); rfl; rfl; exact size39))
    refine (unhide hca _ HH.out.bk).mono ?_
    rintro e w1 ⟨n, nt, B', hE, rfl, hB', hf1⟩
    have hblk1 : w1.heap[w.heap.size]? = _ := (hf1.block _ (by omega) (by simp; omega)).trans HB0.out
    have c33' : w1.cell? ⟨w.heap.size, 33, none⟩ = some (.int .i64 val) := by rw [cell_blk hblk1]; rfl
    have HB1 := hide hblk1
    have hR1 := hide (both_fr1 HH.out hf1)
    have HE := hide hE
    have HBB := hide hB'
    have HF1 := hide hf1
    clear hE hB' hf1 hblk1
    go_wp2_with (first | ((with_reducible refine wpList_load_agg rfl 39 (.tmp 28) rfl ⟨w.heap.size, 22, none⟩ #[.string ca.name, .int .i64 ca.at_, ca.z2, .bool ca.v6, .int .u64 ca.hi, .int .u64 ca.lo, ca.z6, ca.z7, ca.z8, .int .i64 ca.level, ca.z10] _ ?_ Try.underlying39 ?_ ?_ (hag.out _ HB1.out) ?_); rfl; rfl; exact size39))
    refine (unhide hra _ hR1.out).mono ?_
    rintro e w2 ⟨v2, g2, rfl, hR2, hf2, hg2⟩
    obtain ⟨e1, e2, hboth, hcl, hf12⟩ := Both.step HH.out hc HE.out HBB.out HF1.out hR2 hf2 hg2
    rw [e1, e2]
    have hle := twin_len hboth.tw
    have HLE := hide hle
    have HX := hide hboth
    have HCL := hide hcl
    have HF2 := hide hf12
    have HG2 := hide hg2
    have hlb := hide (fun W (hW : BookIs W pb bm B') => len_bk pb bm B' W hW)
    clear e1 e2 hle hboth hcl hf12 hR2 hf2 hg2
    go_wp2_with (first | (go_at_call 18; refine (len_bk _ _ _ _ HX.out.bk).mono ?_; rintro e w' ⟨rfl, rfl⟩) | (go_at_call 45; refine (rlen_any _ _ _ _ _ HX.out.rf).mono ?_; rintro e w' ⟨rfl, rfl⟩; rw [HLE.out]))
    all_goals
      go_ret
      exact ⟨by simp, ⟨v2, g2, B', _, HX.out, HCL.out⟩, (HF.out.mono (by simp)).andThen HF2.out (by simp)⟩

theorem both_new (q : Int) {w1 w2 : World} {pb bm rp : Nat} (h1 : BookIs w1 pb bm (bk0 q)) (h2 : RIs w2 rp (.slice none 0 0) none (rbk0 q)) (hf : Fr [] w1 w2) (hr : rp = w1.heap.size) : Both w2 pb bm rp (.slice none 0 0) none (bk0 q) (rbk0 q) := by
  have hpb := lt_of_blk h1.blk
  have hbm := h1.map.lt
  exact ⟨h1.fr hf (by simp) (by simp), h2, twin0 q, bk0_ok q, by simp; omega, by simp⟩

end Go.Proofs.Ytnghfmefjjkgdaa

