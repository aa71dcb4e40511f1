/- The pool's Victim: the range over the accounts, in whatever order. -/
import Derived.Test.YtnghfmefjjkgdaaPoolLaw
import Derived.Test.YtnghfmefjjkgdaaForget
import Derived.Deep.QuietTactic
import Derived.BigQuiet
namespace Go.Proofs.Ytnghfmefjjkgdaa
open Go.RowKit

section
variable {κ ν : Type} {ek : κ → Value} {ev : ν → Value} {P : Program} {k e : TypeId}
theorem wpList_lookup_is [DecidableEq κ] (w : World) {ops : Array Oper} {rest : List Oper} {o : Oper} {a : Act} {Q : Exit → Act → World → Prop}
    (hg : o.guard = none) (m x : Operand) (t : TypeId) (hop : o.op = Op.lookup t m x false) (K : KeyOk P k ek) (ht : P.underlying t = some (.map k e)) {z v : Value} (hz : (zeroValue e).run P w = .ok z w) (b : Nat) (M : List (κ × ν))
    (hm : a.eval m = .map (some b)) (hi : MapIs ek ev w b M) (key : κ) (hx : a.eval x = ek key) (hv : ((mget M key).map ev).getD z = v)
    (hK : wpList P ops Q rest (a.put o.dst v) w) :
    wpList P ops Q (o :: rest) a w := by
  refine wpList_plain hg fun K' hK' => ?_
  have hrun := MapIs.lookup K ht hz hi key false
  unfold Oper.wp
  simp only [execOp, hop, hm, hx, Sem.run_bind, hrun, Result.andThen_ok, Oper.upon, Sem.run_pure]
  rw [show lookVal false z ((mget M key).map ev) = v from hv]
  exact hK' _ _ hK
end

/-- What the loop of Victim knows. -/
def Worst (M left : AM) (o : Int) : Prop :=
  (∀ p ∈ left, p ∈ M) ∧ ((o = 0 ∧ ∀ p ∈ M, p ∈ left) ∨ ∃ b, (o, b) ∈ M ∧ ∀ p ∈ M, p ∈ left ∨ p = (o, b) ∨ worse (o, b) p)

theorem mget_of_mem {M : AM} (hn : (M.map (·.1)).Nodup) {o : Int} {b : Int × Int} (h : (o, b) ∈ M) : mget M o = some b := by
  obtain ⟨j, hj⟩ := List.getElem?_of_mem h
  exact mget_of_at hn hj

theorem Worst.take {M left : AM} {o : Int} (h : Worst M left o) (hn : (M.map (·.1)).Nodup) {j : Nat} {key : Int} {val : Int × Int} (hj : left[j]? = some (key, val))
    (hc : o = 0 ∨ worse (key, val) (o, (mget M o).getD (0, 0))) (hpos : ∀ p ∈ M, 1 ≤ p.1) : Worst M (left.eraseIdx j) key := by
  refine ⟨fun p hp => h.1 p ((List.eraseIdx_sublist _ _).subset hp), .inr ⟨val, h.1 _ (List.mem_of_getElem? hj), fun p hp => ?_⟩⟩
  rcases h.2 with ⟨_, h2⟩ | ⟨b, hb, h2⟩
  · rcases mem_erase_or hj (h2 p hp) with h3 | h3
    · exact .inl h3
    · exact .inr (.inl h3)
  · rcases hc with hc | hc
    · have := hpos _ hb
      simp at this
      omega
    · rw [mget_of_mem hn hb] at hc
      rcases h2 p hp with h3 | h3 | h3
      · rcases mem_erase_or hj h3 with h3 | h3
        · exact .inl h3
        · exact .inr (.inl h3)
      · rw [h3]; exact .inr (.inr hc)
      · exact .inr (.inr (worse_trans hc h3))

theorem Worst.skip {M left : AM} {o : Int} (h : Worst M left o) (hn : (M.map (·.1)).Nodup) {j : Nat} {key : Int} {val : Int × Int} (hj : left[j]? = some (key, val))
    (h0 : o ≠ 0) (hc : ¬ worse (key, val) (o, (mget M o).getD (0, 0))) : Worst M (left.eraseIdx j) o := by
  refine ⟨fun p hp => h.1 p ((List.eraseIdx_sublist _ _).subset hp), .inr ?_⟩
  rcases h.2 with ⟨h1, _⟩ | ⟨b, hb, h2⟩
  · exact absurd h1 h0
  · refine ⟨b, hb, fun p hp => ?_⟩
    rw [mget_of_mem hn hb] at hc
    rcases h2 p hp with h3 | h3 | h3
    · rcases mem_erase_or hj h3 with h3 | h3
      · exact .inl h3
      · right
        by_cases hw : worse (o, b) (key, val)
        · exact .inr (by rw [h3]; exact hw)
        · left
          have he : key = o := worse_total hc hw
          have h5 := mget_of_mem hn (h.1 _ (List.mem_of_getElem? hj))
          rw [he, mget_of_mem hn hb] at h5
          rw [h3, he]
          injection h5 with h5
          rw [h5]
    · exact .inr (.inl h3)
    · exact .inr (.inr h3)

set_option maxRecDepth 100000 in
set_option maxHeartbeats 1000000 in
theorem pvictim_any (pb bm : Nat) (p : Pl) (k : Nat) (w : World) (h : PoolIs w pb bm p) (inv : PInv p k) :
    Calls Try.prog 36 #[.pointer (some ⟨pb, 0, none⟩)] w fun e w' => ∃ v, e = .returned (.int .i64 v) ∧ VicOf p v ∧ Fr [] w w' := by
  have hblk := h.blk
  have hpb := lt_of_blk hblk
  have hbm := h.map.lt
  have d0 : w.cell? ⟨pb, 0, none⟩ = some (.int .i64 p.total) := by rw [cell_blk hblk]; rfl
  have d1 : w.cell? ⟨pb, 1, none⟩ = some (.int .i64 p.used) := by rw [cell_blk hblk]; rfl
  have d11 : w.cell? ⟨pb, 11, none⟩ = some (.map (some bm)) := by rw [cell_blk hblk]; rfl
  have HB := hide hblk
  have HM := hide h.map
  have HI := hide inv
  clear hblk h inv
  by_cases hu : p.used ≤ p.total
  · have HV : Hid (VicOf p 0) := by show VicOf p 0; unfold VicOf; rw [if_pos hu]
    have hd := decide_eq_true hu
    go_enter Try.func36, Try.ntmps36
    go_upto_region 1 with (fail)
    go_quiet (fail)
    go_wp2
    go_ret
    exact ⟨0, rfl, HV.out, (Fr.refl _ _).drewN _⟩
  · have HV : Hid (∀ v, IsVic p.M v → VicOf p v) := by show ∀ v, _ → _; intro v hv; unfold VicOf; rw [if_neg hu]; exact hv
    have hd := decide_eq_false hu
    go_enter Try.func36, Try.ntmps36
    go_upto_region 1 with (fail)
    go_quiet (fail)
    go_wp2_with (first
      | (at_range; refine wpList_range_is _ rfl _ 78 rfl Try.underlying78 bm p.M rfl (HM.out.keep rfl) w.heap.size rfl ?_; intro ob hit)
      | go_in)
    go_loopg [3] p.M.length (fun gk out wr => ∃ (left : AM) (o : Int), gk = left.length ∧ out = .int .i64 o ∧ Iter eInt eAcc wr w.heap.size bm left ∧ MapIs eInt eAcc wr bm p.M ∧ Fr [] w wr ∧ Worst p.M left o)
    case atStart =>
      exact ⟨p.M, 0, rfl, rfl, hit, HM.out.keep (heap_alloc_lt hbm), ((Fr.refl _ _).drewN _).alloc _, fun q hq => hq, .inl ⟨rfl, fun q hq => hq⟩⟩
    case round =>
      obtain ⟨left, o, rfl, rfl, hit, hmr, hfr, hworst⟩ := hrel
      have hsz := hit.lt.2
      go_wp2_with (first
        | (at_next; refine wpList_next_is _ rfl _ rfl w.heap.size bm left (by omega) rfl hit ?_ ?_)
        | go_in)
      · intro hl
        have HW := hide hworst
        have HFR := hide hfr
        go_wp2
        go_ret
        subst hl
        refine ⟨o, rfl, HV.out o ?_, HFR.out.mono (by simp)⟩
        rcases HW.out.2 with ⟨_, h2⟩ | ⟨b, hb, h2⟩
        · exfalso
          have hnil : p.M = [] := List.eq_nil_iff_forall_not_mem.2 (fun q hq => by cases h2 q hq)
          have h1 := HI.out.used
          rw [hnil] at h1
          have := HI.out.total
          simp [sumN] at h1
          omega
        · exact ⟨b, hb, fun q hq => by rcases h2 q hq with h3 | h3; · cases h3
                                       · exact h3⟩
      · rintro ⟨j, key, val, w2, hj, hf2, hs2, hit2, hen⟩
        have hjl : j < left.length := (List.getElem?_eq_some_iff.1 hj).1
        have hmr2 : MapIs eInt eAcc w2 bm p.M := hmr.keep (hf2.block _ hmr.lt (by simp; omega))
        have hfr2 : Fr [] w w2 := hfr.andThen hf2 (by simp)
        obtain ⟨bn, bv, hb⟩ : ∃ bn bv, (mget p.M o).getD (0, 0) = (bn, bv) := ⟨_, _, rfl⟩
        have hval : ((mget p.M o).map eAcc).getD (eAcc (0, 0)) = .agg #[.int .i64 bn, .int .i64 bv] := by
          cases hm : mget p.M o with
          | none => rw [hm] at hb; simp at hb; obtain ⟨rfl, rfl⟩ := hb; rfl
          | some x => rw [hm] at hb; simp at hb; rw [hb]; rfl
        obtain ⟨an, av⟩ := val
        have HTK : Hid ((o = 0 ∨ worse (key, (an, av)) (o, (bn, bv))) → Worst p.M (left.eraseIdx j) key) := by
          show _ → _
          intro hc
          exact hworst.take HI.out.keys hj (by rw [hb]; exact hc) (fun q hq => (HI.out.acc q hq).1)
        have HSK : Hid (o ≠ 0 → ¬ worse (key, (an, av)) (o, (bn, bv)) → Worst p.M (left.eraseIdx j) o) := by
          show _ → _ → _
          intro h0 hc
          exact hworst.skip HI.out.keys hj h0 (by rw [hb]; exact hc)
        have d0 : w2.cell? ⟨pb, 0, none⟩ = some (.int .i64 p.total) := by rw [cell_blk ((hfr2.block pb hpb (by simp)).trans HB.out)]; rfl
        have d11 : w2.cell? ⟨pb, 11, none⟩ = some (.map (some bm)) := by rw [cell_blk ((hfr2.block pb hpb (by simp)).trans HB.out)]; rfl
        have xl : pb < w2.heap.size := by omega
        have xe0 : pb ≤ w2.heap.size := by omega
        have xe1 : pb ≤ w2.heap.size + 1 := by omega
        have xe2 : pb ≤ w2.heap.size + 2 := by omega
        have xe3 : pb ≤ w2.heap.size + 3 := by omega
        have hpb2 : pb < w2.heap.size := by have := hfr2.size; omega
        have hbm2 : bm < w2.heap.size := by have := hfr2.size; omega
        simp only [eInt, eAcc] at hen ⊢
        have HW := hide hworst
        have HHB := hide hb
        have HS2 := hide hs2
        clear hworst hb hs2 hsz
        go_wp2_with (first
          | ((with_reducible refine wpList_lookup_is _ rfl _ _ 78 rfl keyOk3 Try.underlying78 (zero86 _) bm p.M rfl ?_ o rfl hval ?_); (rotate_left))
          | go_in)
        all_goals first
          | exact hmr2.keep (heap_alloc_lt hbm2)
          | (go_roundg (left.length - 1)
             case measure => omega
             case rel =>
              first
                | exact ⟨left.eraseIdx j, key, by rw [List.length_eraseIdx_of_lt hjl], rfl, hit2.keep (two hbm2) (two hit2.lt.2), hmr2.keep (two hbm2), (hfr2.alloc _).alloc _, HTK.out (by unfold worse; dsimp only; (try simp only [beq_iff_eq]  at *); omega)⟩
                | exact ⟨left.eraseIdx j, o, by rw [List.length_eraseIdx_of_lt hjl], rfl, hit2.keep (two hbm2) (two hit2.lt.2), hmr2.keep (two hbm2), (hfr2.alloc _).alloc _, HSK.out (by (try simp only [beq_eq_false_iff_ne, ne_eq] at *); omega) (by unfold worse; dsimp only; (try simp only [beq_eq_false_iff_ne, ne_eq] at *); omega)⟩)
end Go.Proofs.Ytnghfmefjjkgdaa

