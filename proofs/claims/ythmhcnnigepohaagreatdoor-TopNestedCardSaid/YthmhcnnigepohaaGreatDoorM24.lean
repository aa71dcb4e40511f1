/- inflate.match. -/
import Derived.Test.YthmhcnnigepohaaGreatDoorM09
import Derived.Test.YthmhcnnigepohaaGreatDoorM22
import Derived.Test.YthmhcnnigepohaaGreatDoorM13
import Derived.Test.YthmhcnnigepohaaGreatDoorM23
import Derived.Sort.CutIn
import Derived.Stop.RegionWithIn
namespace Go.Proofs.YthmhcnnigepohaaGreatDoor.En
open Go.RowKit Go.Shelf
attribute [local go_sem] Oper.semAt_some
set_option linter.unusedVariables false

/-- A copy that serves at a place: none, or n bytes from far back. -/
def MOk (B : List UInt8) (at_ n far : Nat) : Prop := (n = 0 ∧ far = 0) ∨ (3 ≤ n ∧ n ≤ 258 ∧ at_ + n ≤ B.length ∧ 1 ≤ far ∧ far ≤ 32768 ∧ far ≤ at_ ∧ ∀ j, j < n → B.getD (at_ - far + j) 0 = B.getD (at_ + j) 0)
/-- A place with the same three bytes. -/
def Same3 (B : List UInt8) (at_ from_ : Nat) : Prop := from_ < at_ ∧ ∀ j, j < 3 → B.getD (from_ + j) 0 = B.getD (at_ + j) 0
def MPost (B : List UInt8) (at_ : Nat) (w : World) (e : Ending) (w' : World) : Prop := ∃ n far : Nat, e = .returned (.tuple #[.int .i64 n, .int .i64 far]) ∧ MOk B at_ n far ∧ Below w.heap.size w w'
/-- Between two rounds: the boxes. -/
structure MI (s : ByteArray) (at_ m : Nat) (w W : World) (n far : Nat) : Prop where
  ok : MOk s.data.toList at_ n far
  c0 : Boxed W w.heap.size 9 (.string s)
  c1 : Boxed W (w.heap.size + 1) 3 (.int .i64 at_)
  c2 : Boxed W (w.heap.size + 1 + 1) 3 (.int .i64 n)
  c3 : Boxed W (w.heap.size + 1 + 1 + 1) 3 (.int .i64 far)
  c4 : Boxed W (w.heap.size + 1 + 1 + 1 + 1) 3 (.int .i64 m)
  bl : Below w.heap.size w W
def MIx (s : ByteArray) (at_ m : Nat) (w W : World) : Prop := ∃ n far, MI s at_ m w W n far
theorem Boxed.keptO {W W' : World} {row : Option Nat} {B : Nat} {t : TypeId} {v : Value} (h : Boxed W B t v) (hg : W.grownBy W' row) (hr : ∀ r, row = some r → ∃ o : Obj, W.heap[r]? = some o ∧ o.isCells = false) : Boxed W' B t v :=
  h.kept hg (fun e => by
    obtain ⟨o, ho, hc⟩ := hr B e.symm
    rw [show W.heap[B]? = _ from h] at ho; cases ho; cases hc)
theorem MI.own {s : ByteArray} {at_ m n far : Nat} {w W W' : World} {row : Option Nat} {B : Nat} (h : MI s at_ m w W n far) (hB : w.heap.size ≤ B) (hg : W.grownBy W' row) (hr : ∀ r, row = some r → B ≤ r ∧ ∃ o : Obj, W.heap[r]? = some o ∧ o.isCells = false) : MI s at_ m w W' n far := by
  have hr' := fun r e => (hr r e).2
  exact ⟨h.ok, Boxed.keptO h.c0 hg hr', Boxed.keptO h.c1 hg hr', Boxed.keptO h.c2 hg hr', Boxed.keptO h.c3 hg hr', Boxed.keptO h.c4 hg hr', h.bl.grown hg h.bl.size (fun k e => Nat.le_trans hB (hr k e).1)⟩
theorem MI.drewN {s : ByteArray} {at_ m n far : Nat} {w W : World} (h : MI s at_ m w W n far) (q : Nat) : MI s at_ m w (W.drewN q) n far :=
  ⟨h.ok, h.c0, h.c1, h.c2, h.c3, h.c4, ⟨h.bl.os, h.bl.tape, h.bl.output, h.bl.size, h.bl.block⟩⟩

theorem drewN_drewN (W : World) (a b : Nat) : (W.drewN a).drewN b = W.drewN (a + b) := by simp [World.drewN, Nat.add_assoc]
theorem ko_drewN (W : World) (q : Nat) : KeepsOthers W (W.drewN q) := ⟨Nat.le_refl _, fun _ _ h _ => h⟩
theorem BKp.drewN (n₀ Bs : Nat) (W : World) (q : Nat) : BKp n₀ Bs W (W.drewN q) := ⟨⟨rfl, rfl, rfl, Nat.le_refl _, fun _ _ => rfl⟩, rfl⟩
theorem MI.better {s : ByteArray} {at_ m n far k fr : Nat} {w W : World} (h : MI s at_ m w W n far) (h1 : fr < at_) (h2 : at_ - fr ≤ 32768) (h3 : 3 ≤ k) (h4 : k ≤ m) (h5 : m ≤ 258) (h6 : at_ + m ≤ s.size) (hm : ∀ j, j < k → s.data.toList.getD (fr + j) 0 = s.data.toList.getD (at_ + j) 0) :
    MI s at_ m w ((W.setCell ⟨w.heap.size + 1 + 1, 0, none⟩ (.int .i64 (k : Int))).setCell ⟨w.heap.size + 1 + 1 + 1, 0, none⟩ (.int .i64 ((at_ : Int) - (fr : Int)))) k (at_ - fr) := by
  have hb : ∀ (B b : Nat) (t : TypeId) (v u : Value) (X : World), B ≠ b → Boxed X B t v → Boxed (X.setCell ⟨b, 0, none⟩ u) B t v := fun B b t v u X e hx => (heap_set_other (by simpa using e)).trans hx
  refine ⟨.inr ⟨h3, by omega, by simp; have : s.data.size = s.size := rfl; omega, by omega, h2, by omega, fun j hj => by rw [show at_ - (at_ - fr) = fr by omega]; exact hm j hj⟩, ?_, ?_, ?_, ?_, ?_, ?_⟩
  · exact hb _ _ _ _ _ _ (by omega) (hb _ _ _ _ _ _ (by omega) h.c0)
  · exact hb _ _ _ _ _ _ (by omega) (hb _ _ _ _ _ _ (by omega) h.c1)
  · exact hb _ _ _ _ _ _ (by omega) (h.c2.set _)
  · rw [show ((at_ - fr : Nat) : Int) = (at_ : Int) - (fr : Int) by omega]
    exact Boxed.set _ (hb _ _ _ _ _ _ (by omega) h.c3)
  · exact hb _ _ _ _ _ _ (by omega) (hb _ _ _ _ _ _ (by omega) h.c4)
  · exact (h.bl.setCell (p := ⟨w.heap.size + 1 + 1, 0, none⟩) (by simp; omega) _).setCell (p := ⟨w.heap.size + 1 + 1 + 1, 0, none⟩) (by simp; omega) _

/-- The function's end. -/
theorem mout_D {s : ByteArray} {at_ m n far D : Nat} {w W : World} (hK : W.heap[D]? = some (.deferred (some []))) (h : MI s at_ m w W n far) :
    (((W.setCell ⟨w.heap.size + 1 + 1, 0, none⟩ (.int .i64 (n : Int))).setCell ⟨w.heap.size + 1 + 1 + 1, 0, none⟩ (.int .i64 (far : Int))).drew).heap[D]? = some (.deferred (some [])) :=
  (KeepsOthers.setCell _ _ _).same D _ ((KeepsOthers.setCell _ _ _).same D _ hK rfl) rfl
theorem mout {s : ByteArray} {at_ m n far D : Nat} {w W : World} (h : MI s at_ m w W n far) (hK : W.heap[D]? = some (.deferred (some []))) (hD : w.heap.size ≤ D) :
    ((((W.setCell ⟨w.heap.size + 1 + 1, 0, none⟩ (.int .i64 (n : Int))).setCell ⟨w.heap.size + 1 + 1 + 1, 0, none⟩ (.int .i64 (far : Int))).drew).putObj D (.deferred none)).cell? ⟨w.heap.size + 1 + 1, 0, none⟩ = some (.int .i64 n) ∧
    ((((W.setCell ⟨w.heap.size + 1 + 1, 0, none⟩ (.int .i64 (n : Int))).setCell ⟨w.heap.size + 1 + 1 + 1, 0, none⟩ (.int .i64 (far : Int))).drew).putObj D (.deferred none)).cell? ⟨w.heap.size + 1 + 1 + 1, 0, none⟩ = some (.int .i64 far) ∧
    Below w.heap.size w ((((W.setCell ⟨w.heap.size + 1 + 1, 0, none⟩ (.int .i64 (n : Int))).setCell ⟨w.heap.size + 1 + 1 + 1, 0, none⟩ (.int .i64 (far : Int))).drew).putObj D (.deferred none)) := by
  have hKX := mout_D hK h
  have h2 : Boxed ((W.setCell ⟨w.heap.size + 1 + 1, 0, none⟩ (.int .i64 (n : Int))).setCell ⟨w.heap.size + 1 + 1 + 1, 0, none⟩ (.int .i64 (far : Int))).drew (w.heap.size + 1 + 1) 3 (.int .i64 n) := (heap_set_other (by simp)).trans (h.c2.set _)
  have h3 : Boxed ((W.setCell ⟨w.heap.size + 1 + 1, 0, none⟩ (.int .i64 (n : Int))).setCell ⟨w.heap.size + 1 + 1 + 1, 0, none⟩ (.int .i64 (far : Int))).drew (w.heap.size + 1 + 1 + 1) 3 (.int .i64 far) := Boxed.set _ ((heap_set_other (by simp)).trans h.c3)
  have hb : Below w.heap.size w ((W.setCell ⟨w.heap.size + 1 + 1, 0, none⟩ (.int .i64 (n : Int))).setCell ⟨w.heap.size + 1 + 1 + 1, 0, none⟩ (.int .i64 (far : Int))).drew := ((h.bl.setCell (p := ⟨w.heap.size + 1 + 1, 0, none⟩) (by simp; omega) _).setCell (p := ⟨w.heap.size + 1 + 1 + 1, 0, none⟩) (by simp; omega) _).drew
  have hr : ∀ r, some D = some r → ∃ o : Obj, (((W.setCell ⟨w.heap.size + 1 + 1, 0, none⟩ (.int .i64 (n : Int))).setCell ⟨w.heap.size + 1 + 1 + 1, 0, none⟩ (.int .i64 (far : Int))).drew).heap[r]? = some o ∧ o.isCells = false := fun r e => by cases e; exact ⟨_, hKX, rfl⟩
  exact ⟨cell_kept h2.cell (grownBy_putObj' _ D (.deferred none)) hr, cell_kept h3.cell (grownBy_putObj' _ D (.deferred none)) hr, hb.trans (belowK_b (w := w) (Nat.le_refl _) _ D _ _ hD hKX rfl rfl)⟩

set_option maxRecDepth 100000 in
set_option maxHeartbeats 4000000 in
theorem match52_in (s : ByteArray) (at_ : Nat) (a : Option Addr) (len cap : Nat) (L : List Nat) (w : World) (hs : s.size ≤ 100000) (hat : at_ + 3 ≤ s.size) (hL : L.length ≤ 1000000) (hI : BkL w.heap.size w (.slice a len cap) L) (hP : ∀ i, i < L.length → Same3 s.data.toList at_ (L.getD i 0)) :
    CallsIn Fence.wide 3 Tryz.prog 52 #[.string s, .int .i64 at_, .slice a len cap] w (MPost s.data.toList at_ w) := by
  obtain ⟨m, hm⟩ : ∃ m, m = min 258 (s.size - at_) := ⟨_, rfl⟩
  have HM : RowKit.Hid (m = min 258 (s.size - at_)) := hm
  have hmx : Tryz.prog.follows .mixedOrders = true := by kernel_rfl
  refine callsIn_of_wp_marks Tryz.func52 rfl trivial ?_ rfl
  simp only [Tryz.ntmps52, List.size_toArray, List.length_cons, List.length_nil, Nat.reduceAdd, Nat.reduceSub, Array.replicate_succ, Array.replicate_zero, List.push_toArray, List.append_toArray, List.nil_append, List.cons_append]
  have zm : min 258 ((s.size : Int) - (at_ : Int)) = (m : Int) := by omega
  have hmb : 3 ≤ m ∧ m ≤ 258 ∧ at_ + m ≤ s.size := by omega
  clear hm
  obtain ⟨N, hN⟩ : ∃ N, N = w.heap.size := ⟨_, rfl⟩
  gi_wp2_with fail
  refine ⟨trivial, ?_⟩
  refine (back68_in Fence.wide 2 trivial rfl _ _ _ _).mono ?_
  rintro e w' ⟨rfl, rfl⟩
  gi_wp2_with fail
  obtain ⟨w0, hw0⟩ : ∃ x, x = (((((w.alloc (.cells #[.string s] 9)).alloc (.cells #[.int .i64 at_] 3)).alloc (.cells #[.int .i64 0] 3)).alloc (.cells #[.int .i64 0] 3)).alloc (.cells #[.int .i64 (m : Int)] 3)).alloc (.cells #[.slice a len cap] 77) := ⟨_, rfl⟩
  rw [← hw0]
  have hs0 : w0.heap.size = w.heap.size + 1 + 1 + 1 + 1 + 1 + 1 := by rw [hw0]; simp
  have hbx : ∀ (i : Nat) (v : Value) (t : TypeId), i < 6 → [(.string s, 9), (.int .i64 (at_ : Int), 3), (.int .i64 0, 3), (.int .i64 0, 3), (.int .i64 (m : Int), 3), (.slice a len cap, 77)][i]? = some (v, t) → Boxed w0 (w.heap.size + i) t v := by
    intro i v t hi hv
    have := If.bw_get [(.string s, 9), (.int .i64 (at_ : Int), 3), (.int .i64 0, 3), (.int .i64 0, 3), (.int .i64 (m : Int), 3), (.slice a len cap, 77)] w i v t hv
    rw [hw0]; exact this
  have hbl0 : Below w.heap.size w w0 := by
    rw [hw0]; exact (If.bw_fr [(.string s, 9), (.int .i64 (at_ : Int), 3), (.int .i64 0, 3), (.int .i64 0, 3), (.int .i64 (m : Int), 3), (.slice a len cap, 77)] w).below
  have hI0 : BkL w.heap.size w0 (.slice a len cap) L := by
    obtain ⟨a', cap', e, h2⟩ := hI
    refine ⟨a', cap', e, fun h => ?_⟩
    obtain ⟨b, off, e1, e2, e3⟩ := h2 h
    exact ⟨b, off, e1, e2, fun j hj => (hbl0.cell (p := ⟨b, off + j, none⟩) e2).trans (e3 j hj)⟩
  have hMI0 : MIx s at_ m w w0 := ⟨0, 0, .inl ⟨rfl, rfl⟩, hbx 0 _ _ (by omega) rfl, hbx 1 _ _ (by omega) rfl, hbx 2 _ _ (by omega) rfl, hbx 3 _ _ (by omega) rfl, hbx 4 _ _ (by omega) rfl, hbl0⟩
  refine wpIn_rangeFunc_ownF (α := Bk (Same3 s.data.toList at_)) rfl (by omega) (gf := 76) (lb := #[.pointer (some ⟨w.heap.size + 1 + 1 + 1 + 1 + 1, 0, none⟩)]) rfl trivial (enters_of Tryz.func76 (by kernel_rfl) rfl)
    (back_stops Fence.wide 2 trivial rfl (by omega) (Same3 s.data.toList at_) (w.heap.size + 1 + 1 + 1 + 1 + 1) w.heap.size (.slice a len cap) L hP hL w0 (by omega) (by omega) (hbx 5 _ _ (by omega) rfl).cell hI0)
    (fun h k => h.trans k) (fun W l o o' hl ho hc hw => ⟨belowK_b (w := w0) (by omega) W l o o' hl ho hc hw, World.putObj_heap_other (by omega)⟩) (Below.refl _ _) (fun _ => rfl)
    (fun _ W => MIx s at_ m w W) (fun c _ W => c = .exit 0 ∧ MIx s at_ m w W)
    (fun _ A B row hs hg hr => by obtain ⟨n, far, h⟩ := hs; exact ⟨n, far, h.own (by omega) hg hr⟩)
    (fun c _ A B row hs hg hr => by obtain ⟨hc, n, far, h⟩ := hs; exact ⟨hc, n, far, h.own (by omega) hg hr⟩)
    hMI0
    (fun x => { tmps := #[.string s, .int .i64 (at_ : Int), .slice a len cap, .pointer (some ⟨w.heap.size, 0, none⟩), .pointer (some ⟨w.heap.size + 1, 0, none⟩), undef, .pointer (some ⟨w.heap.size + 1 + 1, 0, none⟩), .pointer (some ⟨w.heap.size + 1 + 1 + 1, 0, none⟩), .pointer (some ⟨w.heap.size + 1 + 1 + 1 + 1, 0, none⟩), undef, .int .i64 (x.1.2 : Int), undef, .string s, .int .i64 (s.size : Int), .int .i64 (at_ : Int), .int .i64 ((s.size : Int) - (at_ : Int)), .int .i64 (m : Int), .slice a len cap, .func (.func 76) #[] #[.pointer (some ⟨w.heap.size + 1 + 1 + 1 + 1 + 1, 0, none⟩)], .int .i64 (x.1.1 : Int), .int .i64 (x.1.2 : Int), undef, undef, undef, undef, undef, undef, undef, undef, undef, undef, undef, undef, undef, undef, undef, undef, undef, undef, undef, undef, undef, undef, undef, undef, undef, undef, undef, undef, undef, undef, undef, undef, undef, undef, undef, undef], defers := [] }) ?assign ?body ?done ?stop
  case assign =>
    intro l x W K hK
    simp only [bkE]
    gi_wp2
    exact hK
  case body =>
    rintro l pre x W ⟨n, far, h⟩ _
    generalize pre ++ [x] = ys
    obtain ⟨⟨x0, fr⟩, hx⟩ := x
    simp only at hx ⊢
    obtain ⟨hfa, h3⟩ := hx
    have HMI := hide h
    have k0 := h.c0.cell
    have k1 := h.c1.cell
    have k2 := h.c2.cell
    have k3 := h.c3.cell
    have k4 := h.c4.cell
    have kf2 := h.c2.frozen
    have kf3 := h.c3.frozen
    have H3 := hide h3
    have zf : IntKind.i64.wrap ((at_ : Int) - (fr : Int)) = (at_ : Int) - (fr : Int) := IntWalk.i64_in _ (by omega)
    clear h h3
    by_cases hd : 32768 < at_ - fr
    · have d1 : decide ((32768 : Int) < (at_ : Int) - (fr : Int)) = true := by simp; omega
      gi_wp2_with fail
      exact ⟨KeepsOthers.refl _, rfl, n, far, HMI.out⟩
    · by_cases hnm : n = m
      · have d1 : decide ((32768 : Int) < (at_ : Int) - (fr : Int)) = false := by simp; omega
        have d2 : ((n : Int) == (m : Int)) = true := by simp; omega
        clear hnm
        gi_wp2_with fail
        exact ⟨KeepsOthers.refl _, rfl, n, far, HMI.out⟩
      · have d1 : decide ((32768 : Int) < (at_ : Int) - (fr : Int)) = false := by simp; omega
        have d2 : ((n : Int) == (m : Int)) = false := by simp; omega
        clear hnm
        gi_wp2_with fail
        gi_loopw [11] (fun i wr => ∃ k q : Nat, k ≤ m ∧ i = .int .i64 k ∧ (∀ j, j < k → s.data.toList.getD (fr + j) 0 = s.data.toList.getD (at_ + j) 0) ∧ wr = W.drewN q) (fun i _ => m - (intOf i).toNat)
        case atStart => exact ⟨0, 0, by omega, rfl, fun j hj => by omega, rfl⟩
        case round =>
          obtain ⟨k, q, hk, rfl, hmt, rfl⟩ := hrel
          have HMT := hide hmt
          clear hmt
          have l0 : (W.drewN q).cell? ⟨w.heap.size, 0, none⟩ = some (.string s) := k0
          have l1 : (W.drewN q).cell? ⟨w.heap.size + 1, 0, none⟩ = some (.int .i64 at_) := k1
          have l2 : (W.drewN q).cell? ⟨w.heap.size + 1 + 1, 0, none⟩ = some (.int .i64 n) := k2
          have l3 : (W.drewN q).cell? ⟨w.heap.size + 1 + 1 + 1, 0, none⟩ = some (.int .i64 far) := k3
          have l4 : (W.drewN q).cell? ⟨w.heap.size + 1 + 1 + 1 + 1, 0, none⟩ = some (.int .i64 m) := k4
          have lf2 : (W.drewN q).frozen? ⟨w.heap.size + 1 + 1, 0, none⟩ = false := kf2
          have lf3 : (W.drewN q).frozen? ⟨w.heap.size + 1 + 1 + 1, 0, none⟩ = false := kf3
          generalize hwq : W.drewN q = V at *
          have HWQ := hide hwq
          clear hwq k0 k1 k2 k3 k4 kf2 kf3
          by_cases hlt : k < m
          · have e1 : decide ((k : Int) < (m : Int)) = true := by simp; omega
            have za : IntKind.i64.wrap ((fr : Int) + (k : Int)) = (fr : Int) + (k : Int) := IntWalk.i64_in _ (by omega)
            have zb : IntKind.i64.wrap ((at_ : Int) + (k : Int)) = (at_ : Int) + (k : Int) := IntWalk.i64_in _ (by omega)
            have b1 : (fr : Int) + (k : Int) < (s.size : Int) := by omega
            have b2 : (at_ : Int) + (k : Int) < (s.size : Int) := by omega
            have b3 : (0 : Int) ≤ (fr : Int) + (k : Int) := by omega
            have b4 : (0 : Int) ≤ (at_ : Int) + (k : Int) := by omega
            have z3 : ((fr : Int) + (k : Int)).toNat = fr + k := by omega
            have z4 : ((at_ : Int) + (k : Int)).toNat = at_ + k := by omega
            have b5 : fr + k < s.size := by omega
            have b6 : at_ + k < s.size := by omega
            by_cases hq : s[fr + k] = s[at_ + k]
            · have e2 : (((s[fr + k]).toNat : Int) == ((s[at_ + k]).toNat : Int)) = true := by rw [hq]; simp
              have HQQ : Hid (s.data.toList.getD (fr + k) 0 = s.data.toList.getD (at_ + k) 0) := by
                refine hide ?_
                have x1 : s.data.toList.getD (fr + k) 0 = s[fr + k] := by simp [List.getD, b5, ByteArray.getElem_eq_getElem_data]
                have x2 : s.data.toList.getD (at_ + k) 0 = s[at_ + k] := by simp [List.getD, b6, ByteArray.getElem_eq_getElem_data]
                rw [x1, x2, hq]
              clear hq
              gi_upto_region 6 with (fail)
              refine wpIn_region_quiet_r (by kernel_rfl) (by kernel_rfl) (by kernel_rfl) ?_
              repeat (gi_big_quiet_step (fail))
              refine wpQuietIn_nil ?_
              intro _ hw'
              obtain ⟨nq, hw''⟩ := hw'
              subst hw''
              gi_wp2_with fail
              go_roundw
              case measure => simp [intOf]; omega
              case rel =>
                refine ⟨k + 1, q + nq, by omega, by go_num, fun j hj => ?_, ?_⟩
                · by_cases hjk : j = k
                  · rw [hjk]; exact HQQ.out
                  · exact HMT.out j (by omega)
                · rw [← HWQ.out, drewN_drewN]
            · have e2 : (((s[fr + k]).toNat : Int) == ((s[at_ + k]).toNat : Int)) = false := by
                rw [beq_eq_false_iff_ne]
                intro h
                exact hq (UInt8.toNat_inj.1 (by omega))
              have HQQ : Hid (¬ s.data.toList.getD (fr + k) 0 = s.data.toList.getD (at_ + k) 0) := by
                refine hide ?_
                have x1 : s.data.toList.getD (fr + k) 0 = s[fr + k] := by simp [List.getD, b5, ByteArray.getElem_eq_getElem_data]
                have x2 : s.data.toList.getD (at_ + k) 0 = s[at_ + k] := by simp [List.getD, b6, ByteArray.getElem_eq_getElem_data]
                rw [x1, x2]; exact hq
              have hk3 : 3 ≤ k := by
                refine Nat.le_of_not_lt fun h => ?_
                exact HQQ.out (H3.out k h)
              have HEND : Hid (∀ j, KeepsOthers W (((V.drewN j).setCell ⟨w.heap.size + 1 + 1, 0, none⟩ (.int .i64 (k : Int))).setCell ⟨w.heap.size + 1 + 1 + 1, 0, none⟩ (.int .i64 ((at_ : Int) - (fr : Int)))) ∧ BKp w.heap.size (w.heap.size + 1 + 1 + 1 + 1 + 1) W (((V.drewN j).setCell ⟨w.heap.size + 1 + 1, 0, none⟩ (.int .i64 (k : Int))).setCell ⟨w.heap.size + 1 + 1 + 1, 0, none⟩ (.int .i64 ((at_ : Int) - (fr : Int)))) ∧ MIx s at_ m w (((V.drewN j).setCell ⟨w.heap.size + 1 + 1, 0, none⟩ (.int .i64 (k : Int))).setCell ⟨w.heap.size + 1 + 1 + 1, 0, none⟩ (.int .i64 ((at_ : Int) - (fr : Int))))) := by
                refine hide fun j => ?_
                rw [← HWQ.out, drewN_drewN]
                exact ⟨((ko_drewN W _).trans (KeepsOthers.setCell _ _ _)).trans (KeepsOthers.setCell _ _ _), ⟨((BKp.drewN w.heap.size 0 W _).1.setCell (p := ⟨w.heap.size + 1 + 1, 0, none⟩) (by simp; omega) _).setCell (p := ⟨w.heap.size + 1 + 1 + 1, 0, none⟩) (by simp; omega) _, (heap_set_other (by simp; omega)).trans (heap_set_other (by simp; omega))⟩, k, at_ - fr, (HMI.out.drewN _).better hfa (by omega) hk3 hk (by omega) (by omega) HMT.out⟩
              clear hq
              by_cases hkn : n < k
              · have e3 : decide ((n : Int) < (k : Int)) = true := by simp; omega
                gi_upto_region 6 with (fail)
                refine wpIn_region_quiet_r (by kernel_rfl) (by kernel_rfl) (by kernel_rfl) ?_
                repeat (gi_big_quiet_step (fail))
                refine wpQuietIn_nil ?_
                intro _ hw'
                obtain ⟨nq, hw''⟩ := hw'
                subst hw''
                gi_wp2_with fail
                gi_region_with_o (fail)
                all_goals gi_wp2
                all_goals exact HEND.out _
              · have e3 : decide ((n : Int) < (k : Int)) = false := by simp; omega
                gi_upto_region 6 with (fail)
                refine wpIn_region_quiet_r (by kernel_rfl) (by kernel_rfl) (by kernel_rfl) ?_
                repeat (gi_big_quiet_step (fail))
                refine wpQuietIn_nil ?_
                intro _ hw'
                obtain ⟨nq, hw''⟩ := hw'
                subst hw''
                gi_wp2_with fail
                rw [← HWQ.out, drewN_drewN]
                exact ⟨⟨Nat.le_refl _, fun _ _ h _ => h⟩, BKp.drewN _ _ _ _, n, far, HMI.out.drewN _⟩
          · have e1 : decide ((k : Int) < (m : Int)) = false := by simp; omega
            have hk3 : 3 ≤ k := by omega
            have HEND : Hid (∀ j, KeepsOthers W (((V.drewN j).setCell ⟨w.heap.size + 1 + 1, 0, none⟩ (.int .i64 (k : Int))).setCell ⟨w.heap.size + 1 + 1 + 1, 0, none⟩ (.int .i64 ((at_ : Int) - (fr : Int)))) ∧ BKp w.heap.size (w.heap.size + 1 + 1 + 1 + 1 + 1) W (((V.drewN j).setCell ⟨w.heap.size + 1 + 1, 0, none⟩ (.int .i64 (k : Int))).setCell ⟨w.heap.size + 1 + 1 + 1, 0, none⟩ (.int .i64 ((at_ : Int) - (fr : Int)))) ∧ MIx s at_ m w (((V.drewN j).setCell ⟨w.heap.size + 1 + 1, 0, none⟩ (.int .i64 (k : Int))).setCell ⟨w.heap.size + 1 + 1 + 1, 0, none⟩ (.int .i64 ((at_ : Int) - (fr : Int))))) := by
              refine hide fun j => ?_
              rw [← HWQ.out, drewN_drewN]
              exact ⟨((ko_drewN W _).trans (KeepsOthers.setCell _ _ _)).trans (KeepsOthers.setCell _ _ _), ⟨((BKp.drewN w.heap.size 0 W _).1.setCell (p := ⟨w.heap.size + 1 + 1, 0, none⟩) (by simp; omega) _).setCell (p := ⟨w.heap.size + 1 + 1 + 1, 0, none⟩) (by simp; omega) _, (heap_set_other (by simp; omega)).trans (heap_set_other (by simp; omega))⟩, k, at_ - fr, (HMI.out.drewN _).better hfa (by omega) hk3 hk (by omega) (by omega) HMT.out⟩
            by_cases hkn : n < k
            · have e3 : decide ((n : Int) < (k : Int)) = true := by simp; omega
              gi_upto_region 6 with (fail)
              refine wpIn_region_quiet_r (by kernel_rfl) (by kernel_rfl) (by kernel_rfl) ?_
              repeat (gi_big_quiet_step (fail))
              refine wpQuietIn_nil ?_
              intro _ hw'
              obtain ⟨nq, hw''⟩ := hw'
              subst hw''
              gi_wp2_with fail
              gi_region_with_o (fail)
              all_goals gi_wp2
              all_goals exact HEND.out _
            · have e3 : decide ((n : Int) < (k : Int)) = false := by simp; omega
              gi_upto_region 6 with (fail)
              refine wpIn_region_quiet_r (by kernel_rfl) (by kernel_rfl) (by kernel_rfl) ?_
              repeat (gi_big_quiet_step (fail))
              refine wpQuietIn_nil ?_
              intro _ hw'
              obtain ⟨nq, hw''⟩ := hw'
              subst hw''
              gi_wp2_with fail
              rw [← HWQ.out, drewN_drewN]
              exact ⟨⟨Nat.le_refl _, fun _ _ h _ => h⟩, BKp.drewN _ _ _ _, n, far, HMI.out.drewN _⟩
  case done =>
    rintro D ys W hD _ ⟨n, far, h⟩ hK
    have HMI := hide h
    have k2 := h.c2.cell
    have k3 := h.c3.cell
    have kf2 := h.c2.frozen
    have kf3 := h.c3.frozen
    have HK := hide hK
    clear h hK
    gi_wp2
    gi_region_with_o (fail)
    all_goals gi_wp2
    all_goals
      refine ⟨by simp, .inl ⟨_, _, rfl, run_takeDeferred (mout_D HK.out HMI.out), ?_⟩⟩
      obtain ⟨r1, r2, r3⟩ := mout HMI.out HK.out (by omega)
      refine ⟨.tuple #[.int .i64 n, .int .i64 far], ?_, n, far, rfl, HMI.out.ok, r3⟩
      simp [results, Tryz.f52, go_sem, r1, r2]
  case stop =>
    rintro D c pre W hD _ ⟨rfl, n, far, h⟩ hK
    have HMI := hide h
    have k2 := h.c2.cell
    have k3 := h.c3.cell
    have kf2 := h.c2.frozen
    have kf3 := h.c3.frozen
    have HK := hide hK
    clear h hK
    gi_wp2
    gi_region_with_o (fail)
    all_goals gi_wp2
    all_goals
      refine ⟨by simp, .inl ⟨_, _, rfl, run_takeDeferred (mout_D HK.out HMI.out), ?_⟩⟩
      obtain ⟨r1, r2, r3⟩ := mout HMI.out HK.out (by omega)
      refine ⟨.tuple #[.int .i64 n, .int .i64 far], ?_, n, far, rfl, HMI.out.ok, r3⟩
      simp [results, Tryz.f52, go_sem, r1, r2]
theorem below_fr {w w' : World} (h : Below w.heap.size w w') : Fr [] w w' := ⟨h.os, h.tape, h.output, h.size, fun k hk _ => h.block k hk⟩
def MPost2 (B : List UInt8) (at_ : Nat) (w : World) (e : Ending) (w' : World) : Prop := ∃ n far : Nat, e = .returned (.tuple #[.int .i64 n, .int .i64 far]) ∧ MOk B at_ n far ∧ Fr [] w w'
theorem match52_any (s : ByteArray) (at_ : Nat) (a : Option Addr) (len cap : Nat) (L : List Nat) (w : World) (hs : s.size ≤ 100000) (hat : at_ + 3 ≤ s.size) (hL : L.length ≤ 1000000) (hI : BkL w.heap.size w (.slice a len cap) L) (hP : ∀ i, i < L.length → Same3 s.data.toList at_ (L.getD i 0)) :
    Calls Tryz.prog 52 #[.string s, .int .i64 at_, .slice a len cap] w (MPost2 s.data.toList at_ w) :=
  (callsIn_wide.1 (match52_in s at_ a len cap L w hs hat hL hI hP)).mono fun _ _ ⟨n, far, h1, h2, h3⟩ => ⟨n, far, h1, h2, below_fr h3⟩
end Go.Proofs.YthmhcnnigepohaaGreatDoor.En
