/- The reference's pool of layer 54: a list of accounts in a slice. -/
import Derived.Test.YtnghfmefjjkgdaaAwake
import Derived.Test.YtnghfmefjjkgdaaSl
import Derived.Deep.LoopGhost
import Derived.Deep.DeepCutAuto
import Derived.Deep.QuietTactic
import Derived.BigQuiet
import Derived.Deep.RegionWith
namespace Go.Proofs.Ytnghfmefjjkgdaa
open Go.RowKit

def encA (x : Int × (Int × Int)) : List Value := [.int .i64 x.1, .int .i64 x.2.1, .int .i64 x.2.2]
def flatA (L : AM) : List Value := L.flatMap encA
theorem encA_len (x : Int × (Int × Int)) : (encA x).length = 3 := rfl
theorem flatA_at (L : AM) : ∀ (k j : Nat) (x : Int × (Int × Int)), L[k]? = some x → j < 3 → (flatA L)[k * 3 + j]? = (encA x)[j]? := by
  induction L with
  | nil => intro k j r h; simp at h
  | cons a L ih =>
    intro k j r h hj
    simp only [flatA, List.flatMap_cons]
    cases k with
    | zero =>
      simp at h
      subst h
      rw [List.getElem?_append_left (by rw [encA_len]; omega)]
      simp
    | succ k =>
      simp at h
      rw [List.getElem?_append_right (by rw [encA_len]; omega), encA_len]
      have := ih k j r h hj
      rw [← this]
      congr 1
      omega
theorem flatA_snoc (L : AM) (x : Int × (Int × Int)) : flatA (L ++ [x]) = flatA L ++ encA x := by simp [flatA]

theorem elem88 : ElemOk Try.prog 82 88 3 24 := ⟨Try.underlying82, by
  have h : (Try.prog.info? 88).map (fun i => (i.zero.map (fun z => z.cells.size), i.size, i.bytes)) = some (some 3, 3, 24) := by kernel_rfl
  cases hq : Try.prog.info? 88 with
  | none => rw [hq] at h; cases h
  | some i =>
    rw [hq] at h
    simp only [Option.map_some, Option.some.injEq, Prod.mk.injEq] at h
    obtain ⟨h1, h2, h3⟩ := h
    cases hz : i.zero with
    | none => rw [hz] at h1; cases h1
    | some z =>
      rw [hz] at h1
      simp only [Option.map_some, Option.some.injEq] at h1
      exact ⟨i, z, rfl, hz, h2, h3, h1⟩, by decide⟩

theorem SlAt.acc {w : World} {v : Value} {g : Option Nat} {L : AM} (h : SlAt 88 3 w v g L.length (flatA L)) {k : Nat} {x : Int × (Int × Int)} (hx : L[k]? = some x) :
    ∃ b off cap, g = some b ∧ v = .slice (some ⟨b, off, none⟩) L.length cap ∧ w.cell? ⟨b, off + k * 3, none⟩ = some (.int .i64 x.1) ∧ w.cell? ⟨b, off + k * 3 + 1, none⟩ = some (.int .i64 x.2.1) ∧ w.cell? ⟨b, off + k * 3 + 2, none⟩ = some (.int .i64 x.2.2) ∧ b < w.heap.size := by
  have hk : k < L.length := (List.getElem?_eq_some_iff.1 hx).1
  rcases h with ⟨_, _, h0, _⟩ | ⟨b, off, cap, cur, hg, hv, hbl, hnc, hfit, hfl, hcs⟩
  · omega
  · have hc : ∀ j, j < 3 → w.cell? ⟨b, off + k * 3 + j, none⟩ = (encA x)[j]? := by
      intro j hj
      have h1 := flatA_at L k j x hx hj
      have hl : j < (encA x).length := by rw [encA_len]; exact hj
      rw [cell_blk hbl, show off + k * 3 + j = off + (k * 3 + j) by omega, List.getElem?_eq_getElem hl]
      exact hcs _ _ (h1.trans (List.getElem?_eq_getElem hl))
    exact ⟨b, off, cap, hg, hv, hc 0 (by omega), hc 1 (by omega), hc 2 (by omega), lt_of_blk hbl⟩

structure RPoolIs (w : World) (rp : Nat) (v : Value) (g : Option Nat) (p : Pl) : Prop where
  blk : w.heap[rp]? = some (.cells #[.int .i64 p.total, .int .i64 p.peak, .int .i64 p.left, v, .bool (p.off 0), .bool (p.off 1), .bool (p.off 2), .bool (p.off 3), .bool (p.off 4), .bool (p.off 5), .bool (p.off 6)] 84 (0, 0))
  sl : SlAt 88 3 w v g p.M.length (flatA p.M)

theorem RPoolIs.ne {w : World} {rp : Nat} {v : Value} {g : Option Nat} {p : Pl} (h : RPoolIs w rp v g p) : ∀ b, g = some b → b ≠ rp := by
  rintro b hb rfl
  obtain ⟨cur, hc⟩ := h.sl.lt _ hb
  rw [h.blk] at hc
  cases hc
theorem RPoolIs.fr {w w' : World} {S : List Nat} {rp : Nat} {v : Value} {g : Option Nat} {p : Pl} (h : RPoolIs w rp v g p) (hf : Fr S w w') (hr : rp ∉ S) (hg : ∀ b, g = some b → b ∉ S) : RPoolIs w' rp v g p :=
  ⟨(hf.block _ (lt_of_blk h.blk) hr).trans h.blk, h.sl.fr hf hg⟩
theorem RPoolIs.drewN {w : World} {rp : Nat} {v : Value} {g : Option Nat} {p : Pl} (h : RPoolIs w rp v g p) (n : Nat) : RPoolIs (w.drewN n) rp v g p :=
  ⟨h.blk, h.sl.keep (fun _ _ => rfl)⟩
theorem RPoolIs.offAt {w : World} {rp : Nat} {v : Value} {g : Option Nat} {p : Pl} (h : RPoolIs w rp v g p) (i : Nat) (hi : i < 7) : w.cell? ⟨rp, 4 + i, none⟩ = some (.bool (p.off i)) := by
  rw [cell_blk h.blk]
  match i, hi with
  | 0, _ => rfl
  | 1, _ => rfl
  | 2, _ => rfl
  | 3, _ => rfl
  | 4, _ => rfl
  | 5, _ => rfl
  | 6, _ => rfl
theorem RPoolIs.setOff {w : World} {rp : Nat} {v : Value} {g : Option Nat} {p : Pl} (h : RPoolIs w rp v g p) (i : Nat) (hi : i < 7) (x : Bool) : RPoolIs (w.setCell ⟨rp, 4 + i, none⟩ (.bool x)) rp v g { p with off := fun j => if j = i then x else p.off j } := by
  refine ⟨?_, h.sl.keep (fun b hb => heap_set_other (by exact h.ne b hb))⟩
  rw [heap_set, h.blk]
  match i, hi with
  | 0, _ => rfl
  | 1, _ => rfl
  | 2, _ => rfl
  | 3, _ => rfl
  | 4, _ => rfl
  | 5, _ => rfl
  | 6, _ => rfl
theorem RPoolIs.ext {w : World} {rp : Nat} {v : Value} {g : Option Nat} {p q : Pl} (h : RPoolIs w rp v g p) (e : p = q) : RPoolIs w rp v g q := e ▸ h

/-! ### limit, New, Left, Peak, Packet, Spend, Off, Pressure -/
def lim (n a b : Int) : Int := if n < a then a else if b < n then b else n
theorem limit50_any (n a b : Int) (w : World) :
    Calls Try.prog 50 #[.int .i64 n, .int .i64 a, .int .i64 b] w fun e w' => e = .returned (.int .i64 (lim n a b)) ∧ w = w' := by
  unfold lim
  by_cases h1 : n < a
  · rw [if_pos h1]
    go_enter Try.func50, Try.ntmps50
    go_wp2
    all_goals
      go_ret
      exact ⟨rfl, rfl⟩
  · rw [if_neg h1]
    by_cases h2 : b < n
    · rw [if_pos h2]
      go_enter Try.func50, Try.ntmps50
      go_wp2
      all_goals
        go_ret
        exact ⟨rfl, rfl⟩
    · rw [if_neg h2]
      go_enter Try.func50, Try.ntmps50
      go_wp2
      all_goals
        go_ret
        exact ⟨rfl, rfl⟩

theorem rnew_any54 (n : Int) (w : World) :
    Calls Try.prog 23 #[.int .i64 n] w fun e w' => e = .returned (.pointer (some ⟨w.heap.size, 0, none⟩)) ∧ RPoolIs w' w.heap.size (.slice none 0 0) none (pl0 n) ∧ Fr [] w w' ∧ w'.heap.size = w.heap.size + 1 := by
  have h1 := limit50_any n 1024 1073741824 w
  rw [show lim n 1024 1073741824 = min (max n 1024) 1073741824 by unfold lim; split <;> (try split) <;> omega] at h1
  obtain ⟨m, hm⟩ : ∃ m, m = min (max n 1024) 1073741824 := ⟨_, rfl⟩
  rw [← hm] at h1
  have H1 := hide h1
  have HM := hide hm
  clear h1 hm
  go_enter Try.func23, Try.ntmps23
  go_wp2_with (go_at_call 50; with_reducible refine (unhide H1).mono ?_; rintro e w' ⟨rfl, rfl⟩)
  all_goals
    go_ret
    refine ⟨rfl, ⟨?_, SlAt.nil_ _⟩, (Fr.refl _ _).alloc _, by simp⟩
    rw [heap_alloc_eq rfl]
    simp only [pl0]
    rw [← HM.out]

theorem rleft_any (rp : Nat) (v : Value) (g : Option Nat) (p : Pl) (w : World) (h : RPoolIs w rp v g p) :
    Calls Try.prog 39 #[.pointer (some ⟨rp, 0, none⟩)] w fun e w' => e = .returned (.int .i64 p.left) ∧ w = w' := by
  have c2 : w.cell? ⟨rp, 2, none⟩ = some (.int .i64 p.left) := by rw [cell_blk h.blk]; rfl
  go_enter Try.func39, Try.ntmps39
  go_wp2
  go_ret
  exact ⟨rfl, rfl⟩

theorem rpeak_any (rp : Nat) (v : Value) (g : Option Nat) (p : Pl) (w : World) (h : RPoolIs w rp v g p) :
    Calls Try.prog 33 #[.pointer (some ⟨rp, 0, none⟩)] w fun e w' => e = .returned (.int .i64 p.peak) ∧ w = w' := by
  have c1 : w.cell? ⟨rp, 1, none⟩ = some (.int .i64 p.peak) := by rw [cell_blk h.blk]; rfl
  go_enter Try.func33, Try.ntmps33
  go_wp2
  go_ret
  exact ⟨rfl, rfl⟩

theorem RPoolIs.setLeft {w : World} {rp : Nat} {v : Value} {g : Option Nat} {p : Pl} (h : RPoolIs w rp v g p) (n : Int) : RPoolIs (w.setCell ⟨rp, 2, none⟩ (.int .i64 n)) rp v g { p with left := n } :=
  ⟨by rw [heap_set, h.blk]; rfl, h.sl.keep (fun b hb => heap_set_other (by exact h.ne b hb))⟩

theorem rpacket_any (rp : Nat) (v : Value) (g : Option Nat) (p : Pl) (n : Int) (w : World) (h : RPoolIs w rp v g p) :
    Calls Try.prog 27 #[.pointer (some ⟨rp, 0, none⟩), .int .i64 n] w fun e w' => e = .returned (.tuple #[]) ∧ RPoolIs w' rp v g { p with left := grant n } ∧ Fr [rp] w w' := by
  have hrp := lt_of_blk h.blk
  have c2 : w.cell? ⟨rp, 2, none⟩ = some (.int .i64 p.left) := by rw [cell_blk h.blk]; rfl
  have f2 : w.frozen? ⟨rp, 2, none⟩ = false := froz_blk h.blk _
  have h1 := limit50_any n 0 1048576 w
  rw [show lim n 0 1048576 = grant n by unfold lim grant; split <;> (try split) <;> omega] at h1
  obtain ⟨m, hm⟩ : ∃ m, m = grant n := ⟨_, rfl⟩
  rw [← hm] at h1 ⊢
  have H1 := hide h1
  have HN := hide (show RPoolIs (w.setCell ⟨rp, 2, none⟩ (.int .i64 m)) rp v g { p with left := m } ∧ Fr [rp] w (w.setCell ⟨rp, 2, none⟩ (.int .i64 m)) from ⟨h.setLeft _, (Fr.refl _ _).setCell (.inl (by simp)) _⟩)
  clear h1 hm h
  go_enter Try.func27, Try.ntmps27
  go_wp2_with (go_at_call 50; with_reducible refine (unhide H1).mono ?_; rintro e w' ⟨rfl, rfl⟩)
  all_goals
    refine bodyPost_end (results_none rfl _ _ _) rfl ?_
    exact ⟨rfl, HN.out⟩

theorem rspend_any (rp : Nat) (v : Value) (g : Option Nat) (p : Pl) (n : Int) (w : World) (h : RPoolIs w rp v g p) (hl : 0 ≤ p.left ∧ p.left ≤ 1048576) :
    Calls Try.prog 29 #[.pointer (some ⟨rp, 0, none⟩), .int .i64 n] w fun e w' => e = .returned (.int .i64 (min (max n 0) p.left)) ∧ RPoolIs w' rp v g { p with left := p.left - min (max n 0) p.left } ∧ Fr [rp] w w' := by
  have hrp := lt_of_blk h.blk
  have c2 : w.cell? ⟨rp, 2, none⟩ = some (.int .i64 p.left) := by rw [cell_blk h.blk]; rfl
  have f2 : w.frozen? ⟨rp, 2, none⟩ = false := froz_blk h.blk _
  have h1 := limit50_any n 0 p.left w
  rw [show lim n 0 p.left = min (max n 0) p.left by unfold lim; split <;> (try split) <;> omega] at h1
  obtain ⟨m, hm⟩ : ∃ m, m = min (max n 0) p.left := ⟨_, rfl⟩
  rw [← hm] at h1 ⊢
  have hmb : 0 ≤ m ∧ m ≤ p.left := by omega
  have H1 := hide h1
  have HN := hide (show RPoolIs (w.setCell ⟨rp, 2, none⟩ (.int .i64 (p.left - m))) rp v g { p with left := p.left - m } ∧ Fr [rp] w (w.setCell ⟨rp, 2, none⟩ (.int .i64 (p.left - m))) from ⟨h.setLeft _, (Fr.refl _ _).setCell (.inl (by simp)) _⟩)
  clear h1 hm h
  go_enter Try.func29, Try.ntmps29
  go_wp2_with (go_at_call 50; with_reducible refine (unhide H1).mono ?_; rintro e w' ⟨rfl, rfl⟩)
  all_goals
    go_ret
    exact ⟨rfl, HN.out⟩

theorem roff_any (rp : Nat) (v : Value) (g : Option Nat) (p : Pl) (f : Int) (w : World) (h : RPoolIs w rp v g p) :
    Calls Try.prog 41 #[.pointer (some ⟨rp, 0, none⟩), .int .i64 f] w fun e w' => e = .returned (.bool (isOff p f)) ∧ w = w' := by
  by_cases h1 : 1 ≤ f ∧ f ≤ 6
  · obtain ⟨i, rfl⟩ : ∃ i : Nat, f = i := ⟨f.toNat, by omega⟩
    have hi : i < 7 := by omega
    have ci := h.offAt i hi
    have HO : Hid (isOff p i = p.off i) := by
      show isOff p i = p.off i
      unfold isOff
      rw [decide_eq_true h1.1, decide_eq_true h1.2]
      simp
    rw [HO.out]
    go_enter Try.func41, Try.ntmps41
    go_wp2
    all_goals
      go_ret
      exact ⟨rfl, rfl⟩
  · have HO : Hid (isOff p f = false) := by
      show isOff p f = false
      unfold isOff
      by_cases h2 : 1 ≤ f
      · rw [decide_eq_false (fun h3 => h1 ⟨h2, h3⟩)]; simp
      · rw [decide_eq_false h2]; simp
    rw [HO.out]
    go_enter Try.func41, Try.ntmps41
    go_wp2
    all_goals first
      | (exfalso; omega)
      | (go_ret; exact ⟨rfl, rfl⟩)

set_option maxHeartbeats 400000 in
theorem rpressure_any (rp : Nat) (v : Value) (g : Option Nat) (p : Pl) (w : World) (h : RPoolIs w rp v g p) :
    Calls Try.prog 35 #[.pointer (some ⟨rp, 0, none⟩)] w fun e w' => e = .returned (.int .i64 (pcnt p 6)) ∧ w = w' := by
  have HP := hide h
  clear h
  go_enter Try.func35, Try.ntmps35
  go_wp2_with fail
  go_loopg [3, 4] 7 (fun gk n i wr => ∃ k : Nat, gk = 7 - k ∧ k ≤ 6 ∧ i = .int .i64 ((k : Int) + 1) ∧ n = .int .i64 (pcnt p k) ∧ w = wr)
  case atStart => exact ⟨0, rfl, by omega, rfl, rfl, rfl⟩
  case round =>
    obtain ⟨k, hgk, hk, rfl, rfl, rfl⟩ := hrel
    have HGK := hide hgk
    clear hgk
    have hle := pcnt_le p k
    by_cases hlt : k < 6
    · have hoff := HP.out.offAt (k + 1) (by omega)
      have hn : Hid (pcnt p (k + 1) = if p.off (k + 1) = true then pcnt p k + 1 else pcnt p k) := rfl
      cases hb : p.off (k + 1)
      all_goals
        rw [hb] at hoff hn
        go_wp2
        go_roundg (7 - (k + 1))
        case measure => have := HGK.out; omega
        case rel => exact ⟨k + 1, rfl, by omega, by go_num, by rw [hn.out]; simp, rfl⟩
    · have hk6 : k = 6 := by omega
      subst hk6
      go_wp2
      all_goals
        go_ret
        exact ⟨rfl, rfl⟩
end Go.Proofs.Ytnghfmefjjkgdaa

