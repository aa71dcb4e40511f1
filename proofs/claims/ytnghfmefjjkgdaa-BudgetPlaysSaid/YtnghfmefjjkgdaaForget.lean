/- (*escalate.Book).forget strikes the subject whose call came first. -/
import Derived.Test.YtnghfmefjjkgdaaKey
import Derived.Test.YtnghfmefjjkgdaaFr
import Derived.WalkKit
import Derived.Lib.Hide
import Derived.Maps.RangeWalk
import Derived.Deep.DeepCutAuto
import Derived.WalkSpells
import Derived.WalkLawsBesides
namespace Go.Proofs.Ytnghfmefjjkgdaa
open Go.RowKit

/-- What the loop of forget knows: 'left' is to come; unless nothing has come yet, (f, at) is the least of what has come. -/
def Least (M left : List (Sub × Ent)) (f : Sub) (c : Int) : Prop :=
  (∀ p ∈ left, p ∈ M) ∧ ((c = 0 ∧ ∀ p ∈ M, p ∈ left) ∨ ∃ e, (f, e) ∈ M ∧ e.call = c ∧ ∀ p ∈ M, p ∈ left ∨ c ≤ p.2.call)

theorem mem_erase_or {α : Type} {l : List α} {j : Nat} {q p : α} (hj : l[j]? = some q) (hp : p ∈ l) : p ∈ l.eraseIdx j ∨ p = q := by
  induction l generalizing j with
  | nil => cases hp
  | cons a l ih =>
    cases j with
    | zero =>
      simp at hj
      subst hj
      rcases List.mem_cons.1 hp with h | h
      · exact .inr h
      · exact .inl (by simpa using h)
    | succ j =>
      simp at hj
      rcases List.mem_cons.1 hp with h | h
      · exact .inl (by simp [h])
      · rcases ih hj h with h | h
        · exact .inl (by simp [h])
        · exact .inr h

theorem Least.take {M left : List (Sub × Ent)} {f : Sub} {c : Int} (h : Least M left f c) {j : Nat} {key : Sub} {val : Ent} (hj : left[j]? = some (key, val)) (hc : c = 0 ∨ val.call < c) (hpos : ∀ p ∈ M, 1 ≤ p.2.call) :
    Least M (left.eraseIdx j) key val.call := by
  refine ⟨fun p hp => h.1 p ((List.eraseIdx_sublist _ _).subset hp), .inr ⟨val, h.1 _ (List.mem_of_getElem? hj), rfl, fun p hp => ?_⟩⟩
  rcases h.2 with ⟨_, h2⟩ | ⟨e, he, hec, h2⟩
  · rcases mem_erase_or hj (h2 p hp) with h3 | h3
    · exact .inl h3
    · exact .inr (by rw [h3]; exact Int.le_refl _)
  · rcases h2 p hp with h3 | h3
    · rcases mem_erase_or hj h3 with h3 | h3
      · exact .inl h3
      · exact .inr (by rw [h3]; exact Int.le_refl _)
    · rcases hc with hc | hc
      · have := hpos _ he
        simp at this
        omega
      · exact .inr (by omega)

theorem Least.skip {M left : List (Sub × Ent)} {f : Sub} {c : Int} (h : Least M left f c) {j : Nat} {key : Sub} {val : Ent} (hj : left[j]? = some (key, val)) (h0 : c ≠ 0) (hc : ¬ val.call < c) :
    Least M (left.eraseIdx j) f c := by
  refine ⟨fun p hp => h.1 p ((List.eraseIdx_sublist _ _).subset hp), .inr ?_⟩
  rcases h.2 with ⟨h1, _⟩ | ⟨e, he, hec, h2⟩
  · exact absurd h1 h0
  · refine ⟨e, he, hec, fun p hp => ?_⟩
    rcases h2 p hp with h3 | h3
    · rcases mem_erase_or hj h3 with h3 | h3
      · exact .inl h3
      · exact .inr (by rw [h3]; simp; omega)
    · exact .inr h3

theorem two {X : World} {A B : Obj} {k : Nat} (h : k < X.heap.size) : ((X.alloc A).alloc B).heap[k]? = X.heap[k]? := by
  rw [heap_alloc_lt (by simp; omega), heap_alloc_lt h]

/-- The world behind a store of six cells into block n, two new blocks and a draw. -/
theorem six_other {W w : World} {n k : Nat} {a0 a1 a2 a3 a4 a5 : Value} {A B : Obj} (hW : W = ((((((((w.setCell ⟨n, 0, none⟩ a0).setCell ⟨n, 1, none⟩ a1).setCell ⟨n, 2, none⟩ a2).setCell ⟨n, 3, none⟩ a3).setCell ⟨n, 4, none⟩ a4).setCell ⟨n, 5, none⟩ a5).alloc A).alloc B).drew) (hk : k < w.heap.size) (hn : k ≠ n) : W.heap[k]? = w.heap[k]? := by
  subst hW
  rw [heap_drew, two (by simpa using hk), heap_set_other (a := ⟨n, 5, none⟩) hn, heap_set_other (a := ⟨n, 4, none⟩) hn, heap_set_other (a := ⟨n, 3, none⟩) hn, heap_set_other (a := ⟨n, 2, none⟩) hn, heap_set_other (a := ⟨n, 1, none⟩) hn, heap_set_other (a := ⟨n, 0, none⟩) hn]
theorem six_same {W w : World} {n : Nat} {a0 a1 a2 a3 a4 a5 : Value} {A B : Obj} {x0 x1 x2 x3 x4 x5 : Value} {t : TypeId} (hW : W = ((((((((w.setCell ⟨n, 0, none⟩ a0).setCell ⟨n, 1, none⟩ a1).setCell ⟨n, 2, none⟩ a2).setCell ⟨n, 3, none⟩ a3).setCell ⟨n, 4, none⟩ a4).setCell ⟨n, 5, none⟩ a5).alloc A).alloc B).drew)
    (h : w.heap[n]? = some (.cells #[x0, x1, x2, x3, x4, x5] t (0, 0))) : W.heap[n]? = some (.cells #[a0, a1, a2, a3, a4, a5] t (0, 0)) := by
  subst hW
  rw [heap_drew, two (by simpa using lt_of_blk h)]
  simp [heap_set, h, setAt_cells]
theorem six_fr {S : List Nat} {W w w0 : World} {n : Nat} {a0 a1 a2 a3 a4 a5 : Value} {A B : Obj} (hW : W = ((((((((w.setCell ⟨n, 0, none⟩ a0).setCell ⟨n, 1, none⟩ a1).setCell ⟨n, 2, none⟩ a2).setCell ⟨n, 3, none⟩ a3).setCell ⟨n, 4, none⟩ a4).setCell ⟨n, 5, none⟩ a5).alloc A).alloc B).drew) (h : Fr S w0 w) (hn : n ∈ S ∨ w0.heap.size ≤ n) : Fr S w0 W := by
  subst hW
  exact ((((((((h.setCell hn _).setCell hn _).setCell hn _).setCell hn _).setCell hn _).setCell hn _).alloc _).alloc _).drew

set_option maxRecDepth 100000 in
set_option maxHeartbeats 400000 in
theorem forget_any (pb bm : Nat) (cs : Array Value) (M : List (Sub × Ent)) (w : World) (hM : M ≠ []) (hpos : ∀ p ∈ M, 1 ≤ p.2.call)
   (hb : w.heap[pb]? = some (.cells cs 71 (0, 0))) (h4 : cs[4]? = some (.map (some bm))) (hm : MapIs eSub eEnt w bm M) :
    Calls Try.prog 54 #[.pointer (some ⟨pb, 0, none⟩)] w fun e w' => e = .returned (.tuple #[]) ∧ ∃ s en, (s, en) ∈ M ∧ (∀ p ∈ M, en.call ≤ p.2.call) ∧ MapIs eSub eEnt w' bm (mdel M s) ∧ Fr [bm] w w' := by
  have hpb := lt_of_blk hb
  have hbm := hm.lt
  have c4 : w.cell? ⟨pb, 4, none⟩ = some (.map (some bm)) := by rw [cell_blk hb, h4]
  go_enter Try.func54, Try.ntmps54
  go_wp2_with (first
    | (at_range; refine wpList_range_is _ rfl _ 69 rfl Try.underlying69 bm M rfl (hm.keep (heap_alloc_lt hbm)) (w.heap.size + 1) (by simp) ?_; intro ob hit)
    | go_in)
  go_frame
  go_loopg [3] M.length (fun gk at_ wr => ∃ (left : List (Sub × Ent)) (f : Sub) (c : Int), gk = left.length ∧ at_ = .int .i64 c ∧ Iter eSub eEnt wr (w.heap.size + 1) bm left ∧ wr.heap[w.heap.size]? = some (.cells #[.int .i64 f.sid, .string f.name, .bool f.rule, .bool f.v6, .int .u64 f.hi, .int .u64 f.lo] 77 (0, 0)) ∧
      MapIs eSub eEnt wr bm M ∧ Fr [] w wr ∧ Least M left f c)
  case atStart =>
    refine ⟨M, ⟨0, ⟨#[]⟩, false, false, 0, 0⟩, 0, rfl, rfl, hit, ?_, (hm.keep (heap_alloc_lt hbm)).keep (heap_alloc_lt (by simp; omega)), ((Fr.refl _ _).alloc _).alloc _, fun p hp => hp, .inl ⟨rfl, fun p hp => hp⟩⟩
    rw [heap_alloc_lt (by simp), heap_alloc_eq rfl]
  case round =>
    obtain ⟨left, f, c, rfl, rfl, hit, hF, hmr, hfr, hleast⟩ := hrel
    have hsz := hit.lt.2
    go_wp2_with (first
      | (at_next; refine wpList_next_is _ rfl _ rfl (w.heap.size + 1) bm left (by omega) rfl hit ?_ ?_)
      | go_in)
    · intro hl
      have k0 : wr.cell? ⟨w.heap.size, 0, none⟩ = some (.int .i64 f.sid) := cell_blk hF 0
      have k1 : wr.cell? ⟨w.heap.size, 1, none⟩ = some (.string f.name) := cell_blk hF 1
      have k2 : wr.cell? ⟨w.heap.size, 2, none⟩ = some (.bool f.rule) := cell_blk hF 2
      have k3 : wr.cell? ⟨w.heap.size, 3, none⟩ = some (.bool f.v6) := cell_blk hF 3
      have k4 : wr.cell? ⟨w.heap.size, 4, none⟩ = some (.int .u64 f.hi) := cell_blk hF 4
      have k5 : wr.cell? ⟨w.heap.size, 5, none⟩ = some (.int .u64 f.lo) := cell_blk hF 5
      have c4' : wr.cell? ⟨pb, 4, none⟩ = some (.map (some bm)) := by rw [World.cell?_of_block (w := w) (hfr.block pb hpb (by simp))]; exact c4
      obtain ⟨es', c', hdel, hrep⟩ := MapIs.delete keyOk Try.underlying69 (w := wr.drew) hmr f 0 77
      simp only [eSub] at hdel
      go_wp2
      go_region
      go_end0
      refine ⟨rfl, ?_⟩
      subst hl
      rcases hleast.2 with ⟨_, h2⟩ | ⟨e, he, hec, h2⟩
      · cases M with
        | nil => exact absurd rfl hM
        | cons p M => cases h2 p (by simp)
      · refine ⟨f, e, he, fun p hp => ?_, ⟨es', c', heap_blk_same hmr.lt, hrep⟩, ((hfr.mono (by simp)).drew).setBlock (by simp) _⟩
        rcases h2 p hp with h3 | h3
        · cases h3
        · rw [hec]; exact h3
    · rintro ⟨j, key, val, w2, hj, hf2, hs2, hit2, hen⟩
      have xl : w.heap.size < w2.heap.size := by omega
      have xe0 : w.heap.size ≤ w2.heap.size := by omega
      have xe1 : w.heap.size ≤ w2.heap.size + 1 := by omega
      have xe2 : w.heap.size ≤ w2.heap.size + 2 := by omega
      have hF2 := (hf2.block _ (by omega) (by simp)).trans hF
      have hjl : j < left.length := (List.getElem?_eq_some_iff.1 hj).1
      have hmr2 : MapIs eSub eEnt w2 bm M := hmr.keep (hf2.block _ hmr.lt (by simp; omega))
      have hfr2 : Fr [] w w2 := hfr.andThen hf2 (by simp)
      simp only [eSub, eEnt] at hen ⊢
      have HS := Lib.hid hs2
      clear hs2
      have k0 : w2.cell? ⟨w.heap.size, 0, none⟩ = some (.int .i64 f.sid) := cell_blk hF2 0
      have k1 : w2.cell? ⟨w.heap.size, 1, none⟩ = some (.string f.name) := cell_blk hF2 1
      have k2 : w2.cell? ⟨w.heap.size, 2, none⟩ = some (.bool f.rule) := cell_blk hF2 2
      have k3 : w2.cell? ⟨w.heap.size, 3, none⟩ = some (.bool f.v6) := cell_blk hF2 3
      have k4 : w2.cell? ⟨w.heap.size, 4, none⟩ = some (.int .u64 f.hi) := cell_blk hF2 4
      have k5 : w2.cell? ⟨w.heap.size, 5, none⟩ = some (.int .u64 f.lo) := cell_blk hF2 5
      have kf0 : w2.frozen? ⟨w.heap.size, 0, none⟩ = false := froz_blk hF2 0
      have kf1 : w2.frozen? ⟨w.heap.size, 1, none⟩ = false := froz_blk hF2 1
      have kf2 : w2.frozen? ⟨w.heap.size, 2, none⟩ = false := froz_blk hF2 2
      have kf3 : w2.frozen? ⟨w.heap.size, 3, none⟩ = false := froz_blk hF2 3
      have kf4 : w2.frozen? ⟨w.heap.size, 4, none⟩ = false := froz_blk hF2 4
      have kf5 : w2.frozen? ⟨w.heap.size, 5, none⟩ = false := froz_blk hF2 5
      by_cases h0 : c = 0
      · subst h0
        have hle := hleast.take hj (.inl rfl) hpos
        go_wp2
        go_region
        go_wp2
        go_roundg (left.length - 1)
        case measure => omega
        case rel =>
          refine ⟨left.eraseIdx j, key, val.call, by rw [List.length_eraseIdx_of_lt hjl], rfl, hit2.keep ?_ ?_, ?_, hmr2.keep ?_, ?_, hle⟩
          · exact six_other rfl (by omega) (by omega)
          · exact six_other rfl hit2.lt.2 (by omega)
          · exact six_same rfl hF2
          · exact six_other rfl (by omega) (by omega)
          · exact six_fr rfl hfr2 (.inr (Nat.le_refl _))
      · have hc0 : (c == 0) = false := by simpa using h0
        by_cases hlt : val.call < c
        · have hle := hleast.take hj (.inr hlt) hpos
          go_wp2
          go_region
          go_wp2
          go_roundg (left.length - 1)
          case measure => omega
          case rel =>
            refine ⟨left.eraseIdx j, key, val.call, by rw [List.length_eraseIdx_of_lt hjl], rfl, hit2.keep ?_ ?_, ?_, hmr2.keep ?_, ?_, hle⟩
            · exact six_other rfl (by omega) (by omega)
            · exact six_other rfl hit2.lt.2 (by omega)
            · exact six_same rfl hF2
            · exact six_other rfl (by omega) (by omega)
            · exact six_fr rfl hfr2 (.inr (Nat.le_refl _))
        · have hle := hleast.skip hj h0 hlt
          go_wp2
          go_roundg (left.length - 1)
          case measure => omega
          case rel =>
            refine ⟨left.eraseIdx j, f, c, by rw [List.length_eraseIdx_of_lt hjl], rfl, hit2.keep ?_ ?_, ?_, hmr2.keep ?_, ?_, hle⟩
            · exact two (by omega)
            · exact two hit2.lt.2
            · exact (two (by omega)).trans hF2
            · exact two (by omega)
            · exact (hfr2.alloc _).alloc _
end Go.Proofs.Ytnghfmefjjkgdaa

