/- inflate.Decoder as a block; number, symbol. -/
import Derived.Test.YthmhcnnigepohaaGreatDoorM08
import Derived.Test.YthmhcnnigepohaaGreatDoorM12
import Derived.Laws.EntriesVeiled
import Derived.WideLaws
import Derived.StillTailTactics
namespace Go.Proofs.YthmhcnnigepohaaGreatDoor.If
open Go.RowKit
set_option linter.unusedVariables false

/-- What the cells of a decoder hold; the budget is always the same. -/
structure DV where
  past : Value
  tot : Int
  fresh : Value
  inp : Int
  last : Bool
  done : Bool
  skip : Bool
  rest : ByteArray
  acc : Int
  have_ : Int
  need : Int
  code : Value
  next : Value
def DC (d : DV) : Array Value := #[.int .i64 65536, .int .i64 1100, d.past, .int .i64 d.tot, d.fresh, .int .i64 d.inp, .bool d.last, .bool d.done, .bool false, .bool d.skip, .string d.rest, .int .i64 d.acc, .int .i64 d.have_, .int .i64 d.need, d.code, d.next]
def DI (w : World) (D : Nat) (d : DV) : Prop := w.heap[D]? = some (.cells (DC d) 195 (0, 0))
theorem DI.lt {w : World} {D : Nat} {d : DV} (h : DI w D d) : D < w.heap.size := lt_of_blk h
theorem DI.fr {w w' : World} {S : List Nat} {D : Nat} {d : DV} (h : DI w D d) (hf : Fr S w w') (hn : D ∉ S) : DI w' D d := (hf.block D h.lt hn).trans h
theorem DI.froz {w : World} {D : Nat} {d : DV} (h : DI w D d) (i : Nat) : w.frozen? ⟨D, i, none⟩ = false := froz_blk h i

set_option maxRecDepth 100000 in
set_option maxHeartbeats 1000000 in
theorem number135_any (D : Nat) (d : DV) (n : Int) (fn : Fn) (ts cs : Array Value) (w : World) (h : DI w D d) :
    Calls Tryz.prog 135 #[.pointer (some ⟨D, 0, none⟩), .int .i64 n, .func fn ts cs] w fun e w' => e = .returned (.int .i64 0) ∧ DI w' D { d with acc := 0, have_ := 0, need := n, code := .pointer none, next := .func fn ts cs } ∧ Fr [D] w w' := by
  obtain ⟨past, tot, fresh, inp, last, done, skip, rest, acc, have_, need, code, next⟩ := d
  have HH := hide h
  have hl := h.lt
  have c11 : w.cell? ⟨D, 11, none⟩ = some (.int .i64 acc) := cell_blk h 11
  have cf11 : w.frozen? ⟨D, 11, none⟩ = false := froz_blk h 11
  have c12 : w.cell? ⟨D, 12, none⟩ = some (.int .i64 have_) := cell_blk h 12
  have cf12 : w.frozen? ⟨D, 12, none⟩ = false := froz_blk h 12
  have c13 : w.cell? ⟨D, 13, none⟩ = some (.int .i64 need) := cell_blk h 13
  have cf13 : w.frozen? ⟨D, 13, none⟩ = false := froz_blk h 13
  have c14 : w.cell? ⟨D, 14, none⟩ = some (code) := cell_blk h 14
  have cf14 : w.frozen? ⟨D, 14, none⟩ = false := froz_blk h 14
  have c15 : w.cell? ⟨D, 15, none⟩ = some (next) := cell_blk h 15
  have cf15 : w.frozen? ⟨D, 15, none⟩ = false := froz_blk h 15
  clear h
  go_enter Tryz.func135, Tryz.ntmps135
  go_wp2
  go_ret
  refine ⟨rfl, ?_, ((((((Fr.refl [D] w).setCell (.inl (by simp)) _).setCell (.inl (by simp)) _).setCell (.inl (by simp)) _).setCell (.inl (by simp)) _).setCell (.inl (by simp)) _)⟩
  unfold DI
  rw [heap_set, heap_set, heap_set, heap_set, heap_set, HH.out]
  rfl

set_option maxRecDepth 100000 in
set_option maxHeartbeats 1000000 in
theorem symbol156_any (D : Nat) (d : DV) (p : Option Addr) (fn : Fn) (ts cs : Array Value) (w : World) (h : DI w D d) :
    Calls Tryz.prog 156 #[.pointer (some ⟨D, 0, none⟩), .pointer p, .func fn ts cs] w fun e w' => e = .returned (.int .i64 0) ∧ DI w' D { d with code := .pointer p, next := .func fn ts cs } ∧ Fr [D] w w' := by
  obtain ⟨past, tot, fresh, inp, last, done, skip, rest, acc, have_, need, code, next⟩ := d
  have HH := hide h
  have hl := h.lt
  have c14 : w.cell? ⟨D, 14, none⟩ = some (code) := cell_blk h 14
  have cf14 : w.frozen? ⟨D, 14, none⟩ = false := froz_blk h 14
  have c15 : w.cell? ⟨D, 15, none⟩ = some (next) := cell_blk h 15
  have cf15 : w.frozen? ⟨D, 15, none⟩ = false := froz_blk h 15
  clear h
  go_enter Tryz.func156, Tryz.ntmps156
  go_wp2
  go_ret
  refine ⟨rfl, ?_, (((Fr.refl [D] w).setCell (.inl (by simp)) _).setCell (.inl (by simp)) _)⟩
  unfold DI
  rw [heap_set, heap_set, HH.out]
  rfl
end Go.Proofs.YthmhcnnigepohaaGreatDoor.If

/- inflate.Decoder: captured cells; what waits for what. -/
namespace Go.Proofs.YthmhcnnigepohaaGreatDoor.If
open Go.RowKit
set_option linter.unusedVariables false

/-- Blocks of others, which nothing here reads or writes. -/
class Foreign where
  F : List Nat
variable [Foreign]
/-- All of G, and all that is foreign, lie in the world. -/
structure In (w : World) (G : List Nat) : Prop where
  mem : ∀ b ∈ G, b < w.heap.size
  fo : ∀ b ∈ Foreign.F, b < w.heap.size
instance {w : World} {G : List Nat} : CoeFun (In w G) (fun _ => ∀ b ∈ G, b < w.heap.size) := ⟨In.mem⟩
/-- A captured cell: no block of G. -/
def Box (w : World) (G : List Nat) (v : Value) (t : TypeId) (x : Value) : Prop := ∃ b, v = .pointer (some ⟨b, 0, none⟩) ∧ (b ∉ G ∧ b ∉ Foreign.F) ∧ w.heap[b]? = some (.cells #[x] t (0, 0))
def Grows (w : World) (G G' : List Nat) : Prop := ∀ b ∈ G', b ∈ G ∨ w.heap.size ≤ b
omit [Foreign] in
theorem Grows.refl (w : World) (G : List Nat) : Grows w G G := fun _ h => .inl h
omit [Foreign] in
theorem Grows.trans {w w1 : World} {G G1 G2 : List Nat} (h : Grows w G G1) (k : Grows w1 G1 G2) (hs : w.heap.size ≤ w1.heap.size) : Grows w G G2 := fun b hb => by
  rcases k b hb with h1 | h1
  · exact h b h1
  · exact .inr (by omega)
omit [Foreign] in
theorem _root_.Go.Proofs.YthmhcnnigepohaaGreatDoor.Fr.thru {w w1 w2 : World} {G G1 : List Nat} (h : Fr G w w1) (hg : Grows w G G1) (k : Fr G1 w1 w2) : Fr G w w2 := h.andThen k hg
theorem In.fr {w w' : World} {G S : List Nat} (h : In w G) (hf : Fr S w w') : In w' G := ⟨fun b hb => Nat.lt_of_lt_of_le (h.mem b hb) hf.size, fun b hb => Nat.lt_of_lt_of_le (h.fo b hb) hf.size⟩
theorem In.newF {w : World} {G : List Nat} (h : In w G) {b : Nat} (hb : w.heap.size ≤ b) : b ∉ Foreign.F := fun hm => by have := h.fo b hm; omega
theorem In.of {w : World} {G G' : List Nat} (h : In w G) (h2 : ∀ b ∈ G', b < w.heap.size) : In w G' := ⟨h2, h.fo⟩
theorem In.of2 {w w' : World} {G G' : List Nat} (h : In w G) (hs : w.heap.size ≤ w'.heap.size) (h2 : ∀ b ∈ G', b < w'.heap.size) : In w' G' := ⟨h2, fun b hb => Nat.lt_of_lt_of_le (h.fo b hb) hs⟩
theorem Box.fr {w w' : World} {G G' : List Nat} {v x : Value} {t : TypeId} (h : Box w G v t x) (hf : Fr G w w') (hg : Grows w G G') : Box w' G' v t x := by
  obtain ⟨b, h1, h2, h3⟩ := h
  refine ⟨b, h1, ⟨fun hm => ?_, h2.2⟩, (hf.block b (lt_of_blk h3) h2.1).trans h3⟩
  rcases hg b hm with h4 | h4
  · exact h2.1 h4
  · have := lt_of_blk h3; omega
theorem Box.mk {w : World} {G : List Nat} {x : Value} {t : TypeId} (b : Nat) (hb : w.heap[b]? = some (.cells #[x] t (0, 0))) (hn : b ∉ G) (hF : b ∉ Foreign.F) : Box w G (.pointer (some ⟨b, 0, none⟩)) t x := ⟨b, rfl, ⟨hn, hF⟩, hb⟩
theorem In.new {w : World} {G : List Nat} (h : In w G) {b : Nat} (hb : w.heap.size ≤ b) : b ∉ G := fun hm => by have := h.mem b hm; omega
omit [Foreign] in
theorem _root_.Go.Proofs.YthmhcnnigepohaaGreatDoor.Fr.sub {w w' : World} {S G : List Nat} (h : Fr S w w') (hs : ∀ b ∈ S, b ∈ G) : Fr G w w' := h.mono (fun k hk _ => hs k hk)
theorem Box.at_ {w : World} {G : List Nat} {v x : Value} {t : TypeId} (h : Box w G v t x) : ∃ b, v = .pointer (some ⟨b, 0, none⟩) ∧ b < w.heap.size ∧ b ∉ G ∧ w.cell? ⟨b, 0, none⟩ = some x := by
  obtain ⟨b, h1, h2, h3⟩ := h
  exact ⟨b, h1, lt_of_blk h3, h2.1, cell_blk h3 0⟩

/-- What a call that only sets what the decoder waits for leaves. -/
def SetPost (D : Nat) (w : World) (P : DV → World → Prop) (e : Ending) (w' : World) : Prop :=
  e = .returned (.int .i64 0) ∧ ∃ d', DI w' D d' ∧ P d' w' ∧ Fr [D] w w'

/-- Captured cells made one behind another. -/
def bw (w : World) : List (Value × TypeId) → World
  | [] => w
  | (x, t) :: L => bw (w.alloc (.cells #[x] t)) L
omit [Foreign] in
theorem bw_fr : ∀ (L : List (Value × TypeId)) (w : World), Fr [] w (bw w L)
  | [], w => Fr.refl _ _
  | (x, t) :: L, w => ((Fr.refl [] w).alloc _).trans (bw_fr L _)
omit [Foreign] in
theorem bw_size : ∀ (L : List (Value × TypeId)) (w : World), (bw w L).heap.size = w.heap.size + L.length
  | [], w => rfl
  | (x, t) :: L, w => by rw [bw, bw_size L]; simp; omega
omit [Foreign] in
theorem bw_get : ∀ (L : List (Value × TypeId)) (w : World) (i : Nat) (x : Value) (t : TypeId), L[i]? = some (x, t) → (bw w L).heap[w.heap.size + i]? = some (.cells #[x] t (0, 0))
  | [], w, i, x, t, h => by simp at h
  | (y, u) :: L, w, 0, x, t, h => by
    simp only [List.getElem?_cons_zero, Option.some.injEq, Prod.mk.injEq] at h
    obtain ⟨rfl, rfl⟩ := h
    rw [bw, (bw_fr L _).block _ (by simp) (by simp)]
    exact heap_alloc_eq rfl
  | (y, u) :: L, w, i + 1, x, t, h => by
    have := bw_get L (w.alloc (.cells #[y] u)) i x t (by simpa using h)
    rw [bw, ← this]
    congr 1
    simp
    omega
theorem bw_box {w w2 : World} {G S : List Nat} {L : List (Value × TypeId)} (hG : In w G) (hS : ∀ b ∈ S, b < w.heap.size) (hf : Fr S (bw w L) w2) (i : Nat) {x : Value} {t : TypeId} (hi : L[i]? = some (x, t)) :
    Box w2 G (.pointer (some ⟨w.heap.size + i, 0, none⟩)) t x := by
  have h1 := bw_get L w i x t hi
  exact Box.mk _ ((hf.block _ (lt_of_blk h1) (fun hm => by have := hS _ hm; omega)).trans h1) (hG.new (by omega)) (hG.newF (by omega))

set_option maxRecDepth 100000 in
set_option maxHeartbeats 2000000 in
theorem literal152_any (D : Nat) (d : DV) (pa pb : Option Addr) (G : List Nat) (w : World) (h : DI w D d) (hG : In w G) :
    Calls Tryz.prog 152 #[.pointer (some ⟨D, 0, none⟩), .pointer pa, .pointer pb] w (SetPost D w (fun d' w' => ∃ c0 c1 c2, d' = { d with code := .pointer pa, next := .func (.func 157) #[] #[c0, c1, c2] } ∧ Box w' G c0 173 (.pointer (some ⟨D, 0, none⟩)) ∧ Box w' G c1 192 (.pointer pa) ∧ Box w' G c2 192 (.pointer pb))) := by
  have HS := hide (symbol156_any D d pa (.func 157) #[] #[.pointer (some ⟨w.heap.size, 0, none⟩), .pointer (some ⟨w.heap.size + 1, 0, none⟩), .pointer (some ⟨w.heap.size + 2, 0, none⟩)] (bw w [(.pointer (some ⟨D, 0, none⟩), 173), (.pointer pa, 192), (.pointer pb, 192)]) (h.fr (bw_fr _ _) (by simp)))
  have hl := h.lt
  have HRES : Hid (∀ w2, DI w2 D _ → Fr [D] (bw w [(.pointer (some ⟨D, 0, none⟩), 173), (.pointer pa, 192), (.pointer pb, 192)]) w2 → SetPost D w (fun d' w' => ∃ c0 c1 c2, d' = { d with code := .pointer pa, next := .func (.func 157) #[] #[c0, c1, c2] } ∧ Box w' G c0 173 (.pointer (some ⟨D, 0, none⟩)) ∧ Box w' G c1 192 (.pointer pa) ∧ Box w' G c2 192 (.pointer pb)) (.returned (.int .i64 0)) w2) :=
    hide (fun w2 hd hf => ⟨rfl, _, hd, ⟨_, _, _, rfl, bw_box (i := 0) hG (by simpa using hl) hf rfl, bw_box (i := 1) hG (by simpa using hl) hf rfl, bw_box (i := 2) hG (by simpa using hl) hf rfl⟩, ((bw_fr _ w).mono (by simp)).trans hf⟩)
  clear h hG
  go_enter Tryz.func152, Tryz.ntmps152
  go_wp2_with fail
  refine (unhide HS).mono ?_
  rintro e w2 ⟨rfl, hd, hf⟩
  have HR2 := hide (HRES.out w2 hd hf)
  clear hd hf
  go_wp2
  go_ret
  exact HR2.out

set_option maxRecDepth 100000 in
set_option maxHeartbeats 2000000 in
theorem stored137_any (D : Nat) (d : DV) (G : List Nat) (w : World) (h : DI w D d) (hG : In w G) :
    Calls Tryz.prog 137 #[.pointer (some ⟨D, 0, none⟩)] w (SetPost D w (fun d' w' => ∃ c0, d' = { d with acc := 0, have_ := 0, need := 16, code := .pointer none, next := .func (.func 141) #[] #[c0] } ∧ Box w' G c0 173 (.pointer (some ⟨D, 0, none⟩)))) := by
  have HS := hide (number135_any D d (16) (.func 141) #[] #[.pointer (some ⟨w.heap.size, 0, none⟩)] (bw w [(.pointer (some ⟨D, 0, none⟩), 173)]) (h.fr (bw_fr _ _) (by simp)))
  have hl := h.lt
  have HRES : Hid (∀ w2, DI w2 D _ → Fr [D] (bw w [(.pointer (some ⟨D, 0, none⟩), 173)]) w2 → SetPost D w (fun d' w' => ∃ c0, d' = { d with acc := 0, have_ := 0, need := 16, code := .pointer none, next := .func (.func 141) #[] #[c0] } ∧ Box w' G c0 173 (.pointer (some ⟨D, 0, none⟩))) (.returned (.int .i64 0)) w2) :=
    hide (fun w2 hd hf => ⟨rfl, _, hd, ⟨_, rfl, bw_box (i := 0) hG (by simpa using hl) hf rfl⟩, ((bw_fr _ w).mono (by simp)).trans hf⟩)
  clear h hG
  go_enter Tryz.func137, Tryz.ntmps137
  go_wp2_with fail
  refine (unhide HS).mono ?_
  rintro e w2 ⟨rfl, hd, hf⟩
  have HR2 := hide (HRES.out w2 hd hf)
  clear hd hf
  go_wp2
  go_ret
  exact HR2.out

set_option maxRecDepth 100000 in
set_option maxHeartbeats 2000000 in
theorem dynamic139_any (D : Nat) (d : DV) (G : List Nat) (w : World) (h : DI w D d) (hG : In w G) :
    Calls Tryz.prog 139 #[.pointer (some ⟨D, 0, none⟩)] w (SetPost D w (fun d' w' => ∃ c0, d' = { d with acc := 0, have_ := 0, need := 5, code := .pointer none, next := .func (.func 145) #[] #[c0] } ∧ Box w' G c0 173 (.pointer (some ⟨D, 0, none⟩)))) := by
  have HS := hide (number135_any D d (5) (.func 145) #[] #[.pointer (some ⟨w.heap.size, 0, none⟩)] (bw w [(.pointer (some ⟨D, 0, none⟩), 173)]) (h.fr (bw_fr _ _) (by simp)))
  have hl := h.lt
  have HRES : Hid (∀ w2, DI w2 D _ → Fr [D] (bw w [(.pointer (some ⟨D, 0, none⟩), 173)]) w2 → SetPost D w (fun d' w' => ∃ c0, d' = { d with acc := 0, have_ := 0, need := 5, code := .pointer none, next := .func (.func 145) #[] #[c0] } ∧ Box w' G c0 173 (.pointer (some ⟨D, 0, none⟩))) (.returned (.int .i64 0)) w2) :=
    hide (fun w2 hd hf => ⟨rfl, _, hd, ⟨_, rfl, bw_box (i := 0) hG (by simpa using hl) hf rfl⟩, ((bw_fr _ w).mono (by simp)).trans hf⟩)
  clear h hG
  go_enter Tryz.func139, Tryz.ntmps139
  go_wp2_with fail
  refine (unhide HS).mono ?_
  rintro e w2 ⟨rfl, hd, hf⟩
  have HR2 := hide (HRES.out w2 hd hf)
  clear hd hf
  go_wp2
  go_ret
  exact HR2.out

set_option maxRecDepth 100000 in
set_option maxHeartbeats 2000000 in
theorem raw143_any (D : Nat) (d : DV) (n : Nat) (G : List Nat) (w : World) (h : DI w D d) (hG : In w G) (hn : n ≠ 0) (hn2 : n ≤ 100000) :
    Calls Tryz.prog 143 #[.pointer (some ⟨D, 0, none⟩), .int .i64 n] w (SetPost D w (fun d' w' => ∃ c0 c1, d' = { d with acc := 0, have_ := 0, need := 8, code := .pointer none, next := .func (.func 149) #[] #[c0, c1] } ∧ Box w' G c0 173 (.pointer (some ⟨D, 0, none⟩)) ∧ Box w' G c1 3 (.int .i64 (n : Nat)))) := by
  have HS := hide (number135_any D d (8) (.func 149) #[] #[.pointer (some ⟨w.heap.size, 0, none⟩), .pointer (some ⟨w.heap.size + 1, 0, none⟩)] (bw w [(.pointer (some ⟨D, 0, none⟩), 173), (.int .i64 (n : Nat), 3)]) (h.fr (bw_fr _ _) (by simp)))
  have hl := h.lt
  have HRES : Hid (∀ w2, DI w2 D _ → Fr [D] (bw w [(.pointer (some ⟨D, 0, none⟩), 173), (.int .i64 (n : Nat), 3)]) w2 → SetPost D w (fun d' w' => ∃ c0 c1, d' = { d with acc := 0, have_ := 0, need := 8, code := .pointer none, next := .func (.func 149) #[] #[c0, c1] } ∧ Box w' G c0 173 (.pointer (some ⟨D, 0, none⟩)) ∧ Box w' G c1 3 (.int .i64 (n : Nat))) (.returned (.int .i64 0)) w2) :=
    hide (fun w2 hd hf => ⟨rfl, _, hd, ⟨_, _, rfl, bw_box (i := 0) hG (by simpa using hl) hf rfl, bw_box (i := 1) hG (by simpa using hl) hf rfl⟩, ((bw_fr _ w).mono (by simp)).trans hf⟩)
  have d1 : ((n : Int) == 0) = false := by simp; omega
  clear h hG
  go_enter Tryz.func143, Tryz.ntmps143
  go_wp2_with fail
  refine (unhide HS).mono ?_
  rintro e w2 ⟨rfl, hd, hf⟩
  have HR2 := hide (HRES.out w2 hd hf)
  clear hd hf
  go_wp2
  go_ret
  exact HR2.out

set_option maxRecDepth 100000 in
set_option maxHeartbeats 2000000 in
theorem third148_any (D : Nat) (d : DV) (pl : Option Addr) (nl cl : Nat) (at_ n lits dists : Int) (G : List Nat) (w : World) (h : DI w D d) (hG : In w G) (hx : at_ ≠ n) :
    Calls Tryz.prog 148 #[.pointer (some ⟨D, 0, none⟩), .slice pl nl cl, .int .i64 at_, .int .i64 n, .int .i64 lits, .int .i64 dists] w (SetPost D w (fun d' w' => ∃ c0 c1 c2 c3 c4 c5, d' = { d with acc := 0, have_ := 0, need := 3, code := .pointer none, next := .func (.func 154) #[] #[c1, c2, c0, c3, c4, c5] } ∧ Box w' G c0 173 (.pointer (some ⟨D, 0, none⟩)) ∧ Box w' G c1 77 (.slice pl nl cl) ∧ Box w' G c2 3 (.int .i64 at_) ∧ Box w' G c3 3 (.int .i64 n) ∧ Box w' G c4 3 (.int .i64 lits) ∧ Box w' G c5 3 (.int .i64 dists))) := by
  have HS := hide (number135_any D d (3) (.func 154) #[] #[.pointer (some ⟨w.heap.size + 1, 0, none⟩), .pointer (some ⟨w.heap.size + 2, 0, none⟩), .pointer (some ⟨w.heap.size, 0, none⟩), .pointer (some ⟨w.heap.size + 3, 0, none⟩), .pointer (some ⟨w.heap.size + 4, 0, none⟩), .pointer (some ⟨w.heap.size + 5, 0, none⟩)] (bw w [(.pointer (some ⟨D, 0, none⟩), 173), (.slice pl nl cl, 77), (.int .i64 at_, 3), (.int .i64 n, 3), (.int .i64 lits, 3), (.int .i64 dists, 3)]) (h.fr (bw_fr _ _) (by simp)))
  have hl := h.lt
  have HRES : Hid (∀ w2, DI w2 D _ → Fr [D] (bw w [(.pointer (some ⟨D, 0, none⟩), 173), (.slice pl nl cl, 77), (.int .i64 at_, 3), (.int .i64 n, 3), (.int .i64 lits, 3), (.int .i64 dists, 3)]) w2 → SetPost D w (fun d' w' => ∃ c0 c1 c2 c3 c4 c5, d' = { d with acc := 0, have_ := 0, need := 3, code := .pointer none, next := .func (.func 154) #[] #[c1, c2, c0, c3, c4, c5] } ∧ Box w' G c0 173 (.pointer (some ⟨D, 0, none⟩)) ∧ Box w' G c1 77 (.slice pl nl cl) ∧ Box w' G c2 3 (.int .i64 at_) ∧ Box w' G c3 3 (.int .i64 n) ∧ Box w' G c4 3 (.int .i64 lits) ∧ Box w' G c5 3 (.int .i64 dists)) (.returned (.int .i64 0)) w2) :=
    hide (fun w2 hd hf => ⟨rfl, _, hd, ⟨_, _, _, _, _, _, rfl, bw_box (i := 0) hG (by simpa using hl) hf rfl, bw_box (i := 1) hG (by simpa using hl) hf rfl, bw_box (i := 2) hG (by simpa using hl) hf rfl, bw_box (i := 3) hG (by simpa using hl) hf rfl, bw_box (i := 4) hG (by simpa using hl) hf rfl, bw_box (i := 5) hG (by simpa using hl) hf rfl⟩, ((bw_fr _ w).mono (by simp)).trans hf⟩)
  have d1 : (at_ == n) = false := by simpa using hx
  clear h hG hx
  go_enter Tryz.func148, Tryz.ntmps148
  go_wp2_with fail
  refine (unhide HS).mono ?_
  rintro e w2 ⟨rfl, hd, hf⟩
  have HR2 := hide (HRES.out w2 hd hf)
  clear hd hf
  go_wp2
  go_ret
  exact HR2.out

set_option maxRecDepth 100000 in
set_option maxHeartbeats 2000000 in
theorem block130_any (D : Nat) (d : DV) (G : List Nat) (w : World) (h : DI w D d) (hG : In w G) (hx : d.last = false) :
    Calls Tryz.prog 130 #[.pointer (some ⟨D, 0, none⟩)] w (SetPost D w (fun d' w' => ∃ c0, d' = { d with acc := 0, have_ := 0, need := 3, code := .pointer none, next := .func (.func 136) #[] #[c0] } ∧ Box w' G c0 173 (.pointer (some ⟨D, 0, none⟩)))) := by
  have HS := hide (number135_any D d (3) (.func 136) #[] #[.pointer (some ⟨w.heap.size, 0, none⟩)] (bw w [(.pointer (some ⟨D, 0, none⟩), 173)]) (h.fr (bw_fr _ _) (by simp)))
  have hl := h.lt
  have HRES : Hid (∀ w2, DI w2 D _ → Fr [D] (bw w [(.pointer (some ⟨D, 0, none⟩), 173)]) w2 → SetPost D w (fun d' w' => ∃ c0, d' = { d with acc := 0, have_ := 0, need := 3, code := .pointer none, next := .func (.func 136) #[] #[c0] } ∧ Box w' G c0 173 (.pointer (some ⟨D, 0, none⟩))) (.returned (.int .i64 0)) w2) :=
    hide (fun w2 hd hf => ⟨rfl, _, hd, ⟨_, rfl, bw_box (i := 0) hG (by simpa using hl) hf rfl⟩, ((bw_fr _ w).mono (by simp)).trans hf⟩)
  have c6 : w.cell? ⟨D, 6, none⟩ = some (.bool false) := by rw [cell_blk h]; show some (Value.bool d.last) = _; rw [hx]
  clear h hG hx
  go_enter Tryz.func130, Tryz.ntmps130
  go_wp2_with fail
  refine (unhide HS).mono ?_
  rintro e w2 ⟨rfl, hd, hf⟩
  have HR2 := hide (HRES.out w2 hd hf)
  clear hd hf
  go_wp2
  go_ret
  exact HR2.out

end Go.Proofs.YthmhcnnigepohaaGreatDoor.If

/- inflate.Decoder: block at the end, codes, fixed. -/
namespace Go.Proofs.YthmhcnnigepohaaGreatDoor.If
open Go.RowKit
set_option linter.unusedVariables false
variable [Foreign]

set_option maxRecDepth 100000 in
set_option maxHeartbeats 1000000 in
omit [Foreign] in
theorem block130_end (D : Nat) (d : DV) (w : World) (h : DI w D d) (hx : d.last = true) :
    Calls Tryz.prog 130 #[.pointer (some ⟨D, 0, none⟩)] w (SetPost D w fun d' w' => d' = { d with done := true }) := by
  have HD := hide h
  have hl := h.lt
  have c6 : w.cell? ⟨D, 6, none⟩ = some (.bool true) := by rw [cell_blk h]; show some (Value.bool d.last) = _; rw [hx]
  have c7 : w.cell? ⟨D, 7, none⟩ = some (.bool d.done) := by rw [cell_blk h]; rfl
  have f7 : w.frozen? ⟨D, 7, none⟩ = false := froz_blk h 7
  have HRES : Hid (SetPost D w (fun d' w' => d' = { d with done := true }) (.returned (.int .i64 0)) ((w.setCell ⟨D, 7, none⟩ (.bool true)).alloc (.cells #[.pointer (some ⟨D, 0, none⟩)] 173))) := by
    refine hide ⟨rfl, _, ?_, rfl, (((Fr.refl [D] w).setCell (.inl (by simp)) _).alloc _)⟩
    exact (heap_alloc_lt (by simpa using hl)).trans (heap_set_same h)
  clear h hx
  go_enter Tryz.func130, Tryz.ntmps130
  go_wp2
  go_ret
  exact HRES.out

set_option maxRecDepth 100000 in
set_option maxHeartbeats 1000000 in
omit [Foreign] in
theorem raw143_end (D : Nat) (d : DV) (w : World) (h : DI w D d) (hx : d.last = true) :
    Calls Tryz.prog 143 #[.pointer (some ⟨D, 0, none⟩), .int .i64 0] w (SetPost D w fun d' w' => d' = { d with done := true }) := by
  have hl := h.lt
  have HS := hide (block130_end D d (bw w [(.pointer (some ⟨D, 0, none⟩), 173), (.int .i64 0, 3)]) (h.fr (bw_fr _ _) (by simp)) hx)
  have HF := hide (bw_fr [(.pointer (some ⟨D, 0, none⟩), 173), (.int .i64 0, 3)] w)
  clear h hx
  go_enter Tryz.func143, Tryz.ntmps143
  go_wp2_with fail
  refine (unhide HS).mono ?_
  rintro e w2 ⟨rfl, d', hd, hd2, hf⟩
  have HRES : Hid (SetPost D w (fun d' w' => d' = { d with done := true }) (.returned (.int .i64 0)) w2) := hide ⟨rfl, d', hd, hd2, (HF.out.mono (by simp)).trans hf⟩
  clear hd hf hd2
  go_wp2
  go_ret
  exact HRES.out

/-- A table of lengths that NewDecoder takes. -/
structure LOk (L : List Nat) : Prop where
  hL : ∀ x ∈ L, x ≤ 15
  len : L.length ≤ 320
  good : Hf.Good L
  kr : Hf.kr L ≤ 2 ^ 15
  chk : Hf.chk (Hf.zI L) = 0
/-- A decoder of a code, some bits into a symbol; its symbols lie where nothing is written. -/
def Dec (w : World) (G : List Nat) (v : Value) (L : List Nat) (n c : Nat) : Prop :=
  ∃ D g sv, v = .pointer (some ⟨D, 0, none⟩) ∧ D ∈ G ∧ (∀ b, g = some b → b ∉ G ∧ b ∉ Foreign.F) ∧ Hf.DB w D L (Hf.stt L) (Hf.lgs L 15) c n sv ∧ Hf.NAt w sv g (Hf.sys L 15)
omit [Foreign] in
theorem Hf_db_blk {w : World} {D : Nat} {L : List Nat} {st : Nat → Int} {lg c n : Int} {sv : Value} (h : Hf.DB w D L st lg c n sv) : D < w.heap.size := h.lt
/-- A decoder stays what it is where its block is not written. -/
theorem Dec.keep {w w' : World} {G G' S : List Nat} {v : Value} {L : List Nat} {n c : Nat} (h : Dec w G v L n c) (hf : Fr S w w') (hS : ∀ b ∈ S, b ∈ G) (hg : Grows w G G') (hsub : ∀ b ∈ G, b ∈ G')
    (hne : ∀ D, v = .pointer (some ⟨D, 0, none⟩) → D ∉ S) : Dec w' G' v L n c := by
  obtain ⟨D, g, sv, h1, h2, h3, h4, h5⟩ := h
  have hgS : ∀ b, g = some b → b ∉ S := fun b hb hm => (h3 b hb).1 (hS b hm)
  refine ⟨D, g, sv, h1, hsub D h2, fun b hb => ⟨fun hm => ?_, (h3 b hb).2⟩, h4.fr hf (hne D h1), SlAt.fr h5 hf hgS⟩
  rcases hg b hm with h6 | h6
  · exact (h3 b hb).1 h6
  · obtain ⟨cur, hc⟩ := SlAt.lt h5 b hb
    have := lt_of_blk hc
    omega
theorem Dec.new {w : World} {G : List Nat} {L : List Nat} {D : Nat} {g : Option Nat} {sv : Value} (h4 : Hf.DB w D L (Hf.stt L) (Hf.lgs L 15) ((0 : Nat) : Int) ((0 : Nat) : Int) sv) (h5 : Hf.NAt w sv g (Hf.sys L 15)) (hD : D ∈ G) (hg : ∀ b, g = some b → b ∉ G ∧ b ∉ Foreign.F) : Dec w G (.pointer (some ⟨D, 0, none⟩)) L 0 0 :=
  ⟨D, g, sv, rfl, hD, hg, h4, h5⟩

/-- What codes leaves: two fresh decoders, and literal's boxes. -/
def CodesPost (D : Nat) (d : DV) (A B : List Nat) (G : List Nat) (w : World) (e : Ending) (w' : World) : Prop :=
  e = .returned (.int .i64 0) ∧ ∃ Da Db d' c1 c2 c3, w.heap.size ≤ Da ∧ w.heap.size ≤ Db ∧ Da ≠ Db ∧ DI w' D d' ∧ d' = { d with code := .pointer (some ⟨Da, 0, none⟩), next := .func (.func 157) #[] #[c1, c2, c3] } ∧
    Box w' (Da :: Db :: G) c1 173 (.pointer (some ⟨D, 0, none⟩)) ∧ Box w' (Da :: Db :: G) c2 192 (.pointer (some ⟨Da, 0, none⟩)) ∧ Box w' (Da :: Db :: G) c3 192 (.pointer (some ⟨Db, 0, none⟩)) ∧
    Dec w' (Da :: Db :: G) (.pointer (some ⟨Da, 0, none⟩)) A 0 0 ∧ Dec w' (Da :: Db :: G) (.pointer (some ⟨Db, 0, none⟩)) B 0 0 ∧ In w' (Da :: Db :: G) ∧ Fr [D] w w'

set_option maxRecDepth 100000 in
set_option maxHeartbeats 2000000 in
theorem codes144_any (D : Nat) (d : DV) (va vb : Value) (A B : List Nat) (G : List Nat) (w : World) (h : DI w D d) (hG : In w G) (hDG : D ∈ G) (ha : Hf.IR w va (Hf.zI A)) (hb : Hf.IR w vb (Hf.zI B)) (oka : LOk A) (okb : LOk B) :
    Calls Tryz.prog 144 #[.pointer (some ⟨D, 0, none⟩), va, vb] w (CodesPost D d A B G w) := by
  have HD := hide h
  have HG := hide hG
  have HB := hide hb
  have HOB := hide okb
  have H1 := hide (Hf.newdec20_any va A w ha oka.hL oka.len oka.chk)
  have hDl := h.lt
  clear h hG ha hb oka okb
  go_enter Tryz.func144, Tryz.ntmps144
  go_wp2_with fail
  refine (unhide H1).mono ?_
  rintro e w1 ⟨Da, ga, sa, rfl, hDa, hdb, hna, hga, hf1⟩
  have H2 := hide (Hf.newdec20_any vb B w1 (HB.out.fr hf1) HOB.out.hL HOB.out.len HOB.out.chk)
  have HA := hide (And.intro hdb hna)
  have HGA := hide hga
  have HF1 := hide hf1
  have HDA := hide hDa
  clear hdb hna hga hf1 hDa
  go_wp2_with fail
  refine (unhide H2).mono ?_
  rintro e w2 ⟨Db, gb, sb, rfl, hDb, hdb, hnb, hgb, hf2⟩
  have hdal := Hf_db_blk HA.out.1
  have hs1 := HF1.out.size
  have hdi : DI w2 D d := (HD.out.fr HF1.out (by simp)).fr hf2 (by simp)
  have hin : In w2 (Da :: Db :: G) := by
    refine HG.out.of2 (by have := hf2.size; omega) fun b hb => ?_
    rcases List.mem_cons.1 hb with rfl | hb
    · have := hf2.size; omega
    · rcases List.mem_cons.1 hb with rfl | hb
      · exact hdb.lt
      · have := HG.out b hb; have := hf2.size; omega
  have HL := hide (literal152_any D d (some ⟨Da, 0, none⟩) (some ⟨Db, 0, none⟩) (Da :: Db :: G) w2 hdi hin)
  have hsa : ∀ b, ga = some b → b < w1.heap.size := fun b hb => by obtain ⟨cur, hc⟩ := SlAt.lt HA.out.2 b hb; exact lt_of_blk hc
  have HX : Hid (w.heap.size ≤ Da ∧ w.heap.size ≤ Db ∧ Da ≠ Db ∧ Dec w2 (Da :: Db :: G) (.pointer (some ⟨Da, 0, none⟩)) A 0 0 ∧ Dec w2 (Da :: Db :: G) (.pointer (some ⟨Db, 0, none⟩)) B 0 0 ∧ Fr [] w w2 ∧ In w2 (Da :: Db :: G) ∧ D ≠ Da ∧ D ≠ Db) := by
    have hda := HDA.out
    refine hide ⟨hda, by omega, by omega, Dec.new (HA.out.1.fr hf2 (by simp)) (SlAt.fr HA.out.2 hf2 (by simp)) (by simp) (fun b hb => ?_), Dec.new hdb hnb (by simp) (fun b hb => ?_), HF1.out.trans hf2, hin, by omega, by omega⟩
    · have h1 := HGA.out b hb
      have h2 := hsa b hb
      simp only [List.mem_cons, not_or]
      exact ⟨⟨h1.2, by omega, HG.out.new h1.1⟩, HG.out.newF h1.1⟩
    · have h1 := hgb b hb
      simp only [List.mem_cons, not_or]
      exact ⟨⟨by omega, h1.2, HG.out.new (by omega)⟩, HG.out.newF (by omega)⟩
  clear hDb hdb hnb hgb hf2 hdi hin hsa hdal hs1
  go_wp2_with fail
  refine (unhide HL).mono ?_
  rintro e w3 ⟨rfl, d', hd, ⟨c1, c2, c3, hde, x1, x2, x3⟩, hf3⟩
  obtain ⟨g1, g2, g3, g4, g5, g6, g7, g8, g9⟩ := HX.out
  have HRES : Hid (CodesPost D d A B G w (.returned (.int .i64 0)) w3) := by
    refine hide ⟨rfl, Da, Db, d', c1, c2, c3, g1, g2, g3, hd, hde, x1, x2, x3, ?_, ?_, g7.fr hf3, (g6.mono (by simp)).trans hf3⟩
    · exact g4.keep hf3 (fun b hb => by simp at hb; subst hb; simp [hDG]) (Grows.refl _ _) (fun _ h => h) (fun D' hD' => by injection hD' with hD'; injection hD' with hD'; injection hD' with hD' _; subst hD'; simpa using fun h => g8 h.symm)
    · exact g5.keep hf3 (fun b hb => by simp at hb; subst hb; simp [hDG]) (Grows.refl _ _) (fun _ h => h) (fun D' hD' => by injection hD' with hD'; injection hD' with hD'; injection hD' with hD' _; subst hD'; simpa using fun h => g9 h.symm)
  clear hd hde x1 x2 x3 hf3 g1 g2 g3 g4 g5 g6 g7 g8 g9
  go_wp2
  go_ret
  exact HRES.out
end Go.Proofs.YthmhcnnigepohaaGreatDoor.If

/- inflate.Decoder: put, copy. -/
namespace Go.Proofs.YthmhcnnigepohaaGreatDoor.If
open Go.RowKit
open Dg (BAt bcells)
set_option linter.unusedVariables false
variable [Foreign]

/-- What the decoder has put out. -/
def Outs (w : World) (d : DV) (G : List Nat) (gp gf : Option Nat) (out fresh : List UInt8) : Prop :=
  BAt w d.past gp out ∧ BAt w d.fresh gf fresh ∧ (∀ b, gp = some b → b ∈ G) ∧ (∀ b, gf = some b → b ∈ G) ∧ (∀ b, gp = some b → gf ≠ some b) ∧ d.tot = out.length
omit [Foreign] in
theorem bat_ne {w : World} {D : Nat} {d : DV} {v : Value} {g : Option Nat} {l : List UInt8} (h : DI w D d) (hb : BAt w v g l) : ∀ b, g = some b → b ≠ D := by
  rintro b hg rfl
  obtain ⟨cur, hc⟩ := SlAt.lt hb b hg
  rw [h] at hc
  injection hc with hc
  injection hc with _ hc _
  cases hc
omit [Foreign] in
theorem bat_lt {w : World} {v : Value} {g : Option Nat} {l : List UInt8} (hb : BAt w v g l) : ∀ b, g = some b → b < w.heap.size := by
  intro b hg
  obtain ⟨cur, hc⟩ := SlAt.lt hb b hg
  exact lt_of_blk hc
omit [Foreign] in
theorem Outs.fr {w w' : World} {d : DV} {G S : List Nat} {gp gf : Option Nat} {out fresh : List UInt8} (h : Outs w d G gp gf out fresh) (hf : Fr S w w') (h1 : ∀ b, gp = some b → b ∉ S) (h2 : ∀ b, gf = some b → b ∉ S) : Outs w' d G gp gf out fresh := by
  obtain ⟨a, b, c, e, f, g⟩ := h
  exact ⟨SlAt.fr a hf h1, SlAt.fr b hf h2, c, e, f, g⟩
/-- What is written by put. -/
def wS (D : Nat) (gp gf : Option Nat) : List Nat := D :: (gp.toList ++ gf.toList)
def PutPost (D : Nat) (d : DV) (gp gf : Option Nat) (G : List Nat) (out fresh : List UInt8) (w : World) (e : Ending) (w' : World) : Prop :=
  e = .returned (.int .i64 0) ∧ ∃ p f t gp' gf', DI w' D { d with past := p, fresh := f, tot := t } ∧ Outs w' { d with past := p, fresh := f, tot := t } (gp'.toList ++ gf'.toList ++ G) gp' gf' out fresh ∧
    (∀ b, gp' = some b → gp = some b ∨ w.heap.size ≤ b) ∧ (∀ b, gf' = some b → gf = some b ∨ w.heap.size ≤ b) ∧ Fr (wS D gp gf) w w'

set_option maxRecDepth 100000 in
set_option maxHeartbeats 4000000 in
omit [Foreign] in
theorem put150_any (D : Nat) (d : DV) (gp gf : Option Nat) (G : List Nat) (out fresh : List UInt8) (c : UInt8) (w : World) (h : DI w D d) (ho : Outs w d G gp gf out fresh) (hi : 0 ≤ d.inp ∧ d.inp ≤ 1000000) (h1 : out.length < 65536) (h2 : (out.length : Int) < 1100 * d.inp + 1024) (h3 : fresh.length ≤ 65536) :
    Calls Tryz.prog 150 #[.pointer (some ⟨D, 0, none⟩), .int .u8 (c.toNat : Int)] w (PutPost D d gp gf G (out ++ [c]) (fresh ++ [c]) w) := by
  have HD := hide h
  have HO := hide ho
  obtain ⟨o1, o2, o3, o4, o5, o6⟩ := ho
  have hpD := bat_ne h o1
  have hfD := bat_ne h o2
  have hpl := bat_lt o1
  have hfl := bat_lt o2
  obtain ⟨past, tot, fr0, inp, last, done, skip, rest, acc, have_, need, code, next⟩ := d
  simp only at o1 o2 o6 hi h2
  obtain ⟨n, hn⟩ : ∃ n, n = out.length := ⟨_, rfl⟩
  obtain ⟨m, hm⟩ : ∃ m, m = fresh.length := ⟨_, rfl⟩
  obtain ⟨pa, pc, hpv⟩ := SlAt.shape o1
  obtain ⟨fa, fc, hfv⟩ := SlAt.shape o2
  rw [← hn] at h1 h2 o6 hpv
  rw [← hm] at hfv h3
  have HN := hide hn
  have HM := hide hm
  have hl := h.lt
  have c0 : w.cell? ⟨D, 0, none⟩ = some (.int .i64 65536) := cell_blk h 0
  have c1 : w.cell? ⟨D, 1, none⟩ = some (.int .i64 1100) := cell_blk h 1
  have c2 : w.cell? ⟨D, 2, none⟩ = some past := cell_blk h 2
  have c3 : w.cell? ⟨D, 3, none⟩ = some (.int .i64 tot) := cell_blk h 3
  have c4 : w.cell? ⟨D, 4, none⟩ = some fr0 := cell_blk h 4
  have c5 : w.cell? ⟨D, 5, none⟩ = some (.int .i64 inp) := cell_blk h 5
  have f2 : w.frozen? ⟨D, 2, none⟩ = false := froz_blk h 2
  have f3 : w.frozen? ⟨D, 3, none⟩ = false := froz_blk h 3
  have f4 : w.frozen? ⟨D, 4, none⟩ = false := froz_blk h 4
  subst o6 hpv hfv
  have zm : IntKind.i64.wrap (1100 * inp) = 1100 * inp := IntWalk.i64_in _ (by omega)
  have za : IntKind.i64.wrap (1100 * inp + 1024) = 1100 * inp + 1024 := IntWalk.i64_in _ (by omega)
  have d1 : decide ((65536 : Int) ≤ (n : Int)) = false := by simp; omega
  have d2 : decide (1100 * inp + 1024 ≤ (n : Int)) = false := by simp; omega
  clear h o1 o2 o3 o4 o5 hpD hfD hpl hfl hn hm
  go_enter Tryz.func150, Tryz.ntmps150
  go_upto_region 1 with (fail)
  go_quiet (fail)
  go_upto_region 4 with (fail)
  obtain ⟨wA, hwA⟩ : ∃ x, x = (w.drewN nq).setCell ⟨D, 3, none⟩ (.int .i64 ((n : Int) + 1)) := ⟨_, rfl⟩
  rw [← hwA]
  have hfA : Fr [D] w wA := by rw [hwA]; exact ((Fr.refl [D] w).drewN nq).setCell (.inl (by simp)) _
  have hdA : DI wA D ⟨.slice pa n pc, (n : Int) + 1, .slice fa m fc, inp, last, done, skip, rest, acc, have_, need, code, next⟩ := by
    rw [hwA]; exact heap_set_same (show (w.drewN nq).heap[D]? = _ from HD.out)
  obtain ⟨o1, o2, o3, o4, o5, -⟩ := HO.out
  have hpD := bat_ne HD.out o1
  have hfD := bat_ne HD.out o2
  have oA1 : BAt wA (.slice pa n pc) gp out := SlAt.fr o1 hfA (fun b hb => by simpa using hpD b hb)
  have oA2 : BAt wA (.slice fa m fc) gf fresh := SlAt.fr o2 hfA (fun b hb => by simpa using hfD b hb)
  clear hwA c0 c1 c2 c3 c4 c5 f2 f3 f4 zm za d1 d2 hl
  obtain ⟨v1, w1, gf', hap1, hb1, hf1, hg1⟩ := oA2.push [c] #[.int .u8 (c.toNat : Int)] rfl (by simp) (by have := HM.out; simp; omega)
  obtain ⟨va, vc, hv1⟩ := SlAt.shape hb1
  rw [List.length_append, ← HM.out, List.length_singleton] at hv1
  have hDf : D ∉ gf.toList := fun hm => hfD D (by simpa using hm) rfl
  have hd1 := hdA.fr hf1 hDf
  have hap1 : (Builtin.append_ #[22, 22] 22 #[.slice fa m fc, .slice (some ⟨wA.heap.size, 0, none⟩) 1 1]).run Tryz.prog (wA.alloc (.cells #[.int .u8 (c.toNat : Int)] 5)) = .ok v1 w1 := hap1
  have a4 : wA.cell? ⟨D, 4, none⟩ = some (.slice fa m fc) := cell_blk hdA 4
  have af4 : wA.frozen? ⟨D, 4, none⟩ = false := froz_blk hdA 4
  have b4 : w1.cell? ⟨D, 4, none⟩ = some (.slice fa m fc) := cell_blk hd1 4
  have bf4 : w1.frozen? ⟨D, 4, none⟩ = false := froz_blk hd1 4
  have al := hdA.lt
  have bl := hd1.lt
  -- past
  obtain ⟨wB, hwB⟩ : ∃ x, x = w1.setCell ⟨D, 4, none⟩ v1 := ⟨_, rfl⟩
  have hdB : DI wB D ⟨.slice pa n pc, (n : Int) + 1, v1, inp, last, done, skip, rest, acc, have_, need, code, next⟩ := by rw [hwB]; exact heap_set_same hd1
  have hfB : Fr [D] w1 wB := by rw [hwB]; exact (Fr.refl [D] w1).setCell (.inl (by simp)) _
  have hpf : ∀ b, gp = some b → b ∉ gf.toList := fun b hb hm => o5 b hb (by simpa using hm)
  have oB1 : BAt wB (.slice pa n pc) gp out := SlAt.fr (SlAt.fr oA1 hf1 hpf) hfB (fun b hb => by simpa using hpD b hb)
  obtain ⟨v2, w2, gp', hap2, hb2, hf2, hg2⟩ := oB1.push [c] #[.int .u8 (c.toNat : Int)] rfl (by simp) (by have := HN.out; simp; omega)
  obtain ⟨ya, yc, hv2⟩ := SlAt.shape hb2
  rw [List.length_append, ← HN.out, List.length_singleton] at hv2
  have hDp : D ∉ gp.toList := fun hm => hpD D (by simpa using hm) rfl
  have hd2 := hdB.fr hf2 hDp
  have hap2 : (Builtin.append_ #[22, 22] 22 #[.slice pa n pc, .slice (some ⟨wB.heap.size, 0, none⟩) 1 1]).run Tryz.prog (wB.alloc (.cells #[.int .u8 (c.toNat : Int)] 5)) = .ok v2 w2 := hap2
  have e2 : wB.cell? ⟨D, 2, none⟩ = some (.slice pa n pc) := cell_blk hdB 2
  have ef2 : wB.frozen? ⟨D, 2, none⟩ = false := froz_blk hdB 2
  have g2 : w2.cell? ⟨D, 2, none⟩ = some (.slice pa n pc) := cell_blk hd2 2
  have gf2 : w2.frozen? ⟨D, 2, none⟩ = false := froz_blk hd2 2
  have el := hdB.lt
  have gl := hd2.lt
  have HRES : Hid (PutPost D ⟨.slice pa n pc, (n : Int), .slice fa m fc, inp, last, done, skip, rest, acc, have_, need, code, next⟩ gp gf G (out ++ [c]) (fresh ++ [c]) w (.returned (.int .i64 0)) (w2.setCell ⟨D, 2, none⟩ v2)) := by
    have hfC : Fr [D] w2 (w2.setCell ⟨D, 2, none⟩ v2) := (Fr.refl [D] w2).setCell (.inl (by simp)) _
    have hf2' : BAt w2 v1 gf' (fresh ++ [c]) := SlAt.fr (SlAt.fr hb1 hfB (fun b hb => by
      rcases hg1 with h | ⟨b2, h, h2⟩
      · rw [h] at hb; simpa using hfD b hb
      · rw [h] at hb; injection hb with hb; have := hdA.lt; simp; omega)) hf2 (fun b hb hm => by
      rcases hg1 with h | ⟨b2, h, h2⟩
      · exact o5 b (by simpa using hm) (h ▸ hb)
      · rw [h] at hb; injection hb with hb
        have h5 := bat_lt o1 b (by simpa using hm)
        have := hfA.size
        omega)
    have hnn : ∀ b, gp' = some b → gf' ≠ some b := by
      intro b hb hb2
      have hlt := bat_lt hb1 b hb2
      rcases hg2 with h | ⟨b3, h, h3⟩
      · rw [h] at hb
        rcases hg1 with h4 | ⟨b4, h4, h5⟩
        · exact o5 b hb (h4 ▸ hb2)
        · rw [h4] at hb2; injection hb2 with hb2
          have h6 := bat_lt o1 b hb
          have := hfA.size
          omega
      · rw [h] at hb; injection hb with hb
        have := hfB.size
        omega
    have hA1 := hfA.size
    have hA2 := hf1.size
    have hA3 := hfB.size
    refine hide ⟨rfl, v2, v1, (n : Int) + 1, gp', gf', heap_set_same hd2, ⟨SlAt.fr hb2 hfC (fun b hb => ?_), SlAt.fr hf2' hfC (fun b hb => ?_), fun b hb => by simp [hb], fun b hb => by simp [hb], hnn, by simp; have := HN.out; omega⟩, fun b hb => ?_, fun b hb => ?_, ?_⟩
    · rcases hg2 with h | ⟨b3, h, h3⟩
      · rw [h] at hb; simpa using hpD b hb
      · rw [h] at hb; injection hb with hb; have := hdB.lt; simp; omega
    · rcases hg1 with h | ⟨b2, h, h2⟩
      · rw [h] at hb; simpa using hfD b hb
      · rw [h] at hb; injection hb with hb; have := hdA.lt; simp; omega
    · rcases hg2 with h | ⟨b3, h, h3⟩
      · exact .inl (h ▸ hb)
      · rw [h] at hb; injection hb with hb; right; omega
    · rcases hg1 with h | ⟨b3, h, h3⟩
      · exact .inl (h ▸ hb)
      · rw [h] at hb; injection hb with hb; right; omega
    · have s1 : ∀ b ∈ [D], b ∈ wS D gp gf := by simp [wS]
      have s2 : ∀ b ∈ gf.toList, b ∈ wS D gp gf := by intro b hb; simp only [wS, List.mem_cons, List.mem_append]; exact .inr (.inr hb)
      have s3 : ∀ b ∈ gp.toList, b ∈ wS D gp gf := by intro b hb; simp only [wS, List.mem_cons, List.mem_append]; exact .inr (.inl hb)
      exact ((((hfA.sub s1).trans (hf1.sub s2)).trans (hfB.sub s1)).trans (hf2.sub s3)).trans (hfC.sub s1)
  rw [hv2] at hap2 HRES
  rw [hv1] at hap1 hwB
  have HWB := hide hwB
  clear hfA hdA o1 o2 o3 o4 o5 hpD hfD oA1 oA2 hb1 hf1 hg1 hDf hd1 hdB hfB hpf oB1 hb2 hf2 hg2 hDp hd2 hwB hv1 hv2
  have d3 : decide ((65536 : Int) ≤ (n : Int)) = false := by simp; omega
  go_upto_region 5 with (at_builtin; refine wpList_append_run rfl _ _ 22 rfl hap1 rfl rfl ?_)
  rw [← HWB.out]
  clear a4 af4 b4 bf4 al bl hap1
  go_wp2_with (at_builtin; refine wpList_append_run rfl _ _ 22 rfl hap2 rfl rfl ?_)
  go_ret
  exact HRES.out
end Go.Proofs.YthmhcnnigepohaaGreatDoor.If

/- inflate.Decoder: copy. -/
namespace Go.Proofs.YthmhcnnigepohaaGreatDoor.If
open Go.RowKit
open Dg (BAt bcells)
set_option linter.unusedVariables false
variable [Foreign]

/-- The bytes of a copy. -/
def cp (far : Nat) : Nat → List UInt8 → List UInt8
  | 0, _ => []
  | n + 1, l => l.getD (l.length - far) 0 :: cp far n (l ++ [l.getD (l.length - far) 0])
omit [Foreign] in
theorem cp_len (far : Nat) : ∀ (n : Nat) (l : List UInt8), (cp far n l).length = n
  | 0, _ => rfl
  | n + 1, l => by simp [cp, cp_len far n]
omit [Foreign] in
theorem cp_snoc (far : Nat) : ∀ (n : Nat) (l : List UInt8), cp far (n + 1) l = cp far n l ++ [(l ++ cp far n l).getD (l.length + n - far) 0]
  | 0, l => by simp [cp]
  | n + 1, l => by
    have ih := cp_snoc far n (l ++ [l.getD (l.length - far) 0])
    rw [cp, ih, cp]
    simp only [List.cons_append, List.append_assoc, List.length_append, List.length_singleton, List.nil_append]
    rw [show l.length + 1 + n - far = l.length + (n + 1) - far by omega]
omit [Foreign] in
theorem bat_get {w : World} {v : Value} {g : Option Nat} {l : List UInt8} (h : BAt w v g l) {i : Nat} (hi : i < l.length) :
    ∃ b off cap, g = some b ∧ v = .slice (some ⟨b, off, none⟩) l.length cap ∧ b < w.heap.size ∧ w.cell? ⟨b, off + i, none⟩ = some (.int .u8 ((l.getD i 0).toNat : Int)) := by
  rcases h with ⟨_, _, h1, _⟩ | ⟨b, off, cap, cur, hg, hv, hblk, hnc, hfit, hxs, hcells⟩
  · omega
  · refine ⟨b, off, cap, hg, hv, lt_of_blk hblk, ?_⟩
    rw [cell_blk hblk]
    exact hcells i _ (by simp [bcells, List.getElem?_eq_getElem hi, List.getD])

omit [Foreign] in
theorem Outs.regrow {w : World} {d : DV} {G : List Nat} {gp gf : Option Nat} {out fresh : List UInt8} (h : Outs w d G gp gf out fresh) (G' : List Nat) : Outs w d (gp.toList ++ gf.toList ++ G') gp gf out fresh := by
  obtain ⟨a, b, c, e, f, g⟩ := h
  exact ⟨a, b, fun x hx => by simp [hx], fun x hx => by simp [hx], f, g⟩

set_option maxRecDepth 100000 in
set_option maxHeartbeats 4000000 in
omit [Foreign] in
theorem copy161_any (D : Nat) (d : DV) (gp gf : Option Nat) (G : List Nat) (out fresh : List UInt8) (n far : Nat) (w : World) (h : DI w D d) (ho : Outs w d G gp gf out fresh) (hi : 0 ≤ d.inp ∧ d.inp ≤ 1000000) (h1 : out.length + n ≤ 65536) (h2 : (out.length : Int) + n ≤ 1100 * d.inp + 1024) (h3 : fresh.length + n ≤ 65536) (hf1 : 1 ≤ far) (hf2 : far ≤ out.length) :
    Calls Tryz.prog 161 #[.pointer (some ⟨D, 0, none⟩), .int .i64 n, .int .i64 far] w (PutPost D d gp gf G (out ++ cp far n out) (fresh ++ cp far n out) w) := by
  have HO := hide ho
  have HD := hide h
  have hl := h.lt
  obtain ⟨m, hm⟩ : ∃ m, m = out.length := ⟨_, rfl⟩
  rw [← hm] at h1 h2 hf2
  have HM := hide hm
  have c3 : w.cell? ⟨D, 3, none⟩ = some (.int .i64 (m : Int)) := by rw [cell_blk h]; show some (Value.int .i64 d.tot) = _; rw [ho.2.2.2.2.2, hm]
  have HI := hide hi
  have HH2 := hide h2
  have dm : decide (m < far) = false := by simp; omega
  clear h ho hm hi h2
  go_enter Tryz.func161, Tryz.ntmps161
  go_wp2_with fail
  clear c3 hl
  have HNF : Hid (∀ k, 1 ≤ out.length + k - far + far ∧ out.length + k - far < out.length + k) := hide (fun k => by have := HM.out; omega)
  go_loopg [15] (n + 1) (fun gk i wr => ∃ (k : Nat) (p f : Value) (t : Int) (gp' gf' : Option Nat), gk = n + 1 - k ∧ k ≤ n ∧ i = .int .i64 k ∧ DI wr D { d with past := p, fresh := f, tot := t } ∧ Outs wr { d with past := p, fresh := f, tot := t } (gp'.toList ++ gf'.toList ++ G) gp' gf' (out ++ cp far k out) (fresh ++ cp far k out) ∧ (∀ b, gp' = some b → gp = some b ∨ w.heap.size ≤ b) ∧ (∀ b, gf' = some b → gf = some b ∨ w.heap.size ≤ b) ∧ Fr (wS D gp gf) w wr)
  case atStart => exact ⟨0, d.past, d.fresh, d.tot, gp, gf, rfl, by omega, rfl, HD.out, by simpa [cp] using HO.out.regrow G, fun b hb => .inl hb, fun b hb => .inl hb, Fr.refl _ _⟩
  case round =>
    obtain ⟨k, p, f, t, gp', gf', hgk, hk, rfl, hd, ho, hg1, hg2, hf⟩ := hrel
    have HGK := hide hgk
    have HD2 := hide hd
    have HO2 := hide ho
    have HG1 := hide hg1
    have HG2 := hide hg2
    have HF := hide hf
    by_cases hlt : k < n
    · obtain ⟨q, hq⟩ : ∃ q, q = m + k := ⟨_, rfl⟩
      have hll : (out ++ cp far k out).length = q := by rw [List.length_append, cp_len, ← HM.out, hq]
      obtain ⟨b, off, cap, hgb, hpv, hbl, hcell⟩ := bat_get ho.1 (i := q - far) (by rw [hll]; omega)
      rw [hll] at hpv
      simp only at hpv
      obtain ⟨c, hc⟩ : ∃ c, c = (out ++ cp far k out).getD (q - far) 0 := ⟨_, rfl⟩
      rw [← hc] at hcell
      have HCS : Hid (cp far (k + 1) out = cp far k out ++ [c]) := hide (by rw [cp_snoc, hc, ← HM.out, hq])
      have hdr : DI wr.drew D { d with past := p, fresh := f, tot := t } := hd
      have hor : Outs wr.drew { d with past := p, fresh := f, tot := t } (gp'.toList ++ gf'.toList ++ G) gp' gf' (out ++ cp far k out) (fresh ++ cp far k out) := ho.fr ((Fr.refl [] wr).drew) (by simp) (by simp)
      have hi2 : (q : Int) < 1100 * d.inp + 1024 := by have := HH2.out; omega
      have HP := hide (put150_any D _ gp' gf' (gp'.toList ++ gf'.toList ++ G) _ _ c wr.drew hdr hor HI.out (by rw [hll]; omega) (by rw [hll]; exact hi2) (by rw [List.length_append, cp_len]; omega))
      have e2 : wr.cell? ⟨D, 2, none⟩ = some (.slice (some ⟨b, off, none⟩) (q) cap) := by rw [cell_blk hd]; show some p = _; rw [hpv]
      have el := hd.lt
      have z1 : IntKind.i64.wrap ((q : Int) - (far : Int)) = (q : Int) - (far : Int) := IntWalk.i64_in _ (by omega)
      have b0 : (0 : Int) ≤ (q : Int) - (far : Int) ∧ (q : Int) - (far : Int) < (q : Int) := by omega
      have b1 : (far : Int) ≤ (q : Int) := by omega
      have b2 : far ≤ q := by omega
      have b3 : (0 : Int) < (far : Int) := by omega
      have b4 : 0 < far := by omega
      have z2 : ((q : Int) - (far : Int)).toNat = q - far := by omega
      have HQ := hide hq
      clear hgk hd ho hg1 hg2 hf hll hgb hpv hc hdr hor hq hi2
      go_upto_region 5 with (fail)
      go_still_tail 14, (by kernel_rfl)
      change wpList _ _ _ _ _ wr.drew
      go_wp2_with fail
      refine (unhide HP).mono ?_
      rintro e w2 ⟨rfl, p2, f2, t2, gp2, gf2, hd2, ho2, hx1, hx2, hf2⟩
      have HRND : Hid (DI w2 D { d with past := p2, fresh := f2, tot := t2 } ∧ Outs w2 { d with past := p2, fresh := f2, tot := t2 } (gp2.toList ++ gf2.toList ++ G) gp2 gf2 (out ++ cp far (k + 1) out) (fresh ++ cp far (k + 1) out) ∧ (∀ b, gp2 = some b → gp = some b ∨ w.heap.size ≤ b) ∧ (∀ b, gf2 = some b → gf = some b ∨ w.heap.size ≤ b) ∧ Fr (wS D gp gf) w w2) := by
        have hs := HF.out.size
        have hs2 : wr.drew.heap.size = wr.heap.size := rfl
        refine hide ⟨hd2, ?_, fun b hb => ?_, fun b hb => ?_, ?_⟩
        · rw [HCS.out, ← List.append_assoc, ← List.append_assoc]
          exact ho2.regrow G
        · rcases hx1 b hb with h | h
          · exact HG1.out b h
          · right; omega
        · rcases hx2 b hb with h | h
          · exact HG2.out b h
          · right; omega
        · refine (HF.out.drew).andThen hf2 (fun x hx => ?_)
          simp only [wS, List.mem_cons, List.mem_append, Option.mem_toList] at hx ⊢
          rcases hx with h | h | h
          · exact .inl (.inl h)
          · rcases HG1.out x h with h | h
            · exact .inl (.inr (.inl h))
            · exact .inr h
          · rcases HG2.out x h with h | h
            · exact .inl (.inr (.inr h))
            · exact .inr h
      clear hd2 ho2 hx1 hx2 hf2
      go_wp2_with fail
      go_roundg (n + 1 - (k + 1))
      case measure => have := HGK.out; omega
      case rel =>
        obtain ⟨r1, r2, r3, r4, r5⟩ := HRND.out
        exact ⟨k + 1, p2, f2, t2, gp2, gf2, rfl, by omega, by go_num, r1, r2, r3, r4, r5⟩
    · obtain rfl : k = n := by omega
      clear hgk hd ho hg1 hg2 hf
      go_wp2
      go_ret
      exact ⟨rfl, p, f, t, gp', gf', HD2.out, HO2.out, HG1.out, HG2.out, HF.out⟩
end Go.Proofs.YthmhcnnigepohaaGreatDoor.If

/- The lengths and distances of symbols. -/
namespace Go.Proofs.YthmhcnnigepohaaGreatDoor.If
open Go.RowKit
set_option linter.unusedVariables false

def lenK (s : Nat) : Nat := if s ≤ 264 ∨ s = 285 then 0 else (s - 261) / 4
def lenM (s : Nat) : Nat := if s ≤ 264 then s - 254 else if s = 285 then 258 else (4 + (s - 265) % 4) * 2 ^ ((s - 261) / 4) + 3
def dstK (s : Nat) : Nat := if s < 4 then 0 else s / 2 - 1
def dstM (s : Nat) : Nat := if s < 4 then s + 1 else (2 + s % 2) * 2 ^ (s / 2 - 1) + 1

set_option maxRecDepth 100000 in
set_option maxHeartbeats 2000000 in
theorem length49_any (s : Nat) (w : World) (h1 : 257 ≤ s) (h2 : s ≤ 285) :
    Calls Tryz.prog 49 #[.int .i64 s] w fun e w' => e = .returned (.tuple #[.int .i64 (lenM s), .int .i64 (lenK s)]) ∧ w = w' := by
  by_cases ha : s ≤ 264
  · have HM : Hid ((lenM s : Int) = (s : Int) - 254) := hide (by unfold lenM; rw [if_pos ha]; omega)
    have HK : Hid (lenK s = 0) := hide (by unfold lenK; rw [if_pos (.inl ha)])
    go_enter Tryz.func49, Tryz.ntmps49
    go_wp2
    go_ret2
    exact ⟨by rw [HM.out, HK.out]; rfl, rfl⟩
  by_cases hb : s = 285
  · subst hb
    go_enter Tryz.func49, Tryz.ntmps49
    go_wp2
    go_ret2
    exact ⟨by rfl, rfl⟩
  obtain ⟨k, hk⟩ : ∃ k, k = (s - 261) / 4 := ⟨_, rfl⟩
  obtain ⟨r, hr⟩ : ∃ r, r = (s - 265) % 4 := ⟨_, rfl⟩
  obtain ⟨P, hP⟩ : ∃ P, P = 2 ^ k := ⟨_, rfl⟩
  have hkb : 1 ≤ k ∧ k ≤ 5 := by omega
  have hrb : r ≤ 3 := by omega
  have hPb : P ≤ 32 := by rw [hP]; exact Nat.pow_le_pow_right (n := 2) (by omega) (show k ≤ 5 by omega)
  have e1 : ((s : Int) - 261).tdiv 4 = (k : Int) := by rw [Int.tdiv_eq_ediv_of_nonneg (by omega)]; omega
  have e1' : ((s : Int) - 261) / 4 = (k : Int) := by omega
  have e2 : ((s : Int) - 265).tmod 4 = (r : Int) := by rw [Int.tmod_eq_emod_of_nonneg (by omega)]; omega
  have e2' : ((s : Int) - 265) % 4 = (r : Int) := by omega
  have e3 : (2 : Int) ^ k = (P : Int) := by rw [hP]; simp
  have hb2 : ((s : Int) == 285) = false := by simp; omega
  have hmul : (4 + (r : Int)) * (P : Int) ≤ 300 ∧ 0 ≤ (4 + (r : Int)) * (P : Int) := by
    have : (4 + r) * P ≤ 7 * 32 := Nat.mul_le_mul (by omega) hPb
    have h2 : (((4 + r) * P : Nat) : Int) = (4 + (r : Int)) * (P : Int) := by simp
    omega
  have HM : Hid ((lenM s : Int) = (4 + (r : Int)) * (P : Int) + 3) := hide (by
    unfold lenM
    rw [if_neg ha, if_neg hb, ← hk, ← hr, ← hP]
    simp)
  have HK : Hid (lenK s = k) := hide (by unfold lenK; rw [if_neg (by omega), ← hk])
  rw [HK.out]
  obtain ⟨M, hM⟩ : ∃ M, M = lenM s := ⟨_, rfl⟩
  rw [← hM] at HM ⊢
  clear hk hr hP hM
  go_enter Tryz.func49, Tryz.ntmps49
  go_wp2
  go_ret2
  exact ⟨by rw [HM.out]; rfl, rfl⟩

set_option maxRecDepth 100000 in
set_option maxHeartbeats 2000000 in
theorem distance50_any (s : Nat) (w : World) (h2 : s ≤ 29) :
    Calls Tryz.prog 50 #[.int .i64 s] w fun e w' => e = .returned (.tuple #[.int .i64 (dstM s), .int .i64 (dstK s)]) ∧ w = w' := by
  by_cases ha : s < 4
  · have HM : Hid ((dstM s : Int) = (s : Int) + 1) := hide (by unfold dstM; rw [if_pos ha]; omega)
    have HK : Hid (dstK s = 0) := hide (by unfold dstK; rw [if_pos ha])
    go_enter Tryz.func50, Tryz.ntmps50
    go_wp2
    go_ret2
    exact ⟨by rw [HM.out, HK.out]; rfl, rfl⟩
  obtain ⟨q, hq⟩ : ∃ q, q = s / 2 := ⟨_, rfl⟩
  obtain ⟨k, hk⟩ : ∃ k, k = q - 1 := ⟨_, rfl⟩
  obtain ⟨r, hr⟩ : ∃ r, r = s % 2 := ⟨_, rfl⟩
  obtain ⟨P, hP⟩ : ∃ P, P = 2 ^ k := ⟨_, rfl⟩
  have hkb : 1 ≤ k ∧ k ≤ 13 := by omega
  have hrb : r ≤ 1 := by omega
  have hPb : P ≤ 8192 := by rw [hP]; exact Nat.pow_le_pow_right (n := 2) (by omega) (show k ≤ 13 by omega)
  have e1 : (s : Int).tdiv 2 = (q : Int) := by rw [Int.tdiv_eq_ediv_of_nonneg (by omega)]; omega
  have e1' : (s : Int) / 2 = (q : Int) := by omega
  have e4 : (q : Int) - 1 = (k : Int) := by omega
  have e2 : (s : Int).tmod 2 = (r : Int) := by rw [Int.tmod_eq_emod_of_nonneg (by omega)]; omega
  have e2' : (s : Int) % 2 = (r : Int) := by omega
  have e3 : (2 : Int) ^ k = (P : Int) := by rw [hP]; simp
  have hmul : (2 + (r : Int)) * (P : Int) ≤ 30000 ∧ 0 ≤ (2 + (r : Int)) * (P : Int) := by
    have : (2 + r) * P ≤ 3 * 8192 := Nat.mul_le_mul (by omega) hPb
    have h2 : (((2 + r) * P : Nat) : Int) = (2 + (r : Int)) * (P : Int) := by simp
    omega
  have HM : Hid ((dstM s : Int) = (2 + (r : Int)) * (P : Int) + 1) := hide (by
    unfold dstM
    rw [if_neg ha, ← hq, ← hk, ← hr, ← hP]
    simp)
  have HK : Hid (dstK s = k) := hide (by unfold dstK; rw [if_neg ha, ← hq, ← hk])
  rw [HK.out]
  obtain ⟨M, hM⟩ : ∃ M, M = dstM s := ⟨_, rfl⟩
  rw [← hM] at HM ⊢
  clear hq hk hr hP hM
  go_enter Tryz.func50, Tryz.ntmps50
  go_wp2
  go_ret2
  exact ⟨by rw [HM.out]; rfl, rfl⟩
end Go.Proofs.YthmhcnnigepohaaGreatDoor.If
