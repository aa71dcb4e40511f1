/- inflate.Decoder: the closures at a block's head and end, and of stored blocks. -/
import Derived.Test.YthmhcnnigepohaaGreatDoorM16
import Derived.StillTailTactics
namespace Go.Proofs.YthmhcnnigepohaaGreatDoor.If
open Go.RowKit
open Dg (BAt bcells)
set_option linter.unusedVariables false
variable [Foreign]

section
variable {w w' : World} {D : Nat} {G G' : List Nat} {d : DV} {gp gf gp' gf' : Option Nat} {inp : Int} {rest : ByteArray} {last done skip : Bool} {out fresh : List UInt8}
/-- Some cells of the decoder's own set. -/
theorem Core.upd (h : Core w D G d gp gf inp rest last done skip out fresh) {d' : DV} {inp' : Int} {rest' : ByteArray} {last' done' skip' : Bool} (hd : DI w' D d') (hf : Fr [D] w w') (e1 : d'.past = d.past) (e2 : d'.fresh = d.fresh) (e3 : d'.tot = d.tot)
    (k1 : d'.last = last') (k2 : d'.done = done') (k3 : d'.skip = skip') (k4 : d'.inp = inp') (k5 : d'.rest = rest') : Core w' D G d' gp gf inp' rest' last' done' skip' out fresh := by
  obtain ⟨o1, o2, o3, o4, o5, o6⟩ := h.outs
  refine ⟨hd, h.mem, h.inn.fr hf, ⟨?_, ?_, o3, o4, o5, by rw [e3]; exact o6⟩, k1, k2, k3, k4, k5⟩
  · rw [e1]; exact SlAt.fr o1 hf (fun b hb => by simpa using bat_ne h.di o1 b hb)
  · rw [e2]; exact SlAt.fr o2 hf (fun b hb => by simpa using bat_ne h.di o2 b hb)
/-- More blocks that may be written. -/
theorem Core.grow (h : Core w D G d gp gf inp rest last done skip out fresh) (hs : ∀ b ∈ G, b ∈ G') (hin : In w G') : Core w D G' d gp gf inp rest last done skip out fresh := by
  obtain ⟨o1, o2, o3, o4, o5, o6⟩ := h.outs
  exact ⟨h.di, hs _ h.mem, hin, ⟨o1, o2, fun b hb => hs _ (o3 b hb), fun b hb => hs _ (o4 b hb), o5, o6⟩, h.last, h.done, h.skip, h.inp, h.rest⟩
end

set_option maxRecDepth 100000 in
set_option maxHeartbeats 2000000 in
theorem fire157_end (D : Nat) (G : List Nat) (d : DV) (gp gf : Option Nat) (inp : Int) (rest : ByteArray) (last skip : Bool) (out fresh : List UInt8) (p pa pb : Value) (w : World)
    (hc : Core w D G d gp gf inp rest last false skip out fresh) (hp : Box w G p 173 (ptr D)) (hl : last = true) :
    Calls Tryz.prog 157 #[.int .i64 256, p, pa, pb] w (FP D G inp rest w ⟨.fin, 0, 0, last, out, fresh, skip⟩) := by
  have HC := hide hc
  have HB := hide (block130_end D d w hc.di (by rw [hc.last]; exact hl))
  obtain ⟨b1, e1, l1, -, c1⟩ := hp.at_
  subst e1
  clear hc hp hl
  go_enter Tryz.func157, Tryz.ntmps157
  go_wp2_with fail
  refine (unhide HB).mono ?_
  rintro e w2 ⟨rfl, d', hd, rfl, hf⟩
  have HRES : Hid (FP D G inp rest w ⟨.fin, 0, 0, last, out, fresh, skip⟩ (.returned (.int .i64 0)) w2) :=
    hide ⟨rfl, G, ⟨_, gp, gf, HC.out.upd hd hf rfl rfl rfl HC.out.last rfl HC.out.skip HC.out.inp HC.out.rest, trivial⟩, Grows.refl _ _, HC.out.frG hf⟩
  clear hd hf
  go_wp2
  go_ret
  exact HRES.out

set_option maxRecDepth 100000 in
set_option maxHeartbeats 2000000 in
theorem fire142 (D : Nat) (G : List Nat) (d : DV) (gp gf : Option Nat) (inp : Int) (rest : ByteArray) (last skip : Bool) (out fresh : List UInt8) (n v : Nat) (p pn : Value) (w : World)
    (hc : Core w D G d gp gf inp rest last false skip out fresh) (hp : Box w G p 173 (ptr D)) (hpn : Box w G pn 3 (.int .i64 n)) (hn : n ≤ 65535) (hv : v = 65535 - n) (hn0 : n ≠ 0) :
    Calls Tryz.prog 142 #[.int .i64 v, pn, p] w (FP D G inp rest w ⟨.raw n, 0, 0, last, out, fresh, skip⟩) := by
  have HC := hide hc
  have HB := hide (raw143_any D d n G w hc.di hc.inn hn0 (by omega))
  obtain ⟨b1, e1, l1, -, c1⟩ := hp.at_
  obtain ⟨b2, e2, l2, -, c2⟩ := hpn.at_
  have z1 : (65535 : Int) - (n : Int) = (v : Int) := by omega
  have z2 : IntKind.i64.wrap ((65535 : Int) - (n : Int)) = (v : Int) := by rw [IntWalk.i64_in _ (by omega), z1]
  subst e1 e2
  clear hc hp hpn hn0 hv
  go_enter Tryz.func142, Tryz.ntmps142
  go_wp2_with fail
  refine (unhide HB).mono ?_
  rintro e w2 ⟨rfl, d', hd, ⟨q1, q2, rfl, y1, y2⟩, hf⟩
  have HRES : Hid (FP D G inp rest w ⟨.raw n, 0, 0, last, out, fresh, skip⟩ (.returned (.int .i64 0)) w2) :=
    hide ⟨rfl, G, ⟨_, gp, gf, HC.out.set hd hf rfl rfl rfl rfl rfl rfl rfl rfl, ⟨⟨rfl, rfl, rfl, rfl⟩, _, _, rfl, y1, y2⟩⟩, Grows.refl _ _, HC.out.frG hf⟩
  clear hd hf y1 y2
  go_wp2
  go_ret
  exact HRES.out
set_option maxRecDepth 100000 in
set_option maxHeartbeats 2000000 in
theorem fire142_end (D : Nat) (G : List Nat) (d : DV) (gp gf : Option Nat) (inp : Int) (rest : ByteArray) (last skip : Bool) (out fresh : List UInt8) (n : Nat) (p pn : Value) (w : World)
    (hc : Core w D G d gp gf inp rest last false skip out fresh) (hp : Box w G p 173 (ptr D)) (hpn : Box w G pn 3 (.int .i64 n)) (hn : n = 0) (hl : last = true) :
    Calls Tryz.prog 142 #[.int .i64 65535, pn, p] w (FP D G inp rest w ⟨.fin, 0, 0, last, out, fresh, skip⟩) := by
  have HC := hide hc
  have HB := hide (raw143_end D d w hc.di (by rw [hc.last]; exact hl))
  obtain ⟨b1, e1, l1, -, c1⟩ := hp.at_
  obtain ⟨b2, e2, l2, -, c2⟩ := hpn.at_
  rw [hn] at c2
  have c2 : w.cell? ⟨b2, 0, none⟩ = some (.int .i64 0) := c2
  subst e1 e2
  clear hc hp hpn hn hl
  go_enter Tryz.func142, Tryz.ntmps142
  go_wp2_with fail
  refine (unhide HB).mono ?_
  rintro e w2 ⟨rfl, d', hd, rfl, hf⟩
  have HRES : Hid (FP D G inp rest w ⟨.fin, 0, 0, last, out, fresh, skip⟩ (.returned (.int .i64 0)) w2) :=
    hide ⟨rfl, G, ⟨_, gp, gf, HC.out.upd hd hf rfl rfl rfl HC.out.last rfl HC.out.skip HC.out.inp HC.out.rest, trivial⟩, Grows.refl _ _, HC.out.frG hf⟩
  clear hd hf
  go_wp2
  go_ret
  exact HRES.out

set_option maxRecDepth 100000 in
set_option maxHeartbeats 2000000 in
theorem fire136_stored (D : Nat) (G : List Nat) (d : DV) (gp gf : Option Nat) (inp : Int) (rest : ByteArray) (last skip : Bool) (out fresh : List UInt8) (p : Value) (w : World)
    (hc : Core w D G d gp gf inp rest last false skip out fresh) (hp : Box w G p 173 (ptr D)) :
    Calls Tryz.prog 136 #[.int .i64 1, p] w (FP D G inp rest w ⟨.slen, 0, 0, true, out, fresh, true⟩) := by
  have HC := hide hc
  obtain ⟨w1, hw1⟩ : ∃ x, x = (w.setCell ⟨D, 6, none⟩ (.bool true)).setCell ⟨D, 9, none⟩ (.bool true) := ⟨_, rfl⟩
  have hf1 : Fr [D] w w1 := by rw [hw1]; exact ((Fr.refl _ _).setCell (.inl (by simp)) _).setCell (.inl (by simp)) _
  have hd1 : DI w1 D { d with last := true, skip := true } := by
    rw [hw1]; unfold DI; rw [heap_set, heap_set, hc.di]; rfl
  have hc1 : Core w1 D G { d with last := true, skip := true } gp gf inp rest true false true out fresh := hc.upd hd1 hf1 rfl rfl rfl rfl hc.done rfl hc.inp hc.rest
  have HC1 := hide hc1
  have HF1 := hide hf1
  have HB := hide (stored137_any D _ G w1 hd1 hc1.inn)
  obtain ⟨b1, e1, l1, hn1, c1⟩ := hp.at_
  have h6 : w.cell? ⟨D, 6, none⟩ = some (.bool d.last) := by rw [cell_blk hc.di]; rfl
  have h9 : w.cell? ⟨D, 9, none⟩ = some (.bool d.skip) := by rw [cell_blk hc.di]; rfl
  have k6 : w.frozen? ⟨D, 6, none⟩ = false := froz_blk hc.di 6
  have k9 : w.frozen? ⟨D, 9, none⟩ = false := froz_blk hc.di 9
  have hl := hc.di.lt
  have hne : b1 ≠ D := fun h => hn1 (by rw [h]; exact hc.mem)
  replace c1 : w.cell? ⟨b1, 0, none⟩ = some (.pointer (some ⟨D, 0, none⟩)) := c1
  have zb : bits .and .i64 1 1 = 1 := by decide +kernel
  have HW := hide hw1
  subst e1
  clear hc hp hf1 hd1 hc1 hw1 hn1
  go_enter Tryz.func136, Tryz.ntmps136
  go_wp2_with fail
  rw [← HW.out]
  refine (unhide HB).mono ?_
  rintro e w2 ⟨rfl, d', hd, ⟨q1, rfl, y1⟩, hf⟩
  have HRES : Hid (FP D G inp rest w ⟨.slen, 0, 0, true, out, fresh, true⟩ (.returned (.int .i64 0)) w2) :=
    hide ⟨rfl, G, ⟨_, gp, gf, HC1.out.set hd hf rfl rfl rfl rfl rfl rfl rfl rfl, ⟨⟨rfl, rfl, rfl, rfl⟩, _, rfl, y1⟩⟩, Grows.refl _ _, (HC.out.frG HF1.out).trans (HC1.out.frG hf)⟩
  clear hd hf y1
  go_wp2
  go_ret
  exact HRES.out

set_option maxRecDepth 100000 in
set_option maxHeartbeats 2000000 in
theorem fire136_dyn (D : Nat) (G : List Nat) (d : DV) (gp gf : Option Nat) (inp : Int) (rest : ByteArray) (last skip : Bool) (out fresh : List UInt8) (p : Value) (w : World)
    (hc : Core w D G d gp gf inp rest last false skip out fresh) (hp : Box w G p 173 (ptr D)) :
    Calls Tryz.prog 136 #[.int .i64 5, p] w (FP D G inp rest w ⟨.hlit, 0, 0, true, out, fresh, skip⟩) := by
  have HC := hide hc
  obtain ⟨w1, hw1⟩ : ∃ x, x = (w.setCell ⟨D, 6, none⟩ (.bool true)) := ⟨_, rfl⟩
  have hf1 : Fr [D] w w1 := by rw [hw1]; exact ((Fr.refl _ _).setCell (.inl (by simp)) _)
  have hd1 : DI w1 D { d with last := true } := by
    rw [hw1]; unfold DI; rw [heap_set, hc.di]; rfl
  have hc1 : Core w1 D G { d with last := true } gp gf inp rest true false skip out fresh := hc.upd hd1 hf1 rfl rfl rfl rfl hc.done hc.skip hc.inp hc.rest
  have HC1 := hide hc1
  have HF1 := hide hf1
  have HB := hide (dynamic139_any D _ G w1 hd1 hc1.inn)
  obtain ⟨b1, e1, l1, hn1, c1⟩ := hp.at_
  have h6 : w.cell? ⟨D, 6, none⟩ = some (.bool d.last) := by rw [cell_blk hc.di]; rfl
  have k6 : w.frozen? ⟨D, 6, none⟩ = false := froz_blk hc.di 6
  have hl := hc.di.lt
  have hne : b1 ≠ D := fun h => hn1 (by rw [h]; exact hc.mem)
  replace c1 : w.cell? ⟨b1, 0, none⟩ = some (.pointer (some ⟨D, 0, none⟩)) := c1
  have zb : bits .and .i64 5 1 = 1 := by decide +kernel
  have HW := hide hw1
  subst e1
  clear hc hp hf1 hd1 hc1 hw1 hn1
  go_enter Tryz.func136, Tryz.ntmps136
  go_wp2_with fail
  rw [← HW.out]
  refine (unhide HB).mono ?_
  rintro e w2 ⟨rfl, d', hd, ⟨q1, rfl, y1⟩, hf⟩
  have HRES : Hid (FP D G inp rest w ⟨.hlit, 0, 0, true, out, fresh, skip⟩ (.returned (.int .i64 0)) w2) :=
    hide ⟨rfl, G, ⟨_, gp, gf, HC1.out.set hd hf rfl rfl rfl rfl rfl rfl rfl rfl, ⟨⟨rfl, rfl, rfl, rfl⟩, _, rfl, y1⟩⟩, Grows.refl _ _, (HC.out.frG HF1.out).trans (HC1.out.frG hf)⟩
  clear hd hf y1
  go_wp2
  go_ret
  exact HRES.out

set_option maxRecDepth 100000 in
set_option maxHeartbeats 2000000 in
theorem fire136_fixed (D : Nat) (G : List Nat) (d : DV) (gp gf : Option Nat) (inp : Int) (rest : ByteArray) (last skip : Bool) (out fresh : List UInt8) (p : Value) (w : World)
    (hc : Core w D G d gp gf inp rest last false skip out fresh) (hp : Box w G p 173 (ptr D)) :
    Calls Tryz.prog 136 #[.int .i64 3, p] w (FP D G inp rest w ⟨.lit fixL fixD, 0, 0, true, out, fresh, skip⟩) := by
  have HC := hide hc
  obtain ⟨w1, hw1⟩ : ∃ x, x = (w.setCell ⟨D, 6, none⟩ (.bool true)) := ⟨_, rfl⟩
  have hf1 : Fr [D] w w1 := by rw [hw1]; exact ((Fr.refl _ _).setCell (.inl (by simp)) _)
  have hd1 : DI w1 D { d with last := true } := by
    rw [hw1]; unfold DI; rw [heap_set, hc.di]; rfl
  have hc1 : Core w1 D G { d with last := true } gp gf inp rest true false skip out fresh := hc.upd hd1 hf1 rfl rfl rfl rfl hc.done hc.skip hc.inp hc.rest
  have HC1 := hide hc1
  have HF1 := hide hf1
  have HB := hide (fixed138_any D _ G w1 hd1 hc1.inn hc1.mem)
  obtain ⟨b1, e1, l1, hn1, c1⟩ := hp.at_
  have h6 : w.cell? ⟨D, 6, none⟩ = some (.bool d.last) := by rw [cell_blk hc.di]; rfl
  have k6 : w.frozen? ⟨D, 6, none⟩ = false := froz_blk hc.di 6
  have hl := hc.di.lt
  have hne : b1 ≠ D := fun h => hn1 (by rw [h]; exact hc.mem)
  replace c1 : w.cell? ⟨b1, 0, none⟩ = some (.pointer (some ⟨D, 0, none⟩)) := c1
  have zb : bits .and .i64 3 1 = 1 := by decide +kernel
  have HW := hide hw1
  subst e1
  clear hc hp hf1 hd1 hc1 hw1 hn1
  go_enter Tryz.func136, Tryz.ntmps136
  go_wp2_with fail
  rw [← HW.out]
  refine (unhide HB).mono ?_
  rintro e w2 ⟨rfl, Da, Db, d', q1, q2, q3, g1, g2, g3, hd, hde, x1, x2, x3, x4, x5, x6, hf⟩
  have HRES : Hid (FP D G inp rest w ⟨.lit fixL fixD, 0, 0, true, out, fresh, skip⟩ (.returned (.int .i64 0)) w2) := by
    subst hde
    have hs := HF1.out.size
    refine hide ⟨rfl, Da :: Db :: G, ⟨_, gp, gf, ((HC1.out.set hd hf rfl rfl rfl rfl rfl rfl rfl rfl).grow (fun b hb => by simp [hb]) x6), ⟨_, _, _, _, _, rfl, rfl, x1, x2, x3, x4, x5, fun h => g3 (by injection h with h; injection h with h; injection h)⟩⟩, fun b hb => ?_, (HC.out.frG HF1.out).trans (HC1.out.frG hf)⟩
    rcases List.mem_cons.1 hb with rfl | hb
    · right; omega
    · rcases List.mem_cons.1 hb with rfl | hb
      · right; omega
      · exact .inl hb
  clear hd hf x1 x2 x3 x4 x5 x6 g1 g2 g3 hde
  go_wp2
  go_ret
  exact HRES.out
end Go.Proofs.YthmhcnnigepohaaGreatDoor.If

/- inflate.Decoder: lengths. -/
namespace Go.Proofs.YthmhcnnigepohaaGreatDoor.If
open Go.RowKit
open Dg (BAt bcells)
open Hf (NAt zI IR)
set_option linter.unusedVariables false
variable [Foreign]

def LensPost (D : Nat) (d : DV) (vc vl : Value) (lits dists : Nat) (G : List Nat) (w : World) (e : Ending) (w' : World) : Prop :=
  e = .returned (.int .i64 0) ∧ ∃ d' c0 c1 c2 c3 c4 c5, DI w' D d' ∧ d' = { d with code := vc, next := .func (.func 164) #[] #[c0, c1, c2, c3, c4, c5] } ∧ Box w' G c0 173 (ptr D) ∧ Box w' G c1 192 vc ∧ Box w' G c2 77 vl ∧ Box w' G c3 3 (.int .i64 lits) ∧ Box w' G c4 3 (.int .i64 dists) ∧ Box w' G c5 215 (.func (.func 162) #[] #[c0, c2, c3, c4, c1]) ∧ Fr [D] w w'

set_option maxRecDepth 100000 in
set_option maxHeartbeats 2000000 in
theorem lengths153_on (D : Nat) (d : DV) (pc : Option Addr) (pl : Option Addr) (n cl lits dists : Nat) (G : List Nat) (w : World) (h : DI w D d) (hG : In w G) (hx : n ≠ lits + dists) (hb : n ≤ 1000 ∧ lits ≤ 1000 ∧ dists ≤ 1000) :
    Calls Tryz.prog 153 #[.pointer (some ⟨D, 0, none⟩), .pointer pc, .slice pl n cl, .int .i64 lits, .int .i64 dists] w (LensPost D d (.pointer pc) (.slice pl n cl) lits dists G w) := by
  obtain ⟨L, hL⟩ : ∃ L : List (Value × TypeId), L = [(.pointer (some ⟨D, 0, none⟩), 173), (.pointer pc, 192), (.slice pl n cl, 77), (.int .i64 lits, 3), (.int .i64 dists, 3), (.func (.func 162) #[] #[.pointer (some ⟨w.heap.size, 0, none⟩), .pointer (some ⟨w.heap.size + 2, 0, none⟩), .pointer (some ⟨w.heap.size + 3, 0, none⟩), .pointer (some ⟨w.heap.size + 4, 0, none⟩), .pointer (some ⟨w.heap.size + 1, 0, none⟩)], 215)] := ⟨_, rfl⟩
  have HS := symbol156_any D d pc (.func 164) #[] #[.pointer (some ⟨w.heap.size, 0, none⟩), .pointer (some ⟨w.heap.size + 1, 0, none⟩), .pointer (some ⟨w.heap.size + 2, 0, none⟩), .pointer (some ⟨w.heap.size + 3, 0, none⟩), .pointer (some ⟨w.heap.size + 4, 0, none⟩), .pointer (some ⟨w.heap.size + 5, 0, none⟩)] (bw w L) (h.fr (bw_fr _ _) (by simp))
  have hl := h.lt
  have HRES : Hid (∀ w2, DI w2 D { d with code := .pointer pc, next := .func (.func 164) #[] #[.pointer (some ⟨w.heap.size, 0, none⟩), .pointer (some ⟨w.heap.size + 1, 0, none⟩), .pointer (some ⟨w.heap.size + 2, 0, none⟩), .pointer (some ⟨w.heap.size + 3, 0, none⟩), .pointer (some ⟨w.heap.size + 4, 0, none⟩), .pointer (some ⟨w.heap.size + 5, 0, none⟩)] } → Fr [D] (bw w L) w2 → LensPost D d (.pointer pc) (.slice pl n cl) lits dists G w (.returned (.int .i64 0)) w2) :=
    hide (fun w2 hd hf => ⟨rfl, _, _, _, _, _, _, _, hd, rfl, bw_box (i := 0) hG (by simpa using hl) hf (by rw [hL]; rfl), bw_box (i := 1) hG (by simpa using hl) hf (by rw [hL]; rfl), bw_box (i := 2) hG (by simpa using hl) hf (by rw [hL]; rfl), bw_box (i := 3) hG (by simpa using hl) hf (by rw [hL]; rfl), bw_box (i := 4) hG (by simpa using hl) hf (by rw [hL]; rfl), bw_box (i := 5) hG (by simpa using hl) hf (by rw [hL]; rfl), ((bw_fr _ w).mono (by simp)).trans hf⟩)
  subst hL
  have HS := hide HS
  have z1 : IntKind.i64.wrap ((lits : Int) + (dists : Int)) = (lits : Int) + (dists : Int) := IntWalk.i64_in _ (by omega)
  have d1 : ((n : Int) == (lits : Int) + (dists : Int)) = false := by simp; omega
  clear h hG hx
  go_enter Tryz.func153, Tryz.ntmps153
  go_wp2_with fail
  refine (unhide HS).mono ?_
  rintro e w2 ⟨rfl, hd, hf⟩
  have HR2 := hide (HRES.out w2 hd hf)
  clear hd hf
  go_wp2
  go_ret
  exact HR2.out

omit [Foreign] in
theorem nat_ir_take {w : World} {b off n cap c' : Nat} {g : Option Nat} {l : List Nat} (h : NAt w (.slice (some ⟨b, off, none⟩) n cap) g l) (k : Nat) (hk : k ≤ l.length) : IR w (.slice (some ⟨b, off, none⟩) k c') (zI (l.take k)) := by
  refine ⟨some ⟨b, off, none⟩, c', by rw [Hf.zI_len, List.length_take, Nat.min_eq_left hk], fun i hi => ⟨_, rfl, ?_⟩⟩
  rw [Hf.zI_len, List.length_take] at hi
  obtain ⟨b2, off2, cap2, _, hv2, _, hc⟩ := h.read (i := i) (x := l[i]'(by omega)) (List.getElem?_eq_getElem _)
  injection hv2 with hv2 _ _
  injection hv2 with hv2
  injection hv2 with e1 e2 _
  subst e1 e2
  rw [Addr.add_lit, hc, Hf.zI_get]
  simp [List.getD, show i < k by omega, List.getElem?_eq_getElem (show i < l.length by omega)]
omit [Foreign] in
theorem nat_ir_drop {w : World} {b off n cap c' : Nat} {g : Option Nat} {l : List Nat} (h : NAt w (.slice (some ⟨b, off, none⟩) n cap) g l) (k m : Nat) (hk : k + m = l.length) : IR w (.slice (some ⟨b, off + k, none⟩) m c') (zI (l.drop k)) := by
  refine ⟨some ⟨b, off + k, none⟩, c', by rw [Hf.zI_len, List.length_drop]; congr 1; omega, fun i hi => ⟨_, rfl, ?_⟩⟩
  rw [Hf.zI_len, List.length_drop] at hi
  obtain ⟨b2, off2, cap2, _, hv2, _, hc⟩ := h.read (i := k + i) (x := l[k + i]'(by omega)) (List.getElem?_eq_getElem _)
  injection hv2 with hv2 _ _
  injection hv2 with hv2
  injection hv2 with e1 e2 _
  subst e1 e2
  rw [Addr.add_lit, Nat.add_assoc, hc, Hf.zI_get]
  simp [List.getD, List.getElem?_eq_getElem (show k + i < l.length by omega)]

set_option maxRecDepth 100000 in
set_option maxHeartbeats 4000000 in
theorem lengths153_end (D : Nat) (d : DV) (pc : Option Addr) (vl : Value) (g : Option Nat) (l : List Nat) (lits dists : Nat) (G : List Nat) (w : World) (h : DI w D d) (hG : In w G) (hDG : D ∈ G) (hn : NAt w vl g l) (hx : l.length = lits + dists) (hb : 1 ≤ lits ∧ 1 ≤ dists ∧ lits ≤ 300 ∧ dists ≤ 300)
    (oka : LOk (l.take lits)) (okb : LOk (l.drop lits)) :
    Calls Tryz.prog 153 #[.pointer (some ⟨D, 0, none⟩), .pointer pc, vl, .int .i64 lits, .int .i64 dists] w (CodesPost D d (l.take lits) (l.drop lits) G w) := by
  obtain ⟨a, cap, hv⟩ := SlAt.shape hn
  have hnl : lits + dists ≤ cap := by
    rcases hn with ⟨_, _, h1, _⟩ | ⟨b, off, cap2, cur, hg, hv2, hblk, hnc, _⟩
    · omega
    · rw [hv] at hv2; injection hv2 with _ _ hv2; omega
  obtain ⟨b, off, cap2, hg, hv2, hbl, -⟩ := hn.read (i := 0) (x := l[0]'(by omega)) (List.getElem?_eq_getElem _)
  rw [hx] at hv hv2
  rw [hv] at hv2
  injection hv2 with hva hvx hvc
  clear hvx
  subst hva hvc
  subst hv
  obtain ⟨n, hnn⟩ : ∃ n, n = lits + dists := ⟨_, rfl⟩
  rw [← hnn] at hn hnl ⊢
  obtain ⟨w1, hw1⟩ : ∃ x, x = bw w [(.pointer (some ⟨D, 0, none⟩), 173), (.pointer pc, 192), (.slice (some ⟨b, off, none⟩) n cap, 77), (.int .i64 lits, 3), (.int .i64 dists, 3)] := ⟨_, rfl⟩
  have hf1 : Fr [] w w1 := by rw [hw1]; exact bw_fr _ _
  have hn1 : NAt w1.drew (.slice (some ⟨b, off, none⟩) n cap) g l := SlAt.fr hn hf1.drew (by simp)
  have HC := hide (codes144_any D d (.slice (some ⟨b, off, none⟩) lits cap) (.slice (some ⟨b, off + lits, none⟩) dists (cap - lits)) (l.take lits) (l.drop lits) G w1.drew (h.fr hf1.drew (by simp)) (hG.fr hf1.drew) hDG (nat_ir_take hn1 lits (by omega)) (nat_ir_drop hn1 lits dists (by omega)) oka okb)
  have HF1 := hide hf1
  have HW : Hid (w1 = _) := hide hw1
  have z1 : IntKind.i64.wrap ((lits : Int) + (dists : Int)) = (lits : Int) + (dists : Int) := IntWalk.i64_in _ (by omega)
  have d1 : ((n : Int) == (lits : Int) + (dists : Int)) = true := by simp; omega
  have t1 : (0 : Int) ≤ (lits : Int) ∧ (lits : Int) ≤ (n : Int) := by omega
  have t2 : (lits : Int) ≤ (cap : Int) := by omega
  have t3 : ¬ cap = lits := by omega
  have t4 : lits ≤ n := by omega
  have t5 : lits ≤ cap := by omega
  have t6 : n - lits = dists := by omega
  have hl := h.lt
  have HX : Hid (n = lits + dists) := hide hnn
  clear h hG hn hx oka okb hn1 hf1 hw1 hnn hg
  go_enter Tryz.func153, Tryz.ntmps153
  go_upto_region 2 with (fail)
  change Code.wp _ _ _ _ (bw w [(.pointer (some ⟨D, 0, none⟩), 173), (.pointer pc, 192), (.slice (some ⟨b, off, none⟩) n cap, 77), (.int .i64 lits, 3), (.int .i64 dists, 3)])
  have k0 := bw_get [(.pointer (some ⟨D, 0, none⟩), 173), (.pointer pc, 192), (.slice (some ⟨b, off, none⟩) n cap, 77), (.int .i64 lits, 3), (.int .i64 dists, 3)] w 0 _ _ rfl
  have k2 := bw_get [(.pointer (some ⟨D, 0, none⟩), 173), (.pointer pc, 192), (.slice (some ⟨b, off, none⟩) n cap, 77), (.int .i64 lits, 3), (.int .i64 dists, 3)] w 2 _ _ rfl
  have k3 := bw_get [(.pointer (some ⟨D, 0, none⟩), 173), (.pointer pc, 192), (.slice (some ⟨b, off, none⟩) n cap, 77), (.int .i64 lits, 3), (.int .i64 dists, 3)] w 3 _ _ rfl
  rw [← HW.out] at k0 k2 k3 ⊢
  replace k0 : w1.cell? ⟨w.heap.size, 0, none⟩ = some (.pointer (some ⟨D, 0, none⟩)) := cell_blk k0 0
  replace k2 : w1.cell? ⟨w.heap.size + 1 + 1, 0, none⟩ = some (.slice (some ⟨b, off, none⟩) n cap) := cell_blk k2 0
  replace k3 : w1.cell? ⟨w.heap.size + 1 + 1 + 1, 0, none⟩ = some (.int .i64 lits) := cell_blk k3 0
  go_still_tail 7, (by kernel_rfl)
  change wpList _ _ _ _ _ w1.drew
  go_wp2_with fail
  refine (unhide HC).mono ?_
  rintro e w2 ⟨rfl, Da, Db, d', q1, q2, q3, g1, g2, g3, g4⟩
  have HRES : Hid (CodesPost D d (l.take lits) (l.drop lits) G w (.returned (.int .i64 0)) w2) := by
    obtain ⟨g4, g5, g6, g7, g8, g9, g10, g11, g12⟩ := g4
    have hs := HF1.out.drew.size
    exact hide ⟨rfl, Da, Db, d', q1, q2, q3, by omega, by omega, g3, g4, g5, g6, g7, g8, g9, g10, g11, (HF1.out.drew.mono (by simp)).trans g12⟩
  clear g1 g2 g3 g4
  go_wp2
  go_ret
  exact HRES.out
end Go.Proofs.YthmhcnnigepohaaGreatDoor.If

/- inflate.Decoder: third. -/
namespace Go.Proofs.YthmhcnnigepohaaGreatDoor.If
open Go.RowKit
open Dg (BAt bcells)
open Hf (NAt zI IR)
set_option linter.unusedVariables false
variable [Foreign]

omit [Foreign] in
theorem zI_range (l : List Nat) (n : Nat) (h : l.length = n) : (List.range n).map (fun j => ((l.getD j 0 : Nat) : Int)) = zI l := by
  subst h
  apply List.ext_getElem
  · simp [zI]
  · intro i h1 h2
    simp only [List.length_map, List.length_range] at h1
    simp [zI, List.getD, List.getElem?_eq_getElem h1]
/-- What third leaves when all lengths are there. -/
def ThirdPost (D : Nat) (d : DV) (l : List Nat) (lits dists : Nat) (G : List Nat) (w : World) (e : Ending) (w' : World) : Prop :=
  e = .returned (.int .i64 0) ∧ ∃ Dc d' c0 c1 c2 c3 c4 c5, w.heap.size ≤ Dc ∧ DI w' D d' ∧ d' = { d with code := ptr Dc, next := .func (.func 164) #[] #[c0, c1, c2, c3, c4, c5] } ∧ Box w' (Dc :: G) c0 173 (ptr D) ∧ Box w' (Dc :: G) c1 192 (ptr Dc) ∧ Box w' (Dc :: G) c2 77 (.slice none 0 0) ∧ Box w' (Dc :: G) c3 3 (.int .i64 lits) ∧ Box w' (Dc :: G) c4 3 (.int .i64 dists) ∧ Box w' (Dc :: G) c5 215 (.func (.func 162) #[] #[c0, c2, c3, c4, c1]) ∧
    Dec w' (Dc :: G) (ptr Dc) l 0 0 ∧ In w' (Dc :: G) ∧ Fr [D] w w'

set_option maxRecDepth 100000 in
set_option maxHeartbeats 4000000 in
theorem third148_end (D : Nat) (d : DV) (Lb n lits dists : Nat) (l : List Nat) (G : List Nat) (w : World) (h : DI w D d) (hG : In w G) (hDG : D ∈ G) (hl : l.length = 19) (ha : Hf.Ar w Lb 3 19 (fun j => ((l.getD j 0 : Nat) : Int))) (ok : LOk l) (hb : 1 ≤ lits ∧ lits ≤ 1000 ∧ dists ≤ 1000 ∧ n ≤ 1000) :
    Calls Tryz.prog 148 #[.pointer (some ⟨D, 0, none⟩), .slice (some ⟨Lb, 0, none⟩) 19 19, .int .i64 n, .int .i64 n, .int .i64 lits, .int .i64 dists] w (ThirdPost D d l lits dists G w) := by
  obtain ⟨w1, hw1⟩ : ∃ x, x = bw w [(.pointer (some ⟨D, 0, none⟩), 173), (.slice (some ⟨Lb, 0, none⟩) 19 19, 77), (.int .i64 n, 3), (.int .i64 n, 3), (.int .i64 lits, 3), (.int .i64 dists, 3)] := ⟨_, rfl⟩
  have hf1 : Fr [] w w1 := by rw [hw1]; exact bw_fr _ _
  have hir : IR w1 (.slice (some ⟨Lb, 0, none⟩) 19 19) (zI l) := by rw [← zI_range l 19 hl]; exact (ha.fr hf1 (by simp)).ints
  have HN := hide (Hf.newdec20_any _ l w1 hir ok.hL ok.len ok.chk)
  have k0 := bw_get [(.pointer (some ⟨D, 0, none⟩), 173), (.slice (some ⟨Lb, 0, none⟩) 19 19, 77), (.int .i64 n, 3), (.int .i64 n, 3), (.int .i64 lits, 3), (.int .i64 dists, 3)] w 0 _ _ rfl
  have k4 := bw_get [(.pointer (some ⟨D, 0, none⟩), 173), (.slice (some ⟨Lb, 0, none⟩) 19 19, 77), (.int .i64 n, 3), (.int .i64 n, 3), (.int .i64 lits, 3), (.int .i64 dists, 3)] w 4 _ _ rfl
  have k5 := bw_get [(.pointer (some ⟨D, 0, none⟩), 173), (.slice (some ⟨Lb, 0, none⟩) 19 19, 77), (.int .i64 n, 3), (.int .i64 n, 3), (.int .i64 lits, 3), (.int .i64 dists, 3)] w 5 _ _ rfl
  rw [← hw1] at k0 k4 k5
  have HK := hide (And.intro k0 (And.intro k4 k5))
  have HD := hide h
  have HG := hide hG
  have HF1 := hide hf1
  have HW : Hid (w1 = _) := hide hw1
  clear h hG ha ok hf1 hir hw1 k0 k4 k5
  go_enter Tryz.func148, Tryz.ntmps148
  go_upto_if 17 with (fail)
  change Code.wp _ _ _ _ (bw w [(.pointer (some ⟨D, 0, none⟩), 173), (.slice (some ⟨Lb, 0, none⟩) 19 19, 77), (.int .i64 n, 3), (.int .i64 n, 3), (.int .i64 lits, 3), (.int .i64 dists, 3)])
  rw [← HW.out]
  have j1 : w1.cell? ⟨w.heap.size + 1, 0, none⟩ = some (.slice (some ⟨Lb, 0, none⟩) 19 19) := by
    have := bw_get [(.pointer (some ⟨D, 0, none⟩), 173), (.slice (some ⟨Lb, 0, none⟩) 19 19, 77), (.int .i64 n, 3), (.int .i64 n, 3), (.int .i64 lits, 3), (.int .i64 dists, 3)] w 1 _ _ rfl
    rw [← HW.out] at this
    exact cell_blk this 0
  go_wp2_with fail
  refine (unhide HN).mono ?_
  rintro e w2 ⟨Dc, gc, sc, rfl, hDc, hdb, hna, hgc, hf2⟩
  obtain ⟨k0, k4, k5⟩ := HK.out
  have m0 : w2.cell? ⟨w.heap.size, 0, none⟩ = some (.pointer (some ⟨D, 0, none⟩)) := cell_blk ((hf2.block _ (lt_of_blk k0) (by simp)).trans k0) 0
  have m4 : w2.cell? ⟨w.heap.size + 1 + 1 + 1 + 1, 0, none⟩ = some (.int .i64 lits) := cell_blk ((hf2.block _ (lt_of_blk k4) (by simp)).trans k4) 0
  have m5 : w2.cell? ⟨w.heap.size + 1 + 1 + 1 + 1 + 1, 0, none⟩ = some (.int .i64 dists) := cell_blk ((hf2.block _ (lt_of_blk k5) (by simp)).trans k5) 0
  have hs1 := HF1.out.size
  have hin : In w2 (Dc :: G) := by
    refine HG.out.of2 (by have := hf2.size; omega) fun b hb => ?_
    rcases List.mem_cons.1 hb with rfl | hb
    · exact hdb.lt
    · have := HG.out b hb; have := hf2.size; omega
  have hdi : DI w2 D d := (HD.out.fr HF1.out (by simp)).fr hf2 (by simp)
  have hDl := HD.out.lt
  have hdec : Dec w2 (Dc :: G) (ptr Dc) l 0 0 := Dec.new hdb hna (by simp) (fun b hb => by
    have h1 := hgc b hb
    simp only [List.mem_cons, not_or]
    exact ⟨⟨h1.2, HG.out.new (by omega)⟩, HG.out.newF (by omega)⟩)
  have HL := hide (lengths153_on D d (some ⟨Dc, 0, none⟩) none 0 0 lits dists (Dc :: G) w2 hdi hin (by omega) (by omega))
  have HX : Hid (w.heap.size ≤ Dc ∧ Dec w2 (Dc :: G) (ptr Dc) l 0 0 ∧ In w2 (Dc :: G) ∧ Fr [] w w2 ∧ DI w2 D d) := hide ⟨by omega, hdec, hin, HF1.out.trans hf2, hdi⟩
  clear hDc hdb hna hgc hf2 k0 k4 k5 hs1 hin hdi hdec hDl j1
  go_wp2_with fail
  refine (unhide HL).mono ?_
  rintro e w3 ⟨rfl, d', c0, c1, c2, c3, c4, c5, hd, hde, x0, x1, x2, x3, x4, x5, hf3⟩
  have HRES : Hid (ThirdPost D d l lits dists G w (.returned (.int .i64 0)) w3) := by
    obtain ⟨g1, g2, g3, g4, g5⟩ := HX.out
    exact hide ⟨rfl, Dc, d', c0, c1, c2, c3, c4, c5, g1, hd, hde, x0, x1, x2, x3, x4, x5, g2.set g5 (by simp [hDG]) hf3, g3.fr hf3, (g4.mono (by simp)).trans hf3⟩
  clear hd hde x0 x1 x2 x3 x4 x5 hf3
  go_wp2
  go_ret
  exact HRES.out
end Go.Proofs.YthmhcnnigepohaaGreatDoor.If

/- inflate.Decoder: the closures of a dynamic block's head. -/
namespace Go.Proofs.YthmhcnnigepohaaGreatDoor.If
open Go.RowKit
open Dg (BAt bcells)
open Hf (NAt zI IR)
set_option linter.unusedVariables false
variable [Foreign]

/-- The order of the third code's lengths. -/
def ORD : List Nat := [16, 17, 18, 0, 8, 7, 9, 6, 10, 5, 11, 4, 12, 3, 13, 2, 14, 1, 15]
def Ost (w : World) : Prop := ∀ j, j < 19 → w.cell? ⟨0, j, none⟩ = some (.int .i64 (ORD.getD j 0 : Nat))
omit [Foreign] in
theorem Ost.fr {w w' : World} {S : List Nat} (h : Ost w) (hf : Fr S w w') (h0 : 0 ∉ S) : Ost w' := fun j hj => by
  rw [World.cell?_of_block (w := w) (hf.block 0 (World.block_lt_of_cell? w _ (h 0 (by omega))) h0)]
  exact h j hj
omit [Foreign] in
theorem ord_lt (j : Nat) : ORD.getD j 0 < 19 := by
  rcases Nat.lt_or_ge j 19 with h | h
  · have : ∀ i, i < 19 → ORD.getD i 0 < 19 := by decide
    exact this j h
  · rw [List.getD, List.getElem?_eq_none (by simpa [ORD] using h)]; decide

section
variable {w w' : World} {D : Nat} {G S : List Nat} {d : DV} {gp gf : Option Nat} {inp : Int} {rest : ByteArray} {last done skip : Bool} {out fresh : List UInt8}
/-- A block of numbers is written. -/
theorem Core.away (h : Core w D G d gp gf inp rest last done skip out fresh) (hf : Fr S w w') (hS : ∀ b ∈ S, ∃ cs, w.heap[b]? = some (.cells cs 3 (0, 0))) : Core w' D G d gp gf inp rest last done skip out fresh := by
  obtain ⟨o1, o2, o3, o4, o5, o6⟩ := h.outs
  have hD : D ∉ S := fun hm => by
    obtain ⟨cs, hc⟩ := hS D hm
    rw [h.di] at hc; injection hc with hc; injection hc with _ hc _; cases hc
  have hB : ∀ {v : Value} {g : Option Nat} {l : List UInt8}, BAt w v g l → ∀ b, g = some b → b ∉ S := fun hb b hg hm => by
    obtain ⟨cs, hc⟩ := hS b hm
    obtain ⟨cur, hc2⟩ := SlAt.lt hb b hg
    rw [hc2] at hc; injection hc with hc; injection hc with _ hc _; cases hc
  exact ⟨h.di.fr hf hD, h.mem, h.inn.fr hf, ⟨SlAt.fr o1 hf (hB o1), SlAt.fr o2 hf (hB o2), o3, o4, o5, o6⟩, h.last, h.done, h.skip, h.inp, h.rest⟩
theorem Dec.away {v : Value} {L : List Nat} {n c : Nat} {G' : List Nat} (k : Dec w G v L n c) (hf : Fr S w w') (hS : ∀ b ∈ S, ∃ cs, w.heap[b]? = some (.cells cs 3 (0, 0))) (hSG : ∀ b ∈ S, b ∈ G) (hg : Grows w G G') (hs : ∀ b ∈ G, b ∈ G') : Dec w' G' v L n c := by
  refine k.keep hf hSG hg hs (fun D' hD' hm => ?_)
  obtain ⟨cs, hc⟩ := k.blk D' hD'
  obtain ⟨cs2, hc2⟩ := hS D' hm
  rw [hc2] at hc; injection hc with hc; injection hc with _ hc _; cases hc
omit [Foreign] in
theorem ar_blk {B n : Nat} {g : Nat → Int} (h : Hf.Ar w B 3 n g) : ∃ cs, w.heap[B]? = some (.cells cs 3 (0, 0)) := ⟨_, h.cells_eq⟩
end

set_option maxRecDepth 100000 in
set_option maxHeartbeats 4000000 in
theorem fire154 (D : Nat) (G : List Nat) (d : DV) (gp gf : Option Nat) (inp : Int) (rest : ByteArray) (last skip : Bool) (out fresh : List UInt8) (v : Nat) (l : List Nat) (i n a b Lb : Nat) (p pl pi pn pa pb : Value) (w : World)
    (hc : Core w D G d gp gf inp rest last false skip out fresh) (hp : Box w G p 173 (ptr D)) (hpl : Box w G pl 77 (.slice (some ⟨Lb, 0, none⟩) 19 19)) (hpi : Box w G pi 3 (.int .i64 i)) (hpn : Box w G pn 3 (.int .i64 n)) (hpa : Box w G pa 3 (.int .i64 a)) (hpb : Box w G pb 3 (.int .i64 b))
    (hLb : Lb ∈ G) (hl : l.length = 19) (har : Hf.Ar w Lb 3 19 (fun j => ((l.getD j 0 : Nat) : Int))) (ho : Ost w) (h0 : 0 ∉ G) (hi : i < n) (hn : n ≤ 19) (hv : v ≤ 7) (hab : 1 ≤ a ∧ a ≤ 1000 ∧ b ≤ 1000) (hok : i + 1 = n → LOk (l.set (ORD.getD i 0) v)) :
    Calls Tryz.prog 154 #[.int .i64 v, pl, pi, p, pn, pa, pb] w (FP D G inp rest w (if i + 1 = n then ⟨.lens (l.set (ORD.getD i 0) v) [] a b, 0, 0, last, out, fresh, skip⟩ else ⟨.third (l.set (ORD.getD i 0) v) (i + 1) n a b, 0, 0, last, out, fresh, skip⟩)) := by
  have HC := hide hc
  have ho2 := ord_lt i
  have hoi := ho i (by omega)
  obtain ⟨o, hod⟩ : ∃ o, o = ORD.getD i 0 := ⟨_, rfl⟩
  rw [← hod] at ho2 hoi hok ⊢
  obtain ⟨w1, hw1⟩ : ∃ x, x = (w.setCell ⟨Lb, o, none⟩ (.int .i64 v)).drew := ⟨_, rfl⟩
  have hf1 : Fr [Lb] w w1 := by rw [hw1]; exact ((Fr.refl [Lb] w).setCell (.inl (by simp)) _).drew
  have har1 : Hf.Ar w1 Lb 3 19 (fun j => (((l.set o v).getD j 0 : Nat) : Int)) := by
    rw [hw1]
    refine ((har.set (m := o) ho2 (v : Int)).fr ((Fr.refl [] _).drew) (by simp)).ext (fun j hj => ?_)
    simp only [List.getD, List.getElem?_set]
    by_cases he : j = o
    · subst he; simp [hl, hj]
    · rw [if_neg he, if_neg (fun h => he h.symm)]
  have hfG : Fr G w w1 := hf1.sub (fun x hx => by simp at hx; rw [hx]; exact hLb)
  have hc1 := hc.away hf1 (fun x hx => by simp at hx; rw [hx]; exact ar_blk har)
  have cl : w.cell? ⟨Lb, o, none⟩ = some (.int .i64 ((l.getD o 0 : Nat) : Int)) := har.cell ho2
  have cf : w.frozen? ⟨Lb, o, none⟩ = false := har.froz o
  have cLl := har.lt
  have hG := Grows.refl w G
  obtain ⟨b1, e1, l1, n1, c1⟩ := hp.at_
  obtain ⟨b2, e2, l2, n2, c2⟩ := hpl.at_
  obtain ⟨b3, e3, l3, n3, c3⟩ := hpi.at_
  obtain ⟨b4, e4, l4, n4, c4⟩ := hpn.at_
  obtain ⟨b5, e5, l5, n5, c5⟩ := hpa.at_
  obtain ⟨b6, e6, l6, n6, c6⟩ := hpb.at_
  subst e1 e2 e3 e4 e5 e6
  have g1 := (hp.fr hfG hG).at_
  have g2 := (hpl.fr hfG hG).at_
  have g3 := (hpi.fr hfG hG).at_
  have g4 := (hpn.fr hfG hG).at_
  have g5 := (hpa.fr hfG hG).at_
  have g6 := (hpb.fr hfG hG).at_
  obtain ⟨_, x1, k1, -, y1⟩ := g1; injection x1 with x1; injection x1 with x1; injection x1 with x1 _; subst x1
  obtain ⟨_, x2, k2, -, y2⟩ := g2; injection x2 with x2; injection x2 with x2; injection x2 with x2 _; subst x2
  obtain ⟨_, x3, k3, -, y3⟩ := g3; injection x3 with x3; injection x3 with x3; injection x3 with x3 _; subst x3
  obtain ⟨_, x4, k4, -, y4⟩ := g4; injection x4 with x4; injection x4 with x4; injection x4 with x4 _; subst x4
  obtain ⟨_, x5, k5, -, y5⟩ := g5; injection x5 with x5; injection x5 with x5; injection x5 with x5 _; subst x5
  obtain ⟨_, x6, k6, -, y6⟩ := g6; injection x6 with x6; injection x6 with x6; injection x6 with x6 _; subst x6
  have b0 : (0 : Int) ≤ (i : Int) ∧ (i : Int) < 19 := by omega
  have b0' : (0 : Int) ≤ (o : Int) ∧ (o : Int) < 19 := by omega
  have HC1 := hide hc1
  have HFG := hide hfG
  have HAR1 := hide har1
  have HW := hide hw1
  have hl2 : (l.set o v).length = 19 := by rw [List.length_set, hl]
  have HTE : Hid (i + 1 = n → Calls Tryz.prog 148 #[.pointer (some ⟨D, 0, none⟩), .slice (some ⟨Lb, 0, none⟩) 19 19, .int .i64 n, .int .i64 n, .int .i64 a, .int .i64 b] w1 (ThirdPost D d (l.set o v) a b G w1)) :=
    hide (fun he => third148_end D d Lb n a b (l.set o v) G w1 hc1.di hc1.inn hc1.mem hl2 har1 (hok he) (by omega))
  have HTO : Hid (i + 1 ≠ n → _) := hide (fun he => third148_any D d (some ⟨Lb, 0, none⟩) 19 19 ((i : Int) + 1) (n : Int) (a : Int) (b : Int) G w1 hc1.di hc1.inn (by omega))
  have HLB := hide hLb
  have HL2 := hide hl2
  clear hc hp hpl hpi hpn hpa hpb har hok hw1 hf1 har1 hfG hc1 hG hod ho hl2
  go_enter Tryz.func154, Tryz.ntmps154
  go_upto_region 1 with (fail)
  go_still_tail 6, (by kernel_rfl)
  change wpList _ _ _ _ _ w.drew
  go_upto_region 2 with (fail)
  rw [← HW.out]
  clear c1 c2 c3 c4 c5 c6 l1 l2 l3 l4 l5 l6 cl cf
  by_cases he : i + 1 = n
  · have zi : (i : Int) + 1 = (n : Int) := by omega
    have HTE := hide (HTE.out he)
    rw [if_pos he]
    clear he
    go_wp2_with fail
    refine (unhide HTE).mono ?_
    rintro e w2 ⟨rfl, Dc, d', q0, q1, q2, q3, q4, q5, z1, hd, hde, x0, x1, x2, x3, x4, x5, x6, x7, hf⟩
    have HRES : Hid (FP D G inp rest w ⟨.lens (l.set o v) [] a b, 0, 0, last, out, fresh, skip⟩ (.returned (.int .i64 0)) w2) := by
      subst hde
      have hs := HFG.out.size
      refine hide ⟨rfl, Dc :: G, ⟨_, gp, gf, (HC1.out.set hd hf rfl rfl rfl rfl rfl rfl rfl rfl).grow (fun b hb => by simp [hb]) x7, ⟨_, _, _, _, _, _, _, _, none, rfl, rfl, x0, x1, x2, x3, x4, x5, x6, SlAt.nil_ _, by simp⟩⟩, fun b hb => ?_, HFG.out.trans (HC1.out.frG hf)⟩
      rcases List.mem_cons.1 hb with rfl | hb
      · right; omega
      · exact .inl hb
    clear hd hde hf x0 x1 x2 x3 x4 x5 x6 x7 z1
    go_wp2
    go_ret
    exact HRES.out
  · have HTO := hide (HTO.out he)
    rw [if_neg he]
    go_wp2_with fail
    refine (unhide HTO).mono ?_
    rintro e w2 ⟨rfl, d', hd, ⟨q0, q1, q2, q3, q4, q5, hde, x0, x1, x2, x3, x4, x5⟩, hf⟩
    have HRES : Hid (FP D G inp rest w ⟨.third (l.set o v) (i + 1) n a b, 0, 0, last, out, fresh, skip⟩ (.returned (.int .i64 0)) w2) := by
      subst hde
      refine hide ⟨rfl, G, ⟨_, gp, gf, HC1.out.set hd hf rfl rfl rfl rfl rfl rfl rfl rfl, ⟨⟨rfl, rfl, rfl, rfl⟩, _, _, _, _, _, _, Lb, rfl, x0, x1, by rw [Int.natCast_add]; exact x2, x3, x4, x5, HLB.out, HL2.out, HAR1.out.fr hf (fun hm => ?_)⟩⟩, Grows.refl _ _, HFG.out.trans (HC1.out.frG hf)⟩
      simp at hm
      obtain ⟨cs, hc⟩ := ar_blk HAR1.out
      rw [hm, HC1.out.di] at hc
      injection hc with hc
      injection hc with _ hc _
      cases hc
    clear hd hde hf x0 x1 x2 x3 x4 x5
    go_wp2
    go_ret
    exact HRES.out
end Go.Proofs.YthmhcnnigepohaaGreatDoor.If

/- inflate.Decoder: the closure that makes the third code's lengths. -/
namespace Go.Proofs.YthmhcnnigepohaaGreatDoor.If
open Go.RowKit
open Dg (BAt bcells)
open Hf (NAt zI IR)
set_option linter.unusedVariables false
variable [Foreign]

set_option maxRecDepth 100000 in
set_option maxHeartbeats 4000000 in
theorem fire147 (D : Nat) (G : List Nat) (d : DV) (gp gf : Option Nat) (inp : Int) (rest : ByteArray) (last skip : Bool) (out fresh : List UInt8) (v a b : Nat) (p pa pb : Value) (w : World)
    (hc : Core w D G d gp gf inp rest last false skip out fresh) (hp : Box w G p 173 (ptr D)) (hpa : Box w G pa 3 (.int .i64 a)) (hpb : Box w G pb 3 (.int .i64 b)) (hv : v ≤ 15) :
    Calls Tryz.prog 147 #[.int .i64 v, p, pa, pb] w (FP D G inp rest w ⟨.third (List.replicate 19 0) 0 (v + 4) a b, 0, 0, last, out, fresh, skip⟩) := by
  have HC := hide hc
  obtain ⟨b1, e1, l1, n1, c1⟩ := hp.at_
  obtain ⟨b2, e2, l2, n2, c2⟩ := hpa.at_
  obtain ⟨b3, e3, l3, n3, c3⟩ := hpb.at_
  have hmk : ∀ W, (Instr.makeSlice 77 (.int .i64 19) (.int .i64 19)).run Tryz.prog W = .ok (.slice (some ⟨W.heap.size, 0, none⟩) 19 19) (W.alloc (.cells (madeCells #[.int .i64 0] 19) 3)) := fun W => Hf.mk_ints 19 (by omega) W
  obtain ⟨w1, hw1⟩ : ∃ x, x = (w.alloc (.cells (madeCells #[.int .i64 0] 19) 3)).drew := ⟨_, rfl⟩
  obtain ⟨Lb, hLb⟩ : ∃ x, x = w.heap.size := ⟨_, rfl⟩
  have hf1 : Fr [] w w1 := by rw [hw1]; exact ((Fr.refl _ _).alloc _).drew
  have har : Hf.Ar w1 Lb 3 19 (fun _ => 0) := by rw [hw1, hLb]; exact (Hf.made_ar 19 w).keep rfl
  have hc1 : Core w1 D G d gp gf inp rest last false skip out fresh := hc.set (hc.di.fr hf1 (by simp)) (hf1.mono (by simp)) rfl rfl rfl rfl rfl rfl rfl rfl
  have hin : In w1 (Lb :: G) := by
    refine hc1.inn.of fun x hx => ?_
    rcases List.mem_cons.1 hx with rfl | hx
    · exact har.lt
    · exact hc1.inn x hx
  have HT := third148_any D d (some ⟨Lb, 0, none⟩) 19 19 0 ((v : Int) + 4) (a : Int) (b : Int) (Lb :: G) w1 hc1.di hin (by omega)
  rw [hw1] at HT
  have HT := hide HT
  have zv : IntKind.i64.wrap ((v : Int) + 4) = (v : Int) + 4 := IntWalk.i64_in _ (by omega)
  have HF1 := hide hf1
  have HAR := hide har
  have HIN := hide hin
  have HC1 := hide (hc1.grow (G' := Lb :: G) (fun x hx => by simp [hx]) hin)
  have HLB := hide hLb
  have HW := hide hw1
  obtain ⟨z, hz⟩ : ∃ z : List Nat, z = List.replicate 19 0 := ⟨_, rfl⟩
  rw [← hz]
  have HZ := hide hz
  clear hz
  subst e1 e2 e3
  rw [hLb] at HT
  clear hc hp hpa hpb hw1 hLb hf1 har hc1 hin n1 n2 n3
  replace c1 : w.cell? ⟨b1, 0, none⟩ = some (.pointer (some ⟨D, 0, none⟩)) := c1
  go_enter Tryz.func147, Tryz.ntmps147
  go_upto_region 1 with (fail)
  go_region_law (first | (go_simp; go_at_call 148; refine (unhide HT).mono ?_; rintro e w2 ⟨rfl, d', hd, hx, hf⟩))
  all_goals
    obtain ⟨q0, q1, q2, q3, q4, q5, hde, x0, x1, x2, x3, x4, x5⟩ := hx
    have HRES : Hid (FP D G inp rest w ⟨.third z 0 (v + 4) a b, 0, 0, last, out, fresh, skip⟩ (.returned (.int .i64 0)) w2) := by
      subst hde
      have hlb := HLB.out
      rw [← hlb] at x0 x1 x2 x3 x4 x5
      rw [← HW.out] at hf
      have hz := HZ.out
      refine hide ⟨rfl, Lb :: G, ⟨_, gp, gf, HC1.out.set hd hf rfl rfl rfl rfl rfl rfl rfl rfl, ⟨⟨rfl, rfl, rfl, rfl⟩, _, _, _, _, _, _, Lb, rfl, x0, x1, x2, by rw [Int.natCast_add]; exact x3, x4, x5, by simp, by rw [hz]; simp, (HAR.out.fr hf (fun hm => ?_)).ext (fun j hj => ?_)⟩⟩, fun y hy => ?_, (HF1.out.mono (by simp)).trans (hf.sub (fun y hy => by simp at hy; rw [hy]; exact HC.out.mem))⟩
      · simp at hm
        obtain ⟨cs, hc⟩ := ar_blk HAR.out
        rw [hm, HC1.out.di] at hc
        injection hc with hc
        injection hc with _ hc _
        cases hc
      · rw [hz]
        show (0 : Int) = (((List.replicate 19 0).getD j 0 : Nat) : Int)
        rw [List.getD, List.getElem?_replicate, if_pos hj]
        rfl
      · rcases List.mem_cons.1 hy with rfl | hy
        · right; omega
        · exact .inl hy
    clear hd hde hf x0 x1 x2 x3 x4 x5
    go_wp2
    go_ret
    exact HRES.out
end Go.Proofs.YthmhcnnigepohaaGreatDoor.If

/- inflate.Decoder: lengths and its repeat, as states. -/
namespace Go.Proofs.YthmhcnnigepohaaGreatDoor.If
open Go.RowKit
open Dg (BAt bcells)
open Hf (NAt zI IR)
set_option linter.unusedVariables false
variable [Foreign]

def lensNext (C l : List Nat) (lits dists : Nat) (last : Bool) (out fresh : List UInt8) (skip : Bool) : PS :=
  if l.length = lits + dists then ⟨.lit (l.take lits) (l.drop lits), 0, 0, last, out, fresh, skip⟩ else ⟨.lens C l lits dists, 0, 0, last, out, fresh, skip⟩
theorem lengths153_fp (D : Nat) (G : List Nat) (d : DV) (gp gf gl : Option Nat) (inp : Int) (rest : ByteArray) (last skip : Bool) (out fresh : List UInt8) (C l : List Nat) (lits dists Dc : Nat) (vl : Value) (w : World)
    (hc : Core w D G d gp gf inp rest last false skip out fresh) (hd : Dec w G (ptr Dc) C 0 0) (hn : NAt w vl gl l) (hg : ∀ x, gl = some x → x ∈ G) (hb : 1 ≤ lits ∧ 1 ≤ dists ∧ lits ≤ 300 ∧ dists ≤ 300) (hle : l.length ≤ 1000) (hok : l.length = lits + dists → LOk (l.take lits) ∧ LOk (l.drop lits)) :
    Calls Tryz.prog 153 #[.pointer (some ⟨D, 0, none⟩), .pointer (some ⟨Dc, 0, none⟩), vl, .int .i64 lits, .int .i64 dists] w (FP D G inp rest w (lensNext C l lits dists last out fresh skip)) := by
  unfold lensNext
  by_cases he : l.length = lits + dists
  · rw [if_pos he]
    refine (lengths153_end D d (some ⟨Dc, 0, none⟩) vl gl l lits dists G w hc.di hc.inn hc.mem hn he hb (hok he).1 (hok he).2).mono ?_
    rintro e w2 ⟨rfl, Da, Db, d', q1, q2, q3, g1, g2, g3, hd2, rfl, x1, x2, x3, x4, x5, x6, hf⟩
    refine ⟨rfl, Da :: Db :: G, ⟨_, gp, gf, (hc.set hd2 hf rfl rfl rfl rfl rfl rfl rfl rfl).grow (fun b hb => by simp [hb]) x6, ⟨_, _, _, _, _, rfl, rfl, x1, x2, x3, x4, x5, fun h => g3 (by injection h with h; injection h with h; injection h)⟩⟩, fun b hb => ?_, hc.frG hf⟩
    rcases List.mem_cons.1 hb with rfl | hb
    · exact .inr g1
    · rcases List.mem_cons.1 hb with rfl | hb
      · exact .inr g2
      · exact .inl hb
  · rw [if_neg he]
    obtain ⟨a, c, hv⟩ := SlAt.shape hn
    subst hv
    refine (lengths153_on D d (some ⟨Dc, 0, none⟩) a l.length c lits dists G w hc.di hc.inn he (by omega)).mono ?_
    rintro e w2 ⟨rfl, d', c0, c1, c2, c3, c4, c5, hd2, rfl, x0, x1, x2, x3, x4, x5, hf⟩
    refine ⟨rfl, G, ⟨_, gp, gf, hc.set hd2 hf rfl rfl rfl rfl rfl rfl rfl rfl, ⟨_, _, _, _, _, _, _, _, gl, rfl, rfl, x0, x1, x2, x3, x4, x5, hd.set hc.di hc.mem hf, SlAt.fr hn hf (fun b hb hm => ?_), hg⟩⟩, Grows.refl _ _, hc.frG hf⟩
    simp at hm
    obtain ⟨cur, hcc⟩ := SlAt.lt hn b hb
    rw [hm, hc.di] at hcc
    injection hcc with hcc
    injection hcc with _ hcc _
    cases hcc

set_option maxRecDepth 100000 in
set_option maxHeartbeats 4000000 in
theorem rep162 (D : Nat) (G : List Nat) (d : DV) (gp gf gl : Option Nat) (inp : Int) (rest : ByteArray) (last skip : Bool) (out fresh : List UInt8) (C l : List Nat) (a b Dc bits least value : Nat) (vl p pl pa pb pc : Value) (w : World)
    (hc : Core w D G d gp gf inp rest last false skip out fresh) (hp : Box w G p 173 (ptr D)) (hpc : Box w G pc 192 (ptr Dc)) (hpl : Box w G pl 77 vl) (hpa : Box w G pa 3 (.int .i64 a)) (hpb : Box w G pb 3 (.int .i64 b)) (hd : Dec w G (ptr Dc) C 0 0) (hn : NAt w vl gl l) (hg : ∀ x, gl = some x → x ∈ G) :
    Calls Tryz.prog 162 #[.int .i64 bits, .int .i64 least, .int .i64 value, p, pl, pa, pb, pc] w (FP D G inp rest w ⟨.rep C l a b bits least value, 0, 0, last, out, fresh, skip⟩) := by
  have HC := hide hc
  have HP := hide hp
  have HPC := hide hpc
  have HPL := hide hpl
  have HPA := hide hpa
  have HPB := hide hpb
  have HDD := hide hd
  have HNN := hide hn
  have HGL := hide hg
  obtain ⟨b1, e1, l1, n1, c1⟩ := hp.at_
  obtain ⟨b2, e2, l2, n2, c2⟩ := hpc.at_
  obtain ⟨b3, e3, l3, n3, c3⟩ := hpl.at_
  obtain ⟨b4, e4, l4, n4, c4⟩ := hpa.at_
  obtain ⟨b5, e5, l5, n5, c5⟩ := hpb.at_
  subst e1 e2 e3 e4 e5
  have HS := hide (number135_any D d (bits : Int) (.func 163) #[] #[.pointer (some ⟨b3, 0, none⟩), .pointer (some ⟨w.heap.size, 0, none⟩), .pointer (some ⟨b4, 0, none⟩), .pointer (some ⟨b5, 0, none⟩), .pointer (some ⟨b1, 0, none⟩), .pointer (some ⟨b2, 0, none⟩), .pointer (some ⟨w.heap.size + 1, 0, none⟩)] (bw w [(.int .i64 least, 3), (.int .i64 value, 3)]) (hc.di.fr (bw_fr _ _) (by simp)))
  have HRES : Hid (∀ w2, DI w2 D { d with acc := 0, have_ := 0, need := (bits : Int), code := .pointer none, next := .func (.func 163) #[] #[.pointer (some ⟨b3, 0, none⟩), .pointer (some ⟨w.heap.size, 0, none⟩), .pointer (some ⟨b4, 0, none⟩), .pointer (some ⟨b5, 0, none⟩), .pointer (some ⟨b1, 0, none⟩), .pointer (some ⟨b2, 0, none⟩), .pointer (some ⟨w.heap.size + 1, 0, none⟩)] } → Fr [D] (bw w [(.int .i64 least, 3), (.int .i64 value, 3)]) w2 → FP D G inp rest w ⟨.rep C l a b bits least value, 0, 0, last, out, fresh, skip⟩ (.returned (.int .i64 0)) w2) := by
    refine hide (fun w2 hd2 hf => ?_)
    have hf2 : Fr [D] w w2 := ((bw_fr _ w).mono (by simp)).trans hf
    have hfG := HC.out.frG hf2
    have hin := HC.out.inn
    have hlt := HC.out.lt
    have hgr := Grows.refl w G
    refine ⟨rfl, G, ⟨_, gp, gf, HC.out.set hd2 hf2 rfl rfl rfl rfl rfl rfl rfl rfl, ⟨⟨rfl, rfl, rfl, rfl⟩, _, _, _, _, _, _, _, _, vl, gl, rfl, HP.out.fr hfG hgr, HPC.out.fr hfG hgr, HPL.out.fr hfG hgr, HPA.out.fr hfG hgr, HPB.out.fr hfG hgr, bw_box (i := 0) hin (by simpa using hlt) hf rfl, bw_box (i := 1) hin (by simpa using hlt) hf rfl, HDD.out.set HC.out.di HC.out.mem hf2, SlAt.fr HNN.out hf2 (fun x hx hm => ?_), HGL.out⟩⟩, hgr, hfG⟩
    simp at hm
    obtain ⟨cur, hcc⟩ := SlAt.lt HNN.out x hx
    rw [hm, HC.out.di] at hcc
    injection hcc with hcc
    injection hcc with _ hcc _
    cases hcc
  clear hc hp hpc hpl hpa hpb hd hn hg n1 n2 n3 n4 n5
  go_enter Tryz.func162, Tryz.ntmps162
  go_wp2_with fail
  refine (unhide HS).mono ?_
  rintro e w2 ⟨rfl, hd, hf⟩
  have HR2 := hide (HRES.out w2 hd hf)
  clear hd hf
  go_wp2
  go_ret
  exact HR2.out
end Go.Proofs.YthmhcnnigepohaaGreatDoor.If
