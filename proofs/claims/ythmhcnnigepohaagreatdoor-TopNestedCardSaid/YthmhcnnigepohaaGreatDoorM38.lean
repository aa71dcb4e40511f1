/- file: (*packed).unpack. -/
import Derived.Test.YthmhcnnigepohaaGreatDoorM37
namespace Go.Proofs.YthmhcnnigepohaaGreatDoor.Fi
open Go.RowKit
open If (Grows Ost PS ptr)
open En (In GRep Inflates Along mem phAt outAt inS mem_len slat_some Ph)
open Dg (HashOf Kst step_append_run)
set_option linter.unusedVariables false

def onAt (d S : List UInt8) (st : Nat → PS) (m : Nat) : Option Nat := if outAt d S st m = [] then none else some (outAt d S st m).length
theorem outAt_pre {d S : List UInt8} {st : Nat → PS} (h : Along d S st) (m : Nat) : outAt d S st m = S.take (outAt d S st m).length := by
  unfold outAt
  split
  · rfl
  · split
    · next h1 =>
      obtain ⟨r, hr⟩ := h.mono (d.length - (m - 13)) (m - 13) (by omega)
      conv => rhs; rw [hr]
      rw [List.take_left]
    · rw [List.take_length]
theorem outAt_le {d S : List UInt8} {st : Nat → PS} (h : Along d S st) (m : Nat) : (outAt d S st m).length ≤ S.length := by
  have := congrArg List.length (outAt_pre h m)
  rw [List.length_take] at this
  omega
theorem out_step {d S o : List UInt8} {st : Nat → PS} (h : Along d S st) (m : Nat) (ho : outAt d S st (m + 1) = outAt d S st m ++ o) : o = (S.drop (outAt d S st m).length).take o.length ∧ (outAt d S st m).length + o.length ≤ S.length := by
  have h1 := outAt_pre h (m + 1)
  have h2 := outAt_le h (m + 1)
  rw [ho, List.length_append] at h1 h2
  refine ⟨?_, h2⟩
  have := congrArg (fun l => l.drop (outAt d S st m).length) h1
  simp only [List.drop_left] at this
  rw [List.drop_take, Nat.add_sub_cancel_left] at this
  exact this
theorem ph_done {d S : List UInt8} {st : Nat → PS} (m : Nat) : (phAt d st m).done = decide ((mem d S).length ≤ m) := by
  rw [mem_len]
  unfold phAt
  split
  · simp [Ph.done]; omega
  · split
    · simp [Ph.done]; omega
    · split
      · simp [Ph.done]; omega
      · simp only [Ph.done]
        rw [decide_eq_decide]
        omega
theorem out_last {d S : List UInt8} {st : Nat → PS} (m : Nat) (h : m + 1 = (mem d S).length) : outAt d S st (m + 1) = S ∧ outAt d S st m = S := by
  rw [mem_len] at h
  unfold outAt
  constructor
  · rw [if_neg (by omega), if_neg (by omega)]
  · rw [if_neg (by omega), if_neg (by omega)]
theorem on_getD {d S : List UInt8} {st : Nat → PS} (m : Nat) : (onAt d S st m).getD 0 = (outAt d S st m).length := by
  unfold onAt
  split
  · next h => rw [h]; rfl
  · rfl
theorem on_more {d S o : List UInt8} {st : Nat → PS} {m : Nat} (ho : outAt d S st (m + 1) = outAt d S st m ++ o) (hne : o ≠ []) : onAt d S st (m + 1) = some ((outAt d S st m).length + o.length) := by
  unfold onAt
  rw [if_neg (by rw [ho]; simp [hne]), ho, List.length_append]
theorem on_same {d S : List UInt8} {st : Nat → PS} {m : Nat} (ho : outAt d S st (m + 1) = outAt d S st m) : onAt d S st (m + 1) = onAt d S st m := by
  unfold onAt
  rw [ho]
/-- A packed whose member is complete. -/
structure Fin (w0 : World) (A0 B0 : List Nat) (C lv : Nat) (c : Ch) (P Z : Nat) (S : List UInt8) (w : World) (p : PV) (A B : List Nat) : Prop where
  pi : PI w P p
  lve : p.lv = lv
  cnt : p.cnt = C
  over : p.over = false
  beg : p.begin_ = ba []
  dec : p.dec = ptr Z
  now : p.now = .nilIface
  mem : ∃ bm vn, bm ∈ A ∧ SlAt 168 2 w p.mem (some bm) 1 [.string inS, vn] ∧ Sk w C (lv + 1) c S.length vn B
  ct : Ct w C (lv + 1 + made c S.length)
  pa : P ∉ A
  pb : P ∉ B
  dj : Disj A B
  ina : In w A
  inb : In w B
  fr : Fr (P :: C :: (A0 ++ B0)) w0 w
  ga : Grows w0 A0 A
  gb : Grows w0 B0 B
theorem elem168 : ElemOk Tryz.prog 102 168 2 32 := ⟨Tryz.underlying102, by
  have h : (Tryz.prog.info? 168).map (fun i => (i.zero.map (fun z => z.cells.size), i.size, i.bytes)) = some (some 2, 2, 32) := by kernel_rfl
  cases hq : Tryz.prog.info? 168 with
  | none => rw [hq] at h; cases h
  | some i =>
    rw [hq] at h
    simp only [Option.map_some, Option.some.injEq, Prod.mk.injEq] at h
    obtain ⟨h1, h2, h3⟩ := h
    cases hz : i.zero with
    | none => rw [hz] at h1; cases h1
    | some z =>
      rw [hz] at h1
      simp only [Option.map_some, Option.some.injEq] at h1
      exact ⟨i, z, rfl, hz, h2, h3, h1⟩, by decide⟩
theorem Mid.fin {w0 w w' : World} {A0 B0 A B : List Nat} {C lv P Z bm : Nat} {c : Ch} {S : List UInt8} {q q' : PV} {φ : Ph} {mv : Value} (h : Mid w0 A0 B0 C lv c P Z S w q A B φ (some S.length)) (hs : SlAt 168 2 w mv (some bm) 1 [.string inS, q.now]) (hb : bm ∉ B) (hA : ∀ b ∈ A, b ≠ bm) (hbP : bm ≠ P) (hb0 : w0.heap.size ≤ bm)
    (hq : q' = { q with mem := mv, raw := ba [], now := .nilIface }) (hw : w' = ((w.setCell ⟨P, 12, none⟩ mv).setCell ⟨P, 10, none⟩ (.string ⟨#[]⟩)).setCell ⟨P, 11, none⟩ .nilIface) : Fin w0 A0 B0 C lv c P Z S w' q' (bm :: A) B := by
  have hf : Fr [P] w w' := by rw [hw]; exact (((Fr.refl [P] w).setCell (.inl (by simp)) _).setCell (.inl (by simp)) _).setCell (.inl (by simp)) _
  obtain ⟨k1, k2, k3⟩ := h.base hf (fun b hb => .inl (by simpa using hb))
  have hPs : ∀ {L : List Nat}, P ∉ L → ∀ b ∈ L, b ∉ [P] := fun hn b hb hm => by simp at hm; subst hm; exact hn hb
  have hbl : bm < w.heap.size := by obtain ⟨cur, hc⟩ := SlAt.lt hs _ rfl; exact lt_of_blk hc
  have hin := h.grep.mem.2
  subst hq
  refine ⟨?_, h.lve, h.cnt, h.over, h.beg, h.dec, rfl, ⟨bm, q.now, by simp, slat_some hs hf (by simpa using hbP), Sk.fr hf _ _ _ _ _ h.now.1 (hPs h.pb)⟩, h.now.2.fr hf (by simpa using h.pc.symm), ?_, h.pb, fun b hb' hm => ?_, fun b hb' => ?_, h.inb.fr hf, k3, fun b hb' => ?_, h.gb⟩
  · have hp := h.pi
    unfold PI at *
    rw [hw, heap_set, heap_set, heap_set, hp]
    rfl
  · rw [List.mem_cons]
    rintro (e | e)
    · exact hbP e.symm
    · exact h.pa e
  · rw [List.mem_cons] at hb'
    rcases hb' with rfl | e
    · exact hb hm
    · exact h.dj b e hm
  · rw [List.mem_cons] at hb'
    rcases hb' with rfl | e
    · exact Nat.lt_of_lt_of_le hbl hf.size
    · exact Nat.lt_of_lt_of_le (hin b e) hf.size
  · rw [List.mem_cons] at hb'
    rcases hb' with rfl | e
    · exact .inr hb0
    · exact h.ga b e
def UnPost (w0 : World) (A0 B0 : List Nat) (C lv : Nat) (d : List UInt8) (st : Nat → PS) (c : Ch) (P Z m : Nat) (p : PV) (e : Ending) (w' : World) : Prop :=
  e = .returned (.tuple #[]) ∧ ∃ p' A' B', p'.hb = p.hb ∧ p'.head = p.head ∧
    ((m + 1 < (mem d c.bytes).length ∧ p'.raw = ba ((mem d c.bytes).take (m + 1)) ∧ Mid w0 A0 B0 C lv c P Z c.bytes w' p' A' B' (phAt d st (m + 1)) (onAt d c.bytes st (m + 1))) ∨
     (m + 1 = (mem d c.bytes).length ∧ Fin w0 A0 B0 C lv c P Z c.bytes w' p' A' B'))
set_option maxRecDepth 100000 in
set_option maxHeartbeats 16000000 in
theorem unpack107_any {w0 w : World} {A0 B0 A B : List Nat} {C lv P Z m : Nat} {c : Ch} {d : List UInt8} {st : Nat → PS} {p : PV} (IH : WriteOK c (lv + 1)) (hgood : Ch.Good lv (.wrap d st c)) (hm : m < (mem d c.bytes).length)
    (h : Mid w0 A0 B0 C lv c P Z c.bytes w p A B (phAt d st m) (onAt d c.bytes st m)) (hraw : p.raw = ba ((mem d c.bytes).take m)) :
    Calls Tryz.prog 107 #[ptr P, .string (ba [(mem d c.bytes)[m]])] w (UnPost w0 A0 B0 C lv d st c P Z m p) := by
  obtain ⟨hlv, hinf, hal, hlen, hgc⟩ := hgood
  obtain ⟨S, hS⟩ : ∃ S, S = c.bytes := ⟨_, rfl⟩
  have hSl : S.length ≤ 60000 := by rw [hS]; exact hgc.len
  obtain ⟨k, o, hrs, hout⟩ := En.byte_rs (S := c.bytes) hal m hm
  obtain ⟨hos, hol⟩ := out_step hal m hout
  have H109 := hide (En.feed109_any Z A c.bytes o (phAt d st m) (phAt d st (m + 1)) k (ba [(mem d c.bytes)[m]]) w h.grep hrs (by rw [← hS]; omega) (by rw [ba_size]; simp) (by rw [hS] at hSl; omega) h.ost h.a0)
  have hcat : p.raw ++ ba [(mem d c.bytes)[m]] = ba ((mem d c.bytes).take (m + 1)) := by
    rw [hraw, ba_app, List.take_succ_eq_append_getElem hm]
  have hrs1 : p.raw.size ≤ 60000 := by rw [hraw, ba_size, List.length_take]; omega
  have hrs2 : (ba ((mem d c.bytes).take (m + 1))).size ≤ 60000 := by rw [ba_size, List.length_take]; omega
  obtain ⟨s, hs⟩ : ∃ s, s = ba [(mem d c.bytes)[m]] := ⟨_, rfl⟩
  obtain ⟨u, hu⟩ : ∃ u, u = ba ((mem d c.bytes).take (m + 1)) := ⟨_, rfl⟩
  have hss : s.size = 1 := by rw [hs]; rfl
  rw [← hs] at H109 hcat ⊢
  rw [← hu] at hcat hrs2
  have hl := h.pi.lt
  have hdec := h.dec
  have c8 : w.cell? ⟨P, 8, none⟩ = some (.pointer (some ⟨Z, 0, none⟩)) := by rw [cell_blk h.pi]; show some p.dec = _; rw [hdec]; rfl
  obtain ⟨x, hx⟩ : ∃ x : ByteArray, x = ⟨o.toArray⟩ := ⟨_, rfl⟩
  have HM := hide h
  have HPURE := hide (And.intro hlv (And.intro hinf (And.intro hal (And.intro hlen (And.intro hgc (And.intro hout (And.intro hos hol)))))))
  have HU := hide hu
  have HIH : Hid (WriteOK c (lv + 1)) := hide IH
  have HX := hide hx
  have HSE := hide hS
  have HMM := hide hm
  obtain ⟨rw0, hrw0⟩ : ∃ r, r = p.raw := ⟨_, rfl⟩
  rw [← hrw0] at hcat hrs1
  have HRW := hide hrw0
  clear h hlv hinf hal hlen hgc hout hos hol hrs hraw hs hu IH hdec hS hSl hm hrw0
  unfold ptr
  go_enter Tryz.func107, Tryz.ntmps107
  go_wp2_with fail
  refine (unhide H109).mono ?_
  rintro e w1 ⟨he, A1, hr1, hg1, hf1⟩
  rw [← hx] at he
  subst he
  have HM1 := hide (HM.out.fed hf1 hg1 hr1)
  have hl1 := HM1.out.pi.lt
  have d10 : w1.cell? ⟨P, 10, none⟩ = some (.string rw0) := by rw [cell_blk HM1.out.pi]; show some (Value.string p.raw) = _; rw [HRW.out]
  have df10 : w1.frozen? ⟨P, 10, none⟩ = false := froz_blk HM1.out.pi 10
  have HM2 := hide (HM1.out.setRaw u)
  clear hr1 hg1 hf1 hx c8
  go_upto_region 2 with fail
  obtain ⟨w2, hw2⟩ : ∃ y, y = w1.setCell ⟨P, 10, none⟩ (.string u) := ⟨_, rfl⟩
  rw [← hw2]
  rw [← hw2] at HM2
  obtain ⟨p2, hp2⟩ : ∃ q, q = { p with raw := u } := ⟨_, rfl⟩
  rw [← hp2] at HM2
  have HP2 : Hid (p2.hb = p.hb ∧ p2.head = p.head ∧ p2.raw = u) := by rw [hp2]; exact hide ⟨rfl, rfl, rfl⟩
  have hl2 := HM2.out.pi.lt
  clear hw2 hp2 d10 df10
  by_cases hon : o = []
  · have hx0 : x = ⟨#[]⟩ := by rw [HX.out, hon]
    subst hx0
    have hsame : outAt d c.bytes st (m + 1) = outAt d c.bytes st m := by
      have := HPURE.out.2.2.2.2.2.1
      rw [hon, List.append_nil] at this
      exact this
    have e8 : w2.cell? ⟨P, 8, none⟩ = some (.pointer (some ⟨Z, 0, none⟩)) := by rw [cell_blk HM2.out.pi]; show some p2.dec = _; rw [HM2.out.dec]; rfl
    have H111 := En.close111_any HM2.out.grep
    rw [ph_done (S := c.bytes)] at H111
    by_cases hlast : m + 1 = (mem d c.bytes).length
    · rw [show decide ((mem d c.bytes).length ≤ m + 1) = true by simp; omega] at H111
      have H111 := hide H111
      have H110 := hide (HM2.out.begun110 HPURE.out.2.2.2.2.1)
      go_wp2_with fail
      refine (unhide H111).mono ?_
      rintro e w2' ⟨rfl, rfl⟩
      go_wp2_with fail
      refine (unhide H110).mono ?_
      rintro e w3 ⟨rfl, v, B3, hm3⟩
      rw [on_getD, (out_last (st := st) m hlast).2] at hm3
      obtain ⟨q, hq⟩ : ∃ q, q = { p2 with now := v } := ⟨_, rfl⟩
      rw [← hq] at hm3
      have hqn : q.now = v := by rw [hq]
      have HQ : Hid (q.hb = p.hb ∧ q.head = p.head ∧ q.raw = u) := by rw [hq]; exact hide HP2.out
      clear hq
      obtain ⟨t', x', hv⟩ := sk_iface hm3.now.1
      rw [hqn] at hv
      subst hv
      have HM3 := hide hm3
      have hum : u.data.toList = mem d c.bytes := by
        rw [HU.out, hlast, List.take_length]
        rfl
      have H112 := hide (En.all112_any d c.bytes u w3.drew hum HPURE.out.2.1 (by have := HPURE.out.2.2.2.2.1.len; omega) HPURE.out.2.2.1.lim (hm3.ost.fr (Fr.refl [] w3).drew (by simp)))
      have hl3 := hm3.pi.lt
      have f10 : w3.cell? ⟨P, 10, none⟩ = some (.string u) := by rw [cell_blk hm3.pi, ← HQ.out.2.2]; rfl
      have f4 : w3.cell? ⟨P, 4, none⟩ = some (.int .i64 65536) := cell_blk hm3.pi 4
      have f5 : w3.cell? ⟨P, 5, none⟩ = some (.int .i64 1100) := cell_blk hm3.pi 5
      have HQN := hide hqn
      clear hm3 hum e8 hqn
      go_upto_region 9 with fail
      go_region_held3 (fun W => W.cell? ⟨P, 10, none⟩ = some (.string u) ∧ W.cell? ⟨P, 4, none⟩ = some (.int .i64 65536) ∧ W.cell? ⟨P, 5, none⟩ = some (.int .i64 1100)) (first | go_keep | (refine ⟨?_, ?_, ?_⟩ <;> first | assumption | exact En.fr_cell ‹_› ‹_›)) (first | ((with_reducible refine (unhide H112).mono ?_); rintro e w4 ⟨lv2, lb, lx, rfl, hls, hf4⟩))
      have hf4' : Fr [] w3 w4 := ((Fr.refl [] w3).drew).trans hf4
      have hm4 := HM3.out.quiet hf4'
      obtain ⟨lo, lc, lcur, hlv2, hlbk, l1, l2, l3⟩ : ∃ off cap cur, lv2 = .slice (some ⟨lb, off, none⟩) 1 cap ∧ w4.heap[lb]? = some (.cells cur 36 (0, 0)) ∧ 1 ≤ cap ∧ off + cap * 2 ≤ cur.size ∧ cur[off]? = some (.string inS) := by
        rcases hls with ⟨_, h, _⟩ | ⟨b', off, cap, cur, hg, hv, hb, h1, h2, h3, h4⟩
        · cases h
        · injection hg with hg
          subst hg
          exact ⟨off, cap, cur, hv, hb, h1, h2, h4 0 _ rfl⟩
      have HM4 := hide hm4
      have hl4 := hm4.pi.lt
      have e0 : w4.cell? ⟨lb, lo, none⟩ = some (.string inS) := by rw [cell_blk hlbk]; exact l3
      have hlb := lt_of_blk hlbk
      obtain ⟨mv0, hmv0⟩ : ∃ y, y = q.mem := ⟨_, rfl⟩
      have hsl0 : SlAt 168 2 w4 mv0 none 0 [] := by rw [hmv0, hm4.mem]; exact SlAt.nil_ _
      have e12 : w4.cell? ⟨P, 12, none⟩ = some mv0 := by rw [hmv0]; exact cell_blk hm4.pi 12
      have e11 : w4.cell? ⟨P, 11, none⟩ = some (.iface t' (.pointer (some ⟨x', 0, none⟩))) := by rw [← HQN.out]; exact cell_blk hm4.pi 11
      clear f10 f4 f5 hf4 hls l1 l2 l3 hlbk hmv0 hm4 hf4'
      subst hlv2
      obtain ⟨w5, hw5⟩ : ∃ y, y = (w4.alloc (.cells #[.string inS, .iface t' (.pointer (some ⟨x', 0, none⟩))] 168)).drew := ⟨_, rfl⟩
      have hf5 : Fr [] w4 w5 := by rw [hw5]; exact ((Fr.refl _ _).alloc _).drew
      obtain ⟨mv, w6, bg, hap, hsl, hf6, hbg⟩ := SlAt.append elem168 (SlAt.fr hsl0 hf5 (by simp)) 102 ⟨w4.heap.size, 0, none⟩ 1 1 [.string inS, .iface t' (.pointer (some ⟨x', 0, none⟩))] (by omega) rfl (fun j y hj => by
        rw [Addr.add_lit, hw5, cell_blk (w := (w4.alloc _).drew) (heap_alloc_eq rfl), Nat.zero_add]
        simpa using hj) (fun y hy => by simp at hy; rcases hy with rfl | rfl <;> rfl) (by omega) (by unfold maxLen; omega)
      have hf6 : Fr [] w5 w6 := hf6
      obtain ⟨bm, rfl, hbm⟩ : ∃ b, bg = some b ∧ w5.heap.size ≤ b := by
        rcases hbg with rfl | ⟨h, -⟩
        · rcases hsl with ⟨_, _, h, _⟩ | ⟨b, _, _, _, h, _⟩
          · cases h
          · cases h
        · exact ⟨_, h, Nat.le_refl _⟩
      obtain ⟨mo, mc, hmv⟩ := SlAt.shape hsl
      have hmv : mv = .slice mo 1 mc := hmv
      subst hmv
      have hap1 : (Builtin.append_ #[102, 102] 102 #[mv0, .slice (some ⟨w4.heap.size, 0, none⟩) 1 1]).run Tryz.prog (w4.alloc (.cells #[.string inS, .iface t' (.pointer (some ⟨x', 0, none⟩))] 168)).drew = .ok (.slice mo 1 mc) w6 := by rw [← hw5]; exact hap
      have hap2 : (Builtin.append_ #[102, 102] 102 #[mv0, .slice (some ⟨w4.heap.size, 0, none⟩) 1 1]).run Tryz.prog (w4.drew.alloc (.cells #[.string inS, .iface t' (.pointer (some ⟨x', 0, none⟩))] 168)) = .ok (.slice mo 1 mc) w6 := hap1
      have hm6 := HM4.out.quiet (hf5.trans hf6)
      have hl6 := hm6.pi.lt
      have g12 : w6.cell? ⟨P, 12, none⟩ = some mv0 := En.fr_cell (hf5.trans hf6) e12
      have g11 : w6.cell? ⟨P, 11, none⟩ = some (.iface t' (.pointer (some ⟨x', 0, none⟩))) := En.fr_cell (hf5.trans hf6) e11
      have g10 : w6.cell? ⟨P, 10, none⟩ = some (.string u) := by rw [cell_blk hm6.pi, ← HQ.out.2.2]; rfl
      have gf12 : w6.frozen? ⟨P, 12, none⟩ = false := froz_blk hm6.pi 12
      have gf11 : w6.frozen? ⟨P, 11, none⟩ = false := froz_blk hm6.pi 11
      have gf10 : w6.frozen? ⟨P, 10, none⟩ = false := froz_blk hm6.pi 10
      have HRES : Hid (UnPost w0 A0 B0 C lv d st c P Z m p (.returned (.tuple #[])) (((w6.setCell ⟨P, 12, none⟩ (.slice mo 1 mc)).setCell ⟨P, 10, none⟩ (.string ⟨#[]⟩)).setCell ⟨P, 11, none⟩ .nilIface)) := by
        have h4s : w4.heap.size ≤ w5.heap.size := hf5.size
        have hin := HM4.out.grep.mem.2
        have hin2 := HM4.out.inb
        have h0 := HM4.out.fr.size
        exact hide ⟨rfl, { q with mem := .slice mo 1 mc, raw := ba [], now := .nilIface }, bm :: A1, B3, HQ.out.1, HQ.out.2.1, .inr ⟨hlast, Mid.fin hm6 (by rw [HQN.out]; exact hsl) (fun hm => by have := hin2 _ hm; omega) (fun b hb => by have := hin _ hb; omega) (by omega) (by omega) rfl rfl⟩⟩
      clear hap hsl hf5 hf6 hw5 hm6 hbm hsl0
      go_upto_region 12 with fail
      go_cut [] (fun wd => wd = w6.setCell ⟨P, 12, none⟩ (.slice mo 1 mc))
      case first =>
        go_region_law (first | (refine step_append_run rfl _ _ 102 rfl hap1 rfl rfl ?_) | (refine step_append_run rfl _ _ 102 rfl hap2 rfl rfl ?_))
        all_goals go_wp2_with fail
        all_goals go_meet
        all_goals rfl
      case rest =>
        subst hcut
        go_wp2_with fail
        refine bodyPost_end (results_none rfl _ _ _) rfl ?_
        exact HRES.out
    · rw [show decide ((mem d c.bytes).length ≤ m + 1) = false by have := HMM.out; simp; omega] at H111
      have H111 := hide H111
      have HRES : Hid (UnPost w0 A0 B0 C lv d st c P Z m p (.returned (.tuple #[])) w2) := by
        refine hide ⟨rfl, p2, A1, B, HP2.out.1, HP2.out.2.1, .inl ⟨by have := HMM.out; omega, HP2.out.2.2.trans HU.out, ?_⟩⟩
        rw [on_same hsame]
        exact HM2.out
      clear hsame hlast hon
      go_wp2_with fail
      refine (unhide H111).mono ?_
      rintro e w3 ⟨rfl, rfl⟩
      go_wp2_with fail
      refine bodyPost_ret (results_none rfl _ _ _) rfl ?_
      exact HRES.out
  · have hxe : x.toList.isEmpty = false := by
      rw [Lib.toList_data, HX.out]
      cases o with
      | nil => exact absurd rfl hon
      | cons a b => rfl
    have H110 := hide (HM2.out.begun110 HPURE.out.2.2.2.2.1)
    have hnl : m + 1 ≠ (mem d c.bytes).length := fun e => by
      obtain ⟨q1, q2⟩ := out_last (st := st) m e
      have h := HPURE.out.2.2.2.2.2.1
      rw [q1, q2] at h
      have := congrArg List.length h
      rw [List.length_append] at this
      exact hon (List.eq_nil_of_length_eq_zero (by omega))
    go_wp2_with fail
    refine (unhide H110).mono ?_
    rintro e w3 ⟨rfl, v, B3, hm3⟩
    rw [on_getD] at hm3
    obtain ⟨q, hq⟩ : ∃ q, q = { p2 with now := v } := ⟨_, rfl⟩
    rw [← hq] at hm3
    have hqn : q.now = v := by rw [hq]
    have HQ : Hid (q.hb = p.hb ∧ q.head = p.head ∧ q.raw = u) := by rw [hq]; exact hide HP2.out
    clear hq
    have HM3 := hide hm3
    have hl3 := hm3.pi.lt
    have henv : Env w3 C B3 (lv + 1 + made c (outAt d c.bytes st m).length) := ⟨hm3.kst, hm3.ost, hm3.now.2, hm3.c1, hm3.cb, hm3.b0, hm3.b1⟩
    have hxb : x = ba ((c.bytes.drop (outAt d c.bytes st m).length).take o.length) := by rw [HX.out, ← HPURE.out.2.2.2.2.2.2.1]; rfl
    obtain ⟨P', hcall⟩ := HIH.out C _ o.length v B3 x w3 (List.length_pos_iff.mpr hon) (by rw [← hqn]; exact hm3.now.1) hxb HPURE.out.2.2.2.2.2.2.2 henv
    have c11 : w3.cell? ⟨P, 11, none⟩ = some v := by rw [← hqn]; exact cell_blk hm3.pi 11
    have HNL := hide hnl
    have HON := hide hon
    clear hm3 henv hxb hnl hon hxe
    have HQN := hide hqn
    clear hqn
    rcases hcall with ⟨rfl, hcall⟩ | ⟨rfl, hcall⟩
    all_goals
      have HW := hide hcall
      clear hcall
      unfold ptr at c11
      go_wp2_with fail
      refine (unhide HW).mono ?_
      rintro e w4 hw4
      obtain ⟨rfl, B4, hm4⟩ := HM3.out.wrote (by rw [HQN.out]; exact hw4)
      have HM4 := hide hm4
      have hl4 := hm4.pi.lt
      have e8 : w4.cell? ⟨P, 8, none⟩ = some (.pointer (some ⟨Z, 0, none⟩)) := by rw [cell_blk hm4.pi]; show some q.dec = _; rw [hm4.dec]; rfl
      have H111 := En.close111_any hm4.grep
      rw [ph_done (S := c.bytes), show decide ((mem d c.bytes).length ≤ m + 1) = false by have := HMM.out; have := HNL.out; simp; omega] at H111
      have H111 := hide H111
      have HRES : Hid (UnPost w0 A0 B0 C lv d st c P Z m p (.returned (.tuple #[])) w4) := by
        refine hide ⟨rfl, q, A1, B4, HQ.out.1, HQ.out.2.1, .inl ⟨by have := HMM.out; have := HNL.out; omega, HQ.out.2.2.trans HU.out, ?_⟩⟩
        rw [on_more HPURE.out.2.2.2.2.2.1 HON.out]
        exact HM4.out
      clear hm4 hw4 c11
      go_wp2_with fail
      refine (unhide H111).mono ?_
      rintro e w5 ⟨rfl, rfl⟩
      go_wp2_with fail
      refine bodyPost_ret (results_none rfl _ _ _) rfl ?_
      exact HRES.out
end Go.Proofs.YthmhcnnigepohaaGreatDoor.Fi

/- file: a packed behind a write. -/
namespace Go.Proofs.YthmhcnnigepohaaGreatDoor.Fi
open Go.RowKit
open If (Grows Ost PS ptr)
open En (In GRep Inflates Along mem phAt outAt inS mem_len slat_some Ph)
open Dg (HashOf Kst)
set_option linter.unusedVariables false

theorem made_live {d : List UInt8} {st : Nat → PS} {c : Ch} {m : Nat} (h : m ≠ (mem d c.bytes).length) : made (.wrap d st c) m = match onAt d c.bytes st m with | none => 1 | some n => 1 + made c n := by
  show (if m = (mem d c.bytes).length then 1 + made c c.bytes.length else if outAt d c.bytes st m = [] then 1 else 1 + made c (outAt d c.bytes st m).length) = _
  unfold onAt
  rw [if_neg h]
  split <;> rfl
theorem made_end {d : List UInt8} {st : Nat → PS} {c : Ch} {m : Nat} (h : m = (mem d c.bytes).length) : made (.wrap d st c) m = 1 + made c c.bytes.length := by
  show (if m = (mem d c.bytes).length then 1 + made c c.bytes.length else if outAt d c.bytes st m = [] then 1 else 1 + made c (outAt d c.bytes st m).length) = _
  rw [if_pos h]
/-- Behind the loop: the packed takes n + k bytes as it took n. -/
theorem wpost_of {C lv n k P Z hb : Nat} {d : List UInt8} {st : Nat → PS} {c : Ch} {w w0 w' : World} {p' : PV} {A0 B0 A B G : List Nat} {v : Value} (hlv : lv < 6) (hv : v = .iface 100 (ptr P)) (hPG : P ∈ G) (hhG : hb ∈ G) (h0 : Fr [P, hb] w w0) (hA0 : Grows w G A0) (hB0 : Grows w G B0)
    (hh : HashOf w0 hb ((mem d c.bytes).take (n + k))) (hhP : hb ≠ P) (hhC : hb ≠ C) (hhA : hb ∉ A0) (hhB : hb ∉ B0) (hb' : p'.hb = hb) (hhd : p'.head = hd (mem d c.bytes) (n + k)) (h2 : 2 ≤ n + k) (hle : n + k ≤ (mem d c.bytes).length)
    (hres : (n + k < (mem d c.bytes).length ∧ p'.raw = ba ((mem d c.bytes).take (n + k)) ∧ Mid w0 A0 B0 C lv c P Z c.bytes w' p' A B (phAt d st (n + k)) (onAt d c.bytes st (n + k))) ∨ (n + k = (mem d c.bytes).length ∧ Fin w0 A0 B0 C lv c P Z c.bytes w' p' A B)) :
    WPost C lv (.wrap d st c) n k v G w (.returned (.tuple #[])) w' := by
  have hhl := hh.lt
  -- what both have in common
  have key : PI w' P p' → p'.lv = lv → p'.cnt = C → p'.over = false → P ∉ A → P ∉ B → Disj A B → In w' A → In w' B → Fr (P :: C :: (A0 ++ B0)) w0 w' → Grows w0 A0 A → Grows w0 B0 B → Ct w' C (lv + made (.wrap d st c) (n + k)) → Live (fun n v G => Sk w' C (lv + 1) c n v G) w' d st c.bytes (n + k) p' A B →
      WPost C lv (.wrap d st c) n k v G w (.returned (.tuple #[])) w' := by
    intro hpi h1 h3 h4 hpA hpB hdj hiA hiB hfr hgA hgB hct hlive
    have hnA : hb ∉ A := gnot hgA hhl hhA
    have hnB : hb ∉ B := gnot hgB hhl hhB
    have hh' : HashOf w' hb ((mem d c.bytes).take (n + k)) := hh.fr hfr (by simp [hhP, hhC, hhA, hhB])
    refine ⟨rfl, P :: hb :: (A ++ B), ⟨hle, hlv, P, p', A, B, hv, hpi, by rw [hb']; exact hhP, by rw [hb']; exact hh', by simp, by rw [hb']; simp, fun b hbm => ?_, hhd, h1, h3, h4, hpA, by rw [hb']; exact hnA, hpB, by rw [hb']; exact hnB, hdj, fun b hb => by simp [hb], fun b hb => by simp [hb], .inr ⟨h2, hlive⟩⟩, hct, fun b hbm => ?_, ?_⟩
    · simp only [List.mem_cons, List.mem_append] at hbm
      rcases hbm with rfl | rfl | e | e
      · exact hpi.lt
      · exact hh'.lt
      · exact hiA b e
      · exact hiB b e
    · have hs := h0.size
      simp only [List.mem_cons, List.mem_append] at hbm
      rcases hbm with rfl | rfl | e | e
      · exact .inl hPG
      · exact .inl hhG
      · rcases hgA b e with e | e
        · exact hA0 b e
        · exact .inr (by omega)
      · rcases hgB b e with e | e
        · exact hB0 b e
        · exact .inr (by omega)
    · refine (h0.mono (fun b hbm _ => ?_)).andThen hfr (fun b hbm => ?_)
      · simp at hbm
        rcases hbm with rfl | rfl
        · simp [hPG]
        · simp [hhG]
      · simp only [List.mem_cons, List.mem_append] at hbm
        rcases hbm with rfl | rfl | e | e
        · exact .inl (by simp [hPG])
        · exact .inl (by simp)
        · exact (hA0 b e).imp (fun e => by simp [e]) id
        · exact (hB0 b e).imp (fun e => by simp [e]) id
  rcases hres with ⟨hlt, hraw, hm⟩ | ⟨heq, hf⟩
  · refine key hm.pi hm.lve hm.cnt hm.over hm.pa hm.pb hm.dj hm.grep.mem.2 hm.inb hm.fr hm.ga hm.gb ?_ ⟨hm.beg, .inl ⟨hlt, hraw, hm.mem, ⟨Z, hm.dec, hm.grep⟩, ?_⟩⟩
    · rw [made_live (by omega)]
      have hn := hm.now
      cases ho : onAt d c.bytes st (n + k) with
      | none => rw [ho] at hn; exact hn.2
      | some j =>
        rw [ho] at hn
        have h := hn.2
        rw [Nat.add_assoc] at h
        exact h
    · have hn := hm.now
      unfold onAt at hn
      by_cases ho : outAt d c.bytes st (n + k) = []
      · rw [if_pos ho] at hn
        exact .inl ⟨ho, hn.1⟩
      · rw [if_neg ho] at hn
        exact .inr ⟨ho, hn.1⟩
  · obtain ⟨bm, vn, q1, q2, q3⟩ := hf.mem
    refine key hf.pi hf.lve hf.cnt hf.over hf.pa hf.pb hf.dj hf.ina hf.inb hf.fr hf.ga hf.gb ?_ ⟨hf.beg, .inr ⟨heq, hf.now, ⟨Z, hf.dec⟩, bm, vn, q1, q2, q3⟩⟩
    rw [made_end heq]
    have h := hf.ct
    rw [Nat.add_assoc] at h
    exact h
/-- Ahead of the loop, where there is a decoder already. -/
theorem mid_of {C lv n k P : Nat} {d : List UInt8} {st : Nat → PS} {c : Ch} {w w1 : World} {p p1 : PV} {Gd Gn G : List Nat} (hP : PI w1 P p1) (hp1 : p1 = { p with head := hd (mem d c.bytes) (n + k) }) (hlv : p.lv = lv) (hcnt : p.cnt = C) (hov : p.over = false) (hf : Fr [P, p.hb] w w1) (hE : Env w C G (lv + made (.wrap d st c) n))
    (hPG : P ∈ G) (hhG : p.hb ∈ G) (hpd : P ∉ Gd) (hhd : p.hb ∉ Gd) (hpn : P ∉ Gn) (hhn : p.hb ∉ Gn) (hdj : Disj Gd Gn) (hdG : ∀ b ∈ Gd, b ∈ G) (hnG : ∀ b ∈ Gn, b ∈ G) (hin : In w G) (hn : n < (mem d c.bytes).length) (hL : Live (fun n v G => Sk w C (lv + 1) c n v G) w d st c.bytes n p Gd Gn) :
    ∃ Z, Mid w1 Gd Gn C lv c P Z c.bytes w1 p1 Gd Gn (phAt d st n) (onAt d c.bytes st n) ∧ p1.raw = ba ((mem d c.bytes).take n) := by
  subst hp1
  have hT : ∀ {L : List Nat}, P ∉ L → p.hb ∉ L → ∀ b ∈ L, b ∉ [P, p.hb] := fun h1 h2 b hb hm => by
    simp at hm
    rcases hm with rfl | rfl
    · exact h1 hb
    · exact h2 hb
  have hg : ∀ {b : Nat}, b ∉ G → b ∉ [P, p.hb] := fun h hm => by
    simp at hm
    rcases hm with rfl | rfl
    · exact h hPG
    · exact h hhG
  obtain ⟨h0, ⟨h1, h2, h3, ⟨Z, h4, h5⟩, h6⟩ | ⟨h1, _⟩⟩ := hL
  · have hct := hE.ct
    rw [made_live (by omega)] at hct
    refine ⟨Z, ⟨hP, hlv, hcnt, hov, h0, h4, h3, h5.fr hf (hT hpd hhd), ?_, hE.kst.fr hf (hg hE.g1), hE.ost.fr hf (hg hE.g0), hE.c0, fun e => hE.g0 (e ▸ hPG), fun e => hE.g1 (e ▸ hPG), fun e => hE.off (e ▸ hPG), hpd, hpn, fun h => hE.off (hdG _ h), fun h => hE.off (hnG _ h), hdj, fun b hb => Nat.lt_of_lt_of_le (hin b (hnG b hb)) hf.size, fun h => hE.g0 (hdG _ h), fun h => hE.g1 (hdG _ h), fun h => hE.g0 (hnG _ h), fun h => hE.g1 (hnG _ h), Fr.refl _ _, Grows.refl _ _, Grows.refl _ _⟩, h2⟩
    unfold onAt at hct ⊢
    rcases h6 with ⟨e, e2⟩ | ⟨e, e2⟩
    · rw [if_pos e] at hct ⊢
      exact ⟨e2, hct.fr hf (hg hE.off)⟩
    · rw [if_neg e] at hct ⊢
      refine ⟨Sk.fr hf _ _ _ _ _ e2 (hT hpn hhn), ?_⟩
      have h := hct.fr hf (hg hE.off)
      rw [Nat.add_assoc]
      exact h
  · omega
end Go.Proofs.YthmhcnnigepohaaGreatDoor.Fi

/- file: (*packed).write at a gzip content. -/
namespace Go.Proofs.YthmhcnnigepohaaGreatDoor.Fi
open Go.RowKit
open If (Grows Ost PS ptr)
open En (In GRep Inflates Along mem phAt outAt inS mem_len slat_some Ph)
open Dg (HashOf Kst)
set_option linter.unusedVariables false

/-- The loop over the bytes of a piece: q bytes have gone to the decoder. -/
def LRel (w0 : World) (A0 B0 : List Nat) (C lv : Nat) (d : List UInt8) (st : Nat → PS) (c : Ch) (P Z hb : Nat) (h : ByteArray) (w : World) (q : Nat) : Prop :=
  ∃ p A B, p.hb = hb ∧ p.head = h ∧ ((q < (mem d c.bytes).length ∧ p.raw = ba ((mem d c.bytes).take q) ∧ Mid w0 A0 B0 C lv c P Z c.bytes w p A B (phAt d st q) (onAt d c.bytes st q)) ∨ (q = (mem d c.bytes).length ∧ Fin w0 A0 B0 C lv c P Z c.bytes w p A B))
theorem LRel.over {w0 w : World} {A0 B0 : List Nat} {C lv P Z hb q : Nat} {d : List UInt8} {st : Nat → PS} {c : Ch} {h : ByteArray} (hl : LRel w0 A0 B0 C lv d st c P Z hb h w q) : ∃ p, PI w P p ∧ p.over = false := by
  obtain ⟨p, A, B, h1, h2, ⟨h3, h4, h5⟩ | ⟨h3, h4⟩⟩ := hl
  · exact ⟨p, h5.pi, h5.over⟩
  · exact ⟨p, h4.pi, h4.over⟩
theorem LRel.call {w0 w : World} {A0 B0 : List Nat} {C lv P Z hb q : Nat} {d : List UInt8} {st : Nat → PS} {c : Ch} {h : ByteArray} (hl : LRel w0 A0 B0 C lv d st c P Z hb h w q) (IH : WriteOK c (lv + 1)) (hg : Ch.Good lv (.wrap d st c)) (hq : q < (mem d c.bytes).length) :
    Calls Tryz.prog 107 #[ptr P, .string (ba [(mem d c.bytes)[q]])] w fun e w' => e = .returned (.tuple #[]) ∧ LRel w0 A0 B0 C lv d st c P Z hb h w' (q + 1) := by
  obtain ⟨p, A, B, h1, h2, ⟨h3, h4, h5⟩ | ⟨h3, h4⟩⟩ := hl
  · refine (unpack107_any IH hg hq h5 h4).mono ?_
    rintro e w' ⟨rfl, p', A', B', k1, k2, k3⟩
    exact ⟨rfl, p', A', B', k1.trans h1, k2.trans h2, k3⟩
  · omega
theorem piece {M : List UInt8} {m r i : Nat} (h : m + r ≤ M.length) (hi : i < r) : (ba ((M.drop m).take r)).extract i (i + 1) = ba [M[m + i]'(by omega)] := by
  rw [ba_ext]
  congr 1
  rw [show i + 1 - i = 1 by omega]
  have h1 : i < ((M.drop m).take r).length := by rw [List.length_take, List.length_drop]; omega
  rw [List.drop_eq_getElem_cons h1]
  simp
theorem gz_mem (d S : List UInt8) {j : Nat} (h : 2 ≤ j) : gz ((mem d S).take j) = true := by
  obtain ⟨i, rfl⟩ : ∃ i, j = i + 2 := ⟨j - 2, by omega⟩
  rfl
theorem PI.setBegin {w : World} {P : Nat} {p : PV} (h : PI w P p) (u : ByteArray) : PI (w.setCell ⟨P, 7, none⟩ (.string u)) P { p with begin_ := u } := by
  unfold PI at *
  rw [heap_set, h]
  rfl
theorem PI.setDec {w : World} {P : Nat} {p : PV} (h : PI w P p) (v : Value) : PI (w.setCell ⟨P, 8, none⟩ v) P { p with dec := v } := by
  unfold PI at *
  rw [heap_set, h]
  rfl
set_option maxRecDepth 100000 in
set_option maxHeartbeats 16000000 in
theorem write104_wrap {C lv n k P : Nat} {d : List UInt8} {st : Nat → PS} {c : Ch} {w : World} {p : PV} {Gd Gn G : List Nat} {v : Value} (IH : WriteOK c (lv + 1)) (hgood : Ch.Good lv (.wrap d st c)) (hk : 0 < k) (hle : n + k ≤ (mem d c.bytes).length) (hE : Env w C G (lv + made (.wrap d st c) n))
    (hv : v = .iface 100 (ptr P)) (hpi : PI w P p) (hhP : p.hb ≠ P) (hh : HashOf w p.hb ((mem d c.bytes).take n)) (hPG : P ∈ G) (hhG : p.hb ∈ G) (hin : In w G) (hhead : p.head = hd (mem d c.bytes) n) (hplv : p.lv = lv) (hcnt : p.cnt = C) (hov : p.over = false)
    (hpd : P ∉ Gd) (hhd : p.hb ∉ Gd) (hpn : P ∉ Gn) (hhn : p.hb ∉ Gn) (hdj : Disj Gd Gn) (hdG : ∀ b ∈ Gd, b ∈ G) (hnG : ∀ b ∈ Gn, b ∈ G)
    (hst : (n < 2 ∧ p.begin_ = ba ((mem d c.bytes).take n) ∧ p.dec = .pointer none ∧ p.now = .nilIface ∧ p.mem = .slice none 0 0 ∧ p.raw = ba []) ∨ (2 ≤ n ∧ Live (fun n v G => Sk w C (lv + 1) c n v G) w d st c.bytes n p Gd Gn)) :
    Calls Tryz.prog 104 #[ptr P, .string (ba (((mem d c.bytes).drop n).take k))] w (WPost C lv (.wrap d st c) n k v G w) := by
  have hlv := hgood.1
  have hlen := hgood.2.2.2.1
  have hne : ∀ {b : Nat}, b ∈ G → b ≠ 1 ∧ b ≠ 0 ∧ b ≠ C := fun hb => ⟨fun e => hE.g1 (e ▸ hb), fun e => hE.g0 (e ▸ hb), fun e => hE.off (e ▸ hb)⟩
  have H97 := pwrite97_any P p.hb n k 104 (PC p) (mem d c.bytes) w hpi (by rw [← hhead]; rfl) rfl rfl hh hE.kst (hne hhG).1 (hne hPG).1 hhP hlen hle
  have hss := ba_dt_size (mem d c.bytes) n k hle
  obtain ⟨s, hs⟩ : ∃ s, s = ba (((mem d c.bytes).drop n).take k) := ⟨_, rfl⟩
  rw [← hs] at H97 hss ⊢
  have H97 := hide H97
  have hl := hpi.lt
  have c2 : w.cell? ⟨P, 2, none⟩ = some (.bool false) := cell_blk hpi 2
  have HIH : Hid (WriteOK c (lv + 1)) := hide IH
  have HGD : Hid (Ch.Good lv (.wrap d st c)) := hide hgood
  have HS := hide hs
  obtain ⟨hb, hhb⟩ : ∃ x, x = p.hb := ⟨_, rfl⟩
  obtain ⟨hh0, hhh0⟩ : ∃ x, x = hd (mem d c.bytes) (n + k) := ⟨_, rfl⟩
  have HCTX : Hid (Env w C G (lv + made (.wrap d st c) n) ∧ v = .iface 100 (ptr P) ∧ PI w P p ∧ p.hb ≠ P ∧ P ∈ G ∧ p.hb ∈ G ∧ In w G ∧ p.lv = lv ∧ p.cnt = C ∧ p.over = false ∧ P ∉ Gd ∧ p.hb ∉ Gd ∧ P ∉ Gn ∧ p.hb ∉ Gn ∧ Disj Gd Gn ∧ (∀ b ∈ Gd, b ∈ G) ∧ (∀ b ∈ Gn, b ∈ G)) := hide ⟨hE, hv, hpi, hhP, hPG, hhG, hin, hplv, hcnt, hov, hpd, hhd, hpn, hhn, hdj, hdG, hnG⟩
  have HNE : Hid (∀ {b : Nat}, b ∈ G → b ≠ 1 ∧ b ≠ 0 ∧ b ≠ C) := hide hne
  have HST := hide hst
  have HLEN := hide hlen
  have HHB := hide hhb
  have HHH := hide hhh0
  clear IH hgood hE hv hpi hhP hh hPG hhG hin hhead hplv hcnt hov hpd hhd hpn hhn hdj hdG hnG hst hs hne hlen hhb hhh0
  unfold ptr
  go_enter Tryz.func104, Tryz.ntmps104
  go_wp2_with fail
  refine (unhide H97).mono ?_
  rintro e w1 ⟨rfl, hb1, hh1, hf1⟩
  obtain ⟨p1, hp1⟩ : ∃ y, y = { p with head := hd (mem d c.bytes) (n + k) } := ⟨_, rfl⟩
  have hpi1 : PI w1 P p1 := by rw [hp1]; exact hb1
  have hl1 := hpi1.lt
  have d9 : w1.cell? ⟨P, 9, none⟩ = some (.bool false) := by rw [cell_blk hpi1, hp1]; show some (Value.bool p.over) = _; rw [HCTX.out.2.2.2.2.2.2.2.2.2.1]
  have HP1 := hide hp1
  have HPI1 := hide hpi1
  have HH1 := hide hh1
  have HF1 := hide hf1
  by_cases h2 : 2 ≤ n
  · obtain ⟨hE, hv, hpi, hhP, hPG, hhG, hin, hplv, hcnt, hov, hpd, hhd, hpn, hhn, hdj, hdG, hnG⟩ := HCTX.out
    rcases HST.out with ⟨h, _⟩ | ⟨_, hL⟩
    · exact absurd h (by omega)
    · obtain ⟨Z, hmid, hraw⟩ := mid_of hpi1 hp1 hplv hcnt hov hf1 hE hPG hhG hpd hhd hpn hhn hdj hdG hnG hin (by omega) hL
      have d8 : w1.cell? ⟨P, 8, none⟩ = some (.pointer (some ⟨Z, 0, none⟩)) := by rw [cell_blk hpi1]; show some p1.dec = _; rw [hmid.dec]; rfl
      obtain ⟨w0, hw0⟩ : ∃ y, y = w1 := ⟨_, rfl⟩
      obtain ⟨A0, hA0⟩ : ∃ y, y = Gd := ⟨_, rfl⟩
      obtain ⟨B0, hB0⟩ : ∃ y, y = Gn := ⟨_, rfl⟩
      obtain ⟨m, hm⟩ : ∃ y, y = n := ⟨_, rfl⟩
      obtain ⟨r, hr⟩ : ∃ y, y = k := ⟨_, rfl⟩
      obtain ⟨hh, hhh⟩ : ∃ y, y = hd (mem d c.bytes) (n + k) := ⟨_, rfl⟩
      have HL0 : Hid (LRel w0 A0 B0 C lv d st c P Z hb hh w1 (m + 0)) := by
        rw [hw0, hA0, hB0, hm, hhh, HHB.out]
        exact hide ⟨p1, Gd, Gn, by rw [hp1], by rw [hp1], .inl ⟨by omega, hraw, hmid⟩⟩
      have HMR : Hid (m + r ≤ (mem d c.bytes).length) := hide (by omega)
      have HPC : Hid (∀ i (hi : i < r) (hbd : m + i < (mem d c.bytes).length), s.extract i (i + 1) = ba [(mem d c.bytes)[m + i]'hbd]) := by
        rw [HS.out, hm, hr]
        exact hide fun i hi hbd => piece hle hi
      have HFIN : Hid (∀ wr, LRel w0 A0 B0 C lv d st c P Z hb hh wr (m + r) → WPost C lv (.wrap d st c) n k v G w (.returned (.tuple #[])) wr) := by
        refine hide fun wr hlr => ?_
        rw [hw0, hA0, hB0, hm, hr, hhh, HHB.out] at hlr
        obtain ⟨p', A, B, q1, q2, q3⟩ := hlr
        exact wpost_of hlv hv hPG hhG hf1 (fun b hb => .inl (hdG b hb)) (fun b hb => .inl (hnG b hb)) hh1 hhP (fun e => hE.off (e ▸ hhG)) hhd hhn q1 q2 (by omega) hle q3
      have hsr : r = s.size := by omega
      have hrb : r ≤ 60000 := by have := HLEN.out; omega
      clear hE hv hpi hhP hPG hhG hin hplv hcnt hov hpd hhd hpn hhn hdj hdG hnG hL hmid hraw hb1 hh1 hf1 hp1 hpi1 hw0 hA0 hB0 hm hr hhh hss c2
      subst hsr
      go_wp2_with fail
      go_loopg [4] (s.size + 1) (fun gk sv wr => ∃ i : Nat, gk = s.size + 1 - i ∧ i ≤ s.size ∧ sv = .int .i64 i ∧ LRel w0 A0 B0 C lv d st c P Z hb hh wr (m + i))
      case atStart => exact ⟨0, rfl, by omega, rfl, HL0.out⟩
      case round =>
        obtain ⟨i, hgk, hir, rfl, hlr⟩ := hrel
        have HGK := hide hgk
        have HLR := hide hlr
        obtain ⟨q, hqi, hqo⟩ := hlr.over
        have hlq := hqi.lt
        have cov : wr.cell? ⟨P, 9, none⟩ = some (.bool false) := by rw [cell_blk hqi]; show some (Value.bool q.over) = _; rw [hqo]
        clear hgk hlr hqi hqo
        by_cases hlt : i < s.size
        · have hd1 : decide ((i : Int) < (s.size : Int)) = true := by simp; omega
          have H107 := hide (HLR.out.call HIH.out HGD.out (by have := HMR.out; omega))
          rw [← HPC.out i hlt (by have := HMR.out; omega)] at H107
          have hi1 : i + 1 ≤ s.size := hlt
          have hi2 : (i : Int) + 1 ≤ (s.size : Int) := by omega
          have hi3 : (i : Int) ≤ (i : Int) + 1 := by omega
          have hi4 : (0 : Int) ≤ (i : Int) := by omega
          have hi5 : ((i : Int) + 1).toNat = i + 1 := by omega
          go_wp2_with fail
          refine (unhide H107).mono ?_
          rintro e w8 ⟨rfl, hl8⟩
          have HL8 := hide hl8
          clear hl8
          go_wp2_with fail
          go_roundg (s.size + 1 - (i + 1))
          case measure => have := HGK.out; omega
          case rel => exact ⟨i + 1, rfl, by omega, by go_num, HL8.out⟩
        · obtain rfl : i = s.size := by omega
          have HRES := hide (HFIN.out wr HLR.out)
          go_wp2_with fail
          refine bodyPost_end (results_none rfl _ _ _) rfl ?_
          exact HRES.out
  · obtain ⟨hE, hv, hpi, hhP, hPG, hhG, hin, hplv, hcnt, hov, hpd, hhd, hpn, hhn, hdj, hdG, hnG⟩ := HCTX.out
    rcases HST.out with ⟨hn2, hbg, hdc, hnw, hmm, hrw⟩ | ⟨h, _⟩
    · have hlen21 := mem_len d c.bytes
      have d8 : w1.cell? ⟨P, 8, none⟩ = some (.pointer none) := by rw [cell_blk hpi1, hp1]; show some p.dec = _; rw [hdc]
      obtain ⟨b0, hb0⟩ : ∃ y, y = p.begin_ := ⟨_, rfl⟩
      have d7 : w1.cell? ⟨P, 7, none⟩ = some (.string b0) := by rw [cell_blk hpi1, hp1, hb0]; rfl
      have df7 : w1.frozen? ⟨P, 7, none⟩ = false := froz_blk hpi1 7
      obtain ⟨u, hu⟩ : ∃ u, u = ba ((mem d c.bytes).take (n + k)) := ⟨_, rfl⟩
      have hcat : b0 ++ s = u := by rw [hb0, hbg, HS.out, hu, ba_app, take_more]
      have hbs : b0.size = n := by rw [hb0, hbg, ba_size, List.length_take]; omega
      have hus : u.size = n + k := by rw [hu, ba_size, List.length_take]; omega
      have HUS := hide hus
      have hb0l : b0.size ≤ 60000 := by omega
      have hsl : s.size ≤ 60000 := by have := HLEN.out; omega
      have hul : u.size ≤ 60000 := by have := HLEN.out; omega
      obtain ⟨w2, hw2⟩ : ∃ y, y = w1.setCell ⟨P, 7, none⟩ (.string u) := ⟨_, rfl⟩
      obtain ⟨p2, hp2⟩ : ∃ y, y = { p1 with begin_ := u } := ⟨_, rfl⟩
      have hpi2 : PI w2 P p2 := by rw [hw2, hp2]; exact hpi1.setBegin u
      have hf2 : Fr [P] w1 w2 := by rw [hw2]; exact (Fr.refl [P] w1).setCell (.inl (by simp)) _
      have hl2 := hpi2.lt
      have e7 : w2.cell? ⟨P, 7, none⟩ = some (.string u) := by rw [cell_blk hpi2, hp2]; rfl
      have ef7 : w2.frozen? ⟨P, 7, none⟩ = false := froz_blk hpi2 7
      have hmade : made (.wrap d st c) n = 1 := by
        rw [made_live (by omega)]
        have : outAt d c.bytes st n = [] := by unfold outAt; rw [if_pos (by omega)]
        unfold onAt
        rw [if_pos this]
      have hct2 : Ct w2 C (lv + 1) := by
        have h := hE.ct
        rw [hmade] at h
        have hnC : ∀ {b : Nat}, b ∈ G → C ≠ b := fun hb e => hE.off (e ▸ hb)
        exact (h.fr hf1 (by simp [hnC hPG, hnC hhG])).fr hf2 (by simp [hnC hPG])
      have hh2 : HashOf w2 p.hb ((mem d c.bytes).take (n + k)) := hh1.fr hf2 (by simpa using hhP)
      have hf02 : Fr [P, p.hb] w w2 := hf1.trans (hf2.mono (by simp))
      by_cases h2k : n + k < 2
      · have HRES : Hid (WPost C lv (.wrap d st c) n k v G w (.returned (.tuple #[])) w2) := by
          refine hide ⟨rfl, G, ⟨hle, hlv, P, p2, [], [], hv, hpi2, by rw [hp2, hp1]; exact hhP, by rw [hp2, hp1]; exact hh2, hPG, by rw [hp2, hp1]; exact hhG, hin.fr hf02, by rw [hp2, hp1], by rw [hp2, hp1]; exact hplv, by rw [hp2, hp1]; exact hcnt, by rw [hp2, hp1]; exact hov, by simp, by simp, by simp, by simp, fun b h => by simp at h, by simp, by simp, .inl ⟨h2k, by rw [hp2]; exact hu, by rw [hp2, hp1]; exact hdc, by rw [hp2, hp1]; exact hnw, by rw [hp2, hp1]; exact hmm, by rw [hp2, hp1]; exact hrw⟩⟩, ?_, Grows.refl _ _, hf02.mono (fun b hb _ => by simp at hb; rcases hb with rfl | rfl; simp [hPG]; simp [hhG])⟩
          have : made (.wrap d st c) (n + k) = 1 := by
            rw [made_live (by omega)]
            have : outAt d c.bytes st (n + k) = [] := by unfold outAt; rw [if_pos (by omega)]
            unfold onAt
            rw [if_pos this]
          rw [this]
          exact hct2
        have HW2 := hide hw2
        clear hE hv hpi hhP hPG hhG hin hplv hcnt hov hpd hhd hpn hhn hdj hdG hnG hn2 hbg hdc hnw hmm hrw hb1 hh1 hf1 hp1 hpi1 hw2 hp2 hpi2 hf2 hct2 hh2 hf02 hb0 hu hlen21 hmade hbs hss
        have hdu : decide ((u.size : Int) < 2) = true := by simp; omega
        clear hus
        go_upto_region 5 with fail
        rw [← HW2.out]
        go_wp2_with fail
        refine bodyPost_ret (results_none rfl _ _ _) rfl ?_
        exact HRES.out
      · have H98 := hide (type98_any u w2)
        have hgz : gz u.data.toList = true := by rw [hu]; exact gz_mem d c.bytes (by omega)
        have HGZ := hide hgz
        have HPI2 := hide hpi2
        have HP2 := hide hp2
        have HW2 := hide hw2
        have HU := hide hu
        have HCT2 := hide hct2
        have HH2 := hide hh2
        have HF02 := hide hf02
        have HFACT := hide (And.intro hdc (And.intro hnw (And.intro hmm hrw)))
        clear hE hv hpi hhP hPG hhG hin hplv hcnt hov hpd hhd hpn hhn hdj hdG hnG hbg hdc hnw hmm hrw hb1 hh1 hf1 hp1 hpi1 hw2 hp2 hpi2 hf2 hct2 hh2 hf02 hb0 hu hlen21 hmade hgz hbs hss
        have hdu : decide ((u.size : Int) < 2) = false := by simp; omega
        clear hus
        go_upto_region 5 with fail
        rw [← HW2.out]
        go_wp2_with fail
        refine (unhide H98).mono ?_
        rintro e w3 ⟨t2, rfl, ht2, hf3⟩
        obtain rfl : t2 = 2 := ht2.mpr HGZ.out
        have hpi3 := HPI2.out.fr hf3 (by simp)
        have hl3 := hpi3.lt
        have g7 : w3.cell? ⟨P, 7, none⟩ = some (.string u) := En.fr_cell hf3 e7
        have gf7 : w3.frozen? ⟨P, 7, none⟩ = false := froz_blk hpi3 7
        obtain ⟨w4, hw4⟩ : ∃ y, y = w3.setCell ⟨P, 7, none⟩ (.string ⟨#[]⟩) := ⟨_, rfl⟩
        have hpi4 : PI w4 P { p2 with begin_ := ba [] } := by rw [hw4]; exact hpi3.setBegin (ba [])
        have hf4 : Fr [P] w3 w4 := by rw [hw4]; exact (Fr.refl [P] w3).setCell (.inl (by simp)) _
        have H106 := hide (En.gnew_rep c.bytes w4)
        have hl4 := hpi4.lt
        have k4 : w4.cell? ⟨P, 4, none⟩ = some (.int .i64 65536) := cell_blk hpi4 4
        have k5 : w4.cell? ⟨P, 5, none⟩ = some (.int .i64 1100) := cell_blk hpi4 5
        have HPI4 := hide hpi4
        have HF4 : Hid (Fr [P] w2 w4) := hide ((hf3.mono (by simp)).trans hf4)
        have HW4 := hide hw4
        clear ht2 hf3 hpi3 hpi4 hf4 hw4 e7 ef7 d7 df7
        go_upto_region 9 with fail
        rw [← HW4.out]
        clear g7 gf7
        go_wp2_with fail
        refine (unhide H106).mono ?_
        rintro e w5 ⟨Z, rfl, hZ, hgr5, hf5⟩
        have hpi5 := HPI4.out.fr hf5 (by simp)
        have hl5 := hpi5.lt
        have m8 : w5.cell? ⟨P, 8, none⟩ = some (.pointer none) := by rw [cell_blk hpi5, HP2.out, HP1.out]; show some p.dec = _; rw [HFACT.out.1]
        have mf8 : w5.frozen? ⟨P, 8, none⟩ = false := froz_blk hpi5 8
        obtain ⟨w0, hw0⟩ : ∃ y, y = w5.setCell ⟨P, 8, none⟩ (.pointer (some ⟨Z, 0, none⟩)) := ⟨_, rfl⟩
        have hf6 : Fr [P] w5 w0 := by rw [hw0]; exact (Fr.refl [P] w5).setCell (.inl (by simp)) _
        have hpi6 : PI w0 P { p2 with begin_ := ba [], dec := .pointer (some ⟨Z, 0, none⟩) } := by rw [hw0]; exact hpi5.setDec _
        have hf26 : Fr [P] w2 w0 := (HF4.out.trans (hf5.mono (by simp))).trans hf6
        obtain ⟨hE, hv, hpi, hhP, hPG, hhG, hin, hplv, hcnt, hov, hpd, hhd, hpn, hhn, hdj, hdG, hnG⟩ := HCTX.out
        have hZP : Z ≠ P := by have := HPI4.out.lt; omega
        have hw2s := HF02.out.size
        have h24 := HF4.out.size
        have hnC : ∀ {b : Nat}, b ∈ G → C ≠ b := fun hb e => hE.off (e ▸ hb)
        have hCl := lt_of_blk hE.ct
        have hKl := hE.kst.lt
        have hhl := hin _ hhG
        have hf06 : Fr [P, p.hb] w w0 := HF02.out.trans (hf26.mono (by simp))
        have hng : ∀ {b : Nat}, b ∉ G → b ∉ [P, p.hb] := fun h hm => by
          simp at hm
          rcases hm with rfl | rfl
          · exact h hPG
          · exact h hhG
        have hmid : Mid w0 [Z] [] C lv c P Z c.bytes w0 { p2 with begin_ := ba [], dec := .pointer (some ⟨Z, 0, none⟩) } [Z] [] (phAt d st 0) (onAt d c.bytes st 0) := by
          refine ⟨hpi6, by rw [HP2.out, HP1.out]; exact hplv, by rw [HP2.out, HP1.out]; exact hcnt, by rw [HP2.out, HP1.out]; exact hov, rfl, rfl, by rw [HP2.out, HP1.out]; exact HFACT.out.2.2.1, hgr5.fr hf6 (by simpa using hZP), ?_, hE.kst.fr hf06 (hng hE.g1), hE.ost.fr hf06 (hng hE.g0), hE.c0, fun e => hE.g0 (e ▸ hPG), fun e => hE.g1 (e ▸ hPG), fun e => hE.off (e ▸ hPG), by simpa using hZP.symm, by simp, by simp; omega, by simp, fun b _ => by simp, fun b h => by simp at h, by simp; omega, by simp; omega, by simp, by simp, Fr.refl _ _, Grows.refl _ _, Grows.refl _ _⟩
          exact ⟨by rw [HP2.out, HP1.out]; exact HFACT.out.2.1, HCT2.out.fr hf26 (by simpa using hnC hPG)⟩
        obtain ⟨A0, hA0⟩ : ∃ y, y = [Z] := ⟨_, rfl⟩
        obtain ⟨B0, hB0⟩ : ∃ y : List Nat, y = [] := ⟨_, rfl⟩
        obtain ⟨m, hm⟩ : ∃ y, y = 0 := ⟨_, rfl⟩
        obtain ⟨hh, hhh⟩ : ∃ y, y = hd (mem d c.bytes) (n + k) := ⟨_, rfl⟩
        have HL0 : Hid (LRel w0 A0 B0 C lv d st c P Z hb hh w0 (m + 0)) := by
          rw [hA0, hB0, hm, hhh, HHB.out]
          exact hide ⟨_, [Z], [], by rw [HP2.out, HP1.out], by rw [HP2.out, HP1.out], .inl ⟨by rw [mem_len]; omega, by rw [HP2.out, HP1.out]; exact HFACT.out.2.2.2, hmid⟩⟩
        have HMR : Hid (m + u.size ≤ (mem d c.bytes).length) := hide (by have := HUS.out; omega)
        have HPC : Hid (∀ i (hi : i < u.size) (hbd : m + i < (mem d c.bytes).length), u.extract i (i + 1) = ba [(mem d c.bytes)[m + i]'hbd]) := by
          rw [hm, HUS.out, HU.out]
          exact hide fun i hi hbd => by
            have := piece (M := mem d c.bytes) (m := 0) (r := n + k) (by omega) hi
            simpa using this
        have HFIN : Hid (∀ wr, LRel w0 A0 B0 C lv d st c P Z hb hh wr (m + u.size) → WPost C lv (.wrap d st c) n k v G w (.returned (.tuple #[])) wr) := by
          refine hide fun wr hlr => ?_
          rw [hA0, hB0, hm, HUS.out, Nat.zero_add, hhh, HHB.out] at hlr
          obtain ⟨p', A, B, q1, q2, q3⟩ := hlr
          exact wpost_of hlv hv hPG hhG hf06 (fun b hb => .inr (by simp at hb; omega)) (by intro b hb; simp at hb) (HH2.out.fr hf26 (by simpa using hhP)) hhP (fun e => hE.off (e ▸ hhG)) (by simp; omega) (by simp) q1 q2 (by omega) hle q3
        have d9' : w0.cell? ⟨P, 9, none⟩ = some (.bool false) := by rw [cell_blk hpi6, HP2.out, HP1.out]; show some (Value.bool p.over) = _; rw [hov]
        have HW0 := hide hw0
        clear hE hv hpi hhP hPG hhG hin hplv hcnt hov hpd hhd hpn hhn hdj hdG hnG hmid hw0 hA0 hB0 hm hhh hpi5 hpi6 hf5 hf6 hf26 hf06 hgr5 hZ hng hnC hcat
        go_upto_region 10 with fail
        rw [← HW0.out]
        go_wp2_with fail
        go_loopg [4] (u.size + 1) (fun gk sv wr => ∃ i : Nat, gk = u.size + 1 - i ∧ i ≤ u.size ∧ sv = .int .i64 i ∧ LRel w0 A0 B0 C lv d st c P Z hb hh wr (m + i))
        case atStart => exact ⟨0, rfl, by omega, rfl, HL0.out⟩
        case round =>
          obtain ⟨i, hgk, hir, rfl, hlr⟩ := hrel
          have HGK := hide hgk
          have HLR := hide hlr
          obtain ⟨q, hqi, hqo⟩ := hlr.over
          have hlq := hqi.lt
          have cov : wr.cell? ⟨P, 9, none⟩ = some (.bool false) := by rw [cell_blk hqi]; show some (Value.bool q.over) = _; rw [hqo]
          clear hgk hlr hqi hqo
          by_cases hlt : i < u.size
          · have hd1 : decide ((i : Int) < (u.size : Int)) = true := by simp; omega
            have H107 := hide (HLR.out.call HIH.out HGD.out (by have := HMR.out; omega))
            rw [← HPC.out i hlt (by have := HMR.out; omega)] at H107
            have hi1 : i + 1 ≤ u.size := hlt
            have hi2 : (i : Int) + 1 ≤ (u.size : Int) := by omega
            have hi3 : (i : Int) ≤ (i : Int) + 1 := by omega
            have hi4 : (0 : Int) ≤ (i : Int) := by omega
            have hi5 : ((i : Int) + 1).toNat = i + 1 := by omega
            go_wp2_with fail
            refine (unhide H107).mono ?_
            rintro e w8 ⟨rfl, hl8⟩
            have HL8 := hide hl8
            clear hl8
            go_wp2_with fail
            go_roundg (u.size + 1 - (i + 1))
            case measure => have := HGK.out; omega
            case rel => exact ⟨i + 1, rfl, by omega, by go_num, HL8.out⟩
          · obtain rfl : i = u.size := by omega
            have HRES := hide (HFIN.out wr HLR.out)
            go_wp2_with fail
            refine bodyPost_end (results_none rfl _ _ _) rfl ?_
            exact HRES.out
    · exact absurd h (by omega)
end Go.Proofs.YthmhcnnigepohaaGreatDoor.Fi

/- file: writes, to whatever takes them. -/
namespace Go.Proofs.YthmhcnnigepohaaGreatDoor.Fi
open Go.RowKit
open If (Grows Ost PS ptr)
open En (In GRep Inflates Along mem phAt outAt inS mem_len slat_some Ph)
open Dg (HashOf Kst)
set_option linter.unusedVariables false

theorem gz_not {X : List UInt8} (h : X.head? ≠ some 31) (j : Nat) : gz (X.take j) = false := by
  cases X with
  | nil => rw [List.take_nil]; rfl
  | cons x l =>
    cases j with
    | zero => rfl
    | succ j =>
      simp only [List.head?_cons, ne_eq, Option.some.injEq] at h
      rw [List.take_succ_cons]
      show ([31, 139] : List UInt8).isPrefixOf (x :: l.take j) = false
      simp only [List.isPrefixOf]
      have : ((31 : UInt8) == x) = false := by simpa using fun e => h e.symm
      rw [this]
      rfl
theorem PI.setOver {w : World} {P : Nat} {p : PV} (h : PI w P p) (b : Bool) : PI (w.setCell ⟨P, 9, none⟩ (.bool b)) P { p with over := b } := by
  unfold PI at *
  rw [heap_set, h]
  rfl
theorem made_leaf (X : List UInt8) (n : Nat) : made (.leaf X) n = 1 := rfl
set_option maxRecDepth 100000 in
set_option maxHeartbeats 16000000 in
theorem write104_leaf {C lv n k P : Nat} {X : List UInt8} {w : World} {p : PV} {G : List Nat} {v : Value} (hgood : Ch.Good lv (.leaf X)) (hlv : lv < 6) (hle : n + k ≤ X.length) (hE : Env w C G (lv + 1))
    (hv : v = .iface 100 (ptr P)) (hpi : PI w P p) (hhP : p.hb ≠ P) (hh : HashOf w p.hb (X.take n)) (hPG : P ∈ G) (hhG : p.hb ∈ G) (hin : In w G) (hhead : p.head = hd X n) (hplv : p.lv = lv) (hcnt : p.cnt = C) (hdc : p.dec = .pointer none) (hnw : p.now = .nilIface) (hmm : p.mem = .slice none 0 0)
    (hst : (n < 2 ∧ p.over = false ∧ p.begin_ = ba (X.take n)) ∨ (2 ≤ n ∧ p.over = true)) :
    Calls Tryz.prog 104 #[ptr P, .string (ba ((X.drop n).take k))] w (WPost C lv (.leaf X) n k v G w) := by
  have hlen := hgood.2.1
  have hne : ∀ {b : Nat}, b ∈ G → b ≠ 1 ∧ b ≠ 0 ∧ b ≠ C := fun hb => ⟨fun e => hE.g1 (e ▸ hb), fun e => hE.g0 (e ▸ hb), fun e => hE.off (e ▸ hb)⟩
  have H97 := hide (pwrite97_any P p.hb n k 104 (PC p) X w hpi (by rw [← hhead]; rfl) rfl rfl hh hE.kst (hne hhG).1 (hne hPG).1 hhP hlen hle)
  have hss := ba_dt_size X n k hle
  obtain ⟨s, hs⟩ : ∃ s, s = ba ((X.drop n).take k) := ⟨_, rfl⟩
  rw [← hs] at H97 hss ⊢
  have hl := hpi.lt
  have c2 : w.cell? ⟨P, 2, none⟩ = some (.bool false) := cell_blk hpi 2
  have HS := hide hs
  -- what each end comes to
  have HFIN : Hid (∀ (w' : World) (p' : PV), PI w' P p' → HashOf w' p.hb (X.take (n + k)) → Fr [P, p.hb] w w' → p'.hb = p.hb → p'.head = hd X (n + k) → p'.lv = p.lv → p'.cnt = p.cnt → p'.dec = p.dec → p'.now = p.now → p'.mem = p.mem → ((n + k < 2 ∧ p'.over = false ∧ p'.begin_ = ba (X.take (n + k))) ∨ (2 ≤ n + k ∧ p'.over = true)) → WPost C lv (.leaf X) n k v G w (.returned (.tuple #[])) w') := by
    refine hide fun w' p' k1 k2 k3 k4 k5 k6 k7 k8 k9 k10 k11 => ⟨rfl, G, ⟨hle, P, p.hb, hhP, k2, hPG, hhG, hin.fr k3, .inr ⟨hlv, hv, p', k1, k4, k5, k6.trans hplv, k7.trans hcnt, k8.trans hdc, k9.trans hnw, k10.trans hmm, k11⟩⟩, ?_, Grows.refl _ _, k3.mono (fun b hb _ => ?_)⟩
    · refine hE.ct.fr k3 (fun hm => ?_)
      simp at hm
      rcases hm with e | e
      · exact (hne hPG).2.2 e.symm
      · exact (hne hhG).2.2 e.symm
    · simp at hb
      rcases hb with rfl | rfl
      · simp [hPG]
      · simp [hhG]
  have HHD : Hid (X.head? ≠ some 31) := hide hgood.2.2
  have HHP := hide hhP
  have HDC := hide hdc
  have HST := hide hst
  have HLEN := hide hlen
  have HLE := hide hle
  clear hgood hE hv hpi hhP hh hPG hhG hin hhead hplv hcnt hdc hnw hmm hst hs hne hlen
  unfold ptr
  go_enter Tryz.func104, Tryz.ntmps104
  go_wp2_with fail
  refine (unhide H97).mono ?_
  rintro e w1 ⟨rfl, hb1, hh1, hf1⟩
  obtain ⟨p1, hp1⟩ : ∃ y, y = { p with head := hd X (n + k) } := ⟨_, rfl⟩
  have hpi1 : PI w1 P p1 := by rw [hp1]; exact hb1
  have hl1 := hpi1.lt
  rcases HST.out with ⟨hn2, hov, hbg⟩ | ⟨hn2, hov⟩
  · have d9 : w1.cell? ⟨P, 9, none⟩ = some (.bool false) := by rw [cell_blk hpi1, hp1]; show some (Value.bool p.over) = _; rw [hov]
    have d8 : w1.cell? ⟨P, 8, none⟩ = some (.pointer none) := by rw [cell_blk hpi1, hp1]; show some p.dec = _; rw [HDC.out]
    obtain ⟨b0, hb0⟩ : ∃ y, y = p.begin_ := ⟨_, rfl⟩
    have d7 : w1.cell? ⟨P, 7, none⟩ = some (.string b0) := by rw [cell_blk hpi1, hp1, hb0]; rfl
    have df7 : w1.frozen? ⟨P, 7, none⟩ = false := froz_blk hpi1 7
    obtain ⟨u, hu⟩ : ∃ u, u = ba (X.take (n + k)) := ⟨_, rfl⟩
    have hcat : b0 ++ s = u := by rw [hb0, hbg, HS.out, hu, ba_app, take_more]
    have hbs : b0.size = n := by rw [hb0, hbg, ba_size, List.length_take]; omega
    have hus : u.size = n + k := by rw [hu, ba_size, List.length_take]; omega
    have hb0l : b0.size ≤ 60000 := by omega
    have hsl : s.size ≤ 60000 := by have := HLEN.out; omega
    have hul : u.size ≤ 60000 := by have := HLEN.out; omega
    obtain ⟨w2, hw2⟩ : ∃ y, y = w1.setCell ⟨P, 7, none⟩ (.string u) := ⟨_, rfl⟩
    have hpi2 : PI w2 P { p1 with begin_ := u } := by rw [hw2]; exact hpi1.setBegin u
    have hf2 : Fr [P] w1 w2 := by rw [hw2]; exact (Fr.refl [P] w1).setCell (.inl (by simp)) _
    have hl2 := hpi2.lt
    have e7 : w2.cell? ⟨P, 7, none⟩ = some (.string u) := cell_blk hpi2 7
    have hh2 : HashOf w2 p.hb (X.take (n + k)) := hh1.fr hf2 (by simpa using HHP.out)
    have hf02 : Fr [P, p.hb] w w2 := hf1.trans (hf2.mono (by simp))
    have HW2 := hide hw2
    by_cases h2k : n + k < 2
    · have HRES := hide (HFIN.out w2 _ hpi2 hh2 hf02 (by rw [hp1]) (by rw [hp1]) (by rw [hp1]) (by rw [hp1]) (by rw [hp1]) (by rw [hp1]) (by rw [hp1]) (.inl ⟨h2k, by rw [hp1]; exact hov, hu⟩))
      have hdu : decide ((u.size : Int) < 2) = true := by simp; omega
      clear hb1 hh1 hf1 hp1 hpi1 hw2 hpi2 hf2 hh2 hf02 hb0 hu hbs hss hus hov hbg
      go_upto_region 5 with fail
      rw [← HW2.out]
      go_wp2_with fail
      refine bodyPost_ret (results_none rfl _ _ _) rfl ?_
      exact HRES.out
    · have H98 := hide (type98_any u w2)
      have HGZ : Hid (gz u.data.toList = false) := hide (by rw [hu]; exact gz_not HHD.out _)
      have hdu : decide ((u.size : Int) < 2) = false := by simp; omega
      have HPI2 := hide hpi2
      have HP1 := hide hp1
      have HH2 := hide hh2
      have HF02 := hide hf02
      clear hb1 hh1 hf1 hp1 hpi1 hw2 hpi2 hf2 hh2 hf02 hb0 hu hbs hss hus hov hbg
      go_upto_region 5 with fail
      rw [← HW2.out]
      go_wp2_with fail
      refine (unhide H98).mono ?_
      rintro e w3 ⟨t2, rfl, ht2, hf3⟩
      have htn : t2 ≠ 2 := fun e => by
        have := ht2.mp e
        rw [HGZ.out] at this
        cases this
      have htb : (t2 != 2) = true := by simpa using htn
      have hpi3 := HPI2.out.fr hf3 (by simp)
      have hl3 := hpi3.lt
      have g9 : w3.cell? ⟨P, 9, none⟩ = some (.bool p1.over) := cell_blk hpi3 9
      have gf9 : w3.frozen? ⟨P, 9, none⟩ = false := froz_blk hpi3 9
      have hf4 : Fr [P] w3 (w3.setCell ⟨P, 9, none⟩ (.bool true)) := (Fr.refl [P] w3).setCell (.inl (by simp)) _
      have HRES := hide (HFIN.out _ _ (hpi3.setOver true) ((HH2.out.fr hf3 (by simp)).fr hf4 (by simpa using HHP.out)) ((HF02.out.trans (hf3.mono (by simp))).trans (hf4.mono (by simp))) (by rw [HP1.out]) (by rw [HP1.out]) (by rw [HP1.out]) (by rw [HP1.out]) (by rw [HP1.out]) (by rw [HP1.out]) (by rw [HP1.out]) (.inr ⟨by omega, rfl⟩))
      clear ht2 htn hf3 hpi3 hf4
      go_wp2_with fail
      refine bodyPost_ret (results_none rfl _ _ _) rfl ?_
      exact HRES.out
  · have d9 : w1.cell? ⟨P, 9, none⟩ = some (.bool true) := by rw [cell_blk hpi1, hp1]; show some (Value.bool p.over) = _; rw [hov]
    have HRES := hide (HFIN.out w1 p1 hpi1 hh1 hf1 (by rw [hp1]) (by rw [hp1]) (by rw [hp1]) (by rw [hp1]) (by rw [hp1]) (by rw [hp1]) (by rw [hp1]) (.inr ⟨by omega, by rw [hp1]; exact hov⟩))
    clear hb1 hh1 hf1 hp1 hpi1 hov
    go_wp2_with fail
    refine bodyPost_ret (results_none rfl _ _ _) rfl ?_
    exact HRES.out
theorem write_ok : ∀ (c : Ch) (lv : Nat), c.Good lv → WriteOK c lv
  | .leaf X, lv, hg => by
    intro C n k v G s w hk hs hse hle hE
    subst hse
    rw [made_leaf] at hE
    obtain ⟨h0, P, hb, h1, h2, h3, h4, h5, h6⟩ := hs
    have hne : ∀ {b : Nat}, b ∈ G → b ≠ 1 ∧ b ≠ 0 ∧ b ≠ C := fun hb => ⟨fun e => hE.g1 (e ▸ hb), fun e => hE.g0 (e ▸ hb), fun e => hE.off (e ▸ hb)⟩
    rcases h6 with ⟨k1, k2, k3⟩ | ⟨k1, k2, p, k3, k4, k5, k6, k7, k8, k9, k10, k11⟩
    · refine ⟨P, .inl ⟨k2, (pwrite97_any P hb n k 98 _ X w k3 rfl rfl rfl h2 hE.kst (hne h4).1 (hne h3).1 h1 hg.2.1 hle).mono ?_⟩⟩
      rintro e w' ⟨rfl, q1, q2, q3⟩
      refine ⟨rfl, G, ⟨hle, P, hb, h1, q2, h3, h4, h5.fr q3, .inl ⟨k1, k2, q1⟩⟩, ?_, Grows.refl _ _, q3.mono (fun b hb' _ => ?_)⟩
      · refine hE.ct.fr q3 (fun hm => ?_)
        simp at hm
        rcases hm with e | e
        · exact (hne h3).2.2 e.symm
        · exact (hne h4).2.2 e.symm
      · simp at hb'
        rcases hb' with rfl | rfl
        · simp [h3]
        · simp [h4]
    · subst k4
      exact ⟨P, .inr ⟨k2, write104_leaf hg k1 hle hE k2 k3 h1 h2 h3 h4 h5 k5 k6 k7 k8 k9 k10 k11⟩⟩
  | .wrap d st c, lv, hg => by
    intro C n k v G s w hk hs hse hle hE
    subst hse
    obtain ⟨h0, h1, P, p, Gd, Gn, k1, k2, k3, k4, k5, k6, k7, k8, k9, k10, k11, k12, k13, k14, k15, k16, k17, k18, k19⟩ := hs
    exact ⟨P, .inr ⟨k1, write104_wrap (write_ok c (lv + 1) hg.2.2.2.2) hg hk hle hE k1 k2 k3 k4 k5 k6 k7 k8 k9 k10 k11 k12 k13 k14 k15 k16 k17 k18 k19⟩⟩
end Go.Proofs.YthmhcnnigepohaaGreatDoor.Fi

/- file: the files of a content. -/
namespace Go.Proofs.YthmhcnnigepohaaGreatDoor.Fi
open Go.RowKit
open If (Grows Ost PS ptr)
open En (In GRep Inflates Along mem phAt outAt inS mem_len slat_some Ph)
open Dg (HashOf Kst)
set_option linter.unusedVariables false

def hxs (X : List UInt8) : ByteArray := ⟨(Dg.hex (Dg.sha Dg.KK X)).toArray⟩
/-- A file that is reported. -/
def fCells (name : ByteArray) (X : List UInt8) (t : Int) : List Value := [.string name, .string (ba (X.take 8192)), .string (hxs X), .int .i64 t, .int .i64 X.length, .bool true]
def FA : Ch → ByteArray → List Value → Prop
  | .leaf X, name, l => ∃ t, l = fCells name X t ∧ (t = 2 ↔ gz X = true)
  | .wrap d st c, name, l => ∃ t l', l = fCells name (mem d c.bytes) t ++ l' ∧ (t = 2 ↔ gz (mem d c.bytes) = true) ∧ FA c inS l'
def depth : Ch → Nat
  | .leaf _ => 1
  | .wrap _ _ c => 1 + depth c
theorem depth_pos (c : Ch) : 0 < depth c := by cases c <;> simp only [depth] <;> omega
theorem FA.len : ∀ {c : Ch} {name : ByteArray} {l : List Value}, FA c name l → l.length = depth c * 6
  | .leaf X, name, l, h => by obtain ⟨t, rfl, _⟩ := h; rfl
  | .wrap d st c, name, l, h => by
    obtain ⟨t, l', rfl, _, h⟩ := h
    rw [List.length_append, FA.len h]
    show 6 + _ = (1 + depth c) * 6
    omega
theorem gz_take (X : List UInt8) (n : Nat) (h : 2 ≤ n) : gz (X.take n) = gz X := by
  obtain ⟨i, rfl⟩ : ∃ i, n = i + 2 := ⟨n - 2, by omega⟩
  match X with
  | [] => rfl
  | [a] => rfl
  | a :: b :: l => rfl
def PfPost (name : ByteArray) (X : List UInt8) (w : World) (e : Ending) (w' : World) : Prop :=
  ∃ v b t, e = .returned v ∧ (t = 2 ↔ gz X = true) ∧ SlAt 29 6 w' v (some b) 1 (fCells name X t) ∧ w.heap.size ≤ b ∧ Fr [] w w'
theorem frT' {w a b : World} (k : Fr [] a b) (h : Fr [] w a) : Fr [] w b := h.trans k
theorem cellT {a b : World} {x : Addr} {v : Value} (k : Fr [] a b) (h : a.cell? x = some v) : b.cell? x = some v := En.fr_cell k h
theorem frT {w a b : World} (h : Fr [] w a) (k : Fr [] a b) : Fr [] w b := h.trans k
set_option maxRecDepth 100000 in
set_option maxHeartbeats 16000000 in
theorem pfiles95_any (P hb : Nat) (t : TypeId) (cs : Array Value) (X : List UInt8) (name : ByteArray) (w : World) (h : w.heap[P]? = some (.cells cs t (0, 0))) (h0 : cs[0]? = some (.string (hd X X.length))) (h1 : cs[1]? = some (ptr hb)) (h2 : cs[2]? = some (.bool false)) (hh : HashOf w hb X) (hk : Kst w) (hX : X.length ≤ 60000) :
    Calls Tryz.prog 95 #[ptr P, .string name] w (PfPost name X w) := by
  have H13 : ∀ W, Fr [] w W → Hid (Calls Tryz.prog 13 #[.pointer (some ⟨hb, 0, none⟩)] W fun e w' => e = .returned (.string (hxs X)) ∧ Fr [] w w') := fun W hf => hide ((Dg.hhex_any hb X W (hh.fr hf (by simp)) (hk.fr hf (by simp)) (by omega)).mono (by rintro e w' ⟨rfl, h⟩; exact ⟨rfl, hf.trans h⟩))
  have H99 : ∀ W, Fr [] w W → Hid (Calls Tryz.prog 99 #[.pointer (some ⟨hb, 0, none⟩)] W fun e w' => e = .returned (.int .i64 X.length) ∧ Fr [] w w') := fun W hf => hide ((Dg.hlen_any hb X W (hh.fr hf (by simp))).mono (by rintro e w' ⟨rfl, rfl⟩; exact ⟨rfl, hf⟩))
  obtain ⟨hx, hhx⟩ : ∃ y, y = hxs X := ⟨_, rfl⟩
  obtain ⟨n, hn⟩ : ∃ y, y = X.length := ⟨_, rfl⟩
  obtain ⟨a, ha⟩ : ∃ y, y = hd X X.length := ⟨_, rfl⟩
  have hgz : gz a.data.toList = gz X := by
    rw [ha]
    unfold hd
    rw [ba_data]
    by_cases h : X.length ≤ 8192
    · rw [show min X.length 8192 = X.length by omega, List.take_length]
    · rw [show min X.length 8192 = 8192 by omega, gz_take _ _ (by omega)]
  have hab : a = ba (X.take 8192) := by
    rw [ha]
    unfold hd
    by_cases h : X.length ≤ 8192
    · rw [show min X.length 8192 = X.length by omega, List.take_length, List.take_of_length_le h]
    · rw [show min X.length 8192 = 8192 by omega]
  have H98 : ∀ W, Fr [] w W → Hid (Calls Tryz.prog 98 #[.string a] W fun e w' => ∃ t : Int, e = .returned (.int .i64 t) ∧ (t = 2 ↔ gz X = true) ∧ Fr [] w w') := fun W hf => by
    have := type98_any a W
    unfold TyPost at this
    rw [hgz] at this
    exact hide (this.mono (by rintro e w' ⟨t, h1, h2, h3⟩; exact ⟨t, h1, h2, hf.trans h3⟩))
  rw [← hhx] at H13
  rw [← hn] at H99
  rw [← ha] at h0
  have HIDS := hide (And.intro hhx (And.intro hn hab))
  have c0 : w.cell? ⟨P, 0, none⟩ = some (.string a) := by rw [cell_blk h]; exact h0
  have c1 : w.cell? ⟨P, 1, none⟩ = some (.pointer (some ⟨hb, 0, none⟩)) := by rw [cell_blk h]; exact h1
  have c2 : w.cell? ⟨P, 2, none⟩ = some (.bool false) := by rw [cell_blk h]; exact h2
  have HC := hide (And.intro c0 (And.intro c1 c2))
  have hl := lt_of_blk h
  have HRES : Hid (∀ (ty : Int) (W : World), (ty = 2 ↔ gz X = true) → Fr [] w W → PfPost name X w (.returned (.slice (some ⟨W.heap.size, 0, none⟩) 1 1)) (W.alloc (.cells #[.string name, .string a, .string hx, .int .i64 ty, .int .i64 n, .bool true] 29))) := by
    refine hide fun ty W hty hf => ⟨_, W.heap.size, ty, rfl, hty, ?_, hf.size, hf.alloc _⟩
    obtain ⟨e1, e2, e3⟩ := HIDS.out
    subst e1 e2 e3
    refine .inr ⟨W.heap.size, 0, 1, _, rfl, rfl, heap_alloc_eq rfl, Nat.le_refl _, by simp, rfl, fun j u hj => ?_⟩
    rw [Nat.zero_add]
    simpa [fCells] using hj
  clear h h0 h1 h2 hh hk hX hhx hn ha hgz hab
  unfold ptr
  go_enter Tryz.func95, Tryz.ntmps95
  go_upto_region 1 with fail
  go_region_held3 (fun W => W.cell? ⟨P, 0, none⟩ = some (.string a) ∧ W.cell? ⟨P, 1, none⟩ = some (.pointer (some ⟨hb, 0, none⟩)) ∧ W.cell? ⟨P, 2, none⟩ = some (.bool false) ∧ Fr [] w W) (first | (first | assumption | exact cellT (by assumption) HC.out.1 | exact cellT (by assumption) HC.out.2.1 | exact cellT (by assumption) HC.out.2.2 | exact (Fr.refl _ _).drew | (refine Fr.alloc ?_ _ ; assumption)) | (refine ⟨?_, ?_, ?_, ?_⟩ <;> first | assumption | exact cellT (by assumption) HC.out.1 | exact cellT (by assumption) HC.out.2.1 | exact cellT (by assumption) HC.out.2.2 | exact (Fr.refl _ _).drew | (refine Fr.alloc ?_ _ ; assumption) | go_keep) | go_keep) (first | ((with_reducible refine (unhide (H13 _ ?hF)).mono ?_); (case hF => first | assumption | exact (Fr.refl _ _).drew); rintro e wx ⟨rfl, hfx⟩) | ((with_reducible refine (unhide (H98 _ ?hF)).mono ?_); (case hF => first | assumption | exact (Fr.refl _ _).drew); rintro e wx ⟨ty, rfl, hty, hfx⟩) | ((with_reducible refine (unhide (H99 _ ?hF)).mono ?_); (case hF => first | assumption | exact (Fr.refl _ _).drew); rintro e wx ⟨rfl, hfx⟩))
  go_wp2_with fail
  go_ret
  refine HRES.out _ _ ?_ ?_ <;> assumption
end Go.Proofs.YthmhcnnigepohaaGreatDoor.Fi
