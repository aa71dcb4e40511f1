/- inflate.Decoder: bit at the last bit of a number (printed by tools/genbit.py). -/
import Derived.Test.YthmhcnnigepohaaGreatDoorM19
import Derived.StillTailTactics
import Derived.Test.YthmhcnnigepohaaGreatDoorM16
import Derived.Deep.RegionHeld3
namespace Go.Proofs.YthmhcnnigepohaaGreatDoor.If
open Go.RowKit
set_option linter.unusedVariables false
variable [Foreign]

set_option maxRecDepth 100000 in
set_option maxHeartbeats 8000000 in
theorem bit131_num_last (D : Nat) (G : List Nat) (inp : Int) (rest : ByteArray) (s s' : PS) (nn b N r : Nat) (w : World) (h : Rep w D G inp rest s) (hw : wantN s.k = some nn) (hq : s.q + 1 = nn) (hn : nn ≤ 16) (hc : s.c < 2 ^ s.q) (hb : b ≤ 1) (hr : r = s.c + b * 2 ^ s.q)
    (hset : Settles inp N { s with q := s.q + 1, c := r } r s') (host : Ost w) (h0 : 0 ∉ G) :
    Calls Tryz.prog 131 #[.pointer (some ⟨D, 0, none⟩), .int .i64 b] w (FP D G inp rest w s') := by
  obtain ⟨d, gp, gf, hcore, hk, y1, y2, y3, y4⟩ := rep_num h hw
  obtain ⟨k, q, c, l, o, f, sk⟩ := s
  simp only at hcore hk y3 y4 hw hq hc hr hset
  obtain ⟨P, hP⟩ : ∃ P, P = 2 ^ q := ⟨_, rfl⟩
  have hPb : P ≤ 65536 := by rw [hP]; exact Nat.pow_le_pow_right (n := 2) (by omega) (show q ≤ 16 by omega)
  obtain ⟨m, hm⟩ : ∃ m, m = b * P := ⟨_, rfl⟩
  have hmb : m ≤ 65536 := by rw [hm]; have : b * P ≤ 1 * 65536 := Nat.mul_le_mul hb hPb; omega
  have hor := acc_or c m q hc (by rw [hm, hP]; exact Nat.mul_mod_left _ _) (by omega) (by rw [← hP] at hc; omega)
  have hrr : c + m = r := by rw [hr, hm, hP]
  rw [hrr] at hor
  have e3 : (2 : Int) ^ q = (P : Int) := by rw [hP]; simp
  have e4 : (b : Int) * (P : Int) = (m : Int) := by rw [hm]; simp
  obtain ⟨w1, hw1⟩ : ∃ x, x = ((w.setCell ⟨D, 11, none⟩ (.int .i64 r)).setCell ⟨D, 12, none⟩ (.int .i64 ((q : Int) + 1))) := ⟨_, rfl⟩
  have hd1 : DI w1 D { d with acc := (r : Int), have_ := (q : Int) + 1 } := by
    rw [hw1]
    show ((w.setCell ⟨D, 11, none⟩ (.int .i64 r)).setCell ⟨D, 12, none⟩ (.int .i64 ((q : Int) + 1))).heap[D]? = _
    rw [heap_set, heap_set, hcore.di]
    rfl
  have hf1 : Fr [D] w w1 := by rw [hw1]; exact (((Fr.refl [D] w).setCell (.inl (by simp)) _).setCell (.inl (by simp)) _)
  have hAT : ∀ j, At w G D inp rest s' N r (w1.drewN j) := by
    intro j
    have hfj : Fr [D] w (w1.drewN j) := hf1.drewN j
    have hdj : DI (w1.drewN j) D { d with acc := (r : Int), have_ := (q : Int) + 1 } := hd1
    have hfin : k.isFin = false := by cases k <;> first | rfl | cases hw
    exact ⟨⟨G, ⟨k, q + 1, r, l, o, f, sk⟩, ⟨{ d with acc := (r : Int), have_ := (q : Int) + 1 }, gp, gf, by show Core _ D G _ gp gf inp rest l k.isFin sk o f; rw [hfin]; exact hcore.set hdj hfj rfl rfl rfl rfl rfl rfl rfl rfl, hk.setnum hw hcore.di hcore.mem hfj rfl rfl rfl (by simp) rfl⟩, hset, Grows.refl _ _⟩, hcore.frG hfj, host.fr (hcore.frG hfj) h0⟩
  rw [hw1] at hAT
  have HAT := hide hAT
  have hl := hcore.di.lt
  have c11 : w.cell? ⟨D, 11, none⟩ = some (.int .i64 c) := by rw [cell_blk hcore.di]; show some (Value.int .i64 d.acc) = _; rw [y4]
  have c12 : w.cell? ⟨D, 12, none⟩ = some (.int .i64 q) := by rw [cell_blk hcore.di]; show some (Value.int .i64 d.have_) = _; rw [y3]
  have c13 : w.cell? ⟨D, 13, none⟩ = some (.int .i64 nn) := by rw [cell_blk hcore.di]; show some (Value.int .i64 d.need) = _; rw [y2]
  have c14 : w.cell? ⟨D, 14, none⟩ = some (.pointer none) := by rw [cell_blk hcore.di]; show some d.code = _; rw [y1]
  have f11 : w.frozen? ⟨D, 11, none⟩ = false := froz_blk hcore.di 11
  have f12 : w.frozen? ⟨D, 12, none⟩ = false := froz_blk hcore.di 12
  have b0 : (0 : Int) ≤ (q : Int) ∧ (q : Int) < 64 := by omega
  have z1 : IntKind.i64.wrap (m : Int) = (m : Int) := IntWalk.i64_in _ (by omega)
  have d1 : decide ((q : Int) + 1 < (nn : Int)) = false := by simp; omega
  have H0 := hide h0
  have HW0 : Hid (0 < w.heap.size) := hide (World.block_lt_of_cell? w _ (host 0 (by omega)))
  have HL := hide (And.intro hl (And.intro c11 (And.intro c12 (And.intro c13 (And.intro c14 (And.intro f11 f12))))))
  clear h hcore hk y1 y2 y3 y4 hw hc hb hP hm hr hrr hw1 hd1 hf1 hset host h0 hAT hl c11 c12 c13 c14 f11 f12 hq
  go_enter Tryz.func131, Tryz.ntmps131
  go_wp2
  refine wp_scope_jumpsg3 0 (JA w G D inp rest s') rfl N ?pass ?first
  case pass =>
    rintro n a wl ⟨u1, u2, u3, u4, u6, u7, u8, u9, u10, u11, u12, u13, u14, u15, u16, u17, u18, u19, u20, u21, u22, u23, u24, u25, u26, u27, u28, u29, u30, u31, u32, u33, u34, u35, u36, u37, u38, u39, u40, u41, u42, u43, u44, u45, u46, u47, u48, u49, u50, u51, u52, u53, u54, u55, u56, u57, u58, u59, u60, u61, u62, u63, u64, u65, u66, u67, u68, u69, u70, u71, u72, u73, u74, u75, u76, u77, u78, u79, u80, u81, u82, u83, u84, u85, u86, u87, u88, u89, v, rfl, hat⟩
    obtain ⟨⟨G1, s1, hrep, hset, hg1⟩, hfr, host⟩ := hat
    have HFR := hide hfr
    have HOST := hide host
    have HG1 := hide hg1
    have HZ1 : Hid (0 ∉ G1) := hide (fun hm => by
      rcases hg1 0 hm with h | h
      · exact H0.out h
      · have := HW0.out; omega)
    have hall : ∃ m s2, Fires inp s1 v s2 ∧ ((m = 0 ∧ s2 = s' ∧ zero s2 = false) ∨ (∃ m', m = m' + 1 ∧ zero s2 = true ∧ Settles inp m' s2 0 s')) ∧ m = n := by
      cases hset with
      | done h hz => exact ⟨0, _, h, .inl ⟨rfl, rfl, hz⟩, rfl⟩
      | more h hz k => exact ⟨_, _, h, .inr ⟨_, rfl, hz, k⟩, rfl⟩
    obtain ⟨m, s2, hfire, hcase, hmn⟩ := hall
    obtain ⟨d, fid, caps, hdi, hnx, hcf, hcall⟩ := fire_any hfire hrep host HZ1.out
    have HC := hide hcall
    have hl := hdi.lt
    have c15 : wl.cell? ⟨D, 15, none⟩ = some (.func (.func fid) #[] caps) := by rw [cell_blk hdi]; show some d.next = _; rw [hnx]
    have HCASE := hide hcase
    have HMN := hide hmn
    clear hfr host hg1 hset hrep hfire hdi hnx hcall hcase hmn
    go_wp2_with fail
    refine (unhide HC).mono ?_
    rintro e w2 ⟨rfl, G2, hr2, hg2, hf2⟩
    obtain ⟨d2, hd2, hdone, hasks⟩ := rep_asks hr2
    have hl2 := hd2.lt
    have k7 : w2.cell? ⟨D, 7, none⟩ = some (.bool s2.k.isFin) := by rw [cell_blk hd2]; show some (Value.bool d2.done) = _; rw [hdone]
    have k13 : w2.cell? ⟨D, 13, none⟩ = some (.int .i64 d2.need) := by rw [cell_blk hd2]; rfl
    have k14 : w2.cell? ⟨D, 14, none⟩ = some d2.code := by rw [cell_blk hd2]; rfl
    have HEND : Hid (zero s2 = false → FP D G inp rest w s' (.returned (.int .i64 0)) w2) := hide (fun hz => by
      rcases HCASE.out with ⟨_, h1, _⟩ | ⟨_, _, h1, _⟩
      · subst h1
        exact ⟨rfl, G2, hr2, HG1.out.trans hg2 HFR.out.size, HFR.out.thru HG1.out hf2⟩
      · rw [hz] at h1; cases h1)
    have HJMP : Hid (zero s2 = true → ∃ m, m < n ∧ At w G D inp rest s' m 0 w2) := hide (fun hz => by
      rcases HCASE.out with ⟨_, _, h1⟩ | ⟨m', h0, _, h1⟩
      · rw [hz] at h1; cases h1
      · refine ⟨m', by have := HMN.out; omega, ⟨⟨G2, s2, hr2, h1, HG1.out.trans hg2 HFR.out.size⟩, HFR.out.thru HG1.out hf2, HOST.out.fr hf2 HZ1.out⟩⟩)
    clear hr2 hg2 hf2 hd2 hdone c15 hcf
    rcases hasks with hfin | ⟨hfin, hz, hcode, hneed⟩ | ⟨hfin, hz, ⟨pc, hcode⟩ | ⟨hcode, hneed⟩⟩
    · have hz : zero s2 = false := by
        obtain ⟨kk, _, _, _, _, _, _⟩ := s2
        cases kk <;> first | rfl | cases hfin
      have HE := hide (HEND.out hz)
      rw [hfin] at k7
      clear hfin hz
      go_wp2
      simp only [Exit.jump]
      go_ret
      exact HE.out
    · rw [hfin] at k7
      rw [hcode] at k14
      rw [hneed] at k13
      have HJ := hide (HJMP.out hz)
      clear hfin hz hcode hneed
      go_wp2
      go_step3
      obtain ⟨m2, hm2, hat2⟩ := HJ.out
      exact ⟨rfl, m2, hm2, _, _, _, _, _, _, _, _, _, _, _, _, _, _, _, _, _, _, _, _, _, _, _, _, _, _, _, _, _, _, _, _, _, _, _, _, _, _, _, _, _, _, _, _, _, _, _, _, _, _, _, _, _, _, _, _, _, _, _, _, _, _, _, _, _, _, _, _, _, _, _, _, _, _, _, _, _, _, _, _, _, _, _, _, _, _, _, _, 0, rfl, hat2⟩
    · have HE := hide (HEND.out hz)
      rw [hfin] at k7
      rw [hcode] at k14
      clear hfin hz hcode
      go_wp2
      simp only [Exit.jump]
      go_ret
      exact HE.out
    · have HE := hide (HEND.out hz)
      rw [hfin] at k7
      rw [hcode] at k14
      have dn : (d2.need == 0) = false := by simpa using hneed
      clear hfin hz hcode hneed
      go_wp2
      simp only [Exit.jump]
      go_ret
      exact HE.out
  case first =>
    intro hpass
    obtain ⟨hl, c11, c12, c13, c14, f11, f12⟩ := HL.out
    go_upto_region 9 with (fail)
    go_still_tail 13, (by kernel_rfl)
    change wpList _ _ _ _ _ w.drew
    go_upto_region 11 with (fail)
    go_quiet (fail)
    go_wp2_with fail
    go_step3
    refine then_normal (by assumption) ?_
    exact hpass N _ _ ⟨_, _, _, _, _, _, _, _, _, _, _, _, _, _, _, _, _, _, _, _, _, _, _, _, _, _, _, _, _, _, _, _, _, _, _, _, _, _, _, _, _, _, _, _, _, _, _, _, _, _, _, _, _, _, _, _, _, _, _, _, _, _, _, _, _, _, _, _, _, _, _, _, _, _, _, _, _, _, _, _, _, _, _, _, _, _, _, _, r, rfl, HAT.out _⟩
end Go.Proofs.YthmhcnnigepohaaGreatDoor.If

/- inflate: New, Done, Rest. -/
namespace Go.Proofs.YthmhcnnigepohaaGreatDoor.If
open Go.RowKit
open Dg (BAt bcells)
set_option linter.unusedVariables false
variable [Foreign]

omit [Foreign] in
theorem bound129_o (w : World) : Calls Tryz.prog 129 #[.int .i64 65536, .int .i64 0, .int .i64 65536] w fun e w' => e = .returned (.int .i64 65536) ∧ w = w' := by
  go_enter Tryz.func129, Tryz.ntmps129
  go_wp2
  go_ret
  exact ⟨rfl, rfl⟩
omit [Foreign] in
theorem bound129_r (w : World) : Calls Tryz.prog 129 #[.int .i64 1100, .int .i64 1, .int .i64 1100] w fun e w' => e = .returned (.int .i64 1100) ∧ w = w' := by
  go_enter Tryz.func129, Tryz.ntmps129
  go_wp2
  go_ret
  exact ⟨rfl, rfl⟩

def ps0 : PS := ⟨.blk, 0, 0, false, [], [], false⟩
def dv0 : DV := ⟨.slice none 0 0, 0, .slice none 0 0, 0, false, false, false, ⟨#[]⟩, 0, 0, 0, .pointer none, .nilFunc⟩
def NewPost (w : World) (e : Ending) (w' : World) : Prop := ∃ D, e = .returned (ptr D) ∧ w.heap.size ≤ D ∧ Rep w' D [D] 0 ⟨#[]⟩ ps0 ∧ Fr [] w w'
set_option maxRecDepth 100000 in
set_option maxHeartbeats 4000000 in
theorem new122_any (w : World) (hF : ∀ b ∈ Foreign.F, b < w.heap.size) : Calls Tryz.prog 122 #[.agg #[.int .i64 65536, .int .i64 1100]] w (NewPost w) := by
  obtain ⟨w1, hw1⟩ : ∃ x, x = ((w.alloc (.cells #[.int .i64 65536, .int .i64 1100] 40)).alloc (.cells (DC dv0) 195)).drew := ⟨_, rfl⟩
  obtain ⟨D, hD⟩ : ∃ D, D = w.heap.size + 1 := ⟨_, rfl⟩
  have hd : DI w1 D dv0 := by rw [hw1, hD]; exact heap_alloc_eq (by simp)
  have hf : Fr [] w w1 := by rw [hw1]; exact (((Fr.refl _ _).alloc _).alloc _).drew
  have hc : Core w1 D [D] dv0 none none 0 ⟨#[]⟩ false false false [] [] := ⟨hd, by simp, ⟨fun b hb => by simp at hb; rw [hb]; exact hd.lt, fun b hb => Nat.lt_of_lt_of_le (hF b hb) hf.size⟩, ⟨SlAt.nil_ _, SlAt.nil_ _, by simp, by simp, by simp, rfl⟩, rfl, rfl, rfl, rfl, rfl⟩
  have HC := hide hc
  clear hF
  have HF := hide hf
  have HB := hide (block130_any D dv0 [D] w1 hd hc.inn rfl)
  have HW : Hid (w1 = _) := hide hw1
  have HD := hide hD
  have j0 : (w.alloc (.cells #[.int .i64 65536, .int .i64 1100] 40)).cell? ⟨w.heap.size, 0, none⟩ = some (.int .i64 65536) := cell_blk (heap_alloc_eq rfl) 0
  have j1 : (w.alloc (.cells #[.int .i64 65536, .int .i64 1100] 40)).cell? ⟨w.heap.size, 1, none⟩ = some (.int .i64 1100) := cell_blk (heap_alloc_eq rfl) 1
  clear hd hf hc hw1 hD
  go_enter Tryz.func122, Tryz.ntmps122
  go_upto_region 1 with (fail)
  go_region_held3 (fun W => W.cell? ⟨w.heap.size, 0, none⟩ = some (.int .i64 65536) ∧ W.cell? ⟨w.heap.size, 1, none⟩ = some (.int .i64 1100)) (go_keep) (first | ((with_reducible refine (bound129_o _).mono ?_); rintro e w9 ⟨rfl, rfl⟩) | ((with_reducible refine (bound129_r _).mono ?_); rintro e w9 ⟨rfl, rfl⟩))
  clear j0 j1
  go_upto_region 2 with (fail)
  change Code.wp _ _ _ _ ((w.alloc (.cells #[.int .i64 65536, .int .i64 1100] 40)).alloc (.cells (DC dv0) 195)).drew
  rw [← HW.out, ← HD.out]
  go_wp2_with fail
  refine (unhide HB).mono ?_
  rintro e w2 ⟨rfl, d', hd2, ⟨q1, rfl, y1⟩, hf2⟩
  have HRES : Hid (NewPost w (.returned (.pointer (some ⟨D, 0, none⟩))) w2) := by
    have hD := HD.out
    refine hide ⟨D, rfl, by omega, ⟨_, none, none, HC.out.set hd2 hf2 rfl rfl rfl rfl rfl rfl rfl rfl, ⟨⟨rfl, rfl, rfl, rfl⟩, _, rfl, y1⟩⟩, HF.out.andThen hf2 (fun x hx => ?_)⟩
    simp at hx
    right
    omega
  clear hd2 y1 hf2
  go_wp2
  go_ret
  exact HRES.out

set_option maxRecDepth 100000 in
set_option maxHeartbeats 1000000 in
omit [Foreign] in
theorem done124_any (D : Nat) (d : DV) (w : World) (h : DI w D d) : Calls Tryz.prog 124 #[.pointer (some ⟨D, 0, none⟩)] w fun e w' => e = .returned (.bool d.done) ∧ w = w' := by
  have hl := h.lt
  have c7 : w.cell? ⟨D, 7, none⟩ = some (.bool d.done) := by rw [cell_blk h]; rfl
  obtain ⟨b, hb⟩ : ∃ b, b = d.done := ⟨_, rfl⟩
  rw [← hb] at c7 ⊢
  clear h hb
  go_enter Tryz.func124, Tryz.ntmps124
  go_wp2
  go_ret
  exact ⟨rfl, rfl⟩
set_option maxRecDepth 100000 in
set_option maxHeartbeats 1000000 in
omit [Foreign] in
theorem rest125_any (D : Nat) (d : DV) (w : World) (h : DI w D d) : Calls Tryz.prog 125 #[.pointer (some ⟨D, 0, none⟩)] w fun e w' => e = .returned (.string d.rest) ∧ w = w' := by
  have hl := h.lt
  have c10 : w.cell? ⟨D, 10, none⟩ = some (.string d.rest) := by rw [cell_blk h]; rfl
  obtain ⟨b, hb⟩ : ∃ b, b = d.rest := ⟨_, rfl⟩
  rw [← hb] at c10 ⊢
  clear h hb
  go_enter Tryz.func125, Tryz.ntmps125
  go_wp2
  go_ret
  exact ⟨rfl, rfl⟩
end Go.Proofs.YthmhcnnigepohaaGreatDoor.If

/- inflate.Decoder: one bit; a byte; a piece. -/
namespace Go.Proofs.YthmhcnnigepohaaGreatDoor.If
open Go.RowKit
open Dg (BAt bcells)
set_option linter.unusedVariables false
variable [Foreign]

inductive Bit1 (inp : Int) : PS → Nat → PS → Prop
  | nm {s : PS} {n b : Nat} (hw : wantN s.k = some n) (hq : s.q + 1 < n) (hn : n ≤ 16) (hc : s.c < 2 ^ s.q) (hb : b ≤ 1) : Bit1 inp s b { s with q := s.q + 1, c := s.c + b * 2 ^ s.q }
  | nl {s s' : PS} {nn b N r : Nat} (hw : wantN s.k = some nn) (hq : s.q + 1 = nn) (hn : nn ≤ 16) (hc : s.c < 2 ^ s.q) (hb : b ≤ 1) (hr : r = s.c + b * 2 ^ s.q) (hset : Settles inp N { s with q := s.q + 1, c := r } r s') : Bit1 inp s b s'
  | sm {s : PS} {L : List Nat} {sy t b : Nat} (hw : wantS s.k = some L) (ok : LOk L) (hs : sy < L.length) (ht : 0 < t) (hy : L.getD sy 0 = s.q + 1 + t) (hc : s.c = Hf.code L sy / 2 ^ (t + 1)) (hb : b = Hf.code L sy / 2 ^ t % 2) : Bit1 inp s b { s with q := s.q + 1, c := Hf.code L sy / 2 ^ t }
  | sl {s s' : PS} {L : List Nat} {sy b N : Nat} (hw : wantS s.k = some L) (ok : LOk L) (hs : sy < L.length) (hy : L.getD sy 0 = s.q + 1) (hc : s.c = Hf.code L sy / 2 ^ 1) (hb : b = Hf.code L sy % 2) (hset : Settles inp N { s with q := 0, c := 0 } sy s') : Bit1 inp s b s'
theorem bit131_any {D : Nat} {G : List Nat} {inp : Int} {rest : ByteArray} {s s' : PS} {b : Nat} {w : World} (hB : Bit1 inp s b s') (h : Rep w D G inp rest s) (host : Ost w) (h0 : 0 ∉ G) :
    Calls Tryz.prog 131 #[.pointer (some ⟨D, 0, none⟩), .int .i64 b] w (FP D G inp rest w s') := by
  cases hB with
  | nm hw hq hn hc hb => exact bit131_num_more D G inp rest s _ b w h hw hq hn hc hb
  | nl hw hq hn hc hb hr hset => exact bit131_num_last D G inp rest s s' _ b _ _ w h hw hq hn hc hb hr hset host h0
  | sm hw ok hs ht hy hc hb => exact bit131_sym_more D G inp rest s _ _ _ b w h hw ok hs ht hy hc hb
  | sl hw ok hs hy hc hb hset => exact bit131_sym_last D G inp rest s s' _ _ b _ w h hw ok hs hy hc hb hset host h0

/-- The bits of one byte from the k-th on. -/
inductive Byte (inp : Int) (B : Nat) : Nat → PS → PS → Prop
  | all {s} : Byte inp B 8 s s
  | skip {k s} (h : s.skip = true) : Byte inp B k s s
  | fin {k s} (h : s.k = .fin) : Byte inp B k s s
  | step {k s s1 s'} (hk : k < 8) (h1 : s.skip = false) (h2 : s.k ≠ .fin) (hb : Bit1 inp s (B / 2 ^ k % 2) s1) (h : Byte inp B (k + 1) s1 s') : Byte inp B k s s'
/-- Bytes: those behind the end are left. -/
inductive Feeds : Int → List UInt8 → PS → Int → List UInt8 → PS → Prop
  | nil {inp s} : Feeds inp [] s inp [] s
  | fin {inp b l s s1} (h : Byte (inp + 1) b.toNat 0 { s with skip := false } s1) (hf : s1.k = .fin) : Feeds inp (b :: l) s (inp + 1) l s1
  | more {inp b l s s1 inp' l' s'} (h : Byte (inp + 1) b.toNat 0 { s with skip := false } s1) (hf : s1.k ≠ .fin) (k : Feeds (inp + 1) l s1 inp' l' s') : Feeds inp (b :: l) s inp' l' s'
end Go.Proofs.YthmhcnnigepohaaGreatDoor.If
