/- inflate.Decoder: bit inside a symbol's code; what stands behind the label 'again'. -/
import Derived.Test.YthmhcnnigepohaaGreatDoorM18
import Derived.StillTailTactics
namespace Go.Proofs.YthmhcnnigepohaaGreatDoor.If
open Go.RowKit
set_option linter.unusedVariables false
variable [Foreign]

set_option maxRecDepth 100000 in
set_option maxHeartbeats 4000000 in
theorem bit131_sym_more (D : Nat) (G : List Nat) (inp : Int) (rest : ByteArray) (s : PS) (L : List Nat) (sy t b : Nat) (w : World) (h : Rep w D G inp rest s) (hw : wantS s.k = some L) (ok : LOk L) (hs : sy < L.length) (ht : 0 < t) (hy : L.getD sy 0 = s.q + 1 + t) (hc : s.c = Hf.code L sy / 2 ^ (t + 1)) (hb : b = Hf.code L sy / 2 ^ t % 2) :
    Calls Tryz.prog 131 #[.pointer (some ⟨D, 0, none⟩), .int .i64 b] w (FP D G inp rest w { s with q := s.q + 1, c := Hf.code L sy / 2 ^ t }) := by
  obtain ⟨d, gp, gf, Da, g, sv, hcore, hcode, hDa, hgD, hdb, hna, hnext⟩ := rep_sym h hw
  have HS := hide (step_more hdb hna hgD ok hs ht hy hc b hb)
  have HN := hide hnext
  have hl := hcore.di.lt
  have c14 : w.cell? ⟨D, 14, none⟩ = some (.pointer (some ⟨Da, 0, none⟩)) := by rw [cell_blk hcore.di]; show some d.code = _; rw [hcode]; rfl
  have HDA := hide hDa
  clear h hw ok hs ht hy hc hb hcore hcode hgD hdb hna hnext hDa
  go_enter Tryz.func131, Tryz.ntmps131
  go_wp2
  go_step3
  go_wp2_with fail
  refine (unhide HS).mono ?_
  rintro e w1 ⟨rfl, hdb, hf⟩
  have HRES : Hid (FP D G inp rest w { s with q := s.q + 1, c := Hf.code L sy / 2 ^ t } (.returned (.int .i64 0)) w1) :=
    hide ⟨rfl, G, HN.out w1 _ _ hf hdb, Grows.refl _ _, hf.sub (fun x hx => by simp at hx; rw [hx]; exact HDA.out)⟩
  clear hdb hf
  go_wp2
  try rw [Exit.noGoto_ret]
  go_ret
  exact HRES.out
end Go.Proofs.YthmhcnnigepohaaGreatDoor.If

/- inflate.Decoder: bit at the last bit (printed by tools/genbit.py). -/
namespace Go.Proofs.YthmhcnnigepohaaGreatDoor.If
open Go.RowKit
set_option linter.unusedVariables false
variable [Foreign]

def JA (w0 : World) (G0 : List Nat) (D : Nat) (inp : Int) (rest : ByteArray) (s' : PS) (n : Nat) (a : Act) (w : World) : Prop :=
  ∃ (u1 u2 u3 u4 u6 u7 u8 u9 u10 u11 u12 u13 u14 u15 u16 u17 u18 u19 u20 u21 u22 u23 u24 u25 u26 u27 u28 u29 u30 u31 u32 u33 u34 u35 u36 u37 u38 u39 u40 u41 u42 u43 u44 u45 u46 u47 u48 u49 u50 u51 u52 u53 u54 u55 u56 u57 u58 u59 u60 u61 u62 u63 u64 u65 u66 u67 u68 u69 u70 u71 u72 u73 u74 u75 u76 u77 u78 u79 u80 u81 u82 u83 u84 u85 u86 u87 u88 u89 : Value) (v : Nat), a = { tmps := #[.pointer (some ⟨D, 0, none⟩), u1, u2, u3, u4, .int .i64 (v : Int), u6, u7, u8, u9, u10, u11, u12, u13, u14, u15, u16, u17, u18, u19, u20, u21, u22, u23, u24, u25, u26, u27, u28, u29, u30, u31, u32, u33, u34, u35, u36, u37, u38, u39, u40, u41, u42, u43, u44, u45, u46, u47, u48, u49, u50, u51, u52, u53, u54, u55, u56, u57, u58, u59, u60, u61, u62, u63, u64, u65, u66, u67, u68, u69, u70, u71, u72, u73, u74, u75, u76, u77, u78, u79, u80, u81, u82, u83, u84, u85, u86, u87, u88, u89], defers := [] } ∧ At w0 G0 D inp rest s' n v w

set_option maxRecDepth 100000 in
set_option maxHeartbeats 8000000 in
theorem bit131_sym_last (D : Nat) (G : List Nat) (inp : Int) (rest : ByteArray) (s s' : PS) (L : List Nat) (sy b N : Nat) (w : World) (h : Rep w D G inp rest s) (hw : wantS s.k = some L) (ok : LOk L) (hs : sy < L.length) (hy : L.getD sy 0 = s.q + 1) (hc : s.c = Hf.code L sy / 2 ^ 1) (hb : b = Hf.code L sy % 2)
    (hset : Settles inp N { s with q := 0, c := 0 } sy s') (host : Ost w) (h0 : 0 ∉ G) :
    Calls Tryz.prog 131 #[.pointer (some ⟨D, 0, none⟩), .int .i64 b] w (FP D G inp rest w s') := by
  obtain ⟨d, gp, gf, Da, g, sv, hcore, hcode, hDa, hgD, hdb, hna, hnext⟩ := rep_sym h hw
  have HS := hide (step_last hdb hna hgD ok hs hy hc b hb)
  have HN := hide hnext
  have hl := hcore.di.lt
  have c14 : w.cell? ⟨D, 14, none⟩ = some (.pointer (some ⟨Da, 0, none⟩)) := by rw [cell_blk hcore.di]; show some d.code = _; rw [hcode]; rfl
  have HDA := hide hDa
  have HSET := hide hset
  have HOST0 := hide host
  have H0 := hide h0
  have HW0 : Hid (0 < w.heap.size) := hide (World.block_lt_of_cell? w _ (host 0 (by omega)))
  clear h hw ok hs hy hc hb hcore hcode hgD hdb hna hnext hDa hset host h0
  go_enter Tryz.func131, Tryz.ntmps131
  go_wp2
  refine wp_scope_jumpsg3 0 (JA w G D inp rest s') rfl N ?pass ?first
  case pass =>
    rintro n a wl ⟨u1, u2, u3, u4, u6, u7, u8, u9, u10, u11, u12, u13, u14, u15, u16, u17, u18, u19, u20, u21, u22, u23, u24, u25, u26, u27, u28, u29, u30, u31, u32, u33, u34, u35, u36, u37, u38, u39, u40, u41, u42, u43, u44, u45, u46, u47, u48, u49, u50, u51, u52, u53, u54, u55, u56, u57, u58, u59, u60, u61, u62, u63, u64, u65, u66, u67, u68, u69, u70, u71, u72, u73, u74, u75, u76, u77, u78, u79, u80, u81, u82, u83, u84, u85, u86, u87, u88, u89, v, rfl, hat⟩
    obtain ⟨⟨G1, s1, hrep, hset, hg1⟩, hfr, host⟩ := hat
    have HFR := hide hfr
    have HOST := hide host
    have HG1 := hide hg1
    have HZ1 : Hid (0 ∉ G1) := hide (fun hm => by
      rcases hg1 0 hm with h | h
      · exact H0.out h
      · have := HW0.out; omega)
    have hall : ∃ m s2, Fires inp s1 v s2 ∧ ((m = 0 ∧ s2 = s' ∧ zero s2 = false) ∨ (∃ m', m = m' + 1 ∧ zero s2 = true ∧ Settles inp m' s2 0 s')) ∧ m = n := by
      cases hset with
      | done h hz => exact ⟨0, _, h, .inl ⟨rfl, rfl, hz⟩, rfl⟩
      | more h hz k => exact ⟨_, _, h, .inr ⟨_, rfl, hz, k⟩, rfl⟩
    obtain ⟨m, s2, hfire, hcase, hmn⟩ := hall
    obtain ⟨d, fid, caps, hdi, hnx, hcf, hcall⟩ := fire_any hfire hrep host HZ1.out
    have HC := hide hcall
    have hl := hdi.lt
    have c15 : wl.cell? ⟨D, 15, none⟩ = some (.func (.func fid) #[] caps) := by rw [cell_blk hdi]; show some d.next = _; rw [hnx]
    have HCASE := hide hcase
    have HMN := hide hmn
    clear hfr host hg1 hset hrep hfire hdi hnx hcall hcase hmn
    go_wp2_with fail
    refine (unhide HC).mono ?_
    rintro e w2 ⟨rfl, G2, hr2, hg2, hf2⟩
    obtain ⟨d2, hd2, hdone, hasks⟩ := rep_asks hr2
    have hl2 := hd2.lt
    have k7 : w2.cell? ⟨D, 7, none⟩ = some (.bool s2.k.isFin) := by rw [cell_blk hd2]; show some (Value.bool d2.done) = _; rw [hdone]
    have k13 : w2.cell? ⟨D, 13, none⟩ = some (.int .i64 d2.need) := by rw [cell_blk hd2]; rfl
    have k14 : w2.cell? ⟨D, 14, none⟩ = some d2.code := by rw [cell_blk hd2]; rfl
    have HEND : Hid (zero s2 = false → FP D G inp rest w s' (.returned (.int .i64 0)) w2) := hide (fun hz => by
      rcases HCASE.out with ⟨_, h1, _⟩ | ⟨_, _, h1, _⟩
      · subst h1
        exact ⟨rfl, G2, hr2, HG1.out.trans hg2 HFR.out.size, HFR.out.thru HG1.out hf2⟩
      · rw [hz] at h1; cases h1)
    have HJMP : Hid (zero s2 = true → ∃ m, m < n ∧ At w G D inp rest s' m 0 w2) := hide (fun hz => by
      rcases HCASE.out with ⟨_, _, h1⟩ | ⟨m', h0, _, h1⟩
      · rw [hz] at h1; cases h1
      · refine ⟨m', by have := HMN.out; omega, ⟨⟨G2, s2, hr2, h1, HG1.out.trans hg2 HFR.out.size⟩, HFR.out.thru HG1.out hf2, HOST.out.fr hf2 HZ1.out⟩⟩)
    clear hr2 hg2 hf2 hd2 hdone c15 hcf
    rcases hasks with hfin | ⟨hfin, hz, hcode, hneed⟩ | ⟨hfin, hz, ⟨pc, hcode⟩ | ⟨hcode, hneed⟩⟩
    · have hz : zero s2 = false := by
        obtain ⟨kk, _, _, _, _, _, _⟩ := s2
        cases kk <;> first | rfl | cases hfin
      have HE := hide (HEND.out hz)
      rw [hfin] at k7
      clear hfin hz
      go_wp2
      simp only [Exit.jump]
      go_ret
      exact HE.out
    · rw [hfin] at k7
      rw [hcode] at k14
      rw [hneed] at k13
      have HJ := hide (HJMP.out hz)
      clear hfin hz hcode hneed
      go_wp2
      go_step3
      obtain ⟨m2, hm2, hat2⟩ := HJ.out
      exact ⟨rfl, m2, hm2, _, _, _, _, _, _, _, _, _, _, _, _, _, _, _, _, _, _, _, _, _, _, _, _, _, _, _, _, _, _, _, _, _, _, _, _, _, _, _, _, _, _, _, _, _, _, _, _, _, _, _, _, _, _, _, _, _, _, _, _, _, _, _, _, _, _, _, _, _, _, _, _, _, _, _, _, _, _, _, _, _, _, _, _, _, _, _, _, 0, rfl, hat2⟩
    · have HE := hide (HEND.out hz)
      rw [hfin] at k7
      rw [hcode] at k14
      clear hfin hz hcode
      go_wp2
      simp only [Exit.jump]
      go_ret
      exact HE.out
    · have HE := hide (HEND.out hz)
      rw [hfin] at k7
      rw [hcode] at k14
      have dn : (d2.need == 0) = false := by simpa using hneed
      clear hfin hz hcode hneed
      go_wp2
      simp only [Exit.jump]
      go_ret
      exact HE.out
  case first =>
    intro hpass
    go_wp2_with fail
    refine (unhide HS).mono ?_
    rintro e w1 ⟨rfl, hdb, hf⟩
    have hfG : Fr G w w1 := hf.sub (fun x hx => by simp at hx; rw [hx]; exact HDA.out)
    have HAT : Hid (At w G D inp rest s' N sy w1) := hide ⟨⟨G, _, HN.out w1 0 0 hf hdb, HSET.out, Grows.refl _ _⟩, hfG, HOST0.out.fr hfG H0.out⟩
    clear hdb hf hfG
    go_wp2_with fail
    go_step3
    refine then_normal (by assumption) ?_
    exact hpass N _ _ ⟨_, _, _, _, _, _, _, _, _, _, _, _, _, _, _, _, _, _, _, _, _, _, _, _, _, _, _, _, _, _, _, _, _, _, _, _, _, _, _, _, _, _, _, _, _, _, _, _, _, _, _, _, _, _, _, _, _, _, _, _, _, _, _, _, _, _, _, _, _, _, _, _, _, _, _, _, _, _, _, _, _, _, _, _, _, _, _, _, sy, rfl, HAT.out⟩
end Go.Proofs.YthmhcnnigepohaaGreatDoor.If
