/- gzip.Decoder: open. -/
import Derived.Test.YthmhcnnigepohaaGreatDoorM34
import Derived.Test.YthmhcnnigepohaaGreatDoorM26
import Derived.Test.YthmhcnnigepohaaGreatDoorM35
import Derived.OwnWalk
namespace Go.Proofs.YthmhcnnigepohaaGreatDoor.En
open Go.RowKit
open If (Grows ORD Ost RepO ps0 ptr)
open Dg (BAt bcells step_append_run)
set_option linter.unusedVariables false

theorem elem9 : ElemOk Tryz.prog 23 9 1 16 := ⟨Tryz.underlying23, by
  have h : (Tryz.prog.info? 9).map (fun i => (i.zero.map (fun z => z.cells.size), i.size, i.bytes)) = some (some 1, 1, 16) := by kernel_rfl
  cases hq : Tryz.prog.info? 9 with
  | none => rw [hq] at h; cases h
  | some i =>
    rw [hq] at h
    simp only [Option.map_some, Option.some.injEq, Prod.mk.injEq] at h
    obtain ⟨h1, h2, h3⟩ := h
    cases hz : i.zero with
    | none => rw [hz] at h1; cases h1
    | some z =>
      rw [hz] at h1
      simp only [Option.map_some, Option.some.injEq] at h1
      exact ⟨i, z, rfl, hz, h2, h3, h1⟩, by decide⟩
/-- A slice of one string. -/
def NmAt (w : World) (v : Value) (b : Nat) (s : ByteArray) : Prop := SlAt 9 1 w v (some b) 1 [.string s]
def OpenPost (Z : Nat) (g : GV) (w : World) (e : Ending) (w' : World) : Prop :=
  e = .returned (.tuple #[]) ∧ ∃ D O bn bs nv sv, GI w' Z { g with data := ptr D, crc := 0, size := 0, trl := ⟨#[]⟩, names := nv, sizes := sv } ∧ NmAt w' nv bn inS ∧ Hf.NAt w' sv (some bs) [0] ∧ RepO w' D O 0 ⟨#[]⟩ ps0 ∧
    (∀ b ∈ O, w.heap.size ≤ b) ∧ w.heap.size ≤ bn ∧ w.heap.size ≤ bs ∧ bn ≠ bs ∧ bn ∉ O ∧ bs ∉ O ∧ Fr [Z] w w'
set_option maxRecDepth 100000 in
set_option maxHeartbeats 8000000 in
theorem open116_any (Z : Nat) (g : GV) (gn : Option Nat) (w : World) (h : GI w Z g) (ho : g.out = 65536) (hnm : g.names = .slice none 0 0) (hsz : g.sizes = .slice none 0 0) (hn : BAt w g.name gn [105, 110]) (hz : ∀ b, gn = some b → b ≠ Z) :
    Calls Tryz.prog 116 #[.pointer (some ⟨Z, 0, none⟩)] w (OpenPost Z g w) := by
  obtain ⟨part, count, flags, extra, sum, check, name, out, data, crc, size, trl, within, names, sizes⟩ := g
  simp only at ho hnm hsz hn
  subst ho
  have HNM := hide (And.intro hnm hsz)
  clear hnm hsz
  have H122 := hide (If.newO w)
  have HH := hide h
  have HN := hide hn
  have HZ := hide hz
  have hl := h.lt
  have c7 : w.cell? ⟨Z, 7, none⟩ = some (.int .i64 65536) := cell_blk h 7
  have c8 : w.cell? ⟨Z, 8, none⟩ = some (.int .i64 1100) := cell_blk h 8
  clear h hn hz
  go_enter Tryz.func116, Tryz.ntmps116
  go_wp2_with fail
  refine (unhide H122).mono ?_
  rintro e w1 ⟨D, O, he, hrep, hO, hf1⟩
  have he : e = .returned (.pointer (some ⟨D, 0, none⟩)) := he
  subst he
  have hg1 := HH.out.fr hf1 (by simp)
  have hl1 := hg1.lt
  have c9 : w1.cell? ⟨Z, 9, none⟩ = some data := cell_blk hg1 9
  have cf9 : w1.frozen? ⟨Z, 9, none⟩ = false := froz_blk hg1 9
  have c10 : w1.cell? ⟨Z, 10, none⟩ = some (.int .u32 crc) := cell_blk hg1 10
  have cf10 : w1.frozen? ⟨Z, 10, none⟩ = false := froz_blk hg1 10
  have c11 : w1.cell? ⟨Z, 11, none⟩ = some (.int .i64 size) := cell_blk hg1 11
  have cf11 : w1.frozen? ⟨Z, 11, none⟩ = false := froz_blk hg1 11
  have c12 : w1.cell? ⟨Z, 12, none⟩ = some (.string trl) := cell_blk hg1 12
  have cf12 : w1.frozen? ⟨Z, 12, none⟩ = false := froz_blk hg1 12
  obtain ⟨w2, hw2⟩ : ∃ x, x = (((w1.setCell ⟨Z, 9, none⟩ (.pointer (some ⟨D, 0, none⟩))).setCell ⟨Z, 10, none⟩ (.int .u32 0)).setCell ⟨Z, 11, none⟩ (.int .i64 0)).setCell ⟨Z, 12, none⟩ (.string ⟨#[]⟩) := ⟨_, rfl⟩
  have hg2 : GI w2 Z ⟨part, count, flags, extra, sum, check, name, 65536, .pointer (some ⟨D, 0, none⟩), 0, 0, ⟨#[]⟩, within, names, sizes⟩ := by
    rw [hw2]
    unfold GI
    rw [heap_set, heap_set, heap_set, heap_set, hg1]
    rfl
  have hf12 : Fr [Z] w1 w2 := by rw [hw2]; exact ((((Fr.refl _ _).setCell (.inl (by simp)) _).setCell (.inl (by simp)) _).setCell (.inl (by simp)) _).setCell (.inl (by simp)) _
  have hZO : ∀ b ∈ O, b ∉ [Z] := fun b hb hm => by
    have := hO b hb
    have := HH.out.lt
    simp at hm
    omega
  have HG2 := hide hg2
  have HF2 : Hid (Fr [Z] w w2) := hide ((hf1.mono (by simp)).trans hf12)
  have HO := hide hO
  have HRP := hide (hrep.fr hf12 hZO)
  have HZO := hide hZO
  have HW2 := hide hw2
  have hn2 : BAt w2 name gn [105, 110] := (HN.out.fr hf1 (by simp)).fr hf12 (fun b hb => by simpa using HZ.out b hb)
  have hl2 := hg2.lt
  obtain ⟨w3, hw3⟩ : ∃ x, x = (w2.alloc (.cells #[.string inS] 9)).drew := ⟨_, rfl⟩
  have hf23 : Fr [] w2 w3 := by rw [hw3]; exact ((Fr.refl _ _).alloc _).drew
  have hap0 := SlAt.append elem9 (show SlAt 9 1 w3 names none 0 [] by rw [HNM.out.1]; exact SlAt.nil_ w3) 23 ⟨w2.heap.size, 0, none⟩ 1 1 [.string inS] (by omega) rfl (fun j u hj => by
    match j, hj with
    | 0, hj =>
      simp only [List.getElem?_cons_zero, Option.some.injEq] at hj
      subst hj
      rw [hw3]
      exact cell_blk (w := (w2.alloc (.cells #[.string inS] 9)).drew) (heap_alloc_eq rfl) 0) (fun u hu => by simp at hu; subst hu; rfl) (by omega) (by unfold maxLen; omega)
  obtain ⟨nv, w4, gn4, hap, hns, hf34, hgn4⟩ := hap0
  have hf34 : Fr [] w3 w4 := hf34
  have hgn4 : gn4 = some w3.heap.size := by
    rcases hgn4 with rfl | ⟨h, -⟩
    · rcases hns with ⟨_, _, h, _⟩ | ⟨b, _, _, _, h, _⟩
      · cases h
      · cases h
    · exact h
  have hcv2 : (convert 22 9 name).run Tryz.prog w2 = .ok (.string inS) w2 := If.bat_str hn2
  have hcv3 : (convert 22 9 name).run Tryz.prog w2.drew = .ok (.string inS) w2.drew := If.bat_str (w := w2.drew) (SlAt.fr hn2 (Fr.refl [] w2).drew (by simp))
  have hap1 : (Builtin.append_ #[23, 23] 23 #[names, .slice (some ⟨w2.heap.size, 0, none⟩) 1 1]).run Tryz.prog (w2.alloc (.cells #[.string inS] 9)).drew = .ok nv w4 := by rw [← hw3]; exact hap
  have hap2 : (Builtin.append_ #[23, 23] 23 #[names, .slice (some ⟨w2.heap.size, 0, none⟩) 1 1]).run Tryz.prog (w2.drew.alloc (.cells #[.string inS] 9)) = .ok nv w4 := hap1
  have hg4 := (hg2.fr hf23 (by simp)).fr hf34 (by simp)
  have hl4 := hg4.lt
  have e8 : w4.cell? ⟨Z, 15, none⟩ = some names := cell_blk hg4 15
  have ef8 : w4.frozen? ⟨Z, 15, none⟩ = false := froz_blk hg4 15
  have d15 : w2.cell? ⟨Z, 15, none⟩ = some names := cell_blk hg2 15
  have d6 : w2.cell? ⟨Z, 6, none⟩ = some name := cell_blk hg2 6
  obtain ⟨ao, co, hnv⟩ := SlAt.shape hns
  subst hnv
  have HNS := hide hns
  have HF24 : Hid (Fr [] w2 w4) := hide (hf23.trans hf34)
  have HS3 : Hid (w3.heap.size = w2.heap.size + 1) := hide (by rw [hw3]; simp [World.drew])
  have HGN := hide hgn4
  have HG4 := hide hg4
  clear hrep hf1 hg1 c7 c8 hw2 hf12 hO hZO hg2 hn2 hw3 hf23 hap hns hf34 hgn4 hg4
  go_upto_region 2 with fail
  rw [← HW2.out]
  clear HW2 c9 cf9 c10 cf10 c11 cf11 c12 cf12
  go_cut [] (fun wd => wd = w4.setCell ⟨Z, 15, none⟩ (.slice ao 1 co))
  case first =>
    go_region_law (first | (refine step_append_run rfl _ _ 23 rfl hap1 rfl rfl ?_) | (refine step_append_run rfl _ _ 23 rfl hap2 rfl rfl ?_))
    all_goals go_wp2_with fail
    all_goals go_meet
    all_goals rfl
  case rest =>
    subst hcut
    have hf45 : Fr [Z] w4 (w4.setCell ⟨Z, 15, none⟩ (.slice ao 1 co)) := (Fr.refl [Z] w4).setCell (.inl (by simp)) _
    have hg5 : GI (w4.setCell ⟨Z, 15, none⟩ (.slice ao 1 co)) Z ⟨part, count, flags, extra, sum, check, name, 65536, .pointer (some ⟨D, 0, none⟩), 0, 0, ⟨#[]⟩, within, .slice ao 1 co, sizes⟩ := by
      unfold GI
      rw [heap_set, HG4.out]
      rfl
    obtain ⟨w5, hw5⟩ : ∃ x, x = w4.setCell ⟨Z, 15, none⟩ (.slice ao 1 co) := ⟨_, rfl⟩
    rw [← hw5] at hf45 hg5 ⊢
    clear hw5
    have hl5 := hg5.lt
    have g16 : w5.cell? ⟨Z, 16, none⟩ = some sizes := cell_blk hg5 16
    obtain ⟨zv, w6, gz, hap6, hzs, hf56, hgz⟩ := Hf.NAt.push (w := w5) (v := sizes) (g := none) (l := []) (by rw [HNM.out.2]; exact SlAt.nil_ w5) 0 (by simp)
    have hf56 : Fr [] w5 w6 := hf56
    obtain ⟨bz, rfl, hbz⟩ : ∃ b, gz = some b ∧ w5.heap.size ≤ b := by
      rcases hgz with rfl | h
      · rcases hzs with ⟨_, _, h, _⟩ | ⟨b, _, _, _, h, _⟩
        · cases h
        · cases h
      · exact h
    have hg6 := hg5.fr hf56 (by simp)
    have hl6 := hg6.lt
    have k16 : w6.cell? ⟨Z, 16, none⟩ = some sizes := cell_blk hg6 16
    have kf16 : w6.frozen? ⟨Z, 16, none⟩ = false := froz_blk hg6 16
    obtain ⟨az, cz, hzv⟩ := SlAt.shape hzs
    have hzv : zv = .slice az 1 cz := hzv
    subst hzv
    have hf67 : Fr [Z] w6 (w6.setCell ⟨Z, 16, none⟩ (.slice az 1 cz)) := (Fr.refl [Z] w6).setCell (.inl (by simp)) _
    have HRES : Hid (OpenPost Z ⟨part, count, flags, extra, sum, check, name, 65536, data, crc, size, trl, within, names, sizes⟩ w (.returned (.tuple #[])) (w6.setCell ⟨Z, 16, none⟩ (.slice az 1 cz))) := by
      have hs3 := HS3.out
      have hs2 := HF2.out.size
      have h24 := HF24.out.size
      have h45 := hf45.size
      have h56 := hf56.size
      have hlZ := HH.out.lt
      have hns4 := HNS.out
      rw [HGN.out] at hns4
      have hbnlt : w3.heap.size < w4.heap.size := by
        obtain ⟨cur, hc⟩ := SlAt.lt hns4 _ rfl
        exact lt_of_blk hc
      have hOl := HRP.out.lt
      refine hide ⟨rfl, D, O, w3.heap.size, bz, .slice ao 1 co, .slice az 1 cz, ?_, ?_, ?_, ?_, HO.out, by omega, by omega, by omega, fun hm => ?_, fun hm => ?_, ?_⟩
      · unfold GI
        rw [heap_set, hg6]
        rfl
      · refine SlAt.fr (SlAt.fr (SlAt.fr hns4 hf45 (fun b hb => ?_)) hf56 (by simp)) hf67 (fun b hb => ?_) <;> · injection hb with hb; simp; omega
      · refine SlAt.fr hzs hf67 (fun b hb => ?_)
        injection hb with hb; simp; omega
      · exact (((HRP.out.fr HF24.out (by simp)).fr hf45 HZO.out).fr hf56 (by simp)).fr hf67 HZO.out
      · have := hOl _ hm; omega
      · have := hOl _ hm; omega
      · exact (((HF2.out.trans (HF24.out.mono (by simp))).trans hf45).trans (hf56.mono (by simp))).trans hf67
    have hap7 : (Builtin.append_ #[77, 77] 77 #[sizes, .slice (some ⟨w5.heap.size, 0, none⟩) 1 1]).run Tryz.prog (w5.alloc (.cells #[.int .i64 0] 3)) = .ok (.slice az 1 cz) w6 := hap6
    clear hap6 hzs hf56 hbz hg6 hf67 hf45 hg5 hgz hcv2 hcv3 hap1 hap2 e8 ef8 d15 d6
    go_wp2_with (at_builtin; refine wpList_append_run rfl _ _ 77 rfl hap7 rfl rfl ?_)
    refine bodyPost_end (results_none rfl _ _ _) rfl ?_
    exact HRES.out
end Go.Proofs.YthmhcnnigepohaaGreatDoor.En

/- gzip.Decoder: inflate. -/
namespace Go.Proofs.YthmhcnnigepohaaGreatDoor.En
open Go.RowKit
open If (Grows ORD Ost RepO ps0 ptr Feeds PS feedO)
open Dg (BAt bcells)
set_option linter.unusedVariables false

theorem crcN_int (l : List UInt8) : (crcN l : Int) = crcF 0 l := by have := crcF_in 0 l; unfold crcN; omega
theorem crcN_app (a b : List UInt8) : (crcN (a ++ b) : Int) = crcF (crcN a) b := by rw [crcN_int, crcN_int, crcF_append]
def InfPost (Z : Nat) (g : GV) (D bs : Nat) (O : List Nat) (A : List UInt8) (s' : PS) (j' : Nat) (l' : List UInt8) (w : World) (e : Ending) (w' : World) : Prop :=
  e = .returned (.tuple #[.string ⟨s'.fresh.toArray⟩, .string (if s'.k.isFin then ⟨l'.toArray⟩ else ⟨#[]⟩), .int .i64 0]) ∧
  GI w' Z { g with out := g.out - s'.fresh.length, data := if s'.k.isFin then .pointer none else ptr D, crc := crcN (A ++ s'.fresh), size := (A ++ s'.fresh).length } ∧ Hf.NAt w' g.sizes (some bs) [(A ++ s'.fresh).length] ∧
  (∃ O' r', RepO w' D O' j' r' s' ∧ Grows w O O' ∧ Z ∉ O' ∧ bs ∉ O') ∧ Fr (Z :: bs :: O) w w'
theorem grows_not {w : World} {O O' : List Nat} {b : Nat} (h : Grows w O O') (hb : b < w.heap.size) (hn : b ∉ O) : b ∉ O' := fun hm => by
  rcases h b hm with h | h
  · exact hn h
  · omega
theorem nat1 {w : World} {v : Value} {b n : Nat} (h : Hf.NAt w v (some b) [n]) : ∃ off cap cur, v = .slice (some ⟨b, off, none⟩) 1 cap ∧ w.heap[b]? = some (.cells cur 3 (0, 0)) ∧ 1 ≤ cap ∧ off + cap ≤ cur.size ∧ cur[off]? = some (.int .i64 n) := by
  rcases h with ⟨_, h, _⟩ | ⟨b', off, cap, cur, hg, hv, hb, h1, h2, h3, h4⟩
  · cases h
  · injection hg with hg
    subst hg
    exact ⟨off, cap, cur, hv, hb, h1, by simpa using h2, h4 0 _ rfl⟩
theorem nat1_set {w : World} {v : Value} {b m off cap : Nat} {cur : Array Value} (hv : v = .slice (some ⟨b, off, none⟩) 1 cap) (hb : w.heap[b]? = some (.cells cur 3 (0, 0))) (h1 : 1 ≤ cap) (h2 : off + cap ≤ cur.size) : Hf.NAt (w.setCell ⟨b, off, none⟩ (.int .i64 m)) v (some b) [m] := by
  refine .inr ⟨b, off, cap, _, rfl, hv, heap_set_same hb, h1, by simpa using h2, rfl, fun j u hj => ?_⟩
  match j, hj with
  | 0, hj =>
    rw [Array.getElem?_setIfInBounds, if_pos (by omega), if_pos (by omega)]
    exact hj
set_option maxRecDepth 100000 in
set_option maxHeartbeats 8000000 in
theorem inflate117_any (Z D bs j j' : Nat) (O : List Nat) (r p : ByteArray) (g : GV) (A l' : List UInt8) (s s' : PS) (w : World) (h : GI w Z g) (hd : g.data = ptr D) (hc : g.crc = crcN A) (hs : g.size = A.length) (hout : g.out = 65536 - A.length)
    (hz : Hf.NAt w g.sizes (some bs) [A.length]) (hr : RepO w D O j r s) (hk : s.k ≠ .fin) (hF : Feeds (j : Nat) p.data.toList { s with fresh := [] } (j' : Nat) l' s') (hj : j + p.size ≤ 1000000) (hA : A.length + s'.fresh.length ≤ 65535) (ho : Ost w) (h0 : 0 ∉ O) (hZ : Z ∉ O) (hb : bs ∉ O) :
    Calls Tryz.prog 117 #[.pointer (some ⟨Z, 0, none⟩), .string p] w (InfPost Z g D bs O A s' j' l' w) := by
  obtain ⟨part, count, flags, extra, sum, check, name, out, data, crc, size, trl, within, names, sizes⟩ := g
  simp only at hd hc hs hout hz
  obtain rfl : data = .pointer (some ⟨D, 0, none⟩) := hd
  subst hc hs hout
  have HF123 := hide (feedO D O j j' r p l' s s' w hr hk hF (by omega) ho h0)
  have HH := hide h
  have HZ0 := hide hz
  have hl := h.lt
  have hbZ : bs ≠ Z := by
    rintro rfl
    obtain ⟨off, cap, cur, e1, e2, _⟩ := nat1 hz
    rw [h] at e2
    injection e2 with e2; injection e2 with _ e2 _; cases e2
  have hbl : bs < w.heap.size := by obtain ⟨off, cap, cur, e1, e2, _⟩ := nat1 hz; exact lt_of_blk e2
  obtain ⟨x, hx⟩ : ∃ x : ByteArray, x = ⟨s'.fresh.toArray⟩ := ⟨_, rfl⟩
  obtain ⟨n, hn⟩ : ∃ n, n = A.length := ⟨_, rfl⟩
  obtain ⟨m, hm⟩ : ∃ m, m = s'.fresh.length := ⟨_, rfl⟩
  have hxm : x.size = m := by rw [hx, hm]; rfl
  obtain ⟨cr, hcr⟩ : ∃ c, c = (crcN A : Int) := ⟨_, rfl⟩
  have hcrb : 0 ≤ cr ∧ cr ≤ 4294967295 := by rw [hcr]; have := crcN_lt A; omega
  obtain ⟨cr2, hcr2⟩ : ∃ c, c = (crcN (A ++ s'.fresh) : Int) := ⟨_, rfl⟩
  have H42 : ∀ W, Hid (Calls Tryz.prog 42 #[.int .u32 cr, .string x] W fun e w' => e = .returned (.int .u32 cr2) ∧ Fr [] W w') := fun W => hide ((crc42_any cr x W hcrb (by omega)).mono (by
    rintro e w' ⟨rfl, hf⟩
    refine ⟨?_, hf⟩
    rw [hcr2, crcN_app, ← hcr, hx]))
  have HIDS := hide (And.intro hx (And.intro hn (And.intro hm (And.intro hcr hcr2))))
  rw [← hn] at hA HZ0 HH h hz
  rw [← hm] at hA
  rw [← hcr] at HH h
  have c9 : w.cell? ⟨Z, 9, none⟩ = some (.pointer (some ⟨D, 0, none⟩)) := cell_blk h 9
  have HN0 := hide (And.intro hZ hb)
  clear h hz hr hk hF ho h0 hx hn hm hcr hcr2 hZ hb
  go_enter Tryz.func117, Tryz.ntmps117
  go_wp2_with fail
  refine (unhide HF123).mono ?_
  rintro e w1 ⟨he, O1, r1, hr1, hfr, hg, hf1⟩
  rw [← HIDS.out.1] at he
  subst he
  have hg1 := HH.out.fr hf1 HN0.out.1
  have hz1 : Hf.NAt w1 sizes (some bs) [n] := SlAt.fr HZ0.out hf1 (fun b hb => by injection hb with hb; rw [← hb]; exact HN0.out.2)
  have HR1 := hide hr1
  have HFR := hide hfr
  have HG1 := hide hg
  have HF1 := hide hf1
  have HGI1 := hide hg1
  have HZ1 := hide hz1
  have hl1 := hg1.lt
  have d10 : w1.cell? ⟨Z, 10, none⟩ = some (.int .u32 cr) := cell_blk hg1 10
  clear hr1 hfr hg hf1 hg1 hz1
  go_wp2_with fail
  refine (unhide (H42 _)).mono ?_
  rintro e w2 ⟨rfl, hf2⟩
  have hg2 := HGI1.out.fr hf2 (by simp)
  have hz2 : Hf.NAt w2 sizes (some bs) [n] := SlAt.fr HZ1.out hf2 (by simp)
  have hl2 := hg2.lt
  have e10 : w2.cell? ⟨Z, 10, none⟩ = some (.int .u32 cr) := cell_blk hg2 10
  have ef10 : w2.frozen? ⟨Z, 10, none⟩ = false := froz_blk hg2 10
  have e11 : w2.cell? ⟨Z, 11, none⟩ = some (.int .i64 (n : Int)) := cell_blk hg2 11
  have ef11 : w2.frozen? ⟨Z, 11, none⟩ = false := froz_blk hg2 11
  have e7 : w2.cell? ⟨Z, 7, none⟩ = some (.int .i64 (65536 - (n : Int))) := cell_blk hg2 7
  have ef7 : w2.frozen? ⟨Z, 7, none⟩ = false := froz_blk hg2 7
  obtain ⟨w3, hw3⟩ : ∃ x, x = ((w2.setCell ⟨Z, 10, none⟩ (.int .u32 cr2)).setCell ⟨Z, 11, none⟩ (.int .i64 ((n : Int) + (m : Int)))).setCell ⟨Z, 7, none⟩ (.int .i64 (65536 - (n : Int) - (m : Int))) := ⟨_, rfl⟩
  have hg3 : GI w3 Z ⟨part, count, flags, extra, sum, check, name, 65536 - (n : Int) - (m : Int), .pointer (some ⟨D, 0, none⟩), cr2, (n : Int) + (m : Int), trl, within, names, sizes⟩ := by
    rw [hw3]
    unfold GI
    rw [heap_set, heap_set, heap_set, hg2]
    rfl
  have hf3 : Fr [Z] w2 w3 := by rw [hw3]; exact (((Fr.refl _ _).setCell (.inl (by simp)) _).setCell (.inl (by simp)) _).setCell (.inl (by simp)) _
  have hz3 : Hf.NAt w3 sizes (some bs) [n] := SlAt.fr hz2 hf3 (fun b hb => by injection hb with hb; rw [← hb]; simpa using hbZ)
  obtain ⟨off, cap, cur, hsv, hsb, hs1, hs2, hs3⟩ := nat1 hz3
  have HZ4 : Hid (Hf.NAt (w3.setCell ⟨bs, off, none⟩ (.int .i64 ((n + m : Nat) : Int))) sizes (some bs) [n + m]) := hide (nat1_set hsv hsb hs1 hs2)
  have hg3b := hg3
  have g16 : w3.cell? ⟨Z, 16, none⟩ = some sizes := cell_blk hg3 16
  have s0 : w3.cell? ⟨bs, off, none⟩ = some (.int .i64 (n : Int)) := by rw [cell_blk hsb]; exact hs3
  have sf0 : w3.frozen? ⟨bs, off, none⟩ = false := froz_blk hsb off
  have HG3 := hide hg3
  have HF3 : Hid (Fr (Z :: O) w w3) := hide ((HF1.out.mono (fun b hb _ => by simp [hb])).trans ((hf2.mono (by simp)).trans (hf3.mono (fun b hb _ => by simp at hb; simp [hb]))))
  have HR3 : Hid (RepO w3 D O1 j' r1 s') := hide ((HR1.out.fr hf2 (by simp)).fr hf3 (fun b hb hm => by
    simp at hm
    subst hm
    exact grows_not HG1.out (HH.out.lt) HN0.out.1 hb))
  have HW3 := hide hw3
  have hlb : bs < w3.heap.size := lt_of_blk hsb
  have hl3 := hg3.lt
  subst hsv
  clear hg2 hz2 hg3 hg3b hf2 hf3 hz3 hw3 hsb hs3 d10
  go_upto_region 5 with fail
  rw [← HW3.out]
  clear HW3 e10 ef10 e11 ef11 e7 ef7
  have HQ : Hid (GI (w3.setCell ⟨bs, off, none⟩ (.int .i64 ((n + m : Nat) : Int))).drew Z ⟨part, count, flags, extra, sum, check, name, 65536 - (n : Int) - (m : Int), .pointer (some ⟨D, 0, none⟩), cr2, (n : Int) + (m : Int), trl, within, names, .slice (some ⟨bs, off, none⟩) 1 cap⟩ ∧ Hf.NAt (w3.setCell ⟨bs, off, none⟩ (.int .i64 ((n + m : Nat) : Int))).drew (.slice (some ⟨bs, off, none⟩) 1 cap) (some bs) [n + m] ∧ Fr [bs] w3 (w3.setCell ⟨bs, off, none⟩ (.int .i64 ((n + m : Nat) : Int))).drew) := by
    have hf : Fr [bs] w3 (w3.setCell ⟨bs, off, none⟩ (.int .i64 ((n + m : Nat) : Int))) := (Fr.refl [bs] w3).setCell (.inl (by simp)) _
    exact hide ⟨HG3.out.fr hf.drew (by simpa using hbZ.symm), SlAt.fr HZ4.out (Fr.refl [] _).drew (by simp), hf.drew⟩
  have hnm : ((n + m : Nat) : Int) = (n : Int) + (m : Int) := by omega
  rw [hnm] at HQ
  clear hnm
  go_cut [] (fun wd => GI wd Z ⟨part, count, flags, extra, sum, check, name, 65536 - (n : Int) - (m : Int), .pointer (some ⟨D, 0, none⟩), cr2, (n : Int) + (m : Int), trl, within, names, .slice (some ⟨bs, off, none⟩) 1 cap⟩ ∧ Hf.NAt wd (.slice (some ⟨bs, off, none⟩) 1 cap) (some bs) [n + m] ∧ Fr [bs] w3 wd)
  case first =>
    go_region
    all_goals go_wp2_with fail
    all_goals go_meet
    all_goals exact HQ.out
  case rest =>
    obtain ⟨hg4, hz4, hf4⟩ := hcut
    have hl4 := hg4.lt
    have HR4 : Hid (RepO wc D O1 j' r1 s') := hide (HR3.out.fr hf4 (fun b hb hm => by
      simp at hm
      subst hm
      exact grows_not HG1.out hbl HN0.out.2 hb))
    have HF4 : Hid (Fr (Z :: bs :: O) w wc) := hide ((HF3.out.mono (fun b hb _ => by simp at hb ⊢; rcases hb with h | h; exact .inl h; exact .inr (.inr h))).trans (hf4.mono (fun b hb _ => by simp at hb; simp [hb])))
    have d9 : wc.cell? ⟨Z, 9, none⟩ = some (.pointer (some ⟨D, 0, none⟩)) := cell_blk hg4 9
    have df9 : wc.frozen? ⟨Z, 9, none⟩ = false := froz_blk hg4 9
    obtain ⟨dd, hdi, hdn, hdr⟩ := HR4.out.di
    have HG4 := hide hg4
    have HZ5 := hide hz4
    have H124 := hide (If.done124_any D dd wc hdi)
    have H125 := hide (If.rest125_any D dd wc hdi)
    rw [hdn] at H124
    rw [hdr] at H125
    have HRR := HFR
    have HNOT : Hid (Z ∉ O1 ∧ bs ∉ O1) := hide ⟨grows_not HG1.out hl HN0.out.1, grows_not HG1.out hbl HN0.out.2⟩
    have HPOST : Hid (∀ w', GI w' Z ⟨part, count, flags, extra, sum, check, name, 65536 - (n : Int) - (m : Int), if s'.k.isFin then .pointer none else .pointer (some ⟨D, 0, none⟩), cr2, (n : Int) + (m : Int), trl, within, names, .slice (some ⟨bs, off, none⟩) 1 cap⟩ → Fr [Z] wc w' →
        InfPost Z ⟨part, count, flags, extra, sum, check, name, 65536 - (A.length : Int), .pointer (some ⟨D, 0, none⟩), (crcN A : Int), (A.length : Int), trl, within, names, .slice (some ⟨bs, off, none⟩) 1 cap⟩ D bs O A s' j' l' w (.returned (.tuple #[.string x, .string (if s'.k.isFin then ⟨l'.toArray⟩ else ⟨#[]⟩), .int .i64 0])) w') := by
      refine hide fun w' hg hf => ?_
      obtain ⟨h1, h2, h3, h4, h5⟩ := HIDS.out
      have hbZ' : bs ∉ [Z] := by simpa using hbZ
      refine ⟨by rw [h1], ?_, ?_, ⟨O1, r1, HR4.out.fr hf (fun b hb hm => by simp at hm; subst hm; exact HNOT.out.1 hb), HG1.out, HNOT.out⟩, HF4.out.trans (hf.mono (by simp))⟩
      · rw [h2, h3, h5] at hg
        rw [List.length_append]
        have : ((A.length + s'.fresh.length : Nat) : Int) = (A.length : Int) + (s'.fresh.length : Int) := by omega
        rw [this]
        exact hg
      · have h := SlAt.fr HZ5.out hf (fun b hb => by injection hb with hb; rw [← hb]; exact hbZ')
        rw [h2, h3] at h
        rw [List.length_append]
        exact h
    clear hg4 hz4 hf4 hdi hdn hdr g16 s0 sf0
    obtain ⟨bf, hbf⟩ : ∃ b, b = s'.k.isFin := ⟨_, rfl⟩
    rw [← hbf] at H124 HPOST HRR
    have HBF := hide hbf
    clear hbf
    cases bf
    · have HP2 := hide (HPOST.out wc HG4.out (Fr.refl _ _))
      clear HPOST
      go_wp2_with fail
      refine (unhide H124).mono ?_
      rintro e w5 ⟨rfl, rfl⟩
      go_wp2_with fail
      go_ret3
      exact HP2.out
    · have hg5 : GI (wc.setCell ⟨Z, 9, none⟩ (.pointer none)) Z ⟨part, count, flags, extra, sum, check, name, 65536 - (n : Int) - (m : Int), .pointer none, cr2, (n : Int) + (m : Int), trl, within, names, .slice (some ⟨bs, off, none⟩) 1 cap⟩ := by
        unfold GI
        rw [heap_set, HG4.out]
        rfl
      have HP2 := hide (HPOST.out _ hg5 ((Fr.refl [Z] wc).setCell (.inl (by simp)) _))
      have hr1 : r1 = ⟨l'.toArray⟩ := HRR.out rfl
      rw [hr1] at H125
      clear HPOST hg5 hr1
      go_wp2_with fail
      refine (unhide H124).mono ?_
      rintro e w5 ⟨rfl, rfl⟩
      go_wp2_with fail
      refine (unhide H125).mono ?_
      rintro e w5 ⟨rfl, rfl⟩
      go_wp2_with fail
      go_ret3
      exact HP2.out
end Go.Proofs.YthmhcnnigepohaaGreatDoor.En

/- gzip.Decoder: what Feed does, as a chain of rounds; no program in sight. -/
namespace Go.Proofs.YthmhcnnigepohaaGreatDoor.En
open Go.RowKit
open If
set_option linter.unusedVariables false

/-- The decoder between two bytes: ahead of a member, p bytes into its header, j bytes into its data, t bytes into its trailer. -/
inductive Ph where
  | idle | head (p : Nat) | data (j : Nat) (s : PS) | tail (t : Nat)
/-- A round of Feed's loop. -/
inductive Rd (S : List UInt8) : Ph → List UInt8 → Ph → List UInt8 → List UInt8 → Prop
  | begin {l} : Rd S .idle (31 :: l) (.head 0) (31 :: l) []
  | take {p l} (h : p < 12) : Rd S (.head p) (HDR.getD p 0 :: l) (.head (p + 1)) l []
  | open_ {l} : Rd S (.head 12) (HDR.getD 12 0 :: l) (.data 0 ps0) l []
  | infl {j j' s s' p l'} (h : Feeds (j : Nat) p { s with fresh := [] } (j' : Nat) l' s') (h0 : p ≠ []) (h1 : s.k ≠ .fin) (h2 : s'.k ≠ .fin) (h3 : s'.out = s.out ++ s'.fresh) (h4 : s'.out.length ≤ S.length) (h5 : j + p.length ≤ 1000000) : Rd S (.data j s) p (.data j' s') [] s'.fresh
  | last {j j' s s' p l'} (h : Feeds (j : Nat) p { s with fresh := [] } (j' : Nat) l' s') (h0 : p ≠ []) (h1 : s.k ≠ .fin) (h2 : s'.k = .fin) (h3 : s'.out = s.out ++ s'.fresh) (h4 : s'.out = S) (h5 : j + p.length ≤ 1000000) : Rd S (.data j s) p (.tail 0) l' s'.fresh
  | end_ {t l} (h : t < 8) : Rd S (.tail t) ((TRL S).getD t 0 :: l) (.tail (t + 1)) l []
/-- Rounds until all bytes are read. -/
inductive Rs (S : List UInt8) : Nat → Ph → List UInt8 → Ph → List UInt8 → Prop
  | nil {φ} : Rs S 0 φ [] φ []
  | cons {n φ l φ1 l1 o1 φ2 o2} (h : Rd S φ l φ1 l1 o1) (h0 : l ≠ []) (k : Rs S n φ1 l1 φ2 o2) : Rs S (n + 1) φ l φ2 (o1 ++ o2)

/-- The states of a decoder that is fed a stream byte by byte. -/
theorem byte_run : ∀ (l : List UInt8) (x : Nat) (s sf : PS), Feeds (x : Nat) l s ((x + l.length : Nat) : Int) [] sf → sf.k = .fin → l ≠ [] →
    ∃ st : Nat → PS, st 0 = s ∧ (st l.length).out = sf.out ∧ ∀ j (hj : j < l.length), Feeds ((x + j : Nat) : Int) [l[j]] { st j with fresh := [] } ((x + j + 1 : Nat) : Int) [] (st (j + 1)) ∧ (st (j + 1)).out = (st j).out ++ (st (j + 1)).fresh ∧ ((st (j + 1)).k = .fin ↔ j + 1 = l.length)
  | [], x, s, sf, h, hf, h0 => absurd rfl h0
  | b :: l, x, s, sf, h, hf, _ => by
    obtain ⟨s1, h1, h2, h3⟩ := Feeds.byte h
    rcases h3 with ⟨k1, k2, k3, k4, k5⟩ | ⟨k1, sf', k2, k3, k4⟩
    · subst k3
      refine ⟨fun j => if j = 0 then s else s1, rfl, by simp [k5], fun j hj => ?_⟩
      obtain rfl : j = 0 := by simpa using hj
      refine ⟨?_, h2, by simp [k1]⟩
      have : ((x + 0 + 1 : Nat) : Int) = (x : Int) + 1 := by omega
      rw [this]
      exact h1
    · have hl : l ≠ [] := by
        rintro rfl
        cases k2
        rw [k3] at k1
        exact k1 hf
      have k2' : Feeds ((x + 1 : Nat) : Int) l s1 ((x + 1 + l.length : Nat) : Int) [] sf' := by
        have e1 : ((x + 1 : Nat) : Int) = (x : Int) + 1 := by omega
        have e2 : ((x + 1 + l.length : Nat) : Int) = ((x + (b :: l).length : Nat) : Int) := by simp; omega
        rw [e1, e2]
        exact k2
      obtain ⟨st, g1, g2, g3⟩ := byte_run l (x + 1) s1 sf' k2' (k3.trans hf) hl
      refine ⟨fun j => match j with | 0 => s | j + 1 => st j, rfl, ?_, fun j hj => ?_⟩
      · rw [List.length_cons]
        exact g2.trans k4
      · cases j with
        | zero =>
          refine ⟨?_, ?_, ?_⟩
          · have : ((x + 0 + 1 : Nat) : Int) = (x : Int) + 1 := by omega
            rw [this]
            show Feeds _ _ _ _ _ (st 0)
            rw [g1]
            exact h1
          · show (st 0).out = s.out ++ (st 0).fresh
            rw [g1]; exact h2
          · show (st 0).k = .fin ↔ _
            rw [g1]
            have := List.length_pos_iff.mpr hl
            simp only [List.length_cons]
            exact ⟨fun h => absurd h k1, fun h => by omega⟩
        | succ j =>
          have hj' : j < l.length := by simpa using hj
          obtain ⟨q1, q2, q3⟩ := g3 j hj'
          refine ⟨?_, q2, ?_⟩
          · have e1 : ((x + (j + 1) : Nat) : Int) = ((x + 1 + j : Nat) : Int) := by omega
            have e2 : ((x + (j + 1) + 1 : Nat) : Int) = ((x + 1 + j + 1 : Nat) : Int) := by omega
            rw [e1, e2]
            exact q1
          · simp only [List.length_cons]
            exact q3.trans (by omega)

/-- The states along the data of a member. -/
structure Along (d S : List UInt8) (st : Nat → PS) : Prop where
  pos : 0 < d.length
  lim : d.length ≤ 900000
  zero : st 0 = ps0
  all : (st d.length).out = S
  step : ∀ j (hj : j < d.length), Feeds (j : Nat) [d[j]] { st j with fresh := [] } ((j + 1 : Nat) : Int) [] (st (j + 1)) ∧ (st (j + 1)).out = (st j).out ++ (st (j + 1)).fresh ∧ ((st (j + 1)).k = .fin ↔ j + 1 = d.length)
theorem along_of {d S : List UInt8} (h : Inflates d S) (hl : d.length ≤ 900000) : ∃ st, Along d S st := by
  obtain ⟨h0, h⟩ := h
  obtain ⟨sf, h1, h2, h3, h4⟩ := h []
  rw [List.append_nil] at h1
  obtain ⟨st, g1, g2, g3⟩ := byte_run d 0 ps0 sf (by simpa using h1) h2 h0
  exact ⟨st, List.length_pos_iff.mpr h0, hl, g1, g2.trans h3, fun j hj => by simpa using g3 j hj⟩
theorem Along.notfin {d S : List UInt8} {st : Nat → PS} (h : Along d S st) {j : Nat} (hj : j < d.length) : (st j).k ≠ .fin := by
  cases j with
  | zero => rw [h.zero]; intro e; cases e
  | succ j => exact fun e => by have := (h.step j (by omega)).2.2.mp e; omega
theorem Along.mono {d S : List UInt8} {st : Nat → PS} (h : Along d S st) : ∀ (k j : Nat), j + k = d.length → ∃ r, S = (st j).out ++ r
  | 0, j, hj => ⟨[], by rw [List.append_nil, ← h.all]; congr 2; omega⟩
  | k + 1, j, hj => by
    obtain ⟨r, hr⟩ := h.mono k (j + 1) (by omega)
    rw [(h.step j (by omega)).2.1, List.append_assoc] at hr
    exact ⟨_, hr⟩
theorem Along.le {d S : List UInt8} {st : Nat → PS} (h : Along d S st) {j : Nat} (hj : j ≤ d.length) : (st j).out.length ≤ S.length := by
  obtain ⟨r, hr⟩ := h.mono (d.length - j) j (by omega)
  rw [hr, List.length_append]
  omega
/-- Where the decoder is after n bytes of a member, and what it has put out. -/
def phAt (d : List UInt8) (st : Nat → PS) (n : Nat) : Ph := if n = 0 then .idle else if n < 13 then .head n else if n - 13 < d.length then .data (n - 13) (st (n - 13)) else .tail (n - 13 - d.length)
def outAt (d S : List UInt8) (st : Nat → PS) (n : Nat) : List UInt8 := if n < 13 then [] else if n - 13 < d.length then (st (n - 13)).out else S
theorem HDR_len : HDR.length = 13 := rfl
theorem mem_len (d S : List UInt8) : (mem d S).length = 13 + d.length + 8 := by
  unfold mem
  rw [List.length_append, List.length_append, HDR_len, TRL_len]
theorem mem_hdr (d S : List UInt8) {n : Nat} (h : n < 13) (hn : n < (mem d S).length) : (mem d S)[n] = HDR.getD n 0 := by
  have h2 : n < HDR.length := h
  unfold mem
  simp only [List.append_assoc]
  rw [List.getElem_append_left h2]
  simp [List.getD, List.getElem?_eq_getElem h2]
theorem mem_dat (d S : List UInt8) {j : Nat} (h : j < d.length) (hn : 13 + j < (mem d S).length) : (mem d S)[13 + j] = d[j] := by
  unfold mem
  simp only [List.append_assoc]
  rw [List.getElem_append_right (by rw [HDR_len]; omega)]
  have : 13 + j - HDR.length = j := by rw [HDR_len]; omega
  simp only [this]
  rw [List.getElem_append_left h]
theorem mem_trl (d S : List UInt8) {t : Nat} (h : t < 8) (hn : 13 + d.length + t < (mem d S).length) : (mem d S)[13 + d.length + t] = (TRL S).getD t 0 := by
  have h2 : t < (TRL S).length := h
  unfold mem
  simp only [List.append_assoc]
  rw [List.getElem_append_right (by rw [HDR_len]; omega)]
  have : 13 + d.length + t - HDR.length = d.length + t := by rw [HDR_len]; omega
  simp only [this]
  rw [List.getElem_append_right (by omega)]
  simp only [show d.length + t - d.length = t by omega]
  simp [List.getD, List.getElem?_eq_getElem h2]
/-- One byte more. -/
theorem byte_rs {d S : List UInt8} {st : Nat → PS} (h : Along d S st) (n : Nat) (hn : n < (mem d S).length) : ∃ k o, Rs S k (phAt d st n) [(mem d S)[n]] (phAt d st (n + 1)) o ∧ outAt d S st (n + 1) = outAt d S st n ++ o := by
  have hp := h.pos
  have hlm := h.lim
  have hln := hn
  rw [mem_len] at hln
  by_cases h13 : n < 13
  · have hb := mem_hdr d S h13 hn
    rw [hb]
    by_cases h0 : n = 0
    · subst h0
      have e1 : phAt d st 0 = .idle := rfl
      have e2 : phAt d st (0 + 1) = .head (0 + 1) := rfl
      rw [e1, e2]
      exact ⟨2, _, .cons .begin (by simp) (.cons (.take (by omega)) (by simp) .nil), rfl⟩
    · have e1 : phAt d st n = .head n := by unfold phAt; rw [if_neg h0, if_pos h13]
      rw [e1]
      by_cases h12 : n = 12
      · subst h12
        have e2 : phAt d st (12 + 1) = .data 0 ps0 := by unfold phAt; rw [if_neg (by omega), if_neg (by omega), if_pos (by omega)]; rw [← h.zero]
        rw [e2]
        refine ⟨1, _, .cons .open_ (by simp) .nil, ?_⟩
        unfold outAt
        rw [if_neg (by omega), if_pos (by omega), if_pos (by omega), show 12 + 1 - 13 = 0 by omega, h.zero]
        rfl
      · have e2 : phAt d st (n + 1) = .head (n + 1) := by unfold phAt; rw [if_neg (by omega), if_pos (by omega)]
        rw [e2]
        refine ⟨1, _, .cons (.take (by omega)) (by simp) .nil, ?_⟩
        unfold outAt
        rw [if_pos (by omega), if_pos h13]
        rfl
  · by_cases hd : n - 13 < d.length
    · obtain ⟨j, rfl⟩ : ∃ j, n = 13 + j := ⟨n - 13, by omega⟩
      have hj : j < d.length := by omega
      have hb := mem_dat d S hj hn
      rw [hb]
      obtain ⟨q1, q2, q3⟩ := h.step j hj
      have e1 : phAt d st (13 + j) = .data j (st j) := by unfold phAt; rw [if_neg (by omega), if_neg (by omega), if_pos hd]; congr 2 <;> omega
      have o1 : outAt d S st (13 + j) = (st j).out := by unfold outAt; rw [if_neg (by omega), if_pos hd]; congr 2; omega
      rw [e1, o1]
      by_cases hl : j + 1 = d.length
      · have e2 : phAt d st (13 + j + 1) = .tail 0 := by unfold phAt; rw [if_neg (by omega), if_neg (by omega), if_neg (by omega)]; congr 1; omega
        have hS : (st (j + 1)).out = S := by rw [hl]; exact h.all
        rw [e2]
        refine ⟨1, _, .cons (.last q1 (by simp) (h.notfin hj) (q3.mpr hl) q2 hS (by simp; omega)) (by simp) .nil, ?_⟩
        unfold outAt
        rw [if_neg (by omega), if_neg (by omega), ← hS, q2, List.append_nil]
      · have e2 : phAt d st (13 + j + 1) = .data (j + 1) (st (j + 1)) := by unfold phAt; rw [if_neg (by omega), if_neg (by omega), if_pos (by omega)]; congr 2 <;> omega
        rw [e2]
        refine ⟨1, _, .cons (.infl q1 (by simp) (h.notfin hj) (fun e => hl (q3.mp e)) q2 (h.le hj) (by simp; omega)) (by simp) .nil, ?_⟩
        unfold outAt
        rw [if_neg (by omega), if_pos (by omega), show 13 + j + 1 - 13 = j + 1 by omega, q2, List.append_nil]
    · obtain ⟨t, rfl⟩ : ∃ t, n = 13 + d.length + t := ⟨n - 13 - d.length, by omega⟩
      have hb := mem_trl d S (t := t) (by omega) hn
      rw [hb]
      have e1 : phAt d st (13 + d.length + t) = .tail t := by unfold phAt; rw [if_neg (by omega), if_neg h13, if_neg hd]; congr 1; omega
      have e2 : phAt d st (13 + d.length + t + 1) = .tail (t + 1) := by unfold phAt; rw [if_neg (by omega), if_neg (by omega), if_neg (by omega)]; congr 1; omega
      rw [e1, e2]
      refine ⟨1, _, .cons (.end_ (by omega)) (by simp) .nil, ?_⟩
      unfold outAt
      rw [if_neg (by omega), if_neg (by omega), if_neg h13, if_neg hd]
      simp
theorem tail_rs {S : List UInt8} : ∀ (k t : Nat), t + k = 8 → Rs S k (.tail t) ((TRL S).drop t) (.tail 8) []
  | 0, t, ht => by
    obtain rfl : t = 8 := by omega
    exact .nil
  | k + 1, t, ht => by
    have h2 : t < (TRL S).length := by rw [TRL_len]; omega
    rw [List.drop_eq_getElem_cons h2, show (TRL S)[t] = (TRL S).getD t 0 by simp [List.getD, List.getElem?_eq_getElem h2]]
    exact .cons (.end_ (by omega)) (by simp) (tail_rs k (t + 1) (by omega))
theorem head_rs {S l : List UInt8} : ∀ (k p : Nat), p + k = 12 → ∀ {n : Nat} {o : List UInt8}, Rs S n (.data 0 ps0) l (.tail 8) o → Rs S (n + 1 + k) (.head p) (HDR.drop p ++ l) (.tail 8) o
  | 0, p, hp, n, o, h => by
    obtain rfl : p = 12 := by omega
    exact .cons .open_ (by simp [HDR]) h
  | k + 1, p, hp, n, o, h => by
    have h2 : p < HDR.length := by rw [HDR_len]; omega
    rw [List.drop_eq_getElem_cons h2, show HDR[p] = HDR.getD p 0 by simp [List.getD, List.getElem?_eq_getElem h2], List.cons_append]
    exact .cons (.take (by omega)) (by simp) (head_rs k (p + 1) (by omega) h)
/-- The whole member at once. -/
theorem whole_rs {d S : List UInt8} (h : Inflates d S) (hl : d.length ≤ 900000) : ∃ k, Rs S k .idle (mem d S) (.tail 8) S := by
  obtain ⟨h0, h⟩ := h
  obtain ⟨sf, h1, h2, h3, h4⟩ := h (TRL S)
  have k1 : Rs S 9 (.data 0 ps0) (d ++ TRL S) (.tail 8) S := by
    have := Rs.cons (Rd.last (S := S) (j := 0) (j' := d.length) (s := ps0) h1 (by simp [h0]) (by intro e; cases e) h2 (by rw [h3, h4]; rfl) h3 (by rw [List.length_append, TRL_len]; omega)) (by simp [h0]) (tail_rs 8 0 rfl)
    rw [h4, List.append_nil] at this
    exact this
  have k2 := head_rs 12 0 rfl k1
  refine ⟨9 + 1 + 12 + 1, ?_⟩
  rw [show mem d S = HDR.drop 0 ++ (d ++ TRL S) by unfold mem; rw [List.append_assoc]; rfl]
  exact .cons .begin (by simp) k2
end Go.Proofs.YthmhcnnigepohaaGreatDoor.En

/- gzip.Decoder: its state between two bytes; what its methods do to it. -/
namespace Go.Proofs.YthmhcnnigepohaaGreatDoor.En
open Go.RowKit
open If (Grows ORD Ost RepO ps0 ptr Feeds PS feedO grows0)
open Dg (BAt bcells)
set_option linter.unusedVariables false

def HeadAt (w : World) (Z : Nat) (G : List Nat) (p : Nat) : Prop :=
  ∃ g gn, GI w Z g ∧ HdOk p g ∧ g.out = 65536 ∧ g.within = true ∧ g.names = .slice none 0 0 ∧ g.sizes = .slice none 0 0 ∧ BAt w g.name gn (hName p) ∧ (∀ b, gn = some b → b ≠ Z ∧ b ∈ G) ∧ Z ∈ G ∧ In w G
/-- The decoder; G: the blocks that are its own. -/
def GRep (w : World) (Z : Nat) (G : List Nat) (S : List UInt8) : Ph → Prop
  | .idle => GI w Z gv0 ∧ Z ∈ G ∧ In w G
  | .head p => p < 13 ∧ HeadAt w Z G p
  | .data j s => ∃ g D O bn bs r, GI w Z g ∧ g.part = 8 ∧ g.within = true ∧ g.data = ptr D ∧ g.crc = crcN s.out ∧ g.size = s.out.length ∧ g.trl = ⟨#[]⟩ ∧ g.out = 65536 - s.out.length ∧ NmAt w g.names bn inS ∧ Hf.NAt w g.sizes (some bs) [s.out.length] ∧ RepO w D O j r s ∧
      Z ∉ O ∧ bs ∉ O ∧ bn ∉ O ∧ bn ≠ Z ∧ bn ≠ bs ∧ bn ∈ G ∧ bs ∈ G ∧ (∀ b ∈ O, b ∈ G) ∧ Z ∈ G ∧ In w G
  | .tail t => t ≤ 8 ∧ ∃ g bn bs, GI w Z g ∧ g.part = 8 ∧ g.within = decide (t < 8) ∧ g.data = .pointer none ∧ g.crc = crcN S ∧ g.size = S.length ∧ g.trl = trS S t ∧ NmAt w g.names bn inS ∧ Hf.NAt w g.sizes (some bs) [S.length] ∧
      bn ≠ Z ∧ bs ≠ Z ∧ bn ∈ G ∧ bs ∈ G ∧ Z ∈ G ∧ In w G
theorem nat_ne {w : World} {Z b n : Nat} {g : GV} {v : Value} (h : GI w Z g) (hz : Hf.NAt w v (some b) [n]) : b ≠ Z := by
  rintro rfl
  obtain ⟨off, cap, cur, e1, e2, _⟩ := nat1 hz
  rw [h] at e2
  injection e2 with e2; injection e2 with _ e2 _; cases e2
theorem nm_ne {w : World} {Z b : Nat} {g : GV} {v : Value} {s : ByteArray} (h : GI w Z g) (hz : NmAt w v b s) : b ≠ Z := by
  rintro rfl
  obtain ⟨cur, e2⟩ := SlAt.lt hz _ rfl
  rw [h] at e2
  injection e2 with e2; injection e2 with _ e2 _; cases e2
theorem slat_some {e : TypeId} {n k b : Nat} {w w' : World} {v : Value} {xs : List Value} {S : List Nat} (h : SlAt e n w v (some b) k xs) (hf : Fr S w w') (hb : b ∉ S) : SlAt e n w' v (some b) k xs := SlAt.fr h hf (fun x hx => by injection hx with hx; rw [← hx]; exact hb)
theorem GRep.mem {w : World} {Z : Nat} {G : List Nat} {S : List UInt8} {φ : Ph} (h : GRep w Z G S φ) : Z ∈ G ∧ In w G := by
  cases φ with
  | idle => exact h.2
  | head p => obtain ⟨h0, g, gn, h1, h2, h3, h4, h5, h6, h7, h8, h9⟩ := h; exact h9
  | data j s => obtain ⟨g, D, O, bn, bs, r, h1, h2, h3, h4, h5, h6, h7, h8, h9, h10, h11, h12, h13, h14, h15, h16, h17, h18, h19, h20⟩ := h; exact h20
  | tail t => obtain ⟨h0, g, bn, bs, h1, h2, h3, h4, h5, h6, h7, h8, h9, h10, h11, h12, h13, h14⟩ := h; exact h14
theorem GRep.fr {w w' : World} {Z : Nat} {G T : List Nat} {S : List UInt8} {φ : Ph} (h : GRep w Z G S φ) (hf : Fr T w w') (hT : ∀ b ∈ G, b ∉ T) : GRep w' Z G S φ := by
  cases φ with
  | idle => exact ⟨h.1.fr hf (hT Z h.2.1), h.2.1, h.2.2.fr hf⟩
  | head p =>
    obtain ⟨h0, g, gn, h1, h2, h3, h4, h5, h6, h7, h8, h9, h10⟩ := h
    exact ⟨h0, g, gn, h1.fr hf (hT Z h9), h2, h3, h4, h5, h6, SlAt.fr h7 hf (fun b hb => hT b (h8 b hb).2), h8, h9, h10.fr hf⟩
  | data j s =>
    obtain ⟨g, D, O, bn, bs, r, h1, h2, h3, h4, h5, h6, h7, h8, h9, h10, h11, h12, h13, h14, h15, h16, h17, h18, h19, h20, h21⟩ := h
    exact ⟨g, D, O, bn, bs, r, h1.fr hf (hT Z h20), h2, h3, h4, h5, h6, h7, h8, slat_some h9 hf (hT bn h17), slat_some h10 hf (hT bs h18), h11.fr hf (fun b hb => hT b (h19 b hb)), h12, h13, h14, h15, h16, h17, h18, h19, h20, h21.fr hf⟩
  | tail t =>
    obtain ⟨h0, g, bn, bs, h1, h2, h3, h4, h5, h6, h7, h8, h9, h10, h11, h12, h13, h14, h15⟩ := h
    exact ⟨h0, g, bn, bs, h1.fr hf (hT Z h14), h2, h3, h4, h5, h6, h7, slat_some h8 hf (hT bn h12), slat_some h9 hf (hT bs h13), h10, h11, h12, h13, h14, h15.fr hf⟩

/-- New. -/
theorem gnew_rep (S : List UInt8) (w : World) : Calls Tryz.prog 106 #[.agg #[.int .i64 65536, .int .i64 1100]] w fun e w' => ∃ Z, e = .returned (.pointer (some ⟨Z, 0, none⟩)) ∧ w.heap.size ≤ Z ∧ GRep w' Z [Z] S .idle ∧ Fr [] w w' := by
  refine (gnew106_any w).mono ?_
  rintro e w' ⟨Z, rfl, h1, h2, h3⟩
  exact ⟨Z, rfl, h1, ⟨h2, by simp, fun b hb => by simp at hb; rw [hb]; exact h2.lt⟩, h3⟩
theorem begin_rep {Z : Nat} {G : List Nat} {S : List UInt8} {w : World} (h : GRep w Z G S .idle) : Calls Tryz.prog 114 #[.pointer (some ⟨Z, 0, none⟩), .int .u8 31] w fun e w' => e = .returned (.int .i64 0) ∧ GRep w' Z G S (.head 0) ∧ Fr G w w' := by
  obtain ⟨h1, h2, h3⟩ := h
  refine (begin114_any Z gv0 w h1 rfl).mono ?_
  rintro e w' ⟨rfl, hg, hf⟩
  have hfG : Fr G w w' := hf.sub (fun b hb => by simp at hb; rw [hb]; exact h2)
  exact ⟨rfl, ⟨by omega, _, none, hg, ⟨rfl, rfl, rfl, rfl, by decide, by decide⟩, rfl, rfl, rfl, rfl, SlAt.nil_ _, by simp, h2, h3.fr hf⟩, hfG⟩
theorem take_grep {Z p : Nat} {G : List Nat} {w : World} (hp : p < 13) (h : HeadAt w Z G p) : Calls Tryz.prog 115 #[.pointer (some ⟨Z, 0, none⟩), .int .u8 ((HDR.getD p 0).toNat : Int)] w fun e w' => e = .returned (.int .i64 0) ∧ ∃ G', HeadAt w' Z G' (p + 1) ∧ Grows w G G' ∧ Fr G w w' := by
  obtain ⟨g, gn, h1, h2, h3, h4, h5, h6, h7, h8, h9, h10⟩ := h
  refine (take115_any Z p g gn w hp h1 h2 h7 (fun b hb => (h8 b hb).1)).mono ?_
  rintro e w' ⟨rfl, sum, name, gn', hg, hs0, hs1, hb, hn, hf⟩
  have hfG : Fr G w w' := hf.sub (fun b hb => by
    rw [List.mem_cons] at hb
    rcases hb with rfl | hb
    · exact h9
    · cases gn with
      | none => simp at hb
      | some x => simp at hb; subst hb; exact (h8 _ rfl).2)
  refine ⟨rfl, gn'.toList ++ G, ⟨_, gn', hg, ⟨rfl, rfl, rfl, h2.extra, hs0, hs1⟩, h3, h4, h5, h6, hb, fun b hb' => ⟨(hn b hb').1, by rw [hb']; simp⟩, by simp [h9], fun b hb' => ?_⟩, fun b hb' => ?_, hfG⟩
  · rw [List.mem_append] at hb'
    rcases hb' with hb' | hb'
    · cases gn' with
      | none => simp at hb'
      | some x => simp at hb'; subst hb'; exact If.bat_lt hb _ rfl
    · exact Nat.lt_of_lt_of_le (h10 b hb') hf.size
  · rw [List.mem_append] at hb'
    rcases hb' with hb' | hb'
    · cases gn' with
      | none => simp at hb'
      | some x =>
        simp at hb'; subst hb'
        rcases (hn _ rfl).2 with h | h
        · exact .inl (h8 _ h).2
        · exact .inr h
    · exact .inl hb'
theorem open_rep {Z : Nat} {G : List Nat} {S : List UInt8} {w : World} (h : HeadAt w Z G 13) : Calls Tryz.prog 116 #[.pointer (some ⟨Z, 0, none⟩)] w fun e w' => e = .returned (.tuple #[]) ∧ ∃ G', GRep w' Z G' S (.data 0 ps0) ∧ Grows w G G' ∧ Fr G w w' := by
  obtain ⟨g, gn, h1, h2, h3, h4, h5, h6, h7, h8, h9, h10⟩ := h
  refine (open116_any Z g gn w h1 h3 h5 h6 h7 (fun b hb => (h8 b hb).1)).mono ?_
  rintro e w' ⟨rfl, D, O, bn, bs, nv, sv, k1, k2, k3, k4, k5, k6, k7, k8, k9, k10, k11⟩
  have hZ := h1.lt
  refine ⟨rfl, bn :: bs :: (O ++ G), ⟨_, D, O, bn, bs, _, k1, h2.part, h4, rfl, ?_, rfl, rfl, ?_, k2, k3, k4, fun hm => ?_, k10, k9, by omega, k8, by simp, by simp, fun b hb => by simp [hb], by simp [h9], fun b hb => ?_⟩, fun b hb => ?_, k11.sub (fun b hb => by simp at hb; rw [hb]; exact h9)⟩
  · show (0 : Int) = _
    rw [crcN_int]
    decide
  · show g.out = _
    rw [h3]; rfl
  · have := k5 _ hm; omega
  · simp only [List.mem_cons, List.mem_append] at hb
    rcases hb with rfl | rfl | hb | hb
    · obtain ⟨cur, hc⟩ := SlAt.lt k2 _ rfl; exact lt_of_blk hc
    · obtain ⟨cur, hc⟩ := SlAt.lt k3 _ rfl; exact lt_of_blk hc
    · exact k4.lt b hb
    · exact Nat.lt_of_lt_of_le (h10 b hb) k11.size
  · simp only [List.mem_cons, List.mem_append] at hb
    rcases hb with rfl | rfl | hb | hb
    · exact .inr k6
    · exact .inr k7
    · exact .inr (k5 b hb)
    · exact .inl hb
/-- What inflate leaves: data, or the trailer. -/
def phInf (j' : Nat) (s' : PS) : Ph := if s'.k.isFin then .tail 0 else .data j' s'
theorem infl_rep {Z j j' : Nat} {G : List Nat} {S l' : List UInt8} {p : ByteArray} {s s' : PS} {w : World} (h : GRep w Z G S (.data j s)) (hk : s.k ≠ .fin) (hF : Feeds (j : Nat) p.data.toList { s with fresh := [] } (j' : Nat) l' s') (hj : j + p.size ≤ 1000000)
    (ho : s'.out = s.out ++ s'.fresh) (hS : s'.out.length ≤ 65535) (hfin : s'.k.isFin = true → s'.out = S) (hO : Ost w) (h0 : 0 ∉ G) :
    Calls Tryz.prog 117 #[.pointer (some ⟨Z, 0, none⟩), .string p] w fun e w' => e = .returned (.tuple #[.string ⟨s'.fresh.toArray⟩, .string (if s'.k.isFin then ⟨l'.toArray⟩ else ⟨#[]⟩), .int .i64 0]) ∧ ∃ G', GRep w' Z G' S (phInf j' s') ∧ Grows w G G' ∧ Fr G w w' := by
  obtain ⟨g, D, O, bn, bs, r, h1, h2, h3, h4, h5, h6, h7, h8, h9, h10, h11, h12, h13, h14, h15, h16, h17, h18, h19, h20, h21⟩ := h
  refine (inflate117_any Z D bs j j' O r p g s.out l' s s' w h1 h4 h5 h6 h8 h10 h11 hk hF hj (by rw [ho, List.length_append] at hS; exact hS) hO (fun hm => h0 (h19 0 hm)) h12 h13).mono ?_
  rintro e w' ⟨he, hg, hz, ⟨O', r', hr, hgr, hZ', hbs'⟩, hf⟩
  rw [← ho] at hg hz
  have hfG : Fr G w w' := hf.sub (fun b hb => by
    simp only [List.mem_cons] at hb
    rcases hb with rfl | rfl | hb
    · exact h20
    · exact h18
    · exact h19 b hb)
  have hbnl : bn < w.heap.size := by obtain ⟨cur, hc⟩ := SlAt.lt h9 _ rfl; exact lt_of_blk hc
  have hnm : NmAt w' g.names bn inS := slat_some h9 hf (by simp [h15, h16, h14])
  have hbsZ : bs ≠ Z := nat_ne hg hz
  refine ⟨he, O' ++ G, ?_, fun b hb => ?_, hfG⟩
  · have hin : In w' (O' ++ G) := fun b hb => by
      rw [List.mem_append] at hb
      rcases hb with hb | hb
      · exact hr.lt b hb
      · exact Nat.lt_of_lt_of_le (h21 b hb) hf.size
    unfold phInf
    cases hb : s'.k.isFin
    · rw [hb] at hg
      exact ⟨_, D, O', bn, bs, r', hg, h2, h3, rfl, rfl, rfl, h7, by show g.out - _ = _; rw [h8, ho, List.length_append]; omega, hnm, hz, hr, hZ', hbs', grows_not hgr hbnl h14, h15, h16, by simp [h17], by simp [h18], fun b hb => by simp [hb], by simp [h20], hin⟩
    · rw [hb] at hg
      have hS' := hfin hb
      rw [hS'] at hg hz
      exact ⟨by omega, _, bn, bs, hg, h2, h3, rfl, rfl, rfl, h7, hnm, hz, h15, hbsZ, by simp [h17], by simp [h18], by simp [h20], hin⟩
  · rw [List.mem_append] at hb
    rcases hb with hb | hb
    · exact (hgr b hb).imp (h19 b) id
    · exact .inl hb
theorem end_rep {Z t : Nat} {G : List Nat} {S : List UInt8} {w : World} (ht : t < 8) (hS : S.length ≤ 65535) (h : GRep w Z G S (.tail t)) : Calls Tryz.prog 119 #[.pointer (some ⟨Z, 0, none⟩), .int .u8 (((TRL S).getD t 0).toNat : Int)] w fun e w' => e = .returned (.int .i64 0) ∧ GRep w' Z G S (.tail (t + 1)) ∧ Fr G w w' := by
  obtain ⟨h0, g, bn, bs, h1, h2, h3, h4, h5, h6, h7, h8, h9, h10, h11, h12, h13, h14, h15⟩ := h
  refine (end119_any Z t g S w ht h1 h7 h5 h6 (by omega)).mono ?_
  rintro e w' ⟨rfl, hg, hf⟩
  refine ⟨rfl, ⟨by omega, _, bn, bs, hg, h2, ?_, h4, h5, h6, rfl, slat_some h8 hf (by simpa using h10), slat_some h9 hf (by simpa using h11), h10, h11, h12, h13, h14, h15.fr hf⟩, hf.sub (fun b hb => by simp at hb; rw [hb]; exact h14)⟩
  show (if t = 7 then false else g.within) = _
  by_cases h7 : t = 7
  · subst h7; rfl
  · rw [if_neg h7, h3]
    simp only [decide_eq_decide]
    omega
end Go.Proofs.YthmhcnnigepohaaGreatDoor.En

/- gzip.Decoder.Feed. -/
namespace Go.Proofs.YthmhcnnigepohaaGreatDoor.En
open Go.RowKit
open If (Grows ORD Ost RepO ps0 ptr Feeds PS feedO grows0)
open Dg (BAt bcells)
set_option linter.unusedVariables false

def GFeedPost (Z : Nat) (G : List Nat) (S : List UInt8) (φ' : Ph) (o : List UInt8) (w : World) (e : Ending) (w' : World) : Prop :=
  e = .returned (.tuple #[.string ⟨o.toArray⟩, .int .i64 0]) ∧ ∃ G', GRep w' Z G' S φ' ∧ Grows w G G' ∧ Fr G w w'
theorem feeds_len {x y : Int} {l l' : List UInt8} {s s' : PS} (h : Feeds x l s y l' s') : l'.length ≤ l.length := by
  induction h with
  | nil => exact Nat.le_refl _
  | fin h hf => simp
  | more h hf k ih => simp only [List.length_cons]; omega
theorem Rd.data_inv {S p l1 o1 : List UInt8} {j : Nat} {s : PS} {φ1 : Ph} (h : Rd S (.data j s) p φ1 l1 o1) : ∃ (j' : Nat) (s' : PS) (l' : List UInt8), Feeds (j : Nat) p { s with fresh := [] } (j' : Nat) l' s' ∧ s.k ≠ .fin ∧ j + p.length ≤ 1000000 ∧ s'.out = s.out ++ s'.fresh ∧ s'.out.length ≤ S.length ∧
    (s'.k.isFin = true → s'.out = S) ∧ φ1 = phInf j' s' ∧ l1 = (if s'.k.isFin then l' else []) ∧ o1 = s'.fresh := by
  cases h with
  | infl h h0 h1 h2 h3 h4 h5 =>
    have hb := If.notfin h2
    refine ⟨_, _, _, h, h1, h5, h3, h4, fun e => ?_, ?_, ?_, rfl⟩
    · rw [hb] at e; cases e
    · unfold phInf; rw [hb]; rfl
    · rw [hb]; rfl
  | last h h0 h1 h2 h3 h4 h5 =>
    refine ⟨_, _, _, h, h1, h5, h3, by rw [h4]; exact Nat.le_refl _, fun e => h4, ?_, ?_, rfl⟩
    · unfold phInf; rw [h2]; rfl
    · rw [h2]; rfl
theorem GRep.gi {w : World} {Z : Nat} {G : List Nat} {S : List UInt8} {φ : Ph} (h : GRep w Z G S φ) : ∃ g, GI w Z g ∧ match φ with
    | .idle => g.within = false
    | .head p => p < 13 ∧ g.within = true ∧ g.part = hPart p
    | .data j s => g.within = true ∧ g.part = 8 ∧ ∃ D, g.data = ptr D
    | .tail t => g.within = decide (t < 8) ∧ g.part = 8 ∧ g.data = .pointer none := by
  cases φ with
  | idle => exact ⟨gv0, h.1, rfl⟩
  | head p => obtain ⟨h0, g, gn, h1, h2, h3, h4, h5, h6, h7, h8, h9⟩ := h; exact ⟨g, h1, h0, h4, h2.part⟩
  | data j s => obtain ⟨g, D, O, bn, bs, r, h1, h2, h3, h4, h5⟩ := h; exact ⟨g, h1, h3, h2, D, h4⟩
  | tail t => obtain ⟨h0, g, bn, bs, h1, h2, h3, h4, h5⟩ := h; exact ⟨g, h1, h3, h2, h4⟩
theorem hPart_lt {p : Nat} (h : p < 13) : hPart p < 8 := by unfold hPart; (repeat' split) <;> omega
theorem Rs.nil_inv {S o : List UInt8} {n : Nat} {φ φ' : Ph} (h : Rs S n φ [] φ' o) : φ' = φ ∧ o = [] := by
  cases h with
  | nil => exact ⟨rfl, rfl⟩
  | cons h h0 k => exact absurd rfl h0
theorem Rs.cons_inv {S o l : List UInt8} {n : Nat} {φ φ' : Ph} (h : Rs S n φ l φ' o) (hl : l ≠ []) : ∃ m φ1 l1 o1 o2, n = m + 1 ∧ Rd S φ l φ1 l1 o1 ∧ Rs S m φ1 l1 φ' o2 ∧ o = o1 ++ o2 := by
  cases h with
  | nil => exact absurd rfl hl
  | cons h h0 k => exact ⟨_, _, _, _, _, rfl, h, k, rfl⟩

/-- The loop's worlds: the builder, at block M, beside what the decoder owns. -/
structure FInv (w : World) (G : List Nat) (M : Nat) (wr : World) (G' : List Nat) (gb : Option Nat) (L : List UInt8) : Prop where
  bld : Bld wr M gb L
  new : w.heap.size ≤ M
  off : M ∉ G'
  row : ∀ x, gb = some x → x ∉ G' ∧ w.heap.size ≤ x
  grows : Grows w G G'
  fr : Fr G w wr
theorem FInv.step {w wr wr2 : World} {G G' G2 : List Nat} {M : Nat} {gb : Option Nat} {L : List UInt8} (h : FInv w G M wr G' gb L) (hg : Grows wr G' G2) (hf : Fr G' wr wr2) : FInv w G M wr2 G2 gb L :=
  ⟨h.bld.fr hf h.off (fun x hx => (h.row x hx).1), h.new, grows_not hg h.bld.lt h.off, fun x hx => ⟨grows_not hg (h.bld.glt x hx) (h.row x hx).1, (h.row x hx).2⟩, h.grows.trans hg h.fr.size, h.fr.thru h.grows hf⟩
theorem FInv.write {w wr wr2 : World} {G G' : List Nat} {M Z : Nat} {gb gb2 : Option Nat} {L L2 S : List UInt8} {φ : Ph} (h : FInv w G M wr G' gb L) (hr : GRep wr Z G' S φ) (hb : Bld wr2 M gb2 L2) (hn : ∀ x, gb2 = some x → gb = some x ∨ wr.heap.size ≤ x) (hf : Fr (M :: gb.toList) wr wr2) :
    FInv w G M wr2 G' gb2 L2 ∧ GRep wr2 Z G' S φ := by
  have hT : ∀ b ∈ G', b ∉ M :: gb.toList := fun b hb' hm => by
    rw [List.mem_cons] at hm
    rcases hm with rfl | hm
    · exact h.off hb'
    · cases gb with
      | none => simp at hm
      | some x => simp at hm; subst hm; exact (h.row _ rfl).1 hb'
  have hin := hr.mem.2
  have hs := h.fr.size
  refine ⟨⟨hb, h.new, h.off, fun x hx => ?_, h.grows, h.fr.andThen hf (fun x hx => .inr ?_)⟩, hr.fr hf hT⟩
  · rcases hn x hx with h1 | h1
    · exact h.row x h1
    · exact ⟨fun hm => by have := hin x hm; omega, by omega⟩
  · rw [List.mem_cons] at hx
    rcases hx with rfl | hx
    · exact h.new
    · cases gb with
      | none => simp at hx
      | some y => simp at hx; subst hx; exact (h.row _ rfl).2
theorem ba_cons {t : ByteArray} {c : UInt8} {l : List UInt8} (h : t.data.toList = c :: l) : ∃ h0 : 0 < t.size, t[0]'h0 = c ∧ (t.extract 1 t.size).data.toList = l ∧ (t.extract 1 t.size).size ≤ t.size := by
  obtain ⟨d⟩ := t
  obtain ⟨L⟩ := d
  simp only at h
  subst h
  refine ⟨by simp [ByteArray.size], rfl, ?_, ?_⟩
  · show (ByteArray.extract _ 1 _).data.toList = l
    simp [ByteArray.size]
  · simp [ByteArray.size_extract]
theorem ba_nil {t : ByteArray} (h : t.data.toList = []) : t = ⟨#[]⟩ := by
  apply ByteArray.ext
  apply Array.ext'
  exact h

set_option maxRecDepth 100000 in
set_option maxHeartbeats 16000000 in
theorem feed109_any (Z : Nat) (G : List Nat) (S o : List UInt8) (φ φ' : Ph) (n : Nat) (s : ByteArray) (w : World) (h : GRep w Z G S φ) (hR : Rs S n φ s.data.toList φ' o) (hS : S.length ≤ 65535) (hs : s.size ≤ 1000000) (hol : o.length ≤ 1000000) (hO : Ost w) (h0 : 0 ∉ G) :
    Calls Tryz.prog 109 #[.pointer (some ⟨Z, 0, none⟩), .string s] w (GFeedPost Z G S φ' o w) := by
  have HR := hide hR
  have HO := hide hO
  have H0 := hide h0
  have HS := hide hS
  have HOL := hide hol
  obtain ⟨g0, hg0, -⟩ := h.gi
  have hl := hg0.lt
  have c14 : w.cell? ⟨Z, 14, none⟩ = some (.bool false) := cell_blk hg0 14
  obtain ⟨M, hM⟩ : ∃ M, M = w.heap.size := ⟨_, rfl⟩
  have HFI : Hid (FInv w G M (w.alloc (.cells #[.pointer none, .slice none 0 0] 184)) G none [] ∧ GRep (w.alloc (.cells #[.pointer none, .slice none 0 0] 184)) Z G S φ) := by
    have hf : Fr [] w (w.alloc (.cells #[.pointer none, .slice none 0 0] 184)) := (Fr.refl [] w).alloc _
    refine hide ⟨⟨by rw [hM]; exact Bld.new, by omega, fun hm => ?_, by simp, Grows.refl _ _, hf.mono (by simp)⟩, h.fr hf (by simp)⟩
    have := h.mem.2 _ hm
    omega
  have HM := hide hM
  clear h hR hO h0 hS hol hg0 hM
  go_enter Tryz.func109, Tryz.ntmps109
  go_wp2_with fail
  rw [← HM.out]
  go_loopg [1] (n + 1) (fun gk sv wr => ∃ (m : Nat) (ψ : Ph) (t : ByteArray) (G' : List Nat) (L o' : List UInt8) (gb : Option Nat), gk = m + 1 ∧ sv = .string t ∧ t.size ≤ 1000000 ∧ GRep wr Z G' S ψ ∧ Rs S m ψ t.data.toList φ' o' ∧ L ++ o' = o ∧ FInv w G M wr G' gb L)
  case atStart =>
    exact ⟨n, φ, s, G, [], o, none, rfl, rfl, hs, HFI.out.2, HR.out, rfl, HFI.out.1⟩
  case round =>
    obtain ⟨m, ψ, t, G', L, o', gb, hgk, rfl, ht, hg, hrs, hlo, hfi⟩ := hrel
    have HGK := hide hgk
    have HG := hide hg
    have HLO := hide hlo
    have HFI2 := hide hfi
    have HOW : Hid (Ost wr) := hide (HO.out.fr hfi.fr H0.out)
    have H0G : Hid (0 ∉ G') := hide (fun hm => by
      rcases hfi.grows 0 hm with h | h
      · exact H0.out h
      · omega)
    have hLl : L.length ≤ 1000000 := by
      have := HOL.out
      rw [← hlo, List.length_append] at this
      omega
    obtain ⟨g1, hg1, hph⟩ := hg.gi
    have hlr := hg1.lt
    have hMl := hfi.bld.lt
    clear hgk hlo
    cases hlist : t.data.toList with
    | nil =>
      obtain rfl := ba_nil hlist
      obtain ⟨rfl, rfl⟩ := Rs.nil_inv hrs
      have H120 := hide (string120_any M gb L wr hfi.bld (by omega))
      have HRES : Hid (∀ w', Fr gb.toList wr w' → GFeedPost Z G S φ' o w (.returned (.tuple #[.string ⟨L.toArray⟩, .int .i64 0])) w') := by
        refine hide fun w' hf => ?_
        have hlo := HLO.out
        rw [List.append_nil] at hlo
        subst hlo
        have hT : ∀ b ∈ G', b ∉ gb.toList := fun b hb hm => by
          cases gb with
          | none => simp at hm
          | some x => simp at hm; subst hm; exact (HFI2.out.row _ rfl).1 hb
        refine ⟨rfl, G', HG.out.fr hf hT, HFI2.out.grows, HFI2.out.fr.andThen hf (fun x hx => .inr ?_)⟩
        cases gb with
        | none => simp at hx
        | some y => simp at hx; subst hx; exact (HFI2.out.row _ rfl).2
      clear hg hrs hfi hg1 hph hlist
      go_wp2_with fail
      refine (unhide H120).mono ?_
      rintro e w2 ⟨rfl, hf2⟩
      have HR2 := hide (HRES.out w2 hf2)
      clear hf2
      go_wp2_with fail
      go_ret2
      exact HR2.out
    | cons c l =>
      obtain ⟨h0t, hc0, hrest, hrsz⟩ := ba_cons hlist
      rw [hlist] at hrs
      obtain ⟨m', φ1, l1, o1, o2, rfl, hrd, hrs2, ho'⟩ := Rs.cons_inv hrs (by simp)
      have hte : t.toList.isEmpty = false := by rw [Lib.toList_data, hlist]; rfl
      have HLS := hide hlist
      have HRS2 := hide hrs2
      have HOO := hide ho'
      clear hrs hrs2 ho' hlist
      cases ψ with
      | idle =>
        obtain ⟨hcv, hl1, hφ, ho1⟩ : c = 31 ∧ l1 = c :: l ∧ φ1 = .head 0 ∧ o1 = [] := by cases hrd; exact ⟨rfl, rfl, rfl, rfl⟩
        have hwi : g1.within = false := hph
        have c13 : wr.cell? ⟨Z, 13, none⟩ = some (.bool false) := by rw [cell_blk hg1]; show some (Value.bool g1.within) = _; rw [hwi]
        have H114 := begin_rep hg
        rw [show (31 : Int) = ((t[0]'h0t).toNat : Int) by rw [hc0, hcv]; rfl] at H114
        have H114 := hide H114
        clear hg hfi hg1 hph hwi hrd hc0
        go_wp2_with fail
        refine (unhide H114).mono ?_
        rintro e w2 ⟨rfl, hg2, hf2⟩
        have HRES : Hid (∃ (m : Nat) (ψ : Ph) (t' : ByteArray) (G' : List Nat) (L o' : List UInt8) (gb : Option Nat), m' + 1 = m + 1 ∧ Value.string t = .string t' ∧ t'.size ≤ 1000000 ∧ GRep w2 Z G' S ψ ∧ Rs S m ψ t'.data.toList φ' o' ∧ L ++ o' = o ∧ FInv w G M w2 G' gb L) := by
          refine hide ⟨m', φ1, t, G', L, o2, gb, rfl, rfl, ht, by rw [hφ]; exact hg2, ?_, ?_, HFI2.out.step (Grows.refl _ _) hf2⟩
          · rw [HLS.out, ← hl1]; exact HRS2.out
          · rw [← HLO.out, HOO.out, ho1]; rfl
        clear hg2 hf2
        go_wp2_with fail
        go_roundg (m' + 1)
        case measure => have := HGK.out; omega
        case rel => exact HRES.out
      | head p =>
        obtain ⟨hp13, hwi, hpt⟩ := hph
        have c13 : wr.cell? ⟨Z, 13, none⟩ = some (.bool true) := by rw [cell_blk hg1]; show some (Value.bool g1.within) = _; rw [hwi]
        have hp8 := hPart_lt hp13
        obtain ⟨pp, hpp⟩ : ∃ pp, pp = hPart p := ⟨_, rfl⟩
        rw [← hpp] at hp8
        have c0 : wr.cell? ⟨Z, 0, none⟩ = some (.int .i64 (pp : Int)) := by rw [cell_blk hg1]; show some (Value.int .i64 g1.part) = _; rw [hpt, hpp]
        have hcv : c = HDR.getD p 0 ∧ l1 = l ∧ o1 = [] ∧ ((p < 12 ∧ φ1 = .head (p + 1)) ∨ (p = 12 ∧ φ1 = .data 0 ps0)) := by
          cases hrd with
          | take h => exact ⟨rfl, rfl, rfl, .inl ⟨h, rfl⟩⟩
          | open_ => exact ⟨rfl, rfl, rfl, .inr ⟨rfl, rfl⟩⟩
        obtain ⟨hcv, hl1, ho1, hφ⟩ := hcv
        have hgd : GRep wr.drew Z G' S (.head p) := hg.fr (Fr.refl [] wr).drew (by simp)
        have H115 := take_grep hp13 hgd.2
        rw [← hcv, ← hc0] at H115
        have H115 := hide H115
        have HPH := hide hφ
        have HL1 := hide (And.intro hl1 ho1)
        have HRST := hide hrest
        clear hg hfi hg1 hwi hrd hc0 hcv hl1 ho1 hφ hgd hpt hpp hrest
        go_wp2_with fail
        go_region_held3 (fun W => True) (trivial) (first | ((with_reducible refine (unhide H115).mono ?_); rintro e w2 ⟨rfl, G2, hh, hgr2, hf2⟩))
        have hf2 : Fr G' wr w2 := (((Fr.refl [] wr).drew).mono (by simp)).trans hf2
        have hgr2 : Grows wr G' G2 := hgr2
        have HH2 := hide hh
        have HGR2 := hide hgr2
        have HF2 := hide hf2
        obtain ⟨g2, gn2, k1, k2, -⟩ := hh
        have hl2 := k1.lt
        rcases HPH.out with ⟨hp, hφ⟩ | ⟨hp, hφ⟩
        · obtain ⟨p2, hp2⟩ : ∃ q, q = hPart (p + 1) := ⟨_, rfl⟩
          have hp28 : p2 < 8 := by rw [hp2]; exact hPart_lt (by omega)
          have d0 : w2.cell? ⟨Z, 0, none⟩ = some (.int .i64 (p2 : Int)) := by rw [cell_blk k1]; show some (Value.int .i64 g2.part) = _; rw [k2.part, hp2]
          have hne : ((p2 : Int) == 8) = false := by simp; omega
          have HRES : Hid (∃ (m : Nat) (ψ : Ph) (t' : ByteArray) (G' : List Nat) (L o' : List UInt8) (gb : Option Nat), m' + 1 = m + 1 ∧ Value.string (t.extract 1 t.size) = .string t' ∧ t'.size ≤ 1000000 ∧ GRep w2 Z G' S ψ ∧ Rs S m ψ t'.data.toList φ' o' ∧ L ++ o' = o ∧ FInv w G M w2 G' gb L) := by
            refine hide ⟨m', φ1, _, G2, L, o2, gb, rfl, rfl, by omega, by rw [hφ]; exact ⟨by omega, HH2.out⟩, ?_, ?_, HFI2.out.step HGR2.out HF2.out⟩
            · rw [HRST.out, ← HL1.out.1]; exact HRS2.out
            · rw [← HLO.out, HOO.out, HL1.out.2]; rfl
          clear k1 k2 hgr2 hf2 hp2 hφ
          go_wp2_with fail
          go_roundg (m' + 1)
          case measure => have := HGK.out; omega
          case rel => exact HRES.out
        · subst hp
          have d0 : w2.cell? ⟨Z, 0, none⟩ = some (.int .i64 8) := by rw [cell_blk k1]; show some (Value.int .i64 g2.part) = _; rw [k2.part]; rfl
          have H116 := hide (open_rep (S := S) HH2.out)
          clear k1 k2 hgr2 hf2
          go_wp2_with fail
          refine (unhide H116).mono ?_
          rintro e w3 ⟨rfl, G3, hg3, hgr3, hf3⟩
          have HRES : Hid (∃ (m : Nat) (ψ : Ph) (t' : ByteArray) (G' : List Nat) (L o' : List UInt8) (gb : Option Nat), m' + 1 = m + 1 ∧ Value.string (t.extract 1 t.size) = .string t' ∧ t'.size ≤ 1000000 ∧ GRep w3 Z G' S ψ ∧ Rs S m ψ t'.data.toList φ' o' ∧ L ++ o' = o ∧ FInv w G M w3 G' gb L) := by
            refine hide ⟨m', φ1, _, G3, L, o2, gb, rfl, rfl, by omega, by rw [hφ]; exact hg3, ?_, ?_, (HFI2.out.step HGR2.out HF2.out).step hgr3 hf3⟩
            · rw [HRST.out, ← HL1.out.1]; exact HRS2.out
            · rw [← HLO.out, HOO.out, HL1.out.2]; rfl
          clear hg3 hgr3 hf3 hφ
          go_wp2_with fail
          go_roundg (m' + 1)
          case measure => have := HGK.out; omega
          case rel => exact HRES.out
      | data j q =>
        obtain ⟨hwi, hpt, D, hdt⟩ := hph
        have c13 : wr.cell? ⟨Z, 13, none⟩ = some (.bool true) := by rw [cell_blk hg1]; show some (Value.bool g1.within) = _; rw [hwi]
        have c0 : wr.cell? ⟨Z, 0, none⟩ = some (.int .i64 8) := by rw [cell_blk hg1]; show some (Value.int .i64 g1.part) = _; rw [hpt]
        have c9 : wr.cell? ⟨Z, 9, none⟩ = some (.pointer (some ⟨D, 0, none⟩)) := by rw [cell_blk hg1]; show some g1.data = _; rw [hdt]; rfl
        obtain ⟨j', q', l', hFd, hqk, hjl, hqo, hql, hqf, hφ, hl1, ho1⟩ := hrd.data_inv
        rw [← HLS.out] at hFd hjl
        have H117 := hide (infl_rep hg hqk hFd (by rw [Array.length_toList] at hjl; exact hjl) hqo (by have := HS.out; omega) hqf HOW.out H0G.out)
        have hfsz : q'.fresh.length ≤ 65535 := by have := HS.out; rw [hqo, List.length_append] at hql; omega
        obtain ⟨x, hx⟩ : ∃ x : ByteArray, x = ⟨q'.fresh.toArray⟩ := ⟨_, rfl⟩
        obtain ⟨y, hy⟩ : ∃ y : ByteArray, y = (if q'.k.isFin then ⟨l'.toArray⟩ else ⟨#[]⟩) := ⟨_, rfl⟩
        have hxs : x.size ≤ 65535 := by rw [hx]; exact hfsz
        have hxd : x.data.toList = q'.fresh := by rw [hx]
        have hyd : y.data.toList = l1 := by rw [hy, hl1]; cases q'.k.isFin <;> rfl
        rw [← hx, ← hy] at H117
        have hysz : y.size ≤ 1000000 := by
          have hl' := feeds_len hFd
          rw [Array.length_toList] at hl'
          rw [hy]
          split
          · show l'.toArray.size ≤ _
            rw [List.size_toArray]
            exact Nat.le_trans hl' ht
          · exact Nat.zero_le _
        have HFACT := hide (And.intro hxd (And.intro hyd (And.intro hφ ho1)))
        clear hg hfi hg1 hwi hrd hc0 hpt hdt hrest hrsz hFd hqk hjl hqo hql hqf hφ hl1 ho1 hx hy hxd hyd hfsz
        go_wp2_with fail
        refine (unhide H117).mono ?_
        rintro e w2 ⟨rfl, G2, hg2, hgr2, hf2⟩
        have hfi2 := HFI2.out.step hgr2 hf2
        have H118 := hide (writeString118_any M gb L x w2 hfi2.bld (by omega))
        have HG2 := hide hg2
        have HFI3 := hide hfi2
        clear hg2 hgr2 hf2 hfi2
        go_wp2_with fail
        refine (unhide H118).mono ?_
        rintro e w3 ⟨rfl, gb2, hb2, hn2, hf3⟩
        obtain ⟨hfi3, hg3⟩ := HFI3.out.write HG2.out hb2 hn2 hf3
        have HRES : Hid (∃ (m : Nat) (ψ : Ph) (t' : ByteArray) (G' : List Nat) (L o' : List UInt8) (gb : Option Nat), m' + 1 = m + 1 ∧ Value.string y = .string t' ∧ t'.size ≤ 1000000 ∧ GRep w3 Z G' S ψ ∧ Rs S m ψ t'.data.toList φ' o' ∧ L ++ o' = o ∧ FInv w G M w3 G' gb L) := by
          obtain ⟨e1, e2, e3, e4⟩ := HFACT.out
          refine hide ⟨m', φ1, y, G2, L ++ x.data.toList, o2, gb2, rfl, rfl, hysz, by rw [e3]; exact hg3, ?_, ?_, hfi3⟩
          · rw [e2]; exact HRS2.out
          · rw [← HLO.out, HOO.out, e1, e4, List.append_assoc]
        clear hb2 hn2 hf3 hfi3 hg3
        go_wp2_with fail
        go_roundg (m' + 1)
        case measure => have := HGK.out; omega
        case rel => exact HRES.out
      | tail k =>
        obtain ⟨hcv, hl1, hφ, ho1, hk8⟩ : c = (TRL S).getD k 0 ∧ l1 = l ∧ φ1 = .tail (k + 1) ∧ o1 = [] ∧ k < 8 := by cases hrd with | end_ h => exact ⟨rfl, rfl, rfl, rfl, h⟩
        obtain ⟨hwi, hpt, hdt⟩ := hph
        rw [show decide (k < 8) = true by simpa using hk8] at hwi
        have c13 : wr.cell? ⟨Z, 13, none⟩ = some (.bool true) := by rw [cell_blk hg1]; show some (Value.bool g1.within) = _; rw [hwi]
        have c0 : wr.cell? ⟨Z, 0, none⟩ = some (.int .i64 8) := by rw [cell_blk hg1]; show some (Value.int .i64 g1.part) = _; rw [hpt]
        have c9 : wr.cell? ⟨Z, 9, none⟩ = some (.pointer none) := by rw [cell_blk hg1]; show some g1.data = _; rw [hdt]
        have H119 := end_rep hk8 HS.out hg
        rw [← hcv, ← hc0] at H119
        have H119 := hide H119
        have HL1 := hide (And.intro hl1 (And.intro ho1 hφ))
        have HRST := hide hrest
        clear hg hfi hg1 hwi hrd hc0 hcv hl1 ho1 hφ hpt hdt hrest
        go_wp2_with fail
        refine (unhide H119).mono ?_
        rintro e w2 ⟨rfl, hg2, hf2⟩
        have HRES : Hid (∃ (m : Nat) (ψ : Ph) (t' : ByteArray) (G' : List Nat) (L o' : List UInt8) (gb : Option Nat), m' + 1 = m + 1 ∧ Value.string (t.extract 1 t.size) = .string t' ∧ t'.size ≤ 1000000 ∧ GRep w2 Z G' S ψ ∧ Rs S m ψ t'.data.toList φ' o' ∧ L ++ o' = o ∧ FInv w G M w2 G' gb L) := by
          refine hide ⟨m', φ1, _, G', L, o2, gb, rfl, rfl, by omega, by rw [HL1.out.2.2]; exact hg2, ?_, ?_, HFI2.out.step (Grows.refl _ _) hf2⟩
          · rw [HRST.out, ← HL1.out.1]; exact HRS2.out
          · rw [← HLO.out, HOO.out, HL1.out.2.1]; rfl
        clear hg2 hf2
        go_wp2_with fail
        go_roundg (m' + 1)
        case measure => have := HGK.out; omega
        case rel => exact HRES.out
end Go.Proofs.YthmhcnnigepohaaGreatDoor.En

/- gzip.Decoder.Close, All. -/
namespace Go.Proofs.YthmhcnnigepohaaGreatDoor.En
open Go.RowKit
open If (Grows ORD Ost RepO ps0 ptr Feeds PS feedO grows0)
open Dg (BAt bcells step_append_run)
set_option linter.unusedVariables false

/-- Whether a member is read to its end. -/
def Ph.done : Ph → Bool
  | .tail t => decide (8 ≤ t)
  | _ => false
theorem nm1 {w : World} {v : Value} {b : Nat} {s : ByteArray} (h : NmAt w v b s) : ∃ off cap, v = .slice (some ⟨b, off, none⟩) 1 cap ∧ w.cell? ⟨b, off, none⟩ = some (.string s) ∧ b < w.heap.size := by
  rcases h with ⟨_, h, _⟩ | ⟨b', off, cap, cur, hg, hv, hb, h1, h2, h3, h4⟩
  · cases h
  · injection hg with hg
    subst hg
    refine ⟨off, cap, hv, ?_, lt_of_blk hb⟩
    rw [cell_blk hb]
    exact h4 0 _ rfl
set_option maxRecDepth 100000 in
set_option maxHeartbeats 4000000 in
theorem close111_any {Z : Nat} {G : List Nat} {S : List UInt8} {φ : Ph} {w : World} (h : GRep w Z G S φ) : Calls Tryz.prog 111 #[.pointer (some ⟨Z, 0, none⟩)] w fun e w' => e = .returned (.int .i64 (if φ.done then 0 else 1)) ∧ w = w' := by
  have key : ∀ (g : GV), GI w Z g → g.within = true → Calls Tryz.prog 111 #[.pointer (some ⟨Z, 0, none⟩)] w fun e w' => e = .returned (.int .i64 1) ∧ w = w' := by
    intro g hg hwi
    have hl := hg.lt
    have c14 : w.cell? ⟨Z, 14, none⟩ = some (.bool false) := cell_blk hg 14
    have c13 : w.cell? ⟨Z, 13, none⟩ = some (.bool true) := by rw [cell_blk hg]; show some (Value.bool g.within) = _; rw [hwi]
    clear hg hwi h
    go_enter Tryz.func111, Tryz.ntmps111
    go_wp2_with fail
    go_ret
    exact ⟨rfl, rfl⟩
  cases φ with
  | idle =>
    have hg := h.1
    have hl := hg.lt
    have c14 : w.cell? ⟨Z, 14, none⟩ = some (.bool false) := cell_blk hg 14
    have c13 : w.cell? ⟨Z, 13, none⟩ = some (.bool false) := cell_blk hg 13
    have c15 : w.cell? ⟨Z, 15, none⟩ = some (.slice none 0 0) := cell_blk hg 15
    show Calls Tryz.prog 111 #[.pointer (some ⟨Z, 0, none⟩)] w fun e w' => e = .returned (.int .i64 1) ∧ w = w'
    clear hg h
    go_enter Tryz.func111, Tryz.ntmps111
    go_wp2_with fail
    go_ret
    exact ⟨rfl, rfl⟩
  | head p => obtain ⟨g, h1, h2, h3, h4⟩ := h.gi; exact key g h1 h3
  | data j s => obtain ⟨g, h1, h2, h3⟩ := h.gi; exact key g h1 h2
  | tail t =>
    by_cases ht : t < 8
    · obtain ⟨g, h1, h2, h3⟩ := h.gi
      rw [show (Ph.tail t).done = false by show decide (8 ≤ t) = false; simp; omega]
      exact key g h1 (by rw [h2]; simpa using ht)
    · rw [show (Ph.tail t).done = true by show decide (8 ≤ t) = true; simp; omega]
      obtain ⟨h0, g, bn, bs, h1, h2, h3, h4, h5, h6, h7, h8, h9, -⟩ := h
      rw [show decide (t < 8) = false by simp; omega] at h3
      have hl := h1.lt
      have c14 : w.cell? ⟨Z, 14, none⟩ = some (.bool false) := cell_blk h1 14
      have c13 : w.cell? ⟨Z, 13, none⟩ = some (.bool false) := by rw [cell_blk h1]; show some (Value.bool g.within) = _; rw [h3]
      obtain ⟨off, cap, e1, e2, -⟩ := nm1 h8
      have c15 : w.cell? ⟨Z, 15, none⟩ = some (.slice (some ⟨bn, off, none⟩) 1 cap) := by rw [cell_blk h1]; show some g.names = _; rw [e1]
      show Calls Tryz.prog 111 #[.pointer (some ⟨Z, 0, none⟩)] w fun e w' => e = .returned (.int .i64 0) ∧ w = w'
      clear h1 h2 h3 h4 h5 h6 h7 h8 h9 e1 e2 key ht h0
      go_enter Tryz.func111, Tryz.ntmps111
      go_wp2_with fail
      go_ret
      exact ⟨rfl, rfl⟩

theorem elem36 : ElemOk Tryz.prog 179 36 2 32 := ⟨Tryz.underlying179, by
  have h : (Tryz.prog.info? 36).map (fun i => (i.zero.map (fun z => z.cells.size), i.size, i.bytes)) = some (some 2, 2, 32) := by kernel_rfl
  cases hq : Tryz.prog.info? 36 with
  | none => rw [hq] at h; cases h
  | some i =>
    rw [hq] at h
    simp only [Option.map_some, Option.some.injEq, Prod.mk.injEq] at h
    obtain ⟨h1, h2, h3⟩ := h
    cases hz : i.zero with
    | none => rw [hz] at h1; cases h1
    | some z =>
      rw [hz] at h1
      simp only [Option.map_some, Option.some.injEq] at h1
      exact ⟨i, z, rfl, hz, h2, h3, h1⟩, by decide⟩
def AllPost (w : World) (e : Ending) (w' : World) : Prop :=
  ∃ v b x, e = .returned (.tuple #[v, .int .i64 0]) ∧ SlAt 36 2 w' v (some b) 1 [.string inS, .string x] ∧ Fr [] w w'
set_option maxRecDepth 100000 in
set_option maxHeartbeats 16000000 in
theorem all112_any (d S : List UInt8) (s : ByteArray) (w : World) (hs : s.data.toList = mem d S) (hi : Inflates d S) (hS : S.length ≤ 65535) (hd : d.length ≤ 900000) (hO : Ost w) :
    Calls Tryz.prog 112 #[.string s, .agg #[.int .i64 65536, .int .i64 1100]] w (AllPost w) := by
  obtain ⟨n, hrs⟩ := whole_rs hi hd
  rw [← hs] at hrs
  have hsz : s.size ≤ 1000000 := by
    have : s.size = s.data.toList.length := by rw [Array.length_toList]; rfl
    rw [this, hs, mem_len]
    omega
  obtain ⟨B, hB⟩ : ∃ B, B = w.heap.size := ⟨_, rfl⟩
  obtain ⟨w0, hw0⟩ : ∃ x, x = w.alloc (.cells #[.int .i64 65536, .int .i64 1100] 40) := ⟨_, rfl⟩
  have h0 : w0.heap[B]? = some (.cells #[.int .i64 65536, .int .i64 1100] 40 (0, 0)) := by rw [hw0]; exact heap_alloc_eq hB
  have c0 : w0.cell? ⟨B, 0, none⟩ = some (.int .i64 65536) := cell_blk h0 0
  have c1 : w0.cell? ⟨B, 1, none⟩ = some (.int .i64 1100) := cell_blk h0 1
  have HF0 : Hid (Fr [] w w0) := by rw [hw0]; exact hide ((Fr.refl _ _).alloc _)
  have H106 := hide (gnew_rep S w0)
  have HRS := hide hrs
  have HO := hide hO
  have HB := hide hB
  have HW0 := hide hw0
  have HS := hide hS
  have hB0 : 0 < w.heap.size := World.block_lt_of_cell? w _ (hO 0 (by omega))
  clear hrs hs hi hO hB hw0 h0 hS
  go_enter Tryz.func112, Tryz.ntmps112
  go_upto_region 1 with fail
  rw [← HB.out, ← HW0.out]
  go_wp2_with fail
  refine (unhide H106).mono ?_
  rintro e w1 ⟨Z, rfl, hZ, hg1, hf1⟩
  have hZ0 : Z ≠ 0 := by have := HF0.out.size; omega
  have H109 := hide (feed109_any Z [Z] S S .idle (.tail 8) n s w1 hg1 HRS.out HS.out hsz (by have := HS.out; omega) ((HO.out.fr HF0.out (by simp)).fr hf1 (by simp)) (by simp; omega))
  have HF1 : Hid (Fr [] w w1) := hide (HF0.out.trans hf1)
  have HZ : Hid (w0.heap.size ≤ Z) := hide hZ
  clear hg1 hf1 hZ
  go_wp2_with fail
  refine (unhide H109).mono ?_
  rintro e w2 ⟨rfl, G2, hg2, hgr2, hf2⟩
  have HF2 : Hid (Fr [] w w2) := hide (HF1.out.andThen hf2 (fun x hx => by
    simp at hx
    subst hx
    right
    have := HF0.out.size
    have := HZ.out
    omega))
  have H111 := hide (close111_any hg2)
  have hdn : (if (Ph.tail 8).done = true then (0 : Int) else 1) = 0 := rfl
  rw [hdn] at H111
  obtain ⟨h0, g, bn, bs, k1, k2, k3, k4, k5, k6, k7, k8, k9, -⟩ := hg2
  have hl2 := k1.lt
  obtain ⟨on, cn, e1, e2, e3⟩ := nm1 k8
  obtain ⟨os, cs, cur, f1, f2, f3, f4, f5⟩ := nat1 k9
  have c15 : w2.cell? ⟨Z, 15, none⟩ = some (.slice (some ⟨bn, on, none⟩) 1 cn) := by rw [cell_blk k1]; show some g.names = _; rw [e1]
  have c16 : w2.cell? ⟨Z, 16, none⟩ = some (.slice (some ⟨bs, os, none⟩) 1 cs) := by rw [cell_blk k1]; show some g.sizes = _; rw [f1]
  obtain ⟨ln, hln⟩ : ∃ n, n = S.length := ⟨_, rfl⟩
  rw [← hln] at f5
  have s0 : w2.cell? ⟨bs, os, none⟩ = some (.int .i64 (ln : Int)) := by rw [cell_blk f2]; exact f5
  have hbs := lt_of_blk f2
  obtain ⟨x, hx⟩ : ∃ x : ByteArray, x = ⟨S.toArray⟩ := ⟨_, rfl⟩
  have hxl : x.size = ln := by rw [hx, hln]; rfl
  have hlb : ln ≤ 65535 := by rw [hln]; exact HS.out
  rw [← hx]
  clear hgr2 hf2 hdn k1 k2 k3 k4 k5 k6 k7 k8 k9 e1 f1 f2 f3 f4 f5 h0 hx hln
  go_wp2_with fail
  refine (unhide H111).mono ?_
  rintro e w2' ⟨rfl, rfl⟩
  go_wp2_with fail
  go_loopg [7, 9, 32] 2 (fun gk a b c wr => ∃ k : Nat, gk = 2 - k ∧ c = .int .i64 k ∧ ∃ v, v = b ∧ ((k = 0 ∧ a = .string x ∧ SlAt 36 2 wr v none 0 [] ∧ wr = w2) ∨ (k = 1 ∧ ∃ bb y z, a = .string y ∧ SlAt 36 2 wr v (some bb) 1 [.string inS, .string z] ∧ Fr [] w wr)))
  case atStart => exact ⟨0, rfl, rfl, _, rfl, .inl ⟨rfl, rfl, SlAt.nil_ _, rfl⟩⟩
  case round =>
    obtain ⟨k, hgk, rfl, b, rfl, ⟨rfl, rfl, hb, rfl⟩ | ⟨rfl, bb, y, z, rfl, hb, hfw⟩⟩ := hrel
    · obtain ⟨y, hy⟩ : ∃ y, y = x.extract 0 ln := ⟨_, rfl⟩
      obtain ⟨w3, hw3⟩ : ∃ q, q = wr.alloc (.cells #[.string inS, .string y] 36) := ⟨_, rfl⟩
      have hf3 : Fr [] wr w3 := by rw [hw3]; exact (Fr.refl _ _).alloc _
      obtain ⟨v', w4, g4, hap, hsl, hf4, hg4⟩ := SlAt.append elem36 (SlAt.fr hb hf3 (by simp)) 179 ⟨wr.heap.size, 0, none⟩ 1 1 [.string inS, .string y] (by omega) rfl (fun j u hj => by
        rw [Addr.add_lit, hw3, cell_blk (heap_alloc_eq rfl), Nat.zero_add]
        simpa using hj) (fun u hu => by simp at hu; rcases hu with rfl | rfl <;> rfl) (by omega) (by unfold maxLen; omega)
      have hgb : ∃ bb, g4 = some bb := by
        rcases hg4 with rfl | ⟨h, -⟩
        · rcases hsl with ⟨_, _, h, _⟩ | ⟨b, _, _, _, h, _⟩
          · cases h
          · cases h
        · exact ⟨_, h⟩
      obtain ⟨bb, rfl⟩ := hgb
      have hf4' : Fr [] w3 w4 := hf4
      have hap1 : (Builtin.append_ #[179, 179] 179 #[b, .slice (some ⟨wr.heap.size, 0, none⟩) 1 1]).run Tryz.prog (wr.alloc (.cells #[.string inS, .string y] 36)) = .ok v' w4 := by rw [← hw3]; exact hap
      have HF4 : Hid (Fr [] wr w4) := hide (hf3.trans hf4')
      have HSL := hide hsl
      have HGK := hide hgk
      have i15 : w4.cell? ⟨Z, 15, none⟩ = some (.slice (some ⟨bn, on, none⟩) 1 cn) := fr_cell HF4.out c15
      have i16 : w4.cell? ⟨Z, 16, none⟩ = some (.slice (some ⟨bs, os, none⟩) 1 cs) := fr_cell HF4.out c16
      have j0 : w4.cell? ⟨bs, os, none⟩ = some (.int .i64 (ln : Int)) := fr_cell HF4.out s0
      have hl4 : Z < w4.heap.size := Nat.lt_of_lt_of_le hl2 HF4.out.size
      have hyy : x.extract 0 ln = y := hy.symm
      clear hb hy hw3 hf3 hap hsl hf4 hf4' hg4 hgk
      go_wp2_with (at_builtin; refine wpList_append_run rfl _ _ 179 rfl hap1 rfl rfl ?_)
      go_roundg 1
      case measure => have := HGK.out; omega
      case rel => exact ⟨1, rfl, by go_num, _, rfl, .inr ⟨rfl, bb, _, y, rfl, HSL.out, HF2.out.trans HF4.out⟩⟩
    · obtain ⟨ao, co, hv⟩ := SlAt.shape hb
      have hres : Hid (AllPost w (.returned (.tuple #[b, .int .i64 0])) wr) := hide ⟨_, bb, z, rfl, hb, hfw⟩
      subst hv
      clear hb hfw hgk
      go_wp2_with fail
      go_ret2
      exact hres.out
end Go.Proofs.YthmhcnnigepohaaGreatDoor.En
