/- inflate.Decoder: the closures of the lengths. -/
import Derived.Test.YthmhcnnigepohaaGreatDoorM17
import Derived.Deep.RegionHeld3
import Derived.ScopeJumps
import Derived.WalkMore
import Derived.StillTailTactics
import Derived.Laws.BitsLemmas
namespace Go.Proofs.YthmhcnnigepohaaGreatDoor.If
open Go.RowKit
open Dg (BAt bcells)
open Hf (NAt zI IR step_append_run)
set_option linter.unusedVariables false
variable [Foreign]

omit [Foreign] in
theorem nat_blk {w : World} {v : Value} {g : Option Nat} {l : List Nat} (h : NAt w v g l) : ∀ b ∈ g.toList, ∃ cs, w.heap[b]? = some (.cells cs 3 (0, 0)) := fun b hb => SlAt.lt h b (by simpa using hb)

set_option maxRecDepth 100000 in
set_option maxHeartbeats 4000000 in
theorem fire164_small (D : Nat) (G : List Nat) (d : DV) (gp gf gl : Option Nat) (inp : Int) (rest : ByteArray) (last skip : Bool) (out fresh : List UInt8) (C l : List Nat) (a b Dc v : Nat) (vl p pc pl pa pb pr : Value) (w : World)
    (hc : Core w D G d gp gf inp rest last false skip out fresh) (hp : Box w G p 173 (ptr D)) (hpc : Box w G pc 192 (ptr Dc)) (hpl : Box w G pl 77 vl) (hpa : Box w G pa 3 (.int .i64 a)) (hpb : Box w G pb 3 (.int .i64 b)) (hd : Dec w G (ptr Dc) C 0 0) (hn : NAt w vl gl l) (hg : ∀ x, gl = some x → x ∈ G)
    (hv : v < 16) (hb : 1 ≤ a ∧ 1 ≤ b ∧ a ≤ 300 ∧ b ≤ 300) (hle : l.length ≤ 600) (hok : (l ++ [v]).length = a + b → LOk ((l ++ [v]).take a) ∧ LOk ((l ++ [v]).drop a)) :
    Calls Tryz.prog 164 #[.int .i64 v, p, pc, pl, pa, pb, pr] w (FP D G inp rest w (lensNext C (l ++ [v]) a b last out fresh skip)) := by
  have HC := hide hc
  obtain ⟨b1, e1, l1, n1, c1⟩ := hp.at_
  obtain ⟨b2, e2, l2, n2, c2⟩ := hpc.at_
  obtain ⟨b3, e3, l3, n3, c3⟩ := hpl.at_
  obtain ⟨b4, e4, l4, n4, c4⟩ := hpa.at_
  obtain ⟨b5, e5, l5, n5, c5⟩ := hpb.at_
  subst e1 e2 e3 e4 e5
  obtain ⟨av, cv, hvl⟩ := SlAt.shape hn
  have hnd : NAt w.drew vl gl l := SlAt.fr hn ((Fr.refl [] w).drew) (by simp)
  obtain ⟨v', w', gl', happ, hn', hf', hg'⟩ := hnd.push v (by omega)
  have hap : (Builtin.append_ #[77, 77] 77 #[vl, .slice (some ⟨w.heap.size, 0, none⟩) 1 1]).run Tryz.prog ((w.alloc (.cells #[.int .i64 (v : Int)] 3)).drew) = .ok v' w' := happ
  have hwd : Fr gl.toList w w' := ((Fr.refl gl.toList w).drew).trans hf'
  have hSG : ∀ x ∈ gl.toList, x ∈ G := fun x hx => hg x (by simpa using hx)
  have hfG : Fr G w w' := hwd.sub hSG
  have hgr : Grows w G (gl'.toList ++ G) := fun x hx => by
    rcases List.mem_append.1 hx with hx | hx
    · rcases hg' with h | ⟨y, h1, h2⟩
      · rw [h] at hx; exact .inl (hSG x hx)
      · rw [h1] at hx; simp at hx; subst hx; exact .inr h2
    · exact .inl hx
  have hc1 := (hc.away hwd (nat_blk hn)).grow (G' := gl'.toList ++ G) (fun x hx => by simp [hx]) ((hc.inn.fr hwd).of fun x hx => by
    rcases List.mem_append.1 hx with hx | hx
    · obtain ⟨cs, hcs⟩ := nat_blk hn' x hx; exact lt_of_blk hcs
    · exact hc.inn.fr hwd x hx)
  have hd1 := hd.away hwd (nat_blk hn) hSG hgr (fun x hx => by simp [hx])
  have HL := hide (lengths153_fp D (gl'.toList ++ G) d gp gf gl' inp rest last skip out fresh C (l ++ [v]) a b Dc v' w' hc1 hd1 hn' (fun x hx => by simp [hx]) hb (by simp; omega) hok)
  have HB : Hid (∀ W, Fr (gl'.toList ++ G) w' W → W.cell? ⟨b1, 0, none⟩ = some (.pointer (some ⟨D, 0, none⟩)) ∧ W.cell? ⟨b2, 0, none⟩ = some (.pointer (some ⟨Dc, 0, none⟩)) ∧ W.cell? ⟨b3, 0, none⟩ = some vl ∧ W.cell? ⟨b4, 0, none⟩ = some (.int .i64 a) ∧ W.cell? ⟨b5, 0, none⟩ = some (.int .i64 b)) := by
    refine hide (fun W hW => ?_)
    have cw : ∀ {bb : Nat} {t : TypeId} {x : Value}, Box w G (.pointer (some ⟨bb, 0, none⟩)) t x → W.cell? ⟨bb, 0, none⟩ = some x := fun hbx => by
      obtain ⟨_, y1, _, _, y2⟩ := ((hbx.fr hfG hgr).fr hW (Grows.refl _ _)).at_
      injection y1 with y1; injection y1 with y1; injection y1 with y1 _; subst y1; exact y2
    exact ⟨cw hp, cw hpc, cw hpl, cw hpa, cw hpb⟩
  obtain ⟨m1, m2, m3, m4, m5⟩ := HB.out w' (Fr.refl _ _)
  replace c1 : w.cell? ⟨b1, 0, none⟩ = some (.pointer (some ⟨D, 0, none⟩)) := c1
  replace c2 : w.cell? ⟨b2, 0, none⟩ = some (.pointer (some ⟨Dc, 0, none⟩)) := c2
  have HF := hide (And.intro hfG hgr)
  have hvi : (v : Int) < 16 := by omega
  have HVL := hide hvl
  rw [hvl] at hap c3 m3 HB
  obtain ⟨ml, hml⟩ : ∃ m, m = l.length := ⟨_, rfl⟩
  rw [← hml] at hap c3 m3 HB
  clear hc hp hpc hpl hpa hpb hd hn hg hok hnd happ hn' hf' hg' hwd hSG hfG hgr hc1 hd1 n1 n2 n3 n4 n5 hvl hml hle
  go_enter Tryz.func164, Tryz.ntmps164
  go_upto_region 2 with (fail)
  go_region_held3 (fun W => W.cell? ⟨b1, 0, none⟩ = some (.pointer (some ⟨D, 0, none⟩)) ∧ W.cell? ⟨b2, 0, none⟩ = some (.pointer (some ⟨Dc, 0, none⟩)) ∧ W.cell? ⟨b3, 0, none⟩ = some (.slice av ml cv) ∧ W.cell? ⟨b4, 0, none⟩ = some (.int .i64 a) ∧ W.cell? ⟨b5, 0, none⟩ = some (.int .i64 b)) (go_keep) (first | ((with_reducible refine step_append_run rfl _ _ 77 rfl hap ?_ ?_ ?_); rfl; rfl) | ((with_reducible refine (unhide HL).mono ?_); rintro e w2 ⟨rfl, hfp⟩; obtain ⟨k1, k2, k3, k4, k5⟩ := HB.out w2 hfp.choose_spec.2.2))
  all_goals
    obtain ⟨G2, hr2, hg2, hf2⟩ := hfp
    have HRES : Hid (FP D G inp rest w (lensNext C (l ++ [v]) a b last out fresh skip) (.returned (.int .i64 0)) w2) := by
      obtain ⟨h1, h2⟩ := HF.out
      exact hide ⟨rfl, G2, hr2, h2.trans hg2 h1.size, h1.thru h2 hf2⟩
    clear hr2 hg2 hf2
    go_wp2
    go_ret
    exact HRES.out
end Go.Proofs.YthmhcnnigepohaaGreatDoor.If

/- inflate.Decoder: the closures of repeated lengths. -/
namespace Go.Proofs.YthmhcnnigepohaaGreatDoor.If
open Go.RowKit
open Dg (BAt bcells)
open Hf (NAt zI IR step_append_run)
set_option linter.unusedVariables false
variable [Foreign]

set_option maxRecDepth 100000 in
set_option maxHeartbeats 4000000 in
theorem fire164_zero (D : Nat) (G : List Nat) (d : DV) (gp gf gl : Option Nat) (inp : Int) (rest : ByteArray) (last skip : Bool) (out fresh : List UInt8) (C l : List Nat) (a b Dc v bits least : Nat) (vl p pc pl pa pb pr : Value) (w : World)
    (hc : Core w D G d gp gf inp rest last false skip out fresh) (hp : Box w G p 173 (ptr D)) (hpc : Box w G pc 192 (ptr Dc)) (hpl : Box w G pl 77 vl) (hpa : Box w G pa 3 (.int .i64 a)) (hpb : Box w G pb 3 (.int .i64 b)) (hpr : Box w G pr 215 (.func (.func 162) #[] #[p, pl, pa, pb, pc])) (hd : Dec w G (ptr Dc) C 0 0) (hn : NAt w vl gl l) (hg : ∀ x, gl = some x → x ∈ G)
    (hcase : (v = 17 ∧ bits = 3 ∧ least = 3) ∨ (v = 18 ∧ bits = 7 ∧ least = 11)) :
    Calls Tryz.prog 164 #[.int .i64 v, p, pc, pl, pa, pb, pr] w (FP D G inp rest w ⟨.rep C l a b bits least 0, 0, 0, last, out, fresh, skip⟩) := by
  have HC := hide (rep162 D G d gp gf gl inp rest last skip out fresh C l a b Dc bits least 0 vl p pl pa pb pc w hc hp hpc hpl hpa hpb hd hn hg)
  obtain ⟨b3, e3, l3, n3, c3⟩ := hpl.at_
  obtain ⟨b6, e6, l6, n6, c6⟩ := hpr.at_
  obtain ⟨av, cv, hvl⟩ := SlAt.shape hn
  subst e6
  subst e3
  rw [hvl] at c3
  clear hc hp hpc hpl hpa hpb hpr hd hn hg n3 n6 hvl
  rcases hcase with ⟨rfl, rfl, rfl⟩ | ⟨rfl, rfl, rfl⟩
  · replace HC : Hid (Calls Tryz.prog 162 #[.int .i64 3, .int .i64 3, .int .i64 0, p, .pointer (some ⟨b3, 0, none⟩), pa, pb, pc] w (FP D G inp rest w ⟨.rep C l a b 3 3 0, 0, 0, last, out, fresh, skip⟩)) := HC
    show Calls Tryz.prog 164 #[.int .i64 17, p, pc, .pointer (some ⟨b3, 0, none⟩), pa, pb, .pointer (some ⟨b6, 0, none⟩)] w _
    go_enter Tryz.func164, Tryz.ntmps164
    go_wp2_with fail
    refine (unhide HC).mono ?_
    rintro e w2 ⟨rfl, hfp⟩
    have HR := hide hfp
    clear hfp
    go_wp2
    go_ret
    exact ⟨rfl, HR.out⟩
  · replace HC : Hid (Calls Tryz.prog 162 #[.int .i64 7, .int .i64 11, .int .i64 0, p, .pointer (some ⟨b3, 0, none⟩), pa, pb, pc] w (FP D G inp rest w ⟨.rep C l a b 7 11 0, 0, 0, last, out, fresh, skip⟩)) := HC
    show Calls Tryz.prog 164 #[.int .i64 18, p, pc, .pointer (some ⟨b3, 0, none⟩), pa, pb, .pointer (some ⟨b6, 0, none⟩)] w _
    go_enter Tryz.func164, Tryz.ntmps164
    go_wp2_with fail
    refine (unhide HC).mono ?_
    rintro e w2 ⟨rfl, hfp⟩
    have HR := hide hfp
    clear hfp
    go_wp2
    go_ret
    exact ⟨rfl, HR.out⟩

set_option maxRecDepth 100000 in
set_option maxHeartbeats 4000000 in
theorem fire164_prev (D : Nat) (G : List Nat) (d : DV) (gp gf gl : Option Nat) (inp : Int) (rest : ByteArray) (last skip : Bool) (out fresh : List UInt8) (C l : List Nat) (a b Dc : Nat) (vl p pc pl pa pb pr : Value) (w : World)
    (hc : Core w D G d gp gf inp rest last false skip out fresh) (hp : Box w G p 173 (ptr D)) (hpc : Box w G pc 192 (ptr Dc)) (hpl : Box w G pl 77 vl) (hpa : Box w G pa 3 (.int .i64 a)) (hpb : Box w G pb 3 (.int .i64 b)) (hpr : Box w G pr 215 (.func (.func 162) #[] #[p, pl, pa, pb, pc])) (hd : Dec w G (ptr Dc) C 0 0) (hn : NAt w vl gl l) (hg : ∀ x, gl = some x → x ∈ G)
    (hl0 : 0 < l.length) (hle : l.length ≤ 1000) :
    Calls Tryz.prog 164 #[.int .i64 16, p, pc, pl, pa, pb, pr] w (FP D G inp rest w ⟨.rep C l a b 2 3 (l.getD (l.length - 1) 0), 0, 0, last, out, fresh, skip⟩) := by
  have hdr : Fr [] w w.drew := (Fr.refl _ _).drew
  have hgr := Grows.refl w G
  have hf0 : Fr G w w.drew := hdr.mono (by simp)
  have hR := rep162 D G d gp gf gl inp rest last skip out fresh C l a b Dc 2 3 (l.getD (l.length - 1) 0) vl p pl pa pb pc w.drew (hc.away hdr (by simp)) (hp.fr hf0 hgr) (hpc.fr hf0 hgr) (hpl.fr hf0 hgr) (hpa.fr hf0 hgr) (hpb.fr hf0 hgr) (hd.keep hdr (by simp) hgr (fun _ h => h) (by simp)) (SlAt.fr hn hdr (by simp)) hg
  obtain ⟨x, hx⟩ : ∃ x, x = l.getD (l.length - 1) 0 := ⟨_, rfl⟩
  rw [← hx] at hR ⊢
  have hR : Calls Tryz.prog 162 #[.int .i64 2, .int .i64 3, .int .i64 x, p, pl, pa, pb, pc] w.drew (FP D G inp rest w.drew ⟨.rep C l a b 2 3 x, 0, 0, last, out, fresh, skip⟩) := hR
  have HC := hide hR
  obtain ⟨b3, e3, l3, n3, c3⟩ := hpl.at_
  obtain ⟨b6, e6, l6, n6, c6⟩ := hpr.at_
  obtain ⟨bl, off, cap, hgl, hvl, hbl, cl⟩ := hn.read (i := l.length - 1) (x := x) (by rw [hx, List.getD, List.getElem?_eq_getElem (by omega)]; rfl)
  obtain ⟨n, hnn⟩ : ∃ n, n = l.length := ⟨_, rfl⟩
  rw [← hnn] at hvl cl hl0 hle
  subst e6
  subst e3
  rw [hvl] at c3
  have b0 : (0 : Int) ≤ (n : Int) - 1 ∧ (n : Int) - 1 < (n : Int) := by omega
  have b1 : (1 : Int) ≤ (n : Int) := by omega
  have z1 : IntKind.i64.wrap ((n : Int) - 1) = (n : Int) - 1 := IntWalk.i64_in _ (by omega)
  have z2 : ((n : Int) - 1).toNat = n - 1 := by omega
  have d0 : ((n : Int) == 0) = false := by simp; omega
  have HF := hide (And.intro hf0 hgr)
  clear hc hp hpc hpl hpa hpb hpr hd hn hg n3 n6 hvl hgl hnn hx hR hdr hgr hf0
  go_enter Tryz.func164, Tryz.ntmps164
  go_upto_region 6 with (fail)
  go_still_tail 7, (by kernel_rfl)
  change wpList _ _ _ _ _ w.drew
  go_wp2_with fail
  refine (unhide HC).mono ?_
  rintro e w2 ⟨rfl, G2, hr2, hg2, hf2⟩
  have HRES : Hid (FP D G inp rest w ⟨.rep C l a b 2 3 x, 0, 0, last, out, fresh, skip⟩ (.returned (.int .i64 0)) w2) := by
    obtain ⟨h1, h2⟩ := HF.out
    exact hide ⟨rfl, G2, hr2, h2.trans hg2 h1.size, h1.thru h2 hf2⟩
  clear hr2 hg2 hf2
  go_wp2
  go_ret
  exact HRES.out

set_option maxRecDepth 100000 in
set_option maxHeartbeats 8000000 in
theorem fire163 (D : Nat) (G : List Nat) (d : DV) (gp gf gl : Option Nat) (inp : Int) (rest : ByteArray) (last skip : Bool) (out fresh : List UInt8) (C l : List Nat) (a b Dc v least value : Nat) (vl p pc pl pa pb pm pv : Value) (w : World)
    (hc : Core w D G d gp gf inp rest last false skip out fresh) (hp : Box w G p 173 (ptr D)) (hpc : Box w G pc 192 (ptr Dc)) (hpl : Box w G pl 77 vl) (hpa : Box w G pa 3 (.int .i64 a)) (hpb : Box w G pb 3 (.int .i64 b)) (hpm : Box w G pm 3 (.int .i64 least)) (hpv : Box w G pv 3 (.int .i64 value)) (hd : Dec w G (ptr Dc) C 0 0) (hn : NAt w vl gl l) (hg : ∀ x, gl = some x → x ∈ G)
    (hv : v ≤ 127) (hm : 1 ≤ least ∧ least ≤ 11) (hfit : l.length + least + v ≤ a + b) (hb : 1 ≤ a ∧ 1 ≤ b ∧ a ≤ 300 ∧ b ≤ 300) (hok : (l ++ List.replicate (least + v) value).length = a + b → LOk ((l ++ List.replicate (least + v) value).take a) ∧ LOk ((l ++ List.replicate (least + v) value).drop a)) :
    Calls Tryz.prog 163 #[.int .i64 v, pl, pm, pa, pb, p, pc, pv] w (FP D G inp rest w (lensNext C (l ++ List.replicate (least + v) value) a b last out fresh skip)) := by
  obtain ⟨b1, e1, l1, n1, c1⟩ := hp.at_
  obtain ⟨b2, e2, l2, n2, c2⟩ := hpc.at_
  obtain ⟨b3, e3, l3, n3, c3⟩ := hpl.at_
  obtain ⟨b4, e4, l4, n4, c4⟩ := hpa.at_
  obtain ⟨b5, e5, l5, n5, c5⟩ := hpb.at_
  obtain ⟨b6, e6, l6, n6, c6⟩ := hpm.at_
  obtain ⟨b7, e7, l7, n7, c7⟩ := hpv.at_
  subst e1 e2 e3 e4 e5 e6 e7
  obtain ⟨av, cv, hvl⟩ := SlAt.shape hn
  obtain ⟨m, hmm⟩ : ∃ m, m = least + v := ⟨_, rfl⟩
  rw [← hmm] at hok ⊢
  -- the value, repeated
  obtain ⟨wA, hwA⟩ : ∃ x, x = (w.alloc (.cells #[.int .i64 value] 3)).drew := ⟨_, rfl⟩
  have hfA : Fr [] w wA := by rw [hwA]; exact ((Fr.refl _ _).alloc _).drew
  have hA : wA.heap[w.heap.size]? = some (.cells #[.int .i64 value] 3 (0, 0)) := by rw [hwA]; exact heap_alloc_eq rfl
  have HREP := repeat48_one (value : Int) w.heap.size m wA hA (by omega) (by omega)
  have hHB : ∀ (G' : List Nat) (W1 W : World), Fr G w W1 → Grows w G G' → Fr G' W1 W → W.cell? ⟨b1, 0, none⟩ = some (.pointer (some ⟨D, 0, none⟩)) ∧ W.cell? ⟨b2, 0, none⟩ = some (.pointer (some ⟨Dc, 0, none⟩)) ∧ W.cell? ⟨b3, 0, none⟩ = some vl ∧ W.cell? ⟨b4, 0, none⟩ = some (.int .i64 a) ∧ W.cell? ⟨b5, 0, none⟩ = some (.int .i64 b) ∧ W.cell? ⟨b6, 0, none⟩ = some (.int .i64 least) ∧ W.cell? ⟨b7, 0, none⟩ = some (.int .i64 value) := by
    intro G' W1 W h1 h2 hW
    have cw : ∀ {bb : Nat} {t : TypeId} {x : Value}, Box w G (.pointer (some ⟨bb, 0, none⟩)) t x → W.cell? ⟨bb, 0, none⟩ = some x := fun hbx => by
      obtain ⟨_, y1, _, _, y2⟩ := ((hbx.fr h1 h2).fr hW (Grows.refl _ _)).at_
      injection y1 with y1; injection y1 with y1; injection y1 with y1 _; subst y1; exact y2
    exact ⟨cw hp, cw hpc, cw hpl, cw hpa, cw hpb, cw hpm, cw hpv⟩
  have hfAG : Fr G w wA := hfA.mono (by simp)
  have hnA : NAt wA vl gl l := SlAt.fr hn hfA (by simp)
  obtain ⟨R, hR⟩ : ∃ R, R = wA.heap.size := ⟨_, rfl⟩
  have HAP : ∀ wB, Fil wB R m m (value : Int) → Fr [] wA wB → ∃ v' w' G', (Builtin.append_ #[77, 77] 77 #[vl, .slice (some ⟨R, 0, none⟩) m m]).run Tryz.prog wB = .ok v' w' ∧
      Calls Tryz.prog 153 #[.pointer (some ⟨D, 0, none⟩), .pointer (some ⟨Dc, 0, none⟩), v', .int .i64 a, .int .i64 b] w' (FP D G' inp rest w' (lensNext C (l ++ List.replicate m value) a b last out fresh skip)) ∧ Grows w G G' ∧ Fr G w w' := by
    intro wB hfi hfB
    obtain ⟨cs, hcs, hsz, hall⟩ := hfi
    obtain ⟨v', w', gl', happ, hsl', hfr', hg'⟩ := SlAt.append Hf.elem3 (SlAt.fr hnA hfB (by simp)) 77 ⟨R, 0, none⟩ m m (List.replicate m (.int .i64 (value : Int))) (by omega) (by simp) (fun j u hj => by
      rw [List.getElem?_replicate] at hj
      split at hj
      · rename_i h5
        injection hj with hj
        rw [Addr.add_lit, cell_blk hcs, Nat.zero_add, hall j h5, hj]
      · cases hj) (fun u hu => by rw [(List.mem_replicate.1 hu).2]; rfl) (by omega) (by unfold maxLen; omega)
    have hn' : NAt w' v' gl' (l ++ List.replicate m value) := by
      unfold Hf.NAt
      rw [List.length_append, List.length_replicate, show Hf.nI (l ++ List.replicate m value) = Hf.nI l ++ List.replicate m (.int .i64 (value : Int)) by simp [Hf.nI]]
      exact hsl'
    have hwd : Fr gl.toList w w' := ((hfA.trans hfB).mono (by simp)).trans hfr'
    have hSG : ∀ x ∈ gl.toList, x ∈ G := fun x hx => hg x (by simpa using hx)
    have hfG : Fr G w w' := hwd.sub hSG
    have hs1 := (hfA.trans hfB).size
    have hgr : Grows w G (gl'.toList ++ G) := fun x hx => by
      rcases List.mem_append.1 hx with hx | hx
      · rcases hg' with h | ⟨h1, h2⟩
        · rw [h] at hx; exact .inl (hSG x hx)
        · rw [h1] at hx; simp at hx; subst hx; right; omega
      · exact .inl hx
    have hc1 := (hc.away hwd (nat_blk hn)).grow (G' := gl'.toList ++ G) (fun x hx => by simp [hx]) ((hc.inn.fr hwd).of fun x hx => by
      rcases List.mem_append.1 hx with hx | hx
      · obtain ⟨cs, hcs⟩ := nat_blk hn' x hx; exact lt_of_blk hcs
      · exact hc.inn.fr hwd x hx)
    have hd1 := hd.away hwd (nat_blk hn) hSG hgr (fun x hx => by simp [hx])
    exact ⟨v', w', gl'.toList ++ G, happ, lengths153_fp D (gl'.toList ++ G) d gp gf gl' inp rest last skip out fresh C (l ++ List.replicate m value) a b Dc v' w' hc1 hd1 hn' (fun x hx => by simp [hx]) hb (by simp; omega) hok, hgr, hfG⟩
  obtain ⟨m1, m2, m3, m4, m5, m6, m7⟩ := hHB G w w (Fr.refl _ _) (Grows.refl _ _) (Fr.refl _ _)
  obtain ⟨n, hnn⟩ : ∃ n, n = l.length := ⟨_, rfl⟩
  rw [← hnn] at hvl hfit
  have hHBb : ∀ wB, Fr [] wA wB → _ := fun wB hB => hHB G wB wB (hfAG.trans (hB.mono (by simp))) (Grows.refl _ _) (Fr.refl _ _)
  unfold RepPost at HREP
  rw [← hR, hwA] at HREP
  rw [hwA] at HAP hHBb
  rw [hvl] at HAP m3 hHB hHBb
  have HREP := hide HREP
  have HAP := hide HAP
  have HB := hide hHB
  have HBB := hide hHBb
  have z1 : IntKind.i64.wrap ((n : Int) + (least : Int)) = (n : Int) + (least : Int) := IntWalk.i64_in _ (by omega)
  have z2 : IntKind.i64.wrap ((n : Int) + (least : Int) + (v : Int)) = (n : Int) + (least : Int) + (v : Int) := IntWalk.i64_in _ (by omega)
  have z3 : IntKind.i64.wrap ((a : Int) + (b : Int)) = (a : Int) + (b : Int) := IntWalk.i64_in _ (by omega)
  have z4 : IntKind.i64.wrap (m : Int) = (m : Int) := IntWalk.i64_in _ (by omega)
  have z5 : (least : Int) + (v : Int) = (m : Int) := by omega
  have d1 : decide ((a : Int) + (b : Int) < (n : Int) + (least : Int) + (v : Int)) = false := by simp; omega
  have hRl : R = w.heap.size + 1 := by rw [hR, hwA]; simp
  have HRL := hide hRl
  clear hc hp hpc hpl hpa hpb hpm hpv hd hn hg hok hnA hwA hfA hA hHB hfAG hHBb hvl hnn hR hmm n1 n2 n3 n4 n5 n6 n7 c1 c2 c3 c4 c5 c6 c7 hRl hfit
  go_enter Tryz.func163, Tryz.ntmps163
  go_upto_region 3 with (fail)
  go_region_held3 (fun W => W.cell? ⟨b1, 0, none⟩ = some (.pointer (some ⟨D, 0, none⟩)) ∧ W.cell? ⟨b2, 0, none⟩ = some (.pointer (some ⟨Dc, 0, none⟩)) ∧ W.cell? ⟨b3, 0, none⟩ = some (.slice av n cv) ∧ W.cell? ⟨b4, 0, none⟩ = some (.int .i64 a) ∧ W.cell? ⟨b5, 0, none⟩ = some (.int .i64 b) ∧ W.cell? ⟨b6, 0, none⟩ = some (.int .i64 least) ∧ W.cell? ⟨b7, 0, none⟩ = some (.int .i64 value)) (go_keep) (first | ((with_reducible refine (unhide HREP).mono ?_); rintro e wB ⟨rfl, hfi, hfB⟩; obtain ⟨v', w', G', hap, hcall, hgr, hfG⟩ := HAP.out wB hfi hfB; obtain ⟨k1, k2, k3, k4, k5, k6, k7⟩ := HBB.out wB hfB; obtain ⟨j1, j2, j3, j4, j5, j6, j7⟩ := HB.out G' w' w' hfG hgr (Fr.refl _ _)) | ((with_reducible refine step_append_run rfl _ _ 77 rfl hap ?_ ?_ ?_); rfl; rfl) | ((with_reducible refine hcall.mono ?_); rintro e w2 ⟨rfl, hfp⟩; obtain ⟨i1, i2, i3, i4, i5, i6, i7⟩ := HB.out G' w' w2 hfG hgr hfp.choose_spec.2.2))
  obtain ⟨G2, hr2, hg2, hf2⟩ := hfp
  have HRES : Hid (FP D G inp rest w (lensNext C (l ++ List.replicate m value) a b last out fresh skip) (.returned (.int .i64 0)) w2) := hide ⟨rfl, G2, hr2, hgr.trans hg2 hfG.size, hfG.thru hgr hf2⟩
  clear hr2 hg2 hf2 hfG hgr hcall hap hfi hfB
  go_wp2
  go_ret
  exact HRES.out
end Go.Proofs.YthmhcnnigepohaaGreatDoor.If

/- inflate.Decoder as a machine: what firing does; one theorem for all closures. -/
namespace Go.Proofs.YthmhcnnigepohaaGreatDoor.If
open Go.RowKit
open Dg (BAt bcells)
open Hf (NAt zI IR)
set_option linter.unusedVariables false
variable [Foreign]

/-- Room for n bytes more. -/
def Room (inp : Int) (o f : List UInt8) (n : Nat) : Prop := o.length + n ≤ 65536 ∧ (o.length : Int) + n ≤ 1100 * inp + 1024 ∧ f.length + n ≤ 65536 ∧ 0 ≤ inp ∧ inp ≤ 1000000
def Lens2 (l : List Nat) (a b : Nat) : Prop := 1 ≤ a ∧ 1 ≤ b ∧ a ≤ 300 ∧ b ≤ 300 ∧ (l.length = a + b → LOk (l.take a) ∧ LOk (l.drop a))
inductive Fires (inp : Int) : PS → Nat → PS → Prop
  | stored {q c l o f k} : Fires inp ⟨.blk, q, c, l, o, f, k⟩ 1 ⟨.slen, 0, 0, true, o, f, true⟩
  | fixed {q c l o f k} : Fires inp ⟨.blk, q, c, l, o, f, k⟩ 3 ⟨.lit fixL fixD, 0, 0, true, o, f, k⟩
  | dyn {q c l o f k} : Fires inp ⟨.blk, q, c, l, o, f, k⟩ 5 ⟨.hlit, 0, 0, true, o, f, k⟩
  | slen {q c l o f k v} (h : v ≤ 65535) : Fires inp ⟨.slen, q, c, l, o, f, k⟩ v ⟨.schk v, 0, 0, l, o, f, k⟩
  | schk {q c l o f k n} (h : n ≤ 65535) (h0 : n ≠ 0) : Fires inp ⟨.schk n, q, c, l, o, f, k⟩ (65535 - n) ⟨.raw n, 0, 0, l, o, f, k⟩
  | schk0 {q c o f k} : Fires inp ⟨.schk 0, q, c, true, o, f, k⟩ 65535 ⟨.fin, 0, 0, true, o, f, k⟩
  | raw {q c l o f k m} {b : UInt8} (h : Room inp o f 1) (hm : m ≠ 0) (hn : m + 1 ≤ 70000) : Fires inp ⟨.raw (m + 1), q, c, l, o, f, k⟩ b.toNat ⟨.raw m, 0, 0, l, o ++ [b], f ++ [b], k⟩
  | raw1 {q c o f k} {b : UInt8} (h : Room inp o f 1) : Fires inp ⟨.raw 1, q, c, true, o, f, k⟩ b.toNat ⟨.fin, 0, 0, true, o ++ [b], f ++ [b], k⟩
  | hlit {q c l o f k v} (h : v ≤ 29) : Fires inp ⟨.hlit, q, c, l, o, f, k⟩ v ⟨.hdist (v + 257), 0, 0, l, o, f, k⟩
  | hdist {q c l o f k v a} (h : v ≤ 29) : Fires inp ⟨.hdist a, q, c, l, o, f, k⟩ v ⟨.hclen a (v + 1), 0, 0, l, o, f, k⟩
  | hclen {q c l o f k v a b} (h : v ≤ 15) : Fires inp ⟨.hclen a b, q, c, l, o, f, k⟩ v ⟨.third (List.replicate 19 0) 0 (v + 4) a b, 0, 0, l, o, f, k⟩
  | third {q c l o f k v t i n a b} (hi : i + 1 < n) (hn : n ≤ 19) (hv : v ≤ 7) (ha : 1 ≤ a ∧ a ≤ 1000 ∧ b ≤ 1000) : Fires inp ⟨.third t i n a b, q, c, l, o, f, k⟩ v ⟨.third (t.set (ORD.getD i 0) v) (i + 1) n a b, 0, 0, l, o, f, k⟩
  | third1 {q c l o f k v t i a b} (hn : i + 1 ≤ 19) (hv : v ≤ 7) (ha : 1 ≤ a ∧ a ≤ 1000 ∧ b ≤ 1000) (ok : LOk (t.set (ORD.getD i 0) v)) : Fires inp ⟨.third t i (i + 1) a b, q, c, l, o, f, k⟩ v ⟨.lens (t.set (ORD.getD i 0) v) [] a b, 0, 0, l, o, f, k⟩
  | lens {l o f k v C t a b} (hv : v < 16) (hl : t.length ≤ 600) (ok : Lens2 (t ++ [v]) a b) : Fires inp ⟨.lens C t a b, 0, 0, l, o, f, k⟩ v (lensNext C (t ++ [v]) a b l o f k)
  | prev {l o f k C t a b} (h0 : 0 < t.length) (hl : t.length ≤ 1000) : Fires inp ⟨.lens C t a b, 0, 0, l, o, f, k⟩ 16 ⟨.rep C t a b 2 3 (t.getD (t.length - 1) 0), 0, 0, l, o, f, k⟩
  | zero3 {l o f k C t a b} : Fires inp ⟨.lens C t a b, 0, 0, l, o, f, k⟩ 17 ⟨.rep C t a b 3 3 0, 0, 0, l, o, f, k⟩
  | zero7 {l o f k C t a b} : Fires inp ⟨.lens C t a b, 0, 0, l, o, f, k⟩ 18 ⟨.rep C t a b 7 11 0, 0, 0, l, o, f, k⟩
  | rep {q c l o f k v C t a b bits least value} (hv : v ≤ 127) (hm : 1 ≤ least ∧ least ≤ 11) (hfit : t.length + least + v ≤ a + b) (ok : Lens2 (t ++ List.replicate (least + v) value) a b) : Fires inp ⟨.rep C t a b bits least value, q, c, l, o, f, k⟩ v (lensNext C (t ++ List.replicate (least + v) value) a b l o f k)
  | byte {l o f k A B} {b : UInt8} (h : Room inp o f 1) : Fires inp ⟨.lit A B, 0, 0, l, o, f, k⟩ b.toNat ⟨.lit A B, 0, 0, l, o ++ [b], f ++ [b], k⟩
  | stop {o f k A B} : Fires inp ⟨.lit A B, 0, 0, true, o, f, k⟩ 256 ⟨.fin, 0, 0, true, o, f, k⟩
  | len {l o f k A B v} (h1 : 257 ≤ v) (h2 : v ≤ 285) : Fires inp ⟨.lit A B, 0, 0, l, o, f, k⟩ v ⟨.lenx A B (lenM v) (lenK v), 0, 0, l, o, f, k⟩
  | lenx {q c l o f k A B n bits v} : Fires inp ⟨.lenx A B n bits, q, c, l, o, f, k⟩ v ⟨.dist A B n v, 0, 0, l, o, f, k⟩
  | dist {l o f k A B n m v} (h : v ≤ 29) : Fires inp ⟨.dist A B n m, 0, 0, l, o, f, k⟩ v ⟨.distx A B n m (dstM v) (dstK v), 0, 0, l, o, f, k⟩
  | distx {q c l o f k A B n m far bits v} (h : Room inp o f (n + m)) (h1 : 1 ≤ far + v) (h2 : far + v ≤ o.length) : Fires inp ⟨.distx A B n m far bits, q, c, l, o, f, k⟩ v ⟨.lit A B, 0, 0, l, o ++ cp (far + v) (n + m) o, f ++ cp (far + v) (n + m) o, k⟩

theorem dec_ptr {w : World} {G : List Nat} {v : Value} {L : List Nat} {n c : Nat} (h : Dec w G v L n c) : ∃ D, v = ptr D := by
  obtain ⟨D, _, _, h1, _⟩ := h
  exact ⟨D, h1⟩
omit [Foreign] in
theorem ptr_ne {a b : Nat} (h : ptr a ≠ ptr b) : a ≠ b := fun e => h (by rw [e])
omit [Foreign] in
theorem room1 {inp : Int} {o f : List UInt8} (h : Room inp o f 1) : (0 ≤ inp ∧ inp ≤ 1000000) ∧ o.length < 65536 ∧ (o.length : Int) < 1100 * inp + 1024 ∧ f.length ≤ 65536 := by
  obtain ⟨a, b, c, d, e⟩ := h
  exact ⟨⟨d, e⟩, by omega, by omega, by omega⟩

theorem fire_any {w : World} {D : Nat} {G : List Nat} {inp : Int} {rest : ByteArray} {s s' : PS} {v : Nat} (hF : Fires inp s v s') (h : Rep w D G inp rest s) (ho : Ost w) (h0 : 0 ∉ G) :
    ∃ d fid caps, DI w D d ∧ d.next = .func (.func fid) #[] caps ∧ (∀ args W, (callFunc fid args).run Tryz.prog W = .ok (.enter fid args) W) ∧ Calls Tryz.prog fid (#[.int .i64 (v : Int)] ++ caps) w (FP D G inp rest w s') := by
  obtain ⟨d, gp, gf, hc, hk⟩ := h
  refine ⟨d, ?_⟩
  cases hF with
  | stored =>
    obtain ⟨_, p, hn, hp⟩ := hk
    exact ⟨_, _, hc.di, hn, Tryz.call136, fire136_stored D G d gp gf inp rest _ _ _ _ p w hc hp⟩
  | fixed =>
    obtain ⟨_, p, hn, hp⟩ := hk
    exact ⟨_, _, hc.di, hn, Tryz.call136, fire136_fixed D G d gp gf inp rest _ _ _ _ p w hc hp⟩
  | dyn =>
    obtain ⟨_, p, hn, hp⟩ := hk
    exact ⟨_, _, hc.di, hn, Tryz.call136, fire136_dyn D G d gp gf inp rest _ _ _ _ p w hc hp⟩
  | slen hv =>
    obtain ⟨_, p, hn, hp⟩ := hk
    exact ⟨_, _, hc.di, hn, Tryz.call141, fire141 D G d gp gf inp rest _ _ _ _ _ p w hc hp⟩
  | schk hv hv0 =>
    obtain ⟨_, p, pn, hn, hp, hpn⟩ := hk
    exact ⟨_, _, hc.di, hn, Tryz.call142, fire142 D G d gp gf inp rest _ _ _ _ _ _ p pn w hc hp hpn hv rfl hv0⟩
  | schk0 =>
    obtain ⟨_, p, pn, hn, hp, hpn⟩ := hk
    exact ⟨_, _, hc.di, hn, Tryz.call142, fire142_end D G d gp gf inp rest _ _ _ _ 0 p pn w hc hp hpn rfl rfl⟩
  | raw hr hm hn1 =>
    obtain ⟨_, p, pn, hn, hp, hpn⟩ := hk
    obtain ⟨r1, r2, r3, r4⟩ := room1 hr
    exact ⟨_, _, hc.di, hn, Tryz.call149, fire149 D G d gp gf inp rest _ _ _ _ _ _ _ p pn w hc hp hpn r1 r2 r3 r4 hn1 rfl hm⟩
  | raw1 hr =>
    obtain ⟨_, p, pn, hn, hp, hpn⟩ := hk
    obtain ⟨r1, r2, r3, r4⟩ := room1 hr
    exact ⟨_, _, hc.di, hn, Tryz.call149, fire149_end D G d gp gf inp rest _ _ _ _ _ 1 p pn w hc hp hpn r1 r2 r3 r4 rfl rfl⟩
  | hlit hv =>
    obtain ⟨_, p, hn, hp⟩ := hk
    exact ⟨_, _, hc.di, hn, Tryz.call145, fire145 D G d gp gf inp rest _ _ _ _ _ p w hc hp hv⟩
  | hdist hv =>
    obtain ⟨_, p, pl, hn, hp, hpl⟩ := hk
    exact ⟨_, _, hc.di, hn, Tryz.call146, fire146 D G d gp gf inp rest _ _ _ _ _ p pl _ w hc hp hpl hv⟩
  | hclen hv =>
    obtain ⟨_, p, pl, pn, hn, hp, hpl, hpn⟩ := hk
    exact ⟨_, _, hc.di, hn, Tryz.call147, fire147 D G d gp gf inp rest _ _ _ _ _ _ _ p pl pn w hc hp hpl hpn hv⟩
  | third hi hn1 hv ha =>
    obtain ⟨_, p, pl, pi, pn, pa, pb, L, hn, hp, hpl, hpi, hpn, hpa, hpb, hL, hl, har⟩ := hk
    have := fire154 D G d gp gf inp rest _ _ _ _ v _ _ _ _ _ L p pl pi pn pa pb w hc hp hpl hpi hpn hpa hpb hL hl har ho h0 (by omega) hn1 hv ha (fun h => by omega)
    rw [if_neg (by omega)] at this
    exact ⟨_, _, hc.di, hn, Tryz.call154, this⟩
  | third1 hn1 hv ha ok =>
    obtain ⟨_, p, pl, pi, pn, pa, pb, L, hn, hp, hpl, hpi, hpn, hpa, hpb, hL, hl, har⟩ := hk
    have := fire154 D G d gp gf inp rest _ _ _ _ v _ _ _ _ _ L p pl pi pn pa pb w hc hp hpl hpi hpn hpa hpb hL hl har ho h0 (by omega) hn1 hv ha (fun h => ok)
    rw [if_pos rfl] at this
    exact ⟨_, _, hc.di, hn, Tryz.call154, this⟩
  | lens hv hl ok =>
    obtain ⟨p, pc, pl, pa, pb, pr, vc, vl, gl, _, hn, hp, hpc, hpl, hpa, hpb, hpr, hd, hnt, hg⟩ := hk
    obtain ⟨Dc, rfl⟩ := dec_ptr hd
    exact ⟨_, _, hc.di, hn, Tryz.call164, fire164_small D G d gp gf gl inp rest _ _ _ _ _ _ _ _ Dc v vl p pc pl pa pb pr w hc hp hpc hpl hpa hpb hd hnt hg hv ⟨ok.1, ok.2.1, ok.2.2.1, ok.2.2.2.1⟩ hl ok.2.2.2.2⟩
  | prev hl0 hl =>
    obtain ⟨p, pc, pl, pa, pb, pr, vc, vl, gl, _, hn, hp, hpc, hpl, hpa, hpb, hpr, hd, hnt, hg⟩ := hk
    obtain ⟨Dc, rfl⟩ := dec_ptr hd
    exact ⟨_, _, hc.di, hn, Tryz.call164, fire164_prev D G d gp gf gl inp rest _ _ _ _ _ _ _ _ Dc vl p pc pl pa pb pr w hc hp hpc hpl hpa hpb hpr hd hnt hg hl0 hl⟩
  | zero3 =>
    obtain ⟨p, pc, pl, pa, pb, pr, vc, vl, gl, _, hn, hp, hpc, hpl, hpa, hpb, hpr, hd, hnt, hg⟩ := hk
    obtain ⟨Dc, rfl⟩ := dec_ptr hd
    exact ⟨_, _, hc.di, hn, Tryz.call164, fire164_zero D G d gp gf gl inp rest _ _ _ _ _ _ _ _ Dc 17 3 3 vl p pc pl pa pb pr w hc hp hpc hpl hpa hpb hpr hd hnt hg (.inl ⟨rfl, rfl, rfl⟩)⟩
  | zero7 =>
    obtain ⟨p, pc, pl, pa, pb, pr, vc, vl, gl, _, hn, hp, hpc, hpl, hpa, hpb, hpr, hd, hnt, hg⟩ := hk
    obtain ⟨Dc, rfl⟩ := dec_ptr hd
    exact ⟨_, _, hc.di, hn, Tryz.call164, fire164_zero D G d gp gf gl inp rest _ _ _ _ _ _ _ _ Dc 18 7 11 vl p pc pl pa pb pr w hc hp hpc hpl hpa hpb hpr hd hnt hg (.inr ⟨rfl, rfl, rfl⟩)⟩
  | rep hv hm hfit ok =>
    obtain ⟨_, p, pc, pl, pa, pb, pm, pv, vc, vl, gl, hn, hp, hpc, hpl, hpa, hpb, hpm, hpv, hd, hnt, hg⟩ := hk
    obtain ⟨Dc, rfl⟩ := dec_ptr hd
    exact ⟨_, _, hc.di, hn, Tryz.call163, fire163 D G d gp gf gl inp rest _ _ _ _ _ _ _ _ Dc v _ _ vl p pc pl pa pb pm pv w hc hp hpc hpl hpa hpb hpm hpv hd hnt hg hv hm hfit ⟨ok.1, ok.2.1, ok.2.2.1, ok.2.2.2.1⟩ ok.2.2.2.2⟩
  | byte hr =>
    obtain ⟨p, pa, pb, va, vb, _, hn, hp, hpa, hpb, hda, hdb, hne⟩ := hk
    obtain ⟨Da, rfl⟩ := dec_ptr hda
    obtain ⟨Db, rfl⟩ := dec_ptr hdb
    obtain ⟨r1, r2, r3, r4⟩ := room1 hr
    exact ⟨_, _, hc.di, hn, Tryz.call157, fire157_byte D G d gp gf inp rest _ _ _ _ _ p pa pb _ _ Da Db w hc hp hpa hpb hda hdb (ptr_ne hne) r1 r2 r3 r4⟩
  | stop =>
    obtain ⟨p, pa, pb, va, vb, _, hn, hp, hpa, hpb, hda, hdb, hne⟩ := hk
    exact ⟨_, _, hc.di, hn, Tryz.call157, fire157_end D G d gp gf inp rest _ _ _ _ p pa pb w hc hp rfl⟩
  | len h1 h2 =>
    obtain ⟨p, pa, pb, va, vb, _, hn, hp, hpa, hpb, hda, hdb, hne⟩ := hk
    obtain ⟨Da, rfl⟩ := dec_ptr hda
    obtain ⟨Db, rfl⟩ := dec_ptr hdb
    exact ⟨_, _, hc.di, hn, Tryz.call157, fire157_len D G d gp gf inp rest _ _ _ _ v p pa pb _ _ Da Db w hc hp hpa hpb hda hdb (ptr_ne hne) h1 h2⟩
  | lenx =>
    obtain ⟨_, p, pa, pb, pn, va, vb, hn, hp, hpa, hpb, hpn, hda, hdb, hne⟩ := hk
    obtain ⟨Da, rfl⟩ := dec_ptr hda
    obtain ⟨Db, rfl⟩ := dec_ptr hdb
    exact ⟨_, _, hc.di, hn, Tryz.call158, fire158 D G d gp gf inp rest _ _ _ _ v p pb pn pa _ _ _ Da Db w hc hp hpb hpn hpa hda hdb (ptr_ne hne)⟩
  | dist hv =>
    obtain ⟨p, pa, pb, pn, pm, va, vb, _, hn, hp, hpa, hpb, hpn, hpm, hda, hdb, hne⟩ := hk
    obtain ⟨Da, rfl⟩ := dec_ptr hda
    obtain ⟨Db, rfl⟩ := dec_ptr hdb
    exact ⟨_, _, hc.di, hn, Tryz.call159, fire159 D G d gp gf inp rest _ _ _ _ v p pn pm pa pb _ _ _ Da Db _ w hc hp hpn hpm hpa hpb hda hdb (ptr_ne hne) hv⟩
  | distx hr h1 h2 =>
    obtain ⟨_, p, pa, pb, pn, pm, pf, va, vb, hn, hp, hpa, hpb, hpn, hpm, hpf, hda, hdb, hne⟩ := hk
    obtain ⟨Da, rfl⟩ := dec_ptr hda
    obtain ⟨Db, rfl⟩ := dec_ptr hdb
    obtain ⟨q1, q2, q3, q4, q5⟩ := hr
    exact ⟨_, _, hc.di, hn, Tryz.call160, fire160 D G d gp gf inp rest _ _ _ _ _ _ Da Db _ _ _ v p pn pm pf pa pb w hc hp hpn hpm hpf hpa hpb hda hdb (ptr_ne hne) ⟨q4, q5⟩ q1 q2 q3 h1 h2⟩
end Go.Proofs.YthmhcnnigepohaaGreatDoor.If

/- A scope with jumps back to one label, counted by a number that is no slot. -/
namespace Go.Proofs.YthmhcnnigepohaaGreatDoor.If
open Go.RowKit
set_option linter.unusedVariables false
variable [Foreign]

section
variable {P : Program} {a : Act} {w : World} {Q : Exit → Act → World → Prop}
omit [Foreign] in
theorem wp_scope_jumpsg {c rest : Code} (l : Nat) (J : Nat → Act → World → Prop) (hf : findLabel c l = some rest) (N : Nat)
    (pass : ∀ n a w, J n a w → rest.wp P (Exit.jump l (fun a' w' => ∃ m, m < n ∧ J m a' w') Q) a w)
    (first : c.wp P (Exit.jump l (fun a' w' => ∃ m, m < N ∧ J m a' w') Q) a w) : (Code.scope c).wp P Q a w := by
  intro b k cs
  have hg : gotoIn l (.inScope c :: k) = some (.code rest :: .inScope c :: k) := by simp [gotoIn, hf]
  have key : ∀ n a w, J n a w → ∃ e a' w', Q e a' w' ∧ Arrives P (lone (b.at a (.code rest :: .inScope c :: k)) cs w) b k cs e a' w' := by
    intro n
    induction n using Nat.strongRecOn with
    | _ n ih =>
      intro a w hJ
      obtain ⟨e, a₁, w₁, hq, harr⟩ := pass n a w hJ b (.inScope c :: k) cs
      cases e with
      | normal => exact ⟨.normal, a₁, w₁, hq, Steps.trans harr (.one step_inScope)⟩
      | exit id => exact ⟨.exit id, a₁, w₁, hq, fun k' hk => harr k' (by simp [exitTo, hk])⟩
      | goto l' =>
        obtain ⟨rfl, m, hlt, hJ'⟩ := hq
        obtain ⟨e₂, a₂, w₂, hq₂, harr₂⟩ := ih m hlt a₁ w₁ hJ'
        exact ⟨e₂, a₂, w₂, hq₂, .of_steps (harr _ hg) harr₂⟩
      | ret => exact ⟨_, a₁, w₁, hq, harr⟩
      | panic ch => exact ⟨_, a₁, w₁, hq, harr⟩
      | outgrown => exact ⟨_, a₁, w₁, hq, harr⟩
  obtain ⟨e, a₁, w₁, hq, harr⟩ := first b (.inScope c :: k) cs
  cases e with
  | normal => exact ⟨.normal, a₁, w₁, hq, .head step_scope (Steps.trans harr (.one step_inScope))⟩
  | exit id => exact ⟨.exit id, a₁, w₁, hq, fun k' hk => .head step_scope (harr k' (by simp [exitTo, hk]))⟩
  | goto l' =>
    obtain ⟨rfl, m, _, hJ'⟩ := hq
    obtain ⟨e₂, a₂, w₂, hq₂, harr₂⟩ := key m a₁ w₁ hJ'
    exact ⟨e₂, a₂, w₂, hq₂, .of_steps (.head step_scope (harr _ hg)) harr₂⟩
  | ret => exact ⟨_, a₁, w₁, hq, .of_steps (.one step_scope) harr⟩
  | panic ch => exact ⟨_, a₁, w₁, hq, .of_steps (.one step_scope) harr⟩
  | outgrown => exact ⟨_, a₁, w₁, hq, .of_steps (.one step_scope) harr⟩
omit [Foreign] in
theorem wp_scope_jumpsg2 {c rest : Code} (l : Nat) (J : Nat → Act → World → Prop) (hf : findLabel c l = some rest) (N : Nat)
    (pass : ∀ n a w, J n a w → rest.wp P (Exit.jump l (fun a' w' => ∃ m, m < n ∧ J m a' w') Q) a w)
    (first : (∀ n a w, J n a w → rest.wp P (Exit.jump l (fun a' w' => ∃ m, m < n ∧ J m a' w') Q) a w) → c.wp P (Exit.jump l (fun a' w' => ∃ m, m < N ∧ J m a' w') Q) a w) : (Code.scope c).wp P Q a w :=
  wp_scope_jumpsg l J hf N pass (first pass)
omit [Foreign] in
theorem wp_scope_jumpsg3 {c R : Code} (l : Nat) (J : Nat → Act → World → Prop) (hf : findLabel c l = some (.seq .skip R)) (N : Nat)
    (pass : ∀ n a w, J n a w → R.wp P (Exit.jump l (fun a' w' => ∃ m, m < n ∧ J m a' w') Q) a w)
    (first : (∀ n a w, J n a w → R.wp P (Exit.jump l (fun a' w' => ∃ m, m < n ∧ J m a' w') Q) a w) → c.wp P (Exit.jump l (fun a' w' => ∃ m, m < N ∧ J m a' w') Q) a w) : (Code.scope c).wp P Q a w :=
  wp_scope_jumpsg l J hf N (fun n a w h => wp_seq (wp_skip (pass n a w h))) (first pass)
omit [Foreign] in
theorem then_normal {K : Act → World → Prop} {C : Code} {Q' : Exit → Act → World → Prop} (hK : ∀ a w, C.wp P Q a w → K a w) (h : C.wp P Q a w) : Exit.then K Q' .normal a w := hK a w h
end

/-- A number of no bits is waited for. -/
def zero (s : PS) : Bool := match s.k with
  | .lenx _ _ _ 0 => true
  | .distx _ _ _ _ _ 0 => true
  | .rep _ _ _ _ 0 _ _ => true
  | _ => false
inductive Settles (inp : Int) : Nat → PS → Nat → PS → Prop
  | done {s v s'} (h : Fires inp s v s') (hz : zero s' = false) : Settles inp 0 s v s'
  | more {s v s1 n s'} (h : Fires inp s v s1) (hz : zero s1 = true) (k : Settles inp n s1 0 s') : Settles inp (n + 1) s v s'
/-- All that is so at the head of 'again'. -/
structure At (w0 : World) (G0 : List Nat) (D : Nat) (inp : Int) (rest : ByteArray) (s' : PS) (n v : Nat) (w : World) : Prop where
  ex : ∃ G s, Rep w D G inp rest s ∧ Settles inp n s v s' ∧ Grows w0 G0 G
  fr : Fr G0 w0 w
  ost : Ost w
def J (w0 : World) (G0 : List Nat) (D : Nat) (inp : Int) (rest : ByteArray) (s' : PS) (n : Nat) (a : Act) (w : World) : Prop :=
  ∃ (u1 u2 u3 u4 u6 u7 u8 u9 u10 u11 u12 u13 u14 u15 u16 u17 u18 u19 u20 u21 u22 u23 u24 u25 u26 u27 u28 u29 u30 u31 u32 u33 u34 u35 u36 u37 u38 u39 u40 u41 u42 u43 u44 u45 u46 u47 u48 u49 u50 u51 u52 u53 u54 u55 u56 u57 u58 u59 u60 u61 u62 u63 u64 u65 u66 u67 u68 u69 u70 u71 u72 u73 u74 u75 u76 u77 u78 u79 u80 u81 u82 u83 u84 u85 u86 u87 u88 u89 : Value) (v : Nat), a = { tmps := #[ptr D, u1, u2, u3, u4, .int .i64 (v : Int), u6, u7, u8, u9, u10, u11, u12, u13, u14, u15, u16, u17, u18, u19, u20, u21, u22, u23, u24, u25, u26, u27, u28, u29, u30, u31, u32, u33, u34, u35, u36, u37, u38, u39, u40, u41, u42, u43, u44, u45, u46, u47, u48, u49, u50, u51, u52, u53, u54, u55, u56, u57, u58, u59, u60, u61, u62, u63, u64, u65, u66, u67, u68, u69, u70, u71, u72, u73, u74, u75, u76, u77, u78, u79, u80, u81, u82, u83, u84, u85, u86, u87, u88, u89], defers := [] } ∧ At w0 G0 D inp rest s' n v w
/-- What the walk asks of the state behind a firing. -/
theorem rep_asks {w : World} {D : Nat} {G : List Nat} {inp : Int} {rest : ByteArray} {s : PS} (h : Rep w D G inp rest s) : ∃ d, DI w D d ∧ d.done = s.k.isFin ∧
    (s.k.isFin = true ∨ (s.k.isFin = false ∧ zero s = true ∧ d.code = .pointer none ∧ d.need = 0) ∨ (s.k.isFin = false ∧ zero s = false ∧ ((∃ p, d.code = .pointer (some p)) ∨ (d.code = .pointer none ∧ d.need ≠ 0)))) := by
  obtain ⟨d, gp, gf, hc, hk⟩ := h
  refine ⟨d, hc.di, hc.done, ?_⟩
  obtain ⟨k, q, c, l, o, f, sk⟩ := s
  cases k with
  | fin => exact .inl rfl
  | blk => exact .inr (.inr ⟨rfl, rfl, .inr ⟨hk.1.1, by rw [hk.1.2.1]; decide⟩⟩)
  | slen => exact .inr (.inr ⟨rfl, rfl, .inr ⟨hk.1.1, by rw [hk.1.2.1]; decide⟩⟩)
  | schk n => exact .inr (.inr ⟨rfl, rfl, .inr ⟨hk.1.1, by rw [hk.1.2.1]; decide⟩⟩)
  | raw n => exact .inr (.inr ⟨rfl, rfl, .inr ⟨hk.1.1, by rw [hk.1.2.1]; decide⟩⟩)
  | hlit => exact .inr (.inr ⟨rfl, rfl, .inr ⟨hk.1.1, by rw [hk.1.2.1]; decide⟩⟩)
  | hdist a => exact .inr (.inr ⟨rfl, rfl, .inr ⟨hk.1.1, by rw [hk.1.2.1]; decide⟩⟩)
  | hclen a b => exact .inr (.inr ⟨rfl, rfl, .inr ⟨hk.1.1, by rw [hk.1.2.1]; decide⟩⟩)
  | third t i n a b => exact .inr (.inr ⟨rfl, rfl, .inr ⟨hk.1.1, by rw [hk.1.2.1]; decide⟩⟩)
  | lens C t a b =>
    obtain ⟨p, pc, pl, pa, pb, pr, vc, vl, gl, he, hn, _, _, _, _, _, _, hd, _⟩ := hk
    obtain ⟨Dc, rfl⟩ := dec_ptr hd
    exact .inr (.inr ⟨rfl, rfl, .inl ⟨_, he⟩⟩)
  | rep C t a b bits least value =>
    cases bits with
    | zero => exact .inr (.inl ⟨rfl, rfl, hk.1.1, hk.1.2.1⟩)
    | succ m => exact .inr (.inr ⟨rfl, rfl, .inr ⟨hk.1.1, by rw [hk.1.2.1]; omega⟩⟩)
  | lit A B =>
    obtain ⟨p, pa, pb, va, vb, he, hn, hp, hpa, hpb, hda, hdb, hne⟩ := hk
    obtain ⟨Dc, rfl⟩ := dec_ptr hda
    exact .inr (.inr ⟨rfl, rfl, .inl ⟨_, he⟩⟩)
  | lenx A B n bits =>
    cases bits with
    | zero => exact .inr (.inl ⟨rfl, rfl, hk.1.1, hk.1.2.1⟩)
    | succ m => exact .inr (.inr ⟨rfl, rfl, .inr ⟨hk.1.1, by rw [hk.1.2.1]; omega⟩⟩)
  | dist A B n m =>
    obtain ⟨p, pa, pb, pn, pm, va, vb, he, hn, hp, hpa, hpb, hpn, hpm, hda, hdb, hne⟩ := hk
    obtain ⟨Dc, rfl⟩ := dec_ptr hdb
    exact .inr (.inr ⟨rfl, rfl, .inl ⟨_, he⟩⟩)
  | distx A B n m far bits =>
    cases bits with
    | zero => exact .inr (.inl ⟨rfl, rfl, hk.1.1, hk.1.2.1⟩)
    | succ m => exact .inr (.inr ⟨rfl, rfl, .inr ⟨hk.1.1, by rw [hk.1.2.1]; omega⟩⟩)

/-- The number of bits that is waited for. -/
def wantN : Ctl → Option Nat
  | .blk => some 3 | .slen => some 16 | .schk _ => some 16 | .raw _ => some 8 | .hlit => some 5 | .hdist _ => some 5 | .hclen _ _ => some 4 | .third _ _ _ _ _ => some 3
  | .rep _ _ _ _ bits _ _ => some bits | .lenx _ _ _ bits => some bits | .distx _ _ _ _ _ bits => some bits
  | _ => none
theorem KR.setnum {w w' : World} {D : Nat} {G : List Nat} {d d' : DV} {q c q' c' : Nat} {K : Ctl} {n : Nat} (h : KR w D G d q c K) (hw : wantN K = some n) (hD : DI w D d) (hm : D ∈ G) (hf : Fr [D] w w')
    (e1 : d'.code = d.code) (e2 : d'.need = d.need) (e3 : d'.next = d.next) (e4 : d'.have_ = q') (e5 : d'.acc = c') : KR w' D G d' q' c' K := by
  have hfG : Fr G w w' := hf.sub (fun b hb => by simp at hb; rw [hb]; exact hm)
  have hg := Grows.refl w G
  have hn : ∀ {t : Nat}, num w d q c t → num w' d' q' c' t := fun h => ⟨e1.trans h.1, e2.trans h.2.1, e4, e5⟩
  have hS : ∀ {v : Value} {g : Option Nat} {l : List Nat}, Hf.NAt w v g l → Hf.NAt w' v g l := fun h => SlAt.fr h hf (fun b hb hmm => by
    simp at hmm
    obtain ⟨cur, hc⟩ := SlAt.lt h b hb
    rw [hmm, hD] at hc
    injection hc with hc
    injection hc with _ hc _
    cases hc)
  have hA : ∀ {L : Nat} {g : Nat → Int}, Hf.Ar w L 3 19 g → Hf.Ar w' L 3 19 g := fun h => h.fr hf (fun hmm => by
    simp at hmm
    obtain ⟨cur, hc⟩ := ar_blk h
    rw [hmm, hD] at hc
    injection hc with hc
    injection hc with _ hc _
    cases hc)
  cases K with
  | fin => cases hw
  | lens => cases hw
  | lit => cases hw
  | dist => cases hw
  | blk => obtain ⟨h1, p, h2, h3⟩ := h; exact ⟨hn h1, p, e3.trans h2, h3.fr hfG hg⟩
  | slen => obtain ⟨h1, p, h2, h3⟩ := h; exact ⟨hn h1, p, e3.trans h2, h3.fr hfG hg⟩
  | schk => obtain ⟨h1, p, pn, h2, h3, h4⟩ := h; exact ⟨hn h1, p, pn, e3.trans h2, h3.fr hfG hg, h4.fr hfG hg⟩
  | raw => obtain ⟨h1, p, pn, h2, h3, h4⟩ := h; exact ⟨hn h1, p, pn, e3.trans h2, h3.fr hfG hg, h4.fr hfG hg⟩
  | hlit => obtain ⟨h1, p, h2, h3⟩ := h; exact ⟨hn h1, p, e3.trans h2, h3.fr hfG hg⟩
  | hdist => obtain ⟨h1, p, pn, h2, h3, h4⟩ := h; exact ⟨hn h1, p, pn, e3.trans h2, h3.fr hfG hg, h4.fr hfG hg⟩
  | hclen => obtain ⟨h1, p, pn, pm, h2, h3, h4, h5⟩ := h; exact ⟨hn h1, p, pn, pm, e3.trans h2, h3.fr hfG hg, h4.fr hfG hg, h5.fr hfG hg⟩
  | third => obtain ⟨h1, p, pl, pi, pn, pa, pb, L, h2, h3, h4, h5, h6, h7, h8, h9, h10, h11⟩ := h; exact ⟨hn h1, p, pl, pi, pn, pa, pb, L, e3.trans h2, h3.fr hfG hg, h4.fr hfG hg, h5.fr hfG hg, h6.fr hfG hg, h7.fr hfG hg, h8.fr hfG hg, h9, h10, hA h11⟩
  | rep => obtain ⟨h1, p, pc, pl, pa, pb, pm, pv, vc, vl, gl, h2, h3, h4, h5, h6, h7, h8, h9, h10, h11, h12⟩ := h; exact ⟨hn h1, p, pc, pl, pa, pb, pm, pv, vc, vl, gl, e3.trans h2, h3.fr hfG hg, h4.fr hfG hg, h5.fr hfG hg, h6.fr hfG hg, h7.fr hfG hg, h8.fr hfG hg, h9.fr hfG hg, h10.set hD hm hf, hS h11, h12⟩
  | lenx => obtain ⟨h1, p, pa, pb, pn, va, vb, h2, h3, h4, h5, h6, h7, h8, h9⟩ := h; exact ⟨hn h1, p, pa, pb, pn, va, vb, e3.trans h2, h3.fr hfG hg, h4.fr hfG hg, h5.fr hfG hg, h6.fr hfG hg, h7.set hD hm hf, h8.set hD hm hf, h9⟩
  | distx => obtain ⟨h1, p, pa, pb, pn, pm, pf, va, vb, h2, h3, h4, h5, h6, h7, h8, h9, h10, h11⟩ := h; exact ⟨hn h1, p, pa, pb, pn, pm, pf, va, vb, e3.trans h2, h3.fr hfG hg, h4.fr hfG hg, h5.fr hfG hg, h6.fr hfG hg, h7.fr hfG hg, h8.fr hfG hg, h9.set hD hm hf, h10.set hD hm hf, h11⟩
end Go.Proofs.YthmhcnnigepohaaGreatDoor.If

/- inflate.Decoder: bit, inside a number. -/
namespace Go.Proofs.YthmhcnnigepohaaGreatDoor.If
open Go.RowKit
set_option linter.unusedVariables false
variable [Foreign]

omit [Foreign] in
theorem acc_or (c m q : Nat) (hc : c < 2 ^ q) (hm : m % 2 ^ q = 0) (hq : m < 1048576) (hc2 : c < 1048576) : bits .or .i64 (c : Int) (m : Int) = ((c + m : Nat) : Int) := by
  have h1 : bits .or .i64 (c : Int) (m : Int) = bits .or .i64 (m : Int) (c : Int) := by simp only [bits, BitVec.or_comm]
  rw [h1, bits_join .i64 63 (by decide) (fun n h0 h1 => IntWalk.i64_in _ (by omega)) q (m : Int) (c : Int) (by omega) (by exact_mod_cast hm) (by omega) (by omega) (by exact_mod_cast hc) (by omega)]
  omega
/-- A number's state, taken apart. -/
theorem rep_num {w : World} {D : Nat} {G : List Nat} {inp : Int} {rest : ByteArray} {s : PS} {n : Nat} (h : Rep w D G inp rest s) (hw : wantN s.k = some n) : ∃ d gp gf, Core w D G d gp gf inp rest s.last false s.skip s.out s.fresh ∧ KR w D G d s.q s.c s.k ∧ d.code = .pointer none ∧ d.need = n ∧ d.have_ = s.q ∧ d.acc = s.c := by
  obtain ⟨d, gp, gf, hc, hk⟩ := h
  obtain ⟨k, q, c, l, o, f, sk⟩ := s
  simp only at hw hc hk
  have hfin : k.isFin = false := by cases k <;> first | rfl | cases hw
  rw [hfin] at hc
  refine ⟨d, gp, gf, hc, hk, ?_⟩
  have hx : num w d q c n := by
    cases k with
    | fin => cases hw
    | lens => cases hw
    | lit => cases hw
    | dist => cases hw
    | blk => injection hw with hw; subst hw; exact hk.1
    | slen => injection hw with hw; subst hw; exact hk.1
    | schk => injection hw with hw; subst hw; exact hk.1
    | raw => injection hw with hw; subst hw; exact hk.1
    | hlit => injection hw with hw; subst hw; exact hk.1
    | hdist => injection hw with hw; subst hw; exact hk.1
    | hclen => injection hw with hw; subst hw; exact hk.1
    | third => injection hw with hw; subst hw; exact hk.1
    | rep => injection hw with hw; subst hw; exact hk.1
    | lenx => injection hw with hw; subst hw; exact hk.1
    | distx => injection hw with hw; subst hw; exact hk.1
  exact ⟨hx.1, hx.2.1, hx.2.2.1, hx.2.2.2⟩

set_option maxRecDepth 100000 in
set_option maxHeartbeats 4000000 in
theorem bit131_num_more (D : Nat) (G : List Nat) (inp : Int) (rest : ByteArray) (s : PS) (n b : Nat) (w : World) (h : Rep w D G inp rest s) (hw : wantN s.k = some n) (hq : s.q + 1 < n) (hn : n ≤ 16) (hc : s.c < 2 ^ s.q) (hb : b ≤ 1) :
    Calls Tryz.prog 131 #[.pointer (some ⟨D, 0, none⟩), .int .i64 b] w (FP D G inp rest w { s with q := s.q + 1, c := s.c + b * 2 ^ s.q }) := by
  obtain ⟨d, gp, gf, hcore, hk, y1, y2, y3, y4⟩ := rep_num h hw
  obtain ⟨k, q, c, l, o, f, sk⟩ := s
  simp only at hcore hk y3 y4 hw hq hc ⊢
  obtain ⟨P, hP⟩ : ∃ P, P = 2 ^ q := ⟨_, rfl⟩
  have hPb : P ≤ 65536 := by rw [hP]; exact Nat.pow_le_pow_right (n := 2) (by omega) (show q ≤ 16 by omega)
  obtain ⟨m, hm⟩ : ∃ m, m = b * P := ⟨_, rfl⟩
  have hmb : m ≤ 65536 := by rw [hm]; have : b * P ≤ 1 * 65536 := Nat.mul_le_mul hb hPb; omega
  have hor := acc_or c m q hc (by rw [hm, hP]; exact Nat.mul_mod_left _ _) (by omega) (by rw [← hP] at hc; omega)
  obtain ⟨r, hr⟩ : ∃ r, r = c + m := ⟨_, rfl⟩
  rw [← hr] at hor
  have hrr : c + b * 2 ^ q = r := by rw [hr, hm, hP]
  have e3 : (2 : Int) ^ q = (P : Int) := by rw [hP]; simp
  have e4 : (b : Int) * (P : Int) = (m : Int) := by rw [hm]; simp
  rw [hrr]
  obtain ⟨w1, hw1⟩ : ∃ x, x = ((w.setCell ⟨D, 11, none⟩ (.int .i64 r)).setCell ⟨D, 12, none⟩ (.int .i64 ((q : Int) + 1))).drew := ⟨_, rfl⟩
  have hd1 : DI w1 D { d with acc := (r : Int), have_ := (q : Int) + 1 } := by
    rw [hw1]
    show ((w.setCell ⟨D, 11, none⟩ (.int .i64 r)).setCell ⟨D, 12, none⟩ (.int .i64 ((q : Int) + 1))).heap[D]? = _
    rw [heap_set, heap_set, hcore.di]
    rfl
  have hf1 : Fr [D] w w1 := by rw [hw1]; exact (((Fr.refl [D] w).setCell (.inl (by simp)) _).setCell (.inl (by simp)) _).drew
  have HRES : Hid (∀ j, FP D G inp rest w ⟨k, q + 1, r, l, o, f, sk⟩ (.returned (.int .i64 0)) (w1.drewN j)) := by
    refine hide (fun j => ?_)
    have hfj : Fr [D] w (w1.drewN j) := hf1.drewN j
    have hdj : DI (w1.drewN j) D { d with acc := (r : Int), have_ := (q : Int) + 1 } := hd1
    have hfin : k.isFin = false := by cases k <;> first | rfl | cases hw
    exact ⟨rfl, G, ⟨{ d with acc := (r : Int), have_ := (q : Int) + 1 }, gp, gf, by show Core _ D G _ gp gf inp rest l k.isFin sk o f; rw [hfin]; exact hcore.set hdj hfj rfl rfl rfl rfl rfl rfl rfl rfl, hk.setnum hw hcore.di hcore.mem hfj rfl rfl rfl (by simp) rfl⟩, Grows.refl _ _, hcore.frG hfj⟩
  have hl := hcore.di.lt
  have c11 : w.cell? ⟨D, 11, none⟩ = some (.int .i64 c) := by rw [cell_blk hcore.di]; show some (Value.int .i64 d.acc) = _; rw [y4]
  have c12 : w.cell? ⟨D, 12, none⟩ = some (.int .i64 q) := by rw [cell_blk hcore.di]; show some (Value.int .i64 d.have_) = _; rw [y3]
  have c13 : w.cell? ⟨D, 13, none⟩ = some (.int .i64 n) := by rw [cell_blk hcore.di]; show some (Value.int .i64 d.need) = _; rw [y2]
  have c14 : w.cell? ⟨D, 14, none⟩ = some (.pointer none) := by rw [cell_blk hcore.di]; show some d.code = _; rw [y1]
  have f11 : w.frozen? ⟨D, 11, none⟩ = false := froz_blk hcore.di 11
  have f12 : w.frozen? ⟨D, 12, none⟩ = false := froz_blk hcore.di 12
  have b0 : (0 : Int) ≤ (q : Int) ∧ (q : Int) < 64 := by omega
  have z1 : IntKind.i64.wrap (m : Int) = (m : Int) := IntWalk.i64_in _ (by omega)
  have d1 : decide ((q : Int) + 1 < (n : Int)) = true := by simp; omega
  have HW := hide hw1
  clear h hcore hk y1 y2 y3 y4 hw hc hb hP hm hr hrr hw1 hd1 hf1
  go_enter Tryz.func131, Tryz.ntmps131
  go_wp2
  go_step3
  go_upto_region 9 with (fail)
  go_still_tail 13, (by kernel_rfl)
  change wpList _ _ _ _ _ w.drew
  go_upto_region 11 with (fail)
  go_quiet (fail)
  go_wp2
  try rw [Exit.noGoto_ret]
  go_ret
  rw [HW.out] at HRES
  exact HRES.out _
end Go.Proofs.YthmhcnnigepohaaGreatDoor.If

/- inflate.Decoder: a code's decoder steps; bit inside a symbol's code. -/
namespace Go.Proofs.YthmhcnnigepohaaGreatDoor.If
open Go.RowKit
open Dg (BAt bcells)
open Hf (DB NAt stt lgs code fst cnt lgs_ge code_in code_fits on_way syk_get halve)
set_option linter.unusedVariables false
variable [Foreign]

section
variable {w w' : World} {L : List Nat} {D : Nat} {g : Option Nat} {sv : Value} {n c n' c' : Nat}
omit [Foreign] in
theorem code_bd2 (k : LOk L) {s : Nat} (hs : s < L.length) (h0 : 0 < L.getD s 0) : code L s < 32768 ∧ L.getD s 0 ≤ 15 := by
  have h1 := code_fits k.hL k.kr hs h0
  have h2 : L.getD s 0 ≤ 15 := by
    have e : L.getD s 0 = L[s] := by simp [List.getD, List.getElem?_eq_getElem hs]
    rw [e]; exact k.hL _ (List.getElem_mem _)
  have h3 := Nat.pow_le_pow_right (n := 2) (by omega) h2
  omega
omit [Foreign] in
/-- The last bit of a symbol's code. -/
theorem step_last (hd : DB w D L (stt L) (lgs L 15) c n sv) (hn : NAt w sv g (Hf.sys L 15)) (hg : ∀ b, g = some b → b ≠ D) (k : LOk L) {s : Nat} (hs : s < L.length) (hy : L.getD s 0 = n + 1) (hc : c = code L s / 2 ^ (0 + 1)) (bit : Nat) (hb : bit = code L s % 2) :
    Calls Tryz.prog 140 #[.pointer (some ⟨D, 0, none⟩), .int .i64 bit] w (fun e w' => e = .returned (.tuple #[.int .i64 s, .bool true, .int .i64 0]) ∧ DB w' D L (stt L) (lgs L 15) ((0 : Nat) : Int) ((0 : Nat) : Int) sv ∧ Fr [D] w w') := by
  obtain ⟨hcb, hyb⟩ := code_bd2 k hs (by omega)
  have hh := halve (code L s) 0
  rw [Nat.pow_zero, Nat.div_one, ← hc] at hh
  have hlen := k.len
  obtain ⟨a1, a2, _⟩ := code_in k.hL hs (by omega)
  rw [hy] at a1 a2 hyb
  have hcn : cnt L (n + 1) ≠ 0 := by omega
  have hsy := syk_get hs hy L.length hs (Nat.le_refl _)
  have hcd : code L s = fst L (n + 1) + Hf.pre L (n + 1) s := by unfold Hf.code; rw [hy, if_neg (by omega)]
  refine Hf.step22_hit D L c n (code L s % 2) g sv bit w hd hn hg k.hL (by omega) (by omega) (by omega) (by rw [hb]; omega) s ?_
  rw [hh]
  exact ⟨lgs_ge 15 hyb hcn, a1, a2, by rw [hcd, Nat.add_sub_cancel_left]; exact hsy⟩
omit [Foreign] in
/-- A bit before the last one. -/
theorem step_more (hd : DB w D L (stt L) (lgs L 15) c n sv) (hn : NAt w sv g (Hf.sys L 15)) (hg : ∀ b, g = some b → b ≠ D) (k : LOk L) {s t : Nat} (hs : s < L.length) (ht : 0 < t) (hy : L.getD s 0 = n + 1 + t) (hc : c = code L s / 2 ^ (t + 1)) (bit : Nat) (hb : bit = code L s / 2 ^ t % 2) :
    Calls Tryz.prog 140 #[.pointer (some ⟨D, 0, none⟩), .int .i64 bit] w (fun e w' => e = .returned (.tuple #[.int .i64 0, .bool false, .int .i64 0]) ∧ DB w' D L (stt L) (lgs L 15) ((code L s / 2 ^ t : Nat) : Int) ((n + 1 : Nat) : Int) sv ∧ Fr [D] w w') := by
  obtain ⟨hcb, hyb⟩ := code_bd2 k hs (by omega)
  have hh := halve (code L s) t
  rw [← hc] at hh
  have hlen := k.len
  have hcn : cnt L (L.getD s 0) ≠ 0 := by
    have := code_in k.hL hs (by omega)
    omega
  have hlg := lgs_ge 15 hyb hcn
  have how := on_way k.hL hs (n := n + 1) (by omega)
  rw [show L.getD s 0 - (n + 1) = t by omega] at how
  have hcb2 : c ≤ code L s := by rw [hc]; exact Nat.div_le_self _ _
  have hstep := Hf.step22_on D L c n (code L s / 2 ^ t % 2) g sv bit w hd hn hg k.hL (by omega) (by omega) (by omega) (by rw [hb]; omega) (by
    rw [hh]
    exact ⟨by omega, by omega, how⟩)
  rw [hh] at hstep
  exact hstep
end

/-- The code whose symbol is waited for. -/
def wantS : Ctl → Option (List Nat)
  | .lens C _ _ _ => some C
  | .lit A _ => some A
  | .dist _ B _ _ => some B
  | _ => none
section
variable {w w' : World} {D : Nat} {G S : List Nat} {d : DV} {gp gf : Option Nat} {inp : Int} {rest : ByteArray} {last done skip : Bool} {out fresh : List UInt8}
/-- A code's decoder is written. -/
theorem Core.step (h : Core w D G d gp gf inp rest last done skip out fresh) {Da : Nat} {cs : Array Value} (hb : w.heap[Da]? = some (.cells cs 207 (0, 0))) (hf : Fr [Da] w w') : Core w' D G d gp gf inp rest last done skip out fresh := by
  obtain ⟨o1, o2, o3, o4, o5, o6⟩ := h.outs
  have hD : D ∉ [Da] := fun hm => by
    simp at hm
    rw [← hm, h.di] at hb; injection hb with hb; injection hb with _ hb _; cases hb
  have hB : ∀ {v : Value} {g : Option Nat} {l : List UInt8}, BAt w v g l → ∀ b, g = some b → b ∉ [Da] := fun hx b hg hm => by
    simp at hm
    obtain ⟨cur, hc2⟩ := SlAt.lt hx b hg
    rw [hm, hb] at hc2; injection hc2 with hc2; injection hc2 with _ hc2 _; cases hc2
  exact ⟨h.di.fr hf hD, h.mem, h.inn.fr hf, ⟨SlAt.fr o1 hf (hB o1), SlAt.fr o2 hf (hB o2), o3, o4, o5, o6⟩, h.last, h.done, h.skip, h.inp, h.rest⟩
/-- What the walk asks of a state that waits for a symbol, and what a step of the code's decoder leaves. -/
theorem rep_sym {s : PS} {L : List Nat} (h : Rep w D G inp rest s) (hw : wantS s.k = some L) : ∃ d gp gf Da g sv, Core w D G d gp gf inp rest s.last false s.skip s.out s.fresh ∧ d.code = ptr Da ∧ Da ∈ G ∧ (∀ b, g = some b → b ≠ Da) ∧ DB w Da L (stt L) (lgs L 15) s.c s.q sv ∧ NAt w sv g (Hf.sys L 15) ∧
    ∀ w' (q' c' : Nat), Fr [Da] w w' → DB w' Da L (stt L) (lgs L 15) c' q' sv → Rep w' D G inp rest { s with q := q', c := c' } := by
  obtain ⟨d, gp, gf, hc, hk⟩ := h
  obtain ⟨k, q, c, l, o, f, sk⟩ := s
  simp only at hw hc hk
  have hfin : k.isFin = false := by cases k <;> first | rfl | cases hw
  rw [hfin] at hc
  have key : ∀ {va : Value}, Dec w G va L q c → d.code = va → (∀ w' (q' c' : Nat), Fr G w w' → (∀ Da, va = ptr Da → Fr [Da] w w') → Dec w' G va L q' c' → KR w' D G d q' c' k) → ∃ d gp gf Da g sv, Core w D G d gp gf inp rest l false sk o f ∧ d.code = ptr Da ∧ Da ∈ G ∧ (∀ b, g = some b → b ≠ Da) ∧ DB w Da L (stt L) (lgs L 15) c q sv ∧ NAt w sv g (Hf.sys L 15) ∧
      ∀ w' (q' c' : Nat), Fr [Da] w w' → DB w' Da L (stt L) (lgs L 15) c' q' sv → Rep w' D G inp rest ⟨k, q', c', l, o, f, sk⟩ := by
    intro va hdec hcode hnext
    obtain ⟨Da, g, sv, h1, h2, h3, h4, h5⟩ := hdec
    refine ⟨d, gp, gf, Da, g, sv, hc, hcode.trans h1, h2, fun b hb e => (h3 b hb).1 (e ▸ h2), h4, h5, fun w' q' c' hf hdb => ?_⟩
    obtain ⟨cur, hcur, _⟩ := h4
    have hsub : ∀ b ∈ [Da], b ∈ G := fun b hb => by simp at hb; rw [hb]; exact h2
    refine ⟨d, gp, gf, by show Core w' D G d gp gf inp rest l k.isFin sk o f; rw [hfin]; exact hc.step hcur hf, hnext w' q' c' (hf.sub hsub) (fun Da' hDa' => ?_) ⟨Da, g, sv, h1, h2, h3, hdb, SlAt.fr h5 hf (fun b hb hm => (h3 b hb).1 (hsub b hm))⟩⟩
    rw [h1] at hDa'
    injection hDa' with hDa'
    injection hDa' with hDa'
    injection hDa' with hDa' _
    rw [← hDa']
    exact hf
  have hg := Grows.refl w G
  have away : ∀ {va vb : Value} {B : List Nat} {n m : Nat} {w' : World}, Dec w G va L q c → Dec w G vb B n m → va ≠ vb → (∀ Da, va = ptr Da → Fr [Da] w w') → Dec w' G vb B n m := by
    intro va vb B n m w' ha hb hne hf
    obtain ⟨Da, rfl⟩ := dec_ptr ha
    have hDa : Da ∈ G := by
      obtain ⟨D2, _, _, h1, h2, _⟩ := ha
      injection h1 with h1; injection h1 with h1; injection h1 with h1 _; rw [h1]; exact h2
    exact hb.keep (hf Da rfl) (fun b hb => by simp at hb; rw [hb]; exact hDa) hg (fun _ h => h) (fun D' hD' hm => by simp at hm; exact hne (by rw [hD', hm]; rfl))
  cases k with
  | lit A B =>
    obtain ⟨p, pa, pb, va, vb, he, hn, hp, hpa, hpb, hda, hdb, hne⟩ := hk
    injection hw with hw; subst hw
    exact key hda he (fun w' q' c' hf hfa hd => ⟨p, pa, pb, va, vb, he, hn, hp.fr hf hg, hpa.fr hf hg, hpb.fr hf hg, hd, away hda hdb hne hfa, hne⟩)
  | dist A B n m =>
    obtain ⟨p, pa, pb, pn, pm, va, vb, he, hn, hp, hpa, hpb, hpn, hpm, hda, hdb, hne⟩ := hk
    injection hw with hw; subst hw
    exact key hdb he (fun w' q' c' hf hfa hd => ⟨p, pa, pb, pn, pm, va, vb, he, hn, hp.fr hf hg, hpa.fr hf hg, hpb.fr hf hg, hpn.fr hf hg, hpm.fr hf hg, away hdb hda hne.symm hfa, hd, hne⟩)
  | lens C t a b =>
    obtain ⟨p, pc, pl, pa, pb, pr, vc, vl, gl, he, hn, hp, hpc, hpl, hpa, hpb, hpr, hd, hnt, hgl⟩ := hk
    injection hw with hw; subst hw
    refine key hd he (fun w' q' c' hf hfa hd' => ⟨p, pc, pl, pa, pb, pr, vc, vl, gl, he, hn, hp.fr hf hg, hpc.fr hf hg, hpl.fr hf hg, hpa.fr hf hg, hpb.fr hf hg, hpr.fr hf hg, hd', ?_, hgl⟩)
    obtain ⟨Dc, rfl⟩ := dec_ptr hd
    refine SlAt.fr hnt (hfa Dc rfl) (fun x hx hm => ?_)
    simp at hm
    obtain ⟨cs, hcs⟩ := hd.blk Dc rfl
    obtain ⟨cur, hcur⟩ := SlAt.lt hnt x hx
    rw [hm, hcs] at hcur
    injection hcur with hcur
    injection hcur with _ hcur _
    cases hcur
  | fin => cases hw
  | blk => cases hw
  | slen => cases hw
  | schk => cases hw
  | raw => cases hw
  | hlit => cases hw
  | hdist => cases hw
  | hclen => cases hw
  | third => cases hw
  | rep => cases hw
  | lenx => cases hw
  | distx => cases hw
end
end Go.Proofs.YthmhcnnigepohaaGreatDoor.If
