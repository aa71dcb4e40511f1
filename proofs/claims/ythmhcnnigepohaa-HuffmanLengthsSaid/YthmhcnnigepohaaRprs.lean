/- The reference's packages of two neighbours. -/
import Derived.Test.YthmhcnnigepohaaRsrt
namespace Go.Proofs.Ythmhcnnigepohaa
open Go.RowKit

/-- A package's cells, and how often each symbol is in it. -/
def Cnt (w : World) (N : Nat) (ok : Nat → Prop) (x : Rw) (p : Pk) : Prop :=
  ∃ b off cs fr, x.w = p.w ∧ x.n = N ∧ x.a = some ⟨b, off, none⟩ ∧ ok b ∧ w.heap[b]? = some (.cells cs 3 fr) ∧ N ≤ x.c ∧ ∀ i, i < N → cs[off + i]? = some (.int .i64 ((p.s.count i : Nat) : Int))
theorem Cnt.w {w : World} {N : Nat} {ok : Nat → Prop} {x : Rw} {p : Pk} (h : Cnt w N ok x p) : x.w = p.w := by
  obtain ⟨_, _, _, _, h, _⟩ := h
  exact h
theorem Cnt.fr {w w' : World} {N : Nat} {ok : Nat → Prop} {S : List Nat} {x : Rw} {p : Pk} (h : Cnt w N ok x p) (hf : Fr S w w') (hS : ∀ b ∈ S, ok b → ∀ cs fr, w.heap[b]? ≠ some (.cells cs 3 fr)) : Cnt w' N ok x p := by
  obtain ⟨b, off, cs, fr, h1, h2, h4, h5, h6, h7⟩ := h
  exact ⟨b, off, cs, fr, h1, h2, h4, h5, (hf.block b (lt_of_blk h6) (fun hm => hS b hm h5 cs fr h6)).trans h6, h7⟩
theorem Cnt.mono {w : World} {N : Nat} {ok ok' : Nat → Prop} {x : Rw} {p : Pk} (h : Cnt w N ok x p) (hk : ∀ b, b < w.heap.size → ok b → ok' b) : Cnt w N ok' x p := by
  obtain ⟨b, off, cs, fr, h1, h2, h4, h5, h6, h7⟩ := h
  exact ⟨b, off, cs, fr, h1, h2, h4, hk b (lt_of_blk h6) h5, h6, h7⟩
theorem Cnt.at {w : World} {N : Nat} {ok : Nat → Prop} {x : Rw} {p : Pk} (h : Cnt w N ok x p) : x.n = N ∧ ∃ b off, x.a = some ⟨b, off, none⟩ ∧ ok b ∧ b < w.heap.size ∧ ∀ i, i < N → w.cell? ⟨b, off + i, none⟩ = some (.int .i64 ((p.s.count i : Nat) : Int)) := by
  obtain ⟨b, off, cs, fr, h1, h2, h4, h5, h6, h7, h8⟩ := h
  refine ⟨h2, b, off, h4, h5, lt_of_blk h6, fun i hi => ?_⟩
  rw [cell_blk h6]
  exact h8 i hi
def cns (p : Pk) (n : Nat) : List Nat := (List.range n).map (fun i => p.s.count i)
theorem cns_len (p : Pk) (n : Nat) : (cns p n).length = n := by simp [cns]
theorem cns_succ (p : Pk) (n : Nat) : cns p (n + 1) = cns p n ++ [p.s.count n] := by simp [cns, List.range_succ]
theorem cns_get (p : Pk) (n i : Nat) (h : i < n) : (nI (cns p n))[i]? = some (.int .i64 ((p.s.count i : Nat) : Int)) := by
  simp [nI, cns, h]
theorem cnt_of_row {w : World} {v : Value} {g : Option Nat} {p : Pk} {N : Nat} (h : NAt w v g (cns p N)) (h0 : 0 < N) (ok : Nat → Prop) (hok : ∀ b, g = some b → ok b) (z : Int) (hz : z = p.w) : ∃ a c, v = .slice a N c ∧ Cnt w N ok ⟨z, a, N, c⟩ p := by
  unfold NAt at h
  rw [cns_len] at h
  rcases h with ⟨_, _, h1, _⟩ | ⟨b, off, cap, cur, hg, hv, hblk, hnc, hfit, hxs, hcells⟩
  · omega
  · exact ⟨_, _, hv, b, off, cur, (0, 0), hz, rfl, rfl, hok b hg, hblk, hnc, fun i hi => hcells i _ (cns_get p N i hi)⟩
theorem zero59 : ∀ W, (zeroValue 59).run Try.prog W = .ok (.agg #[.int .i64 0, .slice none 0 0]) W := fun _ => by kernel_rfl

def PPost (N : Nat) (ps : List Pk) (w : World) (e : Ending) (w' : World) : Prop :=
  ∃ v' g' X, e = .returned v' ∧ QAt w' v' g' X ∧ All2 (Cnt w' N (fun b => w.heap.size ≤ b)) X (pairs ps) ∧ (∀ b, g' = some b → w.heap.size ≤ b) ∧ Fr [] w w'

set_option maxRecDepth 100000 in
set_option maxHeartbeats 16000000 in
theorem pairs30_any (v : Value) (g : Option Nat) (l : List Rw) (ps : List Pk) (N : Nat) (w : World) (h : QAt w v g l) (hs : All2 (Cnt w N (fun _ => True)) l ps) (hN : 0 < N) (hN2 : N ≤ 1000) (hl : l.length ≤ 1000)
    (hb : ∀ p ∈ ps, 0 ≤ p.w ∧ p.w ≤ 1000000000000 ∧ p.s.length ≤ 1000000) :
    Calls Try.prog 30 #[v] w (PPost N ps w) := by
  have HP := hide h
  have HS := hide hs
  have HB := hide hb
  obtain ⟨av, cv, hv⟩ := SlAt.shape h
  obtain ⟨n, hn⟩ : ∃ n, n = l.length := ⟨_, rfl⟩
  rw [← hn] at hv hl
  subst hv
  have HN := hide hn
  clear h hs hb hn
  go_enter Try.func30, Try.ntmps30
  go_wp2_with fail
  go_loopg [3, 4] (n + 3) (fun gk ov i wr => ∃ (j q : Nat) (r : Option Nat) (X : List Rw), gk = n + 3 - q ∧ q ≤ n ∧ q = 2 * j ∧ i = .int .i64 q ∧ QAt wr ov r X ∧ All2 (Cnt wr N (fun b => w.heap.size ≤ b)) X ((pairs ps).take j) ∧ (∀ b, r = some b → w.heap.size ≤ b) ∧ Fr [] w wr)
  case atStart => exact ⟨0, 0, none, [], rfl, by omega, rfl, rfl, SlAt.nil_ _, .nil, by simp, Fr.refl _ _⟩
  case round =>
    obtain ⟨j, q, r, X, hgk, hq, hqj, rfl, ho, hx, hr, hf⟩ := hrel
    have HGK := hide hgk
    have HO := hide ho
    have HX := hide hx
    have HR := hide hr
    have HF := hide hf
    have HQJ := hide hqj
    have HXL : Hid (X.length = j) := hide (by
      rw [hx.len, List.length_take, pairs_len, ← HS.out.len]
      have := HN.out
      omega)
    obtain ⟨ao, co, hov⟩ := SlAt.shape ho
    rw [HXL.out] at hov
    subst hov
    by_cases hlt : q + 1 < n
    · obtain ⟨x, hx1⟩ : ∃ x, l[q]? = some x := ⟨l[q]'(by have := HN.out; omega), List.getElem?_eq_getElem _⟩
      obtain ⟨y, hy1⟩ : ∃ x, l[q + 1]? = some x := ⟨l[q + 1]'(by have := HN.out; omega), List.getElem?_eq_getElem _⟩
      obtain ⟨px, hpx, hsx⟩ := HS.out.get hx1
      obtain ⟨py, hpy, hsy⟩ := HS.out.get hy1
      have hpr : QAt wr (.slice av n cv) g l := SlAt.fr HP.out hf (by simp)
      have hbx := HB.out px (List.mem_of_getElem? hpx)
      have hby := HB.out py (List.mem_of_getElem? hpy)
      have hwx := hsx.w
      have hwy := hsy.w
      have HSX := hide hsx
      have HSY := hide hsy
      obtain ⟨bx, ox, hax, _, hblx, hcx⟩ := (hsx.fr hf (by simp)).at.2
      obtain ⟨bY, oY, hay, _, hbly, hcy⟩ := (hsy.fr hf (by simp)).at.2
      have hnx := hsx.at.1
      have hny := hsy.at.1
      obtain ⟨b, off, cap, hgb, hvv, hbl, c0, c1, -⟩ := hpr.get hx1
      obtain ⟨b', off', cap', hgb', hvv', hbl', c2, c3, -⟩ := hpr.get hy1
      rw [← HN.out] at hvv hvv'
      injection hvv with hva hvl hvc
      subst hva hvc
      injection hvv' with hva' hvl' hvc'
      injection hva' with hva'
      injection hva' with hvb' hvo' _
      subst hvb' hvo' hvc'
      obtain ⟨xw, xa, xn, xc⟩ := x
      obtain ⟨yw, ya, yn, yc⟩ := y
      simp only at c0 c1 c2 c3 hwx hwy hax hay hnx hny
      have hnx := hnx.symm
      have hny := hny.symm
      subst hax hay hnx hny
      have b0 : (0 : Int) ≤ (q : Int) ∧ (q : Int) < (n : Int) := by omega
      have b1 : (0 : Int) ≤ (q : Int) + 1 ∧ (q : Int) + 1 < (n : Int) := by omega
      have z1 : IntKind.i64.wrap ((q : Int) + 1) = (q : Int) + 1 := IntWalk.i64_in _ (by omega)
      have z2 : ((q : Int) + 1).toNat = q + 1 := by omega
      have zs : IntKind.i64.wrap (xw + yw) = xw + yw := IntWalk.i64_in _ (by omega)
      have HCELL : Hid (∀ W, Fr [] wr W → W.cell? ⟨b, off + q * 2 + 1, none⟩ = some (.slice (some ⟨bx, ox, none⟩) N xc) ∧ W.cell? ⟨b, off + (q + 1) * 2 + 1, none⟩ = some (.slice (some ⟨bY, oY, none⟩) N yc) ∧ b < W.heap.size ∧ bx < W.heap.size ∧ bY < W.heap.size ∧ ∀ c, c < N → W.cell? ⟨bx, ox + c, none⟩ = some (.int .i64 ((px.s.count c : Nat) : Int)) ∧ W.cell? ⟨bY, oY + c, none⟩ = some (.int .i64 ((py.s.count c : Nat) : Int))) := by
        show ∀ W, _ → _
        intro W hW
        have e : ∀ (B o : Nat), B < wr.heap.size → W.cell? ⟨B, o, none⟩ = wr.cell? ⟨B, o, none⟩ := fun B o hB => by simp only [World.cell?]; rw [hW.block B hB (by simp)]
        have hz := hW.size
        exact ⟨(e _ _ hbl).trans c1, (e _ _ hbl).trans c3, by omega, by omega, by omega, fun c hc => ⟨(e _ _ hblx).trans (hcx c hc), (e _ _ hbly).trans (hcy c hc)⟩⟩
      have HPAIR : Hid ((pairs ps).take (j + 1) = (pairs ps).take j ++ [⟨px.w + py.w, px.s ++ py.s⟩]) := hide (by
        rw [List.take_add_one, pairs_get, show 2 * j = q by omega, hpx, hpy]
        rfl)
      have HBX := hide (And.intro hbx hby)
      have HWX := hide hwx
      have HWY := hide hwy
      clear hgk ho hx hr hf hx1 hy1 hpx hpy hsx hsy hpr hgb hgb' hvl hvl' hwx hwy hcx hcy hqj hbl' hbx hby
      go_upto_region 5 with (fail)
      go_region_held3 (fun W => W.cell? ⟨b, off + q * 2, none⟩ = some (.int .i64 xw) ∧ W.cell? ⟨b, off + q * 2 + 1, none⟩ = some (.slice (some ⟨bx, ox, none⟩) N xc) ∧ W.cell? ⟨b, off + (q + 1) * 2, none⟩ = some (.int .i64 yw) ∧ W.cell? ⟨b, off + (q + 1) * 2 + 1, none⟩ = some (.slice (some ⟨bY, oY, none⟩) N yc)) (go_keep) (fail)
      obtain ⟨A, hA⟩ : ∃ A, A = wr.heap.size := ⟨_, rfl⟩
      obtain ⟨w1, hw1⟩ : ∃ w1, w1 = (wr.alloc (.cells #[.int .i64 (xw + yw), .slice none 0 0] 59)).drew := ⟨_, rfl⟩
      have HA1 : Hid (w1.heap[A]? = some (.cells #[.int .i64 (xw + yw), .slice none 0 0] 59 (0, 0))) := hide (by rw [hw1, hA]; exact heap_alloc_eq rfl)
      have HF1 : Hid (Fr [] wr w1) := hide (by rw [hw1]; exact ((Fr.refl _ _).alloc _).drew)
      have HAE := hide hA
      have HW1 : Hid (w1.heap.size = A + 1) := hide (by rw [hw1, hA]; simp)
      rw [← hA, ← hw1]
      clear hA hw1 c0 c1 c2 c3 hbl hblx hbly
      obtain ⟨wo, rfl⟩ : ∃ wo : World, wo = wr := ⟨_, rfl⟩
      go_wp2_with fail
      go_loopg [6] (N + 1) (fun gk i wr => ∃ (c : Nat) (cv : Value) (g : Option Nat), gk = N + 1 - c ∧ c ≤ N ∧ i = .int .i64 c ∧ wr.heap[A]? = some (.cells #[.int .i64 (xw + yw), cv] 59 (0, 0)) ∧ NAt wr cv g (cns ⟨px.w + py.w, px.s ++ py.s⟩ c) ∧ (∀ b, g = some b → A < b) ∧ Fr [A] w1 wr)
      case atStart => exact ⟨0, _, none, rfl, by omega, rfl, HA1.out, SlAt.nil_ _, by simp, Fr.refl _ _⟩
      case round =>
        obtain ⟨c, cw, gc, hgc, hc, rfl, ha, hn, hg, hf⟩ := hrel
        have HGC := hide hgc
        have HA := hide ha
        have HNA := hide hn
        have HG := hide hg
        have HFI := hide hf
        have HFR : Hid (Fr [] wo wr) := hide (HF1.out.andThen hf (by intro y hy; right; have : y = A := by simpa using hy
                                                                     have := HAE.out; omega))
        obtain ⟨e1, e2, e3, e4, e5, e6⟩ := HCELL.out wr HFR.out
        obtain ⟨ca, cc, hcw⟩ := SlAt.shape hn
        rw [cns_len] at hcw
        subst hcw
        have a0 : wr.cell? ⟨A, 0, none⟩ = some (.int .i64 (xw + yw)) := cell_blk ha 0
        have a1 : wr.cell? ⟨A, 1, none⟩ = some (.slice ca c cc) := cell_blk ha 1
        have f1 : wr.frozen? ⟨A, 1, none⟩ = false := froz_blk ha 1
        have hAl := lt_of_blk ha
        by_cases hlc : c < N
        · obtain ⟨e7, e8⟩ := e6 c hlc
          obtain ⟨u1, hu1⟩ : ∃ u, u = px.s.count c := ⟨_, rfl⟩
          obtain ⟨u2, hu2⟩ : ∃ u, u = py.s.count c := ⟨_, rfl⟩
          rw [← hu1] at e7
          rw [← hu2] at e8
          have hub : u1 ≤ 1000000 ∧ u2 ≤ 1000000 := by
            have := HBX.out.1.2.2
            have := HBX.out.2.2.2
            have := List.count_le_length (a := c) (l := px.s)
            have := List.count_le_length (a := c) (l := py.s)
            omega
          have HCN : Hid (cns ⟨px.w + py.w, px.s ++ py.s⟩ (c + 1) = cns ⟨px.w + py.w, px.s ++ py.s⟩ c ++ [u1 + u2]) := hide (by rw [cns_succ, hu1, hu2]; simp [List.count_append])
          have hnd : NAt wr.drew (.slice ca c cc) gc (cns ⟨px.w + py.w, px.s ++ py.s⟩ c) := SlAt.fr hn ((Fr.refl [] wr).drew) (by simp)
          obtain ⟨v', w', g', happ, hn', hf', hg'⟩ := NAt.push hnd (u1 + u2) (by rw [cns_len]; omega)
          rw [Int.natCast_add] at happ
          have hap : (Builtin.append_ #[22, 22] 22 #[.slice ca c cc, .slice (some ⟨wr.heap.size, 0, none⟩) 1 1]).run Try.prog ((wr.alloc (.cells #[.int .i64 ((u1 : Int) + (u2 : Int))] 3)).drew) = .ok v' w' := happ
          have hAg : A ∉ gc.toList := fun hm => by have := hg A (by simpa using hm); omega
          have ha' : w'.heap[A]? = _ := (hf'.block A (lt_of_blk ha) hAg).trans ha
          have a0' : w'.cell? ⟨A, 0, none⟩ = some (.int .i64 (xw + yw)) := cell_blk ha' 0
          have a1' : w'.cell? ⟨A, 1, none⟩ = some (.slice ca c cc) := cell_blk ha' 1
          have f1' : w'.frozen? ⟨A, 1, none⟩ = false := froz_blk ha' 1
          have hAl' := lt_of_blk ha'
          obtain ⟨va, vc, hv'⟩ := SlAt.shape hn'
          rw [← HCN.out, cns_len] at hv'
          rw [hv'] at hap hn'
          have HA' : Hid ((w'.setCell ⟨A, 1, none⟩ (.slice va (c + 1) vc)).heap[A]? = some (.cells #[.int .i64 (xw + yw), .slice va (c + 1) vc] 59 (0, 0))) := hide (heap_set_same ha')
          have HG' : Hid (∀ b, g' = some b → A < b) := hide (by
            intro b hb
            rcases hg' with h | ⟨b2, h1, h2⟩
            · exact hg b (h ▸ hb)
            · rw [h1] at hb
              injection hb with hb
              have h3 : wr.drew.heap.size = wr.heap.size := rfl
              omega)
          have HN' : Hid (NAt (w'.setCell ⟨A, 1, none⟩ (.slice va (c + 1) vc)) (.slice va (c + 1) vc) g' (cns ⟨px.w + py.w, px.s ++ py.s⟩ (c + 1))) := hide (by
            rw [HCN.out]
            exact SlAt.fr hn' ((Fr.refl [A] w').setCell (.inl (by simp)) _) (fun b hb => by have := HG'.out b hb; simp; omega))
          have HF' : Hid (Fr [A] w1 (w'.setCell ⟨A, 1, none⟩ (.slice va (c + 1) vc))) := hide (by
            refine Fr.setCell ?_ (.inl (by simp)) _
            refine (hf.drew).andThen hf' (fun y hy => ?_)
            right
            have := hg y (by simpa using hy)
            have := HAE.out
            have := HW1.out
            omega)
          have zu : IntKind.i64.wrap ((u1 : Int) + (u2 : Int)) = (u1 : Int) + (u2 : Int) := IntWalk.i64_in _ (by omega)
          have b2 : (0 : Int) ≤ (c : Int) ∧ (c : Int) < (N : Int) := by omega
          clear hgc ha hn hg hf e6 hu1 hu2 hnd happ hn' hf' hg' hAg ha' hv'
          go_upto_region 9 with (fail)
          go_region_law (first | (refine step_append_run rfl _ _ 22 rfl hap rfl rfl ?_))
          all_goals
            go_wp2_with fail
            go_roundg (N + 1 - (c + 1))
            case measure => have := HGC.out; omega
            case rel => exact ⟨c + 1, _, g', rfl, by omega, by go_num, HA'.out, HN'.out, HG'.out, HF'.out⟩
        · obtain rfl : c = N := by omega
          obtain ⟨va, vc, hvv, hcnt⟩ := cnt_of_row hn hN (fun b => w.heap.size ≤ b) (fun b hb => by have := hg b hb; have := HAE.out; have := HF.out.size; omega) (xw + yw) (by rw [HWX.out, HWY.out])
          injection hvv with hva _ hvc
          subst hva hvc
          have hqr : QAt wr (.slice ao j co) r X := SlAt.fr HO.out HFR.out (by simp)
          obtain ⟨v', w', g', happ, ho', hf', hg'⟩ := hqr.push ⟨xw + yw, ca, c, cc⟩ (by rw [HXL.out]; have := HQJ.out; omega)
          simp only at happ
          have hrt : ∀ b ∈ r.toList, ∀ cs fr, wr.heap[b]? ≠ some (.cells cs 3 fr) := by
            intro b hb cs fr hc
            obtain ⟨cur, hcur⟩ := SlAt.lt hqr b (by simpa using hb)
            rw [hcur] at hc
            injection hc with hc
            injection hc with _ hc _
            cases hc
          have HX' : Hid (All2 (Cnt w' c (fun b => w.heap.size ≤ b)) (X ++ [⟨xw + yw, ca, c, cc⟩]) ((pairs ps).take (j + 1))) := hide (by
            rw [HPAIR.out]
            exact (HX.out.imp fun a p hs => (hs.fr HFR.out (by simp)).fr hf' (fun b hb _ => hrt b hb)).append (.cons (hcnt.fr hf' (fun b hb _ => hrt b hb)) .nil))
          have HO' := hide ho'
          have HF' := hide ((HF.out.trans HFR.out).andThen hf' (fun y hy => .inr (HR.out y (by simpa using hy))))
          have HR' : Hid (∀ b, g' = some b → w.heap.size ≤ b) := hide (by
            intro b hb
            rcases hg' with h | ⟨b2, h1, h2⟩
            · exact HR.out b (h ▸ hb)
            · rw [h1] at hb
              injection hb with hb
              have := (HF.out.trans HFR.out).size
              omega)
          clear hgc ha hn hg hf e6 hcnt hqr ho' hf' hg' hrt
          go_wp2_with (at_builtin; refine wpList_append_run rfl _ _ 57 rfl happ rfl rfl ?_)
          go_roundg (n + 3 - (q + 2))
          case measure => have := HGK.out; omega
          case rel => exact ⟨j + 1, q + 2, g', _, rfl, by omega, by have := HQJ.out; omega, by go_num, HO'.out, HX'.out, HR'.out, HF'.out⟩
    · have hjm : (pairs ps).take j = pairs ps := List.take_of_length_le (by
        rw [pairs_len, ← HS.out.len]
        have := HN.out
        omega)
      rw [hjm] at hx
      have HXE := hide hx
      have hq1 : ¬ ((q : Int) + 1 < (n : Int)) := by omega
      clear hgk ho hx hr hf hqj hjm
      go_wp2_with fail
      go_ret
      exact ⟨_, r, X, rfl, HO.out, HXE.out, HR.out, HF.out⟩
end Go.Proofs.Ythmhcnnigepohaa

