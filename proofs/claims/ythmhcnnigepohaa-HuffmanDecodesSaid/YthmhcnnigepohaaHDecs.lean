/-
  For all lists of at most 400 lengths and 200 bits, the decoder and the reference's return the same symbols and errors. Conditions: none.
  (The row's frame began as the shell that the seat's proof-skeleton.mjs writes.)
-/
import Derived.Test.YthmhcnnigepohaaArg
import Derived.WalkKit
import Derived.ProofKit
import Derived.OpenShut
import Derived.Deep.LoopGhost
import Derived.Test.YthmhcnnigepohaaDcd
namespace Go.Proofs.Ythmhcnnigepohaa.huffmanDecodes
open Go.ChangeShapes Go.WideShapes Go.ChangeAt Go.RowKit

theorem own : ownKnob Try.prog.godebug = none := by kernel_rfl

theorem apart {w : World} {v : Value} {l : List Int} {D : Nat} (h : IR w v l) (hn : ∀ x n c, v = .slice (some x) n c → x.block ≠ D) : IRD w D v l := by
  obtain ⟨a, cap, h1, h2⟩ := h
  refine ⟨a, cap, h1, fun i hi => ?_⟩
  obtain ⟨x, h3, h4⟩ := h2 i hi
  exact ⟨x, h3, by rw [show (x.add i).block = x.block by unfold Addr.add; split <;> rfl]; exact hn x _ _ (by rw [h1, h3]), h4⟩
theorem other {w w' : World} {D E : Nat} {v : Value} {l : List Int} (h : IRD w E v l) (k : IRD w D v l) (hf : Fr [D] w w') : IRD w' E v l := by
  obtain ⟨a, cap, h1, h2⟩ := h
  obtain ⟨b, cap2, k1, k2⟩ := k
  rw [h1] at k1
  injection k1 with e1 _ _
  subst e1
  refine ⟨a, cap, h1, fun i hi => ?_⟩
  obtain ⟨x, x1, x2, x3⟩ := h2 i hi
  obtain ⟨y, y1, y2, _⟩ := k2 i hi
  rw [x1] at y1
  injection y1 with y1
  subst y1
  exact ⟨x, x1, x2, by rw [World.cell?_of_block (w := w) (hf.block _ (World.block_lt_of_cell? w _ x3) (by simpa using y2))]; exact x3⟩

/-- Both decoders in one state. -/
structure Two (w0 : World) (L : List Nat) (v cv : Value) (D E : Nat) (g : Option Nat) (sv : Value) (n c : Nat) (w : World) : Prop where
  st : St L n c
  db : DB w D L (stt L) (lgs L 15) c n sv
  na : NAt w sv g (sys L 15)
  rb : RB w E v cv n c
  vE : IRD w E v (zI L)
  cE : IRD w E cv (codesI L)
  vD : IRD w D v (zI L)
  cD : IRD w D cv (codesI L)
  fr : Fr [] w0 w
/-- What is so in all rounds. -/
structure Ever (w0 : World) (L : List Nat) (D E : Nat) (g : Option Nat) : Prop where
  hD : w0.heap.size ≤ D
  hE : w0.heap.size ≤ E
  ne : D ≠ E
  gD : ∀ b, g = some b → b ≠ D ∧ b ≠ E
  hL : ∀ x ∈ L, x ≤ 15
  len : L.length ≤ 320
  good : Good L

theorem Two.step {w0 w1 w2 : World} {L : List Nat} {v cv : Value} {D E : Nat} {g : Option Nat} {sv : Value} {n c n' c' : Nat} {w : World} (h : Two w0 L v cv D E g sv n c w) (k : Ever w0 L D E g)
    (hs : St L n' c') (hd : DB w1 D L (stt L) (lgs L 15) c' n' sv) (hf : Fr [D] w w1) (hr : RB w2 E v cv n' c') (hf2 : Fr [E] w1 w2) : Two w0 L v cv D E g sv n' c' w2 := by
  have a1 := other h.vE h.vD hf
  have a2 := other h.cE h.cD hf
  have b1 := h.vD.fr hf
  have b2 := h.cD.fr hf
  exact ⟨hs, hd.fr hf2 (by simp; exact k.ne), SlAt.fr (SlAt.fr h.na hf (fun b hb => by simpa using (k.gD b hb).1)) hf2 (fun b hb => by simpa using (k.gD b hb).2), hr, a1.fr hf2, a2.fr hf2, other b1 a1 hf2, other b2 a2 hf2,
    (h.fr.andThen hf (fun x hx => .inr (by simp at hx; rw [hx]; exact k.hD))).andThen hf2 (fun x hx => .inr (by simp at hx; rw [hx]; exact k.hE))⟩

/-- What both steps return. -/
theorem Two.both {w0 : World} {L : List Nat} {v cv : Value} {D E : Nat} {g : Option Nat} {sv : Value} {n c : Nat} {w : World} (h : Two w0 L v cv D E g sv n c w) (k : Ever w0 L D E g) (bit : Int) :
    ∃ (x : Int) (b : Bool) (er : Int) (n' c' : Nat), St L n' c' ∧
      Calls Try.prog 22 #[.pointer (some ⟨D, 0, none⟩), .int .i64 bit] w (fun e w' => e = .returned (.tuple #[.int .i64 x, .bool b, .int .i64 er]) ∧ DB w' D L (stt L) (lgs L 15) c' n' sv ∧ Fr [D] w w') ∧
      ∀ wa, Fr [D] w wa → Calls Try.prog 23 #[.pointer (some ⟨E, 0, none⟩), .int .i64 bit] wa (fun e w' => e = .returned (.tuple #[.int .i64 x, .bool b, .int .i64 er]) ∧ RB w' E v cv n' c' ∧ Fr [E] wa w') := by
  obtain ⟨r, hr⟩ : ∃ r : Nat, (r : Int) = bit % 2 := ⟨(bit % 2).toNat, by omega⟩
  have hbd := st_bd h.st
  have hlen := k.len
  have hgD : ∀ b, g = some b → b ≠ D := fun b hb => (k.gD b hb).1
  have hne : E ∉ [D] := by simp; exact fun e => k.ne e.symm
  rcases step_out k.hL k.good h.st (show r < 2 by omega) with ⟨x, p1, p2⟩ | ⟨p1, p2, p3, p4⟩ | ⟨p0, p1, p2, p3⟩
  · exact ⟨x, true, 0, 0, 0, st_zero L, step22_hit D L c n r g sv bit w h.db h.na hgD k.hL (by omega) (by omega) (by omega) hr x p1,
      fun wa hf => rstep23_hit E L v cv c n r bit wa (h.rb.fr hf hne) (other h.vE h.vD hf) (other h.cE h.cD hf) k.hL (by omega) (by omega) (by omega) hr x p2⟩
  · refine ⟨0, false, 0, n + 1, c * 2 + r, p4, step22_on D L c n r g sv bit w h.db h.na hgD k.hL (by omega) (by omega) (by omega) hr p1,
      fun wa hf => (rstep23_miss E L v cv c n r bit wa (h.rb.fr hf hne) (other h.vE h.vD hf) (other h.cE h.cD hf) k.hL (by omega) (by omega) (by omega) hr p2).mono ?_⟩
    rintro e w' (⟨hb, hd, hf⟩ | ⟨hb, hd, hf⟩)
    · exact ⟨rfl, hd, hf⟩
    · rw [p3] at hb; cases hb
  · refine ⟨0, false, 2, 0, 0, st_zero L, ?_,
      fun wa hf => (rstep23_miss E L v cv c n r bit wa (h.rb.fr hf hne) (other h.vE h.vD hf) (other h.cE h.cD hf) k.hL (by omega) (by omega) (by omega) hr p2).mono ?_⟩
    · rcases p1 with p1 | p1
      · exact step22_bad1 D L c n r g sv bit w h.db h.na hgD k.hL (by omega) (by omega) (by omega) hr p1
      · exact step22_bad2 D L c n r g sv bit w h.db h.na hgD k.hL (by omega) (by omega) (by omega) hr p1
    · rintro e w' (⟨hb, hd, hf⟩ | ⟨hb, hd, hf⟩)
      · rw [p3] at hb; cases hb
      · exact ⟨rfl, hd, hf⟩

set_option maxRecDepth 100000 in
set_option maxHeartbeats 2000000 in
theorem walk_good (v0 : Value) (L : List Nat) (v1 : Value) (l : List Int) (w : World) (h0 : IR w v0 (zI L)) (h1 : IR w v1 l) (hL : ∀ x ∈ L, x ≤ 15) (hlen : L.length ≤ 320) (hgo : Good L) (hok : chk (zI L) = 0) (hl : l.length ≤ 200) :
    Calls Try.prog 6 #[v0, v1] w fun e w' => e = .returned (.bool true) ∧ Fr [] w w' := by
  have H1 := hide (newdec20_any v0 L w h0 hL hlen hok)
  have HI0 := hide h0
  have HI1 := hide h1
  obtain ⟨a0, c0, rfl, _⟩ := h0
  obtain ⟨a1, c1, rfl, _⟩ := h1
  rw [zI_len] at H1 HI0 ⊢
  obtain ⟨n, hn⟩ : ∃ n, n = L.length := ⟨_, rfl⟩
  obtain ⟨m, hm⟩ : ∃ n, n = l.length := ⟨_, rfl⟩
  have HN := hide hn
  have HM := hide hm
  have HLEN := hide hlen
  rw [← hn] at hlen H1 HI0 ⊢
  rw [← hm] at hl HI1 ⊢
  have HL := hide hL
  have HGO := hide hgo
  have HOK := hide hok
  have HC : Hid (∀ (k : Nat) (W : World), k < m → Fr [] w W → ∃ x, a1 = some x ∧ W.cell? (x.add k) = some (.int .i64 (l.getD k 0))) := by
    show ∀ (k : Nat) (W : World), _ → _ → _
    intro k W hk hW
    obtain ⟨b0, c0', e0, g0⟩ := HI1.out.fr hW
    injection e0 with e0 _ _
    obtain ⟨x, hx, hx2⟩ := g0 k (by have := HM.out; omega)
    exact ⟨x, by rw [e0, hx], hx2⟩
  clear hn hm hL hgo hok
  go_enter Try.func6, Try.ntmps6
  go_wp2_with fail
  refine (unhide H1).mono ?_
  rintro e w1 ⟨D, g, sv, rfl, hD, hdb, hna, hgb, hf⟩
  have H2 := hide (rnewdec21_any _ L w1 (HI0.out.fr hf) HLEN.out HOK.out)
  have HD := hide hD
  have HDB := hide hdb
  have HNA := hide hna
  have HG := hide hgb
  have HF := hide hf
  clear hD hdb hna hgb hf
  go_wp2_with fail
  refine (unhide H2).mono ?_
  rintro e w2 ⟨E, cv, rfl, hE, hrb, hcv, hf2, hcE, hcn⟩
  have HEV : Hid (Ever w L D E g) := hide (by
    have h1 := HF.out.size
    have h2 := HDB.out.lt
    refine ⟨HD.out, by omega, by omega, fun b hb => ⟨(HG.out b hb).2, ?_⟩, HL.out, HLEN.out, HGO.out⟩
    obtain ⟨cur, hcur⟩ := SlAt.lt HNA.out b hb
    have := lt_of_blk hcur
    omega)
  have HT : Hid (Two w L (.slice a0 n c0) cv D E g sv 0 0 w2) := hide (by
    have h1 := HF.out.size
    have h2 := HDB.out.lt
    have hfr := HF.out.trans hf2
    refine ⟨st_zero L, HDB.out.fr hf2 (by simp), SlAt.fr HNA.out hf2 (by simp), hrb, HI0.out.away hfr HEV.out.hE, hcE, HI0.out.away hfr HEV.out.hD, apart hcv (fun x n c hx => by have := hcn x n c hx; omega), hfr⟩)
  clear hE hrb hcv hf2 hcE hcn H1 H2 HD HDB HNA HG HF
  go_wp2_with fail
  go_loopg [9] (m + 1) (fun gk i wr => ∃ (k j c : Nat), gk = m + 1 - k ∧ k ≤ m ∧ i = .int .i64 k ∧ Two w L (.slice a0 n c0) cv D E g sv j c wr)
  case atStart => exact ⟨0, 0, 0, rfl, by omega, rfl, HT.out⟩
  case round =>
    obtain ⟨k, j, c, hgk, hk, rfl, hT⟩ := hrel
    have HGK := hide hgk
    have HTR := hide hT
    clear hgk
    by_cases hlt : k < m
    · obtain ⟨ad, rfl, hx⟩ := HC.out k wr hlt hT.fr
      have hadb := World.block_lt_of_cell? wr _ hx
      obtain ⟨bit, hbit⟩ : ∃ y, y = l.getD k 0 := ⟨_, rfl⟩
      have HBIT := hide hbit
      rw [← hbit] at hx
      obtain ⟨x, b, er, n', c', hst, h22, h23⟩ := hT.both HEV.out bit
      have H22 := hide h22
      have H23 := hide h23
      have HST := hide hst
      have b0 : (0 : Int) ≤ (k : Int) ∧ (k : Int) < (m : Int) := by omega
      clear hbit hT h22 h23 hst
      go_wp2_with fail
      refine (unhide H22).mono ?_
      rintro e wa ⟨rfl, hda, hfa⟩
      have HDA := hide hda
      have HFA := hide hfa
      have H23a := hide (H23.out wa hfa)
      obtain ⟨ad2, had, hxa⟩ := HC.out k wa hlt (HTR.out.fr.andThen hfa (fun x hx => .inr (by simp at hx; rw [hx]; exact HEV.out.hD)))
      injection had with had
      subst had
      rw [← HBIT.out] at hxa
      have hadb2 := World.block_lt_of_cell? wa _ hxa
      clear hda hfa hx hadb
      go_wp2_with fail
      refine (unhide H23a).mono ?_
      rintro e wb ⟨rfl, hrb, hfb⟩
      have HTN := hide (HTR.out.step HEV.out HST.out HDA.out HFA.out hrb hfb)
      clear hrb hfb hxa hadb2
      go_wp2_with fail
      go_roundg (m + 1 - (k + 1))
      case measure => have := HGK.out; omega
      case rel => exact ⟨k + 1, n', c', rfl, by omega, by go_num, HTN.out⟩
    · obtain rfl : k = m := by omega
      clear hT
      go_wp2_with fail
      refine (lives_any _).mono ?_
      rintro e w4 ⟨rfl, hf4⟩
      have HF4 := hide (HTR.out.fr.trans hf4)
      clear hf4
      go_wp2
      go_ret
      exact ⟨rfl, HF4.out⟩

set_option maxRecDepth 100000 in
set_option maxHeartbeats 2000000 in
theorem walk_bad (v0 : Value) (l0 : List Int) (v1 : Value) (l : List Int) (w : World) (h0 : IR w v0 l0) (h1 : IR w v1 l) (hl0 : l0.length ≤ 400) (hl : l.length ≤ 200) (hbad : chk l0 ≠ 0) :
    Calls Try.prog 6 #[v0, v1] w fun e w' => e = .returned (.bool true) ∧ Fr [] w w' := by
  have H1 := hide (newdec20_bad v0 l0 w h0 (by omega) hbad)
  have H2 := hide (rnewdec21_bad v0 l0 w h0 (by omega) hbad)
  obtain ⟨a0, c0, rfl, _⟩ := h0
  obtain ⟨a1, c1, rfl, _⟩ := h1
  obtain ⟨n, hn⟩ : ∃ n, n = l0.length := ⟨_, rfl⟩
  obtain ⟨m, hm⟩ : ∃ n, n = l.length := ⟨_, rfl⟩
  obtain ⟨q, hq⟩ : ∃ n, n = chk l0 := ⟨_, rfl⟩
  rw [← hn] at hl0 H1 H2 ⊢
  rw [← hm] at hl ⊢
  rw [← hq] at H1 H2 hbad
  have d1 : (q == 0) = false := by simpa using hbad
  have d2 : (q != 0) = true := by simpa using hbad
  clear hn hm hq hbad
  go_enter Try.func6, Try.ntmps6
  go_wp2_with fail
  refine (unhide H1).mono ?_
  rintro e w1 ⟨rfl, rfl⟩
  go_wp2_with fail
  refine (unhide H2).mono ?_
  rintro e w1 ⟨rfl, rfl⟩
  go_wp2_with fail
  go_loopg [9] 1 (fun gk i wr => gk = 1 ∧ i = .int .i64 0 ∧ w = wr)
  case atStart => exact ⟨rfl, rfl, rfl⟩
  case round =>
    obtain ⟨rfl, rfl, rfl⟩ := hrel
    by_cases hm : 0 < m
    · have b0 : (0 : Int) < (m : Int) := by omega
      go_wp2_with fail
      refine (lives_any _).mono ?_
      rintro e w4 ⟨rfl, hf4⟩
      have HF4 := hide hf4
      clear hf4
      go_wp2
      go_ret
      exact ⟨rfl, HF4.out⟩
    · obtain rfl : m = 0 := by omega
      go_wp2_with fail
      refine (lives_any _).mono ?_
      rintro e w4 ⟨rfl, hf4⟩
      have HF4 := hide hf4
      clear hf4
      go_wp2
      go_ret
      exact ⟨rfl, HF4.out⟩

set_option maxRecDepth 100000 in
set_option maxHeartbeats 2000000 in
theorem walk_big (a0 a1 : Option Addr) (n m c0 c1 : Nat) (w : World) (hn : n ≤ 9223372036854775807) (hm : m ≤ 9223372036854775807) (hbig : 400 < n ∨ 200 < m) :
    Calls Try.prog 6 #[.slice a0 n c0, .slice a1 m c1] w fun e w' => e = .returned (.bool true) ∧ Fr [] w w' := by
  by_cases h4 : 400 < n
  · clear hbig
    go_enter Try.func6, Try.ntmps6
    go_wp2_with fail
    refine (lives_any _).mono ?_
    rintro e w1 ⟨rfl, hf⟩
    have HF := hide hf
    clear hf
    go_wp2
    go_ret
    exact ⟨rfl, HF.out⟩
  · have h5 : 200 < m := by omega
    clear hbig
    go_enter Try.func6, Try.ntmps6
    go_wp2_with fail
    refine (lives_any _).mono ?_
    rintro e w1 ⟨rfl, hf⟩
    have HF := hide hf
    clear hf
    go_wp2
    go_ret
    exact ⟨rfl, HF.out⟩

theorem walk (v0 : Value) (f : List Int) (v1 : Value) (l : List Int) (w : World) (hev0 : IR w v0 f ∧ f.length ≤ 9223372036854775807) (hev1 : IR w v1 l ∧ l.length ≤ 9223372036854775807) :
    Calls Try.prog 6 #[v0, v1] w fun e w' => e = .returned (.bool true) ∧ Fr [] w w' := by
  obtain ⟨h0, hL0⟩ := hev0
  obtain ⟨h1, hL1⟩ := hev1
  by_cases hbig : 400 < f.length ∨ 200 < l.length
  · obtain ⟨a0, c0, rfl, _⟩ := h0
    obtain ⟨a1, c1, rfl, _⟩ := h1
    exact walk_big a0 a1 _ _ c0 c1 w hL0 hL1 hbig
  · by_cases hc : chk f = 0
    · obtain ⟨L, rfl, hL, hlen, hgo⟩ := chk_good hc
      exact walk_good v0 L v1 l w h0 h1 hL hlen hgo hc (by omega)
    · exact walk_bad v0 f v1 l w h0 h1 (by omega) (by omega) hc
/-! ### The row -/
set_option maxRecDepth 100000 in
theorem lifted (os : Os) (started : os.Started) (H : Type) (enc : TypeId × Value → H) :
    ReturnsInHanded {} Try.checked os 6 .any (Rows.huffmanDecodesSpec.pre6 enc Try.prog Try.f6 Rows.huffmanDecodesRow.domain false) (Rows.huffmanDecodesSpec.post enc Try.prog Try.f6 false true false false) := by
  refine returnsInHanded_of_change (C := Try.checked) own started (by kernel_rfl) Try.func6
    (ChangeSpec.witness6 (enc := enc) (C := Try.checked) false ⟨#[], #[.slice none 0 0, .slice none 0 0], []⟩ 8 (by kernel_rfl) (by kernel_rfl) (by kernel_rfl) (by kernel_rfl)) ?_
  intro W base args ds gs before hval0 hW hcnd _
  have hval : ∀ (j : Nat) t v, Try.f6.params[j]? = some t → args[j]? = some v → Value.okWide Try.prog W .any base t v := hval0
  have hW' := hW
  obtain ⟨p, q, hA0, hV, rfl, hfz, hnd⟩ := hW
  have hA : DataW.TrodAll enc Try.prog W 0 (fun _ => true) true Try.f6.params.toList args.toList ds p := hA0
  rw [Try.params6] at hA hval
  obtain ⟨v0, vs0, d0, ds0, p0, q0, hargs, rfl, rfl, h0, r0⟩ := trodAll_cons hA
  obtain ⟨v1, vs1, d1, ds1, p1, q1, rfl, rfl, rfl, h1, r1⟩ := trodAll_cons r0
  obtain ⟨rfl, rfl, rfl⟩ := trodAll_nil r1
  obtain rfl : args = #[v0, v1] := by cases args; simp_all
  obtain ⟨rfl, rfl⟩ := trodVars_none hV
  have h0k := h0
  obtain ⟨l0, hev0⟩ := open_ints22 (hval 0 22 v0 rfl rfl) h0
  have h1k := h1
  obtain ⟨l1, hev1⟩ := open_ints22 (hval 1 22 v1 rfl rfl) h1
  clear hA0 hval0
  simp only [List.append_nil] at hW'
  refine (walk v0 l0 v1 l1 W hev0 hev1).mono fun e W' ⟨he, hg⟩ => ?_
  subst he
  exact ⟨_, rfl, _, _, _, [], _, [], hW', (trodAll_cons_mk (shut_bool Try.underlying4 _) trodAll_mk0), (trodAll_cons_mk (Below.trod laid read22 row22 h0k hg.below (fun x hx => by simpa using hW'.lt x (by simp [hx]))) (trodAll_cons_mk (Below.trod laid read22 row22 h1k hg.below (fun x hx => by simpa using hW'.lt x (by simp [hx]))) trodAll_mk0)), rfl, hg.below.frame _, fun h => by cases h⟩

theorem over : Rows.huffmanDecodesRow.holds Try.pinned (OpenSpec.ofChange Rows.huffmanDecodesSpec) :=
  OpenClaim.holds_of_wide 6 Try.f6 rfl rfl rfl rfl rfl rfl rfl ⟨rfl, rfl, rfl, rfl, rfl⟩ rfl rfl rfl rfl rfl (by kernel_rfl) Try.func6 (by kernel_rfl)
    (of_decide_eq_true (by kernel_rfl)) (by unfold Func.isWrapper; first | (rw [if_pos (by decide +kernel)]; kernel_rfl) | (rw [if_neg (by decide +kernel)]; exact ⟨rfl, rfl⟩))
    (fun os started H enc _ => lifted os started H enc)

theorem proved : Rows.HuffmanDecodesSaid :=
  over
#print axioms proved
end Go.Proofs.Ythmhcnnigepohaa.huffmanDecodes

