/- strings.Builder: what its methods do, with a frame of the builder's own blocks. -/
import Derived.Test.YthmhcnnigepohaaGreatDoorM02
import Derived.Test.YthmhcnnigepohaaGreatDoorM15
import Derived.Lib.FrozenHead2
namespace Go.Proofs.YthmhcnnigepohaaGreatDoor.En
open Go.RowKit
open Go.Lib (byteCells)
set_option linter.unusedVariables false

/-- The builder at block b holds the bytes L; they lie in block g. -/
def Bld (w : World) (b : Nat) (g : Option Nat) (L : List UInt8) : Prop :=
  ∃ p v, w.heap[b]? = some (.cells #[p, v] 184 (0, 0)) ∧ (p = .pointer none ∨ p = .pointer (some ⟨b, 0, none⟩)) ∧ w.ownsRowF 0 5 1 v L.length (byteCells L) ∧ v.ownBlock = g ∧ g ≠ some b ∧ (v = .slice none 0 0 ↔ L = [])
theorem Bld.lt {w : World} {b : Nat} {g : Option Nat} {L : List UInt8} (h : Bld w b g L) : b < w.heap.size := by
  obtain ⟨p, v, h1, _⟩ := h
  exact lt_of_blk h1
theorem Bld.glt {w : World} {b : Nat} {g : Option Nat} {L : List UInt8} (h : Bld w b g L) : ∀ x, g = some x → x < w.heap.size := by
  obtain ⟨p, v, h1, h2, h3, h4, h5, h6⟩ := h
  rintro x rfl
  rcases h3.2 with ⟨hv, _⟩ | ⟨gg, cap, cur, fz, hv, hb, hh, _⟩
  · rw [hv] at h4; cases h4
  · rw [hv] at h4
    simp only [Value.ownBlock, Option.some.injEq] at h4
    rw [← h4]
    exact lt_of_blk hh
theorem Bld.fr {w w' : World} {b : Nat} {g : Option Nat} {L : List UInt8} {S : List Nat} (h : Bld w b g L) (hf : Fr S w w') (hb : b ∉ S) (hg : ∀ x, g = some x → x ∉ S) : Bld w' b g L := by
  have hgl := h.glt
  obtain ⟨p, v, h1, h2, h3, h4, h5, h6⟩ := h
  refine ⟨p, v, (hf.block b (lt_of_blk h1) hb).trans h1, h2, ⟨h3.1, ?_⟩, h4, h5, h6⟩
  rcases h3.2 with h | ⟨gg, cap, cur, fz, hv, hbb, hh, r⟩
  · exact .inl h
  · refine .inr ⟨gg, cap, cur, fz, hv, hbb, ?_, r⟩
    have hgg : g = some gg := by rw [← h4, hv]; rfl
    exact (hf.block gg (lt_of_blk hh) (hg gg hgg)).trans hh
theorem Bld.new {w : World} : Bld (w.alloc (.cells #[.pointer none, .slice none 0 0] 184)) w.heap.size none [] :=
  ⟨_, _, heap_alloc_eq rfl, .inl rfl, ⟨rfl, .inl ⟨rfl, rfl⟩⟩, rfl, by simp, by simp⟩

set_option maxRecDepth 100000 in
set_option maxHeartbeats 1000000 in
theorem copyCheck126_any (b : Nat) (g : Option Nat) (L : List UInt8) (w : World) (h : Bld w b g L) :
    Calls Tryz.prog 126 #[.pointer (some ⟨b, 0, none⟩)] w fun e w' => e = .returned (.tuple #[]) ∧ (∃ v, w'.heap[b]? = some (.cells #[.pointer (some ⟨b, 0, none⟩), v] 184 (0, 0)) ∧ w'.ownsRowF 0 5 1 v L.length (byteCells L) ∧ v.ownBlock = g ∧ (v = .slice none 0 0 ↔ L = [])) ∧ Fr [b] w w' := by
  obtain ⟨p, v, h1, h2, h3, h4, h5, h6⟩ := h
  have hl := lt_of_blk h1
  have c0 : w.cell? ⟨b, 0, none⟩ = some p := cell_blk h1 0
  have cf0 : w.frozen? ⟨b, 0, none⟩ = false := froz_blk h1 0
  rcases h2 with rfl | rfl
  · have HR : Hid ((∃ v, (w.setCell ⟨b, 0, none⟩ (.pointer (some ⟨b, 0, none⟩))).heap[b]? = some (.cells #[.pointer (some ⟨b, 0, none⟩), v] 184 (0, 0)) ∧ (w.setCell ⟨b, 0, none⟩ (.pointer (some ⟨b, 0, none⟩))).ownsRowF 0 5 1 v L.length (byteCells L) ∧ v.ownBlock = g ∧ (v = .slice none 0 0 ↔ L = [])) ∧ Fr [b] w (w.setCell ⟨b, 0, none⟩ (.pointer (some ⟨b, 0, none⟩)))) := by
      have hf : Fr [b] w (w.setCell ⟨b, 0, none⟩ (.pointer (some ⟨b, 0, none⟩))) := (Fr.refl [b] w).setCell (.inl (by simp)) _
      refine hide ⟨⟨v, by rw [heap_set, h1]; rfl, ⟨h3.1, ?_⟩, h4, h6⟩, hf⟩
      rcases h3.2 with h | ⟨gg, cap, cur, fz, hv, hbb, hh, r⟩
      · exact .inl h
      · refine .inr ⟨gg, cap, cur, fz, hv, hbb, ?_, r⟩
        have hgg : g = some gg := by rw [← h4, hv]; rfl
        exact (hf.block gg (lt_of_blk hh) (by rw [List.mem_singleton]; rintro rfl; exact h5 hgg)).trans hh
    have hsh : w.shape? b = some (184, 2) := by simp [World.shape?, h1]
    obtain ⟨j, hj, hjs⟩ := Option.map_eq_some_iff.1 Tryz.Builder_Extra_169.sizeBuilder
    have hj : Tryz.prog.info? 184 = some j := hj
    clear h1 h3 h4 h5 h6
    go_enter Tryz.func126, Tryz.ntmps126
    go_wp2
    rw [Lib.run_to_unsafe w ⟨b, 0, none⟩ Tryz.underlying182 Tryz.underlying196 hj (by rw [hjs]; decide) hsh (Nat.zero_lt_succ 1)]
    simp only [Result.andThen]
    rw [Oper.upon_value]
    go_wp2
    rw [run_callFunc_extern Tryz.func132 (by kernel_rfl) (by kernel_rfl) (by kernel_rfl) (e := Extern.AbiNoEscape.same) (by kernel_rfl)]
    rw [Lib.run_noEscape]
    simp only [Result.andThen]
    rw [Oper.upon_value]
    go_wp2
    rw [Lib.run_from_unsafe w ⟨b, 0, none⟩ Tryz.underlying196 Tryz.underlying182 hj hsh Tryz.Builder_Extra_169.liesBuilder]
    simp only [Result.andThen]
    rw [Oper.upon_value]
    go_wp2
    refine bodyPost_end (results_none rfl _ _ _) rfl ?_
    exact ⟨rfl, HR.out⟩
  · have HR : Hid ((∃ v, w.heap[b]? = some (.cells #[.pointer (some ⟨b, 0, none⟩), v] 184 (0, 0)) ∧ w.ownsRowF 0 5 1 v L.length (byteCells L) ∧ v.ownBlock = g ∧ (v = .slice none 0 0 ↔ L = [])) ∧ Fr [b] w w) := hide ⟨⟨v, h1, h3, h4, h6⟩, Fr.refl _ _⟩
    obtain ⟨j, hj, hjs⟩ := Option.map_eq_some_iff.1 Tryz.Builder_Extra_169.sizeBuilder
    have hj : Tryz.prog.info? 184 = some j := hj
    clear h1 h3 h4 h5 h6 hjs
    go_enter Tryz.func126, Tryz.ntmps126
    go_wp2
    rw [Lib.run_neq_ptr_same w _ Tryz.underlying182 hj]
    go_wp2
    refine bodyPost_end (results_none rfl _ _ _) rfl ?_
    exact ⟨rfl, HR.out⟩

theorem byteCells_app (L : List UInt8) (s : ByteArray) : byteCells L ++ Lib.strCells s = byteCells (L ++ s.data.toList) := by
  simp [byteCells, Lib.strCells]
theorem wpList_append_str {P : Program} {w : World} {ops : Array Oper} {rest : List Oper} {Q : Exit → Act → World → Prop} {a : Act} {o : Oper} (hg : o.guard = none) (s x : Operand) (t u : TypeId)
    (ho : o.op = .call { callee := .builtin .append, args := #[s, x], argTypes := #[t, u] }) {v y v' : Value} {w' : World} (hrun : (Builtin.append_ #[t, u] o.type #[v, y]).run P w = .ok v' w')
    (hs : a.eval s = v) (hx : a.eval x = y) (h : wpList P ops Q rest (a.put o.dst v') w') : wpList P ops Q (o :: rest) a w := by
  refine wpList_plain hg fun K hK => ?_
  unfold Oper.wp execOp
  simp only [ho, resolve, invoke, builtin, Sem.run_bind, Sem.run_pure, Result.andThen_ok, List.map_toArray, List.map_cons, List.map_nil, hs, hx, hrun]
  exact hK _ _ h
/-- 'append' of a string to the builder's row: in the row itself, or in a new block. -/
theorem bld_append {w : World} {v : Value} {n : Nat} {xs : List Value} (s : ByteArray) (hown : w.ownsRowF 0 5 1 v n xs) (hl : n + s.size ≤ 10000000) :
    ∃ v' w', (Builtin.append_ #[22, 9] 22 #[v, .string s]).run Tryz.prog w = .ok v' w' ∧ w'.ownsRowF 0 5 1 v' (n + s.size) (xs ++ Lib.strCells s) ∧ w.grownBy w' v.ownBlock ∧ (v' = .slice none 0 0 ↔ v = .slice none 0 0 ∧ s.size = 0) ∧
      ∀ x, v'.ownBlock = some x → v.ownBlock = some x ∨ w.heap.size ≤ x := by
  obtain ⟨i0, hi, hz0, hz1, hz2⟩ := info_parts Tryz.Builder_Extra_169.infoByte
  have hi : Tryz.prog.info? 5 = some i0 := hi
  have hm : n + s.size ≤ maxLen := by unfold maxLen; omega
  obtain ⟨v', w', h1, h2, h3, h4⟩ := Lib.run_append_own_stringF w 0 22 9 22 5 i0 Tryz.underlying22 Tryz.underlying9 hi hz0 hz1 hz2 v n xs hown s hm (by omega) (by omega)
  refine ⟨v', w', h1, h2, h3, h4, fun x hx => ?_⟩
  rcases hown.2 with ⟨rfl, rfl⟩ | ⟨g, cap, cur, fz, rfl, hbg, hg, hfz, hnc, hcm, hcs, htake⟩
  · obtain ⟨v2, w2, k1, k2, k3, k4⟩ := Lib.run_append_own_stringF w w.heap.size 22 9 22 5 i0 Tryz.underlying22 Tryz.underlying9 hi hz0 hz1 hz2 (.slice none 0 0) 0 xs ⟨hown.1, .inl ⟨rfl, rfl⟩⟩ s hm (by omega) (Nat.le_refl _)
    rw [h1] at k1
    injection k1 with k1 k1'
    subst k1 k1'
    right
    rcases k2.2 with ⟨e, _⟩ | ⟨g, cap, cur, fz, e, hb, _⟩
    · rw [e] at hx; cases hx
    · rw [e] at hx
      simp only [Value.ownBlock, Option.some.injEq] at hx
      rw [← hx]; exact hb
  · by_cases hroom : n + s.size ≤ cap
    · have hr := Lib.run_append_room_stringF (P := Tryz.prog) w 22 9 22 5 i0 Tryz.underlying22 Tryz.underlying9 hi hz1 g n cap cur fz hg (by simpa using hfz) s hroom (by omega)
      rw [h1] at hr
      injection hr with k1 k1'
      left
      rw [← hx, k1]
      rfl
    · have holds : ∀ j u, xs[j]? = some u → w.cell? ((⟨g, 0, none⟩ : Addr).add j) = some u := hown.cells (g := g) rfl
      have hr := Lib.run_append_grow_string (P := Tryz.prog) w 22 9 22 5 i0 (.int .u8 0) Tryz.underlying22 Tryz.underlying9 hi hz0 ⟨g, 0, none⟩ n cap xs (by rw [hz1]; exact hown.1) holds s (by omega) (by omega) (by rw [hz2]; exact growslice_fits (by omega) (by omega))
      rw [h1] at hr
      injection hr with k1 k1'
      right
      rw [k1] at hx
      simp only [Value.ownBlock, Option.some.injEq] at hx
      omega
def WsPost (b : Nat) (g : Option Nat) (L : List UInt8) (s : ByteArray) (w : World) (e : Ending) (w' : World) : Prop :=
  e = .returned (.tuple #[.int .i64 s.size, .nilIface]) ∧ ∃ g', Bld w' b g' (L ++ s.data.toList) ∧ (∀ x, g' = some x → g = some x ∨ w.heap.size ≤ x) ∧ Fr (b :: g.toList) w w'
set_option maxRecDepth 100000 in
set_option maxHeartbeats 4000000 in
theorem writeString118_any (b : Nat) (g : Option Nat) (L : List UInt8) (s : ByteArray) (w : World) (h : Bld w b g L) (hs : L.length + s.size ≤ 10000000) :
    Calls Tryz.prog 118 #[.pointer (some ⟨b, 0, none⟩), .string s] w (WsPost b g L s w) := by
  have H126 := hide (copyCheck126_any b g L w h)
  have hne : g ≠ some b := by obtain ⟨p, v, h1, h2, h3, h4, h5, h6⟩ := h; exact h5
  have HN := hide hne
  clear h hne
  go_enter Tryz.func118, Tryz.ntmps118
  go_wp2_with fail
  refine (unhide H126).mono ?_
  rintro e w1 ⟨rfl, ⟨v, h1, h2, h3, h4⟩, hf1⟩
  have c1 : w1.cell? ⟨b, 1, none⟩ = some v := cell_blk h1 1
  have hl := lt_of_blk h1
  have HF1 := hide hf1
  have H1 := hide h1
  have H2 := hide h2
  have H3 := hide h3
  have H4 := hide h4
  clear h1 h2 h3 h4 hf1
  obtain ⟨v', w2, hap, hown', hgrow, hnil, hob⟩ := bld_append s H2.out hs
  have hb2 : w2.heap[b]? = some (.cells #[.pointer (some ⟨b, 0, none⟩), v] 184 (0, 0)) := by
    rw [hgrow.block b hl (fun e => HN.out (by rw [← H3.out]; exact e.symm))]
    exact H1.out
  have HF2 : Hid (Fr (b :: g.toList) w w2) := by
    refine hide ((HF1.out.mono (by simp)).andThen (T := g.toList) ⟨hgrow.os, hgrow.tape, hgrow.output, hgrow.size, fun k hk hn => hgrow.block k hk (fun e => hn ?_)⟩ (fun x hx => .inl (by simp at hx ⊢; exact .inr hx)))
    rw [H3.out] at e
    rw [← e]; simp
  obtain ⟨ao, n', cap, hv'⟩ : ∃ ao n' cap, v' = .slice ao n' cap := by
    rcases hown'.2 with ⟨hv, _⟩ | ⟨g, cap, cur, fz, hv, _⟩
    · exact ⟨_, _, _, hv⟩
    · exact ⟨_, _, _, hv⟩
  have f1 : w2.frozen? ⟨b, 1, none⟩ = false := froz_blk hb2 1
  have d1 : w2.cell? ⟨b, 1, none⟩ = some v := cell_blk hb2 1
  have hl2 := lt_of_blk hb2
  have HG : Hid (∀ x, v'.ownBlock = some x → (g = some x ∨ w.heap.size ≤ x) ∧ x ≠ b) := by
    refine hide fun x hx => ?_
    rcases hob x hx with h | h
    · rw [H3.out] at h
      exact ⟨.inl h, fun e => HN.out (e ▸ h)⟩
    · have := HF1.out.size
      exact ⟨.inr (by omega), by omega⟩
  have HRES : Hid (WsPost b g L s w (.returned (.tuple #[.int .i64 s.size, .nilIface])) (w2.setCell ⟨b, 1, none⟩ v')) := by
    have hf3 : Fr [b] w2 (w2.setCell ⟨b, 1, none⟩ v') := (Fr.refl [b] w2).setCell (.inl (by simp)) _
    refine hide ⟨rfl, v'.ownBlock, ⟨_, v', by rw [heap_set, hb2]; rfl, .inr rfl, ⟨?_, ?_⟩, rfl, fun e => (HG.out b e).2 rfl, ?_⟩, fun x hx => (HG.out x hx).1, HF2.out.trans (hf3.mono (by simp))⟩
    · rw [← byteCells_app, hown'.1, List.length_append, Array.length_toList]; rfl
    · rw [← byteCells_app]
      rcases hown'.2 with h | ⟨gg, cap, cur, fz, hv, hbb, hh, r⟩
      · left; rw [List.length_append, Array.length_toList]; exact h
      · right
        refine ⟨gg, cap, cur, fz, by rw [hv, List.length_append, Array.length_toList]; rfl, hbb, ?_, by rw [List.length_append, Array.length_toList]; exact r⟩
        exact (hf3.block gg (lt_of_blk hh) (by rw [List.mem_singleton]; exact (HG.out gg (by rw [hv]; rfl)).2)).trans hh
    · rw [hnil, H4.out, List.append_eq_nil_iff]
      refine and_congr Iff.rfl ?_
      rw [← List.length_eq_zero_iff, Array.length_toList]
      rfl
  subst hv'
  clear hown' hgrow hnil hb2 hob
  go_wp2_with (at_builtin; refine wpList_append_str rfl _ _ 22 9 rfl hap rfl rfl ?_)
  go_ret2
  exact HRES.out

def strP (b : Nat) (g : Option Nat) (L : List UInt8) (w : World) (e : Ending) (w' : World) : Prop := e = .returned (.string ⟨L.toArray⟩) ∧ Fr g.toList w w'
theorem freeze_fr {w : World} {g n : Nat} {t : TypeId} : Fr [g] w (w.freeze ⟨g, 0, none⟩ n) := by
  unfold World.freeze
  split
  · exact Fr.refl _ _
  · refine ⟨rfl, rfl, rfl, by simp, fun k hk hn => ?_⟩
    simp at hn
    simp only [Array.getElem?_modify]
    rw [if_neg (fun e => hn e.symm)]
set_option maxRecDepth 100000 in
set_option maxHeartbeats 4000000 in
theorem string120_any (b : Nat) (g : Option Nat) (L : List UInt8) (w : World) (h : Bld w b g L) (hL : L.length ≤ 10000000) :
    Calls Tryz.prog 120 #[.pointer (some ⟨b, 0, none⟩)] w (strP b g L w) := by
  obtain ⟨p, v, h1, h2, h3, h4, h5, h6⟩ := h
  rcases Classical.em (L = []) with rfl | hne
  · obtain rfl := h6.mpr rfl
    have c1 : w.drew.cell? ⟨b, 1, none⟩ = some (.slice none 0 0) := cell_blk (w := w.drew) h1 1
    have c2 : w.cell? ⟨b, 1, none⟩ = some (.slice none 0 0) := c1
    have hSD : (Builtin.unsafeSliceData_ #[22] 159 #[.slice none 0 0]).run Tryz.prog w.drew = .ok (.pointer none) w.drew := rfl
    have hUS : (Builtin.unsafeString_ #[159, 3] 9 #[.pointer none, .int .i64 0]).run Tryz.prog w.drew = .ok (.string .empty) w.drew := Lib.run_unsafeString_none _ _ _ _ _
    clear h1 h2 h3 h4 h5 h6 hL
    go_enter Tryz.func120, Tryz.ntmps120
    go_wp2_with fail
    go_region
    all_goals (go_wp2; go_ret; exact ⟨rfl, (Fr.refl _ _).drew⟩)
  · obtain ⟨gg, cap, cur, fz, rfl, hg, hfz, hnc, hcm, hcs, htake⟩ : ∃ gg cap cur fz, v = .slice (some ⟨gg, 0, none⟩) L.length cap ∧ w.heap[gg]? = some (.cells cur 5 fz) ∧ fz.2 ≤ L.length * 1 ∧ L.length ≤ cap ∧ cap ≤ maxLen ∧ cur.size = cap * 1 ∧ cur.toList.take (L.length * 1) = byteCells L := by
      rcases h3.2 with ⟨hv, _⟩ | ⟨gg, cap, cur, fz, hv, _, r⟩
      · exact absurd (h6.mp hv) hne
      · exact ⟨gg, cap, cur, fz, hv, r⟩
    obtain ⟨n, hn⟩ : ∃ n, n = L.length := ⟨_, rfl⟩
    have hn0 : 0 < n := by rw [hn]; exact List.length_pos_iff.mpr hne
    have hgg : g = some gg := by rw [← h4]; rfl
    have c1 : w.drew.cell? ⟨b, 1, none⟩ = some (.slice (some ⟨gg, 0, none⟩) L.length cap) := cell_blk (w := w.drew) h1 1
    have hSD : (Builtin.unsafeSliceData_ #[22] 159 #[.slice (some ⟨gg, 0, none⟩) L.length cap]).run Tryz.prog w.drew = .ok (.pointer (some ⟨gg, 0, none⟩)) w.drew := Lib.run_unsafeSliceData_row _ _ _ _ _ _ (by omega)
    have hUS : (Builtin.unsafeString_ #[159, 3] 9 #[.pointer (some ⟨gg, 0, none⟩), .int .i64 L.length]).run Tryz.prog w.drew = .ok (.string ⟨L.toArray⟩) (w.drew.freeze ⟨gg, 0, none⟩ L.length) := by
      refine Lib.run_unsafeString_row w.drew 159 3 9 5 Tryz.underlying159 Tryz.Builder_Extra_169.cellsByte gg cur.size (by have hg' : w.drew.heap[gg]? = some (.cells cur 5 fz) := hg; simp [World.shape?, hg']) L hne (by omega) (by omega) ?_
      intro j x hx
      have hj : cur.toList[j]? = some (.int .u8 x.toNat) := by
        have := congrArg (fun l => l[j]?) htake
        simp only [byteCells, List.getElem?_map, hx, Option.map_some] at this
        rw [List.getElem?_take] at this
        split at this
        · exact this
        · cases this
      rw [Addr.add_lit, Nat.zero_add, cell_blk (w := w.drew) hg]
      simpa using hj
    rw [← hn] at c1 hSD hUS
    have HF : Hid (Fr g.toList w (w.drew.freeze ⟨gg, 0, none⟩ n)) := by
      rw [hgg]
      exact hide ((Fr.refl [gg] w).drew.trans (freeze_fr (t := 5)))
    have c2 : w.cell? ⟨b, 1, none⟩ = some (.slice (some ⟨gg, 0, none⟩) n cap) := c1
    clear h1 h2 h3 h4 h5 h6 hL hg hfz hnc hcm hcs htake hgg hn
    go_enter Tryz.func120, Tryz.ntmps120
    go_wp2_with fail
    go_region
    all_goals (go_wp2; go_ret; exact ⟨rfl, HF.out⟩)
end Go.Proofs.YthmhcnnigepohaaGreatDoor.En

/- file.Type. -/
namespace Go.Proofs.YthmhcnnigepohaaGreatDoor.Fi
open Go.RowKit
set_option linter.unusedVariables false

/-- Whether a content begins as a gzip file does. -/
def gz (X : List UInt8) : Bool := Lib.hasPrefix X [31, 139]
def TyPost (X : List UInt8) (w : World) (e : Ending) (w' : World) : Prop := ∃ t : Int, e = .returned (.int .i64 t) ∧ (t = 2 ↔ gz X = true) ∧ Fr [] w w'
def tyCells : Array Value := #[.string ⟨#[31, 139]⟩, .int .i64 2, .string ⟨#[37, 80, 68, 70, 45]⟩, .int .i64 3, .string ⟨#[80, 75, 3, 4]⟩, .int .i64 4, .string ⟨#[137, 80, 78, 71, 13, 10, 26, 10]⟩, .int .i64 5, .string ⟨#[127, 69, 76, 70]⟩, .int .i64 6, .string ⟨#[77, 90]⟩, .int .i64 7, .string ⟨#[35, 33]⟩, .int .i64 8]
set_option maxRecDepth 100000 in
set_option maxHeartbeats 16000000 in
theorem type98_any (s : ByteArray) (w : World) : Calls Tryz.prog 98 #[.string s] w (TyPost s.data.toList w) := by
  have HP : ∀ (p : ByteArray) (W : World), Hid (Calls Tryz.prog 100 #[.string s, .string p] W fun e w' => e = .returned (.bool (Lib.hasPrefix s.data.toList p.data.toList)) ∧ w' = W) := fun p W => hide (Tryz.strings_HasPrefix s p W)
  obtain ⟨B, hB⟩ : ∃ B, B = w.heap.size := ⟨_, rfl⟩
  obtain ⟨w1, hw1⟩ : ∃ x, x = w.alloc (.cells tyCells 165) := ⟨_, rfl⟩
  have h1 : w1.heap[B]? = some (.cells tyCells 165 (0, 0)) := by rw [hw1]; exact heap_alloc_eq hB
  have HF1 : Hid (Fr [] w w1) := by rw [hw1]; exact hide ((Fr.refl _ _).alloc _)
  have HB := hide hB
  have HW1 : Hid (w1 = w.alloc (.cells #[.string ⟨#[31, 139]⟩, .int .i64 2, .string ⟨#[37, 80, 68, 70, 45]⟩, .int .i64 3, .string ⟨#[80, 75, 3, 4]⟩, .int .i64 4, .string ⟨#[137, 80, 78, 71, 13, 10, 26, 10]⟩, .int .i64 5, .string ⟨#[127, 69, 76, 70]⟩, .int .i64 6, .string ⟨#[77, 90]⟩, .int .i64 7, .string ⟨#[35, 33]⟩, .int .i64 8] 165)) := hide hw1
  have H1 := hide h1
  clear hB hw1 h1
  go_enter Tryz.func98, Tryz.ntmps98
  go_wp2_with fail
  rw [← HW1.out, ← HB.out]
  go_loopg [16] 8 (fun gk sv wr => ∃ k : Nat, gk = 8 - k ∧ k ≤ 7 ∧ sv = .int .i64 k ∧ wr.heap[B]? = some (.cells tyCells 165 (0, 0)) ∧ Fr [] w wr ∧ (0 < k → gz s.data.toList = false))
  case atStart => exact ⟨0, rfl, by omega, rfl, H1.out, HF1.out, fun h => absurd h (by omega)⟩
  case round =>
    obtain ⟨k, hgk, hk, rfl, hb, hf, hz⟩ := hrel
    have HGK := hide hgk
    have HBK := hide hb
    have HFR := hide hf
    have HZ := hide hz
    have hl := lt_of_blk hb
    by_cases hk7 : k = 7
    · subst hk7
      have hgz : gz s.data.toList = false := hz (by omega)
      have HG := hide hgz
      clear hgk hb hf hz hgz
      rcases hlist : s.data.toList with _ | ⟨c, l⟩
      · obtain rfl : s = ⟨#[]⟩ := by
          apply ByteArray.ext
          apply Array.ext'
          exact hlist
        have HRES : Hid (TyPost [] w (.returned (.int .i64 0)) wr) := hide ⟨0, rfl, by rw [← hlist, HG.out]; simp, HFR.out⟩
        clear hlist
        go_wp2_with fail
        go_ret
        exact HRES.out
      · have hne : s.toList.isEmpty = false := by rw [Lib.toList_data, hlist]; rfl
        have HRES : ∀ t : Int, t ≠ 2 → Hid (TyPost s.data.toList w (.returned (.int .i64 t)) wr) := fun t ht => hide ⟨t, rfl, by rw [HG.out]; simpa using ht, HFR.out⟩
        obtain ⟨m, hm⟩ : ∃ m : Nat, m = min s.size 64 := ⟨_, rfl⟩
        have hms : m ≤ s.size := by omega
        have hm64 : m ≤ 64 := by omega
        have hmm : (if (64 : Int) < (s.size : Int) then (64 : Int) else (s.size : Int)) = (m : Int) := by split <;> omega
        have hmm2 : (if (s.size : Int) < 64 then (s.size : Int) else (64 : Int)) = (m : Int) := by split <;> omega
        have hmm3 : (if (64 : Int) ≤ (s.size : Int) then (64 : Int) else (s.size : Int)) = (m : Int) := by split <;> omega
        have hmm4 : (if (s.size : Int) ≤ 64 then (s.size : Int) else (64 : Int)) = (m : Int) := by split <;> omega
        have hmm5 : min (s.size : Int) 64 = (m : Int) := by omega
        clear hlist hm
        go_wp2_with fail
        obtain ⟨wo, rfl⟩ : ∃ x, x = wr := ⟨_, rfl⟩
        go_loopg [32] (m + 1) (fun gj sv wr => ∃ i : Nat, gj = m + 1 - i ∧ i ≤ m ∧ sv = .int .i64 i ∧ wr = wo)
        case atStart => exact ⟨0, rfl, by omega, rfl, rfl⟩
        case round =>
          obtain ⟨i, hgj, him, rfl, rfl⟩ := hrel
          have HGJ := hide hgj
          clear hgj
          by_cases hi : i < m
          · have his : i < s.size := by omega
            obtain ⟨cc, hcc⟩ : ∃ cc, cc = (s[i]'his).toNat := ⟨_, rfl⟩
            have HCC := hide hcc
            have hcc2 : (s[i]'his).toNat = cc := hcc.symm
            clear hcc
            by_cases q0 : cc = 9
            · have r0 : ((cc : Int) != 9) = false := by simp; omega
              go_wp2_with fail
              go_roundg (m + 1 - (i + 1))
              case measure => have := HGJ.out; omega
              case rel => exact ⟨i + 1, rfl, by omega, by go_num, rfl⟩
            have r0 : ((cc : Int) != 9) = true := by simp; omega
            by_cases q1 : cc = 10
            · have r1 : ((cc : Int) != 10) = false := by simp; omega
              go_wp2_with fail
              go_roundg (m + 1 - (i + 1))
              case measure => have := HGJ.out; omega
              case rel => exact ⟨i + 1, rfl, by omega, by go_num, rfl⟩
            have r1 : ((cc : Int) != 10) = true := by simp; omega
            by_cases q2 : cc = 13
            · have r2 : ((cc : Int) != 13) = false := by simp; omega
              go_wp2_with fail
              go_roundg (m + 1 - (i + 1))
              case measure => have := HGJ.out; omega
              case rel => exact ⟨i + 1, rfl, by omega, by go_num, rfl⟩
            have r2 : ((cc : Int) != 13) = true := by simp; omega
            by_cases q3 : cc < 32
            · have r3 : decide ((cc : Int) < 32) = true := by simp; omega
              go_wp2_with fail
              go_ret
              exact (HRES 0 (by omega)).out
            have r3 : decide ((cc : Int) < 32) = false := by simp; omega
            by_cases q4 : 126 < cc
            · have r4 : decide ((cc : Int) > 126) = true := by simp; omega
              have r4b : decide (126 < (cc : Int)) = true := by simp; omega
              go_wp2_with fail
              go_ret
              exact (HRES 0 (by omega)).out
            have r4 : decide ((cc : Int) > 126) = false := by simp; omega
            have r4b : decide (126 < (cc : Int)) = false := by simp; omega
            go_wp2_with fail
            go_roundg (m + 1 - (i + 1))
            case measure => have := HGJ.out; omega
            case rel => exact ⟨i + 1, rfl, by omega, by go_num, rfl⟩
          · go_wp2_with fail
            go_ret
            exact (HRES 1 (by omega)).out
    · obtain rfl | rfl | rfl | rfl | rfl | rfl | rfl : k = 0 ∨ k = 1 ∨ k = 2 ∨ k = 3 ∨ k = 4 ∨ k = 5 ∨ k = 6 := by omega
      · have c0 : wr.cell? ⟨B, 0, none⟩ = some (.string ⟨#[31, 139]⟩) := cell_blk hb 0
        have c1 : wr.cell? ⟨B, 1, none⟩ = some (.int .i64 2) := cell_blk hb 1
        clear hgk hb hf hz
        go_wp2_with fail
        refine (unhide (HP _ _)).mono ?_
        rintro e w2 ⟨rfl, rfl⟩
        obtain ⟨b, hbv⟩ : ∃ b, b = Lib.hasPrefix s.data.toList (ByteArray.mk #[31, 139]).data.toList := ⟨_, rfl⟩
        rw [← hbv]
        have HBV := hide hbv
        clear hbv
        cases b
        · have HRES : Hid (∃ k : Nat, 8 - 1 = 8 - k ∧ k ≤ 7 ∧ Value.int .i64 1 = .int .i64 k ∧ (wr.alloc (.cells #[.string ⟨#[31, 139]⟩, .int .i64 2] 165)).heap[B]? = some (.cells tyCells 165 (0, 0)) ∧ Fr [] w (wr.alloc (.cells #[.string ⟨#[31, 139]⟩, .int .i64 2] 165)) ∧ (0 < k → gz s.data.toList = false)) := by
            refine hide ⟨1, rfl, by omega, rfl, by rw [heap_alloc_lt hl]; exact HBK.out, HFR.out.alloc _, fun _ => HBV.out.symm⟩
          go_wp2_with fail
          go_roundg (8 - 1)
          case measure => have := HGK.out; omega
          case rel => exact HRES.out
        · have HRES : Hid (TyPost s.data.toList w (.returned (.int .i64 2)) (wr.alloc (.cells #[.string ⟨#[31, 139]⟩, .int .i64 2] 165))) := hide ⟨_, rfl, iff_of_true rfl HBV.out.symm, HFR.out.alloc _⟩
          go_wp2_with fail
          go_ret
          exact HRES.out
      · have c0 : wr.cell? ⟨B, 2, none⟩ = some (.string ⟨#[37, 80, 68, 70, 45]⟩) := cell_blk hb 2
        have c1 : wr.cell? ⟨B, 3, none⟩ = some (.int .i64 3) := cell_blk hb 3
        clear hgk hb hf hz
        go_wp2_with fail
        refine (unhide (HP _ _)).mono ?_
        rintro e w2 ⟨rfl, rfl⟩
        obtain ⟨b, hbv⟩ : ∃ b, b = Lib.hasPrefix s.data.toList (ByteArray.mk #[37, 80, 68, 70, 45]).data.toList := ⟨_, rfl⟩
        rw [← hbv]
        have HBV := hide hbv
        clear hbv
        cases b
        · have HRES : Hid (∃ k : Nat, 8 - 2 = 8 - k ∧ k ≤ 7 ∧ Value.int .i64 2 = .int .i64 k ∧ (wr.alloc (.cells #[.string ⟨#[37, 80, 68, 70, 45]⟩, .int .i64 3] 165)).heap[B]? = some (.cells tyCells 165 (0, 0)) ∧ Fr [] w (wr.alloc (.cells #[.string ⟨#[37, 80, 68, 70, 45]⟩, .int .i64 3] 165)) ∧ (0 < k → gz s.data.toList = false)) := by
            refine hide ⟨2, rfl, by omega, rfl, by rw [heap_alloc_lt hl]; exact HBK.out, HFR.out.alloc _, fun _ => HZ.out (by omega)⟩
          go_wp2_with fail
          go_roundg (8 - 2)
          case measure => have := HGK.out; omega
          case rel => exact HRES.out
        · have HRES : Hid (TyPost s.data.toList w (.returned (.int .i64 3)) (wr.alloc (.cells #[.string ⟨#[37, 80, 68, 70, 45]⟩, .int .i64 3] 165))) := hide ⟨_, rfl, by rw [HZ.out (by omega)]; simp, HFR.out.alloc _⟩
          go_wp2_with fail
          go_ret
          exact HRES.out
      · have c0 : wr.cell? ⟨B, 4, none⟩ = some (.string ⟨#[80, 75, 3, 4]⟩) := cell_blk hb 4
        have c1 : wr.cell? ⟨B, 5, none⟩ = some (.int .i64 4) := cell_blk hb 5
        clear hgk hb hf hz
        go_wp2_with fail
        refine (unhide (HP _ _)).mono ?_
        rintro e w2 ⟨rfl, rfl⟩
        obtain ⟨b, hbv⟩ : ∃ b, b = Lib.hasPrefix s.data.toList (ByteArray.mk #[80, 75, 3, 4]).data.toList := ⟨_, rfl⟩
        rw [← hbv]
        have HBV := hide hbv
        clear hbv
        cases b
        · have HRES : Hid (∃ k : Nat, 8 - 3 = 8 - k ∧ k ≤ 7 ∧ Value.int .i64 3 = .int .i64 k ∧ (wr.alloc (.cells #[.string ⟨#[80, 75, 3, 4]⟩, .int .i64 4] 165)).heap[B]? = some (.cells tyCells 165 (0, 0)) ∧ Fr [] w (wr.alloc (.cells #[.string ⟨#[80, 75, 3, 4]⟩, .int .i64 4] 165)) ∧ (0 < k → gz s.data.toList = false)) := by
            refine hide ⟨3, rfl, by omega, rfl, by rw [heap_alloc_lt hl]; exact HBK.out, HFR.out.alloc _, fun _ => HZ.out (by omega)⟩
          go_wp2_with fail
          go_roundg (8 - 3)
          case measure => have := HGK.out; omega
          case rel => exact HRES.out
        · have HRES : Hid (TyPost s.data.toList w (.returned (.int .i64 4)) (wr.alloc (.cells #[.string ⟨#[80, 75, 3, 4]⟩, .int .i64 4] 165))) := hide ⟨_, rfl, by rw [HZ.out (by omega)]; simp, HFR.out.alloc _⟩
          go_wp2_with fail
          go_ret
          exact HRES.out
      · have c0 : wr.cell? ⟨B, 6, none⟩ = some (.string ⟨#[137, 80, 78, 71, 13, 10, 26, 10]⟩) := cell_blk hb 6
        have c1 : wr.cell? ⟨B, 7, none⟩ = some (.int .i64 5) := cell_blk hb 7
        clear hgk hb hf hz
        go_wp2_with fail
        refine (unhide (HP _ _)).mono ?_
        rintro e w2 ⟨rfl, rfl⟩
        obtain ⟨b, hbv⟩ : ∃ b, b = Lib.hasPrefix s.data.toList (ByteArray.mk #[137, 80, 78, 71, 13, 10, 26, 10]).data.toList := ⟨_, rfl⟩
        rw [← hbv]
        have HBV := hide hbv
        clear hbv
        cases b
        · have HRES : Hid (∃ k : Nat, 8 - 4 = 8 - k ∧ k ≤ 7 ∧ Value.int .i64 4 = .int .i64 k ∧ (wr.alloc (.cells #[.string ⟨#[137, 80, 78, 71, 13, 10, 26, 10]⟩, .int .i64 5] 165)).heap[B]? = some (.cells tyCells 165 (0, 0)) ∧ Fr [] w (wr.alloc (.cells #[.string ⟨#[137, 80, 78, 71, 13, 10, 26, 10]⟩, .int .i64 5] 165)) ∧ (0 < k → gz s.data.toList = false)) := by
            refine hide ⟨4, rfl, by omega, rfl, by rw [heap_alloc_lt hl]; exact HBK.out, HFR.out.alloc _, fun _ => HZ.out (by omega)⟩
          go_wp2_with fail
          go_roundg (8 - 4)
          case measure => have := HGK.out; omega
          case rel => exact HRES.out
        · have HRES : Hid (TyPost s.data.toList w (.returned (.int .i64 5)) (wr.alloc (.cells #[.string ⟨#[137, 80, 78, 71, 13, 10, 26, 10]⟩, .int .i64 5] 165))) := hide ⟨_, rfl, by rw [HZ.out (by omega)]; simp, HFR.out.alloc _⟩
          go_wp2_with fail
          go_ret
          exact HRES.out
      · have c0 : wr.cell? ⟨B, 8, none⟩ = some (.string ⟨#[127, 69, 76, 70]⟩) := cell_blk hb 8
        have c1 : wr.cell? ⟨B, 9, none⟩ = some (.int .i64 6) := cell_blk hb 9
        clear hgk hb hf hz
        go_wp2_with fail
        refine (unhide (HP _ _)).mono ?_
        rintro e w2 ⟨rfl, rfl⟩
        obtain ⟨b, hbv⟩ : ∃ b, b = Lib.hasPrefix s.data.toList (ByteArray.mk #[127, 69, 76, 70]).data.toList := ⟨_, rfl⟩
        rw [← hbv]
        have HBV := hide hbv
        clear hbv
        cases b
        · have HRES : Hid (∃ k : Nat, 8 - 5 = 8 - k ∧ k ≤ 7 ∧ Value.int .i64 5 = .int .i64 k ∧ (wr.alloc (.cells #[.string ⟨#[127, 69, 76, 70]⟩, .int .i64 6] 165)).heap[B]? = some (.cells tyCells 165 (0, 0)) ∧ Fr [] w (wr.alloc (.cells #[.string ⟨#[127, 69, 76, 70]⟩, .int .i64 6] 165)) ∧ (0 < k → gz s.data.toList = false)) := by
            refine hide ⟨5, rfl, by omega, rfl, by rw [heap_alloc_lt hl]; exact HBK.out, HFR.out.alloc _, fun _ => HZ.out (by omega)⟩
          go_wp2_with fail
          go_roundg (8 - 5)
          case measure => have := HGK.out; omega
          case rel => exact HRES.out
        · have HRES : Hid (TyPost s.data.toList w (.returned (.int .i64 6)) (wr.alloc (.cells #[.string ⟨#[127, 69, 76, 70]⟩, .int .i64 6] 165))) := hide ⟨_, rfl, by rw [HZ.out (by omega)]; simp, HFR.out.alloc _⟩
          go_wp2_with fail
          go_ret
          exact HRES.out
      · have c0 : wr.cell? ⟨B, 10, none⟩ = some (.string ⟨#[77, 90]⟩) := cell_blk hb 10
        have c1 : wr.cell? ⟨B, 11, none⟩ = some (.int .i64 7) := cell_blk hb 11
        clear hgk hb hf hz
        go_wp2_with fail
        refine (unhide (HP _ _)).mono ?_
        rintro e w2 ⟨rfl, rfl⟩
        obtain ⟨b, hbv⟩ : ∃ b, b = Lib.hasPrefix s.data.toList (ByteArray.mk #[77, 90]).data.toList := ⟨_, rfl⟩
        rw [← hbv]
        have HBV := hide hbv
        clear hbv
        cases b
        · have HRES : Hid (∃ k : Nat, 8 - 6 = 8 - k ∧ k ≤ 7 ∧ Value.int .i64 6 = .int .i64 k ∧ (wr.alloc (.cells #[.string ⟨#[77, 90]⟩, .int .i64 7] 165)).heap[B]? = some (.cells tyCells 165 (0, 0)) ∧ Fr [] w (wr.alloc (.cells #[.string ⟨#[77, 90]⟩, .int .i64 7] 165)) ∧ (0 < k → gz s.data.toList = false)) := by
            refine hide ⟨6, rfl, by omega, rfl, by rw [heap_alloc_lt hl]; exact HBK.out, HFR.out.alloc _, fun _ => HZ.out (by omega)⟩
          go_wp2_with fail
          go_roundg (8 - 6)
          case measure => have := HGK.out; omega
          case rel => exact HRES.out
        · have HRES : Hid (TyPost s.data.toList w (.returned (.int .i64 7)) (wr.alloc (.cells #[.string ⟨#[77, 90]⟩, .int .i64 7] 165))) := hide ⟨_, rfl, by rw [HZ.out (by omega)]; simp, HFR.out.alloc _⟩
          go_wp2_with fail
          go_ret
          exact HRES.out
      · have c0 : wr.cell? ⟨B, 12, none⟩ = some (.string ⟨#[35, 33]⟩) := cell_blk hb 12
        have c1 : wr.cell? ⟨B, 13, none⟩ = some (.int .i64 8) := cell_blk hb 13
        clear hgk hb hf hz
        go_wp2_with fail
        refine (unhide (HP _ _)).mono ?_
        rintro e w2 ⟨rfl, rfl⟩
        obtain ⟨b, hbv⟩ : ∃ b, b = Lib.hasPrefix s.data.toList (ByteArray.mk #[35, 33]).data.toList := ⟨_, rfl⟩
        rw [← hbv]
        have HBV := hide hbv
        clear hbv
        cases b
        · have HRES : Hid (∃ k : Nat, 8 - 7 = 8 - k ∧ k ≤ 7 ∧ Value.int .i64 7 = .int .i64 k ∧ (wr.alloc (.cells #[.string ⟨#[35, 33]⟩, .int .i64 8] 165)).heap[B]? = some (.cells tyCells 165 (0, 0)) ∧ Fr [] w (wr.alloc (.cells #[.string ⟨#[35, 33]⟩, .int .i64 8] 165)) ∧ (0 < k → gz s.data.toList = false)) := by
            refine hide ⟨7, rfl, by omega, rfl, by rw [heap_alloc_lt hl]; exact HBK.out, HFR.out.alloc _, fun _ => HZ.out (by omega)⟩
          go_wp2_with fail
          go_roundg (8 - 7)
          case measure => have := HGK.out; omega
          case rel => exact HRES.out
        · have HRES : Hid (TyPost s.data.toList w (.returned (.int .i64 8)) (wr.alloc (.cells #[.string ⟨#[35, 33]⟩, .int .i64 8] 165))) := hide ⟨_, rfl, by rw [HZ.out (by omega)]; simp, HFR.out.alloc _⟩
          go_wp2_with fail
          go_ret
          exact HRES.out
end Go.Proofs.YthmhcnnigepohaaGreatDoor.Fi
