/- SHA-256 in the program: the state's bytes; a new object. -/
import Derived.Test.YtgkhjenlfajdcaaDoorAdd
namespace Go.Proofs.YtgkhjenlfajdcaaDoor
open Go.RowKit

theorem elem5 : ElemOk Tryd.prog 27 5 1 1 := ⟨Tryd.underlying27, by
  have h : (Tryd.prog.info? 5).map (fun i => (i.zero.map (fun z => z.cells.size), i.size, i.bytes)) = some (some 1, 1, 1) := by kernel_rfl
  cases hq : Tryd.prog.info? 5 with
  | none => rw [hq] at h; cases h
  | some i =>
    rw [hq] at h
    simp only [Option.map_some, Option.some.injEq, Prod.mk.injEq] at h
    obtain ⟨h1, h2, h3⟩ := h
    cases hz : i.zero with
    | none => rw [hz] at h1; cases h1
    | some z =>
      rw [hz] at h1
      simp only [Option.map_some, Option.some.injEq] at h1
      exact ⟨i, z, rfl, hz, h2, h3, h1⟩, by decide⟩

/-- A slice of bytes that the run owns. -/
def bcells (l : List UInt8) : List Value := l.map (fun b => .int .u8 (b.toNat : Int))
def BAt (w : World) (v : Value) (g : Option Nat) (l : List UInt8) : Prop := SlAt 5 1 w v g l.length (bcells l)
theorem bcells_len (l : List UInt8) : (bcells l).length = l.length := by simp [bcells]
theorem bcells_append (l m : List UInt8) : bcells (l ++ m) = bcells l ++ bcells m := by simp [bcells]

/-- 'string(b)'. -/
theorem BAt.str {w : World} {v : Value} {g : Option Nat} {l : List UInt8} (h : BAt w v g l) (h0 : 0 < l.length) : (convert 27 9 v).run Tryd.prog w = .ok (.string ⟨l.toArray⟩) w ∧ ∃ b off cap, v = .slice (some ⟨b, off, none⟩) l.length cap := by
  rcases h with ⟨_, _, h1, _⟩ | ⟨b, off, cap, cur, hg, hv, hblk, hnc, hfit, hxs, hcells⟩
  · omega
  · subst hv
    refine ⟨run_convert_bytes_back w 27 9 5 ⟨b, off, none⟩ cap l Tryd.underlying27 Tryd.underlying5 Tryd.underlying9 (fun j hj => ?_), b, off, cap, rfl⟩
    rw [Addr.add_lit, cell_blk hblk]
    exact hcells j _ (by simp [bcells, List.getElem?_eq_getElem hj])

theorem BAt.push {w : World} {v : Value} {g : Option Nat} {l : List UInt8} (h : BAt w v g l) (m : List UInt8) (cs : Array Value) (hcs : cs.toList = bcells m) (hm : 0 < m.length) (hl : l.length + m.length ≤ 1000000) :
    ∃ v' w' g', (Builtin.append_ #[27, 27] 27 #[v, .slice (some ⟨w.heap.size, 0, none⟩) m.length m.length]).run Tryd.prog (w.alloc (.cells cs 5)) = .ok v' w' ∧ BAt w' v' g' (l ++ m) ∧ Fr g.toList w w' ∧ (g' = g ∨ ∃ b, g' = some b ∧ w.heap.size ≤ b) := by
  have hk : BAt (w.alloc (.cells cs 5)) v g l := SlAt.keep h (fun b hb => heap_alloc_lt (by obtain ⟨cur, hc⟩ := SlAt.lt h b hb; exact lt_of_blk hc))
  obtain ⟨v', w', g', happ, hsl', hfr', hg'⟩ := SlAt.append elem5 hk 27 ⟨w.heap.size, 0, none⟩ m.length m.length (bcells m) hm (by rw [bcells_len]; omega) (fun j u hj => by
    rw [Addr.add_lit, cell_blk (heap_alloc_eq rfl), ← Array.getElem?_toList, hcs]
    simpa using hj) (by simp [bcells, Value.oneCell']) (by omega) (by unfold maxLen; omega)
  refine ⟨v', w', g', happ, ?_, ((Fr.refl _ w).alloc _).andThen hfr' (fun x hx => .inl hx), ?_⟩
  · unfold BAt
    rw [List.length_append, bcells_append]
    exact hsl'
  · rcases hg' with h1 | ⟨h1, _⟩
    · exact .inl h1
    · exact .inr ⟨_, h1, by simp⟩

theorem ofNat_val (m : Int) (h : 0 ≤ m ∧ m < 256) : ((UInt8.ofNat m.toNat).toNat : Int) = m := by
  have : (UInt8.ofNat m.toNat).toNat = m.toNat % 256 := by simp
  rw [this]
  omega

def outs (f : Nat → Int) : Nat → List UInt8
  | 0 => []
  | t + 1 => outs f t ++ w4 (f t)
theorem outs_len (f : Nat → Int) : ∀ t, (outs f t).length = 4 * t
  | 0 => rfl
  | t + 1 => by simp [outs, outs_len f t, w4]; omega
theorem outs_all (s : St) : outs s.at_ 8 = out8 s := by
  unfold out8
  simp only [outs, List.nil_append]
  rfl

set_option maxRecDepth 100000 in
set_option maxHeartbeats 1000000 in
theorem bytes26_any (hb : Nat) (s : St) (rest : ByteArray) (n : Int) (w : World) (h : HashIs w hb s rest n) :
    Calls Tryd.prog 26 #[.pointer (some ⟨hb, 0, none⟩)] w fun e w' => e = .returned (.string ⟨(out8 s).toArray⟩) ∧ Fr [] w w' := by
  have HH := hide h
  have hhb := lt_of_blk h
  clear h
  go_enter Tryd.func26, Tryd.ntmps26
  go_wp2_with fail
  go_loopg [3, 7] 9 (fun gk vr i wr => ∃ (t : Nat) (g : Option Nat), gk = 9 - t ∧ t ≤ 8 ∧ i = .int .i64 t ∧ BAt wr vr g (outs s.at_ t) ∧ (∀ b, g = some b → w.heap.size ≤ b) ∧ Fr [] w wr)
  case atStart => exact ⟨0, none, rfl, by omega, rfl, SlAt.nil_ _, by simp, Fr.refl _ _⟩
  case round =>
    obtain ⟨t, g, hgk, ht, rfl, hbt, hg, hf⟩ := hrel
    have HGK := hide hgk
    have HB := hide hbt
    have HG := hide hg
    have HF := hide hf
    clear hgk hg
    by_cases hlt : t < 8
    · have eh := (show HashIs wr hb s rest n from (hf.block hb hhb (by simp)).trans HH.out).at_ t hlt
      obtain ⟨x, hx⟩ : ∃ x, x = s.at_ t := ⟨_, rfl⟩
      rw [← hx] at eh
      have hhr : hb < wr.heap.size := by have := hf.size; omega
      have hb8 : (0 : Int) ≤ (t : Int) ∧ (t : Int) < 8 := by omega
      have hcs : (#[.int .u8 (x / 16777216 % 256), .int .u8 (x / 65536 % 256), .int .u8 (x / 256 % 256), .int .u8 (x % 256)] : Array Value).toList = bcells (w4 x) := by
        unfold bcells w4
        simp only [List.map_cons, List.map_nil]
        rw [ofNat_val _ (by omega), ofNat_val _ (by omega), ofNat_val _ (by omega), ofNat_val _ (by omega)]
        rfl
      have hlen := outs_len s.at_ t
      obtain ⟨v', w', g', happ, hb', hf', hg'⟩ := BAt.push hbt (w4 x) _ hcs (by simp [w4]) (by simp [w4]; omega)
      have hap : (Builtin.append_ #[27, 27] 27 #[u3, .slice (some ⟨wr.heap.size, 0, none⟩) 4 4]).run Tryd.prog (wr.alloc (.cells #[.int .u8 (x / 16777216 % 256), .int .u8 (x / 65536 % 256), .int .u8 (x / 256 % 256), .int .u8 (x % 256)] 5)) = .ok v' w' := happ
      have HB' := hide hb'
      have HF' := hide hf'
      have HG' := hide hg'
      have HX := hide hx
      clear hbt happ hb' hf' hg' hx hcs hf
      go_wp2_with (at_builtin; refine wpList_append_run rfl _ _ 27 rfl hap rfl rfl ?_)
      go_roundg (9 - (t + 1))
      case measure => have := HGK.out; omega
      case rel =>
        refine ⟨t + 1, g', rfl, by omega, by go_num, ?_, ?_, HF.out.andThen HF'.out (fun y hy => .inr (HG.out y (by simpa using hy)))⟩
        · show BAt _ _ _ (outs s.at_ t ++ w4 (s.at_ t))
          rw [← HX.out]
          exact HB'.out
        · intro b2 hb2
          rcases HG'.out with h1 | ⟨b3, h1, h2⟩
          · exact HG.out b2 (h1 ▸ hb2)
          · rw [h1] at hb2
            injection hb2 with hb2
            have := HF.out.size
            omega
    · obtain rfl : t = 8 := by omega
      rw [outs_all] at hbt
      obtain ⟨hstr, b, off, cap, rfl⟩ := hbt.str (by simp [out8, w4])
      clear hbt hf
      go_wp2
      go_ret
      exact ⟨rfl, HF.out⟩

theorem begin24_any (w : World) :
    Calls Tryd.prog 24 #[] w fun e w' => e = .returned (.agg #[.int .u32 1779033703, .int .u32 3144134277, .int .u32 1013904242, .int .u32 2773480762, .int .u32 1359893119, .int .u32 2600822924, .int .u32 528734635, .int .u32 1541459225]) ∧ Fr [] w w' := by
  go_enter Tryd.func24, Tryd.ntmps24
  go_wp2
  refine bodyPost_ret (results_cell_row rfl _ _ w.heap.size 43 _ (0, 0) _ rfl (heap_alloc_eq rfl) Tryd.underlying43 rfl (by kernel_rfl)) rfl ?_
  exact ⟨rfl, (Fr.refl _ _).alloc _⟩

theorem new13_any (w : World) :
    Calls Tryd.prog 13 #[] w fun e w' => ∃ hb, e = .returned (.pointer (some ⟨hb, 0, none⟩)) ∧ w.heap.size ≤ hb ∧ HashIs w' hb s0 ⟨#[]⟩ 0 ∧ Fr [] w w' := by
  go_enter Tryd.func13, Tryd.ntmps13
  go_wp2_with fail
  refine (begin24_any _).mono ?_
  rintro e w1 ⟨rfl, hf⟩
  have HF := hide hf
  clear hf
  go_wp2
  go_ret
  exact ⟨_, rfl, HF.out.size, heap_alloc_eq rfl, HF.out.alloc _⟩
end Go.Proofs.YtgkhjenlfajdcaaDoor

