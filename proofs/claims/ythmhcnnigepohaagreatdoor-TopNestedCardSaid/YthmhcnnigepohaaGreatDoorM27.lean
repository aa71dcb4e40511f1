/- inflate.items: what note writes. -/
import Derived.Test.YthmhcnnigepohaaGreatDoorM01
import Derived.Test.YthmhcnnigepohaaGreatDoorM02
import Derived.Test.YthmhcnnigepohaaGreatDoorM24
import Derived.Deep.RegionHeld3
import Derived.Test.YthmhcnnigepohaaGreatDoorM22
import Derived.Test.YthmhcnnigepohaaGreatDoorM26
namespace Go.Proofs.YthmhcnnigepohaaGreatDoor.En
open Go.RowKit
open If (Grows)
open Hf (NAt step_append_run)
open Go.ChangeMaps (setBlock)
set_option linter.unusedVariables false

/-- A slice of offsets, as a map's value. -/
structure Ow where
  v : Value
  g : Option Nat
  L : List Nat
/-- What is seen at n offsets: each key's offsets, in blocks of their own. -/
structure Seen (w : World) (bm : Nat) (G : List Nat) (s : ByteArray) (n : Nat) (M : List (ByteArray × Ow)) : Prop where
  map : MapIs eStr Ow.v w bm M
  sl : ∀ p ∈ M, NAt w p.2.v p.2.g p.2.L
  mem : ∀ p ∈ M, ∀ x, p.2.g = some x → x ∈ G
  len : ∀ p ∈ M, p.2.L.length ≤ n
  at_ : ∀ p ∈ M, ∀ f ∈ p.2.L, f < n ∧ f + 3 ≤ s.size ∧ s.extract f (f + 3) = p.1
  apart : ∀ p ∈ M, ∀ q ∈ M, p.1 ≠ q.1 → ∀ x, p.2.g = some x → q.2.g ≠ some x
  inn : In w G
  off : bm ∉ G
theorem Seen.fr {w w' : World} {bm : Nat} {G S : List Nat} {s : ByteArray} {n : Nat} {M : List (ByteArray × Ow)} (h : Seen w bm G s n M) (hf : Fr S w w') (hS : ∀ b ∈ S, b ∉ G ∧ b ≠ bm) : Seen w' bm G s n M := by
  have hb : bm ∉ S := fun hm => (hS bm hm).2 rfl
  refine ⟨h.map.keep (hf.block bm h.map.lt hb), fun p hp => SlAt.fr (h.sl p hp) hf (fun b hbg hm => (hS b hm).1 (h.mem p hp b hbg)), h.mem, h.len, h.at_, h.apart, h.inn.fr hf, h.off⟩
theorem Seen.mono {w : World} {bm : Nat} {G : List Nat} {s : ByteArray} {n m : Nat} {M : List (ByteArray × Ow)} (h : Seen w bm G s n M) (hm : n ≤ m) : Seen w bm G s m M :=
  ⟨h.map, h.sl, h.mem, fun p hp => Nat.le_trans (h.len p hp) hm, fun p hp f hf => ⟨Nat.lt_of_lt_of_le (h.at_ p hp f hf).1 hm, (h.at_ p hp f hf).2⟩, h.apart, h.inn, h.off⟩
def owNil : Ow := ⟨.slice none 0 0, none, []⟩
def look (M : List (ByteArray × Ow)) (k : ByteArray) : Ow := (mget M k).getD owNil
theorem zero77 (W : World) : (zeroValue 77).run Tryz.prog W = .ok (.slice none 0 0) W := by kernel_rfl
theorem Seen.lookup {w : World} {bm : Nat} {G : List Nat} {s : ByteArray} {n : Nat} {M : List (ByteArray × Ow)} (h : Seen w bm G s n M) (k : ByteArray) :
    (Instr.lookup 114 (.map (some bm)) (.string k) false).run Tryz.prog w = .ok (look M k).v w := by
  have h1 := MapIs.lookup keyOk9 Tryz.underlying114 (zero77 w) h.map k false
  have e : lookVal false (.slice none 0 0) ((mget M k).map Ow.v) = (look M k).v := by
    unfold look lookVal
    cases mget M k <;> rfl
  rw [e] at h1
  exact h1
theorem Seen.look {w : World} {bm : Nat} {G : List Nat} {s : ByteArray} {n : Nat} {M : List (ByteArray × Ow)} (h : Seen w bm G s n M) (k : ByteArray) :
    NAt w (look M k).v (look M k).g (look M k).L ∧ (∀ x, (look M k).g = some x → x ∈ G) ∧ (look M k).L.length ≤ n ∧ (∀ f ∈ (look M k).L, f < n ∧ f + 3 ≤ s.size ∧ s.extract f (f + 3) = k) ∧ ∀ p ∈ M, p.1 ≠ k → ∀ x, (look M k).g = some x → p.2.g ≠ some x := by
  unfold En.look
  cases hm : mget M k with
  | none => exact ⟨SlAt.nil_ _, by simp [owNil], by simp [owNil], by simp [owNil], by simp [owNil]⟩
  | some o =>
    have hp := mget_some hm
    exact ⟨h.sl _ hp, h.mem _ hp, h.len _ hp, h.at_ _ hp, fun p hpm hne x hx => h.apart _ hp p hpm (fun e => hne e.symm) x hx⟩

theorem step_lookup_run {P : Program} {ops : Array Oper} {o : Oper} {a : Act} {w : World} {K : Act → World → Prop} {Q : Exit → Act → World → Prop} {E : Prop} (hg : o.guard = none) (m x : Operand) (t : TypeId)
    (ho : o.op = .lookup t m x false) {v y u : Value} {w' : World} (hrun : (Instr.lookup t v y false).run P w = .ok u w')
    (hs : a.eval m = v) (hx : a.eval x = y) (h : K (a.put o.dst u) w') : if Region.wanted o (yielded ops a.tmps) = true then Oper.wp P o a w K Q else E := by
  have hw : Region.wanted o (yielded ops a.tmps) = true := by simp [Region.wanted, hg]
  rw [if_pos hw]
  unfold Oper.wp execOp
  simp only [ho, Sem.run_bind, Sem.run_pure, Result.andThen_ok, hs, hx, hrun]
  exact h
theorem step_update_run {P : Program} {ops : Array Oper} {o : Oper} {a : Act} {w : World} {K : Act → World → Prop} {Q : Exit → Act → World → Prop} {E : Prop} (hg : o.guard = none) (m x z : Operand) (t : TypeId)
    (ho : o.op = .mapUpdate t m x z) {v y u : Value} {w' : World} (hrun : (Instr.mapUpdate t v y u).run P w = .ok () w')
    (hs : a.eval m = v) (hx : a.eval x = y) (hz : a.eval z = u) (h : K (a.put o.dst undef) w') : if Region.wanted o (yielded ops a.tmps) = true then Oper.wp P o a w K Q else E := by
  have hw : Region.wanted o (yielded ops a.tmps) = true := by simp [Region.wanted, hg]
  rw [if_pos hw]
  unfold Oper.wp execOp
  simp only [ho, Sem.run_bind, Sem.run_pure, Result.andThen_ok, hs, hx, hz, hrun]
  exact h

def NotePost (bm : Nat) (G : List Nat) (s : ByteArray) (n : Nat) (w : World) (e : Ending) (w' : World) : Prop :=
  e = .returned (.tuple #[]) ∧ ∃ G' M', Seen w' bm G' s n M' ∧ Grows w G G' ∧ Fr (bm :: G) w w'
set_option maxRecDepth 100000 in
set_option maxHeartbeats 4000000 in
theorem note51_any (i bs b0 bm : Nat) (G : List Nat) (s : ByteArray) (M : List (ByteArray × Ow)) (w : World) (h : Seen w bm G s i M) (hs : w.cell? ⟨bs, 0, none⟩ = some (.string s)) (hb : w.cell? ⟨b0, 0, none⟩ = some (.map (some bm))) (hi : i ≤ 100000) (hsz : s.size ≤ 100000) (hbs : bs ∉ G ∧ bs ≠ bm) (hb0 : b0 ∉ G ∧ b0 ≠ bm) :
    Calls Tryz.prog 51 #[.int .i64 i, .pointer (some ⟨bs, 0, none⟩), .pointer (some ⟨b0, 0, none⟩)] w (NotePost bm G s (i + 1) w) := by
  have hbl1 : bs < w.heap.size := World.block_lt_of_cell? w _ hs
  have hbl2 : b0 < w.heap.size := World.block_lt_of_cell? w _ hb
  have z1 : IntKind.i64.wrap ((i : Int) + 3) = (i : Int) + 3 := IntWalk.i64_in _ (by omega)
  by_cases hle : i + 3 ≤ s.size
  · have d1 : decide ((i : Int) + 3 ≤ (s.size : Int)) = true := by simp; omega
    obtain ⟨k, hk⟩ : ∃ k, k = s.extract i (i + 3) := ⟨_, rfl⟩
    obtain ⟨l1, l2, l3, l4, l5⟩ := h.look k
    have hlk := h.lookup k
    obtain ⟨⟨v, g, L⟩, ho⟩ : ∃ o, o = look M k := ⟨_, rfl⟩
    rw [← ho] at l1 l2 l3 l4 l5 hlk
    simp only at l1 l2 l3 l4 l5 hlk
    have hgG : ∀ x ∈ g.toList, x ∈ G := fun x hx => l2 x (by simpa using hx)
    have hbg : bm ∉ g.toList := fun hm => h.off (hgG bm hm)
    have hsg : bs ∉ g.toList := fun hm => hbs.1 (hgG bs hm)
    have h0g : b0 ∉ g.toList := fun hm => hb0.1 (hgG b0 hm)
    have hnd : NAt w.drew v g L := SlAt.fr l1 ((Fr.refl [] w).drew) (by simp)
    obtain ⟨v', w', g', happ, hn', hf', hg'⟩ := hnd.push i (by omega)
    have hwd : Fr g.toList w w' := ((Fr.refl g.toList w).drew).trans hf'
    have hmap' := h.map.keep (hwd.block bm h.map.lt hbg)
    obtain ⟨es, c, hup, hrep⟩ := MapIs.update keyOk9 Tryz.underlying114 hmap' k (⟨v', g', L ++ [i]⟩ : Ow)
    have hfb : Fr [bm] w' (setBlock w' bm (.map es c)) := (Fr.refl [bm] w').setBlock (.inl (by simp)) _
    have hfall : Fr (bm :: G) w (setBlock w' bm (.map es c)) := (hwd.sub (fun x hx => by simp [hgG x hx])).trans (hfb.sub (fun x hx => by simp at hx; simp [hx]))
    have hgr : Grows w G (g'.toList ++ G) := fun x hx => by
      rcases List.mem_append.1 hx with hx | hx
      · rcases hg' with h1 | ⟨y, h1, h2⟩
        · rw [h1] at hx; exact .inl (hgG x hx)
        · rw [h1] at hx; simp at hx; subst hx; exact .inr h2
      · exact .inl hx
    have hg'lt : ∀ x, g' = some x → x < w'.heap.size := fun x hx => by obtain ⟨cur, hc⟩ := SlAt.lt hn' x hx; exact lt_of_blk hc
    have hg'bm : ∀ x, g' = some x → x ≠ bm := fun x hx e => by
      rcases hg' with h1 | ⟨y, h1, h2⟩
      · rw [h1] at hx; exact hbg (by rw [← e]; simpa using hx)
      · rw [h1] at hx; injection hx with hx
        have h2' : w.heap.size ≤ y := h2
        have := h.map.lt
        omega
    have HSEEN : Seen (setBlock w' bm (.map es c)) bm (g'.toList ++ G) s (i + 1) (mput M k ⟨v', g', L ++ [i]⟩) := by
      have hold : ∀ p ∈ M, p.1 ≠ k → NAt (setBlock w' bm (.map es c)) p.2.v p.2.g p.2.L := fun p hp hne =>
        SlAt.fr (SlAt.fr (h.sl p hp) hwd (fun b hbp hm => l5 p hp hne b (by simpa using hm) hbp)) hfb (fun b hbp hm => by
          simp at hm; rw [hm] at hbp; exact h.off (h.mem p hp bm hbp))
      have hnew : NAt (setBlock w' bm (.map es c)) v' g' (L ++ [i]) := SlAt.fr hn' hfb (fun b hb hm => hg'bm b hb (by simpa using hm))
      have hap1 : ∀ p ∈ M, p.1 ≠ k → ∀ x, g' = some x → p.2.g ≠ some x := fun p hp hne x hx e => by
        rcases hg' with h1 | ⟨y, h1, h2⟩
        · rw [h1] at hx; exact l5 p hp hne x hx e
        · rw [h1] at hx; injection hx with hx
          have h2' : w.heap.size ≤ y := h2
          have := h.inn x (h.mem p hp x e)
          omega
      refine ⟨⟨es, c, heap_blk_same hmap'.lt, hrep⟩, fun p hp => ?_, fun p hp x hx => ?_, fun p hp => ?_, fun p hp f hf => ?_, fun p hp q hq hne x hx => ?_, ?_, ?_⟩
      · rcases mget_mput M k _ p hp with rfl | ⟨h1, h2⟩
        · exact hnew
        · exact hold p h1 h2
      · rcases mget_mput M k _ p hp with rfl | ⟨h1, h2⟩
        · simp only at hx; simp [hx]
        · simp [h.mem p h1 x hx]
      · rcases mget_mput M k _ p hp with rfl | ⟨h1, h2⟩
        · simp; omega
        · have := h.len p h1; omega
      · rcases mget_mput M k _ p hp with rfl | ⟨h1, h2⟩
        · simp only at hf
          rcases List.mem_append.1 hf with hf | hf
          · have := l4 f hf; exact ⟨by omega, this.2⟩
          · simp at hf; subst hf; exact ⟨by omega, hle, hk.symm⟩
        · have := h.at_ p h1 f hf; exact ⟨by omega, this.2⟩
      · rcases mget_mput M k _ p hp with rfl | ⟨h1, h2⟩
        · rcases mget_mput M k _ q hq with rfl | ⟨h3, h4⟩
          · exact absurd rfl hne
          · exact hap1 q h3 h4 x hx
        · rcases mget_mput M k _ q hq with rfl | ⟨h3, h4⟩
          · intro e; exact hap1 p h1 h2 x e hx
          · exact h.apart p h1 q h3 hne x hx
      · intro x hx
        have hsz : w'.heap.size ≤ (setBlock w' bm (.map es c)).heap.size := hfb.size
        rcases List.mem_append.1 hx with hx | hx
        · have := hg'lt x (by simpa using hx); omega
        · have := h.inn x hx; have := hwd.size; omega
      · intro hm
        rcases List.mem_append.1 hm with hx | hx
        · exact hg'bm bm (by simpa using hx) rfl
        · exact h.off hx
    have HRES : Hid (NotePost bm G s (i + 1) w (.returned (.tuple #[])) (setBlock w' bm (.map es c))) := hide ⟨rfl, _, _, HSEEN, hgr, hfall⟩
    have hs' : w'.cell? ⟨bs, 0, none⟩ = some (.string s) := by rw [World.cell?_of_block (w := w) (hwd.block bs hbl1 hsg)]; exact hs
    have hb' : w'.cell? ⟨b0, 0, none⟩ = some (.map (some bm)) := by rw [World.cell?_of_block (w := w) (hwd.block b0 hbl2 h0g)]; exact hb
    have hsb : (setBlock w' bm (.map es c)).cell? ⟨bs, 0, none⟩ = some (.string s) := by rw [World.cell?_of_block (w := w') (heap_blk_other hbs.2)]; exact hs'
    have hbb : (setBlock w' bm (.map es c)).cell? ⟨b0, 0, none⟩ = some (.map (some bm)) := by rw [World.cell?_of_block (w := w') (heap_blk_other hb0.2)]; exact hb'
    have HLK : Hid (∀ W, W.heap[bm]? = w.heap[bm]? → (Instr.lookup 114 (.map (some bm)) (.string k) false).run Tryz.prog W = .ok v W) := by
      refine hide fun W hW => ?_
      have h1 := MapIs.lookup keyOk9 Tryz.underlying114 (zero77 W) (h.map.keep hW) k false
      have e : lookVal false (.slice none 0 0) ((mget M k).map Ow.v) = v := by
        have : v = (look M k).v := by rw [← ho]
        rw [this]
        unfold look lookVal
        cases mget M k <;> rfl
      rw [e] at h1
      exact h1
    obtain ⟨pa, pc, hpv⟩ := SlAt.shape l1
    have hap : (Builtin.append_ #[77, 77] 77 #[v, .slice (some ⟨w.heap.size, 0, none⟩) 1 1]).run Tryz.prog ((w.alloc (.cells #[.int .i64 (i : Int)] 3)).drew) = .ok v' w' := happ
    have hbl3 := h.map.lt
    have hal : ∀ (o : Obj), ((w.alloc o).drew).heap[bm]? = w.heap[bm]? := fun o => heap_alloc_lt hbl3
    have HAL := hide hal
    have z2 : ((i : Int) + 3).toNat = i + 3 := by omega
    have b1 : (i : Int) ≤ (i : Int) + 3 := by omega
    have b2 : (i : Int) + 3 ≤ (s.size : Int) := by omega
    have b3 : (0 : Int) ≤ (i : Int) + 3 := by omega
    have hlkd : (Instr.lookup 114 (.map (some bm)) (.string (s.extract i (i + 3))) false).run Tryz.prog w.drew = .ok v w.drew := by rw [← hk]; exact HLK.out _ rfl
    have hlka : (Instr.lookup 114 (.map (some bm)) (.string (s.extract i (i + 3))) false).run Tryz.prog (w.alloc (.cells #[.int .i64 (i : Int)] 3)).drew = .ok v (w.alloc (.cells #[.int .i64 (i : Int)] 3)).drew := by rw [← hk]; exact HLK.out _ (heap_alloc_lt hbl3)
    have hup2 : (Instr.mapUpdate 114 (.map (some bm)) (.string (s.extract i (i + 3))) v').run Tryz.prog w' = .ok () (setBlock w' bm (.map es c)) := by rw [← hk]; exact hup
    have HK := hide hk
    clear hup HLK h l1 l2 l3 l4 l5 hlk ho hgG hbg hsg h0g hnd happ hn' hf' hg' hwd hmap' hrep hfb hfall hgr hg'lt hg'bm HSEEN hpv hal hk
    go_enter Tryz.func51, Tryz.ntmps51
    go_upto_region 1 with (fail)
    go_region_held3 (fun W => W.cell? ⟨bs, 0, none⟩ = some (.string s) ∧ W.cell? ⟨b0, 0, none⟩ = some (.map (some bm))) (go_keep) (first | ((with_reducible refine step_append_run rfl _ _ 77 rfl hap ?_ ?_ ?_); rfl; rfl))
    all_goals go_wp2
    all_goals refine bodyPost_end (results_none rfl _ _ _) rfl ?_
    all_goals exact HRES.out
  · have d1 : decide ((i : Int) + 3 ≤ (s.size : Int)) = false := by simp; omega
    have HRES : Hid (NotePost bm G s (i + 1) w (.returned (.tuple #[])) w) := hide ⟨rfl, G, M, h.mono (by omega), Grows.refl _ _, Fr.refl _ _⟩
    clear h hle
    go_enter Tryz.func51, Tryz.ntmps51
    go_wp2
    refine bodyPost_end (results_none rfl _ _ _) rfl ?_
    exact HRES.out
end Go.Proofs.YthmhcnnigepohaaGreatDoor.En

/- inflate.items. -/
namespace Go.Proofs.YthmhcnnigepohaaGreatDoor.En
open Go.RowKit
open If (Grows cp)
open Hf (NAt step_append_run)
open Go.ChangeMaps (setBlock)
set_option linter.unusedVariables false

theorem cp_eq (B : List UInt8) (far : Nat) : ∀ (n at_ : Nat), 1 ≤ far → far ≤ at_ → at_ + n ≤ B.length → (∀ j, j < n → B.getD (at_ - far + j) 0 = B.getD (at_ + j) 0) → B.take at_ ++ cp far n (B.take at_) = B.take (at_ + n)
  | 0, at_, _, _, _, _ => by simp [cp]
  | n + 1, at_, h1, h2, h3, hj => by
    have e0 : (B.take at_).length = at_ := by rw [List.length_take]; omega
    have e1 : (B.take at_).getD (at_ - far) 0 = B.getD at_ 0 := by
      have := hj 0 (by omega)
      simp only [Nat.add_zero] at this
      rw [← this]
      simp only [List.getD, List.getElem?_take_of_lt (show at_ - far < at_ by omega)]
    have e2 : B.take at_ ++ [B.getD at_ 0] = B.take (at_ + 1) := by
      rw [List.take_succ_eq_append_getElem (show at_ < B.length by omega)]
      simp [List.getD, List.getElem?_eq_getElem (show at_ < B.length by omega)]
    have ih := cp_eq B far n (at_ + 1) h1 (by omega) (by omega) (fun j hjn => by
      have := hj (j + 1) (by omega)
      rw [show at_ - far + (j + 1) = at_ + 1 - far + j by omega, show at_ + (j + 1) = at_ + 1 + j by omega] at this
      exact this)
    rw [cp, e0, e1, e2]
    rw [show B.take at_ ++ B.getD at_ 0 :: cp far n (B.take (at_ + 1)) = B.take at_ ++ [B.getD at_ 0] ++ cp far n (B.take (at_ + 1)) by simp, e2, ih]
    congr 1; omega
theorem mok_grow {B : List UInt8} {at_ n far : Nat} (h : MOk B at_ n far) (hat : at_ < B.length) : Valid (B.take at_) ⟨B.getD at_ 0, n, far⟩ ∧ grow (B.take at_) ⟨B.getD at_ 0, n, far⟩ = B.take (at_ + if n < 1 then 1 else n) ∧ ItOk ⟨B.getD at_ 0, n, far⟩ ∧ at_ + (if n < 1 then 1 else n) ≤ B.length := by
  rcases h with ⟨rfl, rfl⟩ | ⟨h1, h2, h3, h4, h5, h6, h7⟩
  · refine ⟨.inl rfl, ?_, .inl rfl, by simp; omega⟩
    unfold grow
    rw [if_pos rfl, if_pos (by omega), List.take_succ_eq_append_getElem hat]
    simp [List.getD, List.getElem?_eq_getElem hat]
  · refine ⟨.inr ⟨h1, h2, h4, h5, by show far ≤ _; rw [List.length_take]; omega⟩, ?_, .inr ⟨h1, h2, h4, h5⟩, by rw [if_neg (by omega)]; exact h3⟩
    unfold grow
    rw [if_neg (by simp only; omega), if_neg (by omega)]
    exact cp_eq B far n at_ h4 h6 h3 h7

theorem ItAt.push {w : World} {v : Value} {g : Option Nat} {l : List It} (h : ItAt w v g l) (x : It) (hl : l.length ≤ 1000000) :
    ∃ v' w' g', (Builtin.append_ #[81, 81] 81 #[v, .slice (some ⟨w.heap.size, 0, none⟩) 1 1]).run Tryz.prog (w.alloc (.cells #[.int .u8 (x.c.toNat : Int), .int .i64 (x.n : Nat), .int .i64 (x.far : Nat)] 84)) = .ok v' w' ∧ ItAt w' v' g' (l ++ [x]) ∧ Fr g.toList w w' ∧ (g' = g ∨ ∃ b, g' = some b ∧ w.heap.size ≤ b) := by
  have hk : ItAt (w.alloc (.cells #[.int .u8 (x.c.toNat : Int), .int .i64 (x.n : Nat), .int .i64 (x.far : Nat)] 84)) v g l := SlAt.keep h (fun b hb => heap_alloc_lt (by obtain ⟨cur, hc⟩ := SlAt.lt h b hb; exact lt_of_blk hc))
  obtain ⟨v', w', g', happ, hsl', hfr', hg'⟩ := SlAt.append elem84 hk 81 ⟨w.heap.size, 0, none⟩ 1 1 (itC x) (by omega) rfl (fun j u hj => by
    rw [Addr.add_lit, cell_blk (heap_alloc_eq rfl)]
    simpa [itC] using hj) (by simp [itC, Value.oneCell']) (by omega) (by unfold maxLen; omega)
  refine ⟨v', w', g', happ, ?_, ((Fr.refl _ w).alloc _).andThen hfr' (fun x hx => .inl hx), ?_⟩
  · unfold ItAt
    rw [List.length_append, List.length_singleton]
    have : itsC (l ++ [x]) = itsC l ++ itC x := by simp [itsC]
    rw [this]
    exact hsl'
  · rcases hg' with h1 | ⟨h1, _⟩
    · exact .inl h1
    · exact .inr ⟨_, h1, by simp⟩

/-- Between two rounds. -/
structure ItI (s : ByteArray) (w wr : World) (N at_ : Nat) (v : Value) (g : Option Nat) (l : List It) (G : List Nat) (M : List (ByteArray × Ow)) : Prop where
  out : ItAt wr v g l
  val : Valids [] l (s.data.toList.take at_)
  ok : ∀ x ∈ l, ItOk x
  len : l.length ≤ at_
  new : ∀ b, g = some b → N + 3 ≤ b ∧ b ∉ G
  seen : Seen wr (N + 1) G s at_ M
  all : ∀ b ∈ G, N + 3 ≤ b
  c0 : wr.cell? ⟨N, 0, none⟩ = some (.string s)
  c2 : wr.cell? ⟨N + 2, 0, none⟩ = some (.map (some (N + 1)))
  fr : Fr [] w wr
theorem cell_fr {w w' : World} {S : List Nat} {b i : Nat} {v : Value} (hf : Fr S w w') (h : w.cell? ⟨b, i, none⟩ = some v) (hb : b ∉ S) : w'.cell? ⟨b, i, none⟩ = some v := by
  rw [World.cell?_of_block (w := w) (hf.block b (World.block_lt_of_cell? w _ h) hb)]; exact h
/-- Behind a run that has turned what lies in neither. -/
theorem ItI.away {s : ByteArray} {w wr w' : World} {N at_ : Nat} {v : Value} {g : Option Nat} {l : List It} {G S : List Nat} {M : List (ByteArray × Ow)} (h : ItI s w wr N at_ v g l G M) (hf : Fr S wr w') (hS : ∀ b ∈ S, wr.heap.size ≤ b) (hN : w.heap.size = N) : ItI s w w' N at_ v g l G M := by
  have hne : ∀ {b : Nat}, b < wr.heap.size → b ∉ S := fun hb hm => by have := hS _ hm; omega
  have hsz := h.fr.size
  have hseen : Seen w' (N + 1) G s at_ M := h.seen.fr hf (fun b hb => And.intro (fun hm => by have := h.seen.inn b hm; have := hS b hb; omega) (fun e => by have := h.seen.map.lt; have := hS b hb; omega))
  refine ⟨SlAt.fr h.out hf (fun b hb => hne (by obtain ⟨cur, hc⟩ := SlAt.lt h.out b hb; exact lt_of_blk hc)), h.val, h.ok, h.len, h.new, hseen, h.all, cell_fr hf h.c0 (hne (World.block_lt_of_cell? wr _ h.c0)), cell_fr hf h.c2 (hne (World.block_lt_of_cell? wr _ h.c2)), h.fr.andThen hf (fun x hx => .inr (by have := hS x hx; omega))⟩
/-- An item more. -/
theorem ItI.push {s : ByteArray} {w wr w' : World} {N at_ : Nat} {v v' : Value} {g g' : Option Nat} {l : List It} {G : List Nat} {M : List (ByteArray × Ow)} {n far : Nat} (h : ItI s w wr N at_ v g l G M) (hN : w.heap.size = N)
    (hm : MOk s.data.toList at_ n far) (hat : at_ < s.data.toList.length) (hi : ItAt w' v' g' (l ++ [It.mk (s.data.toList.getD at_ 0) n far])) (hf : Fr g.toList wr w') (hg : g' = g ∨ ∃ b, g' = some b ∧ wr.heap.size ≤ b) :
    ItAt w' v' g' (l ++ [It.mk (s.data.toList.getD at_ 0) n far]) ∧ Valids [] (l ++ [It.mk (s.data.toList.getD at_ 0) n far]) (s.data.toList.take (at_ + if n < 1 then 1 else n)) ∧ (∀ x ∈ l ++ [It.mk (s.data.toList.getD at_ 0) n far], ItOk x) ∧ (l ++ [It.mk (s.data.toList.getD at_ 0) n far]).length ≤ at_ + 1 ∧
      (∀ b, g' = some b → N + 3 ≤ b ∧ b ∉ G) ∧ Seen w' (N + 1) G s at_ M ∧ w'.cell? ⟨N, 0, none⟩ = some (.string s) ∧ w'.cell? ⟨N + 2, 0, none⟩ = some (.map (some (N + 1))) ∧ Fr [] w w' ∧ at_ + (if n < 1 then 1 else n) ≤ s.data.toList.length := by
  obtain ⟨a1, a2, a3, a4⟩ := mok_grow hm hat
  have hgl : ∀ b ∈ g.toList, N + 3 ≤ b ∧ b ∉ G := fun b hb => h.new b (by simpa using hb)
  have h2 := World.block_lt_of_cell? wr _ h.c2
  have h2' : N + 2 < wr.heap.size := h2
  refine ⟨hi, by rw [← a2]; exact h.val.snoc a1, fun x hx => ?_, by have := h.len; simp; omega, fun b hb => ?_, h.seen.fr hf (fun b hb => ⟨(hgl b hb).2, by have := (hgl b hb).1; omega⟩), cell_fr hf h.c0 (fun hm => by have := (hgl _ hm).1; omega), cell_fr hf h.c2 (fun hm => by have := (hgl _ hm).1; omega), h.fr.andThen hf (fun x hx => .inr (by have := (hgl x hx).1; omega)), a4⟩
  · rcases List.mem_append.1 hx with hx | hx
    · exact h.ok x hx
    · simp only [List.mem_singleton] at hx; rw [hx]; exact a3
  · rcases hg with h1 | ⟨y, h1, h3⟩
    · exact h.new b (h1 ▸ hb)
    · rw [h1] at hb; injection hb with hb
      exact ⟨by omega, fun hm => by have := h.seen.inn b hm; omega⟩

def ItPost (s : ByteArray) (w : World) (e : Ending) (w' : World) : Prop :=
  ∃ v g l, e = .returned v ∧ ItAt w' v g l ∧ (∀ b, g = some b → w.heap.size ≤ b) ∧ Valids [] l s.data.toList ∧ (∀ x ∈ l, ItOk x) ∧ l.length ≤ s.size ∧ Fr [] w w'
set_option maxRecDepth 100000 in
set_option maxHeartbeats 8000000 in
theorem items31_any (s : ByteArray) (w : World) (hs : s.size ≤ 65536) : Calls Tryz.prog 31 #[.string s] w (ItPost s w) := by
  have hmm := @run_makeMap Tryz.prog
  go_enter Tryz.func31, Tryz.ntmps31
  go_wp2_with fail
  have HI0 : Hid (ItI s w (((w.alloc (.cells #[.string s] 9)).alloc (.map #[] 0)).alloc (.cells #[.map (some (w.heap.size + 1))] 114)) w.heap.size 0 (.slice none 0 0) none [] [] []) := by
    have hf : Fr [] w (((w.alloc (.cells #[.string s] 9)).alloc (.map #[] 0)).alloc (.cells #[.map (some (w.heap.size + 1))] 114)) := (((Fr.refl [] w).alloc _).alloc _).alloc _
    refine hide ⟨SlAt.nil_ _, by simpa using Valids.nil, by simp, by simp, by simp, ⟨⟨#[], 0, ?_, ⟨rfl, by simp, by simp, by simp⟩⟩, by simp, by simp, by simp, by simp, by simp, fun b hb => by simp at hb, by simp⟩, by simp, ?_, ?_, hf⟩
    · exact (heap_alloc_lt (by simp)).trans (heap_alloc_eq (by simp))
    · exact cell_blk ((heap_alloc_lt (by simp; omega)).trans ((heap_alloc_lt (by simp)).trans (heap_alloc_eq rfl))) 0
    · exact cell_blk (heap_alloc_eq (by simp)) 0
  go_loopg [3, 6] (s.size + 1) (fun gk o i wr => ∃ (at_ : Nat) (v : Value) (g : Option Nat) (l : List It) (G : List Nat) (M : List (ByteArray × Ow)), gk = s.size + 1 - at_ ∧ at_ ≤ s.size ∧ i = .int .i64 at_ ∧ o = v ∧ ItI s w wr w.heap.size at_ v g l G M)
  case atStart => exact ⟨0, _, _, _, _, _, rfl, by omega, rfl, rfl, HI0.out⟩
  case round =>
    obtain ⟨at_, v, g, l, G, M, hgk, hat, rfl, hov, h⟩ := hrel
    subst hov
    obtain ⟨v, hv⟩ : ∃ v, v = u3 := ⟨_, rfl⟩
    subst hv
    have HGK := hide hgk
    have HI := hide h
    clear hgk
    by_cases hlt : at_ < s.size
    · obtain ⟨X, hX⟩ : ∃ X, X = wr.heap.size := ⟨_, rfl⟩
      obtain ⟨c, hc⟩ : ∃ c, c = s[at_]'hlt := ⟨_, rfl⟩
      have HC := hide hc
      have HCL0 : Hid (s.data.toList.getD at_ 0 = c) := hide (by rw [hc]; simp [List.getD, hlt, ByteArray.getElem_eq_getElem_data])
      have hcl : s.data.toList.getD at_ 0 = c := by rw [hc]; simp [List.getD, hlt, ByteArray.getElem_eq_getElem_data]
      obtain ⟨wa, hwa⟩ : ∃ x, x = wr.alloc (.cells #[.int .u8 (c.toNat : Int), .int .i64 0, .int .i64 0] 84) := ⟨_, rfl⟩
      have hfa : Fr [] wr wa := by rw [hwa]; exact (Fr.refl _ _).alloc _
      have hIa : ItI s w wa w.heap.size at_ v g l G M := h.away hfa (by simp) rfl
      have k0 : wr.cell? ⟨w.heap.size, 0, none⟩ = some (.string s) := h.c0
      have k2 : wr.cell? ⟨w.heap.size + 1 + 1, 0, none⟩ = some (.map (some (w.heap.size + 1))) := h.c2
      have a0 : wa.cell? ⟨w.heap.size, 0, none⟩ = some (.string s) := hIa.c0
      have a2 : wa.cell? ⟨w.heap.size + 1 + 1, 0, none⟩ = some (.map (some (w.heap.size + 1))) := hIa.c2
      have kl : w.heap.size + 1 + 1 < wr.heap.size := World.block_lt_of_cell? wr _ h.c2
      have al : w.heap.size + 1 + 1 < wa.heap.size := World.block_lt_of_cell? wa _ hIa.c2
      have hXa : wa.heap[X]? = some (.cells #[.int .u8 (c.toNat : Int), .int .i64 0, .int .i64 0] 84 (0, 0)) := by rw [hwa]; exact heap_alloc_eq hX
      have HIA := hide hIa
      have HWA := hide hwa
      have HXX := hide hX
      have hXn : X ≠ w.heap.size ∧ X ≠ w.heap.size + 1 + 1 := by omega
      have z1 : IntKind.i64.wrap ((at_ : Int) + 3) = (at_ : Int) + 3 := IntWalk.i64_in _ (by omega)
      have HXA := hide hXa
      by_cases hle : at_ + 3 ≤ s.size
      · have d1 : decide ((at_ : Int) + 3 ≤ (s.size : Int)) = true := by simp; omega
        obtain ⟨k, hk⟩ : ∃ k, k = s.extract at_ (at_ + 3) := ⟨_, rfl⟩
        obtain ⟨l1, l2, l3, l4, l5⟩ := hIa.seen.look k
        have hlk := hIa.seen.lookup k
        obtain ⟨⟨lv, lg, L⟩, ho⟩ : ∃ o, o = look M k := ⟨_, rfl⟩
        rw [← ho] at l1 l2 l3 l4 l5 hlk
        simp only at l1 l2 l3 l4 l5 hlk
        obtain ⟨la, lc, hlv⟩ := SlAt.shape l1
        have hBk : BkL wa.drew.heap.size wa.drew (.slice la L.length lc) L := by
          refine ⟨la, lc, rfl, fun h0 => ?_⟩
          rcases l1 with ⟨_, _, e1, _⟩ | ⟨b, off, cap', cur, hg, hv, hblk, hnc, hfit, hxs, hcells⟩
          · omega
          · rw [hlv] at hv
            injection hv with hv1 _ _
            refine ⟨b, off, hv1, lt_of_blk hblk, fun j hj => ?_⟩
            show wa.cell? _ = _
            rw [cell_blk hblk]
            exact hcells j _ (by simp [Hf.nI, hj])
        have hP : ∀ i, i < L.length → Same3 s.data.toList at_ (L.getD i 0) := by
          intro i hi
          have hm : L.getD i 0 ∈ L := by
            have : L.getD i 0 = L[i] := by simp [List.getD, List.getElem?_eq_getElem hi]
            rw [this]; exact List.getElem_mem _
          obtain ⟨f1, f2, f3⟩ := l4 _ hm
          refine ⟨f1, fun j hj => ?_⟩
          rw [hk] at f3
          have e1 := congrArg (fun b : ByteArray => b.data.toList.getD j 0) f3
          simp only [ByteArray.data_extract, Array.toList_extract, List.extract_eq_take_drop] at e1
          simp only [List.getD] at e1 ⊢
          rw [List.getElem?_take_of_lt (by omega), List.getElem?_drop, List.getElem?_take_of_lt (by omega), List.getElem?_drop] at e1
          exact e1
        have H52 := hide (match52_any s at_ la L.length lc L wa.drew (by omega) hle (by omega) hBk hP)
        have hlkd : (Instr.lookup 114 (.map (some (w.heap.size + 1))) (.string (s.extract at_ (at_ + 3))) false).run Tryz.prog wa.drew = .ok (.slice la L.length lc) wa.drew := by
          have h1 := MapIs.lookup keyOk9 Tryz.underlying114 (zero77 wa.drew) (hIa.seen.map.keep rfl : MapIs eStr Ow.v wa.drew (w.heap.size + 1) M) (s.extract at_ (at_ + 3)) false
          have e : lookVal false (.slice none 0 0) ((mget M (s.extract at_ (at_ + 3))).map Ow.v) = .slice la L.length lc := by
            rw [← hlv]
            have : lv = (look M k).v := by rw [← ho]
            rw [this, hk]
            unfold look lookVal
            cases mget M (s.extract at_ (at_ + 3)) <;> rfl
          rw [e] at h1
          exact h1
        have b1 : (at_ : Int) ≤ (at_ : Int) + 3 := by omega
        have b2 : (at_ : Int) + 3 ≤ (s.size : Int) := by omega
        have b3 : (0 : Int) ≤ (at_ : Int) + 3 := by omega
        have z2 : ((at_ : Int) + 3).toNat = at_ + 3 := by omega
        obtain ⟨nL, hnL⟩ : ∃ n, n = L.length := ⟨_, rfl⟩
        rw [← hnL] at H52 hlkd
        have HCL : Hid (∀ w2, Fr [] wa.drew w2 → w2.cell? ⟨w.heap.size, 0, none⟩ = some (.string s) ∧ w2.cell? ⟨w.heap.size + 1 + 1, 0, none⟩ = some (.map (some (w.heap.size + 1))) ∧ w2.cell? ⟨X, 1, none⟩ = some (.int .i64 0) ∧ w2.cell? ⟨X, 2, none⟩ = some (.int .i64 0) ∧ w2.frozen? ⟨X, 1, none⟩ = false ∧ w2.frozen? ⟨X, 2, none⟩ = false ∧ X < w2.heap.size) := by
          refine hide fun w2 hf2 => ?_
          have hx2 : w2.heap[X]? = some (.cells #[.int .u8 (c.toNat : Int), .int .i64 0, .int .i64 0] 84 (0, 0)) := (hf2.block X (lt_of_blk hXa) (by simp)).trans hXa
          exact ⟨cell_fr hf2 a0 (by simp), cell_fr hf2 a2 (by simp), cell_blk hx2 1, cell_blk hx2 2, froz_blk hx2 1, froz_blk hx2 2, lt_of_blk hx2⟩
        have xl := lt_of_blk hXa
        clear l1 l2 l3 l4 l5 hlk ho hlv hBk hP hnL hk h hIa hfa hwa hX hc hcl hXa
        go_upto_region 7 with fail
        rw [← HC.out, ← HWA.out, ← HXX.out]
        clear k0 k2 kl
        go_upto_region 8 with fail
        go_region_held3 (fun W => W.cell? ⟨w.heap.size, 0, none⟩ = some (.string s) ∧ W.cell? ⟨w.heap.size + 1 + 1, 0, none⟩ = some (.map (some (w.heap.size + 1)))) (go_keep) (first | ((with_reducible refine (unhide H52).mono ?_); rintro e w2 ⟨n, far, rfl, hmok, hf2⟩; obtain ⟨q0, q1, q2, q3, q4, q5, q6⟩ := HCL.out w2 hf2))
        obtain ⟨wy, hwy⟩ : ∃ x, x = (w2.setCell ⟨X, 1, none⟩ (.int .i64 (n : Int))).setCell ⟨X, 2, none⟩ (.int .i64 (far : Int)) := ⟨_, rfl⟩
        rw [← hwy]
        have HXY : Hid (wy.heap[X]? = some (.cells #[.int .u8 (c.toNat : Int), .int .i64 (n : Int), .int .i64 (far : Int)] 84 (0, 0))) := by
          refine hide ?_
          rw [hwy, heap_set, heap_set, hf2.block X (by exact lt_of_blk HXA.out) (by simp)]
          show Option.map _ (Option.map _ (wa.heap[X]?)) = _
          rw [HXA.out]
          rfl
        have HFY : Hid (Fr [X] wr wy) := by
          refine hide ?_
          have h1 : Fr [] wr wa.drew := by rw [HWA.out]; exact ((Fr.refl [] wr).alloc _).drew
          rw [hwy]
          exact (((h1.trans hf2).mono (T := [X]) (by simp)).setCell (.inl (by simp)) _).setCell (.inl (by simp)) _
        have HMOK := hide hmok
        clear hwy hf2 hmok q0 q1 q2 q3 q4 q5 q6 H52 hlkd HCL a0 a2 al xl
        have hIy : ItI s w wy w.heap.size at_ v g l G M := HI.out.away HFY.out (by intro b hb; simp at hb; have := HXX.out; omega) rfl
        obtain ⟨x, hx⟩ : ∃ x : It, x = It.mk (s.data.toList.getD at_ 0) n far := ⟨_, rfl⟩
        have hxc : x.c = c ∧ x.n = n ∧ x.far = far := by rw [hx]; exact ⟨HCL0.out, rfl, rfl⟩
        obtain ⟨va, vc, hvs⟩ := SlAt.shape hIy.out
        obtain ⟨nl, hnl⟩ : ∃ n, n = l.length := ⟨_, rfl⟩
        rw [← hnl] at hvs
        subst hvs
        obtain ⟨v1, w3, g1, hap, hi1, hf3, hg1⟩ := hIy.out.push x (by have := hIy.len; omega)
        rw [hxc.1, hxc.2.1, hxc.2.2] at hap
        have hat2 : at_ < s.data.toList.length := by simpa using hlt
        rw [hx] at hi1
        obtain ⟨p1, p2, p3, p4, p5, p6, p7, p8, p9, p10⟩ := hIy.push rfl HMOK.out hat2 hi1 hf3 hg1
        obtain ⟨mx, hmx⟩ : ∃ mx, mx = (if n < 1 then 1 else n) := ⟨_, rfl⟩
        rw [← hmx] at p2 p10
        have zmx : (if (n : Int) < 1 then (1 : Int) else (n : Int)) = (mx : Int) := by rw [hmx]; split <;> split <;> omega
        have zmx2 : max (n : Int) 1 = (mx : Int) := by rw [hmx]; split <;> omega
        have hXg : X ∉ g.toList := fun hm => by
          obtain ⟨cur, hcur⟩ := SlAt.lt HI.out.out X (by simpa using hm)
          have := lt_of_blk hcur
          have := HXX.out
          omega
        have hX3 : w3.heap[X]? = some (.cells #[.int .u8 (c.toNat : Int), .int .i64 (n : Int), .int .i64 (far : Int)] 84 (0, 0)) := (hf3.block X (lt_of_blk HXY.out) hXg).trans HXY.out
        have y0 : wy.cell? ⟨X, 0, none⟩ = some (.int .u8 (c.toNat : Int)) := cell_blk HXY.out 0
        have y1 : wy.cell? ⟨X, 1, none⟩ = some (.int .i64 (n : Int)) := cell_blk HXY.out 1
        have y2 : wy.cell? ⟨X, 2, none⟩ = some (.int .i64 (far : Int)) := cell_blk HXY.out 2
        have yl := lt_of_blk HXY.out
        have r1 : w3.cell? ⟨X, 1, none⟩ = some (.int .i64 (n : Int)) := cell_blk hX3 1
        have rl := lt_of_blk hX3
        obtain ⟨va1, vc1, hv1⟩ := SlAt.shape p1
        have HV1 := hide hv1
        have HP := hide (And.intro p1 (And.intro p2 (And.intro p3 (And.intro p4 p5))))
        have HQ := hide (And.intro p6 (And.intro p7 (And.intro p8 (And.intro p9 p10))))
        have HALL := hide hIy.all
        have mxb : mx ≤ 100000 := by have : s.data.toList.length = s.size := by simp
                                     omega
        have hap1 : (Builtin.append_ #[81, 81] 81 #[.slice va nl vc, .slice (some ⟨wy.heap.size, 0, none⟩) 1 1]).run Tryz.prog (wy.alloc (.cells #[.int .u8 (c.toNat : Int), .int .i64 (n : Int), .int .i64 (far : Int)] 84)) = .ok v1 w3 := hap
        have HMX := hide hmx
        have HX1 := hide hx
        have HNL := hide hnl
        clear hIy hxc hap hat2 hi1 hf3 hg1 p1 p2 p3 p4 p5 p6 p7 p8 p9 p10 hX3 hXg hmx hx hv1 hnl
        go_upto_region 10 with (at_builtin; refine wpList_append_run rfl _ _ 81 rfl hap1 rfl rfl ?_)
        clear y0 y1 y2 yl hap1
        go_wp2_with fail
        obtain ⟨wo, rfl⟩ : ∃ wo : World, wo = wr := ⟨_, rfl⟩
        go_loopg [6, 45] (mx + 1) (fun gj i j wr => ∃ (t : Nat) (G2 : List Nat) (M2 : List (ByteArray × Ow)), gj = mx + 1 - t ∧ t ≤ mx ∧ i = .int .i64 ((at_ + t : Nat) : Int) ∧ j = .int .i64 (t : Nat) ∧ Seen wr (w.heap.size + 1) G2 s (at_ + t) M2 ∧ (∀ b ∈ G2, w.heap.size + 3 ≤ b) ∧ ItAt wr v1 g1 (l ++ [It.mk (s.data.toList.getD at_ 0) n far]) ∧ (∀ b, g1 = some b → w.heap.size + 3 ≤ b ∧ b ∉ G2) ∧ wr.cell? ⟨w.heap.size, 0, none⟩ = some (.string s) ∧ wr.cell? ⟨w.heap.size + 2, 0, none⟩ = some (.map (some (w.heap.size + 1))) ∧ Fr [] w wr)
        case atStart =>
          obtain ⟨e1, e2, e3, e4, e5⟩ := HP.out
          obtain ⟨e6, e7, e8, e9, e10⟩ := HQ.out
          exact ⟨0, G, M, rfl, by omega, rfl, rfl, e6, HALL.out, e1, e5, e7, e8, e9⟩
        case round =>
          obtain ⟨t, G2, M2, hgj, ht, rfl, rfl, hse, hal, hit, hgn, hc0, hc2, hfr⟩ := hrel
          have HGJ := hide hgj
          have HSE := hide hse
          have HAL := hide hal
          have HIT := hide hit
          have HGN := hide hgn
          have HC0 := hide hc0
          have HC2 := hide hc2
          have HFR := hide hfr
          clear hgj hal hit hgn hfr
          by_cases htm : t < mx
          · obtain ⟨q, hq⟩ : ∃ q, q = at_ + t := ⟨_, rfl⟩
            have hsz : s.data.toList.length = s.size := by simp
            have hqb : q ≤ 65536 := by have := HQ.out.2.2.2.2; omega
            have hnb : w.heap.size ∉ G2 ∧ w.heap.size ≠ w.heap.size + 1 := ⟨fun hm => by have := HAL.out _ hm; omega, by omega⟩
            have hnb2 : w.heap.size + 1 + 1 ∉ G2 ∧ w.heap.size + 1 + 1 ≠ w.heap.size + 1 := ⟨fun hm => by have := HAL.out _ hm; omega, by omega⟩
            rw [← hq] at hse ⊢
            have H51 := hide (note51_any q w.heap.size (w.heap.size + 1 + 1) (w.heap.size + 1) G2 s M2 wr hse hc0 hc2 (by omega) (by omega) hnb hnb2)
            have HQQ := hide hq
            clear hse hc0 hc2 hq hnb hnb2 hsz
            go_wp2_with fail
            refine (unhide H51).mono ?_
            rintro e w4 ⟨rfl, G3, M3, hs3, hg3, hf4⟩
            have HRND : Hid (Seen w4 (w.heap.size + 1) G3 s (at_ + (t + 1)) M3 ∧ (∀ b ∈ G3, w.heap.size + 3 ≤ b) ∧ ItAt w4 v1 g1 (l ++ [It.mk (s.data.toList.getD at_ 0) n far]) ∧ (∀ b, g1 = some b → w.heap.size + 3 ≤ b ∧ b ∉ G3) ∧ w4.cell? ⟨w.heap.size, 0, none⟩ = some (.string s) ∧ w4.cell? ⟨w.heap.size + 2, 0, none⟩ = some (.map (some (w.heap.size + 1))) ∧ Fr [] w w4) := by
              have hlt3 : w.heap.size + 2 < wr.heap.size := World.block_lt_of_cell? wr _ HC2.out
              have hne : ∀ b, b ∈ (w.heap.size + 1) :: G2 → b = w.heap.size + 1 ∨ w.heap.size + 3 ≤ b := fun b hb => by
                rcases List.mem_cons.1 hb with h | h
                · exact .inl h
                · exact .inr (HAL.out b h)
              have hqe := HQQ.out
              have hs3' := hs3
              rw [hqe, Nat.add_assoc] at hs3'
              refine hide ⟨hs3', fun b hb => ?_, SlAt.fr HIT.out hf4 (fun b hb hm => ?_), fun b hb => ⟨(HGN.out b hb).1, fun hm => ?_⟩, cell_fr hf4 HC0.out (fun hm => ?_), cell_fr hf4 HC2.out (fun hm => ?_), HFR.out.andThen hf4 (fun b hb => ?_)⟩
              · rcases hg3 b hb with h | h
                · exact HAL.out b h
                · omega
              · have := HGN.out b hb
                rcases List.mem_cons.1 hm with h | h
                · omega
                · exact this.2 h
              · have h1 := HGN.out b hb
                obtain ⟨cur, hcur⟩ := SlAt.lt HIT.out b hb
                have := lt_of_blk hcur
                rcases hg3 b hm with h | h
                · exact h1.2 h
                · omega
              · rcases hne _ hm with h | h <;> omega
              · rcases hne _ hm with h | h <;> omega
              · rcases hne b hb with h | h <;> (right; omega)
            clear hs3 hg3 hf4
            go_wp2_with fail
            go_roundg (mx + 1 - (t + 1))
            case measure => have := HGJ.out; omega
            case rel =>
              obtain ⟨f1, f2, f3, f4, f5, f6, f7⟩ := HRND.out
              exact ⟨t + 1, G3, M3, rfl, by omega, by have := HQQ.out; subst this; go_num, by go_num, f1, f2, f3, f4, f5, f6, f7⟩
          · obtain rfl : t = mx := by omega
            clear hse hc0 hc2
            go_wp2_with fail
            go_roundg (s.size + 1 - (at_ + t))
            case measure => have := HGK.out; have := HMX.out; have : 1 ≤ t := by rw [this]; split <;> omega
                            omega
            case rel =>
              obtain ⟨e1, e2, e3, e4, e5⟩ := HP.out
              refine ⟨at_ + t, v1, g1, _, G2, M2, rfl, ?_, rfl, rfl, ⟨HIT.out, e2, e3, ?_, HGN.out, HSE.out, HAL.out, HC0.out, HC2.out, HFR.out⟩⟩
              · have := HQ.out.2.2.2.2
                have : s.data.toList.length = s.size := by simp
                omega
              · have := HMX.out
                have : 1 ≤ t := by rw [this]; split <;> omega
                omega
      · have d1 : decide ((at_ : Int) + 3 ≤ (s.size : Int)) = false := by simp; omega
        obtain ⟨n, hn0⟩ : ∃ n : Nat, n = 0 := ⟨_, rfl⟩
        obtain ⟨far, hf0⟩ : ∃ n : Nat, n = 0 := ⟨_, rfl⟩
        have HMOK : Hid (MOk s.data.toList at_ n far) := hide (.inl ⟨hn0, hf0⟩)
        have hxy : wa.heap[X]? = some (.cells #[.int .u8 (c.toNat : Int), .int .i64 (n : Int), .int .i64 (far : Int)] 84 (0, 0)) := by rw [hXa, hn0, hf0]; rfl
        clear hn0 hf0 h hIa hX hc hcl hXa
        go_upto_region 7 with fail
        rw [← HC.out, ← HWA.out, ← HXX.out]
        clear k0 k2 kl
        obtain ⟨wy, hwy⟩ : ∃ x, x = wa := ⟨_, rfl⟩
        have HFY : Hid (Fr [X] wr wy) := hide (by rw [hwy]; exact hfa.mono (by simp))
        rw [← hwy] at a0 a2 al hxy ⊢
        have HXY := hide hxy
        clear hwy hfa hwa hxy
        go_upto_region 9 with fail
        clear a0 a2 al
        have hIy : ItI s w wy w.heap.size at_ v g l G M := HI.out.away HFY.out (by intro b hb; simp at hb; have := HXX.out; omega) rfl
        obtain ⟨x, hx⟩ : ∃ x : It, x = It.mk (s.data.toList.getD at_ 0) n far := ⟨_, rfl⟩
        have hxc : x.c = c ∧ x.n = n ∧ x.far = far := by rw [hx]; exact ⟨HCL0.out, rfl, rfl⟩
        obtain ⟨va, vc, hvs⟩ := SlAt.shape hIy.out
        obtain ⟨nl, hnl⟩ : ∃ n, n = l.length := ⟨_, rfl⟩
        rw [← hnl] at hvs
        subst hvs
        obtain ⟨v1, w3, g1, hap, hi1, hf3, hg1⟩ := hIy.out.push x (by have := hIy.len; omega)
        rw [hxc.1, hxc.2.1, hxc.2.2] at hap
        have hat2 : at_ < s.data.toList.length := by simpa using hlt
        rw [hx] at hi1
        obtain ⟨p1, p2, p3, p4, p5, p6, p7, p8, p9, p10⟩ := hIy.push rfl HMOK.out hat2 hi1 hf3 hg1
        obtain ⟨mx, hmx⟩ : ∃ mx, mx = (if n < 1 then 1 else n) := ⟨_, rfl⟩
        rw [← hmx] at p2 p10
        have zmx : (if (n : Int) < 1 then (1 : Int) else (n : Int)) = (mx : Int) := by rw [hmx]; split <;> split <;> omega
        have zmx2 : max (n : Int) 1 = (mx : Int) := by rw [hmx]; split <;> omega
        have hXg : X ∉ g.toList := fun hm => by
          obtain ⟨cur, hcur⟩ := SlAt.lt HI.out.out X (by simpa using hm)
          have := lt_of_blk hcur
          have := HXX.out
          omega
        have hX3 : w3.heap[X]? = some (.cells #[.int .u8 (c.toNat : Int), .int .i64 (n : Int), .int .i64 (far : Int)] 84 (0, 0)) := (hf3.block X (lt_of_blk HXY.out) hXg).trans HXY.out
        have y0 : wy.cell? ⟨X, 0, none⟩ = some (.int .u8 (c.toNat : Int)) := cell_blk HXY.out 0
        have y1 : wy.cell? ⟨X, 1, none⟩ = some (.int .i64 (n : Int)) := cell_blk HXY.out 1
        have y2 : wy.cell? ⟨X, 2, none⟩ = some (.int .i64 (far : Int)) := cell_blk HXY.out 2
        have yl := lt_of_blk HXY.out
        have r1 : w3.cell? ⟨X, 1, none⟩ = some (.int .i64 (n : Int)) := cell_blk hX3 1
        have rl := lt_of_blk hX3
        obtain ⟨va1, vc1, hv1⟩ := SlAt.shape p1
        have HV1 := hide hv1
        have HP := hide (And.intro p1 (And.intro p2 (And.intro p3 (And.intro p4 p5))))
        have HQ := hide (And.intro p6 (And.intro p7 (And.intro p8 (And.intro p9 p10))))
        have HALL := hide hIy.all
        have mxb : mx ≤ 100000 := by have : s.data.toList.length = s.size := by simp
                                     omega
        have hap1 : (Builtin.append_ #[81, 81] 81 #[.slice va nl vc, .slice (some ⟨wy.heap.size, 0, none⟩) 1 1]).run Tryz.prog (wy.alloc (.cells #[.int .u8 (c.toNat : Int), .int .i64 (n : Int), .int .i64 (far : Int)] 84)) = .ok v1 w3 := hap
        have HMX := hide hmx
        have HX1 := hide hx
        have HNL := hide hnl
        clear hIy hxc hap hat2 hi1 hf3 hg1 p1 p2 p3 p4 p5 p6 p7 p8 p9 p10 hX3 hXg hmx hx hv1 hnl
        go_upto_region 10 with (at_builtin; refine wpList_append_run rfl _ _ 81 rfl hap1 rfl rfl ?_)
        clear y0 y1 y2 yl hap1
        go_wp2_with fail
        obtain ⟨wo, rfl⟩ : ∃ wo : World, wo = wr := ⟨_, rfl⟩
        go_loopg [6, 45] (mx + 1) (fun gj i j wr => ∃ (t : Nat) (G2 : List Nat) (M2 : List (ByteArray × Ow)), gj = mx + 1 - t ∧ t ≤ mx ∧ i = .int .i64 ((at_ + t : Nat) : Int) ∧ j = .int .i64 (t : Nat) ∧ Seen wr (w.heap.size + 1) G2 s (at_ + t) M2 ∧ (∀ b ∈ G2, w.heap.size + 3 ≤ b) ∧ ItAt wr v1 g1 (l ++ [It.mk (s.data.toList.getD at_ 0) n far]) ∧ (∀ b, g1 = some b → w.heap.size + 3 ≤ b ∧ b ∉ G2) ∧ wr.cell? ⟨w.heap.size, 0, none⟩ = some (.string s) ∧ wr.cell? ⟨w.heap.size + 2, 0, none⟩ = some (.map (some (w.heap.size + 1))) ∧ Fr [] w wr)
        case atStart =>
          obtain ⟨e1, e2, e3, e4, e5⟩ := HP.out
          obtain ⟨e6, e7, e8, e9, e10⟩ := HQ.out
          exact ⟨0, G, M, rfl, by omega, rfl, rfl, e6, HALL.out, e1, e5, e7, e8, e9⟩
        case round =>
          obtain ⟨t, G2, M2, hgj, ht, rfl, rfl, hse, hal, hit, hgn, hc0, hc2, hfr⟩ := hrel
          have HGJ := hide hgj
          have HSE := hide hse
          have HAL := hide hal
          have HIT := hide hit
          have HGN := hide hgn
          have HC0 := hide hc0
          have HC2 := hide hc2
          have HFR := hide hfr
          clear hgj hal hit hgn hfr
          by_cases htm : t < mx
          · obtain ⟨q, hq⟩ : ∃ q, q = at_ + t := ⟨_, rfl⟩
            have hsz : s.data.toList.length = s.size := by simp
            have hqb : q ≤ 65536 := by have := HQ.out.2.2.2.2; omega
            have hnb : w.heap.size ∉ G2 ∧ w.heap.size ≠ w.heap.size + 1 := ⟨fun hm => by have := HAL.out _ hm; omega, by omega⟩
            have hnb2 : w.heap.size + 1 + 1 ∉ G2 ∧ w.heap.size + 1 + 1 ≠ w.heap.size + 1 := ⟨fun hm => by have := HAL.out _ hm; omega, by omega⟩
            rw [← hq] at hse ⊢
            have H51 := hide (note51_any q w.heap.size (w.heap.size + 1 + 1) (w.heap.size + 1) G2 s M2 wr hse hc0 hc2 (by omega) (by omega) hnb hnb2)
            have HQQ := hide hq
            clear hse hc0 hc2 hq hnb hnb2 hsz
            go_wp2_with fail
            refine (unhide H51).mono ?_
            rintro e w4 ⟨rfl, G3, M3, hs3, hg3, hf4⟩
            have HRND : Hid (Seen w4 (w.heap.size + 1) G3 s (at_ + (t + 1)) M3 ∧ (∀ b ∈ G3, w.heap.size + 3 ≤ b) ∧ ItAt w4 v1 g1 (l ++ [It.mk (s.data.toList.getD at_ 0) n far]) ∧ (∀ b, g1 = some b → w.heap.size + 3 ≤ b ∧ b ∉ G3) ∧ w4.cell? ⟨w.heap.size, 0, none⟩ = some (.string s) ∧ w4.cell? ⟨w.heap.size + 2, 0, none⟩ = some (.map (some (w.heap.size + 1))) ∧ Fr [] w w4) := by
              have hlt3 : w.heap.size + 2 < wr.heap.size := World.block_lt_of_cell? wr _ HC2.out
              have hne : ∀ b, b ∈ (w.heap.size + 1) :: G2 → b = w.heap.size + 1 ∨ w.heap.size + 3 ≤ b := fun b hb => by
                rcases List.mem_cons.1 hb with h | h
                · exact .inl h
                · exact .inr (HAL.out b h)
              have hqe := HQQ.out
              have hs3' := hs3
              rw [hqe, Nat.add_assoc] at hs3'
              refine hide ⟨hs3', fun b hb => ?_, SlAt.fr HIT.out hf4 (fun b hb hm => ?_), fun b hb => ⟨(HGN.out b hb).1, fun hm => ?_⟩, cell_fr hf4 HC0.out (fun hm => ?_), cell_fr hf4 HC2.out (fun hm => ?_), HFR.out.andThen hf4 (fun b hb => ?_)⟩
              · rcases hg3 b hb with h | h
                · exact HAL.out b h
                · omega
              · have := HGN.out b hb
                rcases List.mem_cons.1 hm with h | h
                · omega
                · exact this.2 h
              · have h1 := HGN.out b hb
                obtain ⟨cur, hcur⟩ := SlAt.lt HIT.out b hb
                have := lt_of_blk hcur
                rcases hg3 b hm with h | h
                · exact h1.2 h
                · omega
              · rcases hne _ hm with h | h <;> omega
              · rcases hne _ hm with h | h <;> omega
              · rcases hne b hb with h | h <;> (right; omega)
            clear hs3 hg3 hf4
            go_wp2_with fail
            go_roundg (mx + 1 - (t + 1))
            case measure => have := HGJ.out; omega
            case rel =>
              obtain ⟨f1, f2, f3, f4, f5, f6, f7⟩ := HRND.out
              exact ⟨t + 1, G3, M3, rfl, by omega, by have := HQQ.out; subst this; go_num, by go_num, f1, f2, f3, f4, f5, f6, f7⟩
          · obtain rfl : t = mx := by omega
            clear hse hc0 hc2
            go_wp2_with fail
            go_roundg (s.size + 1 - (at_ + t))
            case measure => have := HGK.out; have := HMX.out; have : 1 ≤ t := by rw [this]; split <;> omega
                            omega
            case rel =>
              obtain ⟨e1, e2, e3, e4, e5⟩ := HP.out
              refine ⟨at_ + t, v1, g1, _, G2, M2, rfl, ?_, rfl, rfl, ⟨HIT.out, e2, e3, ?_, HGN.out, HSE.out, HAL.out, HC0.out, HC2.out, HFR.out⟩⟩
              · have := HQ.out.2.2.2.2
                have : s.data.toList.length = s.size := by simp
                omega
              · have := HMX.out
                have : 1 ≤ t := by rw [this]; split <;> omega
                omega
    · have HE : Hid (at_ = s.size) := hide (by omega)
      have k0 : wr.cell? ⟨w.heap.size, 0, none⟩ = some (.string s) := h.c0
      have kl := World.block_lt_of_cell? wr _ h.c0
      clear h
      go_wp2
      go_ret
      have hi := HI.out
      rw [HE.out] at hi
      refine ⟨v, g, l, rfl, hi.out, fun b hb => by have := (hi.new b hb).1; omega, ?_, hi.ok, hi.len, hi.fr⟩
      have := hi.val
      rwa [List.take_of_length_le (by simp)] at this
end Go.Proofs.YthmhcnnigepohaaGreatDoor.En

/- inflate.Fixed. -/
namespace Go.Proofs.YthmhcnnigepohaaGreatDoor.En
open Go.RowKit
open Dg (BAt bcells)
open If (Grows fixL fixD)
open Hf (NAt)
set_option linter.unusedVariables false

theorem nr_of_nat {w : World} {G : List Nat} {v : Value} {g : Option Nat} {L : List Nat} (h : NAt w v g L) (hg : ∀ b, g = some b → b ∉ G) (h0 : 0 < L.length) : NR w G v L := by
  rcases h with ⟨_, _, e1, _⟩ | ⟨b, off, cap', cur, hgb, hv, hblk, hnc, hfit, hxs, hcells⟩
  · omega
  · refine ⟨b, off, cap', hv, hg b hgb, lt_of_blk hblk, fun j hj => ?_⟩
    rw [cell_blk hblk]
    exact hcells j _ (by simp [Hf.nI, List.getD, List.getElem?_eq_getElem hj])
/-- A deflate stream of s. -/
def DataPost (s : ByteArray) (w : World) (e : Ending) (w' : World) : Prop :=
  ∃ d : List UInt8, e = .returned (.string ⟨d.toArray⟩) ∧ Inflates d s.data.toList ∧ d.length ≤ 11 * s.size / 8 + 600 ∧ Fr [] w w'
theorem wr_new {w' : World} {U : Nat} (hb : w'.heap[U]? = some (.cells #[.slice none 0 0, .int .i64 0] 75 (0, 0))) : Wr w' U [U] [] :=
  ⟨none, .slice none 0 0, hb, SlAt.nil_ _, by simp, by simp, fun b hm => by simp at hm; rw [hm]; exact lt_of_blk hb⟩
theorem wr_str {w : World} {U : Nat} {G W : List Nat} (h : Wr w U G W) : ∃ v, w.cell? ⟨U, 0, none⟩ = some v ∧ U < w.heap.size ∧ (convert 22 9 v).run Tryz.prog w = .ok (.string ⟨(packB W).toArray⟩) w := by
  obtain ⟨g, v, h1, h2, _⟩ := h
  exact ⟨v, cell_blk h1 0, lt_of_blk h1, If.bat_str h2⟩

set_option maxRecDepth 100000 in
set_option maxHeartbeats 4000000 in
theorem fixed16_any (s : ByteArray) (w : World) (hs : s.size ≤ 65536) : Calls Tryz.prog 16 #[.string s] w (DataPost s w) := by
  obtain ⟨w0, hw0⟩ : ∃ x, x = w.alloc (.cells #[.slice none 0 0, .int .i64 0] 75) := ⟨_, rfl⟩
  obtain ⟨U, hU⟩ : ∃ U, U = w.heap.size := ⟨_, rfl⟩
  have hWr : Wr w0 U [U] [] := wr_new (by rw [hw0]; exact heap_alloc_eq hU)
  have H28 := hide (number28_any U [U] [] 3 3 w0 hWr (by omega) (by omega) (by simp) (by simp))
  have HF0 : Hid (Fr [] w w0) := hide (by rw [hw0]; exact (Fr.refl _ _).alloc _)
  have HW0 := hide hw0
  have HUU := hide hU
  clear hWr hw0 hU
  go_enter Tryz.func16, Tryz.ntmps16
  go_wp2_with fail
  rw [← HW0.out, ← HUU.out]
  refine (unhide H28).mono ?_
  rintro e w1 ⟨rfl, G1, hw1, hg1, hf1⟩
  have HW1 := hide hw1
  have HNG : Hid (∀ b ∈ G1, w.heap.size ≤ b) := hide (fun b hb => by
    rcases hg1 b hb with h | h
    · simp at h; have := HUU.out; omega
    · have := HF0.out.size; omega)
  have HF1 : Hid (Fr [] w w1) := hide (HF0.out.andThen hf1 (fun x hx => by simp at hx; right; have := HUU.out; omega))
  clear hw1 hg1 hf1
  go_wp2_with fail
  refine (If.fixed29_any _).mono ?_
  rintro e w2 ⟨va, vb, rfl, ha, hb, hf2, na, nb⟩
  have hin : In w1 G1 := by obtain ⟨_, _, _, _, _, _, h⟩ := HW1.out; exact h
  have HA := hide (nr_of (L := fixL) ha na hin (by decide +kernel))
  have HB := hide (nr_of (L := fixD) hb nb hin (by decide +kernel))
  have HW2 := hide (HW1.out.fr hf2 (by simp))
  have HF2 : Hid (Fr [] w w2) := hide (HF1.out.trans hf2)
  have HIN := hide (hin.fr hf2)
  have H31 := hide (items31_any s w2 hs)
  clear ha hb hf2 na nb hin
  go_wp2_with fail
  refine (unhide H31).mono ?_
  rintro e w3 ⟨vl, gl, l, rfl, hl, hgl, hv, hok, hlen, hf3⟩
  obtain ⟨f1, f2⟩ := fix_its hv
  have hG3 : ∀ b, gl = some b → b ∉ G1 := fun b hb hm => by have := hgl b hb; have := HIN.out b hm; omega
  simp only [List.length_nil, Nat.sub_zero] at f2
  have hsz : s.data.toList.length = s.size := by simp
  have H30 := hide (items30_any U G1 ([] ++ lsb 3 3) fixL fixD l gl vl va vb w3 (HW2.out.fr hf3 (by simp)) (by intro x hx; exact lsb_le 3 3 x (by simpa using hx)) hl hG3 (HA.out.fr (hf3.mono (by simp)) (Grows.refl _ _)) (HB.out.fr (hf3.mono (by simp)) (Grows.refl _ _)) If.fixL_ok If.fixD_ok (by decide +kernel) (fun x hx => ⟨f1 x hx, hok x hx⟩) (fix_has 256 (by omega)).1 (by rw [List.nil_append, lsb_len]; omega) (by omega))
  have HF3 : Hid (Fr [] w w3) := hide (HF2.out.trans hf3)
  have HV := hide hv
  clear hl hgl hv hok hlen hf3 f1 f2 hG3 hsz
  go_wp2_with fail
  refine (unhide H30).mono ?_
  rintro e w4 ⟨rfl, G4, hw4, hg4, hf4⟩
  obtain ⟨v, c0, ul, hcv⟩ := wr_str hw4
  have HRES : Hid (DataPost s w (.returned (.string ⟨(packB ([] ++ lsb 3 3 ++ (itsBits fixL fixD l ++ cd fixL 256))).toArray⟩)) w4) := by
    obtain ⟨q1, q2⟩ := fixed_inflates HV.out (by simpa using hs)
    have e1 : [] ++ lsb 3 3 ++ (itsBits fixL fixD l ++ cd fixL 256) = fixedBits l := by simp [fixedBits]
    have hsz : s.data.toList.length = s.size := by simp
    rw [e1]
    exact hide ⟨_, rfl, q1, by omega, HF3.out.andThen hf4 (fun x hx => .inr (HNG.out x hx))⟩
  clear hw4 hg4 hf4
  go_wp2_with fail
  go_ret
  exact HRES.out
end Go.Proofs.YthmhcnnigepohaaGreatDoor.En

/- inflate.trimmed. -/
namespace Go.Proofs.YthmhcnnigepohaaGreatDoor.En
open Go.RowKit
set_option linter.unusedVariables false

def TrimPost (b off cap n : Nat) (L : List Nat) (w : World) (e : Ending) (w' : World) : Prop := ∃ X, e = .returned (.slice (some ⟨b, off, none⟩) X.length cap) ∧ Trims n L X ∧ w = w'
set_option maxRecDepth 100000 in
set_option maxHeartbeats 2000000 in
theorem trimmed35_any (b off cap n : Nat) (L : List Nat) (w : World) (hb : b < w.heap.size) (hcell : ∀ i, i < L.length → w.cell? ⟨b, off + i, none⟩ = some (.int .i64 (L.getD i 0 : Nat))) (hcap : L.length ≤ cap) (hn : 1 ≤ n) (hl : L.length ≤ 1000) :
    Calls Tryz.prog 35 #[.slice (some ⟨b, off, none⟩) L.length cap, .int .i64 n] w (TrimPost b off cap n L w) := by
  have HC := hide hcell
  have HCAP := hide hcap
  have HLL := hide hl
  obtain ⟨m0, hm0⟩ : ∃ m, m = L.length := ⟨_, rfl⟩
  rw [← hm0]
  have HM0 := hide hm0
  clear hcell hcap hl hm0
  go_enter Tryz.func35, Tryz.ntmps35
  go_wp2_with fail
  go_loopg [0] (m0 + 1) (fun gk v wr => ∃ (Y : List Nat) (m : Nat), gk = m + 1 ∧ m = Y.length ∧ m ≤ m0 ∧ v = .slice (some ⟨b, off, none⟩) m cap ∧ (∀ i, i < m → Y.getD i 0 = L.getD i 0) ∧ (∀ X, Trims n Y X → Trims n L X) ∧ wr = w)
  case atStart => exact ⟨L, m0, rfl, HM0.out, by omega, rfl, fun i _ => rfl, fun X h => h, rfl⟩
  case round =>
    obtain ⟨Y, m, hgk, hm, hmm, rfl, hY, hT, rfl⟩ := hrel
    have HGK := hide hgk
    have HM := hide hm
    have HY := hide hY
    have HT := hide hT
    have hmb : m ≤ 1000 := by have := HM0.out; have := HLL.out; omega
    have hmc : m ≤ cap := by have := HM0.out; have := HCAP.out; omega
    clear hgk hm hY hT
    by_cases hlt : n < m
    · obtain ⟨x, hx⟩ : ∃ x, x = Y.getD (m - 1) 0 := ⟨_, rfl⟩
      have hc : wr.cell? ⟨b, off + (m - 1), none⟩ = some (.int .i64 (x : Nat)) := by rw [hx, HY.out (m - 1) (by omega)]; exact HC.out (m - 1) (by have := HM0.out; omega)
      have z1 : IntKind.i64.wrap ((m : Int) - 1) = (m : Int) - 1 := IntWalk.i64_in _ (by omega)
      have b1 : (1 : Int) ≤ (m : Int) := by omega
      have b2 : 1 ≤ m := by omega
      have b0 : (0 : Int) ≤ (m : Int) - 1 ∧ (m : Int) - 1 < (m : Int) := by omega
      have z2 : ((m : Int) - 1).toNat = m - 1 := by omega
      have b3 : (m : Int) - 1 ≤ (cap : Int) := by omega
      have HX := hide hx
      clear hx
      by_cases h0 : x = 0
      · subst h0
        go_wp2_with fail
        go_roundg (m - 1 + 1)
        case measure => have := HGK.out; omega
        case rel =>
          refine ⟨Y.dropLast, m - 1, rfl, by rw [List.length_dropLast, HM.out], by omega, by go_num, fun i hi => ?_, fun X h => ?_, rfl⟩
          · rw [← HY.out i (by omega)]
            simp only [List.getD]
            rw [List.getElem?_dropLast, if_pos (by have := HM.out; omega)]
          · have hne : Y ≠ [] := by intro e; have := HM.out; rw [e] at this; simp at this; omega
            have hlast : Y.getLast hne = 0 := by
              rw [List.getLast_eq_getElem]
              have := HX.out
              have hm := HM.out
              simp only [List.getD] at this
              rw [List.getElem?_eq_getElem (by omega)] at this
              simp only [Option.getD_some] at this
              rw [this]
              congr 1
              omega
            have hy : Y = Y.dropLast ++ [0] := by rw [← hlast, List.dropLast_concat_getLast hne]
            refine HT.out X ?_
            rw [hy]
            exact .step (by rw [List.length_dropLast]; have := HM.out; omega) h
      · have d2 : ((x : Int) == 0) = false := by simpa using h0
        go_wp2
        go_ret
        exact ⟨Y, by rw [← HM.out]; rfl, HT.out Y .refl, rfl⟩
    · go_wp2
      go_ret
      exact ⟨Y, by rw [← HM.out]; rfl, HT.out Y .refl, rfl⟩
end Go.Proofs.YthmhcnnigepohaaGreatDoor.En

/- slices.Concat of two slices of numbers. -/
namespace Go.Proofs.YthmhcnnigepohaaGreatDoor.En
open Go.RowKit
open Hf (NAt)
set_option linter.unusedVariables false

theorem run_append_made (n : Nat) (h0 : 0 < n) (hn : n ≤ 100000) (w : World) : (Builtin.append_ #[77, 3] 77 #[.slice none 0 0, .int .i64 n]).run Tryz.prog w =
    .ok (.slice (some ⟨w.heap.size, 0, none⟩) n (grownCap w n 0 3)) (w.drew.alloc (.cells (Builtin.zeroCells #[.int .i64 0] n ++ Builtin.zeroCells #[.int .i64 0] (grownCap w n 0 3 - n)) 3)) := by
  have h := Hf.info3
  cases hq : Tryz.prog.info? 3 with
  | none => rw [hq] at h; cases h
  | some i =>
    rw [hq] at h
    simp only [Option.map_some, Option.some.injEq, Prod.mk.injEq] at h
    obtain ⟨hz, hsz, hby⟩ := h
    have e1 : IntKind.i64.wrap (n : Int) = (n : Int) := IntWalk.i64_in _ (by omega)
    have hn0 : n ≠ 0 := by omega
    have h63' : ¬ (9223372036854775807 < (n : Int)) := by omega
    have h48' : ¬ (281474976710656 < Builtin.nextslicecap n 0 * i.bytes) := by rw [nextslicecap_zero h0, hby]; omega
    have h49 : ¬ ((281474976710656 : Int) < (n : Int) * 8) := by omega
    have h50 : ¬ ((n : Int) < 0) := by omega
    rw [hby] at h48'
    simp [Builtin.append_, run_underlying Tryz.underlying77, run_underlying Tryz.underlying3, sizeOf, typeInfo, zeroValue, hq, hz, hsz, hby, e1, h50, h49, hn0, h63', h48', Question.forced, run_firstCells_none, newRow, grownCap, asInt, asIntOf]
    rfl
theorem wpList_append_run2 {P : Program} {w : World} {ops : Array Oper} {rest : List Oper} {Q : Exit → Act → World → Prop} {a : Act} {o : Oper} (hg : o.guard = none) (s x : Operand) (t u : TypeId)
    (ho : o.op = .call { callee := .builtin .append, args := #[s, x], argTypes := #[t, u] }) {v y v' : Value} {w' : World} (hrun : (Builtin.append_ #[t, u] o.type #[v, y]).run P w = .ok v' w')
    (hs : a.eval s = v) (hx : a.eval x = y) (h : wpList P ops Q rest (a.put o.dst v') w') : wpList P ops Q (o :: rest) a w := by
  refine wpList_plain hg fun K hK => ?_
  unfold Oper.wp execOp
  simp only [ho, resolve, invoke, builtin, Sem.run_bind, Sem.run_pure, Result.andThen_ok, List.map_toArray, List.map_cons, List.map_nil, hs, hx, hrun]
  exact hK _ _ h
def GrowPost (w : World) (e : Ending) (w' : World) : Prop := ∃ b cap, e = .returned (.slice (some ⟨b, 0, none⟩) 0 cap) ∧ NAt w' (.slice (some ⟨b, 0, none⟩) 0 cap) (some b) [] ∧ w.heap.size ≤ b ∧ Fr [] w w'
set_option maxRecDepth 100000 in
set_option maxHeartbeats 2000000 in
theorem grow55_any (n : Nat) (w : World) (h0 : 0 < n) (hn : n ≤ 100000) : Calls Tryz.prog 55 #[.slice none 0 0, .int .i64 n] w (GrowPost w) := by
  have hap := run_append_made n h0 hn w
  have hc := grownCap_ge w n 0 3
  obtain ⟨c, hcc⟩ : ∃ c, c = grownCap w n 0 3 := ⟨_, rfl⟩
  rw [← hcc] at hap hc
  obtain ⟨w1, hw1⟩ : ∃ x, x = w.drew.alloc (.cells (Builtin.zeroCells #[.int .i64 0] n ++ Builtin.zeroCells #[.int .i64 0] (c - n)) 3) := ⟨_, rfl⟩
  rw [← hw1] at hap
  have HRES : Hid (GrowPost w (.returned (.slice (some ⟨w.heap.size, 0, none⟩) 0 c)) w1) := by
    refine hide ⟨w.heap.size, c, rfl, .inr ⟨w.heap.size, 0, c, _, rfl, rfl, by rw [hw1]; exact heap_alloc_eq rfl, Nat.zero_le _, ?_, rfl, by simp [Hf.nI]⟩, Nat.le_refl _, by rw [hw1]; exact ((Fr.refl [] w).drew).alloc _⟩
    simp [Builtin.zeroCells]
    omega
  clear hcc hw1
  have b1 : (0 : Int) < (n : Int) := by omega
  go_enter Tryz.func55, Tryz.ntmps55
  go_wp2_with (at_builtin; refine wpList_append_run2 rfl _ _ 77 3 rfl hap rfl rfl ?_)
  go_ret
  exact HRES.out

/-- Two slices, one behind the other. -/
def CatPost (X Y : List Nat) (w : World) (e : Ending) (w' : World) : Prop := ∃ v g, e = .returned v ∧ NAt w' v g (X ++ Y) ∧ (∀ b, g = some b → w.heap.size ≤ b) ∧ Fr [] w w'
theorem nat_cat {w : World} {v : Value} {g : Option Nat} {L X : List Nat} (h : NAt w v g L) {b off c : Nat} (hX : 0 < X.length) (hc : ∀ i, i < X.length → w.cell? ⟨b, off + i, none⟩ = some (.int .i64 (X.getD i 0 : Nat))) (hl : L.length + X.length ≤ 1000000) :
    ∃ v' w' g', (Builtin.append_ #[77, 77] 77 #[v, .slice (some ⟨b, off, none⟩) X.length c]).run Tryz.prog w = .ok v' w' ∧ NAt w' v' g' (L ++ X) ∧ Fr g.toList w w' ∧ (g' = g ∨ (g' = some w.heap.size ∧ w.heap.size < w'.heap.size)) := by
  obtain ⟨v', w', g', happ, hsl', hfr', hg'⟩ := SlAt.append Hf.elem3 h 77 ⟨b, off, none⟩ X.length c (Hf.nI X) hX (by simp [Hf.nI]) (fun j u hj => by
    have hj2 : j < X.length := by have := (List.getElem?_eq_some_iff.1 hj).1; simpa [Hf.nI] using this
    rw [Hf.nI_get X j hj2] at hj
    injection hj with hj
    rw [← hj, Addr.add_lit]
    exact hc j hj2) (by simp [Hf.nI, Value.oneCell']) (by omega) (by unfold maxLen; omega)
  refine ⟨v', w', g', happ, ?_, hfr', hg'⟩
  unfold Hf.NAt
  rw [List.length_append, Hf.nI_append]
  exact hsl'
set_option maxRecDepth 100000 in
set_option maxHeartbeats 4000000 in
theorem concat37_any (z b1 o1 c1 b2 o2 c2 : Nat) (X Y : List Nat) (w : World) (hz : w.heap[z]? = some (.cells #[.slice (some ⟨b1, o1, none⟩) X.length c1, .slice (some ⟨b2, o2, none⟩) Y.length c2] 77 (0, 0)))
    (hX : 0 < X.length ∧ X.length ≤ 1000) (hY : 0 < Y.length ∧ Y.length ≤ 1000) (h1 : ∀ i, i < X.length → w.cell? ⟨b1, o1 + i, none⟩ = some (.int .i64 (X.getD i 0 : Nat))) (h2 : ∀ i, i < Y.length → w.cell? ⟨b2, o2 + i, none⟩ = some (.int .i64 (Y.getD i 0 : Nat))) :
    Calls Tryz.prog 37 #[.slice (some ⟨z, 0, none⟩) 2 2] w (CatPost X Y w) := by
  have HZ := hide hz
  have H1 := hide h1
  have H2 := hide h2
  have HXB := hide hX
  have HYB := hide hY
  obtain ⟨m1, hm1⟩ : ∃ m, m = X.length := ⟨_, rfl⟩
  obtain ⟨m2, hm2⟩ : ∃ m, m = Y.length := ⟨_, rfl⟩
  have z0 : w.cell? ⟨z, 0, none⟩ = some (.slice (some ⟨b1, o1, none⟩) m1 c1) := by rw [hm1]; exact cell_blk hz 0
  have z1 : w.cell? ⟨z, 1, none⟩ = some (.slice (some ⟨b2, o2, none⟩) m2 c2) := by rw [hm2]; exact cell_blk hz 1
  have zl := lt_of_blk hz
  have mb : 0 < m1 ∧ m1 ≤ 1000 ∧ 0 < m2 ∧ m2 ≤ 1000 := by omega
  have HM := hide (And.intro hm1 hm2)
  clear hz h1 h2 hX hY hm1 hm2
  go_enter Tryz.func37, Tryz.ntmps37
  go_wp2_with fail
  go_loopg [3, 11] 3 (fun gk sz i wr => ∃ k : Nat, gk = 3 - k ∧ k ≤ 2 ∧ i = .int .i64 k ∧ sz = .int .i64 (if k = 0 then 0 else if k = 1 then (m1 : Int) else (m1 : Int) + m2) ∧ wr = w)
  case atStart => exact ⟨0, rfl, by omega, rfl, rfl, rfl⟩
  case round =>
    obtain ⟨k, hgk, hk, rfl, rfl, rfl⟩ := hrel
    have HGK := hide hgk
    clear hgk
    have hk3 : k = 0 ∨ k = 1 ∨ k = 2 := by omega
    rcases hk3 with rfl | rfl | rfl
    · have e0 : (if (0 : Nat) = 0 then (0 : Int) else if (0 : Nat) = 1 then (m1 : Int) else (m1 : Int) + m2) = 0 := rfl
      rw [e0]
      clear e0
      go_wp2_with fail
      go_roundg 2
      case measure => have := HGK.out; omega
      case rel => exact ⟨1, rfl, by omega, rfl, by simp, rfl⟩
    · have e0 : (if (1 : Nat) = 0 then (0 : Int) else if (1 : Nat) = 1 then (m1 : Int) else (m1 : Int) + m2) = (m1 : Int) := rfl
      rw [e0]
      clear e0
      go_wp2_with fail
      go_roundg 1
      case measure => have := HGK.out; omega
      case rel => exact ⟨2, rfl, by omega, rfl, by simp, rfl⟩
    · have e0 : (if (2 : Nat) = 0 then (0 : Int) else if (2 : Nat) = 1 then (m1 : Int) else (m1 : Int) + m2) = (m1 : Int) + m2 := rfl
      obtain ⟨q, hq⟩ : ∃ q, q = m1 + m2 := ⟨_, rfl⟩
      have hqi : (m1 : Int) + m2 = (q : Int) := by omega
      rw [e0, hqi]
      have H55 := hide (grow55_any q wr (by omega) (by omega))
      clear e0 hqi hq
      go_wp2_with fail
      refine (unhide H55).mono ?_
      rintro e wg ⟨bg, cg, rfl, hng, hgb, hfg⟩
      have HNG := hide hng
      have HGB := hide hgb
      have HFG := hide hfg
      have ZG : Hid (∀ W, Fr [] wr W → W.cell? ⟨z, 0, none⟩ = some (.slice (some ⟨b1, o1, none⟩) m1 c1) ∧ W.cell? ⟨z, 1, none⟩ = some (.slice (some ⟨b2, o2, none⟩) m2 c2) ∧ z < W.heap.size) := by
        refine hide fun W hW => ?_
        have h := (hW.block z (lt_of_blk HZ.out) (by simp)).trans HZ.out
        have hM := HM.out
        rw [hM.1, hM.2]
        exact ⟨cell_blk h 0, cell_blk h 1, lt_of_blk h⟩
      clear hng hgb hfg z0 z1 zl
      go_wp2_with fail
      obtain ⟨wo, rfl⟩ : ∃ wo : World, wo = wr := ⟨_, rfl⟩
      obtain ⟨y0, y1, yl⟩ := ZG.out wg HFG.out
      go_wp2_with fail
      go_loopg [6, 27] 3 (fun gj v i wr => ∃ (j : Nat) (g : Option Nat), gj = 3 - j ∧ j ≤ 2 ∧ i = .int .i64 j ∧ NAt wr v g (if j = 0 then [] else if j = 1 then X else X ++ Y) ∧ (∀ b, g = some b → wo.heap.size ≤ b) ∧ Fr [] wo wr)
      case atStart => exact ⟨0, some bg, rfl, by omega, rfl, HNG.out, fun b hb => by injection hb with hb; have := HGB.out; omega, HFG.out⟩
      case round =>
        obtain ⟨j, g, hgj, hj, rfl, hn, hg, hf⟩ := hrel
        have HGJ := hide hgj
        have HN := hide hn
        have HG := hide hg
        have HF := hide hf
        obtain ⟨x0, x1, xl⟩ := ZG.out wr hf
        have hgr : ∀ {g' : Option Nat} {w' : World}, g' = g ∨ (g' = some wr.heap.size ∧ wr.heap.size < w'.heap.size) → ∀ b, g' = some b → wo.heap.size ≤ b := fun h b hb => by
          rcases h with h | ⟨h, _⟩
          · exact hg b (h ▸ hb)
          · rw [h] at hb; injection hb with hb; have := hf.size; omega
        have hj3 : j = 0 ∨ j = 1 ∨ j = 2 := by omega
        rcases hj3 with rfl | rfl | rfl
        · have hn0 : NAt wr _ g [] := hn
          obtain ⟨v', w', g', hap, hn', hf', hg'⟩ := nat_cat hn0 (X := X) (b := b1) (off := o1) (c := c1) HXB.out.1 (fun i hi => by rw [World.cell?_of_block (w := wo) (hf.block b1 (World.block_lt_of_cell? wo _ (H1.out i hi)) (by simp))]; exact H1.out i hi) (by have := HXB.out; simp; omega)
          have HR : Hid (NAt w' v' g' X ∧ (∀ b, g' = some b → wo.heap.size ≤ b) ∧ Fr [] wo w') := hide ⟨by simpa using hn', hgr (w' := w') hg', hf.andThen hf' (fun b hb => .inr (hg b (by simpa using hb)))⟩
          rw [← HM.out.1] at hap
          obtain ⟨pa, pc, hpv⟩ := SlAt.shape hn0
          rw [hpv] at hap ⊢
          clear hn hg hf hgr hn0 hn' hf' hg' hgj hpv
          go_wp2_with (at_builtin; refine wpList_append_run rfl _ _ 77 rfl hap rfl rfl ?_)
          go_roundg 2
          case measure => have := HGJ.out; omega
          case rel => obtain ⟨r1, r2, r3⟩ := HR.out; exact ⟨1, g', rfl, by omega, rfl, r1, r2, r3⟩
        · have hn0 : NAt wr _ g X := hn
          obtain ⟨v', w', g', hap, hn', hf', hg'⟩ := nat_cat hn0 (X := Y) (b := b2) (off := o2) (c := c2) HYB.out.1 (fun i hi => by rw [World.cell?_of_block (w := wo) (hf.block b2 (World.block_lt_of_cell? wo _ (H2.out i hi)) (by simp))]; exact H2.out i hi) (by have := HXB.out; have := HYB.out; omega)
          have HR : Hid (NAt w' v' g' (X ++ Y) ∧ (∀ b, g' = some b → wo.heap.size ≤ b) ∧ Fr [] wo w') := hide ⟨hn', hgr (w' := w') hg', hf.andThen hf' (fun b hb => .inr (hg b (by simpa using hb)))⟩
          rw [← HM.out.2] at hap
          obtain ⟨pa, pc, hpv⟩ := SlAt.shape hn0
          rw [hpv] at hap ⊢
          clear hn hg hf hgr hn0 hn' hf' hg' hgj
          have HPV := hide hpv
          clear hpv
          go_wp2_with (at_builtin; refine wpList_append_run rfl _ _ 77 rfl hap rfl rfl ?_)
          go_roundg 1
          case measure => have := HGJ.out; omega
          case rel => obtain ⟨r1, r2, r3⟩ := HR.out; exact ⟨2, g', rfl, by omega, rfl, r1, r2, r3⟩
        · clear hn hg hf hgr hgj
          go_wp2
          go_ret
          exact ⟨_, g, rfl, HN.out, HG.out, HF.out⟩
end Go.Proofs.YthmhcnnigepohaaGreatDoor.En
