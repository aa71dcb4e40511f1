/- One decoder's rounds, as Prefix walks them. -/
import Derived.Test.YthmhcnnigepohaaDcd
namespace Go.Proofs.Ythmhcnnigepohaa
open Go.RowKit

theorem us_le (L : List Nat) : ∀ k, k ≤ L.length → (∀ i, i < k → L.getD i 0 ≤ 1) → us (zI L) k ≤ ((L.take k).count 1 : Int)
  | 0, _, _ => by simp [us]
  | k + 1, h, h1 => by
    have ih := us_le L k (by omega) (fun i hi => h1 i (by omega))
    have h2 := h1 k (by omega)
    rw [us, take_get (by omega), List.count_append, List.count_singleton, zI_get]
    obtain ⟨y, hy⟩ : ∃ y, y = L.getD k 0 := ⟨_, rfl⟩
    rw [← hy] at h2 ⊢
    rcases Nat.le_one_iff_eq_zero_or_eq_one.1 h2 with rfl | rfl
    · simp; exact ih
    · simp; exact ih
/-- A code with two symbols or more is complete. -/
theorem full {L : List Nat} (hg : Good L) (h : 1 < us (zI L) L.length) : kr L = 2 ^ 15 := by
  rcases hg with hk | ⟨h1, h2⟩
  · exact hk
  · have h3 := us_le L L.length (Nat.le_refl _) h1
    rw [List.take_length] at h3
    omega

/-- A decoder in a state. -/
structure One (w0 : World) (L : List Nat) (D : Nat) (g : Option Nat) (sv : Value) (n c : Nat) (w : World) : Prop where
  db : DB w D L (stt L) (lgs L 15) c n sv
  na : NAt w sv g (sys L 15)
  fr : Fr [] w0 w
/-- What is so in all rounds. -/
structure Sure (w0 : World) (L : List Nat) (D : Nat) (g : Option Nat) : Prop where
  hD : w0.heap.size ≤ D
  gD : ∀ b, g = some b → b ≠ D
  hL : ∀ x ∈ L, x ≤ 15
  len : L.length ≤ 320
  good : Good L
  kr : kr L ≤ 2 ^ 15
variable {w0 w w' : World} {L : List Nat} {D : Nat} {g : Option Nat} {sv : Value} {n c n' c' : Nat}
theorem One.step (h : One w0 L D g sv n c w) (k : Sure w0 L D g) (hd : DB w' D L (stt L) (lgs L 15) c' n' sv) (hf : Fr [D] w w') : One w0 L D g sv n' c' w' :=
  ⟨hd, SlAt.fr h.na hf (fun b hb => by simpa using k.gD b hb), h.fr.andThen hf (fun x hx => .inr (by simp at hx; rw [hx]; exact k.hD))⟩
theorem One.any (h : One w0 L D g sv n c w) (k : Sure w0 L D g) (hk : Go.Proofs.Ythmhcnnigepohaa.kr L = 2 ^ 15) (hs : St L n c) (bit : Int) :
    ∃ (x : Nat) (b : Bool) (n' c' : Nat), St L n' c' ∧ ((b = true ∧ x < L.length ∧ 0 < L.getD x 0) ∨ (b = false ∧ x = 0)) ∧
      Calls Try.prog 22 #[.pointer (some ⟨D, 0, none⟩), .int .i64 bit] w (fun e w' => e = .returned (.tuple #[.int .i64 x, .bool b, .int .i64 0]) ∧ DB w' D L (stt L) (lgs L 15) c' n' sv ∧ Fr [D] w w') := by
  obtain ⟨r, hr⟩ : ∃ r : Nat, (r : Int) = bit % 2 := ⟨(bit % 2).toNat, by omega⟩
  have hbd := st_bd hs
  have hlen := k.len
  rcases step_out k.hL k.good hs (show r < 2 by omega) with ⟨x, p1, p2⟩ | ⟨p1, p2, p3, p4⟩ | ⟨p0, p1, p2, p3⟩
  · exact ⟨x, true, 0, 0, st_zero L, .inl ⟨rfl, p2.1, by omega⟩, step22_hit D L c n r g sv bit w h.db h.na k.gD k.hL (by omega) (by omega) (by omega) hr x p1⟩
  · exact ⟨0, false, n + 1, c * 2 + r, p4, .inr ⟨rfl, rfl⟩, step22_on D L c n r g sv bit w h.db h.na k.gD k.hL (by omega) (by omega) (by omega) hr p1⟩
  · exact absurd hk p0

theorem halve (x t : Nat) : x / 2 ^ (t + 1) * 2 + x / 2 ^ t % 2 = x / 2 ^ t := by
  rw [Nat.pow_succ, ← Nat.div_div_eq_div_mul]
  omega
theorem code_bd {s : Nat} (k : Sure w0 L D g) (hs : s < L.length) (h0 : 0 < L.getD s 0) : code L s < 32768 ∧ L.getD s 0 ≤ 15 := by
  have h1 := code_fits k.hL k.kr hs h0
  have h2 : L.getD s 0 ≤ 15 := by
    have e : L.getD s 0 = L[s] := by simp [List.getD, List.getElem?_eq_getElem hs]
    rw [e]; exact k.hL _ (List.getElem_mem _)
  have h3 := Nat.pow_le_pow_right (n := 2) (by omega) h2
  omega
/-- The last bit of a symbol's code. -/
theorem One.last (h : One w0 L D g sv n c w) (k : Sure w0 L D g) {s : Nat} (hs : s < L.length) (hy : L.getD s 0 = n + 1) (hc : c = code L s / 2 ^ (0 + 1)) (bit : Int) (hb : bit = ((code L s : Nat) : Int)) :
    Calls Try.prog 22 #[.pointer (some ⟨D, 0, none⟩), .int .i64 bit] w (fun e w' => e = .returned (.tuple #[.int .i64 s, .bool true, .int .i64 0]) ∧ DB w' D L (stt L) (lgs L 15) ((0 : Nat) : Int) ((0 : Nat) : Int) sv ∧ Fr [D] w w') := by
  obtain ⟨hcb, hyb⟩ := code_bd k hs (by omega)
  have hh := halve (code L s) 0
  rw [Nat.pow_zero, Nat.div_one, ← hc] at hh
  have hlen := k.len
  obtain ⟨a1, a2, _⟩ := code_in k.hL hs (by omega)
  rw [hy] at a1 a2 hyb
  have hcn : cnt L (n + 1) ≠ 0 := by omega
  have hsy := syk_get hs hy L.length hs (Nat.le_refl _)
  have hcd : code L s = fst L (n + 1) + pre L (n + 1) s := by unfold code; rw [hy, if_neg (by omega)]
  refine step22_hit D L c n (code L s % 2) g sv bit w h.db h.na k.gD k.hL (by omega) (by omega) (by omega) (by rw [hb]; omega) s ?_
  rw [hh]
  exact ⟨lgs_ge 15 hyb hcn, a1, a2, by rw [hcd, Nat.add_sub_cancel_left]; exact hsy⟩
/-- A bit before the last one. -/
theorem One.more (h : One w0 L D g sv n c w) (k : Sure w0 L D g) {s t : Nat} (hs : s < L.length) (ht : 0 < t) (hy : L.getD s 0 = n + 1 + t) (hc : c = code L s / 2 ^ (t + 1)) (bit : Int) (hb : bit = ((code L s / 2 ^ t : Nat) : Int)) :
    Calls Try.prog 22 #[.pointer (some ⟨D, 0, none⟩), .int .i64 bit] w (fun e w' => e = .returned (.tuple #[.int .i64 0, .bool false, .int .i64 0]) ∧ DB w' D L (stt L) (lgs L 15) ((code L s / 2 ^ t : Nat) : Int) ((n + 1 : Nat) : Int) sv ∧ Fr [D] w w') := by
  obtain ⟨hcb, hyb⟩ := code_bd k hs (by omega)
  have hh := halve (code L s) t
  rw [← hc] at hh
  have hlen := k.len
  have hcn : cnt L (L.getD s 0) ≠ 0 := by
    have := code_in k.hL hs (by omega)
    omega
  have hlg := lgs_ge 15 hyb hcn
  have how := on_way k.hL hs (n := n + 1) (by omega)
  rw [show L.getD s 0 - (n + 1) = t by omega] at how
  have hcb2 : c ≤ code L s := by rw [hc]; exact Nat.div_le_self _ _
  have hstep := step22_on D L c n (code L s / 2 ^ t % 2) g sv bit w h.db h.na k.gD k.hL (by omega) (by omega) (by omega) (by rw [hb]; omega) (by
    rw [hh]
    exact ⟨by omega, by omega, how⟩)
  rw [hh] at hstep
  exact hstep

set_option maxRecDepth 100000 in
theorem check11_over (a : Option Addr) (n cap : Nat) (w : World) (h : 320 < n) (hn : n ≤ 9223372036854775807) :
    Calls Try.prog 11 #[.slice a n cap] w fun e w' => e = .returned (.int .i64 3) ∧ w = w' := by
  go_enter Try.func11, Try.ntmps11
  go_wp2
  go_ret
  exact ⟨rfl, rfl⟩
set_option maxRecDepth 100000 in
set_option maxHeartbeats 2000000 in
theorem newdec20_over (a : Option Addr) (n cap : Nat) (w : World) (h : 320 < n) (hn : n ≤ 9223372036854775807) :
    Calls Try.prog 20 #[.slice a n cap] w fun e w' => e = .returned (.tuple #[.pointer none, .int .i64 3]) ∧ w = w' := by
  go_enter Try.func20, Try.ntmps20
  go_wp2_with fail
  refine (check11_over _ _ _ _ h hn).mono ?_
  rintro e w1 ⟨rfl, rfl⟩
  go_wp2
  go_ret2
  exact ⟨rfl, rfl⟩
end Go.Proofs.Ythmhcnnigepohaa

