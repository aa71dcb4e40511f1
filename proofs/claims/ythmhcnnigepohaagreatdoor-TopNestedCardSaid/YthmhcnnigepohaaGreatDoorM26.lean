/- What is put out since a call's begin is only noted; a run byte by byte; a stored block. No program in sight. -/
import Derived.Test.YthmhcnnigepohaaGreatDoorM22
import Derived.Test.YthmhcnnigepohaaGreatDoorM25
import Derived.Test.YthmhcnnigepohaaGreatDoorM20
namespace Go.Proofs.YthmhcnnigepohaaGreatDoor.En
open If
set_option linter.unusedVariables false

def Fresh (R : PS → PS → Prop) (s s' : PS) : Prop := ∃ d, s'.out = s.out ++ d ∧ s'.fresh = s.fresh ++ d ∧ ∀ f, f.length ≤ s.fresh.length → R { s with fresh := f } { s' with fresh := f ++ d }
theorem Fresh.trans {R S T : PS → PS → Prop} {a b c : PS} (h : Fresh R a b) (k : Fresh S b c) (hT : ∀ a b c, R a b → S b c → T a c) : Fresh T a c := by
  obtain ⟨d, h1, h2, h3⟩ := h
  obtain ⟨e, k1, k2, k3⟩ := k
  refine ⟨d ++ e, by rw [k1, h1, List.append_assoc], by rw [k2, h2, List.append_assoc], fun f hf => ?_⟩
  rw [← List.append_assoc]
  exact hT _ _ _ (h3 f hf) (k3 _ (by rw [h2, List.length_append, List.length_append]; omega))
theorem Fresh.imp {R T : PS → PS → Prop} {a b : PS} (h : Fresh R a b) (hT : ∀ a b, R a b → T a b) : Fresh T a b := by
  obtain ⟨d, h1, h2, h3⟩ := h
  exact ⟨d, h1, h2, fun f hf => hT _ _ (h3 f hf)⟩
theorem lensNext_fresh (C l : List Nat) (a b : Nat) (last : Bool) (o f f' : List UInt8) (sk : Bool) : ({ lensNext C l a b last o f sk with fresh := f' } : PS) = lensNext C l a b last o f' sk := by
  unfold lensNext
  split <;> rfl
theorem lensNext_of (C l : List Nat) (a b : Nat) (last : Bool) (o f : List UInt8) (sk : Bool) : (lensNext C l a b last o f sk).out = o ∧ (lensNext C l a b last o f sk).fresh = f := by
  unfold lensNext
  split <;> exact ⟨rfl, rfl⟩
theorem Room.fresh {inp : Int} {o f g : List UInt8} {n : Nat} (h : Room inp o f n) (hl : g.length ≤ f.length) : Room inp o g n := by
  obtain ⟨a, b, c, d⟩ := h
  exact ⟨a, b, by omega, d⟩
theorem same {R : PS → PS → Prop} {a b : PS} (h1 : b.out = a.out) (h2 : b.fresh = a.fresh) (h : ∀ f, f.length ≤ a.fresh.length → R { a with fresh := f } { b with fresh := f }) : Fresh R a b :=
  ⟨[], by rw [h1, List.append_nil], by rw [h2, List.append_nil], fun f hf => by rw [List.append_nil]; exact h f hf⟩
theorem Fires.fresh {inp : Int} {s s' : PS} {v : Nat} (h : Fires inp s v s') : Fresh (fun a b => Fires inp a v b) s s' := by
  cases h with
  | stored => exact same rfl rfl fun f _ => .stored
  | fixed => exact same rfl rfl fun f _ => .fixed
  | dyn => exact same rfl rfl fun f _ => .dyn
  | slen h => exact same rfl rfl fun f _ => .slen h
  | schk h h0 => exact same rfl rfl fun f _ => .schk h h0
  | schk0 => exact same rfl rfl fun f _ => .schk0
  | raw h hm hn => exact ⟨_, rfl, rfl, fun f hf => .raw (Room.fresh h hf) hm hn⟩
  | raw1 h => exact ⟨_, rfl, rfl, fun f hf => .raw1 (Room.fresh h hf)⟩
  | hlit h => exact same rfl rfl fun f _ => .hlit h
  | hdist h => exact same rfl rfl fun f _ => .hdist h
  | hclen h => exact same rfl rfl fun f _ => .hclen h
  | third hi hn hv ha => exact same rfl rfl fun f _ => .third hi hn hv ha
  | third1 hn hv ha ok => exact same rfl rfl fun f _ => .third1 hn hv ha ok
  | lens hv hl ok => exact same (lensNext_of ..).1 (lensNext_of ..).2 fun f _ => by rw [lensNext_fresh]; exact .lens hv hl ok
  | prev h0 hl => exact same rfl rfl fun f _ => .prev h0 hl
  | zero3 => exact same rfl rfl fun f _ => .zero3
  | zero7 => exact same rfl rfl fun f _ => .zero7
  | rep hv hm hfit ok => exact same (lensNext_of ..).1 (lensNext_of ..).2 fun f _ => by rw [lensNext_fresh]; exact .rep hv hm hfit ok
  | byte h => exact ⟨_, rfl, rfl, fun f hf => .byte (Room.fresh h hf)⟩
  | stop => exact same rfl rfl fun f _ => .stop
  | len h1 h2 => exact same rfl rfl fun f _ => .len h1 h2
  | lenx => exact same rfl rfl fun f _ => .lenx
  | dist h => exact same rfl rfl fun f _ => .dist h
  | distx h h1 h2 => exact ⟨_, rfl, rfl, fun f hf => .distx (Room.fresh h hf) h1 h2⟩
theorem Settles.fresh {inp : Int} {N : Nat} {s s' : PS} {v : Nat} (h : Settles inp N s v s') : Fresh (fun a b => Settles inp N a v b) s s' := by
  induction h with
  | done h hz =>
    obtain ⟨d, h1, h2, h3⟩ := Fires.fresh h
    exact ⟨d, h1, h2, fun f hf => .done (h3 f hf) hz⟩
  | more h hz _ ih =>
    obtain ⟨d, h1, h2, h3⟩ := Fires.fresh h
    obtain ⟨e, k1, k2, k3⟩ := ih
    refine ⟨d ++ e, by rw [k1, h1, List.append_assoc], by rw [k2, h2, List.append_assoc], fun f hf => ?_⟩
    rw [← List.append_assoc]
    exact .more (h3 f hf) hz (k3 _ (by rw [h2, List.length_append, List.length_append]; omega))
theorem Bit1.fresh {inp : Int} {s s' : PS} {b : Nat} (h : Bit1 inp s b s') : Fresh (fun a c => Bit1 inp a b c) s s' := by
  cases h with
  | nm hw hq hn hc hb => exact same rfl rfl fun f _ => .nm (s := { s with fresh := f }) hw hq hn hc hb
  | nl hw hq hn hc hb hr hset =>
    obtain ⟨d, h1, h2, h3⟩ := Settles.fresh hset
    exact ⟨d, h1, h2, fun f hf => .nl (s := { s with fresh := f }) hw hq hn hc hb hr (h3 f hf)⟩
  | sm hw ok hs ht hy hc hb => exact same rfl rfl fun f _ => .sm (s := { s with fresh := f }) hw ok hs ht hy hc hb
  | sl hw ok hs hy hc hb hset =>
    obtain ⟨d, h1, h2, h3⟩ := Settles.fresh hset
    exact ⟨d, h1, h2, fun f hf => .sl (s := { s with fresh := f }) hw ok hs hy hc hb (h3 f hf)⟩
theorem Byte.fresh {inp : Int} {B k : Nat} {s s' : PS} (h : Byte inp B k s s') : Fresh (fun a b => Byte inp B k a b) s s' := by
  induction h with
  | all => exact same rfl rfl fun f _ => .all
  | skip h => exact same rfl rfl fun f _ => .skip h
  | fin h => exact same rfl rfl fun f _ => .fin h
  | step hk h1 h2 hb _ ih =>
    obtain ⟨d, a1, a2, a3⟩ := Bit1.fresh hb
    obtain ⟨e, k1, k2, k3⟩ := ih
    refine ⟨d ++ e, by rw [k1, a1, List.append_assoc], by rw [k2, a2, List.append_assoc], fun f hf => ?_⟩
    rw [← List.append_assoc]
    exact .step hk h1 h2 (a3 f hf) (k3 _ (by rw [a2, List.length_append, List.length_append]; omega))
theorem Feeds.fresh {x n : Int} {l tl : List UInt8} {s s' : PS} (h : Feeds x l s n tl s') : Fresh (fun a b => Feeds x l a n tl b) s s' := by
  induction h with
  | nil => exact same rfl rfl fun f _ => .nil
  | fin h hf =>
    obtain ⟨d, h1, h2, h3⟩ := Byte.fresh h
    exact ⟨d, h1, h2, fun f hl => .fin (h3 f hl) hf⟩
  | more h hf _ ih =>
    obtain ⟨d, a1, a2, a3⟩ := Byte.fresh h
    obtain ⟨e, k1, k2, k3⟩ := ih
    refine ⟨d ++ e, by rw [k1, a1, List.append_assoc], by rw [k2, a2, List.append_assoc], fun f hl => ?_⟩
    rw [← List.append_assoc]
    exact .more (a3 f hl) hf (k3 _ (by rw [a2, List.length_append, List.length_append]; exact Nat.add_le_add_right hl _))
/-- One byte of a run. -/
theorem Feeds.byte {x n : Int} {b : UInt8} {l tl : List UInt8} {s sf : PS} (h : Feeds x (b :: l) s n tl sf) : ∃ s1, Feeds x [b] { s with fresh := [] } (x + 1) [] s1 ∧ s1.out = s.out ++ s1.fresh ∧
    ((s1.k = .fin ∧ n = x + 1 ∧ tl = l ∧ sf.k = .fin ∧ sf.out = s1.out) ∨ (s1.k ≠ .fin ∧ ∃ sf', Feeds (x + 1) l s1 n tl sf' ∧ sf'.k = sf.k ∧ sf'.out = sf.out)) := by
  cases h with
  | fin h hf =>
    obtain ⟨d, h1, h2, h3⟩ := Byte.fresh h
    refine ⟨{ sf with fresh := d }, .fin (h3 [] (by simp)) hf, h1, .inl ⟨hf, rfl, rfl, hf, rfl⟩⟩
  | more h hf k =>
    rename_i s1
    obtain ⟨d, h1, h2, h3⟩ := Byte.fresh h
    obtain ⟨e, k1, k2, k3⟩ := Feeds.fresh k
    refine ⟨{ s1 with fresh := d }, .more (h3 [] (by simp)) hf .nil, h1, .inr ⟨hf, _, k3 d (by rw [h2]; simp), rfl, rfl⟩⟩

/-! ### a stored block -/
theorem Feeds.unskip {x n : Int} {b : UInt8} {l tl : List UInt8} {s sf : PS} (h : Feeds x (b :: l) { s with skip := false } n tl sf) : Feeds x (b :: l) s n tl sf := by
  cases h with
  | fin h hf => exact .fin h hf
  | more h hf k => exact .more h hf k
def storedB (s : List UInt8) : List UInt8 := [1, UInt8.ofNat (s.length % 256), UInt8.ofNat (s.length / 256), UInt8.ofNat (255 - s.length % 256), UInt8.ofNat (255 - s.length / 256)] ++ s
theorem bitOf_at (B : List UInt8) (j i : Nat) (hi : i < 8) : bitOf B (8 * j + i) = (B.getD j 0).toNat / 2 ^ i % 2 := by
  unfold bitOf
  rw [show (8 * j + i) / 8 = j by omega, show (8 * j + i) % 8 = i by omega]
theorem mod_bit (n i : Nat) (hi : i < 8) : n % 256 / 2 ^ i % 2 = n / 2 ^ i % 2 := by
  rw [show 256 = 2 ^ i * (2 ^ (7 - i) * 2) by rw [← Nat.pow_succ, ← Nat.pow_add]; rw [show i + (7 - i + 1) = 8 by omega], Nat.mod_mul_right_div_self, Nat.mod_mul_left_mod]
theorem bits16 (B : List UInt8) (j n : Nat) (h1 : (B.getD j 0).toNat = n % 256) (h2 : (B.getD (j + 1) 0).toNat = n / 256) (i : Nat) (hi : i < 16) : bitOf B (8 * j + i) = n / 2 ^ i % 2 := by
  by_cases h : i < 8
  · rw [bitOf_at B j i h, h1, mod_bit n i h]
  · rw [show 8 * j + i = 8 * (j + 1) + (i - 8) by omega, bitOf_at B (j + 1) (i - 8) (by omega), h2, show n / 256 = n / 2 ^ 8 by rfl, Nat.div_div_eq_div_mul, ← Nat.pow_add, show 8 + (i - 8) = i by omega]
theorem raw_cont {B : List UInt8} : ∀ (r : List UInt8) (j : Nat) (o : List UInt8), r ≠ [] → r.length ≤ 65535 → (∀ i, i < r.length → B.getD (j + i) 0 = r.getD i 0) → o.length + r.length ≤ 65535 → o.length ≤ j → 8 * (j + r.length) ≤ 4000000 →
    Cont (bitOf B) (8 * j) ⟨.raw r.length, 0, 0, true, o, o, false⟩ (8 * (j + r.length)) ⟨.fin, 0, 0, true, o ++ r, o ++ r, false⟩
  | [], _, _, h, _, _, _, _, _ => absurd rfl h
  | [b], j, o, _, _, hB, ho, hj, hp => by
    refine Cont.num (n := 8) (v := b.toNat) rfl (by omega) rfl rfl rfl (fun i hi => ?_) (UInt8.toNat_lt b) (.raw1 (room_of (o := o) (m := 1) (by simp at ho; omega) (by omega) (by simp at hp; omega))) ?_
    · rw [bitOf_at B j i hi]
      have := hB 0 (by simp)
      simp only [Nat.add_zero, List.getD_cons_zero] at this
      rw [this]
    · exact .refl rfl
  | b :: c :: r, j, o, _, hr, hB, ho, hj, hp => by
    refine Cont.num (n := 8) (v := b.toNat) (s1 := ⟨.raw (c :: r).length, 0, 0, true, o ++ [b], o ++ [b], false⟩) rfl (by omega) rfl rfl rfl (fun i hi => ?_) (UInt8.toNat_lt b) (.raw (m := (c :: r).length) (room_of (o := o) (m := 1) (by simp at ho; omega) (by omega) (by simp at hp; omega)) (by simp) (by simp at hr ⊢; omega)) ?_
    · rw [bitOf_at B j i hi]
      have := hB 0 (by simp)
      simp only [Nat.add_zero, List.getD_cons_zero] at this
      rw [this]
    · have ih := raw_cont (B := B) (c :: r) (j + 1) (o ++ [b]) (by simp) (by simp at hr ⊢; omega) (fun i hi => by
        have := hB (i + 1) (by simp at hi ⊢; omega)
        rw [List.getD_cons_succ, ← Nat.add_assoc, Nat.add_right_comm] at this
        exact this) (by simp at ho ⊢; omega) (by simp; omega) (by simp at hp ⊢; omega)
      rw [List.append_assoc, List.singleton_append] at ih
      rw [show 8 * j + 8 = 8 * (j + 1) by omega, show j + (b :: c :: r).length = j + 1 + (c :: r).length by simp; omega]
      exact ih
theorem stored_inflates (s : List UInt8) (hs : s.length ≤ 65535) : Inflates (storedB s) s := by
  refine ⟨by simp [storedB], fun tl => ⟨⟨.fin, 0, 0, true, s, s, false⟩, ?_, rfl, rfl, rfl⟩⟩
  obtain ⟨n, hn⟩ : ∃ n, n = s.length := ⟨_, rfl⟩
  have hlen : (storedB s).length = n + 5 := by rw [hn]; simp [storedB]
  have g1 : ((storedB s).getD 1 0).toNat = n % 256 := by
    show (UInt8.ofNat (s.length % 256)).toNat = _
    rw [UInt8.toNat_ofNat', ← hn]; omega
  have g2 : ((storedB s).getD (1 + 1) 0).toNat = n / 256 := by
    show (UInt8.ofNat (s.length / 256)).toNat = _
    rw [UInt8.toNat_ofNat', ← hn]; omega
  have g3 : ((storedB s).getD 3 0).toNat = (65535 - n) % 256 := by
    show (UInt8.ofNat (255 - s.length % 256)).toNat = _
    rw [UInt8.toNat_ofNat', ← hn]; omega
  have g4 : ((storedB s).getD (3 + 1) 0).toNat = (65535 - n) / 256 := by
    show (UInt8.ofNat (255 - s.length / 256)).toNat = _
    rw [UInt8.toNat_ofNat', ← hn]; omega
  have hdrop : storedB s = 1 :: (storedB s).drop 1 := rfl
  have hb : Byte ((0 : Int) + 1) (1 : UInt8).toNat 0 { ps0 with skip := false } ⟨.slen, 0, 0, true, [], [], true⟩ := by
    refine .step (by omega) rfl (by simp [ps0]) (.nm (n := 3) rfl (by simp [ps0]) (by omega) (by simp [ps0]) (by decide)) ?_
    refine .step (by omega) rfl (by simp [ps0]) (.nm (n := 3) rfl (by simp [ps0]) (by omega) (by simp [ps0]) (by decide)) ?_
    refine .step (by omega) rfl (by simp [ps0]) (.nl (nn := 3) (N := 0) (r := 1) rfl (by simp [ps0]) (by omega) (by simp [ps0]) (by decide) (by simp [ps0]) (.done .stored rfl)) ?_
    exact .skip rfl
  rw [hdrop, List.cons_append]
  refine .more hb (by simp) ?_
  have hne : (storedB s).drop 1 ++ tl = UInt8.ofNat (s.length % 256) :: ((storedB s).drop 2 ++ tl) := rfl
  have e1 : (0 : Int) + 1 = ((1 : Nat) : Int) := rfl
  rw [hne]
  refine Feeds.unskip ?_
  rw [← hne, e1]
  rw [← hdrop]
  refine path_feeds (B := storedB s) (q := 8 * (storedB s).length) (by unfold nb; omega) rfl ((storedB s).length - 1) 1 _ (by omega) (by simp) ?_
  refine Cont.path ?_ rfl
  refine Cont.num (n := 16) (v := n) rfl (by omega) rfl rfl rfl (fun i hi => bits16 _ 1 n g1 g2 i hi) (by omega) (.slen (by omega)) ?_
  rw [hlen]
  by_cases h0 : n = 0
  · refine Cont.num (n := 16) (v := 65535 - n) rfl (by omega) rfl rfl rfl (fun i hi => bits16 _ 3 (65535 - n) g3 g4 i hi) (by omega) (by rw [h0]; exact .schk0) ?_
    have : s = [] := List.length_eq_zero_iff.1 (by omega)
    subst this
    rw [h0]
    exact .refl rfl
  · refine Cont.num (n := 16) (v := 65535 - n) rfl (by omega) rfl rfl rfl (fun i hi => bits16 _ 3 (65535 - n) g3 g4 i hi) (by omega) (.schk (by omega) h0) ?_
    have := raw_cont (B := storedB s) s 5 [] (by intro h; rw [h] at hn; exact h0 hn) hs (fun i hi => by
      unfold storedB
      simp only [List.getD]
      rw [List.getElem?_append_right (by simp)]
      simp) (by simp; omega) (by simp) (by omega)
    rw [← hn, Nat.add_comm 5 n] at this
    exact this
end Go.Proofs.YthmhcnnigepohaaGreatDoor.En

/- A dynamic block as bits, and back: no program in sight. -/
namespace Go.Proofs.YthmhcnnigepohaaGreatDoor.En
open If
open Hf (code code_fits chk zI)
set_option linter.unusedVariables false

/-! ### tables of lengths -/
theorem zI_inj {A B : List Nat} (h : zI A = zI B) : A = B := by
  have := congrArg (List.map Int.toNat) h
  rw [Hf.zI_nat, Hf.zI_nat] at this
  exact this
theorem lok_of {L : List Nat} (h : chk (zI L) = 0) : LOk L := by
  obtain ⟨A, e1, a1, a2, a3⟩ := Hf.chk_good h
  obtain ⟨B, e2, b1, b2, b3⟩ := Hf.chk_ok (.inl h)
  have := zI_inj e1; subst this
  have := zI_inj e2; subst this
  have h4 := Hf.ks_all L a1
  refine ⟨a1, a2, a3, ?_, h⟩
  omega
theorem us_snoc (l : List Int) : ∀ k, k ≤ l.length → Hf.us (l ++ [0]) k = Hf.us l k
  | 0, _ => rfl
  | k + 1, h => by
    have e : (l ++ [0]).getD k 0 = l.getD k 0 := by simp only [List.getD, List.getElem?_append_left (show k < l.length by omega)]
    rw [Hf.us, Hf.us, us_snoc l k (by omega), e]
theorem ks_snoc (l : List Int) : ∀ k, k ≤ l.length → Hf.ks (l ++ [0]) k = Hf.ks l k
  | 0, _ => rfl
  | k + 1, h => by
    have e : (l ++ [0]).getD k 0 = l.getD k 0 := by simp only [List.getD, List.getElem?_append_left (show k < l.length by omega)]
    rw [Hf.ks, Hf.ks, ks_snoc l k (by omega), e]
theorem chk_snoc (L : List Nat) (h : chk (zI (L ++ [0])) = 0) : chk (zI L) = 0 := by
  have e : zI (L ++ [0]) = zI L ++ [0] := by simp [zI]
  rw [e] at h
  unfold chk at h ⊢
  have hb : Hf.bad (zI L ++ [0]) = Hf.bad (zI L) := by simp [Hf.bad]
  have hu : Hf.us (zI L ++ [0]) (zI L ++ [0]).length = Hf.us (zI L) (zI L).length := by
    rw [List.length_append, List.length_singleton, Hf.us, us_snoc _ _ (Nat.le_refl _)]
    simp
  have hk : Hf.ks (zI L ++ [0]) (zI L ++ [0]).length = Hf.ks (zI L) (zI L).length := by
    rw [List.length_append, List.length_singleton, Hf.ks, ks_snoc _ _ (Nat.le_refl _)]
    simp
  rw [hb, hu, hk] at h
  by_cases hl : 320 < (zI L).length
  · rw [if_pos (by simp; omega)] at h; cases h
  · rw [if_neg hl]
    by_cases hl2 : 320 < (zI L ++ [0]).length
    · rw [if_pos hl2] at h; cases h
    · rw [if_neg hl2] at h; exact h
/-- Without the zeros at the end, but at least n. -/
def trim (n : Nat) (L : List Nat) : List Nat → List Nat
  | [] => L
  | _ :: t => if n < L.length ∧ L.getD (L.length - 1) 0 = 0 then trim n L.dropLast t else L
inductive Trims (n : Nat) : List Nat → List Nat → Prop
  | refl {L} : Trims n L L
  | step {L X} (h : n ≤ L.length) (t : Trims n L X) : Trims n (L ++ [0]) X
theorem Trims.spec {n : Nat} {L X : List Nat} (h : Trims n L X) : ∃ k, L = X ++ List.replicate k 0 ∧ (n ≤ L.length → n ≤ X.length) := by
  induction h with
  | refl => exact ⟨0, by simp, fun h => h⟩
  | step h _ ih =>
    obtain ⟨k, rfl, h2⟩ := ih
    exact ⟨k + 1, by rw [List.append_assoc, List.replicate_succ'], fun _ => h2 h⟩
theorem chk_trim : ∀ (k : Nat) (X : List Nat), chk (zI (X ++ List.replicate k 0)) = 0 → chk (zI X) = 0
  | 0, X, h => by simpa using h
  | k + 1, X, h => by
    rw [List.replicate_succ', ← List.append_assoc] at h
    exact chk_trim k X (chk_snoc _ h)
theorem cnt_trim (X : List Nat) (k n : Nat) : Hf.cnt (X ++ List.replicate k 0) n = Hf.cnt X n := by
  unfold Hf.cnt
  split
  · rfl
  · rename_i h
    rw [List.count_append, List.count_replicate, if_neg (by simpa using fun e => h e.symm)]
    rfl
theorem fst_trim (X : List Nat) (k : Nat) : ∀ n, Hf.fst (X ++ List.replicate k 0) n = Hf.fst X n
  | 0 => rfl
  | n + 1 => by rw [Hf.fst, Hf.fst, fst_trim X k n, cnt_trim]
theorem getD_trim (X : List Nat) (k s : Nat) : (X ++ List.replicate k 0).getD s 0 = X.getD s 0 := by
  simp only [List.getD]
  rcases Nat.lt_or_ge s X.length with h | h
  · rw [List.getElem?_append_left h]
  · rw [List.getElem?_append_right h, List.getElem?_eq_none h, List.getElem?_replicate]
    split <;> rfl
theorem has_trim {X : List Nat} {k s : Nat} (h : Has (X ++ List.replicate k 0) s) : Has X s := by
  obtain ⟨h1, h2⟩ := h
  rw [getD_trim] at h2
  refine ⟨?_, h2⟩
  rcases Nat.lt_or_ge s X.length with h | h
  · exact h
  · simp [List.getD, List.getElem?_eq_none h] at h2
theorem cd_trim {X : List Nat} {k s : Nat} (h : Has X s) : cd (X ++ List.replicate k 0) s = cd X s := by
  unfold cd code
  rw [getD_trim, fst_trim]
  unfold Hf.pre
  rw [List.take_append_of_le_length (by have := h.1; omega)]

/-! ### the symbols of the third code -/
structure Rn where
  sym : Nat
  val : Nat
  bits : Nat
inductive Run1 : List Nat → Rn → List Nat → Prop
  | lit {t v} (h : v < 16) : Run1 t ⟨v, 0, 0⟩ (t ++ [v])
  | rep {t k} (h : k < 4) (h0 : 0 < t.length) : Run1 t ⟨16, k, 2⟩ (t ++ List.replicate (3 + k) (t.getD (t.length - 1) 0))
  | z3 {t k} (h : k < 8) : Run1 t ⟨17, k, 3⟩ (t ++ List.replicate (3 + k) 0)
  | z7 {t k} (h : k < 128) : Run1 t ⟨18, k, 7⟩ (t ++ List.replicate (11 + k) 0)
inductive Runs : List Nat → List Rn → List Nat → Prop
  | nil {t} : Runs t [] t
  | cons {t r t1 l t'} (h : Run1 t r t1) (k : Runs t1 l t') : Runs t (r :: l) t'
theorem Run1.len {t t' : List Nat} {r : Rn} (h : Run1 t r t') : t.length < t'.length ∧ r.sym < 19 ∧ r.bits ≤ 7 ∧ ∃ u, t' = t ++ u := by
  cases h <;> refine ⟨?_, ?_, ?_, _, rfl⟩ <;> simp <;> omega
theorem Runs.len {t t' : List Nat} {l : List Rn} (h : Runs t l t') : t.length + l.length ≤ t'.length ∧ ∃ u, t' = t ++ u := by
  induction h with
  | nil => exact ⟨by simp, [], by simp⟩
  | cons h _ ih =>
    obtain ⟨a, _, _, u, rfl⟩ := h.len
    obtain ⟨b, v, rfl⟩ := ih
    exact ⟨by simp at a b ⊢; omega, u ++ v, by simp⟩
theorem Runs.append {t t1 t2 : List Nat} {l m : List Rn} (h : Runs t l t1) (k : Runs t1 m t2) : Runs t (l ++ m) t2 := by
  induction h with
  | nil => exact k
  | cons h _ ih => exact .cons h (ih k)
theorem Runs.snoc {t t1 t2 : List Nat} {l : List Rn} {r : Rn} (h : Runs t l t1) (k : Run1 t1 r t2) : Runs t (l ++ [r]) t2 := h.append (.cons k .nil)
theorem Runs.le15 {t t' : List Nat} {l : List Rn} (h : Runs t l t') : (∀ x ∈ l, x.sym < 19 ∧ x.bits ≤ 7) := by
  induction h with
  | nil => simp
  | cons h _ ih =>
    intro x hx
    rcases List.mem_cons.1 hx with rfl | hx
    · exact ⟨h.len.2.1, h.len.2.2.1⟩
    · exact ih x hx
def rnBits (T : List Nat) (r : Rn) : List Nat := cd T r.sym ++ lsb r.val r.bits
def rnsBits (T : List Nat) (l : List Rn) : List Nat := l.flatMap (rnBits T)
theorem rnBits_le (T : List Nat) (r : Rn) : ∀ y ∈ rnBits T r, y ≤ 1 := by
  intro y hy
  rcases List.mem_append.1 hy with h | h
  · exact cd_le _ _ y h
  · exact lsb_le _ _ y h
theorem rnsBits_le (T : List Nat) (l : List Rn) : ∀ y ∈ rnsBits T l, y ≤ 1 := by
  intro y hy
  obtain ⟨r, _, h⟩ := List.mem_flatMap.1 hy
  exact rnBits_le T r y h

section
variable {bit : Nat → Nat} {q : Nat} {T X Y : List Nat} {s' : PS}
def LN (T t X Y : List Nat) : PS := lensNext T t X.length Y.length true [] [] false
theorem ln_mid {t : List Nat} (h : t.length < X.length + Y.length) : LN T t X Y = ⟨.lens T t X.length Y.length, 0, 0, true, [], [], false⟩ := by
  unfold LN lensNext
  rw [if_neg (by omega)]
theorem ln_end {t : List Nat} (h : t = X ++ Y) : LN T t X Y = LS X Y [] := by
  subst h
  unfold LN lensNext LS
  rw [if_pos (by simp)]
  simp
structure DynOk (T X Y : List Nat) : Prop where
  okT : LOk T
  okX : LOk X
  okY : LOk Y
  lx : 257 ≤ X.length ∧ X.length ≤ 286
  ly : 1 ≤ Y.length ∧ Y.length ≤ 30
theorem DynOk.lens2 {t t' : List Nat} {l : List Rn} (k : DynOk T X Y) (h : Runs t l (X ++ Y)) : Lens2 t X.length Y.length := by
  obtain ⟨a, b⟩ := k.lx
  obtain ⟨c, d⟩ := k.ly
  refine ⟨by omega, c, by omega, by omega, fun he => ?_⟩
  obtain ⟨_, u, hu⟩ := h.len
  have h2 := congrArg List.length hu
  simp only [List.length_append] at h2
  obtain rfl : u = [] := List.length_eq_zero_iff.1 (by omega)
  rw [List.append_nil] at hu
  rw [← hu]
  simpa using ⟨k.okX, k.okY⟩
theorem runs_cont (k : DynOk T X Y) {t L : List Nat} {l : List Rn} (h : Runs t l L) : L = X ++ Y → ∀ p : Nat, (∀ r ∈ l, Has T r.sym) → Bits bit p (rnsBits T l) → Cont bit (p + (rnsBits T l).length) (LS X Y []) q s' → Cont bit p (LN T t X Y) q s' := by
  induction h with
  | nil =>
    intro e p _ _ hc
    rw [ln_end e]
    exact hc
  | cons h1 ht ih =>
    rename_i t r t1 l t'
    intro e p hh hb hc
    have hlen := ht.len.1
    have h1l := h1.len.1
    have hL : t'.length = X.length + Y.length := by rw [e]; simp
    have hl2 := k.lens2 (t' := t') (e ▸ ht)
    simp only [rnsBits, List.flatMap_cons, List.length_append] at hb hc
    have hb1 := hb.left.left.cd
    have hb2 := hb.left.right
    rw [cd_len] at hb2
    have hcd : (rnBits T r).length = T.getD r.sym 0 + r.bits := by simp [rnBits, cd_len, lsb_len]
    have hx := k.lx
    have hy := k.ly
    rw [ln_mid (by omega)]
    have hnext := ih e (p + (rnBits T r).length) (fun y hy => hh y (by simp [hy])) hb.right (by rw [Nat.add_assoc]; exact hc)
    have hr := hh r (by simp)
    rw [hcd] at hnext
    cases h1 with
    | lit hv =>
      refine Cont.sym (L := T) rfl k.okT hr.1 rfl hr.2 rfl rfl rfl hb1 (.lens hv (by omega) hl2) ?_
      exact hnext
    | @rep kk hk h0 =>
      refine Cont.sym (L := T) rfl k.okT hr.1 rfl hr.2 rfl rfl rfl hb1 (.prev h0 (by omega)) ?_
      refine Cont.num rfl (by omega) rfl rfl rfl hb2.num hk (.rep (v := kk) (by omega) (by omega) ?_ hl2) ?_
      · simp only [List.length_append, List.length_replicate] at hlen; omega
      · rw [Nat.add_assoc]; exact hnext
    | @z3 kk hk =>
      refine Cont.sym (L := T) rfl k.okT hr.1 rfl hr.2 rfl rfl rfl hb1 .zero3 ?_
      refine Cont.num rfl (by omega) rfl rfl rfl hb2.num hk (.rep (v := kk) (by omega) (by omega) ?_ hl2) ?_
      · simp only [List.length_append, List.length_replicate] at hlen; omega
      · rw [Nat.add_assoc]; exact hnext
    | @z7 kk hk =>
      refine Cont.sym (L := T) rfl k.okT hr.1 rfl hr.2 rfl rfl rfl hb1 .zero7 ?_
      refine Cont.num rfl (by omega) rfl rfl rfl hb2.num hk (.rep (v := kk) (by omega) (by omega) ?_ hl2) ?_
      · simp only [List.length_append, List.length_replicate] at hlen; omega
      · rw [Nat.add_assoc]; exact hnext

/-! ### the third code -/
def tset (T : List Nat) : Nat → List Nat
  | 0 => List.replicate 19 0
  | i + 1 => (tset T i).set (ORD.getD i 0) (T.getD (ORD.getD i 0) 0)
theorem tset_len (T : List Nat) : ∀ i, (tset T i).length = 19
  | 0 => by simp [tset]
  | i + 1 => by rw [tset, List.length_set, tset_len T i]
theorem tset_get (T : List Nat) (j : Nat) : ∀ i, (tset T i).getD j 0 = T.getD j 0 ∨ ((tset T i).getD j 0 = 0 ∧ ∀ k, k < i → ORD.getD k 0 ≠ j)
  | 0 => by
    right
    refine ⟨?_, fun k hk => by omega⟩
    simp only [tset, List.getD, List.getElem?_replicate]
    split <;> rfl
  | i + 1 => by
    by_cases h : ORD.getD i 0 = j
    · left
      rw [tset, h]
      rcases Nat.lt_or_ge j 19 with h2 | h2
      · show (((tset T i).set j (T.getD j 0))[j]?).getD 0 = _
        rw [List.getElem?_set_self (by rw [tset_len]; exact h2)]
        rfl
      · have := ord_lt i; omega
    · have e : (tset T (i + 1)).getD j 0 = (tset T i).getD j 0 := by
        rw [tset]
        show (((tset T i).set (ORD.getD i 0) (T.getD (ORD.getD i 0) 0))[j]?).getD 0 = _
        rw [List.getElem?_set_ne h]
        rfl
      rw [e]
      rcases tset_get T j i with h1 | ⟨h1, h2⟩
      · exact .inl h1
      · refine .inr ⟨h1, fun k hk => ?_⟩
        by_cases hki : k = i
        · rw [hki]; exact h
        · exact h2 k (by omega)
theorem ord_all : ∀ j, j < 19 → ∃ k, k < 19 ∧ ORD.getD k 0 = j := by decide
theorem tset_all {n : Nat} (hT : T.length = 19) (hn : n ≤ 19) (hz : ∀ k, n ≤ k → k < 19 → T.getD (ORD.getD k 0) 0 = 0) : tset T n = T := by
  refine List.ext_getElem (by rw [tset_len, hT]) fun j h1 h2 => ?_
  rw [hT] at h2
  have e1 : (tset T n).getD j 0 = (tset T n)[j] := by simp [List.getD, List.getElem?_eq_getElem h1]
  have e2 : T.getD j 0 = T[j] := by simp [List.getD, List.getElem?_eq_getElem (show j < T.length by omega)]
  rw [← e1, ← e2]
  rcases tset_get T j n with h | ⟨h, h3⟩
  · exact h
  · obtain ⟨k, hk, rfl⟩ := ord_all j h2
    rw [h, hz k (by
      rcases Nat.lt_or_ge k n with h4 | h4
      · exact absurd rfl (h3 k h4)
      · exact h4) hk]
def thBits (T : List Nat) (i : Nat) : Nat → List Nat
  | 0 => []
  | d + 1 => lsb (T.getD (ORD.getD i 0) 0) 3 ++ thBits T (i + 1) d
theorem thBits_len (T : List Nat) : ∀ d i, (thBits T i d).length = 3 * d
  | 0, i => rfl
  | d + 1, i => by rw [thBits, List.length_append, lsb_len, thBits_len T d]; omega
theorem thBits_le (T : List Nat) : ∀ d i, ∀ y ∈ thBits T i d, y ≤ 1
  | 0, i => by simp [thBits]
  | d + 1, i => by
    intro y hy
    rcases List.mem_append.1 hy with h | h
    · exact lsb_le _ _ y h
    · exact thBits_le T d _ y h
theorem third_cont (k : DynOk T X Y) (hT : T.length = 19) (h7 : ∀ j, T.getD j 0 ≤ 7) {n : Nat} (hn : n ≤ 19) (hz : ∀ k, n ≤ k → k < 19 → T.getD (ORD.getD k 0) 0 = 0) : ∀ (d i p : Nat), i + d + 1 = n → Bits bit p (thBits T i (d + 1)) →
    Cont bit (p + 3 * (d + 1)) (LN T [] X Y) q s' → Cont bit p ⟨.third (tset T i) i n X.length Y.length, 0, 0, true, [], [], false⟩ q s' := by
  have hx := k.lx
  have hy := k.ly
  intro d
  induction d with
  | zero =>
    intro i p hi hb hc
    obtain rfl : n = i + 1 := by omega
    have hb1 := hb.left.num
    have e : (tset T i).set (ORD.getD i 0) (T.getD (ORD.getD i 0) 0) = T := tset_all hT hn hz
    have := h7 (ORD.getD i 0)
    refine Cont.num (n := 3) rfl (by omega) rfl rfl rfl hb1 (by omega) (.third1 hn (by omega) (by omega) (by rw [e]; exact k.okT)) ?_
    rw [e]
    rw [ln_mid (by simp; omega)] at hc
    exact hc
  | succ d ih =>
    intro i p hi hb hc
    have hb1 := hb.left.num
    have hb2 := hb.right
    rw [lsb_len] at hb2
    have := h7 (ORD.getD i 0)
    refine Cont.num (n := 3) rfl (by omega) rfl rfl rfl hb1 (by omega) (.third (by omega) hn (by omega) (by omega)) ?_
    refine ih (i + 1) (p + 3) (by omega) hb2 ?_
    rw [show p + 3 + 3 * (d + 1) = p + 3 * (d + 1 + 1) by omega]
    exact hc

/-- What Dynamic writes. -/
def dynHead (X Y T : List Nat) (n : Nat) (rs : List Rn) : List Nat := lsb 5 3 ++ (lsb (X.length - 257) 5 ++ (lsb (Y.length - 1) 5 ++ (lsb (n - 4) 4 ++ (thBits T 0 n ++ rnsBits T rs))))
def dynBits (X Y T A B : List Nat) (n : Nat) (rs : List Rn) (l : List It) : List Nat := dynHead X Y T n rs ++ (itsBits A B l ++ cd A 256)
theorem dynHead_le (X Y T : List Nat) (n : Nat) (rs : List Rn) : ∀ y ∈ dynHead X Y T n rs, y ≤ 1 := by
  intro y hy
  simp only [dynHead, List.mem_append] at hy
  rcases hy with h | h | h | h | h | h
  · exact lsb_le _ _ y h
  · exact lsb_le _ _ y h
  · exact lsb_le _ _ y h
  · exact lsb_le _ _ y h
  · exact thBits_le _ _ _ y h
  · exact rnsBits_le _ _ y h
theorem itBits_trim {kx ky : Nat} {x : It} (h : HasIt X Y x) : itBits (X ++ List.replicate kx 0) (Y ++ List.replicate ky 0) x = itBits X Y x := by
  unfold itBits
  unfold HasIt at h
  by_cases h0 : x.n = 0
  · rw [if_pos h0] at h
    rw [if_pos h0, if_pos h0, cd_trim h]
  · rw [if_neg h0] at h
    rw [if_neg h0, if_neg h0, cd_trim h.1, cd_trim h.2]
theorem itsBits_trim {kx ky : Nat} : ∀ {l : List It}, (∀ x ∈ l, HasIt X Y x) → itsBits (X ++ List.replicate kx 0) (Y ++ List.replicate ky 0) l = itsBits X Y l
  | [], _ => rfl
  | x :: l, h => by
    have := itsBits_trim (kx := kx) (ky := ky) (fun y hy => h y (List.mem_cons_of_mem x hy))
    unfold itsBits at this ⊢
    rw [List.flatMap_cons, List.flatMap_cons, this, itBits_trim (h x (by simp))]
theorem dyn_inflates {s : List UInt8} {l : List It} {A B : List Nat} {n : Nat} {rs : List Rn} (k : DynOk T X Y) (hT : T.length = 19) (h7 : ∀ j, T.getD j 0 ≤ 7) (hn : 4 ≤ n ∧ n ≤ 19) (hz : ∀ k, n ≤ k → k < 19 → T.getD (ORD.getD k 0) 0 = 0)
    (hA : Trims 257 A X) (hB : Trims 1 B Y) (hrs : Runs [] rs (X ++ Y)) (hh : ∀ r ∈ rs, Has T r.sym) (hl : Valids [] l s) (hs : s.length ≤ 65536) (hit : ∀ x ∈ l, HasIt A B x) (h256 : Has A 256) (hbits : (dynBits X Y T A B n rs l).length ≤ 4000000) :
    Inflates (packB (dynBits X Y T A B n rs l)) s := by
  obtain ⟨kx, rfl, _⟩ := hA.spec
  obtain ⟨ky, rfl, _⟩ := hB.spec
  have hit2 : ∀ x ∈ l, HasIt X Y x := fun x hx => by
    have := hit x hx
    unfold HasIt at this ⊢
    split
    · rename_i h0
      rw [if_pos h0] at this
      exact has_trim this
    · rename_i h0
      rw [if_neg h0] at this
      exact ⟨has_trim this.1, has_trim this.2⟩
  have h256' := has_trim h256
  have hx := k.lx
  have hy := k.ly
  have e : dynBits X Y T (X ++ List.replicate kx 0) (Y ++ List.replicate ky 0) n rs l = dynHead X Y T n rs ++ (itsBits X Y l ++ cd X 256) := by
    unfold dynBits
    rw [itsBits_trim hit2, cd_trim h256']
  rw [e] at hbits ⊢
  obtain ⟨W, hW⟩ : ∃ W, W = dynHead X Y T n rs ++ (itsBits X Y l ++ cd X 256) := ⟨_, rfl⟩
  have hle : ∀ x ∈ W, x ≤ 1 := by
    intro x hx
    rw [hW] at hx
    rcases List.mem_append.1 hx with h | h
    · exact dynHead_le _ _ _ _ _ x h
    · rcases List.mem_append.1 h with h | h
      · exact itsBits_le _ _ _ x h
      · exact cd_le _ _ x h
  have hb := bits_packB _ hle
  have hhl : (dynHead X Y T n rs).length = 17 + 3 * n + (rnsBits T rs).length := by
    simp only [dynHead, List.length_append, lsb_len, thBits_len]; omega
  have hlen : W.length = 17 + 3 * n + (rnsBits T rs).length + (itsBits X Y l).length + X.getD 256 0 := by
    rw [hW, List.length_append, hhl, List.length_append, cd_len]; omega
  rw [← hW] at hbits ⊢
  refine inflates_of hle (sk := false) ?_ (by intro h; rw [h] at hlen; simp only [List.length_nil] at hlen; omega)
  rw [hlen]
  rw [hlen] at hbits
  obtain ⟨bit, hbit⟩ : ∃ b, b = bitOf (packB W) := ⟨_, rfl⟩
  rw [← hbit] at hb ⊢
  rw [hW] at hb
  have hbH := hb.left
  have hbI := hb.right
  rw [hhl] at hbI
  unfold dynHead at hbH
  have b1 := hbH.left.num
  have hbH := hbH.right
  rw [lsb_len] at hbH
  have b2 := hbH.left.num
  have hbH := hbH.right
  rw [lsb_len] at hbH
  have b3 := hbH.left.num
  have hbH := hbH.right
  rw [lsb_len] at hbH
  have b4 := hbH.left.num
  have hbH := hbH.right
  rw [lsb_len] at hbH
  have b5 := hbH.left
  have b6 := hbH.right
  rw [thBits_len] at b6
  refine Cont.num (s := ps0) (n := 3) (v := 5) rfl (by omega) rfl rfl rfl b1 (by omega) .dyn ?_
  refine Cont.num (n := 5) (v := X.length - 257) rfl (by omega) rfl rfl rfl b2 (by omega) (.hlit (by omega)) ?_
  rw [show X.length - 257 + 257 = X.length by omega]
  refine Cont.num (n := 5) (v := Y.length - 1) rfl (by omega) rfl rfl rfl b3 (by omega) (.hdist (by omega)) ?_
  rw [show Y.length - 1 + 1 = Y.length by omega]
  refine Cont.num (n := 4) (v := n - 4) rfl (by omega) rfl rfl rfl b4 (by omega) (.hclen (by omega)) ?_
  rw [show n - 4 + 4 = n by omega]
  obtain ⟨d, rfl⟩ : ∃ d, n = d + 1 := ⟨n - 1, by omega⟩
  refine third_cont k hT h7 hn.2 hz d 0 _ (by omega) b5 ?_
  refine runs_cont k hrs rfl _ hh b6 ?_
  rw [Nat.zero_add] at hbI
  have e2 : 0 + 3 + 5 + 5 + 4 + 3 * (d + 1) + (rnsBits T rs).length = 17 + 3 * (d + 1) + (rnsBits T rs).length := by omega
  rw [e2]
  refine items_cont (o := []) k.okX k.okY hl _ hit2 hbI.left hs (by simp) (by omega) ?_
  exact stop_cont (o := s) (B := Y) k.okX h256' hbI.right
end
end Go.Proofs.YthmhcnnigepohaaGreatDoor.En

/- How long a dynamic block is: no program in sight. -/
namespace Go.Proofs.YthmhcnnigepohaaGreatDoor.En
open If
open Hf (zI lensN cost Serves chk)
set_option linter.unusedVariables false

/-- The literal code's symbol of an item. -/
def isym (x : It) : Nat := if x.n = 0 then x.c.toNat else lsym x.n
def freqL (l : List It) (i : Nat) : Nat := (if i = 256 then 1 else 0) + l.countP (fun x => isym x == i)
def freqD (l : List It) (i : Nat) : Nat := l.countP (fun x => x.n != 0 && dsym x.far == i)
def FL (l : List It) : List Int := (List.range 286).map (fun i => (freqL l i : Int))
def FD (l : List It) : List Int := (List.range 30).map (fun i => (freqD l i : Int))
def sumR (f : Nat → Nat) : Nat → Nat
  | 0 => 0
  | n + 1 => sumR f n + f n
theorem sumR_add (f g : Nat → Nat) : ∀ n, sumR (fun i => f i + g i) n = sumR f n + sumR g n
  | 0 => rfl
  | n + 1 => by simp only [sumR, sumR_add f g n]; omega
theorem sumR_congr {f g : Nat → Nat} : ∀ n, (∀ i, i < n → f i = g i) → sumR f n = sumR g n
  | 0, _ => rfl
  | n + 1, h => by rw [sumR, sumR, sumR_congr n (fun i hi => h i (by omega)), h n (by omega)]
theorem sumR_le {f g : Nat → Nat} : ∀ n, (∀ i, i < n → f i ≤ g i) → sumR f n ≤ sumR g n
  | 0, _ => Nat.le_refl _
  | n + 1, h => by
    have := sumR_le n (fun i hi => h i (by omega))
    have := h n (by omega)
    rw [sumR, sumR]; omega
theorem sumR_one (f : Nat → Nat) (k : Nat) : ∀ n, sumR (fun i => (if k = i then 1 else 0) * f i) n = if k < n then f k else 0
  | 0 => rfl
  | n + 1 => by
    rw [sumR, sumR_one f k n]
    by_cases h : k = n
    · subst h; simp
    · by_cases h2 : k < n
      · rw [if_pos h2, if_neg h, if_pos (by omega)]; omega
      · rw [if_neg h2, if_neg h, if_neg (by omega)]; omega
theorem sumR_mul (c : Nat) (f : Nat → Nat) : ∀ n, sumR (fun i => f i * c) n = sumR f n * c
  | 0 => by simp [sumR]
  | n + 1 => by rw [sumR, sumR, sumR_mul c f n, Nat.add_mul]
theorem sum_range (f : Nat → Nat) : ∀ n, ((List.range n).map (fun i => (f i : Int))).sum = (sumR f n : Int)
  | 0 => rfl
  | n + 1 => by rw [List.range_succ, List.map_append, List.sum_append, sum_range f n, sumR]; simp
def copies (l : List It) : Nat := l.countP (fun x => x.n != 0)
theorem copies_le (l : List It) : copies l ≤ l.length := List.countP_le_length

/-- The bits of items by the symbols' numbers. -/
theorem its_len (A B : List Nat) : ∀ l : List It, (∀ x ∈ l, isym x < 286) → (∀ x ∈ l, x.n ≠ 0 → lenK (lsym x.n) ≤ 5 ∧ dsym x.far < 30 ∧ dstK (dsym x.far) ≤ 13) →
    (itsBits A B l).length + A.getD 256 0 ≤ sumR (fun i => freqL l i * A.getD i 0) 286 + sumR (fun i => freqD l i * B.getD i 0) 30 + 18 * copies l
  | [], _, _ => by
    have e : sumR (fun i => freqL [] i * A.getD i 0) 286 = A.getD 256 0 := by
      have := sumR_one (fun i => A.getD i 0) 256 286
      rw [if_pos (by omega)] at this
      rw [← this]
      refine sumR_congr 286 fun i _ => ?_
      simp only [freqL, List.countP_nil, Nat.add_zero]
      congr 1
      by_cases h : i = 256
      · rw [if_pos h, if_pos h.symm]
      · rw [if_neg h, if_neg (fun e => h e.symm)]
    rw [e]
    simp only [itsBits, List.flatMap_nil, List.length_nil]
    omega
  | x :: l, h1, h2 => by
    have ih := its_len A B l (fun y hy => h1 y (by simp [hy])) (fun y hy => h2 y (by simp [hy]))
    have hs := h1 x (by simp)
    have e1 : sumR (fun i => freqL (x :: l) i * A.getD i 0) 286 = sumR (fun i => freqL l i * A.getD i 0) 286 + A.getD (isym x) 0 := by
      have h3 := sumR_one (fun i => A.getD i 0) (isym x) 286
      rw [if_pos hs] at h3
      rw [← h3, ← sumR_add]
      refine sumR_congr 286 fun i _ => ?_
      simp only [freqL, List.countP_cons, beq_iff_eq]
      rw [← Nat.add_mul]
      congr 1
      omega
    by_cases h0 : x.n = 0
    · have e2 : sumR (fun i => freqD (x :: l) i * B.getD i 0) 30 = sumR (fun i => freqD l i * B.getD i 0) 30 := by
        refine sumR_congr 30 fun i _ => ?_
        simp [freqD, h0]
      have e3 : copies (x :: l) = copies l := by simp [copies, h0]
      rw [e1, e2, e3]
      have e4 : (itsBits A B (x :: l)).length = A.getD (isym x) 0 + (itsBits A B l).length := by
        simp only [itsBits, List.flatMap_cons, List.length_append]
        congr 1
        unfold itBits isym
        rw [if_pos h0, if_pos h0, cd_len]
      omega
    · obtain ⟨k1, k2, k3⟩ := h2 x (by simp) h0
      have e2 : sumR (fun i => freqD (x :: l) i * B.getD i 0) 30 = sumR (fun i => freqD l i * B.getD i 0) 30 + B.getD (dsym x.far) 0 := by
        have h3 := sumR_one (fun i => B.getD i 0) (dsym x.far) 30
        rw [if_pos k2] at h3
        rw [← h3, ← sumR_add]
        refine sumR_congr 30 fun i _ => ?_
        simp only [freqD, List.countP_cons]
        rw [← Nat.add_mul]
        congr 1
        congr 1
        by_cases h : dsym x.far = i <;> simp [h, h0]
      have e3 : copies (x :: l) = copies l + 1 := by simp [copies, h0]
      rw [e1, e2, e3]
      have e4 : (itsBits A B (x :: l)).length = A.getD (isym x) 0 + lenK (lsym x.n) + B.getD (dsym x.far) 0 + dstK (dsym x.far) + (itsBits A B l).length := by
        simp only [itsBits, List.flatMap_cons, List.length_append]
        congr 1
        unfold itBits isym
        rw [if_neg h0, if_neg h0]
        simp only [List.length_append, cd_len, lsb_len]
        omega
      omega
theorem sum_freqL : ∀ l : List It, (∀ x ∈ l, isym x < 286) → sumR (freqL l) 286 = l.length + 1
  | [], _ => by
    have := sumR_one (fun _ => 1) 256 286
    rw [if_pos (by omega)] at this
    rw [List.length_nil, Nat.zero_add, ← this]
    refine sumR_congr 286 fun i _ => ?_
    simp only [freqL, List.countP_nil, Nat.add_zero, Nat.mul_one]
    by_cases h : i = 256
    · rw [if_pos h, if_pos h.symm]
    · rw [if_neg h, if_neg (fun e => h e.symm)]
  | x :: l, h => by
    have ih := sum_freqL l (fun y hy => h y (by simp [hy]))
    have h3 := sumR_one (fun _ => 1) (isym x) 286
    rw [if_pos (h x (by simp))] at h3
    rw [List.length_cons, ← ih]
    have : sumR (freqL (x :: l)) 286 = sumR (freqL l) 286 + sumR (fun i => (if isym x = i then 1 else 0) * 1) 286 := by
      rw [← sumR_add]
      refine sumR_congr 286 fun i _ => ?_
      simp only [freqL, List.countP_cons, beq_iff_eq]
      omega
    rw [this, h3]
theorem sum_freqD : ∀ l : List It, (∀ x ∈ l, x.n ≠ 0 → dsym x.far < 30) → sumR (freqD l) 30 = copies l
  | [], _ => by
    have : ∀ n, sumR (freqD []) n = 0 := by
      intro n
      induction n with
      | zero => rfl
      | succ n ih => rw [sumR, ih]; rfl
    exact this 30
  | x :: l, h => by
    have ih := sum_freqD l (fun y hy => h y (by simp [hy]))
    by_cases h0 : x.n = 0
    · rw [show copies (x :: l) = copies l by simp [copies, h0], ← ih]
      refine sumR_congr 30 fun i _ => ?_
      simp [freqD, h0]
    · have h3 := sumR_one (fun _ => 1) (dsym x.far) 30
      rw [if_pos (h x (by simp) h0)] at h3
      rw [show copies (x :: l) = copies l + 1 by simp [copies, h0], ← ih]
      have : sumR (freqD (x :: l)) 30 = sumR (freqD l) 30 + sumR (fun i => (if dsym x.far = i then 1 else 0) * 1) 30 := by
        rw [← sumR_add]
        refine sumR_congr 30 fun i _ => ?_
        simp only [freqD, List.countP_cons, Nat.mul_one]
        congr 1
        by_cases h : dsym x.far = i <;> simp [h, h0]
      rw [this, h3]
theorem freqL_le (l : List It) (i : Nat) : freqL l i ≤ l.length + 1 := by
  unfold freqL
  have : l.countP (fun x => isym x == i) ≤ l.length := List.countP_le_length
  split <;> omega
theorem freqD_le (l : List It) (i : Nat) : freqD l i ≤ l.length := List.countP_le_length

theorem range_getD (f : Nat → Int) (n i : Nat) (hi : i < n) : ((List.range n).map f).getD i 0 = f i := by
  simp [List.getD, hi]
theorem cost_freq (f : Nat → Nat) (n : Nat) (L : List Nat) (hL : L.length = n) (h15 : ∀ i, i < L.length → L.getD i 0 ≤ 15) (hf : ∀ i, f i ≤ 1048576) : cost ((List.range n).map (fun i => (f i : Int))) (zI L) = (sumR (fun i => f i * L.getD i 0) n : Int) := by
  rw [Hf.cost_sum _ _ (by simp [hL]) h15, ← sum_range]
  simp only [List.length_map, List.length_range]
  congr 1
  refine List.map_congr_left fun i hi => ?_
  have hi := List.mem_range.1 hi
  unfold Hf.phi
  rw [range_getD _ _ _ hi]
  have := hf i
  rw [show min (max (f i : Int) 0) 1048576 = (f i : Int) by omega]
  simp
def L89 : List Nat := (List.range 286).map (fun i => if i < 226 then 8 else 9)
def L5 : List Nat := List.replicate 30 5
theorem l89 : Hf.kr L89 ≤ 2 ^ 15 ∧ (∀ i, i < 286 → 0 < L89.getD i 0 ∧ L89.getD i 0 ≤ 9) := by decide +kernel
theorem l5 : Hf.kr L5 ≤ 2 ^ 15 ∧ (∀ i, i < 30 → L5.getD i 0 = 5) := by decide +kernel
theorem costs {l : List It} (h1 : ∀ x ∈ l, isym x < 286) (h2 : ∀ x ∈ l, x.n ≠ 0 → lenK (lsym x.n) ≤ 5 ∧ dsym x.far < 30 ∧ dstK (dsym x.far) ≤ 13) (hl : l.length ≤ 100000) :
    (itsBits (lensN (FL l) 15) (lensN (FD l) 15) l).length + (lensN (FL l) 15).getD 256 0 ≤ 9 * (l.length + 1) + 23 * copies l := by
  have hA := its_len (lensN (FL l) 15) (lensN (FD l) 15) l h1 h2
  have hFL : (FL l).length = 286 := by simp [FL]
  have hFD : (FD l).length = 30 := by simp [FD]
  have sA : Serves (FL l) L89 15 := ⟨by simp [L89, FL], fun i hi => by have := l89.2 i (by simpa [L89] using hi); omega, fun i hi _ => (l89.2 i (by rw [hFL] at hi; exact hi)).1, l89.1⟩
  have sB : Serves (FD l) L5 15 := ⟨by simp [L5, FD], fun i hi => by have := l5.2 i (by simpa [L5] using hi); omega, fun i hi _ => by have := l5.2 i (by rw [hFD] at hi; exact hi); omega, l5.1⟩
  have oA := Hf.optimal sA (by omega) (by omega)
  have oB := Hf.optimal sB (by omega) (by omega)
  have cA := sA.card (by omega)
  have cB := sB.card (by omega)
  have q1 := cost_freq (freqL l) 286 (lensN (FL l) 15) (by rw [Hf.lensN_len, hFL]) (fun i hi => by rw [Hf.lensN_len] at hi; have := Hf.lensN_le (FL l) 15 (by omega) cA i hi; omega) (fun i => by have := freqL_le l i; omega)
  have q2 := cost_freq (freqD l) 30 (lensN (FD l) 15) (by rw [Hf.lensN_len, hFD]) (fun i hi => by rw [Hf.lensN_len] at hi; have := Hf.lensN_le (FD l) 15 (by omega) cB i hi; omega) (fun i => by have := freqD_le l i; omega)
  have q3 := cost_freq (freqL l) 286 L89 (by simp [L89]) (fun i hi => by have := l89.2 i (by simpa [L89] using hi); omega) (fun i => by have := freqL_le l i; omega)
  have q4 := cost_freq (freqD l) 30 L5 (by simp [L5]) (fun i hi => by have := l5.2 i (by simpa [L5] using hi); omega) (fun i => by have := freqD_le l i; omega)
  have r3 : sumR (fun i => freqL l i * L89.getD i 0) 286 ≤ sumR (fun i => freqL l i * 9) 286 := sumR_le 286 fun i hi => Nat.mul_le_mul_left _ (l89.2 i hi).2
  have r4 : sumR (fun i => freqD l i * L5.getD i 0) 30 = sumR (fun i => freqD l i * 5) 30 := sumR_congr 30 fun i hi => by rw [l5.2 i hi]
  rw [sumR_mul, sum_freqL l h1] at r3
  rw [sumR_mul, sum_freqD l (fun x hx h0 => (h2 x hx h0).2.1)] at r4
  change cost (FL l) _ = _ at q1 q3
  change cost (FD l) _ = _ at q2 q4
  rw [q1, q3] at oA
  rw [q2, q4] at oB
  omega
theorem valids_syms {o o' : List UInt8} {l : List It} (h : Valids o l o') : (∀ x ∈ l, isym x < 286) ∧ (∀ x ∈ l, x.n ≠ 0 → lenK (lsym x.n) ≤ 5 ∧ dsym x.far < 30 ∧ dstK (dsym x.far) ≤ 13) ∧ o.length + l.length + 2 * copies l ≤ o'.length := by
  induction h with
  | nil => simp [copies]
  | cons hx _ ih =>
    obtain ⟨a, b, c⟩ := ih
    rw [grow_len] at c
    rename_i o x l o' _
    by_cases h0 : x.n = 0
    · refine ⟨fun y hy => ?_, fun y hy hn => ?_, ?_⟩
      · rcases List.mem_cons.1 hy with rfl | hy
        · unfold isym; rw [if_pos h0]; have := UInt8.toNat_lt y.c; omega
        · exact a y hy
      · rcases List.mem_cons.1 hy with rfl | hy
        · exact absurd h0 hn
        · exact b y hy hn
      · rw [if_pos h0] at c
        rw [show copies (x :: l) = copies l by simp [copies, h0], List.length_cons]
        omega
    · rcases hx with hv | ⟨v1, v2, v3, v4, v5⟩
      · exact absurd hv h0
      obtain ⟨l1, l2, l3, l4, l5⟩ := lsym_all x.n (by omega) v1
      obtain ⟨d1, d2, d3, d4⟩ := dsym_all x.far v3 v4
      refine ⟨fun y hy => ?_, fun y hy hn => ?_, ?_⟩
      · rcases List.mem_cons.1 hy with rfl | hy
        · unfold isym; rw [if_neg h0]; omega
        · exact a y hy
      · rcases List.mem_cons.1 hy with rfl | hy
        · exact ⟨l5, by omega, d4⟩
        · exact b y hy hn
      · rw [if_neg h0] at c
        rw [show copies (x :: l) = copies l + 1 by simp [copies, h0], List.length_cons]
        omega
theorem freqL_pos {l : List It} {x : It} (h : x ∈ l) : 0 < freqL l (isym x) := by
  unfold freqL
  have : 0 < l.countP (fun y => isym y == isym x) := List.countP_pos_iff.2 ⟨x, h, by simp⟩
  omega
theorem freqD_pos {l : List It} {x : It} (h : x ∈ l) (h0 : x.n ≠ 0) : 0 < freqD l (dsym x.far) := List.countP_pos_iff.2 ⟨x, h, by simp [h0]⟩
/-- The codes that Dynamic makes: all that occurs has a code; they are complete; how long the items become. -/
theorem dyn_codes {s : List UInt8} {l : List It} (h : Valids [] l s) (hs : s.length ≤ 65536) :
    (∀ x ∈ l, HasIt (lensN (FL l) 15) (lensN (FD l) 15) x) ∧ Has (lensN (FL l) 15) 256 ∧ chk (zI (lensN (FL l) 15)) = 0 ∧ chk (zI (lensN (FD l) 15)) = 0 ∧
      (itsBits (lensN (FL l) 15) (lensN (FD l) 15) l).length + (lensN (FL l) 15).getD 256 0 ≤ 11 * s.length + 9 := by
  obtain ⟨h1, h2, h3⟩ := valids_syms h
  simp only [List.length_nil] at h3
  have hFL : (FL l).length = 286 := by simp [FL]
  have hFD : (FD l).length = 30 := by simp [FD]
  have cA : (Hf.leavesAt (FL l) 0).length ≤ 2 ^ 15 := by have := Hf.leaves_len_le (FL l) 0; omega
  have cB : (Hf.leavesAt (FD l) 0).length ≤ 2 ^ 15 := by have := Hf.leaves_len_le (FD l) 0; omega
  have pA : ∀ i, i < 286 → 0 < freqL l i → Has (lensN (FL l) 15) i := fun i hi h => ⟨by rw [Hf.lensN_len, hFL]; exact hi, (Hf.lensN_pos (FL l) 15 (by omega) cA i (by omega)).2 (by unfold FL; rw [range_getD _ _ _ hi]; omega)⟩
  have pB : ∀ i, i < 30 → 0 < freqD l i → Has (lensN (FD l) 15) i := fun i hi h => ⟨by rw [Hf.lensN_len, hFD]; exact hi, (Hf.lensN_pos (FD l) 15 (by omega) cB i (by omega)).2 (by unfold FD; rw [range_getD _ _ _ hi]; omega)⟩
  refine ⟨fun x hx => ?_, pA 256 (by omega) (by simp only [freqL, if_pos]; omega), Hf.chk_lensN _ 15 (by omega) (by omega) (by omega) cA, Hf.chk_lensN _ 15 (by omega) (by omega) (by omega) cB, ?_⟩
  · have ha := pA _ (h1 x hx) (freqL_pos hx)
    unfold HasIt
    unfold isym at ha
    by_cases h0 : x.n = 0
    · rw [if_pos h0] at ha ⊢; exact ha
    · rw [if_neg h0] at ha ⊢
      exact ⟨ha, pB _ (h2 x hx h0).2.1 (freqD_pos hx h0)⟩
  · have := costs h1 h2 (by omega)
    have := copies_le l
    omega
theorem rns_len {T : List Nat} (h7 : ∀ j, T.getD j 0 ≤ 7) : ∀ {l : List Rn}, (∀ r ∈ l, r.sym < 19 ∧ r.bits ≤ 7) → (rnsBits T l).length ≤ 14 * l.length
  | [], _ => by simp [rnsBits]
  | r :: l, h => by
    have ih := rns_len h7 (l := l) (fun y hy => h y (by simp [hy]))
    have := (h r (by simp)).2
    have := h7 r.sym
    simp only [rnsBits, List.flatMap_cons, List.length_append, List.length_cons] at ih ⊢
    simp only [rnBits, List.length_append, cd_len, lsb_len]
    omega
theorem dyn_size {T X Y A B : List Nat} {n : Nat} {rs : List Rn} {l : List It} {s : Nat} (h7 : ∀ j, T.getD j 0 ≤ 7) (hX : X.length ≤ 286) (hY : Y.length ≤ 30) (hn : n ≤ 19) (hrs : Runs [] rs (X ++ Y)) (hi : (itsBits A B l).length + A.getD 256 0 ≤ 11 * s + 9) (hs : s ≤ 65536) :
    (dynBits X Y T A B n rs l).length ≤ 4000000 ∧ (packB (dynBits X Y T A B n rs l)).length ≤ 11 * s / 8 + 565 := by
  have h1 := rns_len h7 hrs.le15
  have h2 := hrs.len.1
  simp only [List.length_append, List.length_nil] at h2
  have hlen : (dynBits X Y T A B n rs l).length ≤ 17 + 3 * n + 14 * 316 + (11 * s + 9) := by
    simp only [dynBits, dynHead, List.length_append, lsb_len, thBits_len, cd_len]; omega
  refine ⟨by omega, ?_⟩
  rw [packB_len]
  unfold nb
  omega
end Go.Proofs.YthmhcnnigepohaaGreatDoor.En

/- What Dynamic counts: plain. -/
namespace Go.Proofs.YthmhcnnigepohaaGreatDoor.En
open If
open Hf (zI lensN chk)
set_option linter.unusedVariables false

theorem freqL_snoc (l : List It) (x : It) (i : Nat) : freqL (l ++ [x]) i = freqL l i + if isym x = i then 1 else 0 := by
  unfold freqL
  rw [List.countP_append]
  by_cases h : isym x = i <;> simp [h] <;> omega
theorem freqD_snoc (l : List It) (x : It) (i : Nat) : freqD (l ++ [x]) i = freqD l i + if x.n ≠ 0 ∧ dsym x.far = i then 1 else 0 := by
  unfold freqD
  rw [List.countP_append]
  by_cases h0 : x.n = 0
  · simp [h0]
  · by_cases h : dsym x.far = i <;> simp [h, h0]
def freqR (l : List Rn) (i : Nat) : Nat := l.countP (fun r => r.sym == i)
theorem freqR_snoc (l : List Rn) (x : Rn) (i : Nat) : freqR (l ++ [x]) i = freqR l i + if x.sym = i then 1 else 0 := by
  unfold freqR
  rw [List.countP_append]
  by_cases h : x.sym = i <;> simp [h]
theorem freqR_le (l : List Rn) (i : Nat) : freqR l i ≤ l.length := List.countP_le_length
def FR (l : List Rn) : List Int := (List.range 19).map (fun i => (freqR l i : Int))
theorem third_facts {t X : List Nat} {rs : List Rn} (h : Runs t rs X) : LOk (lensN (FR rs) 7) ∧ (lensN (FR rs) 7).length = 19 ∧ (∀ j, (lensN (FR rs) 7).getD j 0 ≤ 7) ∧ (∀ r ∈ rs, Has (lensN (FR rs) 7) r.sym) := by
  have hFR : (FR rs).length = 19 := by simp [FR]
  have cA : (Hf.leavesAt (FR rs) 0).length ≤ 2 ^ 7 := by have := Hf.leaves_len_le (FR rs) 0; omega
  have hl := Hf.lensN_len (FR rs) 7
  refine ⟨lok_of (Hf.chk_lensN _ 7 (by omega) (by omega) (by omega) cA), by rw [hl, hFR], fun j => ?_, fun r hr => ?_⟩
  · rcases Nat.lt_or_ge j 19 with hj | hj
    · exact Hf.lensN_le (FR rs) 7 (by omega) cA j (by omega)
    · simp [List.getD, List.getElem?_eq_none (show (lensN (FR rs) 7).length ≤ j by omega)]
  · have h19 := (h.le15 r hr).1
    refine ⟨by omega, (Hf.lensN_pos (FR rs) 7 (by omega) cA r.sym (by omega)).2 ?_⟩
    unfold FR
    rw [range_getD _ _ _ h19]
    have : 0 < freqR rs r.sym := List.countP_pos_iff.2 ⟨r, hr, by simp⟩
    omega
theorem lensOf_FL (l : List It) : Hf.lensOf (FL l) 15 = zI (lensN (FL l) 15) := by
  have hFL : (FL l).length = 286 := by simp [FL]
  exact Hf.lensOf_eq (FL l) 15 (by omega) (by have := Hf.leaves_len_le (FL l) 0; have e : (Hf.lim 15 1 15).toNat = 15 := rfl; rw [e]; omega)
theorem lensOf_FD (l : List It) : Hf.lensOf (FD l) 15 = zI (lensN (FD l) 15) := by
  have hFL : (FD l).length = 30 := by simp [FD]
  exact Hf.lensOf_eq (FD l) 15 (by omega) (by have := Hf.leaves_len_le (FD l) 0; have e : (Hf.lim 15 1 15).toNat = 15 := rfl; rw [e]; omega)
theorem lensOf_FR (l : List Rn) : Hf.lensOf (FR l) 7 = zI (lensN (FR l) 7) := by
  have hFL : (FR l).length = 19 := by simp [FR]
  exact Hf.lensOf_eq (FR l) 7 (by omega) (by have := Hf.leaves_len_le (FR l) 0; have e : (Hf.lim 7 1 15).toNat = 7 := rfl; rw [e]; omega)
/-- All that a dynamic block asks. -/
theorem dyn_all {s : List UInt8} {l : List It} {X Y : List Nat} {rs : List Rn} {n : Nat} (hl : Valids [] l s) (hs : s.length ≤ 65536) (hX : Trims 257 (lensN (FL l) 15) X) (hY : Trims 1 (lensN (FD l) 15) Y) (hrs : Runs [] rs (X ++ Y)) (hn : 4 ≤ n ∧ n ≤ 19)
    (hz : ∀ k, n ≤ k → k < 19 → (lensN (FR rs) 7).getD (ORD.getD k 0) 0 = 0) :
    Inflates (packB (dynBits X Y (lensN (FR rs) 7) (lensN (FL l) 15) (lensN (FD l) 15) n rs l)) s ∧ (packB (dynBits X Y (lensN (FR rs) 7) (lensN (FL l) 15) (lensN (FD l) 15) n rs l)).length ≤ 11 * s.length / 8 + 565 := by
  obtain ⟨c1, c2, c3, c4, c5⟩ := dyn_codes hl hs
  obtain ⟨t1, t2, t3, t4⟩ := third_facts hrs
  have lA : (lensN (FL l) 15).length = 286 := by rw [Hf.lensN_len]; simp [FL]
  have lB : (lensN (FD l) 15).length = 30 := by rw [Hf.lensN_len]; simp [FD]
  obtain ⟨kx, ex, bx⟩ := hX.spec
  obtain ⟨ky, ey, by_⟩ := hY.spec
  have lx := congrArg List.length ex
  have ly := congrArg List.length ey
  rw [List.length_append, List.length_replicate] at lx ly
  have bx := bx (by omega)
  have by_ := by_ (by omega)
  have ok : DynOk (lensN (FR rs) 7) X Y := ⟨t1, lok_of (chk_trim kx X (by rw [← ex]; exact c3)), lok_of (chk_trim ky Y (by rw [← ey]; exact c4)), by omega, by omega⟩
  obtain ⟨z1, z2⟩ := dyn_size (A := lensN (FL l) 15) (B := lensN (FD l) 15) (n := n) (rs := rs) (l := l) (X := X) (Y := Y) t3 (by omega) (by omega) hn.2 hrs c5 hs
  exact ⟨dyn_inflates ok t2 t3 hn hz hX hY hrs t4 hl hs c1 c2 z1, z2⟩
end Go.Proofs.YthmhcnnigepohaaGreatDoor.En

/- inflate.Decoder: its state while others write elsewhere; which blocks it owns. -/
namespace Go.Proofs.YthmhcnnigepohaaGreatDoor.If
open Go.RowKit
open Dg (BAt bcells)
set_option linter.unusedVariables false

section
variable {w w' : World} {G S F0 F : List Nat}
theorem Box.fo {v x : Value} {t : TypeId} (h : @Box ⟨F0⟩ w G v t x) (hf : Fr S w w') (hS : ∀ b ∈ S, b < w.heap.size → b ∈ F0) (hF : ∀ b ∈ F, b < w.heap.size → b ∈ F0) : @Box ⟨F⟩ w' G v t x := by
  obtain ⟨b, h1, h2, h3⟩ := h
  have hl := lt_of_blk h3
  exact ⟨b, h1, ⟨h2.1, fun hm => h2.2 (hF b hm hl)⟩, (hf.block b hl (fun hm => h2.2 (hS b hm hl))).trans h3⟩
theorem Dec.fo {v : Value} {L : List Nat} {n c : Nat} (h : @Dec ⟨F0⟩ w G v L n c) (hf : Fr S w w') (hS : ∀ b ∈ S, b < w.heap.size → b ∈ F0) (hSG : ∀ b ∈ G, b ∉ S) (hF : ∀ b ∈ F, b < w.heap.size → b ∈ F0) : @Dec ⟨F⟩ w' G v L n c := by
  obtain ⟨D, g, sv, h1, h2, h3, h4, h5⟩ := h
  have hl : ∀ b, g = some b → b < w.heap.size := fun b hb => by
    obtain ⟨cur, hc⟩ := SlAt.lt h5 b hb
    exact lt_of_blk hc
  exact ⟨D, g, sv, h1, h2, fun b hb => ⟨(h3 b hb).1, fun hm => (h3 b hb).2 (hF b hm (hl b hb))⟩, h4.fr hf (hSG D h2), SlAt.fr h5 hf (fun b hb hm => (h3 b hb).2 (hS b hm (hl b hb)))⟩
theorem KR.fo {D : Nat} {d : DV} {q c : Nat} {K : Ctl} (h : @KR ⟨F0⟩ w D G d q c K) (hf : Fr S w w') (hS : ∀ b ∈ S, b < w.heap.size → b ∈ F0) (hSG : ∀ b ∈ G, b ∉ S) (hF : ∀ b ∈ F, b < w.heap.size → b ∈ F0) : @KR ⟨F⟩ w' D G d q c K := by
  have B : ∀ {v : Value} {t : TypeId} {x : Value}, @Box ⟨F0⟩ w G v t x → @Box ⟨F⟩ w' G v t x := fun h => h.fo hf hS hF
  have C : ∀ {v : Value} {L : List Nat} {n c : Nat}, @Dec ⟨F0⟩ w G v L n c → @Dec ⟨F⟩ w' G v L n c := fun h => h.fo hf hS hSG hF
  have N : ∀ {v : Value} {g : Option Nat} {l : List Nat}, Hf.NAt w v g l → (∀ x, g = some x → x ∈ G) → Hf.NAt w' v g l := fun h hg => SlAt.fr h hf (fun b hb => hSG b (hg b hb))
  cases K with
  | blk => obtain ⟨h1, p, h2, h3⟩ := h; exact ⟨h1, p, h2, B h3⟩
  | slen => obtain ⟨h1, p, h2, h3⟩ := h; exact ⟨h1, p, h2, B h3⟩
  | schk => obtain ⟨h1, p, pn, h2, h3, h4⟩ := h; exact ⟨h1, p, pn, h2, B h3, B h4⟩
  | raw => obtain ⟨h1, p, pn, h2, h3, h4⟩ := h; exact ⟨h1, p, pn, h2, B h3, B h4⟩
  | hlit => obtain ⟨h1, p, h2, h3⟩ := h; exact ⟨h1, p, h2, B h3⟩
  | hdist => obtain ⟨h1, p, pn, h2, h3, h4⟩ := h; exact ⟨h1, p, pn, h2, B h3, B h4⟩
  | hclen => obtain ⟨h1, p, pl, pn, h2, h3, h4, h5⟩ := h; exact ⟨h1, p, pl, pn, h2, B h3, B h4, B h5⟩
  | third =>
    obtain ⟨h1, p, pl, pi, pn, pa, pb, L, h2, h3, h4, h5, h6, h7, h8, h9, h10, h11⟩ := h
    exact ⟨h1, p, pl, pi, pn, pa, pb, L, h2, B h3, B h4, B h5, B h6, B h7, B h8, h9, h10, h11.fr hf (hSG L h9)⟩
  | lens =>
    obtain ⟨p, pc, pl, pa, pb, pr, vc, vl, gl, h2, h3, h4, h5, h6, h7, h8, h9, h10, h11, h12⟩ := h
    exact ⟨p, pc, pl, pa, pb, pr, vc, vl, gl, h2, h3, B h4, B h5, B h6, B h7, B h8, B h9, C h10, N h11 h12, h12⟩
  | rep =>
    obtain ⟨h1, p, pc, pl, pa, pb, pm, pv, vc, vl, gl, h2, h3, h4, h5, h6, h7, h8, h9, h10, h11, h12⟩ := h
    exact ⟨h1, p, pc, pl, pa, pb, pm, pv, vc, vl, gl, h2, B h3, B h4, B h5, B h6, B h7, B h8, B h9, C h10, N h11 h12, h12⟩
  | lit =>
    obtain ⟨p, pa, pb, va, vb, h2, h3, h4, h5, h6, h7, h8, h9⟩ := h
    exact ⟨p, pa, pb, va, vb, h2, h3, B h4, B h5, B h6, C h7, C h8, h9⟩
  | lenx =>
    obtain ⟨h1, p, pa, pb, pn, va, vb, h2, h3, h4, h5, h6, h7, h8, h9⟩ := h
    exact ⟨h1, p, pa, pb, pn, va, vb, h2, B h3, B h4, B h5, B h6, C h7, C h8, h9⟩
  | dist =>
    obtain ⟨p, pa, pb, pn, pm, va, vb, h2, h3, h4, h5, h6, h7, h8, h9, h10, h11⟩ := h
    exact ⟨p, pa, pb, pn, pm, va, vb, h2, h3, B h4, B h5, B h6, B h7, B h8, C h9, C h10, h11⟩
  | distx =>
    obtain ⟨h1, p, pa, pb, pn, pm, pf, va, vb, h2, h3, h4, h5, h6, h7, h8, h9, h10, h11⟩ := h
    exact ⟨h1, p, pa, pb, pn, pm, pf, va, vb, h2, B h3, B h4, B h5, B h6, B h7, B h8, C h9, C h10, h11⟩
  | fin => trivial
theorem Rep.fo {D : Nat} {inp : Int} {rest : ByteArray} {s : PS} (h : @Rep ⟨F0⟩ w D G inp rest s) (hf : Fr S w w') (hS : ∀ b ∈ S, b < w.heap.size → b ∈ F0) (hSG : ∀ b ∈ G, b ∉ S) (hF : ∀ b ∈ F, b < w.heap.size → b ∈ F0) (hF2 : ∀ b ∈ F, b < w'.heap.size) : @Rep ⟨F⟩ w' D G inp rest s := by
  obtain ⟨d, gp, gf, hc, hk⟩ := h
  obtain ⟨di, mem, inn, ⟨o1, o2, o3, o4, o5, o6⟩, last, done, skip, inp, rest⟩ := hc
  obtain ⟨inn, -⟩ := inn
  exact ⟨d, gp, gf, @Core.mk ⟨F⟩ w' D G d gp gf _ _ _ _ _ _ _ (di.fr hf (hSG D mem)) mem (@In.mk ⟨F⟩ w' G (fun b hb => Nat.lt_of_lt_of_le (inn b hb) hf.size) hF2) ⟨SlAt.fr o1 hf (fun b hb => hSG b (o3 b hb)), SlAt.fr o2 hf (fun b hb => hSG b (o4 b hb)), o3, o4, o5, o6⟩ last done skip inp rest, hk.fo hf hS hSG hF⟩
end

/-- The decoder's state; all that it has to do with lies in O. -/
def RepO (w : World) (D : Nat) (O : List Nat) (inp : Int) (rest : ByteArray) (s : PS) : Prop :=
  ∃ G, (∀ b ∈ G, b ∈ O) ∧ (∀ b ∈ O, b < w.heap.size) ∧ ∀ F, (∀ b ∈ F, b < w.heap.size ∧ b ∉ O) → @Rep ⟨F⟩ w D G inp rest s
theorem RepO.fr {w w' : World} {D : Nat} {O S : List Nat} {inp : Int} {rest : ByteArray} {s : PS} (h : RepO w D O inp rest s) (hf : Fr S w w') (hS : ∀ b ∈ O, b ∉ S) : RepO w' D O inp rest s := by
  obtain ⟨G, h1, h2, h3⟩ := h
  refine ⟨G, h1, fun b hb => Nat.lt_of_lt_of_le (h2 b hb) hf.size, fun F hF => ?_⟩
  have h4 := h3 ((F ++ S).filter (fun b => decide (b < w.heap.size))) (fun b hb => by
    rw [List.mem_filter, List.mem_append, decide_eq_true_eq] at hb
    refine ⟨hb.2, fun hm => ?_⟩
    rcases hb.1 with h | h
    · exact (hF b h).2 hm
    · exact hS b hm h)
  exact h4.fo hf (fun b hb hl => by rw [List.mem_filter, List.mem_append, decide_eq_true_eq]; exact ⟨.inr hb, hl⟩) (fun b hb => hS b (h1 b hb)) (fun b hb hl => by rw [List.mem_filter, List.mem_append, decide_eq_true_eq]; exact ⟨.inl hb, hl⟩) (fun b hb => (hF b hb).1)
theorem RepO.lt {w : World} {D : Nat} {O : List Nat} {inp : Int} {rest : ByteArray} {s : PS} (h : RepO w D O inp rest s) : ∀ b ∈ O, b < w.heap.size := h.choose_spec.2.1
theorem RepO.mem {w : World} {D : Nat} {O : List Nat} {inp : Int} {rest : ByteArray} {s : PS} (h : RepO w D O inp rest s) : D ∈ O := by
  obtain ⟨G, h1, h2, h3⟩ := h
  exact h1 D (@Rep.mem ⟨[]⟩ _ _ _ _ _ _ (h3 [] (by simp))).1
theorem RepO.di {w : World} {D : Nat} {O : List Nat} {inp : Int} {rest : ByteArray} {s : PS} (h : RepO w D O inp rest s) : ∃ d, DI w D d ∧ d.done = s.k.isFin ∧ d.rest = rest := by
  obtain ⟨G, h1, h2, h3⟩ := h
  obtain ⟨d, gp, gf, ⟨di, mem, inn, outs, last, done, skip, inp, rest⟩, hk⟩ := h3 [] (by simp)
  exact ⟨d, di, done, rest⟩
/-- The blocks made between two worlds. -/
def newB (w w' : World) : List Nat := List.range' w.heap.size (w'.heap.size - w.heap.size)
theorem mem_newB {w w' : World} {b : Nat} : b ∈ newB w w' ↔ w.heap.size ≤ b ∧ b < w'.heap.size := by
  unfold newB
  rw [List.mem_range'_1]
  omega
theorem RepO.close {w w' : World} {D : Nat} {G O : List Nat} {inp : Int} {rest : ByteArray} {s : PS} (h : @Rep ⟨(List.range w.heap.size).filter (fun b => decide (b ∉ O))⟩ w' D G inp rest s) (hO : ∀ b ∈ O, b < w.heap.size) (hs : w.heap.size ≤ w'.heap.size) (hG : ∀ b ∈ G, b ∈ O ∨ w.heap.size ≤ b) : RepO w' D (O ++ newB w w') inp rest s := by
  have hin : ∀ b ∈ G, b < w'.heap.size := by
    obtain ⟨d, gp, gf, ⟨di, mem, ⟨inn, -⟩, outs, last, done, skip, inp, rest⟩, hk⟩ := h
    exact inn
  refine ⟨G, fun b hb => ?_, fun b hb => ?_, fun F hF => ?_⟩
  · rw [List.mem_append, mem_newB]
    rcases hG b hb with h1 | h1
    · exact .inl h1
    · exact .inr ⟨h1, hin b hb⟩
  · rw [List.mem_append, mem_newB] at hb
    rcases hb with h1 | h1
    · exact Nat.lt_of_lt_of_le (hO b h1) hs
    · exact h1.2
  · refine h.fo (Fr.refl [] w') (by simp) (by simp) (fun b hb hl => ?_) (fun b hb => (hF b hb).1)
    have := (hF b hb).2
    rw [List.mem_append, mem_newB] at this
    rw [List.mem_filter, List.mem_range, decide_eq_true_eq]
    refine ⟨?_, fun hm => this (.inl hm)⟩
    apply Nat.lt_of_not_le
    intro hn
    exact this (.inr ⟨hn, hl⟩)

def FeedO (D : Nat) (O : List Nat) (inp' : Int) (l' : List UInt8) (s' : PS) (w : World) (e : Ending) (w' : World) : Prop :=
  e = .returned (.tuple #[.string ⟨s'.fresh.toArray⟩, .int .i64 0]) ∧ ∃ O' r, RepO w' D O' inp' r s' ∧ (s'.k.isFin = true → r = ⟨l'.toArray⟩) ∧ Grows w O O' ∧ Fr O w w'
theorem feedO (D : Nat) (O : List Nat) (inp inp' : Int) (rest p : ByteArray) (l' : List UInt8) (s s' : PS) (w : World) (h : RepO w D O inp rest s) (hk : s.k ≠ .fin) (hF : Feeds inp p.data.toList { s with fresh := [] } inp' l' s') (hi : 0 ≤ inp ∧ inp + p.size ≤ 1000000) (ho : Ost w) (h0 : 0 ∉ O) :
    Calls Tryz.prog 123 #[.pointer (some ⟨D, 0, none⟩), .string p] w (FeedO D O inp' l' s' w) := by
  obtain ⟨G, h1, h2, h3⟩ := h
  have h4 := h3 ((List.range w.heap.size).filter (fun b => decide (b ∉ O))) (fun b hb => by
    rw [List.mem_filter, List.mem_range, decide_eq_true_eq] at hb
    exact hb)
  refine (@feed123_any ⟨_⟩ D G inp inp' rest p l' s s' w h4 hk hF hi ho (fun hm => h0 (h1 0 hm))).mono ?_
  rintro e w' ⟨rfl, G', hr, hg, hf, -, -⟩
  refine ⟨rfl, O ++ newB w w', _, RepO.close hr h2 hf.size (fun b hb => (hg b hb).imp (h1 b) id), ?_, fun b hb => ?_, hf.mono (fun b hb _ => h1 b hb)⟩
  · intro h; rw [h]; rfl
  · rw [List.mem_append, mem_newB] at hb
    exact hb.imp id And.left
def NewO (w : World) (e : Ending) (w' : World) : Prop := ∃ D O, e = .returned (ptr D) ∧ RepO w' D O 0 ⟨#[]⟩ ps0 ∧ (∀ b ∈ O, w.heap.size ≤ b) ∧ Fr [] w w'
theorem newO (w : World) : Calls Tryz.prog 122 #[.agg #[.int .i64 65536, .int .i64 1100]] w (NewO w) := by
  refine (@new122_any ⟨(List.range w.heap.size).filter (fun b => decide (b ∉ ([] : List Nat)))⟩ w (fun b hb => by
    have hb : b ∈ (List.range w.heap.size).filter (fun b => decide (b ∉ ([] : List Nat))) := hb
    rw [List.mem_filter, List.mem_range] at hb
    exact hb.1)).mono ?_
  rintro e w' ⟨D, rfl, hD, hr, hf⟩
  refine ⟨D, [] ++ newB w w', rfl, RepO.close hr (by simp) hf.size (fun b hb => ?_), fun b hb => ?_, hf⟩
  · simp at hb; subst hb; exact .inr hD
  · rw [List.nil_append] at hb; exact (mem_newB.mp hb).1
end Go.Proofs.YthmhcnnigepohaaGreatDoor.If
