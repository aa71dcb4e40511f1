/- The plain law behind EscalateApart: two books agree on the subjects of one rule. -/
import Derived.Test.YtnghfmefjjkgdaaTwin
namespace Go.Proofs.Ytnghfmefjjkgdaa

theorem mget_mput {M : List (Sub × Ent)} {s k : Sub} {e : Ent} : mget (mput M k e) s = if k = s then some e else mget M s := by
  induction M with
  | nil => by_cases h : k = s <;> simp [mput, mget, h]
  | cons p M ih =>
    obtain ⟨x, v⟩ := p
    by_cases hx : x = k
    · subst hx
      have h1 : mput ((x, v) :: M) x e = (x, e) :: M.map (fun p => if p.1 = x then (x, e) else p) := by
        unfold mput
        simp
      rw [h1]
      by_cases h : x = s
      · subst h; simp [mget]
      · rw [if_neg h]
        have h2 : mget ((x, e) :: M.map (fun p => if p.1 = x then (x, e) else p)) s = mget (M.map (fun p => if p.1 = x then (x, e) else p)) s := by simp [mget, h]
        have h3 : mget ((x, v) :: M) s = mget M s := by simp [mget, h]
        rw [h2, h3]
        clear ih h1 h2 h3
        induction M with
        | nil => rfl
        | cons q M ih =>
          by_cases hq : q.1 = x
          · have hqs : ¬ q.1 = s := fun hh => h (hq.symm.trans hh)
            have e1 : mget ((q :: M).map (fun p => if p.1 = x then (x, e) else p)) s = mget (M.map (fun p => if p.1 = x then (x, e) else p)) s := by simp [mget, hq, h]
            have e2 : mget (q :: M) s = mget M s := by simp [mget, hqs]
            rw [e1, e2]; exact ih
          · by_cases hqs : q.1 = s
            · have hsx : ¬ s = x := fun hh => h hh.symm
              simp [mget, hqs, hsx]
            · have e1 : mget ((q :: M).map (fun p => if p.1 = x then (x, e) else p)) s = mget (M.map (fun p => if p.1 = x then (x, e) else p)) s := by simp [mget, hq, hqs]
              have e2 : mget (q :: M) s = mget M s := by simp [mget, hqs]
              rw [e1, e2]; exact ih
    · have h1 : mput ((x, v) :: M) k e = (x, v) :: mput M k e := by
        unfold mput
        simp only [List.any_cons, decide_eq_false hx, Bool.false_or, List.map_cons, if_neg hx]
        split <;> rfl
      rw [h1]
      by_cases hs : x = s
      · have hks : ¬ k = s := fun hh => hx (hs.trans hh.symm)
        rw [if_neg hks]
        simp [mget, hs]
      · have e1 : mget ((x, v) :: mput M k e) s = mget (mput M k e) s := by simp [mget, hs]
        have e2 : mget ((x, v) :: M) s = mget M s := by simp [mget, hs]
        rw [e1, e2]; exact ih

theorem mput_len (M : List (Sub × Ent)) (k : Sub) (e : Ent) : (mput M k e).length ≤ M.length + 1 := by
  unfold mput
  split <;> simp

/-- A book whose times are below k: nothing in it is stale, nothing is forgotten. -/
structure Young (k : Nat) (B : Bk) : Prop where
  q : B.q = 1000
  len : B.M.length ≤ k
  nw : B.bg = true → 0 ≤ B.nw ∧ B.nw < k
  last : ∀ p ∈ B.M, 0 ≤ p.2.last ∧ p.2.last < k

theorem Young.mono {k k' : Nat} {B : Bk} (h : Young k B) (hk : k ≤ k') : Young k' B :=
  ⟨h.q, by have := h.len; omega, fun hb => by have := h.nw hb; omega, fun p hp => by have := h.last p hp; omega⟩

theorem young0 : Young 0 (bk0 1000) := ⟨by decide, by simp [bk0], fun h => (by cases h), fun p hp => (by cases hp)⟩

theorem Young.later {k : Nat} {B : Bk} (h : Young k B) : later B.bg B.nw k = k := by
  unfold Go.Proofs.Ytnghfmefjjkgdaa.later
  rw [if_pos]
  cases hb : B.bg with
  | false => exact .inl rfl
  | true => exact .inr (h.nw hb).2

theorem fresh {k last : Int} (h : 0 ≤ last ∧ last < k) (hk : k ≤ 60) : stale 1000 k last = false := by
  have hg : age k last = k - last := by
    simp only [age, IntKind.wrap, IntKind.bits, IntKind.signed]
    simp
    omega
  unfold stale
  rw [hg, show IntKind.u64.wrap 1000 = 1000 by decide]
  simp
  omega

theorem Young.ent {k : Nat} {B : Bk} (h : Young k B) (hk : k ≤ 60) (s : Sub) : entOf B.q k B.M s = (mget B.M s).getD zEnt := by
  unfold entOf
  rw [h.q]
  cases hm : mget B.M s with
  | none => rfl
  | some e =>
    dsimp only
    have := h.last _ (mget_some hm)
    rw [fresh this (by omega)]
    rfl

/-- One step at time k. -/
theorem Young.step {k : Nat} {B B' : Bk} {s : Sub} {g : Int → Int} {n : Int} {nt : Bool} (h : Young k B) (hk : k ≤ 60) (hE : Enters B k s g n nt B') :
    Young (k + 1) B' ∧ n = g (if s.rule = true then ((mget B.M s).getD zEnt).count + 1 else ((mget B.M s).getD zEnt).count) ∧ nt = decide (((mget B.M s).getD zEnt).level < n) ∧
      ∀ x, mget B'.M x = if s = x then some (entBehind k B.cl ((mget B.M s).getD zEnt) s.rule n) else mget B.M x := by
  have hs := hE.short (by have := h.len; omega)
  simp only [stepM, h.later, h.ent hk, Prod.mk.injEq] at hs
  obtain ⟨h1, h2, h3⟩ := hs
  rw [← h1] at h2 h3
  refine ⟨⟨?_, ?_, ?_, ?_⟩, h1, h2, ?_⟩
  · rw [h3]; exact h.q
  · rw [h3]
    have := mput_len B.M s (entBehind k B.cl ((mget B.M s).getD zEnt) s.rule n)
    have := h.len
    dsimp only
    omega
  · rw [h3]; intro _; dsimp only; omega
  · rw [h3]
    intro p hp
    rcases mem_mput hp with h4 | rfl
    · have := h.last p h4; omega
    · simp only [entBehind]; omega
  · rw [h3]
    intro x
    exact mget_mput

/-- The two books agree on the subjects of rule sid. -/
def Agree (sid : Int) (B C : Bk) : Prop := ∀ s : Sub, s.rule = true → s.sid = sid → (mget B.M s).map (fun e => (e.count, e.level)) = (mget C.M s).map (fun e => (e.count, e.level))

theorem agree0 (sid : Int) : Agree sid (bk0 1000) (bk0 1000) := fun _ _ _ => rfl

/-- A step of another subject. -/
theorem Agree.other {sid : Int} {k : Nat} {B B' C : Bk} {s : Sub} {g : Int → Int} {n : Int} {nt : Bool} (h : Agree sid B C) (y : Young k B) (hk : k ≤ 60) (hE : Enters B k s g n nt B') (hs : ¬ (s.rule = true ∧ s.sid = sid)) : Agree sid B' C := by
  obtain ⟨_, _, _, h4⟩ := y.step hk hE
  intro x hx1 hx2
  rw [h4 x, if_neg]
  · exact h x hx1 hx2
  · rintro rfl; exact hs ⟨hx1, hx2⟩

/-- The same step of both. -/
theorem Agree.both {sid : Int} {k : Nat} {B B' C C' : Bk} {s : Sub} {g : Int → Int} {n m : Int} {nt mt : Bool} (h : Agree sid B C) (y : Young k B) (z : Young k C) (hk : k ≤ 60) (hE : Enters B k s g n nt B') (hF : Enters C k s g m mt C')
    (hr : s.rule = true) (hs : s.sid = sid) : n = m ∧ nt = mt ∧ Agree sid B' C' := by
  obtain ⟨_, h2, h3, h4⟩ := y.step hk hE
  obtain ⟨_, i2, i3, i4⟩ := z.step hk hF
  have hag := h s hr hs
  have hc : ((mget B.M s).getD zEnt).count = ((mget C.M s).getD zEnt).count ∧ ((mget B.M s).getD zEnt).level = ((mget C.M s).getD zEnt).level := by
    cases hb : mget B.M s with
    | none =>
      cases hcm : mget C.M s with
      | none => exact ⟨rfl, rfl⟩
      | some e => rw [hb, hcm] at hag; cases hag
    | some e =>
      cases hcm : mget C.M s with
      | none => rw [hb, hcm] at hag; cases hag
      | some f =>
        rw [hb, hcm] at hag
        simpa using hag
  have hnm : n = m := by rw [h2, i2, hc.1]
  refine ⟨hnm, by rw [h3, i3, hc.2, hnm], fun x hx1 hx2 => ?_⟩
  rw [h4 x, i4 x]
  by_cases hx : s = x
  · rw [if_pos hx, if_pos hx]
    simp only [entBehind, Option.map_some, hc.1, hc.2, hnm]
  · rw [if_neg hx, if_neg hx]; exact h x hx1 hx2
end Go.Proofs.Ytnghfmefjjkgdaa
