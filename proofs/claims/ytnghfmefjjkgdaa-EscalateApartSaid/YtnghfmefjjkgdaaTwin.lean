/- The plain law of layer 53: the program's book and the reference's go together. -/
import Derived.Test.YtnghfmefjjkgdaaRef
namespace Go.Proofs.Ytnghfmefjjkgdaa

def toRS (p : Sub × Ent) : RS := ⟨p.1, p.2.last, p.2.count, p.2.level⟩

structure Twin (B : Bk) (R : RBk) : Prop where
  q : R.q = B.q
  nw : R.nw = B.nw
  bg : R.bg = B.bg
  ord : ∃ A : List (Sub × Ent), A.Perm B.M ∧ A.Pairwise (fun a b => a.2.call < b.2.call) ∧ R.L = A.map toRS
  len : B.M.length ≤ 256
  empty : B.bg = false → B.M = []
  last : ∀ p ∈ B.M, p.2.last ≤ B.nw
  q1 : 1 ≤ B.q ∧ B.q ≤ 1099511627776

theorem twin0 (q : Int) : Twin (bk0 q) (rbk0 q) :=
  ⟨rfl, rfl, rfl, ⟨[], .nil, .nil, rfl⟩, by simp [bk0], fun _ => rfl, fun p hp => (by cases hp), by simp only [bk0]; omega⟩

theorem age_self (n : Int) : age n n = 0 := by simp [age, IntKind.wrap, IntKind.bits, IntKind.signed]

theorem live_stale {q now last : Int} (hq : 1 ≤ q ∧ q ≤ 1099511627776) (h : last ≤ now) : live q now last = !stale q now last := by
  have hw : IntKind.u64.wrap q = q := by simp only [IntKind.wrap, IntKind.bits, IntKind.signed]; simp; omega
  unfold live stale
  rw [hw]
  by_cases he : now ≤ last
  · have : now = last := by omega
    subst this
    rw [age_self]
    simp; omega
  · simp only [he, decide_false, Bool.false_or]
    by_cases h2 : age now last < q
    · rw [decide_eq_true h2, decide_eq_false (by omega)]; rfl
    · rw [decide_eq_false h2, decide_eq_true (by omega)]; rfl

theorem mget_mem {A : List (Sub × Ent)} (hn : (A.map (·.1)).Nodup) {s : Sub} {e : Ent} (h : (s, e) ∈ A) : mget A s = some e := by
  obtain ⟨j, hj⟩ := List.mem_iff_getElem?.1 h
  exact mget_of_at hn hj

theorem mget_perm {A M : List (Sub × Ent)} (hp : A.Perm M) (hn : (M.map (·.1)).Nodup) (s : Sub) : mget A s = mget M s := by
  have hna : (A.map (·.1)).Nodup := (hp.map _).nodup_iff.2 hn
  cases h : mget M s with
  | none =>
    cases h2 : mget A s with
    | none => rfl
    | some e =>
      have := mget_mem hn (hp.mem_iff.1 (mget_some h2))
      rw [h] at this
      cases this
  | some e => exact mget_mem hna (hp.mem_iff.2 (mget_some h))

theorem tk_skip (q now : Int) (s : Sub) : ∀ (A : List (Sub × Ent)) (p : Int × Int), (∀ x ∈ A, x.1 ≠ s) → tk q now s (A.map toRS) p = p
  | [], _, _ => rfl
  | a :: A, p, h => by
    have ha : (toRS a).s ≠ s := h a (by simp)
    simp only [List.map_cons, tk]
    rw [if_neg (fun hh => ha hh.1)]
    exact tk_skip q now s A p (fun x hx => h x (by simp [hx]))

theorem tk_get (q now : Int) (s : Sub) : ∀ (A : List (Sub × Ent)) (p : Int × Int), (A.map (·.1)).Nodup →
    tk q now s (A.map toRS) p = match mget A s with | some e => if live q now e.last = true then (e.count, e.level) else p | none => p
  | [], _, _ => rfl
  | (k, e) :: A, p, h => by
    rw [List.map_cons, List.nodup_cons] at h
    by_cases hk : k = s
    · subst hk
      have hg : mget ((k, e) :: A) k = some e := by simp [mget]
      rw [hg]
      simp only [List.map_cons, tk]
      rw [tk_skip q now k A _ (fun x hx hxs => h.1 (List.mem_map.2 ⟨x, hx, hxs⟩))]
      simp [toRS]
    · have hg : mget ((k, e) :: A) s = mget A s := by simp [mget, hk]
      rw [hg, ← tk_get q now s A p h.2]
      simp only [List.map_cons, tk]
      rw [if_neg]
      rintro ⟨h1, _⟩
      exact hk h1

theorem others_map (s : Sub) : ∀ (A : List (Sub × Ent)), others s (A.map toRS) = (mdel A s).map toRS
  | [] => rfl
  | a :: A => by
    have ih := others_map s A
    unfold others mdel at *
    by_cases h : a.1 = s
    · rw [List.map_cons, List.filter_cons_of_neg (by simp [toRS, h]), List.filter_cons_of_neg (by simp [h]), ih]
    · rw [List.map_cons, List.filter_cons_of_pos (by simp [toRS, h]), List.filter_cons_of_pos (by simp [h]), List.map_cons, ih]

theorem mdel_id {A : List (Sub × Ent)} {s : Sub} (h : ∀ x ∈ A, x.1 ≠ s) : mdel A s = A := by
  unfold mdel
  rw [List.filter_eq_self]
  intro a ha
  simpa using h a ha

theorem mget_none_iff {A : List (Sub × Ent)} {s : Sub} : mget A s = none ↔ ∀ x ∈ A, x.1 ≠ s := by
  constructor
  · intro h x hx hxs
    unfold mget at h
    rw [Option.map_eq_none_iff, List.find?_eq_none] at h
    exact h x hx (by simpa using hxs)
  · exact mget_none

theorem mdel_perm {A M : List (Sub × Ent)} (hp : A.Perm M) (s : Sub) : (mdel A s).Perm (mdel M s) := hp.filter _

theorem mput_new {M : List (Sub × Ent)} {s : Sub} {e : Ent} (h : ∀ x ∈ M, x.1 ≠ s) : mput M s e = M ++ [(s, e)] := by
  unfold mput
  rw [if_neg]
  simp only [List.any_eq_true, decide_eq_true_eq, not_exists, not_and]
  exact h

theorem mput_perm {s : Sub} {e : Ent} : ∀ {M : List (Sub × Ent)}, (M.map (·.1)).Nodup → (mput M s e).Perm (mdel M s ++ [(s, e)])
  | [], _ => by simp [mput, mdel]
  | (k, x) :: M, h => by
    rw [List.map_cons, List.nodup_cons] at h
    by_cases hk : k = s
    · subst hk
      have hns : ∀ y ∈ M, y.1 ≠ k := fun y hy hyk => h.1 (List.mem_map.2 ⟨y, hy, hyk⟩)
      have h1 : mput ((k, x) :: M) k e = (k, e) :: M := by
        unfold mput
        simp only [List.any_cons, decide_true, Bool.true_or, if_true, List.map_cons]
        congr 1
        conv => rhs; rw [← List.map_id M]
        apply List.map_congr_left
        intro y hy
        rw [if_neg (hns y hy)]; rfl
      have h2 : mdel ((k, x) :: M) k = M := by
        unfold mdel
        rw [List.filter_cons_of_neg (by simp)]
        exact mdel_id hns
      rw [h1, h2]
      exact (List.perm_append_singleton _ _).symm
    · have ih := mput_perm (s := s) (e := e) h.2
      have h1 : mput ((k, x) :: M) s e = (k, x) :: mput M s e := by
        unfold mput
        simp only [List.any_cons, decide_eq_false hk, Bool.false_or, List.map_cons, if_neg hk]
        split <;> rfl
      have h2 : mdel ((k, x) :: M) s = (k, x) :: mdel M s := by
        unfold mdel
        rw [List.filter_cons_of_pos (by simpa using hk)]
      rw [h1, h2]
      exact ih.cons _

theorem tk_ent {B : Bk} {R : RBk} (T : Twin B R) (hn : (B.M.map (·.1)).Nodup) (s : Sub) (nw : Int) (hnw : ∀ p ∈ B.M, p.2.last ≤ nw) :
    tk R.q nw s R.L (0, 0) = ((entOf B.q nw B.M s).count, (entOf B.q nw B.M s).level) := by
  obtain ⟨A, hp, _, hL⟩ := T.ord
  have hna : (A.map (·.1)).Nodup := (hp.map _).nodup_iff.2 hn
  rw [hL, tk_get _ _ _ _ _ hna, mget_perm hp hn s, T.q]
  unfold entOf
  cases h : mget B.M s with
  | none => rfl
  | some e =>
    have hl := hnw _ (mget_some h)
    dsimp only
    rw [live_stale T.q1 hl]
    cases stale B.q nw e.last <;> rfl

theorem twin_cnt {B : Bk} {R : RBk} (T : Twin B R) (ok : B.Ok) (hn : (B.M.map (·.1)).Nodup) (s : Sub) (nw : Int) : 0 ≤ (tk R.q nw s R.L (0, 0)).1 ∧ (tk R.q nw s R.L (0, 0)).1 ≤ 1000000 := by
  obtain ⟨A, hp, _, hL⟩ := T.ord
  have hna : (A.map (·.1)).Nodup := (hp.map _).nodup_iff.2 hn
  have hc := ok.cl
  rw [hL, tk_get _ _ _ _ _ hna, mget_perm hp hn s]
  cases h : mget B.M s with
  | none => simp
  | some e =>
    have := ok.ent _ (mget_some h)
    dsimp only
    dsimp only at this
    split
    · dsimp only; omega
    · simp

theorem later_le {B : Bk} {R : RBk} (T : Twin B R) (at_ : Int) : ∀ p ∈ B.M, p.2.last ≤ later B.bg B.nw at_ := by
  intro p hp
  have h := T.last p hp
  cases hb : B.bg with
  | false => rw [T.empty hb] at hp; cases hp
  | true =>
    unfold later
    split
    · rename_i h2
      rcases h2 with h2 | h2
      · cases h2
      · omega
    · exact h

theorem twin_step {B B' : Bk} {R : RBk} {at_ : Int} {s : Sub} {g : Int → Int} {n : Int} {nt : Bool} (T : Twin B R) (ok : B.Ok) (hn : (B.M.map (·.1)).Nodup) (h : Enters B at_ s g n nt B') :
    (stepR R at_ s g).1 = n ∧ (stepR R at_ s g).2.1 = nt ∧ Twin B' (stepR R at_ s g).2.2 := by
  obtain ⟨M1, hm, hn1, hnt, rfl⟩ := h
  have hnw : later R.bg R.nw at_ = later B.bg B.nw at_ := by rw [T.bg, T.nw]
  have htk := tk_ent T hn s _ (later_le T at_)
  have hlast := later_le T at_
  obtain ⟨nw', hnw'⟩ : ∃ x, x = later B.bg B.nw at_ := ⟨_, rfl⟩
  rw [← hnw'] at hnw htk hlast hn1 hnt ⊢
  obtain ⟨E, hE⟩ : ∃ x, x = entOf B.q nw' B.M s := ⟨_, rfl⟩
  rw [← hE] at htk hn1 hnt ⊢
  obtain ⟨A, hp, hpw, hL⟩ := T.ord
  have hna : (A.map (·.1)).Nodup := (hp.map _).nodup_iff.2 hn
  have hc1 : (if s.rule = true then (E.count, E.level).1 + 1 else (E.count, E.level).1) = (if s.rule = true then E.count + 1 else E.count) := rfl
  have hst : stepR R at_ s g = (n, nt, ⟨R.q, nw', true, cut256 (others s R.L) ++ [⟨s, nw', if s.rule = true then E.count + 1 else E.count, max E.level n⟩]⟩) := by
    unfold stepR
    simp only [hnw, htk]
    rw [← hn1, ← hnt]
  rw [hst]
  refine ⟨rfl, rfl, ?_⟩
  -- the reference's list behind the step
  have key : ∃ A1 : List (Sub × Ent), cut256 (others s R.L) = A1.map toRS ∧ A1.Pairwise (fun a b => a.2.call < b.2.call) ∧ (∀ x ∈ A1, x ∈ B.M) ∧
      (∀ e, (A1 ++ [(s, e)]).Perm (mput M1 s e)) ∧ A1.length ≤ 255 := by
    rw [hL, others_map]
    unfold Made at hm
    have hal : A.length = B.M.length := hp.length_eq
    have hlen := T.len
    split at hm
    · rename_i hc
      obtain ⟨f, e, hfe, hmin, rfl⟩ := hm
      have hno : ∀ x ∈ B.M, x.1 ≠ s := mget_none_iff.1 (by simpa using hc.1)
      have hnoA : ∀ x ∈ A, x.1 ≠ s := fun x hx => hno x (hp.mem_iff.1 hx)
      rw [mdel_id hnoA]
      cases A with
      | nil => simp at hal; omega
      | cons a A1 =>
        have hfa : (f, e) = a := by
          rcases List.mem_cons.1 (hp.mem_iff.2 hfe) with h | h
          · exact h
          · have h1 := (List.pairwise_cons.1 hpw).1 _ h
            have h2 := hmin a (hp.mem_iff.1 (by simp))
            dsimp only at h1
            omega
        subst hfa
        rw [List.map_cons, List.nodup_cons] at hna
        have hnf : ∀ x ∈ A1, x.1 ≠ f := fun x hx hxf => hna.1 (List.mem_map.2 ⟨x, hx, hxf⟩)
        have hdel : mdel ((f, e) :: A1) f = A1 := by
          unfold mdel
          rw [List.filter_cons_of_neg (by simp)]
          exact mdel_id hnf
        simp only [List.length_cons] at hal
        refine ⟨A1, ?_, (List.pairwise_cons.1 hpw).2, fun x hx => hp.mem_iff.1 (by simp [hx]), fun e' => ?_, by omega⟩
        · unfold cut256
          rw [if_pos (by simp; omega)]
          simp
        · have h1 := mdel_perm hp f
          rw [hdel] at h1
          rw [mput_new (M := mdel B.M f) (fun x hx => hno x (List.mem_filter.1 hx).1)]
          exact h1.append_right _
    · rename_i hc
      have hl : (mdel A s).length ≤ 255 := by
        by_cases hs : (mget B.M s).isSome = false
        · have : ¬ 256 ≤ B.M.length := fun h => hc ⟨hs, h⟩
          have h2 : (mdel A s).length ≤ A.length := List.length_filter_le _ _
          omega
        · obtain ⟨e, he⟩ : ∃ e, mget B.M s = some e := Option.isSome_iff_exists.1 (by cases h9 : (mget B.M s).isSome with | true => rfl | false => exact absurd h9 hs)
          have hm2 : (s, e) ∈ A := hp.mem_iff.2 (mget_some he)
          have h2 : (mdel A s).length < A.length := by
            unfold mdel
            refine List.length_filter_lt_length_iff_exists.2 ⟨_, hm2, by simp⟩
          omega
      refine ⟨mdel A s, ?_, hpw.sublist List.filter_sublist, fun x hx => hp.mem_iff.1 (List.mem_filter.1 hx).1, fun e => ?_, hl⟩
      · unfold cut256
        rw [if_neg (by simp; omega)]
      · rw [hm]; exact ((mdel_perm hp s).append_right _).trans (mput_perm hn).symm
  obtain ⟨A1, hA1, hpw1, hsub, hperm, hl1⟩ := key
  have hperm1 := hperm (entBehind nw' B.cl E s.rule n)
  refine ⟨T.q, rfl, rfl, ⟨_, hperm1, ?_, ?_⟩, ?_, fun h => (by cases h), ?_, T.q1⟩
  · rw [List.pairwise_append]
    refine ⟨hpw1, by simp, fun a ha b hb => ?_⟩
    have hb2 : b = (s, entBehind nw' B.cl E s.rule n) := by simpa using hb
    subst hb2
    have := (ok.ent a (hsub a ha)).2.1
    simp only [entBehind]
    omega
  · dsimp only
    rw [hA1, List.map_append]
    rfl
  · dsimp only
    rw [← hperm1.length_eq]
    simp
    omega
  · intro p hpm
    dsimp only at hpm ⊢
    rcases List.mem_append.1 (hperm1.mem_iff.2 hpm) with h | h
    · exact hlast p (hsub p h)
    · have : p = (s, entBehind nw' B.cl E s.rule n) := by simpa using h
      subst this
      simp [entBehind]
theorem twin_len {B : Bk} {R : RBk} (T : Twin B R) : R.L.length = B.M.length := by
  obtain ⟨A, hp, _, hL⟩ := T.ord
  rw [hL, List.length_map, hp.length_eq]
end Go.Proofs.Ytnghfmefjjkgdaa
