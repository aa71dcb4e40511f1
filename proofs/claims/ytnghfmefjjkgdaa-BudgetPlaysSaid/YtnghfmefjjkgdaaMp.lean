/- A map's block read as a list of typed pairs: what lookup, update, delete, len, range, next and entry do to it. No program in sight. -/
import Derived.Maps.RangeRun
import Derived.WalkKit
namespace Go.Proofs.Ytnghfmefjjkgdaa
open Go.ChangeMaps (setBlock)

structure KeyOk (P : Program) (k : TypeId) {κ : Type} (ek : κ → Value) : Prop where
  inj : ∀ x y, ek x = ek y → x = y
  check : ∀ (w : World) (em : Bool) (x : κ), (Instr.checkKey em 10000 k (ek x)).run P w = .ok () w
  find : ∀ (w : World) (x : κ) (es : List MapEntry), (∀ e ∈ es, ∃ y, e.key = ek y) →
    ((Instr.findKey k (ek x) es).run P w = .ok none w ∧ ∀ e ∈ es, e.key ≠ ek x) ∨
      ∃ j e, (Instr.findKey k (ek x) es).run P w = .ok (some (j, e.val)) w ∧ es[j]? = some e ∧ e.key = ek x
  stays : ∀ (w : World) (x : κ), (Instr.keyThatStays (ek x) (ek x)).run P w = .ok (ek x) w

theorem map_modify {α β : Type} (f : α → β) (g : α → α) (g' : β → β) (hfg : ∀ a, f (g a) = g' (f a)) : ∀ (l : List α) (j : Nat), (l.modify j g).map f = (l.map f).modify j g'
  | [], j => by simp
  | a :: l, 0 => by simp [hfg]
  | a :: l, j + 1 => by simp [map_modify f g g' hfg l j]

section
variable {κ ν : Type}

def mget [DecidableEq κ] (M : List (κ × ν)) (k : κ) : Option ν := (M.find? (fun p => decide (p.1 = k))).map (·.2)
def mput [DecidableEq κ] (M : List (κ × ν)) (k : κ) (v : ν) : List (κ × ν) :=
  if M.any (fun p => decide (p.1 = k)) then M.map (fun p => if p.1 = k then (k, v) else p) else M ++ [(k, v)]
def mdel [DecidableEq κ] (M : List (κ × ν)) (k : κ) : List (κ × ν) := M.filter (fun p => !decide (p.1 = k))

structure MapRep (ek : κ → Value) (ev : ν → Value) (es : Array MapEntry) (clock : Nat) (M : List (κ × ν)) : Prop where
  ent : es.toList.map (fun e => (e.key, e.val)) = M.map (fun p => (ek p.1, ev p.2))
  keys : (M.map (·.1)).Nodup
  born : (es.toList.map (·.born)).Nodup
  lt : ∀ e ∈ es.toList, e.born < clock

def MapIs (ek : κ → Value) (ev : ν → Value) (w : World) (b : Nat) (M : List (κ × ν)) : Prop :=
  ∃ es clock, w.heap[b]? = some (.map es clock) ∧ MapRep ek ev es clock M

variable {ek : κ → Value} {ev : ν → Value}

theorem MapIs.keep {w w' : World} {b : Nat} {M : List (κ × ν)} (h : MapIs ek ev w b M) (e : w'.heap[b]? = w.heap[b]?) : MapIs ek ev w' b M := by
  obtain ⟨es, c, hb, r⟩ := h; exact ⟨es, c, e.trans hb, r⟩

theorem MapIs.lt {w : World} {b : Nat} {M : List (κ × ν)} (h : MapIs ek ev w b M) : b < w.heap.size := by
  obtain ⟨es, c, hb, r⟩ := h; exact (Array.getElem?_eq_some_iff.1 hb).1

theorem MapRep.at_ {es : Array MapEntry} {c : Nat} {M : List (κ × ν)} (r : MapRep ek ev es c M) {j : Nat} {e : MapEntry} (h : es.toList[j]? = some e) :
    ∃ p, M[j]? = some p ∧ e.key = ek p.1 ∧ e.val = ev p.2 := by
  have h1 : (es.toList.map (fun e => (e.key, e.val)))[j]? = some (e.key, e.val) := by simp only [List.getElem?_map, h, Option.map_some]
  rw [r.ent, List.getElem?_map, Option.map_eq_some_iff] at h1
  obtain ⟨p, hp, e1⟩ := h1
  exact ⟨p, hp, (congrArg Prod.fst e1).symm, (congrArg Prod.snd e1).symm⟩

theorem MapRep.keysAre {es : Array MapEntry} {c : Nat} {M : List (κ × ν)} (r : MapRep ek ev es c M) : ∀ e ∈ es.toList, ∃ y, e.key = ek y := by
  intro e he
  obtain ⟨j, hj⟩ := List.getElem?_of_mem he
  obtain ⟨p, _, hk, _⟩ := r.at_ hj
  exact ⟨p.1, hk⟩

theorem MapRep.size {es : Array MapEntry} {c : Nat} {M : List (κ × ν)} (r : MapRep ek ev es c M) : es.size = M.length := by
  have := congrArg List.length r.ent; simpa using this

theorem MapRep.of_at {es : Array MapEntry} {c : Nat} {M : List (κ × ν)} (r : MapRep ek ev es c M) {j : Nat} {p : κ × ν} (h : M[j]? = some p) :
    ∃ e, es.toList[j]? = some e ∧ e.key = ek p.1 ∧ e.val = ev p.2 := by
  have hj : j < es.toList.length := by
    have := (List.getElem?_eq_some_iff.1 h).1
    have := r.size
    simp; omega
  refine ⟨es.toList[j], List.getElem?_eq_getElem hj, ?_⟩
  obtain ⟨p', hp', hk, hv⟩ := r.at_ (List.getElem?_eq_getElem hj)
  rw [h] at hp'
  cases hp'
  exact ⟨hk, hv⟩

section
variable [DecidableEq κ]
theorem mget_of_at {M : List (κ × ν)} (hn : (M.map (·.1)).Nodup) {j : Nat} {p : κ × ν} (h : M[j]? = some p) : mget M p.1 = some p.2 := by
  have hm : p ∈ M := List.mem_of_getElem? h
  clear h
  induction M with
  | nil => cases hm
  | cons q M ih =>
    simp only [List.map_cons, List.nodup_cons] at hn
    unfold mget
    rcases List.mem_cons.1 hm with rfl | hm'
    · simp
    · have hne : q.1 ≠ p.1 := fun e => hn.1 (e ▸ List.mem_map_of_mem hm')
      rw [List.find?_cons_of_neg (by simpa using hne)]
      exact ih hn.2 hm'

theorem mget_none {M : List (κ × ν)} {k : κ} (h : ∀ p ∈ M, p.1 ≠ k) : mget M k = none := by
  unfold mget
  rw [List.find?_eq_none.2 (fun p hp => by simpa using h p hp)]
  rfl

theorem mget_some {M : List (κ × ν)} {k : κ} {v : ν} (h : mget M k = some v) : (k, v) ∈ M := by
  unfold mget at h
  rw [Option.map_eq_some_iff] at h
  obtain ⟨p, hp, rfl⟩ := h
  have h1 := List.find?_some hp
  have h2 := List.mem_of_find?_eq_some hp
  simp at h1
  subst h1
  exact h2

end

variable {P : Program} {k : TypeId}

theorem run_getObj_map {w : World} {b : Nat} {es : Array MapEntry} {c : Nat} (hb : w.heap[b]? = some (.map es c)) : (getObj b).run P w = .ok (.map es c) w := by
  simp [getObj, Sem.run, hb]

theorem run_setObj_map {w : World} {b : Nat} {es : Array MapEntry} {c : Nat} (hb : w.heap[b]? = some (.map es c)) (o : Obj) : (setObj b o).run P w = .ok () (setBlock w b o) := by
  simp [setObj, Sem.run, hb, setBlock]

section
variable [DecidableEq κ]
/-- The two ways that looking for a key ends. -/
theorem MapRep.find (K : KeyOk P k ek) {es : Array MapEntry} {c : Nat} {M : List (κ × ν)} (r : MapRep ek ev es c M) (w : World) (x : κ) :
    ((Instr.findKey k (ek x) es.toList).run P w = .ok none w ∧ mget M x = none ∧ ∀ p ∈ M, p.1 ≠ x) ∨
      ∃ j v e, (Instr.findKey k (ek x) es.toList).run P w = .ok (some (j, ev v)) w ∧ M[j]? = some (x, v) ∧ mget M x = some v ∧ es.toList[j]? = some e ∧ e.key = ek x := by
  rcases K.find w x es.toList r.keysAre with ⟨h, hn⟩ | ⟨j, e, h, hj, hk⟩
  · have hne : ∀ p ∈ M, p.1 ≠ x := by
      intro p hp e
      obtain ⟨j, hj⟩ := List.getElem?_of_mem hp
      obtain ⟨en, hen, hke, _⟩ := r.of_at hj
      exact hn en (List.mem_of_getElem? hen) (by rw [hke, e])
    exact .inl ⟨h, mget_none hne, hne⟩
  · obtain ⟨p, hp, hk', hv'⟩ := r.at_ hj
    have hx : p.1 = x := K.inj _ _ (hk'.symm.trans hk)
    subst hx
    rw [hv'] at h
    exact .inr ⟨j, p.2, e, h, hp, mget_of_at r.keys hp, hj, hk⟩

def lookVal (c : Bool) (z : Value) (o : Option Value) : Value := if c then .tuple #[o.getD z, .bool o.isSome] else o.getD z

/-- 'm[x]', 'v, ok := m[x]'. -/
theorem MapIs.lookup (K : KeyOk P k ek) {t e : TypeId} (ht : P.underlying t = some (.map k e)) {w : World} {z : Value} (hz : (zeroValue e).run P w = .ok z w)
    {b : Nat} {M : List (κ × ν)} (h : MapIs ek ev w b M) (x : κ) (c : Bool) :
    (Instr.lookup t (.map (some b)) (ek x) c).run P w = .ok (lookVal c z ((mget M x).map ev)) w := by
  obtain ⟨es, cl, hb, r⟩ := h
  have hu : (underlying t).run P w = .ok (.map k e) w := run_underlying ht w
  unfold Instr.lookup
  simp only [Sem.run_bind, hu, Result.andThen_ok, run_getObj_map hb, Sem.run_pure, K.check]
  rcases r.find K w x with ⟨hf, hm, _⟩ | ⟨j, v, e', hf, _, hm, _, _⟩
  · simp only [hf, hm, Result.andThen_ok, Sem.run_bind, hz, Sem.run_pure, lookVal, Option.map_none, Option.getD_none, Option.isSome_none]
  · simp only [hf, hm, Result.andThen_ok, lookVal, Option.map_some, Option.getD_some, Option.isSome_some]
    rfl

/-- 'm[x] = v'. -/
theorem MapIs.update (K : KeyOk P k ek) {t e : TypeId} (ht : P.underlying t = some (.map k e)) {w : World}
    {b : Nat} {M : List (κ × ν)} (h : MapIs ek ev w b M) (x : κ) (v : ν) :
    ∃ es' c', (Instr.mapUpdate t (.map (some b)) (ek x) (ev v)).run P w = .ok () (setBlock w b (.map es' c')) ∧ MapRep ek ev es' c' (mput M x v) := by
  obtain ⟨es, cl, hb, r⟩ := h
  have hu : (underlying t).run P w = .ok (.map k e) w := run_underlying ht w
  unfold Instr.mapUpdate
  simp only [Sem.run_bind, hu, Result.andThen_ok, run_getObj_map hb, K.check]
  rcases r.find K w x with ⟨hf, _, hne⟩ | ⟨j, v0, e', hf, hj, _, he, hke⟩
  · refine ⟨es.push { key := ek x, val := ev v, born := cl }, cl + 1, by simp only [hf, Result.andThen_ok, run_setObj_map hb], ?_⟩
    have ha : M.any (fun p => decide (p.1 = x)) = false := by
      rw [List.any_eq_false]; intro p hp; simpa using hne p hp
    refine ⟨?_, ?_, ?_, ?_⟩
    · simp [mput, ha, r.ent]
    · simp only [mput, ha, Bool.false_eq_true, if_false, List.map_append, List.map_cons, List.map_nil]
      refine List.nodup_append.2 ⟨r.keys, by simp, ?_⟩
      intro a ha' b' hb' e1
      simp at hb'
      subst hb'
      subst e1
      obtain ⟨p, hp, rfl⟩ := List.mem_map.1 ha'
      exact hne p hp rfl
    · simp only [Array.toList_push, List.map_append, List.map_cons, List.map_nil]
      refine List.nodup_append.2 ⟨r.born, by simp, ?_⟩
      intro a ha' b' hb' e1
      simp at hb'
      subst hb'
      subst e1
      obtain ⟨en, hen, h2⟩ := List.mem_map.1 ha'
      have := r.lt en hen
      omega
    · intro en hen
      simp only [Array.toList_push, List.mem_append, List.mem_singleton] at hen
      rcases hen with hen | rfl
      · have := r.lt en hen; omega
      · simp
  · have hkey : ((es[j]?).map (·.key)).getD (ek x) = ek x := by
      rw [← Array.getElem?_toList, he]; exact hke
    refine ⟨es.modify j fun e => { e with key := ek x, val := ev v }, cl, by simp only [hf, Result.andThen_ok, hkey, Sem.run_bind, K.stays, run_setObj_map hb], ?_⟩
    have ha : M.any (fun p => decide (p.1 = x)) = true := by
      rw [List.any_eq_true]; exact ⟨_, List.mem_of_getElem? hj, by simp⟩
    have hmm : M.map (fun p => if p.1 = x then (x, v) else p) = M.modify j (fun _ => (x, v)) := by
      apply List.ext_getElem?
      intro i
      rw [List.getElem?_map, List.getElem?_modify]
      by_cases hij : j = i
      · subst hij
        simp [hj]
      · simp only [hij, if_false]
        cases hi : M[i]? with
        | none => simp
        | some q =>
          simp
          intro hq
          exfalso
          apply hij
          have h1 : (M.map (·.1))[j]? = some x := by simp [hj]
          have h2 : (M.map (·.1))[i]? = some x := by simp [hi, hq]
          obtain ⟨l1, e1⟩ := List.getElem?_eq_some_iff.1 h1
          obtain ⟨l2, e2⟩ := List.getElem?_eq_some_iff.1 h2
          exact (List.getElem_inj r.keys).1 (e1.trans e2.symm)
    have hput : mput M x v = M.modify j (fun _ => (x, v)) := by simp only [mput, ha, if_true]; exact hmm
    have hes : (es.modify j fun e => { e with key := ek x, val := ev v }).toList = es.toList.modify j (fun e => { e with key := ek x, val := ev v }) := by
      simp
    refine ⟨?_, ?_, ?_, ?_⟩
    · rw [hes, hput, map_modify (fun e : MapEntry => (e.key, e.val)) (fun e => { e with key := ek x, val := ev v }) (fun _ => (ek x, ev v)) (fun _ => rfl), map_modify (fun p : κ × ν => (ek p.1, ev p.2)) (fun _ => (x, v)) (fun _ => (ek x, ev v)) (fun _ => rfl), r.ent]
    · rw [hput, map_modify (fun p : κ × ν => p.1) (fun _ => (x, v)) (fun _ => x) (fun _ => rfl)]
      have : (M.map (·.1)).modify j (fun _ => x) = M.map (·.1) := by
        apply List.ext_getElem?
        intro i
        rw [List.getElem?_modify]
        by_cases hij : j = i
        · subst hij; simp [hj]
        · simp [hij]
      rw [this]
      exact r.keys
    · rw [hes, map_modify (fun e : MapEntry => e.born) (fun e => { e with key := ek x, val := ev v }) id (fun _ => rfl), List.modify_id]
      exact r.born
    · intro en hen
      rw [hes] at hen
      obtain ⟨i, hi⟩ := List.getElem?_of_mem hen
      rw [List.getElem?_modify] at hi
      by_cases hij : j = i
      · subst hij
        simp [he] at hi
        subst hi
        exact r.lt e' (List.mem_of_getElem? he)
      · simp only [hij, if_false] at hi
        have : es.toList[i]? = some en := by simpa using hi
        exact r.lt en (List.mem_of_getElem? this)

theorem filter_ne_of_at {M : List (κ × ν)} (hn : (M.map (·.1)).Nodup) {j : Nat} {x : κ} {v : ν} (h : M[j]? = some (x, v)) : mdel M x = M.eraseIdx j := by
  induction M generalizing j with
  | nil => simp at h
  | cons q M ih =>
    simp only [List.map_cons, List.nodup_cons] at hn
    cases j with
    | zero =>
      simp at h
      subst h
      simp only [mdel, decide_true, Bool.not_true, Bool.false_eq_true, not_false_eq_true, List.filter_cons_of_neg, List.eraseIdx_cons_zero]
      rw [List.filter_eq_self]
      intro p hp
      have : ¬ p.1 = x := fun e => hn.1 (List.mem_map.2 ⟨p, hp, e⟩)
      simpa using this
    | succ j =>
      simp at h
      have hq : q.1 ≠ x := fun e => hn.1 (e ▸ (List.mem_map.2 ⟨(x, v), List.mem_of_getElem? h, rfl⟩))
      simp only [mdel, List.eraseIdx_cons_succ]
      rw [List.filter_cons_of_pos (by simpa using hq)]
      exact congrArg _ (ih hn.2 h)

/-- 'delete(m, x)'. -/
theorem MapIs.delete (K : KeyOk P k ek) {t e : TypeId} (ht : P.underlying t = some (.map k e)) {w : World}
    {b : Nat} {M : List (κ × ν)} (h : MapIs ek ev w b M) (x : κ) (ty kt : TypeId) :
    ∃ es' c', (Builtin.delete_ #[t, kt] ty #[.map (some b), ek x]).run P w = .ok (.tuple #[]) (setBlock w b (.map es' c')) ∧ MapRep ek ev es' c' (mdel M x) := by
  obtain ⟨es, cl, hb, r⟩ := h
  have hu : (underlying t).run P w = .ok (.map k e) w := run_underlying ht w
  unfold Builtin.delete_
  simp only [List.getElem?_toArray, List.getElem?_cons_zero, List.getElem?_cons_succ, Sem.run_bind, hu, Result.andThen_ok, run_getObj_map hb, K.check]
  rcases r.find K w x with ⟨hf, _, hne⟩ | ⟨j, v0, e', hf, hj, _, he, hke⟩
  · refine ⟨es, cl, by simp only [hf, Result.andThen_ok, run_setObj_map hb, Sem.run_bind, Sem.run_pure], ?_⟩
    have : mdel M x = M := by
      unfold mdel; rw [List.filter_eq_self]; intro p hp; simpa using hne p hp
    rw [this]; exact r
  · refine ⟨es.eraseIdxIfInBounds j, cl, by simp only [hf, Result.andThen_ok, run_setObj_map hb, Sem.run_bind, Sem.run_pure], ?_⟩
    have hd := filter_ne_of_at r.keys hj
    have hjl : j < es.size := by have := (List.getElem?_eq_some_iff.1 he).1; simpa using this
    have hes : (es.eraseIdxIfInBounds j).toList = es.toList.eraseIdx j := by
      unfold Array.eraseIdxIfInBounds
      rw [dif_pos hjl]
      simp
    refine ⟨?_, ?_, ?_, ?_⟩
    · rw [hes, hd, Go.ChangeMaps.map_eraseIdx, Go.ChangeMaps.map_eraseIdx, r.ent]
    · rw [hd, Go.ChangeMaps.map_eraseIdx]
      exact r.keys.sublist (List.eraseIdx_sublist _ _)
    · rw [hes, Go.ChangeMaps.map_eraseIdx]
      exact r.born.sublist (List.eraseIdx_sublist _ _)
    · intro en hen
      rw [hes] at hen
      exact r.lt en ((List.eraseIdx_sublist _ _).subset hen)

end

/-- 'len(m)'. -/
theorem MapIs.len {t e : TypeId} (ht : P.underlying t = some (.map k e)) {w : World}
    {b : Nat} {M : List (κ × ν)} (h : MapIs ek ev w b M) (ty : TypeId) :
    (Builtin.len_ #[t] ty #[.map (some b)]).run P w = .ok (.int .i64 M.length) w := by
  obtain ⟨es, cl, hb, r⟩ := h
  have hu : (underlying t).run P w = .ok (.map k e) w := run_underlying ht w
  unfold Builtin.len_
  simp only [List.getElem?_toArray, List.getElem?_cons_zero, Sem.run_bind, hu, Result.andThen_ok, run_getObj_map hb, Sem.run_pure, goInt, r.size]

/-! The loop 'for x, v := range m' over a map that nothing turns meanwhile. 'left': what is still to come. -/

/-- Block r is an iterator over the map in block b; 'left' is still to come. -/
def Iter (ek : κ → Value) (ev : ν → Value) (w : World) (r b : Nat) (left : List (κ × ν)) : Prop :=
  ∃ es clock M seen, w.heap[b]? = some (.map es clock) ∧ MapRep ek ev es clock M ∧ w.heap[r]? = some (.mapIter (some b) clock seen clock) ∧
    (leftOf es seen).toList.map (fun e => (e.key, e.val)) = left.map (fun p => (ek p.1, ev p.2))

theorem Iter.keep {w w' : World} {r b : Nat} {left : List (κ × ν)} (h : Iter ek ev w r b left) (e1 : w'.heap[b]? = w.heap[b]?) (e2 : w'.heap[r]? = w.heap[r]?) : Iter ek ev w' r b left := by
  obtain ⟨es, c, M, s, hb, rp, hr, hl⟩ := h
  exact ⟨es, c, M, s, e1.trans hb, rp, e2.trans hr, hl⟩

theorem Iter.lt {w : World} {r b : Nat} {left : List (κ × ν)} (h : Iter ek ev w r b left) : b < w.heap.size ∧ r < w.heap.size := by
  obtain ⟨es, c, M, s, hb, rp, hr, hl⟩ := h
  exact ⟨(Array.getElem?_eq_some_iff.1 hb).1, (Array.getElem?_eq_some_iff.1 hr).1⟩

/-- 'range m'. -/
theorem MapIs.range {t e : TypeId} (ht : P.underlying t = some (.map k e)) {w : World}
    {b : Nat} {M : List (κ × ν)} (h : MapIs ek ev w b M) :
    ∃ o, (Instr.range t (.map (some b))).run P w = .ok (.pointer (some ⟨w.heap.size, 0, none⟩)) (w.alloc o) ∧ Iter ek ev (w.alloc o) w.heap.size b M := by
  have hlt := h.lt
  obtain ⟨es, cl, hb, r⟩ := h
  have hu : (underlying t).run P w = .ok (.map k e) w := run_underlying ht w
  refine ⟨.mapIter (some b) cl #[] cl, ?_, es, cl, M, #[], ?_, r, ?_, ?_⟩
  · unfold Instr.range
    simp only [Sem.run_bind, hu, Result.andThen_ok, run_getObj_map hb, Sem.run_pure, run_newObj]
    rfl
  · show (w.heap.push _)[b]? = _
    rw [Array.getElem?_push, if_neg (by omega)]; exact hb
  · show (w.heap.push _)[w.heap.size]? = _
    simp
  · have : leftOf es #[] = es := by unfold leftOf; simp
    rw [this]; exact r.ent

theorem map_erase_at {α β : Type} (f : α → β) (l : List α) (j : Nat) : (l.eraseIdx j).map f = (l.map f).eraseIdx j := Go.ChangeMaps.map_eraseIdx f l j

/-- One step: nothing is left, or the tape's choice of what is left comes out. -/
theorem Iter.next {w : World} {r b : Nat} {left : List (κ × ν)} (h : Iter ek ev w r b left) (hrb : r ≠ b) (ty : TypeId) :
    (left = [] ∧ (Instr.next (.pointer (some ⟨r, 0, none⟩)) false ty).run P w = .ok (.tuple #[.bool false]) w) ∨
    ∃ j p w1 w', left[j]? = some p ∧ (w1 = w ∨ w1 = w.drew) ∧ (∃ o, w' = setBlock w1 r o) ∧ (Instr.next (.pointer (some ⟨r, 0, none⟩)) false ty).run P w = .ok (.tuple #[.bool true, ek p.1, ev p.2]) w' ∧
      Iter ek ev w' r b (left.eraseIdx j) ∧ (Instr.entry (.pointer (some ⟨r, 0, none⟩))).run P w' = .ok (.tuple #[ek p.1, ev p.2]) w' := by
  obtain ⟨es, c, M, seen, hb, rp, hr, hl⟩ := h
  rcases run_next_at (P := P) w ty r b c c seen es c hr hb (fun x hx => rp.lt x hx) (Nat.le_refl _) with ⟨h0, hrun⟩ | ⟨e, he, w1, hw1, hrun⟩
  · left
    have : (leftOf es seen).toList = [] := by
      apply List.eq_nil_of_length_eq_zero; simpa using h0
    rw [this] at hl
    refine ⟨?_, hrun⟩
    cases left with
    | nil => rfl
    | cons a l => simp at hl
  · right
    obtain ⟨j, hj⟩ := List.getElem?_of_mem he
    have h1 : ((leftOf es seen).toList.map (fun e => (e.key, e.val)))[j]? = some (e.key, e.val) := by simp only [List.getElem?_map, hj, Option.map_some]
    rw [hl, List.getElem?_map, Option.map_eq_some_iff] at h1
    obtain ⟨p, hp, e1⟩ := h1
    have ek1 : e.key = ek p.1 := (congrArg Prod.fst e1).symm
    have ev1 : e.val = ev p.2 := (congrArg Prod.snd e1).symm
    have hrlt : r < w.heap.size := (Array.getElem?_eq_some_iff.1 hr).1
    have hh1 : w1.heap = w.heap := by rcases hw1 with rfl | rfl <;> rfl
    have hr' : (setBlock w1 r (.mapIter (some b) c (seen.push e.born) c)).heap[r]? = some (.mapIter (some b) c (seen.push e.born) c) := by
      show (w1.heap.setIfInBounds r _)[r]? = _
      rw [hh1]
      simp [hrlt]
    have hb' : (setBlock w1 r (.mapIter (some b) c (seen.push e.born) c)).heap[b]? = some (.map es c) := by
      show (w1.heap.setIfInBounds r _)[b]? = _
      rw [hh1, Array.getElem?_setIfInBounds_ne hrb]
      exact hb
    have hmem : e ∈ es.toList := by
      have : e ∈ leftOf es seen := by simpa using he
      unfold leftOf at this
      rw [Array.mem_filter] at this
      simpa using this.1
    refine ⟨j, p, w1, _, hp, hw1, ⟨_, rfl⟩, by rw [← ek1, ← ev1]; exact hrun, ⟨es, c, M, seen.push e.born, hb', rp, hr', ?_⟩, ?_⟩
    · have hfil : (leftOf es (seen.push e.born)).toList = (leftOf es seen).toList.eraseIdx j := by
        have hn : ((leftOf es seen).toList.map (·.born)).Nodup := by
          unfold leftOf
          rw [Array.toList_filter]
          exact rp.born.sublist (List.Sublist.map _ List.filter_sublist)
        have e2 : (leftOf es (seen.push e.born)).toList = (leftOf es seen).toList.filter (fun x => !decide (x.born = e.born)) := by
          unfold leftOf
          rw [Array.toList_filter, Array.toList_filter, List.filter_filter]
          congr 1
          funext x
          rw [Bool.eq_iff_iff]
          simp
          exact ⟨fun h => ⟨h.2, h.1⟩, fun h => ⟨h.2, h.1⟩⟩
        rw [e2]
        have hn' : (((leftOf es seen).toList.map (fun x => (x.born, x))).map (·.1)).Nodup := by simpa [List.map_map, Function.comp_def] using hn
        have := filter_ne_of_at (M := (leftOf es seen).toList.map (fun x => (x.born, x))) hn' (j := j) (x := e.born) (v := e) (by simp only [List.getElem?_map, hj, Option.map_some])
        unfold mdel at this
        have h3 := congrArg (List.map (·.2)) this
        rw [List.filter_map, List.map_map, Go.ChangeMaps.map_eraseIdx, List.map_map] at h3
        simpa [Function.comp_def] using h3
      rw [hfil, map_erase_at, hl, map_erase_at]
    · have := run_entry_at (P := P) _ r b c seen es c e hr' hb' hmem rp.born
      rw [ek1, ev1] at this
      exact this

end
end Go.Proofs.Ytnghfmefjjkgdaa
