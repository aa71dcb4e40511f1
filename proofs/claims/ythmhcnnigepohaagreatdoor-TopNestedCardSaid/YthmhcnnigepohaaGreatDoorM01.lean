/- A map's block read as a list of typed pairs: what lookup, update, delete, len, range, next and entry do to it. No program in sight. -/
import Derived.Maps.RangeRun
import Derived.WalkKit
import Derived.WalkLawsBesides
import Derived.Test.YthmhcnnigepohaaGreatDoorProg
namespace Go.Proofs.YthmhcnnigepohaaGreatDoor
open Go.ChangeMaps (setBlock)

structure KeyOk (P : Program) (k : TypeId) {κ : Type} (ek : κ → Value) : Prop where
  inj : ∀ x y, ek x = ek y → x = y
  check : ∀ (w : World) (em : Bool) (x : κ), (Instr.checkKey em 10000 k (ek x)).run P w = .ok () w
  find : ∀ (w : World) (x : κ) (es : List MapEntry), (∀ e ∈ es, ∃ y, e.key = ek y) →
    ((Instr.findKey k (ek x) es).run P w = .ok none w ∧ ∀ e ∈ es, e.key ≠ ek x) ∨
      ∃ j e, (Instr.findKey k (ek x) es).run P w = .ok (some (j, e.val)) w ∧ es[j]? = some e ∧ e.key = ek x
  stays : ∀ (w : World) (x : κ), (Instr.keyThatStays (ek x) (ek x)).run P w = .ok (ek x) w

theorem map_modify {α β : Type} (f : α → β) (g : α → α) (g' : β → β) (hfg : ∀ a, f (g a) = g' (f a)) : ∀ (l : List α) (j : Nat), (l.modify j g).map f = (l.map f).modify j g'
  | [], j => by simp
  | a :: l, 0 => by simp [hfg]
  | a :: l, j + 1 => by simp [map_modify f g g' hfg l j]

section
variable {κ ν : Type}

def mget [DecidableEq κ] (M : List (κ × ν)) (k : κ) : Option ν := (M.find? (fun p => decide (p.1 = k))).map (·.2)
def mput [DecidableEq κ] (M : List (κ × ν)) (k : κ) (v : ν) : List (κ × ν) :=
  if M.any (fun p => decide (p.1 = k)) then M.map (fun p => if p.1 = k then (k, v) else p) else M ++ [(k, v)]
def mdel [DecidableEq κ] (M : List (κ × ν)) (k : κ) : List (κ × ν) := M.filter (fun p => !decide (p.1 = k))

structure MapRep (ek : κ → Value) (ev : ν → Value) (es : Array MapEntry) (clock : Nat) (M : List (κ × ν)) : Prop where
  ent : es.toList.map (fun e => (e.key, e.val)) = M.map (fun p => (ek p.1, ev p.2))
  keys : (M.map (·.1)).Nodup
  born : (es.toList.map (·.born)).Nodup
  lt : ∀ e ∈ es.toList, e.born < clock

def MapIs (ek : κ → Value) (ev : ν → Value) (w : World) (b : Nat) (M : List (κ × ν)) : Prop :=
  ∃ es clock, w.heap[b]? = some (.map es clock) ∧ MapRep ek ev es clock M

variable {ek : κ → Value} {ev : ν → Value}

theorem MapIs.keep {w w' : World} {b : Nat} {M : List (κ × ν)} (h : MapIs ek ev w b M) (e : w'.heap[b]? = w.heap[b]?) : MapIs ek ev w' b M := by
  obtain ⟨es, c, hb, r⟩ := h; exact ⟨es, c, e.trans hb, r⟩

theorem MapIs.lt {w : World} {b : Nat} {M : List (κ × ν)} (h : MapIs ek ev w b M) : b < w.heap.size := by
  obtain ⟨es, c, hb, r⟩ := h; exact (Array.getElem?_eq_some_iff.1 hb).1

theorem MapRep.at_ {es : Array MapEntry} {c : Nat} {M : List (κ × ν)} (r : MapRep ek ev es c M) {j : Nat} {e : MapEntry} (h : es.toList[j]? = some e) :
    ∃ p, M[j]? = some p ∧ e.key = ek p.1 ∧ e.val = ev p.2 := by
  have h1 : (es.toList.map (fun e => (e.key, e.val)))[j]? = some (e.key, e.val) := by simp only [List.getElem?_map, h, Option.map_some]
  rw [r.ent, List.getElem?_map, Option.map_eq_some_iff] at h1
  obtain ⟨p, hp, e1⟩ := h1
  exact ⟨p, hp, (congrArg Prod.fst e1).symm, (congrArg Prod.snd e1).symm⟩

theorem MapRep.keysAre {es : Array MapEntry} {c : Nat} {M : List (κ × ν)} (r : MapRep ek ev es c M) : ∀ e ∈ es.toList, ∃ y, e.key = ek y := by
  intro e he
  obtain ⟨j, hj⟩ := List.getElem?_of_mem he
  obtain ⟨p, _, hk, _⟩ := r.at_ hj
  exact ⟨p.1, hk⟩

theorem MapRep.size {es : Array MapEntry} {c : Nat} {M : List (κ × ν)} (r : MapRep ek ev es c M) : es.size = M.length := by
  have := congrArg List.length r.ent; simpa using this

theorem MapRep.of_at {es : Array MapEntry} {c : Nat} {M : List (κ × ν)} (r : MapRep ek ev es c M) {j : Nat} {p : κ × ν} (h : M[j]? = some p) :
    ∃ e, es.toList[j]? = some e ∧ e.key = ek p.1 ∧ e.val = ev p.2 := by
  have hj : j < es.toList.length := by
    have := (List.getElem?_eq_some_iff.1 h).1
    have := r.size
    simp; omega
  refine ⟨es.toList[j], List.getElem?_eq_getElem hj, ?_⟩
  obtain ⟨p', hp', hk, hv⟩ := r.at_ (List.getElem?_eq_getElem hj)
  rw [h] at hp'
  cases hp'
  exact ⟨hk, hv⟩

section
variable [DecidableEq κ]
theorem mget_of_at {M : List (κ × ν)} (hn : (M.map (·.1)).Nodup) {j : Nat} {p : κ × ν} (h : M[j]? = some p) : mget M p.1 = some p.2 := by
  have hm : p ∈ M := List.mem_of_getElem? h
  clear h
  induction M with
  | nil => cases hm
  | cons q M ih =>
    simp only [List.map_cons, List.nodup_cons] at hn
    unfold mget
    rcases List.mem_cons.1 hm with rfl | hm'
    · simp
    · have hne : q.1 ≠ p.1 := fun e => hn.1 (e ▸ List.mem_map_of_mem hm')
      rw [List.find?_cons_of_neg (by simpa using hne)]
      exact ih hn.2 hm'

theorem mget_none {M : List (κ × ν)} {k : κ} (h : ∀ p ∈ M, p.1 ≠ k) : mget M k = none := by
  unfold mget
  rw [List.find?_eq_none.2 (fun p hp => by simpa using h p hp)]
  rfl

theorem mget_some {M : List (κ × ν)} {k : κ} {v : ν} (h : mget M k = some v) : (k, v) ∈ M := by
  unfold mget at h
  rw [Option.map_eq_some_iff] at h
  obtain ⟨p, hp, rfl⟩ := h
  have h1 := List.find?_some hp
  have h2 := List.mem_of_find?_eq_some hp
  simp at h1
  subst h1
  exact h2

end

variable {P : Program} {k : TypeId}

theorem run_getObj_map {w : World} {b : Nat} {es : Array MapEntry} {c : Nat} (hb : w.heap[b]? = some (.map es c)) : (getObj b).run P w = .ok (.map es c) w := by
  simp [getObj, Sem.run, hb]

theorem run_setObj_map {w : World} {b : Nat} {es : Array MapEntry} {c : Nat} (hb : w.heap[b]? = some (.map es c)) (o : Obj) : (setObj b o).run P w = .ok () (setBlock w b o) := by
  simp [setObj, Sem.run, hb, setBlock]

section
variable [DecidableEq κ]
/-- The two ways that looking for a key ends. -/
theorem MapRep.find (K : KeyOk P k ek) {es : Array MapEntry} {c : Nat} {M : List (κ × ν)} (r : MapRep ek ev es c M) (w : World) (x : κ) :
    ((Instr.findKey k (ek x) es.toList).run P w = .ok none w ∧ mget M x = none ∧ ∀ p ∈ M, p.1 ≠ x) ∨
      ∃ j v e, (Instr.findKey k (ek x) es.toList).run P w = .ok (some (j, ev v)) w ∧ M[j]? = some (x, v) ∧ mget M x = some v ∧ es.toList[j]? = some e ∧ e.key = ek x := by
  rcases K.find w x es.toList r.keysAre with ⟨h, hn⟩ | ⟨j, e, h, hj, hk⟩
  · have hne : ∀ p ∈ M, p.1 ≠ x := by
      intro p hp e
      obtain ⟨j, hj⟩ := List.getElem?_of_mem hp
      obtain ⟨en, hen, hke, _⟩ := r.of_at hj
      exact hn en (List.mem_of_getElem? hen) (by rw [hke, e])
    exact .inl ⟨h, mget_none hne, hne⟩
  · obtain ⟨p, hp, hk', hv'⟩ := r.at_ hj
    have hx : p.1 = x := K.inj _ _ (hk'.symm.trans hk)
    subst hx
    rw [hv'] at h
    exact .inr ⟨j, p.2, e, h, hp, mget_of_at r.keys hp, hj, hk⟩

def lookVal (c : Bool) (z : Value) (o : Option Value) : Value := if c then .tuple #[o.getD z, .bool o.isSome] else o.getD z

/-- 'm[x]', 'v, ok := m[x]'. -/
theorem MapIs.lookup (K : KeyOk P k ek) {t e : TypeId} (ht : P.underlying t = some (.map k e)) {w : World} {z : Value} (hz : (zeroValue e).run P w = .ok z w)
    {b : Nat} {M : List (κ × ν)} (h : MapIs ek ev w b M) (x : κ) (c : Bool) :
    (Instr.lookup t (.map (some b)) (ek x) c).run P w = .ok (lookVal c z ((mget M x).map ev)) w := by
  obtain ⟨es, cl, hb, r⟩ := h
  have hu : (underlying t).run P w = .ok (.map k e) w := run_underlying ht w
  unfold Instr.lookup
  simp only [Sem.run_bind, hu, Result.andThen_ok, run_getObj_map hb, Sem.run_pure, K.check]
  rcases r.find K w x with ⟨hf, hm, _⟩ | ⟨j, v, e', hf, _, hm, _, _⟩
  · simp only [hf, hm, Result.andThen_ok, Sem.run_bind, hz, Sem.run_pure, lookVal, Option.map_none, Option.getD_none, Option.isSome_none]
  · simp only [hf, hm, Result.andThen_ok, lookVal, Option.map_some, Option.getD_some, Option.isSome_some]
    rfl

/-- 'm[x] = v'. -/
theorem MapIs.update (K : KeyOk P k ek) {t e : TypeId} (ht : P.underlying t = some (.map k e)) {w : World}
    {b : Nat} {M : List (κ × ν)} (h : MapIs ek ev w b M) (x : κ) (v : ν) :
    ∃ es' c', (Instr.mapUpdate t (.map (some b)) (ek x) (ev v)).run P w = .ok () (setBlock w b (.map es' c')) ∧ MapRep ek ev es' c' (mput M x v) := by
  obtain ⟨es, cl, hb, r⟩ := h
  have hu : (underlying t).run P w = .ok (.map k e) w := run_underlying ht w
  unfold Instr.mapUpdate
  simp only [Sem.run_bind, hu, Result.andThen_ok, run_getObj_map hb, K.check]
  rcases r.find K w x with ⟨hf, _, hne⟩ | ⟨j, v0, e', hf, hj, _, he, hke⟩
  · refine ⟨es.push { key := ek x, val := ev v, born := cl }, cl + 1, by simp only [hf, Result.andThen_ok, run_setObj_map hb], ?_⟩
    have ha : M.any (fun p => decide (p.1 = x)) = false := by
      rw [List.any_eq_false]; intro p hp; simpa using hne p hp
    refine ⟨?_, ?_, ?_, ?_⟩
    · simp [mput, ha, r.ent]
    · simp only [mput, ha, Bool.false_eq_true, if_false, List.map_append, List.map_cons, List.map_nil]
      refine List.nodup_append.2 ⟨r.keys, by simp, ?_⟩
      intro a ha' b' hb' e1
      simp at hb'
      subst hb'
      subst e1
      obtain ⟨p, hp, rfl⟩ := List.mem_map.1 ha'
      exact hne p hp rfl
    · simp only [Array.toList_push, List.map_append, List.map_cons, List.map_nil]
      refine List.nodup_append.2 ⟨r.born, by simp, ?_⟩
      intro a ha' b' hb' e1
      simp at hb'
      subst hb'
      subst e1
      obtain ⟨en, hen, h2⟩ := List.mem_map.1 ha'
      have := r.lt en hen
      omega
    · intro en hen
      simp only [Array.toList_push, List.mem_append, List.mem_singleton] at hen
      rcases hen with hen | rfl
      · have := r.lt en hen; omega
      · simp
  · have hkey : ((es[j]?).map (·.key)).getD (ek x) = ek x := by
      rw [← Array.getElem?_toList, he]; exact hke
    refine ⟨es.modify j fun e => { e with key := ek x, val := ev v }, cl, by simp only [hf, Result.andThen_ok, hkey, Sem.run_bind, K.stays, run_setObj_map hb], ?_⟩
    have ha : M.any (fun p => decide (p.1 = x)) = true := by
      rw [List.any_eq_true]; exact ⟨_, List.mem_of_getElem? hj, by simp⟩
    have hmm : M.map (fun p => if p.1 = x then (x, v) else p) = M.modify j (fun _ => (x, v)) := by
      apply List.ext_getElem?
      intro i
      rw [List.getElem?_map, List.getElem?_modify]
      by_cases hij : j = i
      · subst hij
        simp [hj]
      · simp only [hij, if_false]
        cases hi : M[i]? with
        | none => simp
        | some q =>
          simp
          intro hq
          exfalso
          apply hij
          have h1 : (M.map (·.1))[j]? = some x := by simp [hj]
          have h2 : (M.map (·.1))[i]? = some x := by simp [hi, hq]
          obtain ⟨l1, e1⟩ := List.getElem?_eq_some_iff.1 h1
          obtain ⟨l2, e2⟩ := List.getElem?_eq_some_iff.1 h2
          exact (List.getElem_inj r.keys).1 (e1.trans e2.symm)
    have hput : mput M x v = M.modify j (fun _ => (x, v)) := by simp only [mput, ha, if_true]; exact hmm
    have hes : (es.modify j fun e => { e with key := ek x, val := ev v }).toList = es.toList.modify j (fun e => { e with key := ek x, val := ev v }) := by
      simp
    refine ⟨?_, ?_, ?_, ?_⟩
    · rw [hes, hput, map_modify (fun e : MapEntry => (e.key, e.val)) (fun e => { e with key := ek x, val := ev v }) (fun _ => (ek x, ev v)) (fun _ => rfl), map_modify (fun p : κ × ν => (ek p.1, ev p.2)) (fun _ => (x, v)) (fun _ => (ek x, ev v)) (fun _ => rfl), r.ent]
    · rw [hput, map_modify (fun p : κ × ν => p.1) (fun _ => (x, v)) (fun _ => x) (fun _ => rfl)]
      have : (M.map (·.1)).modify j (fun _ => x) = M.map (·.1) := by
        apply List.ext_getElem?
        intro i
        rw [List.getElem?_modify]
        by_cases hij : j = i
        · subst hij; simp [hj]
        · simp [hij]
      rw [this]
      exact r.keys
    · rw [hes, map_modify (fun e : MapEntry => e.born) (fun e => { e with key := ek x, val := ev v }) id (fun _ => rfl), List.modify_id]
      exact r.born
    · intro en hen
      rw [hes] at hen
      obtain ⟨i, hi⟩ := List.getElem?_of_mem hen
      rw [List.getElem?_modify] at hi
      by_cases hij : j = i
      · subst hij
        simp [he] at hi
        subst hi
        exact r.lt e' (List.mem_of_getElem? he)
      · simp only [hij, if_false] at hi
        have : es.toList[i]? = some en := by simpa using hi
        exact r.lt en (List.mem_of_getElem? this)

end
end
/-! ### strings for keys -/
def eStr (s : ByteArray) : Value := .string s
theorem eStr_inj (x y : ByteArray) (h : eStr x = eStr y) : x = y := by
  unfold eStr at h
  injection h
theorem same_str (a b : ByteArray) : (a == b) = decide (a = b) := by
  by_cases h : a = b
  · subst h
    rw [beq_toListBytes]; simp
  · have : (a == b) = false := by
      cases hb : a == b with
      | false => rfl
      | true =>
        exfalso; apply h
        rw [beq_toListBytes] at hb
        have := eq_of_beq hb
        rw [ByteArray.toList_eq, ByteArray.toList_eq] at this
        obtain ⟨⟨x⟩⟩ := a
        obtain ⟨⟨y⟩⟩ := b
        have : x = y := this
        rw [this]
    rw [this]; simp [h]
theorem chk9 (n : Nat) (w : World) (em : Bool) (x : ByteArray) : (Instr.checkKey em (n + 1) 9 (eStr x)).run Tryz.prog w = .ok () w := by
  simp [eStr, Instr.checkKey, run_underlying Tryz.underlying9]
theorem now9 (x : ByteArray) : ∀ (es : List MapEntry) (i : Nat), (∀ e ∈ es, ∃ y, e.key = eStr y) →
    (Instr.findNow .string (eStr x) es i = some none ∧ ∀ e ∈ es, e.key ≠ eStr x) ∨
      ∃ j e, Instr.findNow .string (eStr x) es i = some (some (i + j, e.val)) ∧ es[j]? = some e ∧ e.key = eStr x
  | [], i, _ => .inl ⟨rfl, by simp⟩
  | e :: es, i, h => by
    obtain ⟨y, hy⟩ := h e (by simp)
    have hs : Instr.sameNow .string (eStr x) e.key = some (decide (x = y)) := by
      rw [hy]; show some (x == y) = _; rw [same_str]
    unfold Instr.findNow
    rw [hs]
    by_cases hxy : x = y
    · right
      simp only [hxy, decide_true]
      exact ⟨0, e, rfl, rfl, by rw [hy]⟩
    · simp only [hxy, decide_false]
      rcases now9 x es (i + 1) (fun e he => h e (by simp [he])) with ⟨h1, h2⟩ | ⟨j, e', h1, h2, h3⟩
      · left
        refine ⟨h1, fun e' he' => ?_⟩
        rcases List.mem_cons.1 he' with rfl | he'
        · rw [hy]; exact fun hc => hxy (eStr_inj _ _ hc).symm
        · exact h2 e' he'
      · right
        exact ⟨j + 1, e', by rw [h1, show i + 1 + j = i + (j + 1) by omega], h2, h3⟩
theorem keyOk9 : KeyOk Tryz.prog 9 eStr where
  inj := eStr_inj
  check w em x := chk9 9999 w em x
  find w x es h := by
    unfold Instr.findKey
    simp only [Sem.run_bind, run_underlying Tryz.underlying9, Result.andThen_ok]
    rcases now9 x es 0 h with ⟨h1, h2⟩ | ⟨j, e', h1, h2, h3⟩
    · left; rw [h1]; exact ⟨rfl, h2⟩
    · right; refine ⟨j, e', ?_, h2, h3⟩; rw [h1, Nat.zero_add]; rfl
  stays w x := by
    have : (x == x) = true := by rw [same_str]; simp
    simp [eStr, Instr.keyThatStays, Instr.sameBits, this]
/-- 'm[x] = v': a step of a region. -/
theorem mget_mput {κ ν : Type} [DecidableEq κ] (M : List (κ × ν)) (k : κ) (v : ν) : ∀ p ∈ mput M k v, p = (k, v) ∨ (p ∈ M ∧ p.1 ≠ k) := by
  intro p hp
  unfold mput at hp
  split at hp
  · obtain ⟨q, hq, rfl⟩ := List.mem_map.1 hp
    by_cases h : q.1 = k
    · rw [if_pos h]; exact .inl rfl
    · rw [if_neg h]; exact .inr ⟨hq, h⟩
  · rename_i h
    rcases List.mem_append.1 hp with h1 | h1
    · refine .inr ⟨h1, fun e => h ?_⟩
      rw [List.any_eq_true]
      exact ⟨p, h1, by simpa using e⟩
    · exact .inl (by simpa using h1)
end Go.Proofs.YthmhcnnigepohaaGreatDoor
