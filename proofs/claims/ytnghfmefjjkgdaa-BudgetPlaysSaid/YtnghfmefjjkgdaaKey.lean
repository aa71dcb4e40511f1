/- The key type of escalate's map of subjects: looking a key up finds just the equal one. -/
import Derived.Test.YtnghfmefjjkgdaaMp
import Derived.Test.YtnghfmefjjkgdaaRows
import Derived.WalkLawsBesides
namespace Go.Proofs.Ytnghfmefjjkgdaa
structure Sub where
  sid : Int
  name : ByteArray
  rule : Bool
  v6 : Bool
  hi : Int
  lo : Int
  deriving DecidableEq

def eSub (s : Sub) : Value := .agg #[.int .i64 s.sid, .string s.name, .bool s.rule, .bool s.v6, .int .u64 s.hi, .int .u64 s.lo]

structure Ent where
  last : Int
  call : Int
  count : Int
  level : Int

def eEnt (e : Ent) : Value := .agg #[.int .i64 e.last, .int .i64 e.call, .int .i64 e.count, .int .i64 e.level]

theorem stood77 : Try.prog.stoodInHeld 77 = false := by kernel_rfl
theorem stood33 : Try.prog.stoodInHeld 33 = false := by kernel_rfl
theorem fields77 : Try.prog.underlying 77 = some (.struct (Try.prog.fieldsOf 77)) := by simp only [Program.fieldsOf, Try.underlying77]
theorem fields33 : Try.prog.underlying 33 = some (.struct (Try.prog.fieldsOf 33)) := by simp only [Program.fieldsOf, Try.underlying33]

theorem eq33 (n : Nat) (w : World) (a b : Bool) (c d e f : Int) :
    (Op.equalIn (n + 2) 33 (.agg #[.bool a, .int .u64 c, .int .u64 e]) (.agg #[.bool b, .int .u64 d, .int .u64 f])).run Try.prog w = .ok (decide (a = b ∧ c = d ∧ e = f)) w := by
  rw [run_equalIn_struct w _ 33 _ _ fields33 stood33]
  simp only [Program.fieldsOf, Try.underlying33]
  simp [Op.eqFields, part, run_equalIn_bool' w _ _ _ _ Try.underlying4, run_equalIn_int w _ _ _ _ _ _ Try.underlying31]
  by_cases h1 : a = b <;> by_cases h2 : c = d <;> by_cases h3 : e = f <;> simp [h1, h2, h3]

theorem toList_inj {a b : ByteArray} : a.toList = b.toList ↔ a = b := by
  rw [ByteArray.toList_eq, ByteArray.toList_eq]
  constructor
  · intro e
    obtain ⟨⟨x⟩⟩ := a
    obtain ⟨⟨y⟩⟩ := b
    have : x = y := e
    rw [this]
  · rintro rfl; rfl

theorem eq77 (n : Nat) (w : World) (x y : Sub) : (Op.equalIn (n + 3) 77 (eSub x) (eSub y)).run Try.prog w = .ok (decide (x = y)) w := by
  obtain ⟨a1, a2, a3, a4, a5, a6⟩ := x
  obtain ⟨b1, b2, b3, b4, b5, b6⟩ := y
  unfold eSub
  rw [run_equalIn_struct w _ 77 _ _ fields77 stood77]
  simp only [Program.fieldsOf, Try.underlying77]
  simp [Op.eqFields, part, run_equalIn_bool' w _ _ _ _ Try.underlying4, run_equalIn_int w _ _ _ _ _ _ Try.underlying3, run_equalIn_string w _ _ _ _ Try.underlying9, eq33, toList_inj]
  by_cases h1 : a1 = b1 <;> by_cases h2 : a2 = b2 <;> by_cases h3 : a3 = b3 <;> by_cases h4 : a4 = b4 <;> by_cases h5 : a5 = b5 <;> by_cases h6 : a6 = b6 <;> simp [h1, h2, h3, h4, h5, h6]

theorem chk77 (n : Nat) (w : World) (em : Bool) (x : Sub) : (Instr.checkKey em (n + 3) 77 (eSub x)).run Try.prog w = .ok () w := by
  simp [eSub, Instr.checkKey, run_underlying Try.underlying77, run_underlying Try.underlying33, run_underlying Try.underlying3, run_underlying Try.underlying4, run_underlying Try.underlying9, run_underlying Try.underlying31, part]

theorem eSub_inj (x y : Sub) (h : eSub x = eSub y) : x = y := by cases x; cases y; simp [eSub] at h; simp [h]

theorem ask77 (w : World) (x : Sub) : ∀ (es : List MapEntry) (i : Nat), (∀ e ∈ es, ∃ y, e.key = eSub y) →
    ((Instr.findAsking 77 (eSub x) es i).run Try.prog w = .ok none w ∧ ∀ e ∈ es, e.key ≠ eSub x) ∨
      ∃ j e, (Instr.findAsking 77 (eSub x) es i).run Try.prog w = .ok (some (i + j, e.val)) w ∧ es[j]? = some e ∧ e.key = eSub x
  | [], i, _ => .inl ⟨rfl, by simp⟩
  | e :: es, i, h => by
    obtain ⟨y, hy⟩ := h e (by simp)
    have he : (Op.equal 77 (eSub x) e.key).run Try.prog w = .ok (decide (x = y)) w := by rw [hy]; exact eq77 9997 w x y
    have hrun : (Instr.findAsking 77 (eSub x) (e :: es) i).run Try.prog w = if x = y then .ok (some (i, e.val)) w else (Instr.findAsking 77 (eSub x) es (i + 1)).run Try.prog w := by
      rw [Instr.findAsking]
      simp only [Sem.run_bind, he, Result.andThen_ok, decide_eq_true_eq, Sem.run_ite, Sem.run_pure]
    by_cases hxy : x = y
    · right
      exact ⟨0, e, by rw [hrun, if_pos hxy]; rfl, rfl, by rw [hy, hxy]⟩
    · rw [if_neg hxy] at hrun
      rcases ask77 w x es (i + 1) (fun e he => h e (by simp [he])) with ⟨h1, h2⟩ | ⟨j, e', h1, h2, h3⟩
      · left
        refine ⟨by rw [hrun, h1], fun e' he' => ?_⟩
        rcases List.mem_cons.1 he' with rfl | he'
        · rw [hy]; exact fun hc => hxy (eSub_inj _ _ hc).symm
        · exact h2 e' he'
      · right
        exact ⟨j + 1, e', by rw [hrun, h1, show i + 1 + j = i + (j + 1) by omega], h2, h3⟩

theorem keyOk : KeyOk Try.prog 77 eSub where
  inj := eSub_inj
  check w em x := chk77 9997 w em x
  find w x es h := by
    unfold Instr.findKey
    cases es with
    | nil => left; simp [run_underlying Try.underlying77, Instr.findNow]
    | cons e es =>
      obtain ⟨y, hy⟩ := h e (by simp)
      have hn : ∀ d, Instr.findNow (.struct d) (eSub x) (e :: es) 0 = none := by
        intro d; simp [Instr.findNow, Instr.sameNow]
      simp only [Sem.run_bind, run_underlying Try.underlying77, Result.andThen_ok, hn]
      rcases ask77 w x (e :: es) 0 h with ⟨h1, h2⟩ | ⟨j, e', h1, h2, h3⟩
      · exact .inl ⟨h1, h2⟩
      · exact .inr ⟨j, e', by rw [h1, Nat.zero_add], h2, h3⟩
  stays w x := by
    have : (x.name == x.name) = true := by rw [beq_toListBytes]; simp
    simp [eSub, Instr.keyThatStays, Instr.sameBits, this]

end Go.Proofs.Ytnghfmefjjkgdaa
