/- packs: a list in ascending order. -/
import Derived.Test.YthmhcnnigepohaaIns
namespace Go.Proofs.Ythmhcnnigepohaa
open Go.RowKit

def packsR (l : List Rw) : List Rw := l.foldl (fun s x => insR x s) []
theorem packsR_snoc (l : List Rw) (x : Rw) : packsR (l ++ [x]) = insR x (packsR l) := by simp [packsR]
theorem insR_len (x : Rw) : ∀ l, (insR x l).length = l.length + 1
  | [] => rfl
  | y :: l => by
    unfold insR
    split
    · simp
    · simp [insR_len x l]
theorem insR_mem (x : Rw) : ∀ l z, z ∈ insR x l → z = x ∨ z ∈ l
  | [], z, h => by simpa [insR] using h
  | y :: l, z, h => by
    unfold insR at h
    split at h
    · simpa using h
    · rcases List.mem_cons.1 h with h | h
      · exact .inr (by simp [h])
      · rcases insR_mem x l z h with h | h
        · exact .inl h
        · exact .inr (by simp [h])
theorem insR_srt (x : Rw) : ∀ l, SrtR l → SrtR (insR x l)
  | [], _ => by simp [insR, SrtR]
  | y :: l, h => by
    unfold insR
    unfold SrtR at h
    rw [List.pairwise_cons] at h
    split
    · rename_i hlt
      refine List.pairwise_cons.2 ⟨fun z hz => ?_, List.pairwise_cons.2 h⟩
      rcases List.mem_cons.1 hz with rfl | hz
      · omega
      · have := h.1 z hz; omega
    · rename_i hlt
      refine List.pairwise_cons.2 ⟨fun z hz => ?_, insR_srt x l h.2⟩
      rcases insR_mem x l z hz with rfl | hz
      · omega
      · exact h.1 z hz
theorem foldl_srt : ∀ (l s : List Rw), SrtR s → SrtR (l.foldl (fun s x => insR x s) s)
  | [], _, h => h
  | x :: l, s, h => foldl_srt l (insR x s) (insR_srt x s h)
theorem packsR_srt (l : List Rw) : SrtR (packsR l) := foldl_srt l [] .nil
theorem foldl_len : ∀ (l s : List Rw), (l.foldl (fun s x => insR x s) s).length = s.length + l.length
  | [], s => by simp
  | x :: l, s => by rw [List.foldl_cons, foldl_len l (insR x s), insR_len, List.length_cons]; omega
theorem packsR_len (l : List Rw) : (packsR l).length = l.length := by simp [packsR, foldl_len]
theorem packsR_mem (l : List Rw) : ∀ z ∈ packsR l, z ∈ l := by
  have h : ∀ (l s : List Rw) z, z ∈ l.foldl (fun s x => insR x s) s → z ∈ s ∨ z ∈ l := by
    intro l
    induction l with
    | nil => intro s z h; exact .inl h
    | cons x l ih =>
      intro s z h
      rcases ih _ z h with h1 | h1
      · rcases insR_mem x s z h1 with h2 | h2
        · exact .inr (by simp [h2])
        · exact .inl h2
      · exact .inr (by simp [h1])
  intro z hz
  rcases h l [] z hz with h1 | h1
  · simp at h1
  · exact h1

def KPost (l : List Rw) (w : World) (e : Ending) (w' : World) : Prop :=
  ∃ s v g, e = .returned (.pointer (some ⟨s, 0, none⟩)) ∧ w.heap.size ≤ s ∧ SI w' s v g l ∧ (∀ b, g = some b → w.heap.size ≤ b) ∧ Fr [] w w'

set_option maxRecDepth 100000 in
set_option maxHeartbeats 4000000 in
theorem packs28_any (v : Value) (g : Option Nat) (l : List Rw) (w : World) (h : PAt w v g l) (hl : l.length ≤ 100000) :
    Calls Try.prog 28 #[v] w (KPost (packsR l) w) := by
  have HP := hide h
  obtain ⟨av, cv, hv⟩ := SlAt.shape h
  obtain ⟨n, hn⟩ : ∃ n, n = l.length := ⟨_, rfl⟩
  rw [← hn] at hv hl
  subst hv
  have HN := hide hn
  obtain ⟨s, hs⟩ : ∃ s, s = w.heap.size := ⟨_, rfl⟩
  have HS0 : Hid (SI (w.alloc (.cells #[.slice none 0 0, .func (.func 31) #[] #[]] 56)) s (.slice none 0 0) none []) := hide ⟨by rw [hs]; exact heap_alloc_eq rfl, SlAt.nil_ _, by simp⟩
  have HF0 := hide ((Fr.refl [] w).alloc (.cells #[.slice none 0 0, .func (.func 31) #[] #[]] 56))
  have HSW : Hid (w.heap.size ≤ s) := hide (by omega)
  clear h hn
  go_enter Try.func28, Try.ntmps28
  go_wp2_with fail
  rw [← hs]
  clear hs
  generalize w.alloc (.cells #[.slice none 0 0, .func (.func 31) #[] #[]] 56) = w1 at *
  go_loopg [10] (n + 1) (fun gk i wr => ∃ (k : Nat) (sv : Value) (q : Option Nat), gk = n + 1 - k ∧ k ≤ n ∧ i = .int .i64 k ∧ SI wr s sv q (packsR (l.take k)) ∧ (∀ b, q = some b → w.heap.size ≤ b) ∧ Fr [] w wr)
  case atStart => exact ⟨0, _, none, rfl, by omega, rfl, HS0.out, by simp, HF0.out⟩
  case round =>
    obtain ⟨k, sv, q, hgk, hk, rfl, hsi, hq, hf⟩ := hrel
    have HGK := hide hgk
    have HSI := hide hsi
    have HQ := hide hq
    have HF := hide hf
    by_cases hlt : k < n
    · obtain ⟨x, hx⟩ : ∃ x, l[k]? = some x := ⟨l[k]'(by have := HN.out; omega), List.getElem?_eq_getElem _⟩
      have hpr : PAt wr (.slice av n cv) g l := SlAt.fr HP.out hf (by simp)
      obtain ⟨b, off, cap, hgb, hvv, hbl, c0, c1, -⟩ := hpr.get hx
      obtain ⟨xw, xa, xn, xc⟩ := x
      have HTK : Hid (packsR (l.take (k + 1)) = insR ⟨xw, xa, xn, xc⟩ (packsR (l.take k))) := hide (by
        rw [List.take_add_one, hx]
        exact packsR_snoc _ _)
      rw [← HN.out] at hvv
      injection hvv with hva _ hvc
      subst hva
      subst hvc
      simp only at c0 c1
      have b0 : (0 : Int) ≤ (k : Int) ∧ (k : Int) < (n : Int) := by omega
      have HCALL := hide (insert32_any s sv q (packsR (l.take k)) ⟨xw, xa, xn, xc⟩ (wr.alloc (.cells #[.int .i64 xw, .slice xa xn xc] 51)) (hsi.fr ((Fr.refl [] wr).alloc _)) (packsR_srt _) (by rw [packsR_len]; simp; omega))
      have HFA : Hid (Fr [] w (wr.alloc (.cells #[.int .i64 xw, .slice xa xn xc] 51))) := hide (hf.alloc _)
      clear hgk hsi hq hf hx hpr hgb
      go_wp2_with fail
      refine (unhide HCALL).mono ?_
      rintro e w2 ⟨rfl, v', g', hsi', hf', hg'⟩
      have HSI' := hide hsi'
      have HF' := hide (HFA.out.andThen hf' (by
        intro y hy
        rcases List.mem_cons.1 hy with rfl | hy
        · exact .inr HSW.out
        · exact .inr (HQ.out y (by simpa using hy))))
      have HG' : Hid (∀ b, g' = some b → w.heap.size ≤ b) := hide (by
        intro b hb
        rcases hg' with h | ⟨b2, h1, h2⟩
        · exact HQ.out b (h ▸ hb)
        · rw [h1] at hb
          injection hb with hb
          have := HFA.out.size
          omega)
      clear hsi' hf' hg'
      go_wp2_with fail
      go_roundg (n + 1 - (k + 1))
      case measure => have := HGK.out; omega
      case rel => exact ⟨k + 1, v', g', rfl, by omega, by go_num, by rw [HTK.out]; exact HSI'.out, HG'.out, HF'.out⟩
    · obtain rfl : k = n := by omega
      have HSE : Hid (SI wr s sv q (packsR l)) := hide (by
        have h1 := hsi
        rw [List.take_of_length_le (by have := HN.out; omega)] at h1
        exact h1)
      clear hgk hsi hq hf
      go_wp2
      go_ret
      exact ⟨s, sv, q, rfl, HSW.out, HSE.out, HQ.out, HF.out⟩
end Go.Proofs.Ythmhcnnigepohaa

