/- SHA-256 on lists: no program in sight. -/
import Derived.WalkKit
import Derived.IntWalk
namespace Go.Proofs.YtgkhjenlfajdcaaDoor
open Go.RowKit

abbrev W32 (n : Int) : Int := IntKind.u32.wrap n
def rotI (x : Int) (n : Nat) : Int := bits .or .u32 (x / 2 ^ n) (W32 (x * 2 ^ (32 - n)))

structure St where
  a : Int
  b : Int
  c : Int
  d : Int
  e : Int
  f : Int
  g : Int
  h : Int

def sg0 (x : Int) : Int := bits .xor .u32 (bits .xor .u32 (rotI x 7) (rotI x 18)) (x / 2 ^ 3)
def sg1 (x : Int) : Int := bits .xor .u32 (bits .xor .u32 (rotI x 17) (rotI x 19)) (x / 2 ^ 10)
def bg1 (e : Int) : Int := bits .xor .u32 (bits .xor .u32 (rotI e 6) (rotI e 11)) (rotI e 25)
def bg0 (a : Int) : Int := bits .xor .u32 (bits .xor .u32 (rotI a 2) (rotI a 13)) (rotI a 22)
def chf (e f g : Int) : Int := bits .xor .u32 (bits .and .u32 e f) (bits .and .u32 (bits .xor .u32 4294967295 e) g)
def mjf (a b c : Int) : Int := bits .xor .u32 (bits .xor .u32 (bits .and .u32 a b) (bits .and .u32 a c)) (bits .and .u32 b c)
def rx (k w : Int) (s : St) : Int := W32 (W32 (W32 (W32 (s.h + bg1 s.e) + chf s.e s.f s.g) + k) + w)
def ry (s : St) : Int := W32 (bg0 s.a + mjf s.a s.b s.c)
def rnd (k w : Int) (s : St) : St := ⟨W32 (rx k w s + ry s), s.a, s.b, s.c, W32 (s.d + rx k w s), s.e, s.f, s.g⟩

def byteAt (l : List UInt8) (i : Nat) : Int := ((l.getD i 0).toNat : Int)
def word (l : List UInt8) (t : Nat) : Int :=
  bits .or .u32 (bits .or .u32 (bits .or .u32 (W32 (byteAt l (4 * t) * 2 ^ 24)) (W32 (byteAt l (4 * t + 1) * 2 ^ 16))) (W32 (byteAt l (4 * t + 2) * 2 ^ 8))) (byteAt l (4 * t + 3))
def nxt (L : List Int) (t : Nat) : Int := W32 (W32 (W32 (L.getD (t - 16) 0 + sg0 (L.getD (t - 15) 0)) + L.getD (t - 7) 0) + sg1 (L.getD (t - 2) 0))
def sched (l : List UInt8) : Nat → List Int
  | 0 => []
  | t + 1 => sched l t ++ [if t < 16 then word l t else nxt (sched l t) t]
def rnds (K W : List Int) (s : St) : Nat → St
  | 0 => s
  | t + 1 => rnd (K.getD t 0) (W.getD t 0) (rnds K W s t)
def plus (s v : St) : St := ⟨W32 (s.a + v.a), W32 (s.b + v.b), W32 (s.c + v.c), W32 (s.d + v.d), W32 (s.e + v.e), W32 (s.f + v.f), W32 (s.g + v.g), W32 (s.h + v.h)⟩
def addS (K : List Int) (s : St) (l : List UInt8) : St := plus s (rnds K (sched l 64) s 64)
theorem sched_len (l : List UInt8) : ∀ t, (sched l t).length = t
  | 0 => rfl
  | t + 1 => by simp [sched, sched_len l t]

/-- The whole blocks of l, and what is left. -/
def comp (K : List Int) (s : St) (l : List UInt8) : St × List UInt8 :=
  if _h : 64 ≤ l.length then comp K (addS K s (l.take 64)) (l.drop 64) else (s, l)
termination_by l.length
decreasing_by simp; omega

theorem comp_lt {K : List Int} {s : St} {l : List UInt8} (h : l.length < 64) : comp K s l = (s, l) := by
  rw [comp, dif_neg (by omega)]
theorem comp_ge {K : List Int} {s : St} {l : List UInt8} (h : 64 ≤ l.length) : comp K s l = comp K (addS K s (l.take 64)) (l.drop 64) := by
  rw [comp, dif_pos h]
theorem comp_rest (K : List Int) (s : St) (l : List UInt8) : (comp K s l).2.length = l.length % 64 := by
  induction hn : l.length using Nat.strongRecOn generalizing s l with
  | _ n ih =>
    by_cases h : 64 ≤ l.length
    · rw [comp_ge h, ih (l.drop 64).length (by simp; omega) _ _ rfl]
      simp
      omega
    · rw [comp_lt (by omega)]
      simp
      omega
theorem comp_append (K : List Int) (s : St) (l m : List UInt8) : comp K s (l ++ m) = comp K (comp K s l).1 ((comp K s l).2 ++ m) := by
  induction hn : l.length using Nat.strongRecOn generalizing s l with
  | _ n ih =>
    by_cases h : 64 ≤ l.length
    · rw [comp_ge h, comp_ge (by simp; omega), List.take_append_of_le_length h, List.drop_append_of_le_length h]
      exact ih (l.drop 64).length (by simp; omega) _ _ rfl
    · rw [comp_lt (by omega : l.length < 64)]

def s0 : St := ⟨1779033703, 3144134277, 1013904242, 2773480762, 1359893119, 2600822924, 528734635, 1541459225⟩
/-- The bits of the length, as eight bytes. -/
def len8 (n : Nat) : List UInt8 := [56, 48, 40, 32, 24, 16, 8, 0].map (fun k => UInt8.ofNat (n * 8 / 2 ^ k % 256))
/-- How many zeros follow the mark behind r bytes. -/
def zeros (r : Nat) : Nat := (119 - r % 64) % 64
def padOf (n : Nat) : List UInt8 := 128 :: (List.replicate (zeros n) 0 ++ len8 n)
def w4 (n : Int) : List UInt8 := [UInt8.ofNat (n / 2 ^ 24 % 256).toNat, UInt8.ofNat (n / 2 ^ 16 % 256).toNat, UInt8.ofNat (n / 2 ^ 8 % 256).toNat, UInt8.ofNat (n % 256).toNat]
def out8 (s : St) : List UInt8 := w4 s.a ++ w4 s.b ++ w4 s.c ++ w4 s.d ++ w4 s.e ++ w4 s.f ++ w4 s.g ++ w4 s.h
/-- The hash of l. -/
def sha (K : List Int) (l : List UInt8) : List UInt8 := out8 (comp K s0 (l ++ padOf l.length)).1
theorem sha_split (K : List Int) (l : List UInt8) : sha K l = out8 (comp K (comp K s0 l).1 ((comp K s0 l).2 ++ padOf l.length)).1 := by
  unfold sha
  rw [comp_append]
theorem zeros_rest (K : List Int) (s : St) (l : List UInt8) : zeros (comp K s l).2.length = zeros l.length := by
  unfold zeros
  rw [comp_rest]
  omega
def hexd : List UInt8 := [48, 49, 50, 51, 52, 53, 54, 55, 56, 57, 97, 98, 99, 100, 101, 102]
def hex (l : List UInt8) : List UInt8 := l.flatMap (fun b => [hexd.getD (b.toNat / 16) 0, hexd.getD (b.toNat % 16) 0])

def KK : List Int := [1116352408, 1899447441, 3049323471, 3921009573, 961987163, 1508970993, 2453635748, 2870763221, 3624381080, 310598401, 607225278, 1426881987, 1925078388, 2162078206, 2614888103, 3248222580, 3835390401, 4022224774, 264347078, 604807628, 770255983, 1249150122, 1555081692, 1996064986, 2554220882, 2821834349, 2952996808, 3210313671, 3336571891, 3584528711, 113926993, 338241895, 666307205, 773529912, 1294757372, 1396182291, 1695183700, 1986661051, 2177026350, 2456956037, 2730485921, 2820302411, 3259730800, 3345764771, 3516065817, 3600352804, 4094571909, 275423344, 430227734, 506948616, 659060556, 883997877, 958139571, 1322822218, 1537002063, 1747873779, 1955562222, 2024104815, 2227730452, 2361852424, 2428436474, 2756734187, 3204031479, 3329325298]
theorem sha_abc : hex (sha KK [97, 98, 99]) = [98, 97, 55, 56, 49, 54, 98, 102, 56, 102, 48, 49, 99, 102, 101, 97, 52, 49, 52, 49, 52, 48, 100, 101, 53, 100, 97, 101, 50, 50, 50, 51, 98, 48, 48, 51, 54, 49, 97, 51, 57, 54, 49, 55, 55, 97, 57, 99, 98, 52, 49, 48, 102, 102, 54, 49, 102, 50, 48, 48, 49, 53, 97, 100] := by
  decide +kernel
end Go.Proofs.YtgkhjenlfajdcaaDoor
