/- Plain: 32-bit words, the digest of bytes as the two texts make it. -/
import Derived.Test.YtddpefbpiehgeaaDoorBase
namespace Go.Proofs.YtddpefbpiehgeaaDoor
open Go Go.RowKit

/-- A word as a value. -/
def w32 (x : UInt32) : Value := .int .u32 (x.toNat : Int)

def rotr (x : UInt32) (s : Nat) : UInt32 := x <<< UInt32.ofNat (32 - s) ||| x >>> UInt32.ofNat s

theorem u32_lt (x : UInt32) : x.toNat < 4294967296 := x.toNat_lt
theorem u32_xor_v (x y : UInt32) : bits .xor .u32 (x.toNat : Int) (y.toNat : Int) = ((x ^^^ y).toNat : Int) := by
  rw [u32_xor_nat _ _ (u32_lt x) (u32_lt y), UInt32.toNat_xor]
theorem u32_and_v (x y : UInt32) : bits .and .u32 (x.toNat : Int) (y.toNat : Int) = ((x &&& y).toNat : Int) := by
  rw [u32_and_nat _ _ (u32_lt x) (u32_lt y), UInt32.toNat_and]
theorem u32_or_v (x y : UInt32) : bits .or .u32 (x.toNat : Int) (y.toNat : Int) = ((x ||| y).toNat : Int) := by
  rw [u32_or_nat _ _ (u32_lt x) (u32_lt y), UInt32.toNat_or]
theorem u32_add_v (x y : UInt32) : IntKind.u32.wrap ((x.toNat : Int) + (y.toNat : Int)) = ((x + y).toNat : Int) := by
  rw [IntKind.wrap_u32, UInt32.toNat_add]
  simp
theorem u32_wrap_v (x : UInt32) : IntKind.u32.wrap (x.toNat : Int) = (x.toNat : Int) := IntWalk.u32_in _ (by have := u32_lt x; omega)
theorem u32_of (n : Nat) (h : n < 4294967296) : ((UInt32.ofNat n).toNat : Int) = n := by
  rw [UInt32.toNat_ofNat']
  exact_mod_cast congrArg Nat.cast (Nat.mod_eq_of_lt h)
theorem u32_shl (x : UInt32) (k : Nat) (h : k < 32) : ((x <<< UInt32.ofNat k).toNat : Int) = (x.toNat : Int) * 2 ^ k % 4294967296 := by
  rw [UInt32.toNat_shiftLeft, UInt32.toNat_ofNat']
  have h1 : k % 2 ^ 32 % 32 = k := by omega
  rw [h1, Nat.shiftLeft_eq]
  simp
theorem u32_shr (x : UInt32) (k : Nat) (h : k < 32) : ((x >>> UInt32.ofNat k).toNat : Int) = (x.toNat : Int) / 2 ^ k := by
  rw [UInt32.toNat_shiftRight, UInt32.toNat_ofNat']
  have h1 : k % 2 ^ 32 % 32 = k := by omega
  rw [h1, Nat.shiftRight_eq_div_pow]
  simp
theorem rot_v (x : UInt32) (s : Nat) (h1 : 1 ≤ s) (h31 : s ≤ 31) : bits BinOp.or IntKind.u32 ((x.toNat : Int) * 2 ^ (32 - s) % 4294967296) ((x.toNat : Int) / 2 ^ s) = ((rotr x s).toNat : Int) := by
  rw [← u32_shl x (32 - s) (by omega), ← u32_shr x s (by omega), u32_or_v]
  rfl
theorem rot_and (s : Nat) (h1 : 1 ≤ s) (h31 : s ≤ 31) : bits BinOp.and IntKind.u64 (IntKind.u64.wrap (-(s : Int))) 31 = 32 - s := by
  have h : ∀ s ∈ List.range' 1 31, bits BinOp.and IntKind.u64 (IntKind.u64.wrap (-(s : Int))) 31 = 32 - (s : Int) := by decide +kernel
  exact h s (by rw [List.mem_range'_1]; omega)

def sig0 (x : UInt32) : UInt32 := rotr x 7 ^^^ rotr x 18 ^^^ x >>> 3
def sig1 (x : UInt32) : UInt32 := rotr x 17 ^^^ rotr x 19 ^^^ x >>> 10

theorem add4_v (a b c d : UInt32) : ((a.toNat : Int) + (b.toNat : Int) + (c.toNat : Int) + (d.toNat : Int)) % 4294967296 = ((a + b + c + d).toNat : Int) := by
  simp [UInt32.toNat_add]
theorem big1_v (x : UInt32) : bits BinOp.xor IntKind.u32 (bits BinOp.xor IntKind.u32 ((rotr x 6).toNat : Int) ((rotr x 11).toNat : Int)) ((rotr x 25).toNat : Int) = ((rotr x 6 ^^^ rotr x 11 ^^^ rotr x 25).toNat : Int) := by
  rw [u32_xor_v, u32_xor_v]
theorem big0_v (x : UInt32) : bits BinOp.xor IntKind.u32 (bits BinOp.xor IntKind.u32 ((rotr x 2).toNat : Int) ((rotr x 13).toNat : Int)) ((rotr x 22).toNat : Int) = ((rotr x 2 ^^^ rotr x 13 ^^^ rotr x 22).toNat : Int) := by
  rw [u32_xor_v, u32_xor_v]
theorem u32_add_m (x y : UInt32) : ((x.toNat : Int) + (y.toNat : Int)) % 4294967296 = ((x + y).toNat : Int) := by simp [UInt32.toNat_add]
theorem u32_not_v (x : UInt32) : bits BinOp.xor IntKind.u32 (if IntKind.u32.signed = true then -1 else IntKind.u32.max) (x.toNat : Int) = ((~~~x).toNat : Int) := by
  have h : (if IntKind.u32.signed = true then -1 else IntKind.u32.max) = ((0xFFFFFFFF : UInt32).toNat : Int) := rfl
  rw [h, u32_xor_v]
  congr 2

theorem t_v (h s e f g k w : UInt32) :
    IntKind.u32.wrap (IntKind.u32.wrap (IntKind.u32.wrap (IntKind.u32.wrap ((h.toNat : Int) + (s.toNat : Int)) + bits BinOp.xor IntKind.u32 (bits BinOp.and IntKind.u32 (e.toNat : Int) (f.toNat : Int)) (bits BinOp.and IntKind.u32 (bits BinOp.xor IntKind.u32 (if IntKind.u32.signed = true then -1 else IntKind.u32.max) (e.toNat : Int)) (g.toNat : Int))) + (k.toNat : Int)) + (w.toNat : Int)) =
      ((h + s + ((e &&& f) ^^^ (~~~e &&& g)) + k + w).toNat : Int) := by
  rw [u32_not_v, u32_and_v, u32_and_v, u32_xor_v, u32_add_v, u32_add_v, u32_add_v, u32_add_v]
theorem sig0_v (x : UInt32) : bits BinOp.xor IntKind.u32 (bits BinOp.xor IntKind.u32 ((rotr x 7).toNat : Int) ((rotr x 18).toNat : Int)) ((x.toNat : Int) / 8) = ((sig0 x).toNat : Int) := by
  have h := u32_shr x 3 (by omega)
  have h2 : (x.toNat : Int) / 8 = ((x >>> UInt32.ofNat 3).toNat : Int) := h.symm
  rw [h2, u32_xor_v, u32_xor_v]
  rfl
theorem sig1_v (x : UInt32) : bits BinOp.xor IntKind.u32 (bits BinOp.xor IntKind.u32 ((rotr x 17).toNat : Int) ((rotr x 19).toNat : Int)) ((x.toNat : Int) / 1024) = ((sig1 x).toNat : Int) := by
  have h := u32_shr x 10 (by omega)
  have h2 : (x.toNat : Int) / 1024 = ((x >>> UInt32.ofNat 10).toNat : Int) := h.symm
  rw [h2, u32_xor_v, u32_xor_v]
  rfl

/-- Bytes into a word, the highest first. -/
def word (l : List UInt8) : UInt32 := l.foldl (fun x c => x <<< 8 ||| UInt32.ofNat c.toNat) 0

/-- A block's first n words. -/
def spr (b : List UInt8) : Nat → List UInt32
  | 0 => []
  | n + 1 => spr b n ++ [if n < 16 then word ((b.drop (4 * n)).take 4) else
      (spr b n).getD (n - 16) 0 + sig0 ((spr b n).getD (n - 15) 0) + (spr b n).getD (n - 7) 0 + sig1 ((spr b n).getD (n - 2) 0)]
@[simp] theorem spr_length (b : List UInt8) : ∀ n, (spr b n).length = n
  | 0 => rfl
  | n + 1 => by simp [spr, spr_length b n]

theorem word_or (x : UInt32) (c : UInt8) : bits BinOp.or IntKind.u32 (IntKind.u32.wrap ((x.toNat : Int) * 256)) (IntKind.u32.wrap (c.toNat : Int)) = ((x <<< 8 ||| UInt32.ofNat c.toNat).toNat : Int) := by
  have h1 : IntKind.u32.wrap ((x.toNat : Int) * 256) = ((x <<< 8).toNat : Int) := by
    have := u32_shl x 8 (by omega)
    rw [IntKind.wrap_u32]
    exact this.symm
  have hc := c.toNat_lt
  have h2 : IntKind.u32.wrap (c.toNat : Int) = ((UInt32.ofNat c.toNat).toNat : Int) := by
    rw [u32_of _ (by omega)]
    exact IntWalk.u32_in _ (by omega)
  rw [h1, h2, u32_or_v]

theorem word_or' (x : UInt32) (c : UInt8) : bits BinOp.or IntKind.u32 ((x.toNat : Int) * 256 % 4294967296) ((c.toNat : Int) % 4294967296) = ((x <<< 8 ||| UInt32.ofNat c.toNat).toNat : Int) := by
  have := word_or x c
  rwa [IntKind.wrap_u32, IntKind.wrap_u32] at this
theorem word_snoc (l : List UInt8) (c : UInt8) : word (l ++ [c]) = word l <<< 8 ||| UInt32.ofNat c.toNat := by simp [word]
theorem word_step (q : List UInt8) (j : Nat) (h : j < q.length) : word (q.take (j + 1)) = word (q.take j) <<< 8 ||| UInt32.ofNat (q.getD j 0).toNat := by
  rw [List.take_succ_eq_append_getElem h, word_snoc]
  simp [h]

/-- A row of 64 words, of which the first ones are known. -/
def zpad (l : List UInt32) : List UInt32 := l ++ List.replicate (64 - l.length) 0
theorem zpad_length (l : List UInt32) (h : l.length ≤ 64) : (zpad l).length = 64 := by simp [zpad]; omega
theorem zpad_set (l : List UInt32) (x : UInt32) (h : l.length < 64) : (zpad l).set l.length x = zpad (l ++ [x]) := by
  unfold zpad
  rw [List.set_append_right _ _ (Nat.le_refl _), Nat.sub_self, show 64 - l.length = (64 - (l ++ [x]).length) + 1 by simp; omega, List.replicate_succ]
  simp
theorem zpad_zero (l : List UInt32) (h : l.length < 64) : (zpad l).set l.length 0 = zpad l := by
  rw [zpad_set l 0 h]
  unfold zpad
  rw [show 64 - l.length = (64 - (l ++ [0]).length) + 1 by simp; omega, List.replicate_succ]
  simp
theorem zpad_get (l : List UInt32) (i : Nat) (h : i < l.length) (h2 : i < (zpad l).length) : (zpad l)[i] = l.getD i 0 := by
  simp [zpad, List.getElem_append_left h, h]
theorem zpad_full (l : List UInt32) (h : l.length = 64) : zpad l = l := by simp [zpad, h]

/-- Eight words. -/
structure W8 where
  a : UInt32
  b : UInt32
  c : UInt32
  d : UInt32
  e : UInt32
  f : UInt32
  g : UInt32
  h : UInt32
def W8.list (x : W8) : List UInt32 := [x.a, x.b, x.c, x.d, x.e, x.f, x.g, x.h]
/-- Words as cells. -/
def arr (l : List UInt32) : Array Value := (l.map w32).toArray
theorem arr_get (l : List UInt32) (i : Nat) (h : i < l.length) : (arr l)[i]? = some (w32 l[i]) := by simp [arr, h]
theorem arr_set (l : List UInt32) (i : Nat) (x : UInt32) : (arr l).setIfInBounds i (w32 x) = arr (l.set i x) := by simp [arr, List.map_set]
def W8.vals (x : W8) : Array Value := arr x.list

def rnd (x : W8) (k w : UInt32) : W8 :=
  let t := x.h + (rotr x.e 6 ^^^ rotr x.e 11 ^^^ rotr x.e 25) + ((x.e &&& x.f) ^^^ (~~~x.e &&& x.g)) + k + w
  let u := (rotr x.a 2 ^^^ rotr x.a 13 ^^^ rotr x.a 22) + ((x.a &&& x.b) ^^^ (x.a &&& x.c) ^^^ (x.b &&& x.c))
  ⟨t + u, x.a, x.b, x.c, x.d + t, x.e, x.f, x.g⟩
def add8 (x y : W8) : W8 := ⟨x.a + y.a, x.b + y.b, x.c + y.c, x.d + y.d, x.e + y.e, x.f + y.f, x.g + y.g, x.h + y.h⟩

/-- A block's rounds. -/
def rounds (ks ws : List UInt32) (x : W8) : Nat → W8
  | 0 => x
  | n + 1 => rnd (rounds ks ws x n) (ks.getD n 0) (ws.getD n 0)
def chg (ks : List UInt32) (x : W8) (b : List UInt8) : W8 := add8 x (rounds ks (spr b 64) x 64)
theorem add_add_m (x y z : UInt32) : ((x.toNat : Int) + ((y.toNat : Int) + (z.toNat : Int))) % 4294967296 = ((x + (y + z)).toNat : Int) := by simp [UInt32.toNat_add]
theorem rnd_vals (X : W8) (kn ln S1 T : UInt32) (hS : rotr X.e 6 ^^^ rotr X.e 11 ^^^ rotr X.e 25 = S1) (hT : X.h + S1 + ((X.e &&& X.f) ^^^ (~~~X.e &&& X.g)) + kn + ln = T) :
    #[Value.int .u32 (((T.toNat : Int) + (bits BinOp.xor IntKind.u32 (bits BinOp.xor IntKind.u32 ((rotr X.a 2).toNat : Int) ((rotr X.a 13).toNat : Int)) ((rotr X.a 22).toNat : Int) +
        bits BinOp.xor IntKind.u32 (bits BinOp.xor IntKind.u32 (bits BinOp.and IntKind.u32 (X.a.toNat : Int) (X.b.toNat : Int)) (bits BinOp.and IntKind.u32 (X.a.toNat : Int) (X.c.toNat : Int))) (bits BinOp.and IntKind.u32 (X.b.toNat : Int) (X.c.toNat : Int)))) % 4294967296),
      .int .u32 (X.a.toNat : Int), .int .u32 (X.b.toNat : Int), .int .u32 (X.c.toNat : Int), .int .u32 (((X.d.toNat : Int) + (T.toNat : Int)) % 4294967296), .int .u32 (X.e.toNat : Int), .int .u32 (X.f.toNat : Int), .int .u32 (X.g.toNat : Int)] = (rnd X kn ln).vals := by
  rw [big0_v, u32_and_v, u32_and_v, u32_and_v, u32_xor_v, u32_xor_v, add_add_m, u32_add_m]
  subst hS
  subst hT
  rfl
theorem add8_get (x y : W8) (i : Nat) (h : i < 8) : (add8 x y).list.getD i 0 = x.list.getD i 0 + y.list.getD i 0 := by
  match i, h with
  | 0, _ | 1, _ | 2, _ | 3, _ | 4, _ | 5, _ | 6, _ | 7, _ => rfl
/-- The first words are summed. -/
def half8 (x y : W8) (n : Nat) : List UInt32 := (add8 x y).list.take n ++ x.list.drop n
theorem half8_length (x y : W8) (n : Nat) (h : n ≤ 8) : (half8 x y n).length = 8 := by simp [half8, W8.list]; omega
theorem half8_zero (x y : W8) : half8 x y 0 = x.list := by simp [half8]
theorem half8_full (x y : W8) : half8 x y 8 = (add8 x y).list := by simp [half8, W8.list]
theorem half8_at (x y : W8) (n : Nat) (h : n < 8) (h2 : n < (half8 x y n).length) : (half8 x y n)[n] = x.list.getD n 0 := by
  match n, h with
  | 0, _ | 1, _ | 2, _ | 3, _ | 4, _ | 5, _ | 6, _ | 7, _ => rfl
theorem half8_set (x y : W8) (n : Nat) (h : n < 8) : (half8 x y n).set n (x.list.getD n 0 + y.list.getD n 0) = half8 x y (n + 1) := by
  match n, h with
  | 0, _ | 1, _ | 2, _ | 3, _ | 4, _ | 5, _ | 6, _ | 7, _ => rfl
end Go.Proofs.YtddpefbpiehgeaaDoor
