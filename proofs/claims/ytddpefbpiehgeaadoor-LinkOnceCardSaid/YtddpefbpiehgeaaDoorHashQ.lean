/- Plain: the digest, block by block. -/
import Derived.Test.YtddpefbpiehgeaaDoorHashP
import Derived.Test.YtddpefbpiehgeaaDoorWireP
namespace Go.Proofs.YtddpefbpiehgeaaDoor

/-- n blocks are taken in. -/
def absN (ks : List UInt32) : Nat → W8 → List UInt8 → W8 × List UInt8
  | 0, x, l => (x, l)
  | n + 1, x, l => absN ks n (chg ks x (l.take 64)) (l.drop 64)
/-- All whole blocks are taken in. -/
def absorb (ks : List UInt32) (x : W8) (l : List UInt8) : W8 × List UInt8 := absN ks (l.length / 64) x l

theorem absN_rest (ks : List UInt32) : ∀ n x l, (absN ks n x l).2 = l.drop (64 * n)
  | 0, _, _ => by simp [absN]
  | n + 1, x, l => by rw [absN, absN_rest ks n, List.drop_drop]; congr 1; omega
theorem absorb_rest (ks : List UInt32) (x : W8) (l : List UInt8) : (absorb ks x l).2.length = l.length % 64 := by
  rw [absorb, absN_rest, List.length_drop]; omega
theorem absN_succ (ks : List UInt32) : ∀ n x l, absN ks (n + 1) x l = (chg ks (absN ks n x l).1 ((absN ks n x l).2.take 64), (absN ks n x l).2.drop 64)
  | 0, x, l => rfl
  | n + 1, x, l => by rw [absN, absN_succ ks n]; rfl
theorem absN_add (ks : List UInt32) : ∀ m n x l, absN ks (m + n) x l = absN ks n (absN ks m x l).1 (absN ks m x l).2
  | 0, n, x, l => by simp [absN]
  | m + 1, n, x, l => by rw [show m + 1 + n = (m + n) + 1 by omega, absN, absN_add ks m n]; rfl
theorem absN_append (ks : List UInt32) : ∀ n x l b, 64 * n ≤ l.length → absN ks n x (l ++ b) = ((absN ks n x l).1, (absN ks n x l).2 ++ b)
  | 0, _, _, _, _ => rfl
  | n + 1, x, l, b, h => by
    rw [absN, absN, List.take_append_of_le_length (by omega), List.drop_append_of_le_length (by omega)]
    exact absN_append ks n _ _ b (by rw [List.length_drop]; omega)
theorem absorb_append (ks : List UInt32) (x : W8) (l b : List UInt8) : absorb ks x (l ++ b) = absorb ks (absorb ks x l).1 ((absorb ks x l).2 ++ b) := by
  have h1 := absorb_rest ks x l
  unfold absorb at h1 ⊢
  have h : (l ++ b).length / 64 = l.length / 64 + ((absN ks (l.length / 64) x l).2 ++ b).length / 64 := by
    rw [List.length_append, List.length_append, h1]; omega
  rw [h, absN_add, absN_append ks _ x l b (by omega)]

/-- What is put behind so many bytes. -/
def padOf (n : Nat) : List UInt8 := 128 :: (List.replicate ((119 - n % 64) % 64) 0 ++ dig (8 * n) 8)
theorem padOf_length (n : Nat) : (n + (padOf n).length) % 64 = 0 := by simp [padOf]; omega
theorem padOf_mod (n m : Nat) (h : n % 64 = m % 64) : padOf n = 128 :: (List.replicate ((119 - m % 64) % 64) 0 ++ dig (8 * n) 8) := by rw [padOf, h]

/-- Words as bytes. -/
def outOf (l : List UInt32) : List UInt8 := l.flatMap fun x => dig x.toNat 4
theorem outOf_length (l : List UInt32) : (outOf l).length = 4 * l.length := by
  induction l with
  | nil => rfl
  | cons x l ih => simp [outOf] at ih ⊢; omega
theorem outOf_snoc (l : List UInt32) (x : UInt32) : outOf (l ++ [x]) = outOf l ++ dig x.toNat 4 := by simp [outOf]

def startW (l : List UInt32) : W8 := ⟨l.getD 0 0, l.getD 1 0, l.getD 2 0, l.getD 3 0, l.getD 4 0, l.getD 5 0, l.getD 6 0, l.getD 7 0⟩
/-- The digest of bytes, out of the tables. -/
def digest (ks i : List UInt32) (l : List UInt8) : List UInt8 := outOf (absorb ks (startW i) (l ++ padOf l.length)).1.list
theorem digest_length (ks i : List UInt32) (l : List UInt8) : (digest ks i l).length = 32 := by simp [digest, outOf_length, W8.list]
end Go.Proofs.YtddpefbpiehgeaaDoor
