/- Plain: the digits of a number, the highest byte first. -/
namespace Go.Proofs.YtddpefbpiehgeaaDoor

/-- k bytes of n, the highest first. -/
def dig (n : Nat) : Nat → List UInt8
  | 0 => []
  | k + 1 => dig (n / 256) k ++ [UInt8.ofNat n]

@[simp] theorem dig_length : ∀ (k n : Nat), (dig n k).length = k
  | 0, _ => rfl
  | k + 1, n => by simp [dig, dig_length k]

theorem dig_cons (n : Nat) : ∀ k, dig n (k + 1) = UInt8.ofNat (n / 256 ^ k) :: dig n k := by
  intro k
  induction k generalizing n with
  | zero => simp [dig]
  | succ k ih =>
    rw [dig, ih (n / 256), dig]
    simp only [List.cons_append, List.cons.injEq, and_true]
    rw [Nat.div_div_eq_div_mul, Nat.pow_succ, Nat.mul_comm]

/-- The number that bytes spell. -/
def num : List UInt8 → Nat := List.foldl (fun n x => n * 256 + x.toNat) 0
theorem num_nil : num [] = 0 := rfl
theorem num_snoc (l : List UInt8) (x : UInt8) : num (l ++ [x]) = num l * 256 + x.toNat := by simp [num]
theorem num_lt : ∀ l : List UInt8, num l < 256 ^ l.length := by
  intro l
  rw [← List.reverse_reverse l]
  generalize l.reverse = m
  induction m with
  | nil => simp [num]
  | cons x m ih =>
    rw [List.reverse_cons, num_snoc]
    simp only [List.length_append, List.length_reverse, List.length_cons, List.length_nil, Nat.zero_add, Nat.pow_succ] at *
    have := x.toNat_lt
    omega
theorem num_lt2 (l : List UInt8) : num (l.take 2) < 65536 := by
  have h := num_lt (l.take 2)
  have h2 : (l.take 2).length ≤ 2 := List.length_take_le 2 l
  have h3 : 256 ^ (l.take 2).length ≤ 256 ^ 2 := Nat.pow_le_pow_right (by omega) h2
  omega
theorem num_dig (k n : Nat) (h : n < 256 ^ k) : num (dig n k) = n := by
  induction k generalizing n with
  | zero => simp at h; simp [dig, num, h]
  | succ k ih =>
    rw [dig, num_snoc, ih (n / 256) (by rw [Nat.pow_succ] at h; exact Nat.div_lt_of_lt_mul (by rw [Nat.mul_comm]; exact h))]
    simp
    omega
theorem dig_num (l : List UInt8) : dig (num l) l.length = l := by
  rw [← List.reverse_reverse l]
  generalize l.reverse = m
  induction m with
  | nil => simp [dig]
  | cons x m ih =>
    rw [List.reverse_cons, num_snoc]
    simp only [List.length_append, List.length_cons, List.length_nil, Nat.zero_add]
    rw [dig]
    have h1 : (num m.reverse * 256 + x.toNat) / 256 = num m.reverse := by have := x.toNat_lt; omega
    rw [h1, ih]
    congr 1
    simp
theorem byte_shr (n : Int) (h0 : 0 ≤ n) (i : Nat) : n / 2 ^ (8 * i) % 256 = ((UInt8.ofNat (n.toNat / 256 ^ i)).toNat : Int) := by
  obtain ⟨m, rfl⟩ := Int.eq_ofNat_of_zero_le h0
  rw [Int.toNat_natCast, show (UInt8.ofNat (m / 256 ^ i)).toNat = m / 256 ^ i % 256 from by simp, show 256 ^ i = 2 ^ (8 * i) from by rw [show (256 : Nat) = 2 ^ 8 from rfl, ← Nat.pow_mul]]
  simp
theorem dig_step (m k i : Nat) (h : i < k) : (List.replicate (k - i) (0 : UInt8) ++ dig m i).set (k - 1 - i) (UInt8.ofNat (m / 256 ^ i)) = List.replicate (k - (i + 1)) 0 ++ dig m (i + 1) := by
  obtain ⟨j, rfl⟩ : ∃ j, k = i + 1 + j := ⟨k - (i + 1), by omega⟩
  rw [show i + 1 + j - i = j + 1 by omega, show i + 1 + j - 1 - i = j by omega, show i + 1 + j - (i + 1) = j by omega, List.replicate_succ', dig_cons, List.append_assoc, List.set_append_right _ _ (by simp)]
  simp

/-- A reader's state, but for its bytes. -/
structure RS where
  at_ : Nat
  last : Nat
  code : Int
  fat : Int

def RS.fault (s : RS) (c : Int) : RS := { s with code := c, fat := s.at_ }
def RS.move (s : RS) (n : Nat) : RS := { s with at_ := s.at_ + n, last := s.at_ }

def rdNum (d : List UInt8) (k : Nat) (s : RS) : Nat × RS :=
  if s.code ≠ 0 then (0, s)
  else if d.length < k + s.at_ then (0, s.fault 10)
  else if 9223372036854775807 < num ((d.drop s.at_).take k) then (0, s.fault 11)
  else (num ((d.drop s.at_).take k), s.move k)

def rdCount (d : List UInt8) (most : Nat) (s : RS) : Nat × RS :=
  if s.code ≠ 0 then (0, s)
  else if d.length < 2 + s.at_ then (0, s.fault 10)
  else if most < num ((d.drop s.at_).take 2) then (0, s.fault 12)
  else (num ((d.drop s.at_).take 2), s.move 2)

def rdText (d : List UInt8) (most : Nat) (s : RS) : List UInt8 × RS :=
  if s.code ≠ 0 then ([], s)
  else if d.length < 2 + s.at_ then ([], s.fault 10)
  else if most < num ((d.drop s.at_).take 2) then ([], s.fault 12)
  else if d.length < num ((d.drop s.at_).take 2) + (s.at_ + 2) then ([], s.fault 10)
  else ((d.drop (s.at_ + 2)).take (num ((d.drop s.at_).take 2)), s.move (2 + num ((d.drop s.at_).take 2)))

def rdEnd (d : List UInt8) (s : RS) : RS := if s.code = 0 ∧ s.at_ < d.length then s.fault 13 else s
end Go.Proofs.YtddpefbpiehgeaaDoor
