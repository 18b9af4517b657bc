/- The seal: Key. -/
import Derived.Test.YtddpefbpiehgeaaDoorSealD
import Derived.Lib.SlBytesConst
namespace Go.Proofs.YtddpefbpiehgeaaDoor
open Go Go.RowKit
set_option maxRecDepth 100000
set_option linter.unusedVariables false
set_option linter.unusedSectionVars false
set_option linter.unusedSimpArgs false

theorem own_alloc (w : World) (T : TypeId) (l : List UInt8) (n base : Nat) (fr : Nat × Nat) (hf : fr = (0, 0) ∨ l.length ≤ fr.1) (hn : n = l.length) (hb : base ≤ w.heap.size) (hm : n ≤ maxLen) :
    Own (w.alloc (.cells (bcells l).toArray T fr)) base T 1 (.slice (some ⟨w.heap.size, 0, none⟩) n n) n (bcells l) := by
  subst hn
  refine ⟨by simp only [bcells_length, Nat.mul_one], .inr ⟨w.heap.size, l.length, _, fr, rfl, hb, heap_alloc_new w _, (by simpa using hf), Nat.le_refl _, hm, by simp only [List.size_toArray, bcells_length, Nat.mul_one], ?_⟩⟩
  exact List.take_of_length_le (by simp only [bcells_length, Nat.mul_one]; exact Nat.le_refl _)

theorem key_long (s : ByteArray) (n : Int) (w : World) (hs : 200 < s.size) :
    Calls Tryd.prog 50 #[.string s, .int .i64 n] w fun e w' => e = .returned (.tuple #[.string ⟨#[]⟩, .int .i64 2]) ∧ w = w' := by
  have hd : decide (s.size ≤ 200) = false := by rw [decide_eq_false_iff_not]; omega
  go_enter Tryd.func50, Tryd.ntmps50
  go_wp2_with (first
    | (go_at_call 53; refine (smay_calls s _).mono ?_; rintro e w1 ⟨rfl, rfl⟩; rw [hd]))
  go_ret2
  exact ⟨rfl, rfl⟩

theorem key_wide (s : ByteArray) (n : Int) (w : World) (hs : s.size ≤ 200) (hn : n < 0 ∨ 65535 < n) :
    Calls Tryd.prog 50 #[.string s, .int .i64 n] w fun e w' => e = .returned (.tuple #[.string ⟨#[]⟩, .int .i64 1]) ∧ w = w' := by
  have hd : decide (s.size ≤ 200) = true := by rw [decide_eq_true_eq]; omega
  rcases Int.lt_or_le n 0 with h | h
  · have hd2 : decide (n < 0) = true := by rw [decide_eq_true_eq]; exact h
    clear hn
    go_enter Tryd.func50, Tryd.ntmps50
    go_wp2_with (first
      | (go_at_call 53; refine (smay_calls s _).mono ?_; rintro e w1 ⟨rfl, rfl⟩; rw [hd]))
    go_ret2
    exact ⟨rfl, rfl⟩
  · have hd2 : decide (n < 0) = false := by rw [decide_eq_false_iff_not]; omega
    have hd3 : decide (65535 < n) = true := by rw [decide_eq_true_eq]; omega
    clear hn
    go_enter Tryd.func50, Tryd.ntmps50
    go_wp2_with (first
      | (go_at_call 53; refine (smay_calls s _).mono ?_; rintro e w1 ⟨rfl, rfl⟩; rw [hd]))
    go_ret2
    exact ⟨rfl, rfl⟩

/-- The key of a device out of a key. -/
def devOf (n : Nat) : List UInt8 := [100, 101, 118, 105, 99, 101] ++ dig n 2
def keyOf (s : ByteArray) (n : Nat) : ByteArray := ⟨(hmac s (devOf n)).toArray⟩
theorem keyOf_size (s : ByteArray) (n : Nat) : (keyOf s n).size = 32 := by
  show (hmac s (devOf n)).toArray.size = 32
  rw [List.size_toArray, hmac_length]

theorem dig2 (n : Nat) (h : n ≤ 65535) : (#[.int .u8 ((n : Int) / 256), .int .u8 ((n : Int) % 256)] : Array Value) = (bcells (dig n 2)).toArray := by
  simp [dig_cons, bcells, dig]
  omega
theorem dev6 : (#[.int .u8 100, .int .u8 101, .int .u8 118, .int .u8 105, .int .u8 99, .int .u8 101] : Array Value) = (bcells [100, 101, 118, 105, 99, 101]).toArray := rfl

theorem key_calls (s : ByteArray) (n : Nat) (w : World) (hG : GH w) (hs : s.size ≤ 200) (hn : n ≤ 65535) :
    Calls Tryd.prog 50 #[.string s, .int .i64 n] w fun e w' => e = .returned (.tuple #[.string (keyOf s n), .int .i64 0]) ∧ Kp [] w w' := by
  obtain ⟨i0, hi, hz0, hz1, hz2⟩ := info_parts u8info
  have hd : decide (s.size ≤ 200) = true := by rw [decide_eq_true_eq]; omega
  have hn0 : (0 : Int) ≤ n ∧ (n : Int) ≤ 65535 := by omega
  obtain ⟨hn1, hn2⟩ := hn0
  have hd2 : decide ((n : Int) < 0) = false := by rw [decide_eq_false_iff_not]; omega
  have hd3 : decide (65535 < (n : Int)) = false := by rw [decide_eq_false_iff_not]; omega
  have hcs := Lib.run_convert_bytes_const (P := Tryd.prog) w 23 5 #[.int .u8 100, .int .u8 101, .int .u8 118, .int .u8 105, .int .u8 99, .int .u8 101] 6 6 Tryd.underlying23 Tryd.underlying5
  simp only [List.size_toArray, List.length_cons, List.length_nil, Nat.zero_add, Nat.reduceAdd] at hcs
  go_enter Tryd.func50, Tryd.ntmps50
  go_wp2_with (first
    | (go_at_call 53; refine (smay_calls s _).mono ?_; rintro e w1 ⟨rfl, rfl⟩; rw [hd])
    | (with_reducible refine stop_app ?_))
  unfold Stop
  rw [dig2 n hn, dev6]
  have hoA := own_alloc w 5 [100, 101, 118, 105, 99, 101] 6 w.heap.size (6, 7) (.inr (by simp)) rfl (Nat.le_refl _) (by unfold maxLen; omega)
  have hkA := (Kp.refl [] w).alloc (.cells (bcells [100, 101, 118, 105, 99, 101]).toArray 5 (6, 7))
  have hoB := own_kp hoA ((Kp.refl [] _).alloc (.cells (bcells (dig n 2)).toArray 5)) (by simp)
  have hkB := hkA.alloc (.cells (bcells (dig n 2)).toArray 5)
  have hsB := bs_alloc (w.alloc (.cells (bcells [100, 101, 118, 105, 99, 101]).toArray 5 (6, 7))) 5 (dig n 2) _ rfl 2 (dig_length 2 n).symm
  rw [World.size_alloc] at hsB
  generalize w.alloc (.cells (bcells [100, 101, 118, 105, 99, 101]).toArray 5 (6, 7)) = wA at *
  generalize wA.alloc (.cells (bcells (dig n 2)).toArray 5) = wB at *
  refine wpList_app _ rfl _ _ 23 23 rfl w.heap.size 5 i0 _ 1 1 Tryd.underlying23 hi hz0 hz1 hz2 rfl (by omega) (.slice (some ⟨w.heap.size, 0, none⟩) 6 6) _ _ rfl hoB (.slice (some ⟨w.heap.size + 1, 0, none⟩) 2 2) 2 (bcells (dig n 2)) rfl (Src.of_sl Tryd.underlying23 hsB bcells_one) (by omega) (by omega) hkB.size ?_
  intro v1 w1 ho1 hg1 hx1
  rw [← bcells_append] at ho1
  have hk1 : Kp [] w w1 := hkB.grown hg1 (fun k hk => .inr (hoB.lt k hk).1)
  have hb1 : Bs w1 v1 (devOf n) := OB.bs ho1
  have hml := hmac_length s (devOf n)
  obtain ⟨a1, c1, rfl⟩ := own_form ho1
  go_wp2_with (first
    | (go_at_call 54; refine (mac_calls s _ _ _ (hG.kp0 hk1) (by omega) hb1 (by simp [devOf])).mono ?_; rintro e w2 ⟨v2, rfl, ho2, hk2⟩; have hcv := b2s (OB.bs ho2) 23 9 5 Tryd.underlying23 Tryd.underlying5 Tryd.underlying9))
  go_ret2
  exact ⟨rfl, hk1.trans hk2⟩
end Go.Proofs.YtddpefbpiehgeaaDoor
