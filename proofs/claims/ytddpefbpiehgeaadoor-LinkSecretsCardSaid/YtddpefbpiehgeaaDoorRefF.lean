/- The reference's seal: Mac, Key; the reference's Secret. -/
import Derived.Test.YtddpefbpiehgeaaDoorRefE
import Derived.Test.YtddpefbpiehgeaaDoorLinkC
namespace Go.Proofs.YtddpefbpiehgeaaDoor
open Go Go.RowKit
set_option maxRecDepth 100000
set_option linter.unusedVariables false
set_option linter.unusedSectionVars false
set_option linter.unusedSimpArgs false

theorem rmac_calls (s : ByteArray) (v : Value) (l : List UInt8) (w : World) (hG : GR w) (hs : s.size ≤ 200) (hv : Bs w v l) (hl : l.length ≤ 140737488352000) :
    Calls Tryd.prog 60 #[.string s, v] w fun e w' => ∃ v, e = .returned (.tuple #[v, .int .i64 0]) ∧ OB w' 5 w.heap.size v (hmac s l) ∧ Kp [] w w' := by
  obtain ⟨i0, hi, hz0, hz1, hz2⟩ := info_parts u8info
  have hd : decide ((200 : Int) < (s.size : Int)) = false := by rw [decide_eq_false_iff_not]; omega
  have hpl := padded_length s
  have hml : ∀ b : UInt8, ((padded s).map (· ^^^ b)).length = 64 := fun b => by rw [List.length_map, hpl]
  have hsl := sha_length ((padded s).map (· ^^^ 54) ++ l)
  have hmac' : hmac s l = sha ((padded s).map (· ^^^ 92) ++ sha ((padded s).map (· ^^^ 54) ++ l)) := rfl
  rw [hmac']
  have hml1 := hml 54
  have hml2 := hml 92
  have hrec : ∀ (b : UInt8) (w : World), GR w → Calls Tryd.prog 90 #[.string s, .int .u8 (b.toNat : Int)] w fun e w' => ∃ v, e = .returned v ∧ OB w' 5 w.heap.size v ((padded s).map (· ^^^ b)) ∧ Kp [] w w' := fun b w hG => under_calls s b _ rfl w hG (by omega)
  have hr1 := hrec 54
  have hr2 := hrec 92
  generalize (padded s).map (· ^^^ (54 : UInt8)) = p1 at *
  generalize (padded s).map (· ^^^ (92 : UInt8)) = p2 at *
  clear hmac' hml hrec
  obtain ⟨av, cv, rfl, -⟩ := Sl.form hv
  have HR1 := Lib.hid hr1
  have HR2 := Lib.hid hr2
  clear hr1 hr2
  go_enter Tryd.func60, Tryd.ntmps60
  go_wp2_with fail
  refine (HR1.out _ hG).mono ?_
  rintro e w1 ⟨v1, rfl, ho1, hk1⟩
  obtain ⟨a1, c1, rfl⟩ := own_form ho1
  rw [hml1] at ho1 ⊢
  go_wp2_with (with_reducible refine stop_app ?_)
  unfold Stop
  refine wpList_app _ rfl _ _ 23 23 rfl w.heap.size 5 i0 _ 1 1 Tryd.underlying23 hi hz0 hz1 hz2 rfl (by omega) (.slice a1 64 c1) _ _ rfl (by unfold OB at ho1; rw [hml1] at ho1; exact ho1) (.slice av l.length cv) l.length (bcells (l)) rfl (Src.of_sl Tryd.underlying23 (hv.kp0 hk1) bcells_one) (by omega) (by omega) hk1.size ?_
  intro v2 w2 ho2 hg2 hx2
  have hk2 := hk1.grown hg2 (fun k hk => .inr (ho1.lt k hk).1)
  rw [← bcells_append] at ho2
  obtain ⟨a2, c2, rfl⟩ := own_form ho2
  have hb2 : Bs w2 (.slice a2 (64 + l.length) c2) (p1 ++ l) := by
    have := Sl.of_own ho2
    unfold Bs
    rw [List.length_append, hml1]
    exact this
  go_wp2_with fail
  refine (rsum_calls _ _ _ (hG.kp0 hk2) hb2 (by rw [List.length_append]; omega)).mono ?_
  rintro e w3 ⟨v3, rfl, ho3, hk3⟩
  have hk13 := hk2.trans hk3
  obtain ⟨a3, c3, rfl⟩ := own_form ho3
  go_wp2_with fail
  refine (HR2.out _ (hG.kp0 hk13)).mono ?_
  rintro e w4 ⟨v4, rfl, ho4, hk4⟩
  have hk14 := hk13.trans hk4
  obtain ⟨a4, c4, rfl⟩ := own_form ho4
  have hb3 : Bs w4 (.slice a3 (sha (p1 ++ l)).length c3) (sha (p1 ++ l)) := (OB.bs ho3).kp0 hk4
  have hlt4 := ho4.lt
  have hs3 := hk13.size
  generalize hdd : sha (p1 ++ l) = d at *
  have HDD := Lib.hid hdd
  clear hdd
  rw [hml2] at ho4 ⊢
  have hb32 : Sl w4 1 (.slice a3 32 c3) 32 (bcells d) := by
    have := hb3
    unfold Bs at this
    rw [hsl] at this
    exact this
  go_wp2_with (with_reducible refine stop_app ?_)
  unfold Stop
  refine wpList_app _ rfl _ _ 23 23 rfl w.heap.size 5 i0 _ 1 1 Tryd.underlying23 hi hz0 hz1 hz2 rfl (by omega) (.slice a4 64 c4) _ _ rfl (own_base (by unfold OB at ho4; rw [hml2] at ho4; exact ho4) (fun b hb => by have := (hlt4 b (by rw [hml2]; exact hb)).1; omega)) (.slice a3 32 c3) 32 (bcells (d)) rfl (Src.of_sl Tryd.underlying23 hb32 bcells_one) (by omega) (by omega) hk14.size ?_
  intro v5 w5 ho5 hg5 hx5
  have hk5 := hk14.grown hg5 (fun k hk => .inr (by have := (hlt4 k (by rw [hml2]; exact hk)).1; omega))
  rw [← bcells_append] at ho5
  obtain ⟨a5, c5, rfl⟩ := own_form ho5
  have hb5 : Bs w5 (.slice a5 (64 + 32) c5) (p2 ++ d) := by
    have := Sl.of_own ho5
    unfold Bs
    rw [List.length_append, hml2, hsl]
    exact this
  go_wp2_with fail
  refine (rsum_calls _ _ _ (hG.kp0 hk5) hb5 (by rw [List.length_append]; omega)).mono ?_
  rintro e w6 ⟨v6, rfl, ho6, hk6⟩
  rw [← HDD.out] at ho6
  go_wp2_with fail
  go_ret2
  exact ⟨_, rfl, own_base ho6 (fun b hb => by have := (ho6.lt b hb).1; have := hk5.size; omega), hk5.trans hk6⟩

theorem rkey_long (s : ByteArray) (n : Int) (w : World) (hs : 200 < s.size) :
    Calls Tryd.prog 51 #[.string s, .int .i64 n] w fun e w' => e = .returned (.tuple #[.string ⟨#[]⟩, .int .i64 2]) ∧ w = w' := by
  have hd : decide ((200 : Int) < (s.size : Int)) = true := by rw [decide_eq_true_eq]; omega
  go_enter Tryd.func51, Tryd.ntmps51
  go_wp2
  go_ret2
  exact ⟨rfl, rfl⟩

theorem rkey_wide (s : ByteArray) (n : Int) (w : World) (hs : s.size ≤ 200) (hn : n < 0 ∨ 65535 < n) :
    Calls Tryd.prog 51 #[.string s, .int .i64 n] w fun e w' => e = .returned (.tuple #[.string ⟨#[]⟩, .int .i64 1]) ∧ w = w' := by
  have hd : decide ((200 : Int) < (s.size : Int)) = false := by rw [decide_eq_false_iff_not]; omega
  rcases Int.lt_or_le n 0 with h | h
  · have hd2 : decide (n < 0) = true := by rw [decide_eq_true_eq]; exact h
    clear hn
    go_enter Tryd.func51, Tryd.ntmps51
    go_wp2
    go_ret2
    exact ⟨rfl, rfl⟩
  · have hd2 : decide (n < 0) = false := by rw [decide_eq_false_iff_not]; omega
    have hd3 : decide (65535 < n) = true := by rw [decide_eq_true_eq]; omega
    clear hn
    go_enter Tryd.func51, Tryd.ntmps51
    go_wp2
    go_ret2
    exact ⟨rfl, rfl⟩

theorem rkey_calls (s : ByteArray) (n : Nat) (w : World) (hG : GR w) (hs : s.size ≤ 200) (hn : n ≤ 65535) :
    Calls Tryd.prog 51 #[.string s, .int .i64 n] w fun e w' => e = .returned (.tuple #[.string (keyOf s n), .int .i64 0]) ∧ Kp [] w w' := by
  obtain ⟨i0, hi, hz0, hz1, hz2⟩ := info_parts u8info
  have hd : decide ((200 : Int) < (s.size : Int)) = false := by rw [decide_eq_false_iff_not]; omega
  have hn0 : (0 : Int) ≤ n ∧ (n : Int) ≤ 65535 := by omega
  obtain ⟨hn1, hn2⟩ := hn0
  have hd2 : decide ((n : Int) < 0) = false := by rw [decide_eq_false_iff_not]; omega
  have hd3 : decide (65535 < (n : Int)) = false := by rw [decide_eq_false_iff_not]; omega
  have hcs := Lib.run_convert_bytes_const (P := Tryd.prog) w 23 5 #[.int .u8 100, .int .u8 101, .int .u8 118, .int .u8 105, .int .u8 99, .int .u8 101] 6 6 Tryd.underlying23 Tryd.underlying5
  simp only [List.size_toArray, List.length_cons, List.length_nil, Nat.zero_add, Nat.reduceAdd] at hcs
  go_enter Tryd.func51, Tryd.ntmps51
  go_wp2_with (with_reducible refine stop_app ?_)
  unfold Stop
  rw [dig2 n hn, dev6]
  have hoA := own_alloc w 5 [100, 101, 118, 105, 99, 101] 6 w.heap.size (6, 7) (.inr (by simp)) rfl (Nat.le_refl _) (by unfold maxLen; omega)
  have hkA := (Kp.refl [] w).alloc (.cells (bcells [100, 101, 118, 105, 99, 101]).toArray 5 (6, 7))
  have hoB := own_kp hoA ((Kp.refl [] _).alloc (.cells (bcells (dig n 2)).toArray 5)) (by simp)
  have hkB := hkA.alloc (.cells (bcells (dig n 2)).toArray 5)
  have hsB := bs_alloc (w.alloc (.cells (bcells [100, 101, 118, 105, 99, 101]).toArray 5 (6, 7))) 5 (dig n 2) _ rfl 2 (dig_length 2 n).symm
  rw [World.size_alloc] at hsB
  generalize w.alloc (.cells (bcells [100, 101, 118, 105, 99, 101]).toArray 5 (6, 7)) = wA at *
  generalize wA.alloc (.cells (bcells (dig n 2)).toArray 5) = wB at *
  refine wpList_app _ rfl _ _ 23 23 rfl w.heap.size 5 i0 _ 1 1 Tryd.underlying23 hi hz0 hz1 hz2 rfl (by omega) (.slice (some ⟨w.heap.size, 0, none⟩) 6 6) _ _ rfl hoB (.slice (some ⟨w.heap.size + 1, 0, none⟩) 2 2) 2 (bcells (dig n 2)) rfl (Src.of_sl Tryd.underlying23 hsB bcells_one) (by omega) (by omega) hkB.size ?_
  intro v1 w1 ho1 hg1 hx1
  rw [← bcells_append] at ho1
  have hk1 : Kp [] w w1 := hkB.grown hg1 (fun k hk => .inr (hoB.lt k hk).1)
  have hb1 : Bs w1 v1 (devOf n) := OB.bs ho1
  have hml := hmac_length s (devOf n)
  obtain ⟨a1, c1, rfl⟩ := own_form ho1
  go_wp2_with (first
    | (go_at_call 60; refine (rmac_calls s _ _ _ (hG.kp0 hk1) hs hb1 (by simp [devOf])).mono ?_; rintro e w2 ⟨v2, rfl, ho2, hk2⟩; have hcv := b2s (OB.bs ho2) 23 9 5 Tryd.underlying23 Tryd.underlying5 Tryd.underlying9))
  go_ret2
  exact ⟨rfl, hk1.trans hk2⟩

theorem rsecret_long (s : ByteArray) (n : Int) (w : World) (hs : 200 < s.size) :
    Calls Tryd.prog 30 #[.string s, .int .i64 n] w fun e w' => e = .returned (.tuple #[.string ⟨#[]⟩, .int .i64 2]) ∧ w = w' := by
  go_enter Tryd.func30, Tryd.ntmps30
  go_wp2_with (first
    | (go_at_call 51; (with_reducible refine (rkey_long s n _ hs).mono ?_); rintro e w3 ⟨rfl, rfl⟩))
  go_ret2
  exact ⟨rfl, rfl⟩
theorem rsecret_wide (s : ByteArray) (n : Int) (w : World) (hs : s.size ≤ 200) (hn : n < 0 ∨ 65535 < n) :
    Calls Tryd.prog 30 #[.string s, .int .i64 n] w fun e w' => e = .returned (.tuple #[.string ⟨#[]⟩, .int .i64 1]) ∧ w = w' := by
  go_enter Tryd.func30, Tryd.ntmps30
  go_wp2_with (first
    | (go_at_call 51; (with_reducible refine (rkey_wide s n _ hs hn).mono ?_); rintro e w3 ⟨rfl, rfl⟩))
  go_ret2
  exact ⟨rfl, rfl⟩
theorem rsecret_calls (s : ByteArray) (n : Nat) (w : World) (hG : GR w) (hs : s.size ≤ 200) (hn : n ≤ 65535) :
    Calls Tryd.prog 30 #[.string s, .int .i64 n] w fun e w' => e = .returned (.tuple #[.string (keyOf (keyOf s n) 0), .int .i64 0]) ∧ Kp [] w w' := by
  have h32 := keyOf_size s n
  go_enter Tryd.func30, Tryd.ntmps30
  go_wp2_with (first
    | (go_at_call 51; (with_reducible refine (rkey_calls s n _ hG hs hn).mono ?_); rintro e w1 ⟨rfl, hk1⟩)
    | (go_at_call 51; (refine (rkey_calls (keyOf s n) 0 _ (hG.kp0 hk1) (by omega) (by omega)).mono ?_); rintro e w2 ⟨rfl, hk2⟩))
  go_ret2
  exact ⟨rfl, hk1.trans hk2⟩
end Go.Proofs.YtddpefbpiehgeaaDoor
