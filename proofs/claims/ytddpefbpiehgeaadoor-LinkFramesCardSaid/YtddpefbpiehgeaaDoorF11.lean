/- The reference's frames: what may be, Make. -/
import Derived.Test.YtddpefbpiehgeaaDoorF10
import Derived.Test.YtddpefbpiehgeaaDoorF07
namespace Go.Proofs.YtddpefbpiehgeaaDoor
open Go Go.RowKit
set_option maxRecDepth 100000
set_option linter.unusedVariables false
set_option linter.unusedSectionVars false
set_option linter.unusedSimpArgs false

theorem rmay_no {f : Fr} (hk : f.k = 1) (h : f.its.length < 1 ∨ 8 < f.its.length ∨ f.a < 1 ∨ f.b < f.a ∨ 4294967295 < f.b + f.its.length - 1 ∨ 0 < f.t.length ∨ ∃ x ∈ f.its, 256 < x.length) : mayB f = false := by
  cases hm : mayB f
  · rfl
  · obtain ⟨h1, h2, h3, h4, h5, h6, h7⟩ := may_1 hm hk
    rw [h1] at h
    simp only [List.length_nil] at h
    rcases h with h | h | h | h | h | h | ⟨x, hx, h⟩
    · omega
    · omega
    · omega
    · omega
    · omega
    · omega
    · have := h2 x hx; omega

set_option maxHeartbeats 2000000 in
theorem rmay_1 (f : Fr) (iv tv : Value) (w : World) (hk : f.k = 1) (hi : Rws w iv f.its) (ht : Bs w tv f.t) (hn : f.its.length ≤ 100000000000000) (hnt : f.t.length ≤ 140737488352000) (hb : f.b ≤ 9223372036854775807) :
    Calls Tryd.prog 34 #[.agg (fcells f iv tv)] w fun e w' => e = .returned (.bool (mayB f)) ∧ Kp [] w w' := by
  obtain ⟨ia, ic, rfl, hic⟩ := hi.form
  obtain ⟨ta, tc, rfl, -⟩ := Sl.form ht
  have hk0 := (Kp.refl [] w).alloc (.cells (fcells f (.slice ia f.its.length ic) (.slice ta f.t.length tc)) 25)
  have hh0 := heap_alloc_new w (.cells (fcells f (.slice ia f.its.length ic) (.slice ta f.t.length tc)) 25)
  have hsz := World.size_alloc w (.cells (fcells f (.slice ia f.its.length ic) (.slice ta f.t.length tc)) 25)
  have hno := rmay_no hk
  have hyes : ¬ (f.its.length < 1) → ¬ (8 < f.its.length) → ¬ (f.a < 1) → ¬ (f.b < f.a) → ¬ (4294967295 < f.b + f.its.length - 1) → ¬ (0 < f.t.length) → (∀ x ∈ f.its, x.length ≤ 256) → mayB f = true := by
    intro a1 a2 a3 a4 a5 a6 a7
    have h8 : (f.its.all fun x => decide (x.length ≤ 256)) = true := by
      rw [List.all_eq_true]
      intro x hx
      have := a7 x hx
      simpa using this
    have h9 : f.t = [] := List.eq_nil_of_length_eq_zero (by omega)
    simp only [mayB, hk, itemsMayB, h8, h9]
    simp
    omega
  generalize hm : mayB f = m at *
  clear hm
  obtain ⟨k, fa, fb, its, t⟩ := f
  simp only at *
  subst hk
  unfold fcells at hk0 hh0 hsz ⊢
  simp only at hk0 hh0 hsz ⊢
  have HNO := Lib.hid hno
  have HYES := Lib.hid hyes
  clear hno hyes
  go_enter Tryd.func34, Tryd.ntmps34
  by_cases c1 : its.length < 1
  · have hm : m = false := HNO.out (.inl c1)
    have d1 : decide ((its.length : Int) < 1) = true := by rw [decide_eq_true_eq]; omega
    clear c1
    go_wp2
    go_ret
    exact ⟨rfl, hk0⟩
  have d1 : decide ((its.length : Int) < 1) = false := by rw [decide_eq_false_iff_not]; omega
  by_cases c2 : 8 < its.length
  · have hm : m = false := HNO.out (.inr (.inl c2))
    have d2 : decide (8 < (its.length : Int)) = true := by rw [decide_eq_true_eq]; omega
    clear c1 c2
    go_wp2
    go_ret
    exact ⟨rfl, hk0⟩
  have d2 : decide (8 < (its.length : Int)) = false := by rw [decide_eq_false_iff_not]; omega
  by_cases c3 : fa < 1
  · have hm : m = false := HNO.out (.inr (.inr (.inl c3)))
    have d3 : decide (fa < 1) = true := by rw [decide_eq_true_eq]; omega
    clear c1 c2 c3
    go_wp2
    go_ret
    exact ⟨rfl, hk0⟩
  have d3 : decide (fa < 1) = false := by rw [decide_eq_false_iff_not]; omega
  by_cases c4 : fb < fa
  · have hm : m = false := HNO.out (.inr (.inr (.inr (.inl c4))))
    have d4 : decide (fb < fa) = true := by rw [decide_eq_true_eq]; omega
    clear c1 c2 c3 c4
    go_wp2
    go_ret
    exact ⟨rfl, hk0⟩
  have d4 : decide (fb < fa) = false := by rw [decide_eq_false_iff_not]; omega
  by_cases c5 : 4294967295 < fb
  · have hm : m = false := HNO.out (.inr (.inr (.inr (.inr (.inl (by omega))))))
    have d5 : decide (4294967295 < fb) = true := by rw [decide_eq_true_eq]; omega
    clear c1 c2 c3 c4 c5
    go_wp2
    go_ret
    exact ⟨rfl, hk0⟩
  have d5 : decide (4294967295 < fb) = false := by rw [decide_eq_false_iff_not]; omega
  have e1 : IntKind.i64.wrap (fb + (its.length : Int)) = fb + its.length := IntWalk.i64_in _ (by omega)
  have e2 : IntKind.i64.wrap (fb + (its.length : Int) - 1) = fb + its.length - 1 := IntWalk.i64_in _ (by omega)
  by_cases c6 : 4294967295 < fb + its.length - 1
  · have hm : m = false := HNO.out (.inr (.inr (.inr (.inr (.inl c6)))))
    have d6 : decide (4294967295 < fb + (its.length : Int) - 1) = true := by rw [decide_eq_true_eq]; omega
    clear c1 c2 c3 c4 c5 c6
    go_wp2
    go_ret
    exact ⟨rfl, hk0⟩
  have d6 : decide (4294967295 < fb + (its.length : Int) - 1) = false := by rw [decide_eq_false_iff_not]; omega
  by_cases c7 : 0 < t.length
  · have hm : m = false := HNO.out (.inr (.inr (.inr (.inr (.inr (.inl c7))))))
    have d7 : decide (0 < t.length) = true := by rw [decide_eq_true_eq]; omega
    clear c1 c2 c3 c4 c5 c6 c7
    go_wp2
    go_ret
    exact ⟨rfl, hk0⟩
  have d7 : decide (0 < t.length) = false := by rw [decide_eq_false_iff_not]; omega
  have HC := Lib.hid (show (¬ (its.length < 1) ∧ ¬ (8 < its.length)) ∧ ¬ (fa < 1) ∧ ¬ (fb < fa) ∧ ¬ (4294967295 < fb + its.length - 1) ∧ ¬ (0 < t.length) from ⟨⟨c1, c2⟩, c3, c4, c6, c7⟩)
  clear c1 c2 c3 c4 c5 c6 c7
  go_wp2
  clear d1 d2 d3 d4 d5 d6 d7 e1 e2
  generalize w.alloc (.cells #[.int .i64 1, .int .i64 fa, .int .i64 fb, .slice ia its.length ic, .slice ta t.length tc] 25) = w0 at *
  go_loopw [4] (fun v4 wr => ∃ n : Nat, n ≤ its.length ∧ v4 = .int .i64 n ∧ (∀ x ∈ its.take n, x.length ≤ 256) ∧ wr = w0) (fun v4 _ => its.length - (intOf v4).toNat)
  case atStart => exact ⟨0, by omega, rfl, by simp, rfl⟩
  case round =>
    as_aux_lemma =>
    obtain ⟨n, hnl, rfl, hall, rfl⟩ := hrel
    have HALL := Lib.hid hall
    clear hall
    have hh0_3 := cell_heap (w := wr) (b := w.heap.size) hh0 3
    simp only [List.getElem?_toArray, List.getElem?_cons_zero, List.getElem?_cons_succ] at hh0_3
    by_cases hlt : n < its.length
    · obtain ⟨ib, io, ua, uc, rfl, hib, hcell, hbx⟩ := (hi.kp0 hk0).at n hlt
      have hmem : its[n] ∈ its := List.getElem_mem hlt
      have htk : its.take (n + 1) = its.take n ++ [its[n]] := List.take_succ_eq_append_getElem hlt
      generalize its[n] = x at *
      have i0 : (0 : Int) ≤ n ∧ (n : Int) < its.length := by omega
      by_cases hx : x.length ≤ 256
      · have hd : decide (256 < (x.length : Int)) = false := by rw [decide_eq_false_iff_not]; omega
        have HT := Lib.hid htk
        clear htk hmem
        go_wp2
        go_roundw
        case measure => simp [intOf]; omega
        case rel => exact ⟨n + 1, by omega, by go_num, by rw [HT.out]; intro y hy; rw [List.mem_append] at hy; rcases hy with hy | hy; exact HALL.out y hy; simp at hy; subst hy; exact hx, by trivial⟩
      · have hd : decide (256 < (x.length : Int)) = true := by rw [decide_eq_true_eq]; omega
        have hm : m = false := HNO.out (.inr (.inr (.inr (.inr (.inr (.inr ⟨x, hmem, by omega⟩))))))
        clear hmem htk hx
        go_wp2
        go_ret
        exact ⟨by rw [hm]; rfl, hk0⟩
    · have hd : decide ((n : Int) < (its.length : Int)) = false := by rw [decide_eq_false_iff_not]; omega
      obtain ⟨⟨c1, c2⟩, c3, c4, c6, c7⟩ := HC.out
      have hm : m = true := HYES.out c1 c2 c3 c4 c6 c7 (fun x hx => HALL.out x (by rw [List.take_of_length_le (by omega)]; exact hx))
      clear c1 c2 c3 c4 c6 c7
      go_wp2
      go_ret
      exact ⟨by rw [hm]; rfl, hk0⟩
theorem may_i2 (fa fb : Int) (its : List (List UInt8)) (t : List UInt8) : mayB ⟨2, fa, fb, its, t⟩ = true ↔ fa = 0 ∧ its.length = 0 ∧ t.length = 0 ∧ 0 ≤ fb ∧ fb ≤ 4294967295 := by
  simp [mayB, bareB, and_assoc]
theorem may_i3 (fa fb : Int) (its : List (List UInt8)) (t : List UInt8) : mayB ⟨3, fa, fb, its, t⟩ = true ↔ fa = 0 ∧ its.length = 0 ∧ t.length = 0 ∧ 0 ≤ fb ∧ fb ≤ 2147483648 := by
  simp [mayB, bareB, and_assoc]
theorem may_i4 (fa fb : Int) (its : List (List UInt8)) (t : List UInt8) : mayB ⟨4, fa, fb, its, t⟩ = true ↔ fa = 0 ∧ its.length = 0 ∧ fb = 0 ∧ t.length ≤ 16100 := by
  simp [mayB, bareB, and_assoc]
  omega
theorem may_io (fa fb : Int) (its : List (List UInt8)) (t : List UInt8) (k : Int) (hk : k ≠ 1 ∧ k ≠ 2 ∧ k ≠ 3 ∧ k ≠ 4) : mayB ⟨k, fa, fb, its, t⟩ = true ↔ False := by
  simp [mayB, hk]
set_option maxHeartbeats 1000000 in
theorem rmay_2 (f : Fr) (iv tv : Value) (w : World) (hk : f.k = 2) (hi : Rws w iv f.its) (ht : Bs w tv f.t) (hn : f.its.length ≤ 100000000000000) (hnt : f.t.length ≤ 140737488352000) (hb : f.b ≤ 9223372036854775807) :
    Calls Tryd.prog 34 #[.agg (fcells f iv tv)] w fun e w' => e = .returned (.bool (mayB f)) ∧ Kp [] w w' := by
  obtain ⟨ia, ic, rfl, hic⟩ := hi.form
  obtain ⟨ta, tc, rfl, -⟩ := Sl.form ht
  have hk0 := (Kp.refl [] w).alloc (.cells (fcells f (.slice ia f.its.length ic) (.slice ta f.t.length tc)) 25)
  obtain ⟨k, fa, fb, its, t⟩ := f
  simp only at *
  subst hk
  unfold fcells at hk0 ⊢
  simp only at hk0 ⊢
  generalize hm : mayB _ = m at *
  have HM := Lib.hid hm
  clear hm
  go_enter Tryd.func34, Tryd.ntmps34
  by_cases c1 : fa ≠ 0
  · have hm : m = false := by
      cases m with
      | false => rfl
      | true => have := (may_i2 _ _ _ _).1 HM.out; omega
    have d1 : (fa != 0) = true := by simpa using c1
    clear c1
    go_wp2
    go_ret
    exact ⟨by first | rfl | (rw [hm]; rfl), hk0⟩
  have d1 : (fa != 0) = false := by simpa using c1
  by_cases c2 : 0 < its.length
  · have hm : m = false := by
      cases m with
      | false => rfl
      | true => have := (may_i2 _ _ _ _).1 HM.out; omega
    have d2 : decide (0 < its.length) = true := by rw [decide_eq_true_eq]; omega
    clear c1 c2
    go_wp2
    go_ret
    exact ⟨by first | rfl | (rw [hm]; rfl), hk0⟩
  have d2 : decide (0 < its.length) = false := by rw [decide_eq_false_iff_not]; omega
  by_cases c3 : t.length = 0
  rotate_left
  · have hm : m = false := by
      cases m with
      | false => rfl
      | true => have := (may_i2 _ _ _ _).1 HM.out; omega
    have d3 : ((t.length : Int) == 0) = false := by simpa using c3
    clear c1 c2 c3
    go_wp2
    go_ret
    exact ⟨by first | rfl | (rw [hm]; rfl), hk0⟩
  have d3 : ((t.length : Int) == 0) = true := by simpa using c3
  by_cases c4 : 0 ≤ fb
  rotate_left
  · have hm : m = false := by
      cases m with
      | false => rfl
      | true => have := (may_i2 _ _ _ _).1 HM.out; omega
    have d4 : decide (0 ≤ fb) = false := by rw [decide_eq_false_iff_not]; omega
    clear c1 c2 c3 c4
    go_wp2
    go_ret
    exact ⟨by first | rfl | (rw [hm]; rfl), hk0⟩
  have d4 : decide (0 ≤ fb) = true := by rw [decide_eq_true_eq]; omega
  by_cases c5 : fb ≤ 4294967295
  rotate_left
  · have hm : m = false := by
      cases m with
      | false => rfl
      | true => have := (may_i2 _ _ _ _).1 HM.out; omega
    have d5 : decide (fb ≤ 4294967295) = false := by rw [decide_eq_false_iff_not]; omega
    clear c1 c2 c3 c4 c5
    go_wp2
    go_ret
    exact ⟨by first | rfl | (rw [hm]; rfl), hk0⟩
  have d5 : decide (fb ≤ 4294967295) = true := by rw [decide_eq_true_eq]; omega
  have hm : m = true := by rw [← HM.out]; exact (may_i2 _ _ _ _).2 (by omega)
  clear c1 c2 c3 c4 c5
  go_wp2
  go_ret
  exact ⟨by first | rfl | (rw [hm]; rfl), hk0⟩

set_option maxHeartbeats 1000000 in
theorem rmay_3 (f : Fr) (iv tv : Value) (w : World) (hk : f.k = 3) (hi : Rws w iv f.its) (ht : Bs w tv f.t) (hn : f.its.length ≤ 100000000000000) (hnt : f.t.length ≤ 140737488352000) (hb : f.b ≤ 9223372036854775807) :
    Calls Tryd.prog 34 #[.agg (fcells f iv tv)] w fun e w' => e = .returned (.bool (mayB f)) ∧ Kp [] w w' := by
  obtain ⟨ia, ic, rfl, hic⟩ := hi.form
  obtain ⟨ta, tc, rfl, -⟩ := Sl.form ht
  have hk0 := (Kp.refl [] w).alloc (.cells (fcells f (.slice ia f.its.length ic) (.slice ta f.t.length tc)) 25)
  obtain ⟨k, fa, fb, its, t⟩ := f
  simp only at *
  subst hk
  unfold fcells at hk0 ⊢
  simp only at hk0 ⊢
  generalize hm : mayB _ = m at *
  have HM := Lib.hid hm
  clear hm
  go_enter Tryd.func34, Tryd.ntmps34
  by_cases c1 : fa ≠ 0
  · have hm : m = false := by
      cases m with
      | false => rfl
      | true => have := (may_i3 _ _ _ _).1 HM.out; omega
    have d1 : (fa != 0) = true := by simpa using c1
    clear c1
    go_wp2
    go_ret
    exact ⟨by first | rfl | (rw [hm]; rfl), hk0⟩
  have d1 : (fa != 0) = false := by simpa using c1
  by_cases c2 : 0 < its.length
  · have hm : m = false := by
      cases m with
      | false => rfl
      | true => have := (may_i3 _ _ _ _).1 HM.out; omega
    have d2 : decide (0 < its.length) = true := by rw [decide_eq_true_eq]; omega
    clear c1 c2
    go_wp2
    go_ret
    exact ⟨by first | rfl | (rw [hm]; rfl), hk0⟩
  have d2 : decide (0 < its.length) = false := by rw [decide_eq_false_iff_not]; omega
  by_cases c3 : t.length = 0
  rotate_left
  · have hm : m = false := by
      cases m with
      | false => rfl
      | true => have := (may_i3 _ _ _ _).1 HM.out; omega
    have d3 : ((t.length : Int) == 0) = false := by simpa using c3
    clear c1 c2 c3
    go_wp2
    go_ret
    exact ⟨by first | rfl | (rw [hm]; rfl), hk0⟩
  have d3 : ((t.length : Int) == 0) = true := by simpa using c3
  by_cases c4 : 0 ≤ fb
  rotate_left
  · have hm : m = false := by
      cases m with
      | false => rfl
      | true => have := (may_i3 _ _ _ _).1 HM.out; omega
    have d4 : decide (0 ≤ fb) = false := by rw [decide_eq_false_iff_not]; omega
    clear c1 c2 c3 c4
    go_wp2
    go_ret
    exact ⟨by first | rfl | (rw [hm]; rfl), hk0⟩
  have d4 : decide (0 ≤ fb) = true := by rw [decide_eq_true_eq]; omega
  by_cases c5 : fb ≤ 2147483648
  rotate_left
  · have hm : m = false := by
      cases m with
      | false => rfl
      | true => have := (may_i3 _ _ _ _).1 HM.out; omega
    have d5 : decide (fb ≤ 2147483648) = false := by rw [decide_eq_false_iff_not]; omega
    clear c1 c2 c3 c4 c5
    go_wp2
    go_ret
    exact ⟨by first | rfl | (rw [hm]; rfl), hk0⟩
  have d5 : decide (fb ≤ 2147483648) = true := by rw [decide_eq_true_eq]; omega
  have hm : m = true := by rw [← HM.out]; exact (may_i3 _ _ _ _).2 (by omega)
  clear c1 c2 c3 c4 c5
  go_wp2
  go_ret
  exact ⟨by first | rfl | (rw [hm]; rfl), hk0⟩

set_option maxHeartbeats 1000000 in
theorem rmay_4 (f : Fr) (iv tv : Value) (w : World) (hk : f.k = 4) (hi : Rws w iv f.its) (ht : Bs w tv f.t) (hn : f.its.length ≤ 100000000000000) (hnt : f.t.length ≤ 140737488352000) (hb : f.b ≤ 9223372036854775807) :
    Calls Tryd.prog 34 #[.agg (fcells f iv tv)] w fun e w' => e = .returned (.bool (mayB f)) ∧ Kp [] w w' := by
  obtain ⟨ia, ic, rfl, hic⟩ := hi.form
  obtain ⟨ta, tc, rfl, -⟩ := Sl.form ht
  have hk0 := (Kp.refl [] w).alloc (.cells (fcells f (.slice ia f.its.length ic) (.slice ta f.t.length tc)) 25)
  obtain ⟨k, fa, fb, its, t⟩ := f
  simp only at *
  subst hk
  unfold fcells at hk0 ⊢
  simp only at hk0 ⊢
  generalize hm : mayB _ = m at *
  have HM := Lib.hid hm
  clear hm
  go_enter Tryd.func34, Tryd.ntmps34
  by_cases c1 : fa ≠ 0
  · have hm : m = false := by
      cases m with
      | false => rfl
      | true => have := (may_i4 _ _ _ _).1 HM.out; omega
    have d1 : (fa != 0) = true := by simpa using c1
    clear c1
    go_wp2
    go_ret
    exact ⟨by first | rfl | (rw [hm]; rfl), hk0⟩
  have d1 : (fa != 0) = false := by simpa using c1
  by_cases c2 : 0 < its.length
  · have hm : m = false := by
      cases m with
      | false => rfl
      | true => have := (may_i4 _ _ _ _).1 HM.out; omega
    have d2 : decide (0 < its.length) = true := by rw [decide_eq_true_eq]; omega
    clear c1 c2
    go_wp2
    go_ret
    exact ⟨by first | rfl | (rw [hm]; rfl), hk0⟩
  have d2 : decide (0 < its.length) = false := by rw [decide_eq_false_iff_not]; omega
  by_cases c3 : fb = 0
  rotate_left
  · have hm : m = false := by
      cases m with
      | false => rfl
      | true => have := (may_i4 _ _ _ _).1 HM.out; omega
    have d3 : (fb == 0) = false := by simpa using c3
    clear c1 c2 c3
    go_wp2
    go_ret
    exact ⟨by first | rfl | (rw [hm]; rfl), hk0⟩
  have d3 : (fb == 0) = true := by simpa using c3
  by_cases c4 : t.length ≤ 16100
  rotate_left
  · have hm : m = false := by
      cases m with
      | false => rfl
      | true => have := (may_i4 _ _ _ _).1 HM.out; omega
    have d4 : decide ((t.length : Int) ≤ 16100) = false := by rw [decide_eq_false_iff_not]; omega
    clear c1 c2 c3 c4
    go_wp2
    go_ret
    exact ⟨by first | rfl | (rw [hm]; rfl), hk0⟩
  have d4 : decide ((t.length : Int) ≤ 16100) = true := by rw [decide_eq_true_eq]; omega
  have hm : m = true := by rw [← HM.out]; exact (may_i4 _ _ _ _).2 (by omega)
  clear c1 c2 c3 c4
  go_wp2
  go_ret
  exact ⟨by first | rfl | (rw [hm]; rfl), hk0⟩

set_option maxHeartbeats 1000000 in
theorem rmay_o (f : Fr) (iv tv : Value) (w : World) (hk : f.k ≠ 1 ∧ f.k ≠ 2 ∧ f.k ≠ 3 ∧ f.k ≠ 4) (hi : Rws w iv f.its) (ht : Bs w tv f.t) (hn : f.its.length ≤ 100000000000000) (hnt : f.t.length ≤ 140737488352000) (hb : f.b ≤ 9223372036854775807) :
    Calls Tryd.prog 34 #[.agg (fcells f iv tv)] w fun e w' => e = .returned (.bool (mayB f)) ∧ Kp [] w w' := by
  obtain ⟨ia, ic, rfl, hic⟩ := hi.form
  obtain ⟨ta, tc, rfl, -⟩ := Sl.form ht
  have hk0 := (Kp.refl [] w).alloc (.cells (fcells f (.slice ia f.its.length ic) (.slice ta f.t.length tc)) 25)
  obtain ⟨k, fa, fb, its, t⟩ := f
  simp only at *
  have k1 : (k == 1) = false := by simp; omega
  have k2 : (k == 2) = false := by simp; omega
  have k3 : (k == 3) = false := by simp; omega
  have k4 : (k == 4) = false := by simp; omega
  have HK := Lib.hid hk
  clear hk
  unfold fcells at hk0 ⊢
  simp only at hk0 ⊢
  generalize hm : mayB _ = m at *
  have HM := Lib.hid hm
  clear hm
  go_enter Tryd.func34, Tryd.ntmps34
  by_cases c1 : fa ≠ 0
  · have hm : m = false := by
      cases m with
      | false => rfl
      | true => have := (may_io _ _ _ _ _ HK.out).1 HM.out; exact this.elim
    have d1 : (fa != 0) = true := by simpa using c1
    clear c1
    go_wp2
    go_ret
    exact ⟨by first | rfl | (rw [hm]; rfl), hk0⟩
  have d1 : (fa != 0) = false := by simpa using c1
  by_cases c2 : 0 < its.length
  · have hm : m = false := by
      cases m with
      | false => rfl
      | true => have := (may_io _ _ _ _ _ HK.out).1 HM.out; exact this.elim
    have d2 : decide (0 < its.length) = true := by rw [decide_eq_true_eq]; omega
    clear c1 c2
    go_wp2
    go_ret
    exact ⟨by first | rfl | (rw [hm]; rfl), hk0⟩
  have d2 : decide (0 < its.length) = false := by rw [decide_eq_false_iff_not]; omega
  have hm : m = false := by
    cases m with
    | false => rfl
    | true => exact ((may_io _ _ _ _ _ HK.out).1 HM.out).elim
  clear c1 c2
  go_wp2
  go_ret
  exact ⟨by first | rfl | (rw [hm]; rfl), hk0⟩

theorem rmay_calls (f : Fr) (iv tv : Value) (w : World) (hi : Rws w iv f.its) (ht : Bs w tv f.t) (hn : f.its.length ≤ 100000000000000) (hnt : f.t.length ≤ 140737488352000) (hb : f.b ≤ 9223372036854775807) :
    Calls Tryd.prog 34 #[.agg (fcells f iv tv)] w fun e w' => e = .returned (.bool (mayB f)) ∧ Kp [] w w' := by
  by_cases h1 : f.k = 1
  · exact rmay_1 f iv tv w h1 hi ht hn hnt hb
  by_cases h2 : f.k = 2
  · exact rmay_2 f iv tv w h2 hi ht hn hnt hb
  by_cases h3 : f.k = 3
  · exact rmay_3 f iv tv w h3 hi ht hn hnt hb
  by_cases h4 : f.k = 4
  · exact rmay_4 f iv tv w h4 hi ht hn hnt hb
  · exact rmay_o f iv tv w ⟨h1, h2, h3, h4⟩ hi ht hn hnt hb
end Go.Proofs.YtddpefbpiehgeaaDoor

/- The reference's Seal, Make, Open. -/
namespace Go.Proofs.YtddpefbpiehgeaaDoor
open Go Go.RowKit
set_option maxRecDepth 100000
set_option linter.unusedVariables false
set_option linter.unusedSectionVars false
set_option linter.unusedSimpArgs false

theorem rmac_long (s : ByteArray) (v : Value) (w : World) (hs : 200 < s.size) :
    Calls Tryd.prog 60 #[.string s, v] w fun e w' => e = .returned (.tuple #[.slice none 0 0, .int .i64 2]) ∧ w = w' := by
  have hd : decide ((200 : Int) < (s.size : Int)) = true := by rw [decide_eq_true_eq]; omega
  go_enter Tryd.func60, Tryd.ntmps60
  go_wp2
  go_ret2
  exact ⟨rfl, rfl⟩

theorem rseal_long (s : ByteArray) (v : Value) (w : World) (hs : 200 < s.size) :
    Calls Tryd.prog 35 #[.string s, v] w fun e w' => e = .returned (.tuple #[.slice none 0 0, .int .i64 2]) ∧ w = w' := by
  go_enter Tryd.func35, Tryd.ntmps35
  go_wp2_with (go_at_call 60; (with_reducible refine (rmac_long s _ _ hs).mono ?_); rintro e w3 ⟨rfl, rfl⟩)
  go_ret2
  exact ⟨rfl, rfl⟩

theorem rseal_ok (s : ByteArray) (v : Value) (l : List UInt8) (w : World) (hG : GR w) (hs : s.size ≤ 200) (hv : Bs w v l) (hl : l.length ≤ 140737488352000) :
    Calls Tryd.prog 35 #[.string s, v] w (RetB w.heap.size (sealed s l) 0 w) := by
  obtain ⟨i0, hi, hz0, hz1, hz2⟩ := info_parts u8info
  have hml := hmac_length s l
  obtain ⟨va, vc, rfl, _⟩ := Sl.form hv
  go_enter Tryd.func35, Tryd.ntmps35
  go_wp2_with (first
    | (go_at_call 60; refine (rmac_calls s _ l _ hG hs hv hl).mono ?_; rintro e w2 ⟨v2, rfl, ho2, hk2⟩; obtain ⟨g2, c2, rfl, hc2, hg2, hl2⟩ := ob_some ho2 (by omega); have h16 : (16 : Int) ≤ (c2 : Int) := (by omega))
    | (refine wpList_app _ rfl _ _ 23 23 rfl w.heap.size 5 i0 _ 1 1 Tryd.underlying23 hi hz0 hz1 hz2 rfl (by omega) (.slice none 0 0) 0 [] rfl (Own.nil _ _ _ _) (.slice va l.length vc) _ _ rfl (Src.of_sl Tryd.underlying23 (hv.kp0 hk2) bcells_one) (by omega) (by omega) hk2.size ?_; intro v1 w1 ho1 hg1 hx1; rw [Nat.zero_add, List.nil_append] at ho1; have hk1 := (Kp.refl [] w2).grown hg1 nofun)
    | (with_reducible refine stop_app ?_))
  unfold Stop
  have hk12 := hk2.trans hk1
  have hB16 : Bs w1 (.slice (some ⟨g2, 0, none⟩) 16 c2) ((hmac s l).take 16) := by
    have h := Sl.part ((OB.bs ho2).kp0 hk1) 0 16 (by omega)
    unfold Bs
    rw [List.length_take, Nat.min_eq_left (by omega)]
    simpa [bcells, List.map_take, show c2 ≠ 0 by omega, Addr.add] using h
  refine wpList_app _ rfl _ _ 23 23 rfl w.heap.size 5 i0 _ 1 1 Tryd.underlying23 hi hz0 hz1 hz2 rfl (by omega) v1 _ _ rfl ho1 (.slice (some ⟨g2, 0, none⟩) 16 c2) 16 (bcells ((hmac s l).take 16)) rfl (Src.of_sl Tryd.underlying23 (by have h := hB16; unfold Bs at h; rw [List.length_take, Nat.min_eq_left (by omega)] at h; exact h) bcells_one) (by omega) (by omega) hk12.size ?_
  intro v3 w3 ho3 hg3 hx3
  rw [← bcells_append] at ho3
  have hk3 : Kp [] w w3 := hk12.grown hg3 (fun k hk => .inr (ho1.lt k hk).1)
  go_wp2
  go_ret2
  refine ⟨v3, rfl, ?_, hk3⟩
  unfold OB sealed
  rw [List.length_append, List.length_take, Nat.min_eq_left (by omega)]
  exact ho3

theorem rfbytes_calls (f : Fr) (iv tv : Value) (w : World) (hm : mayB f = true) (hi : Rws w iv f.its) (ht : Bs w tv f.t) :
    Calls Tryd.prog 36 #[.agg (fcells f iv tv)] w fun e w' => ∃ v, e = .returned v ∧ OB w' 5 w.heap.size v (frameBytes f) ∧ Kp [] w w' := by
  rcases may_k hm with hk | ⟨hk | hk, _, _, _, h0, h9⟩ | ⟨hk, _, _, _, h9⟩
  · obtain ⟨_, h1, h2, h3, h4, h5, h6⟩ := may_1 hm hk
    exact rfbytes_1 f iv tv w hk h1 h3 h4 (by omega) (by omega) (by omega) hi ht
  · exact rfbytes_2 f iv tv w hk h0 h9 hi ht
  · exact rfbytes_3 f iv tv w hk h0 h9 hi ht
  · exact rfbytes_4 f iv tv w hk (by omega) hi ht

theorem rmake_bad (s : ByteArray) (f : Fr) (iv tv : Value) (w : World) (hm : mayB f = false) (hi : Rws w iv f.its) (ht : Bs w tv f.t) (hn : f.its.length ≤ 100000000000000) (hnt : f.t.length ≤ 140737488352000) (hb : f.b ≤ 9223372036854775807) :
    Calls Tryd.prog 13 #[.string s, .agg (fcells f iv tv)] w fun e w' => e = .returned (.tuple #[.slice none 0 0, .int .i64 1]) ∧ Kp [] w w' := by
  obtain ⟨ia, ic, rfl, hic⟩ := hi.form
  obtain ⟨ta, tc, rfl, -⟩ := Sl.form ht
  have hka := (Kp.refl [] w).alloc (.cells (fcells f (.slice ia f.its.length ic) (.slice ta f.t.length tc)) 25)
  have him := rmay_calls f _ _ _ (hi.kp0 hka) (ht.kp0 hka) hn hnt hb
  rw [hm] at him
  unfold fcells at him hka ⊢
  have HIM := Lib.hid him
  clear him
  go_enter Tryd.func13, Tryd.ntmps13
  go_wp2_with (go_at_call 34; (with_reducible refine HIM.out.mono ?_); rintro e w1 ⟨rfl, hk1⟩)
  go_ret2
  exact ⟨rfl, hka.trans hk1⟩

theorem rmake_calls (s : ByteArray) (f : Fr) (iv tv : Value) (w : World) (hG : GR w) (hs : s.size ≤ 200) (hm : mayB f = true) (hi : Rws w iv f.its) (ht : Bs w tv f.t) (hn : f.its.length ≤ 100000000000000) (hnt : f.t.length ≤ 140737488352000) (hb : f.b ≤ 9223372036854775807) :
    Calls Tryd.prog 13 #[.string s, .agg (fcells f iv tv)] w (RetB w.heap.size (sealed s (frameBytes f)) 0 w) := by
  obtain ⟨ia, ic, rfl, hic⟩ := hi.form
  obtain ⟨ta, tc, rfl, -⟩ := Sl.form ht
  have hka := (Kp.refl [] w).alloc (.cells (fcells f (.slice ia f.its.length ic) (.slice ta f.t.length tc)) 25)
  have hh0 := heap_alloc_new w (.cells (fcells f (.slice ia f.its.length ic) (.slice ta f.t.length tc)) 25)
  have him := rmay_calls f _ _ _ (hi.kp0 hka) (ht.kp0 hka) hn hnt hb
  have hfb : ∀ w1, Kp [] w w1 → Calls Tryd.prog 36 #[.agg (fcells f (.slice ia f.its.length ic) (.slice ta f.t.length tc))] w1 fun e w' => ∃ v, e = .returned v ∧ OB w' 5 w1.heap.size v (frameBytes f) ∧ Kp [] w1 w' :=
    fun w1 hk => rfbytes_calls f _ _ w1 hm (hi.kp0 hk) (ht.kp0 hk)
  have hle := frameBytes_le f hm
  rw [hm] at him
  unfold fcells at him hka hfb hh0 ⊢
  have HIM := Lib.hid him
  have HFB := Lib.hid hfb
  clear him hfb
  go_enter Tryd.func13, Tryd.ntmps13
  go_wp2_with (first
    | (go_at_call 34; (with_reducible refine HIM.out.mono ?_); rintro e w1 ⟨rfl, hk1⟩; obtain ⟨c1_0, c1_1, c1_2, c1_3, c1_4⟩ := cells5 (hk1.heap hh0 (by simp)); have hkw1 := hka.trans hk1)
    | (go_at_call 36; (with_reducible refine (HFB.out _ hkw1).mono ?_); rintro e w2 ⟨v2, rfl, ho2, hk2⟩; have hkw2 := hkw1.trans hk2)
    | (go_at_call 35; (with_reducible refine (rseal_ok s _ _ _ (hG.kp0 hkw2) hs (OB.bs ho2) (by omega)).mono ?_); rintro e w3 ⟨v3, rfl, ho3, hk3⟩))
  go_ret2
  exact ⟨_, rfl, own_base ho3 (fun b hb => Nat.le_trans hkw2.size (ho3.lt b hb).1), hkw2.trans hk3⟩

theorem rmake_long (s : ByteArray) (f : Fr) (iv tv : Value) (w : World) (hs : 200 < s.size) (hm : mayB f = true) (hi : Rws w iv f.its) (ht : Bs w tv f.t) (hn : f.its.length ≤ 100000000000000) (hnt : f.t.length ≤ 140737488352000) (hb : f.b ≤ 9223372036854775807) :
    Calls Tryd.prog 13 #[.string s, .agg (fcells f iv tv)] w fun e w' => e = .returned (.tuple #[.slice none 0 0, .int .i64 2]) ∧ Kp [] w w' := by
  obtain ⟨ia, ic, rfl, hic⟩ := hi.form
  obtain ⟨ta, tc, rfl, -⟩ := Sl.form ht
  have hka := (Kp.refl [] w).alloc (.cells (fcells f (.slice ia f.its.length ic) (.slice ta f.t.length tc)) 25)
  have hh0 := heap_alloc_new w (.cells (fcells f (.slice ia f.its.length ic) (.slice ta f.t.length tc)) 25)
  have him := rmay_calls f _ _ _ (hi.kp0 hka) (ht.kp0 hka) hn hnt hb
  have hfb : ∀ w1, Kp [] w w1 → Calls Tryd.prog 36 #[.agg (fcells f (.slice ia f.its.length ic) (.slice ta f.t.length tc))] w1 fun e w' => ∃ v, e = .returned v ∧ OB w' 5 w1.heap.size v (frameBytes f) ∧ Kp [] w1 w' :=
    fun w1 hk => rfbytes_calls f _ _ w1 hm (hi.kp0 hk) (ht.kp0 hk)
  rw [hm] at him
  unfold fcells at him hka hfb hh0 ⊢
  have HIM := Lib.hid him
  have HFB := Lib.hid hfb
  clear him hfb
  go_enter Tryd.func13, Tryd.ntmps13
  go_wp2_with (first
    | (go_at_call 34; (with_reducible refine HIM.out.mono ?_); rintro e w1 ⟨rfl, hk1⟩; obtain ⟨c1_0, c1_1, c1_2, c1_3, c1_4⟩ := cells5 (hk1.heap hh0 (by simp)); have hkw1 := hka.trans hk1)
    | (go_at_call 36; (with_reducible refine (HFB.out _ hkw1).mono ?_); rintro e w2 ⟨v2, rfl, ho2, hk2⟩; have hkw2 := hkw1.trans hk2)
    | (go_at_call 35; (with_reducible refine (rseal_long s _ _ hs).mono ?_); rintro e w3 ⟨rfl, rfl⟩))
  go_ret2
  exact ⟨rfl, hkw2⟩

theorem rmake_all (s : ByteArray) (f : Fr) (iv tv : Value) (w : World) (hG : GR w) (hi : Rws w iv f.its) (ht : Bs w tv f.t) (hn : f.its.length ≤ 100000000000000) (hnt : f.t.length ≤ 140737488352000) (hb : f.b ≤ 9223372036854775807) :
    Calls Tryd.prog 13 #[.string s, .agg (fcells f iv tv)] w (RetM (madeOf s f) w) := by
  unfold madeOf
  cases hm : mayB f with
  | false =>
    rw [if_pos rfl]
    exact (rmake_bad s f iv tv w hm hi ht hn hnt hb).mono fun e w' ⟨he, hk⟩ => ⟨_, he, Own.nil _ _ _ _, hk⟩
  | true =>
    rw [if_neg (by simp)]
    by_cases hs : 200 < s.size
    · rw [if_pos hs]
      exact (rmake_long s f iv tv w hs hm hi ht hn hnt hb).mono fun e w' ⟨he, hk⟩ => ⟨_, he, Own.nil _ _ _ _, hk⟩
    · rw [if_neg hs]
      exact (rmake_calls s f iv tv w hG (by omega) hm hi ht hn hnt hb).mono fun e w' ⟨v, he, ho, hk⟩ => ⟨v, he, ho, hk⟩
end Go.Proofs.YtddpefbpiehgeaaDoor

/- The reference's reader. -/
namespace Go.Proofs.YtddpefbpiehgeaaDoor
open Go Go.RowKit
set_option maxRecDepth 100000
set_option linter.unusedVariables false
set_option linter.unusedSectionVars false
set_option linter.unusedSimpArgs false

/-- The reference's reader at block p: its bytes d (they lie below B), its state. -/
def IsRR (w : World) (B p : Nat) (d : List UInt8) (s : RS) : Prop :=
  B ≤ w.heap.size ∧ s.at_ ≤ d.length ∧ ∃ a cap, w.heap[p]? = some (.cells #[.slice a d.length cap, .int .i64 s.at_, .int .i64 s.last, .int .i64 s.code, .int .i64 s.fat] 82 (0, 0)) ∧
    Bs w (.slice a d.length cap) d ∧ (∀ b, Value.ownBlock (.slice a d.length cap) = some b → b ≠ p ∧ b < B)
theorem IsRR.kp {S : List Nat} {w w' : World} {B p : Nat} {d : List UInt8} {s : RS} (h : IsRR w B p d s) (hk : Kp S w w') (hS : ∀ x ∈ S, x ≠ p ∧ B ≤ x) : IsRR w' B p d s := by
  obtain ⟨hB, h0, a, cap, hh, hb, hne⟩ := h
  exact ⟨Nat.le_trans hB hk.size, h0, a, cap, hk.heap hh (fun hm => (hS p hm).1 rfl), hb.kp hk (fun b e hm => by have := (hS b hm).2; have := (hne b e).2; omega), hne⟩
def RdR (B p : Nat) (d : List UInt8) (v : Value) (s : RS) (w : World) (e : Ending) (w' : World) : Prop := e = .returned v ∧ IsRR w' B p d s ∧ Kp [p] w w'
theorem IsRR.put {w : World} {B p : Nat} {d : List UInt8} {s s' : RS} (h : IsRR w B p d s) {w' : World} (hk : Kp [p] w w') (h0 : s'.at_ ≤ d.length)
    (hh : ∀ a cap, w.heap[p]? = some (.cells #[.slice a d.length cap, .int .i64 s.at_, .int .i64 s.last, .int .i64 s.code, .int .i64 s.fat] 82 (0, 0)) →
      w'.heap[p]? = some (.cells #[.slice a d.length cap, .int .i64 s'.at_, .int .i64 s'.last, .int .i64 s'.code, .int .i64 s'.fat] 82 (0, 0))) : IsRR w' B p d s' := by
  obtain ⟨hB, _, a, cap, hr, hb, hne⟩ := h
  exact ⟨Nat.le_trans hB hk.size, h0, a, cap, hh a cap hr, hb.kp hk (fun b e hm => by simp at hm; exact (hne b e).1 hm), hne⟩

theorem rbad_calls (B p : Nat) (d : List UInt8) (s : RS) (c : Int) (w : World) (hr : IsRR w B p d s) :
    Calls Tryd.prog 74 #[.pointer (some ⟨p, 0, none⟩), .int .i64 c] w (RdR B p d (.tuple #[]) (if s.code = 0 then s.fault c else s) w) := by
  have hr0 := hr
  obtain ⟨hB, h0, a, cap, hh, hb, hne⟩ := hr
  have hplt := lt_of_heap hh
  have hh_1 := cell_heap (w := w) (b := p) hh 1
  have hh_3 := cell_heap (w := w) (b := p) hh 3
  have hh_4 := cell_heap (w := w) (b := p) hh 4
  simp only [List.getElem?_toArray, List.getElem?_cons_zero, List.getElem?_cons_succ] at hh_1 hh_3 hh_4
  have f3 := free_heap hh 3
  have f4 := free_heap hh 4
  by_cases hc : s.code = 0
  · rw [if_pos hc]
    have hcb : (s.code == 0) = true := by simpa using hc
    have HC := Lib.hid hc
    clear hc
    go_enter Tryd.func74, Tryd.ntmps74
    go_wp2
    go_end0
    have hk : Kp [p] w ((w.setCell ⟨p, 3, none⟩ (.int .i64 c)).setCell ⟨p, 4, none⟩ (.int .i64 s.at_)) := ((Kp.refl [p] w).setCell (.inl (by simp)) _).setCell (.inl (by simp)) _
    refine ⟨rfl, hr0.put hk h0 (fun a cap hh => ?_), hk⟩
    have h3 := heap_setCell_same w p 3 _ _ (.int .i64 c) hh
    have h4 := heap_setCell_same _ p 4 _ _ (.int .i64 s.at_) h3
    exact h4
  · rw [if_neg hc]
    have hcb : (s.code == 0) = false := by simpa using hc
    clear hc
    go_enter Tryd.func74, Tryd.ntmps74
    go_wp2
    go_end0
    exact ⟨rfl, hr0, Kp.refl _ _⟩

theorem rhas_calls (B p : Nat) (d : List UInt8) (s : RS) (x n : Int) (w : World) (hr : IsRR w B p d s) (hlen : d.length ≤ 140737488355328) (hx : 0 ≤ x ∧ x ≤ 100) :
    Calls Tryd.prog 78 #[.pointer (some ⟨p, 0, none⟩), .int .i64 x, .int .i64 n] w (RdR B p d (.bool (decide (n ≤ d.length - s.at_ - x))) s w) := by
  have hr0 := hr
  obtain ⟨hB, h0, a, cap, hh, hb, hne⟩ := hr
  have hplt := lt_of_heap hh
  have hh_0 := cell_heap (w := w) (b := p) hh 0
  have hh_1 := cell_heap (w := w) (b := p) hh 1
  simp only [List.getElem?_toArray, List.getElem?_cons_zero, List.getElem?_cons_succ] at hh_0 hh_1
  have e1 : IntKind.i64.wrap ((d.length : Int) - s.at_) = d.length - s.at_ := IntWalk.i64_in _ (by omega)
  have e2 : IntKind.i64.wrap ((d.length : Int) - s.at_ - x) = d.length - s.at_ - x := IntWalk.i64_in _ (by omega)
  go_enter Tryd.func78, Tryd.ntmps78
  go_wp2
  have hS : Gr w [p] w.drew := Gr.of (fun _ _ => rfl)
  refine wp_plan (.H 0 (.H 1 (.H 2 (.H 3 (.H 4 (.H 5 (.H 6 (.H 7 (.H 8 (.H 9 (.H 10 (.E 11 true (.E 12 true (.E 13 false (.E 14 false .Z))))))))))))))) (Gr w [p]) (by kernel_rfl) (by kernel_rfl) ?_
  repeat (first | (refine plan_H rfl hS (fun K hK => ?_); go_simp; refine hK _ ?_; clear hK K) | (refine plan_E rfl (fun K hK => ?_); go_simp; (first | refine hK _ _ (fun _ => hS) ?_ | refine hK _ _ nofun ?_); clear hK K))
  refine plan_Z ?_
  go_wp2
  go_ret
  exact ⟨rfl, hr0.kp (S := []) ((Kp.refl [] w).drew) (by simp), ((Kp.refl _ w).drew)⟩

theorem rtook_calls (B p : Nat) (d : List UInt8) (s : RS) (n : Nat) (w : World) (hr : IsRR w B p d s) (hlen : d.length ≤ 140737488355328) (hn : s.at_ + n ≤ d.length) :
    Calls Tryd.prog 77 #[.pointer (some ⟨p, 0, none⟩), .int .i64 n] w (RdR B p d (.tuple #[]) (s.move n) w) := by
  have hr0 := hr
  obtain ⟨hB, h0, a, cap, hh, hb, hne⟩ := hr
  have hplt := lt_of_heap hh
  have hh_1 := cell_heap (w := w) (b := p) hh 1
  have hh_2 := cell_heap (w := w) (b := p) hh 2
  simp only [List.getElem?_toArray, List.getElem?_cons_zero, List.getElem?_cons_succ] at hh_1 hh_2
  have f1 := free_heap hh 1
  have f2 := free_heap hh 2
  have e1 : IntKind.i64.wrap ((s.at_ : Int) + n) = s.at_ + n := IntWalk.i64_in _ (by omega)
  go_enter Tryd.func77, Tryd.ntmps77
  go_wp2
  go_end0
  have hk : Kp [p] w ((w.setCell ⟨p, 2, none⟩ (.int .i64 s.at_)).setCell ⟨p, 1, none⟩ (.int .i64 (s.at_ + n))) := ((Kp.refl [p] w).setCell (.inl (by simp)) _).setCell (.inl (by simp)) _
  refine ⟨rfl, hr0.put hk (by simp [RS.move]; omega) (fun a cap hh => ?_), hk⟩
  have h3 := heap_setCell_same w p 2 _ _ (.int .i64 s.at_) hh
  have h4 := heap_setCell_same _ p 1 _ _ (.int .i64 (s.at_ + n)) h3
  exact h4
end Go.Proofs.YtddpefbpiehgeaaDoor

/- The reference's reader: numbers, counts, texts, the end. -/
namespace Go.Proofs.YtddpefbpiehgeaaDoor
open Go Go.RowKit
set_option maxRecDepth 100000
set_option linter.unusedVariables false
set_option linter.unusedSectionVars false
set_option linter.unusedSimpArgs false

theorem rsome_off (B p : Nat) (d : List UInt8) (s : RS) (n : Int) (w : World) (hr : IsRR w B p d s) (hc : s.code ≠ 0) :
    Calls Tryd.prog 75 #[.pointer (some ⟨p, 0, none⟩), .int .i64 n] w (RdR B p d (.bool false) s w) := by
  have hr0 := hr
  obtain ⟨hB, h0, a, cap, hh, hb, hne⟩ := hr
  have hplt := lt_of_heap hh
  have hh_3 := cell_heap (w := w) (b := p) hh 3
  simp only [List.getElem?_toArray, List.getElem?_cons_zero, List.getElem?_cons_succ] at hh_3
  have hcb : (s.code != 0) = true := by simpa using hc
  clear hc
  go_enter Tryd.func75, Tryd.ntmps75
  go_wp2
  go_ret
  exact ⟨rfl, hr0, Kp.refl _ _⟩
theorem rsome_yes (B p : Nat) (d : List UInt8) (s : RS) (n : Int) (w : World) (hr : IsRR w B p d s) (hlen : d.length ≤ 140737488355328) (hc : s.code = 0) (hn : n ≤ d.length - s.at_) :
    Calls Tryd.prog 75 #[.pointer (some ⟨p, 0, none⟩), .int .i64 n] w (RdR B p d (.bool true) s w) := by
  have hr0 := hr
  obtain ⟨hB, h0, a, cap, hh, hb, hne⟩ := hr
  have hplt := lt_of_heap hh
  have hh_3 := cell_heap (w := w) (b := p) hh 3
  simp only [List.getElem?_toArray, List.getElem?_cons_zero, List.getElem?_cons_succ] at hh_3
  have hcb : (s.code != 0) = false := by simpa using hc
  have hd : decide (n ≤ (d.length : Int) - s.at_ - 0) = true := by rw [decide_eq_true_eq]; omega
  clear hc
  go_enter Tryd.func75, Tryd.ntmps75
  go_wp2_with (go_at_call 78; (with_reducible refine (rhas_calls B p d s 0 n _ hr0 hlen (by omega)).mono ?_); rintro e w1 ⟨rfl, hr1, hk1⟩; rw [hd])
  go_ret
  exact ⟨rfl, hr1, hk1⟩
theorem rsome_no (B p : Nat) (d : List UInt8) (s : RS) (n : Int) (w : World) (hr : IsRR w B p d s) (hlen : d.length ≤ 140737488355328) (hc : s.code = 0) (hn : (d.length : Int) - s.at_ < n) :
    Calls Tryd.prog 75 #[.pointer (some ⟨p, 0, none⟩), .int .i64 n] w (RdR B p d (.bool false) (s.fault 10) w) := by
  have hr0 := hr
  obtain ⟨hB, h0, a, cap, hh, hb, hne⟩ := hr
  have hplt := lt_of_heap hh
  have hh_3 := cell_heap (w := w) (b := p) hh 3
  simp only [List.getElem?_toArray, List.getElem?_cons_zero, List.getElem?_cons_succ] at hh_3
  have hcb : (s.code != 0) = false := by simpa using hc
  have hd : decide (n ≤ (d.length : Int) - s.at_ - 0) = false := by rw [decide_eq_false_iff_not]; omega
  have hbad := rbad_calls B p d s 10
  rw [if_pos hc] at hbad
  have HBAD := Lib.hid hbad
  clear hc hbad
  go_enter Tryd.func75, Tryd.ntmps75
  go_wp2_with (first
    | (go_at_call 78; (with_reducible refine (rhas_calls B p d s 0 n _ hr0 hlen (by omega)).mono ?_); rintro e w1 ⟨rfl, hr1, hk1⟩; rw [hd])
    | (go_at_call 74; (with_reducible refine (HBAD.out _ hr1).mono ?_); rintro e w2 ⟨rfl, hr2, hk2⟩))
  go_ret
  exact ⟨rfl, hr2, hk1.trans hk2⟩

theorem rnum_calls (B p : Nat) (d : List UInt8) (s : RS) (k : Nat) (w : World) (hr : IsRR w B p d s) (hlen : d.length ≤ 140737488355328) (hk8 : k ≤ 8) (hn : s.at_ + k ≤ d.length) :
    Calls Tryd.prog 76 #[.pointer (some ⟨p, 0, none⟩), .int .i64 0, .int .i64 k] w (RdR B p d (.int .u64 (num ((d.drop s.at_).take k))) s w) := by
  have hr0 := hr
  obtain ⟨q, hq⟩ : ∃ q, q = (d.drop s.at_).take k := ⟨_, rfl⟩
  have hql : q.length = k := by rw [hq]; simp; omega
  have hqi : ∀ i, i < k → q.getD i 0 = d.getD (s.at_ + i) 0 := fun i hi => by
    rw [hq]
    simp [List.getD, List.getElem?_take, hi, List.getElem?_drop]
  rw [← hq]
  have HQI := Lib.hid hqi
  have HQL := Lib.hid hql
  clear hq hqi hql
  go_enter Tryd.func76, Tryd.ntmps76
  go_wp2
  go_loopw [7, 8] (fun v7 v8 wr => ∃ i : Nat, i ≤ k ∧ v8 = .int .i64 i ∧ v7 = .int .u64 (num (q.take i)) ∧ IsRR wr B p d s ∧ Kp [p] w wr) (fun _ v _ => k - (intOf v).toNat)
  case atStart => exact ⟨0, by omega, rfl, by simp [num], hr0, Kp.refl _ _⟩
  case round =>
    as_aux_lemma =>
    obtain ⟨i, hik, rfl, rfl, hr, hk⟩ := hrel
    have hr1 := hr
    obtain ⟨hB, h0, a, cap, hh, hb, hne⟩ := hr
    have hplt := lt_of_heap hh
    by_cases hlt : i < k
    · obtain ⟨a', cap', he, hcap, hnone, hsome, hcells0⟩ := Sl.form hb
      cases he
      obtain ⟨g, off, rfl, hg⟩ := hsome (by omega)
      have hcells := (hcells0 g off rfl).2
      clear hcells0
      have hlt2 : s.at_ + i < d.length := by omega
      have hc : wr.cell? ⟨g, off + (s.at_ + i), none⟩ = some (.int .u8 ((q.getD i 0).toNat : Int)) := by
        rw [HQI.out i hlt]
        have := hcells (s.at_ + i) _ (bcells_getD d (s.at_ + i) hlt2)
        exact this
      clear hcells hsome hnone
      have hnext : num (q.take (i + 1)) = num (q.take i) * 256 + (q.getD i 0).toNat := by
        have h2 : i < q.length := by have := HQL.out; omega
        rw [List.take_succ_eq_append_getElem h2, num_snoc]
        simp [h2]
      have hsmall : num (q.take i) < 72057594037927936 := by
        have h1 := num_lt (q.take i)
        have h2 : (q.take i).length ≤ 7 := by simp; omega
        have h3 : 256 ^ (q.take i).length ≤ 256 ^ 7 := Nat.pow_le_pow_right (by omega) h2
        omega
      have hx := (q.getD i 0).toNat_lt
      generalize q.getD i 0 = x at *
      generalize hm : num (q.take i) = m at *
      have HN := Lib.hid hnext
      clear hnext hm
      have hh_0 := cell_heap (w := wr) (b := p) hh 0
      have hh_1 := cell_heap (w := wr) (b := p) hh 1
      simp only [List.getElem?_toArray, List.getElem?_cons_zero, List.getElem?_cons_succ] at hh_0 hh_1
      have e1 : IntKind.i64.wrap ((s.at_ : Int) + i) = s.at_ + i := IntWalk.i64_in _ (by omega)
      have e0 : IntKind.i64.wrap ((s.at_ : Int)) = s.at_ := IntWalk.i64_in _ (by omega)
      have e2 : IntKind.u64.wrap ((m : Int) * 256) = m * 256 := IntWalk.u64_in _ (by omega)
      have e3 : IntKind.u64.wrap (x.toNat : Int) = x.toNat := IntWalk.u64_in _ (by omega)
      have e4 : IntKind.u64.wrap ((m : Int) * 256 + x.toNat) = m * 256 + x.toNat := IntWalk.u64_in _ (by omega)
      have b1 : (0 : Int) ≤ (s.at_ : Int) + i ∧ (s.at_ : Int) + i < d.length := by omega
      have t1 : ((s.at_ : Int) + i).toNat = s.at_ + i := by omega
      go_wp2
      have hS : Gr wr [p, g] wr.drew := Gr.of (fun _ _ => rfl)
      refine wp_plan (.H 0 (.H 1 (.H 2 (.H 3 (.H 4 (.H 5 (.H 6 (.H 7 (.H 8 (.H 9 (.H 10 (.H 11 (.H 12 (.H 13 (.H 14 (.H 15 (.H 16 (.E 17 false (.E 18 false .Z))))))))))))))))))) (Gr wr [p, g]) (by as_aux_lemma => kernel_rfl) (by as_aux_lemma => kernel_rfl) ?_
      repeat (first | (refine plan_H rfl hS (fun K hK => ?_); go_simp; refine hK _ ?_; clear hK K) | (refine plan_E rfl (fun K hK => ?_); go_simp; (first | refine hK _ _ (fun _ => hS) ?_ | refine hK _ _ nofun ?_); clear hK K))
      refine plan_Z ?_
      clear e1 e0 e2 e3 e4 b1 t1 hS
      have hrd : IsRR wr.drew B p d s := hr1.kp (S := []) ((Kp.refl [] wr).drew) (by simp)
      go_wp2
      go_roundw
      case measure => simp [intOf]; omega
      case rel => exact ⟨i + 1, by omega, by go_num, by rw [HN.out]; go_num, hrd, hk.drew⟩
    · have hik2 : i = k := by omega
      have hd : decide ((i : Int) < (k : Int)) = false := by rw [decide_eq_false_iff_not]; omega
      have htk : q.take i = q := List.take_of_length_le (by have := HQL.out; omega)
      rw [htk]
      clear htk hik2
      go_wp2
      go_ret
      exact ⟨rfl, hr1, hk⟩
end Go.Proofs.YtddpefbpiehgeaaDoor

