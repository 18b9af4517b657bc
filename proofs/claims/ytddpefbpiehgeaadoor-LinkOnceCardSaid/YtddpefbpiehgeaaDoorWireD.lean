/- The reader: Number, Count, Text, End. -/
import Derived.Test.YtddpefbpiehgeaaDoorWireC
namespace Go.Proofs.YtddpefbpiehgeaaDoor
open Go Go.RowKit
set_option maxRecDepth 100000
set_option linter.unusedVariables false
set_option linter.unusedSectionVars false
set_option linter.unusedSimpArgs false

section
variable (B c bs q : Nat) (d : List UInt8) (at_ : Nat) (x0 : Value) (w : World) (hc : IsCur w B c d at_) (hcq : c ≠ q) (hBq : B ≤ q) (hlen : d.length ≤ 140737488355328)
include hc hcq hBq hlen

theorem pcount_ok (m : Nat) (hs : One w bs (.int .i64 m) 3) (hq : One w q x0 3) (hcs : c ≠ bs)
    (hn : 2 + at_ ≤ d.length) (hx : num ((d.drop at_).take 2) ≤ m) :
    Calls Tryd.prog 70 #[.pointer (some ⟨c, 0, none⟩), .pointer (some ⟨bs, 0, none⟩), .pointer (some ⟨q, 0, none⟩)] w (Took B c q d (at_ + 2) (.int .i64 (num ((d.drop at_).take 2))) 3 w) := by
  have hX2 := num_lt2 (d.drop at_)
  generalize hX : num ((d.drop at_).take 2) = X at *
  have HX := Lib.hid hX
  clear hX
  have hd0 : decide ((0 : Int) ≤ m) = true := by rw [decide_eq_true_eq]; omega
  have hd1 : decide ((X : Int) ≤ m) = true := by rw [decide_eq_true_eq]; omega
  have hd2 : decide (X ≤ m) = true := by rw [decide_eq_true_eq]; omega
  have hw1 : IntKind.i64.wrap (X : Int) = X := IntWalk.i64_in _ (by omega)
  have hslt := lt_of_heap hs
  have hqlt := lt_of_heap hq
  have s0 := hs.cell
  go_enter Tryd.func70, Tryd.ntmps70
  go_wp2_with (first
    | (go_at_call 67; refine (check_yes _ _).mono ?_; rintro e w' ⟨rfl, rfl⟩)
    | (go_at_call 69; refine (bits_ok B c d at_ 2 w hc hn (by omega) hlen).mono ?_; rintro e w1 ⟨rfl, hc1, hk1'⟩; rw [HX.out]; have hq1 := hq.kp hk1' (by simpa using hcq.symm); have q0 := hq1.cell; have qf := hq1.free; have s1 := (hs.kp hk1' (by simpa using hcs.symm)).cell))
  go_end0
  exact Took.mk hc1 hk1' hq1 hcq hBq

theorem pcount_short (m : Nat) (hs : One w bs (.int .i64 m) 3) (ha : at_ ≤ d.length) (hn : d.length < 2 + at_) :
    Calls Tryd.prog 70 #[.pointer (some ⟨c, 0, none⟩), .pointer (some ⟨bs, 0, none⟩), .pointer (some ⟨q, 0, none⟩)] w (Bad c 10 w) := by
  have hd0 : decide ((0 : Int) ≤ m) = true := by rw [decide_eq_true_eq]; omega
  have hslt := lt_of_heap hs
  have s0 := hs.cell
  go_enter Tryd.func70, Tryd.ntmps70
  go_wp2_with (first
    | (go_at_call 67; first | ((with_reducible refine (check_yes _ _).mono ?_); rintro e w' ⟨rfl, rfl⟩) | ((with_reducible refine (check_no _ _).mono ?_); rintro e w' ⟨rfl, rfl⟩))
    | (go_at_call 69; refine (bits_bad B c d at_ 2 w hc hn ha hlen).mono ?_; rintro e w1 ⟨rfl, hk1'⟩))
  exact ⟨rfl, rfl, hk1'.nil⟩

theorem pcount_long (m : Nat) (hs : One w bs (.int .i64 m) 3) (hcs : c ≠ bs) (hn : 2 + at_ ≤ d.length) (hx : m < num ((d.drop at_).take 2)) :
    Calls Tryd.prog 70 #[.pointer (some ⟨c, 0, none⟩), .pointer (some ⟨bs, 0, none⟩), .pointer (some ⟨q, 0, none⟩)] w (Bad c 12 w) := by
  have hX2 := num_lt2 (d.drop at_)
  generalize hX : num ((d.drop at_).take 2) = X at *
  have HX := Lib.hid hX
  clear hX
  have hd0 : decide ((0 : Int) ≤ m) = true := by rw [decide_eq_true_eq]; omega
  have hw1 : IntKind.i64.wrap (X : Int) = X := IntWalk.i64_in _ (by omega)
  have hslt := lt_of_heap hs
  have s0 := hs.cell
  have hd1 : decide ((X : Int) ≤ m) = false := by rw [decide_eq_false_iff_not]; omega
  have hd2 : decide (X ≤ m) = false := by rw [decide_eq_false_iff_not]; omega
  go_enter Tryd.func70, Tryd.ntmps70
  go_wp2_with (first
    | (go_at_call 67; first | ((with_reducible refine (check_yes _ _).mono ?_); rintro e w' ⟨rfl, rfl⟩) | ((with_reducible refine (check_no _ _).mono ?_); rintro e w' ⟨rfl, rfl⟩))
    | (go_at_call 69; refine (bits_ok B c d at_ 2 w hc hn (by omega) hlen).mono ?_; rintro e w1 ⟨rfl, hc1, hk1'⟩; rw [HX.out]; have s1 := (hs.kp hk1' (by simpa using hcs.symm)).cell))
  exact ⟨rfl, rfl, hk1'⟩

theorem ptext_short (m : Nat) (hs : One w bs (.int .i64 m) 3) (ha : at_ ≤ d.length) (hn : d.length < 2 + at_) :
    Calls Tryd.prog 71 #[.pointer (some ⟨c, 0, none⟩), .pointer (some ⟨bs, 0, none⟩), .pointer (some ⟨q, 0, none⟩)] w (Bad c 10 w) := by
  have hd0 : decide ((0 : Int) ≤ m) = true := by rw [decide_eq_true_eq]; omega
  have hslt := lt_of_heap hs
  have s0 := hs.cell
  go_enter Tryd.func71, Tryd.ntmps71
  go_wp2_with (first
    | (go_at_call 67; first | ((with_reducible refine (check_yes _ _).mono ?_); rintro e w' ⟨rfl, rfl⟩) | ((with_reducible refine (check_no _ _).mono ?_); rintro e w' ⟨rfl, rfl⟩))
    | (go_at_call 69; refine (bits_bad B c d at_ 2 w hc hn ha hlen).mono ?_; rintro e w1 ⟨rfl, hk1'⟩))
  exact ⟨rfl, rfl, hk1'.nil⟩

theorem ptext_long (m : Nat) (hs : One w bs (.int .i64 m) 3) (hcs : c ≠ bs) (hn : 2 + at_ ≤ d.length) (hx : m < num ((d.drop at_).take 2)) :
    Calls Tryd.prog 71 #[.pointer (some ⟨c, 0, none⟩), .pointer (some ⟨bs, 0, none⟩), .pointer (some ⟨q, 0, none⟩)] w (Bad c 12 w) := by
  have hX2 := num_lt2 (d.drop at_)
  generalize hX : num ((d.drop at_).take 2) = X at *
  have HX := Lib.hid hX
  clear hX
  have hd0 : decide ((0 : Int) ≤ m) = true := by rw [decide_eq_true_eq]; omega
  have hw1 : IntKind.i64.wrap (X : Int) = X := IntWalk.i64_in _ (by omega)
  have hslt := lt_of_heap hs
  have s0 := hs.cell
  have hd1 : decide ((X : Int) ≤ m) = false := by rw [decide_eq_false_iff_not]; omega
  have hd2 : decide (X ≤ m) = false := by rw [decide_eq_false_iff_not]; omega
  go_enter Tryd.func71, Tryd.ntmps71
  go_wp2_with (first
    | (go_at_call 67; first | ((with_reducible refine (check_yes _ _).mono ?_); rintro e w' ⟨rfl, rfl⟩) | ((with_reducible refine (check_no _ _).mono ?_); rintro e w' ⟨rfl, rfl⟩))
    | (go_at_call 69; refine (bits_ok B c d at_ 2 w hc hn (by omega) hlen).mono ?_; rintro e w1 ⟨rfl, hc1, hk1'⟩; rw [HX.out]; have s1 := (hs.kp hk1' (by simpa using hcs.symm)).cell))
  exact ⟨rfl, rfl, hk1'⟩

theorem ptext_ok (m : Nat) (hs : One w bs (.int .i64 m) 3) (hq : One w q x0 9) (hcs : c ≠ bs)
    (hn : 2 + at_ ≤ d.length) (hx : num ((d.drop at_).take 2) ≤ m) (hn2 : num ((d.drop at_).take 2) + (at_ + 2) ≤ d.length) :
    Calls Tryd.prog 71 #[.pointer (some ⟨c, 0, none⟩), .pointer (some ⟨bs, 0, none⟩), .pointer (some ⟨q, 0, none⟩)] w
      (Took B c q d (at_ + 2 + num ((d.drop at_).take 2)) (.string ⟨((d.drop (at_ + 2)).take (num ((d.drop at_).take 2))).toArray⟩) 9 w) := by
  have hX2 := num_lt2 (d.drop at_)
  generalize hX : num ((d.drop at_).take 2) = X at *
  have HX := Lib.hid hX
  clear hX
  have hd0 : decide ((0 : Int) ≤ m) = true := by rw [decide_eq_true_eq]; omega
  have hw1 : IntKind.i64.wrap (X : Int) = X := IntWalk.i64_in _ (by omega)
  have hslt := lt_of_heap hs
  have s0 := hs.cell
  have hd1 : decide ((X : Int) ≤ m) = true := by rw [decide_eq_true_eq]; omega
  have hd2 : decide (X ≤ m) = true := by rw [decide_eq_true_eq]; omega
  have hqlt := lt_of_heap hq
  go_enter Tryd.func71, Tryd.ntmps71
  go_wp2_with (first
    | (go_at_call 67; refine (check_yes _ _).mono ?_; rintro e w' ⟨rfl, rfl⟩)
    | (go_at_call 69; refine (bits_ok B c d at_ 2 w hc hn (by omega) hlen).mono ?_; rintro e w1 ⟨rfl, hc1, hk1'⟩; rw [HX.out]; have s1 := (hs.kp hk1' (by simpa using hcs.symm)).cell)
    | (go_at_call 72; refine (cbytes_ok B c d (at_ + 2) X w1 hc1 hn2 hlen).mono ?_; rintro e w2 ⟨v, rfl, hb2, hc2, hk2⟩; have hcv := b2s hb2 23 9 5 Tryd.underlying23 Tryd.underlying5 Tryd.underlying9; have hk3 := hk1'.trans hk2; have hq1 := hq.kp hk3 (by simpa using hcq.symm); have q0 := hq1.cell; have qf := hq1.free))
  go_end0
  exact Took.mk hc2 hk3 hq1 hcq hBq

theorem ptext_short2 (m : Nat) (hs : One w bs (.int .i64 m) 3) (hcs : c ≠ bs)
    (hn : 2 + at_ ≤ d.length) (hx : num ((d.drop at_).take 2) ≤ m) (hn2 : d.length < num ((d.drop at_).take 2) + (at_ + 2)) :
    Calls Tryd.prog 71 #[.pointer (some ⟨c, 0, none⟩), .pointer (some ⟨bs, 0, none⟩), .pointer (some ⟨q, 0, none⟩)] w (Bad c 10 w) := by
  have hX2 := num_lt2 (d.drop at_)
  generalize hX : num ((d.drop at_).take 2) = X at *
  have HX := Lib.hid hX
  clear hX
  have hd0 : decide ((0 : Int) ≤ m) = true := by rw [decide_eq_true_eq]; omega
  have hw1 : IntKind.i64.wrap (X : Int) = X := IntWalk.i64_in _ (by omega)
  have hslt := lt_of_heap hs
  have s0 := hs.cell
  have hd1 : decide ((X : Int) ≤ m) = true := by rw [decide_eq_true_eq]; omega
  have hd2 : decide (X ≤ m) = true := by rw [decide_eq_true_eq]; omega
  go_enter Tryd.func71, Tryd.ntmps71
  go_wp2_with (first
    | (go_at_call 67; refine (check_yes _ _).mono ?_; rintro e w' ⟨rfl, rfl⟩)
    | (go_at_call 69; refine (bits_ok B c d at_ 2 w hc hn (by omega) hlen).mono ?_; rintro e w1 ⟨rfl, hc1, hk1'⟩; rw [HX.out]; have s1 := (hs.kp hk1' (by simpa using hcs.symm)).cell)
    | (go_at_call 72; refine (cbytes_bad B c d (at_ + 2) X w1 hc1 hn2 (by omega) hlen).mono ?_; rintro e w2 ⟨rfl, hk2⟩))
  exact ⟨rfl, rfl, hk1'.trans hk2.nil⟩
end
end Go.Proofs.YtddpefbpiehgeaaDoor
