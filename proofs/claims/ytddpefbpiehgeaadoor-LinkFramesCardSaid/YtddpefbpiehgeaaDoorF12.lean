/- The reference's reader: Number, Count, Text, End. -/
import Derived.Test.YtddpefbpiehgeaaDoorF11
import Derived.Test.YtddpefbpiehgeaaDoorF07
namespace Go.Proofs.YtddpefbpiehgeaaDoor
open Go Go.RowKit
set_option maxRecDepth 100000
set_option linter.unusedVariables false
set_option linter.unusedSectionVars false
set_option linter.unusedSimpArgs false

theorem rrnumber (B p : Nat) (d : List UInt8) (s : RS) (k : Nat) (w : World) (hr : IsRR w B p d s) (hk1 : 1 ≤ k) (hk8 : k ≤ 8) (hlen : d.length ≤ 140737488355328) :
    Calls Tryd.prog 44 #[.pointer (some ⟨p, 0, none⟩), .int .i64 k] w (RdR B p d (.int .i64 (rdNum d k s).1) (rdNum d k s).2 w) := by
  have hat := hr.2.1
  have a1 : decide ((k : Int) < 1) = false := by rw [decide_eq_false_iff_not]; omega
  have a2 : decide (8 < (k : Int)) = false := by rw [decide_eq_false_iff_not]; omega
  by_cases h0 : s.code = 0
  · by_cases h1 : d.length < k + s.at_
    · have e1 : rdNum d k s = (0, s.fault 10) := by unfold rdNum; rw [if_neg (by simpa using h0), if_pos h1]
      rw [e1]
      have h1' : (d.length : Int) - s.at_ < (k : Int) := by omega
      have H0 := Lib.hid h0
      have H1 := Lib.hid h1'
      clear h0 h1 h1' e1
      go_enter Tryd.func44, Tryd.ntmps44
      go_wp2_with (go_at_call 75; (with_reducible refine (rsome_no B p d s k _ hr hlen H0.out H1.out).mono ?_); rintro e w1 ⟨rfl, hr1, hk1⟩)
      go_ret
      exact ⟨rfl, hr1, hk1⟩
    · have h1' : (k : Int) ≤ (d.length : Int) - s.at_ := by omega
      have hnum := rnum_calls B p d s k
      have hx : num ((d.drop s.at_).take k) < 18446744073709551616 := by
        have h1 := num_lt ((d.drop s.at_).take k)
        have h2 : ((d.drop s.at_).take k).length ≤ 8 := by simp; omega
        have h3 : 256 ^ ((d.drop s.at_).take k).length ≤ 256 ^ 8 := Nat.pow_le_pow_right (by omega) h2
        omega
      have e0 : rdNum d k s = if 9223372036854775807 < num ((d.drop s.at_).take k) then (0, s.fault 11) else (num ((d.drop s.at_).take k), s.move k) := by
        unfold rdNum; rw [if_neg (by simpa using h0), if_neg h1]
      rw [e0]
      have hbad := rbad_calls B p d s 11
      rw [if_pos h0] at hbad
      have HBAD := Lib.hid hbad
      have H0 := Lib.hid h0
      have H1 := Lib.hid h1'
      have h1n : s.at_ + k ≤ d.length := by omega
      clear h0 h1 h1' e0 hbad
      generalize num ((d.drop s.at_).take k) = x at *
      have HN := Lib.hid hnum
      clear hnum
      by_cases h2 : 9223372036854775807 < x
      · rw [if_pos h2]
        have hd : decide (9223372036854775808 ≤ (x : Int)) = true := by rw [decide_eq_true_eq]; omega
        clear h2
        go_enter Tryd.func44, Tryd.ntmps44
        go_wp2_with (first
          | (go_at_call 75; (with_reducible refine (rsome_yes B p d s k _ hr hlen H0.out H1.out).mono ?_); rintro e w1 ⟨rfl, hr1, hk1⟩)
          | (go_at_call 76; (with_reducible refine (HN.out _ hr1 hlen hk8 h1n).mono ?_); rintro e w2 ⟨rfl, hr2, hk2⟩)
          | (go_at_call 74; (with_reducible refine (HBAD.out _ hr2).mono ?_); rintro e w3 ⟨rfl, hr3, hk3⟩))
        go_ret
        exact ⟨rfl, hr3, (hk1.trans hk2).trans hk3⟩
      · rw [if_neg h2]
        have hd : decide (9223372036854775808 ≤ (x : Int)) = false := by rw [decide_eq_false_iff_not]; omega
        have hw : IntKind.i64.wrap (x : Int) = x := IntWalk.i64_in _ (by omega)
        clear h2
        go_enter Tryd.func44, Tryd.ntmps44
        go_wp2_with (first
          | (go_at_call 75; (with_reducible refine (rsome_yes B p d s k _ hr hlen H0.out H1.out).mono ?_); rintro e w1 ⟨rfl, hr1, hk1⟩)
          | (go_at_call 76; (with_reducible refine (HN.out _ hr1 hlen hk8 h1n).mono ?_); rintro e w2 ⟨rfl, hr2, hk2⟩)
          | (go_at_call 77; (with_reducible refine (rtook_calls B p d s k _ hr2 hlen h1n).mono ?_); rintro e w3 ⟨rfl, hr3, hk3⟩))
        go_ret
        exact ⟨rfl, hr3, (hk1.trans hk2).trans hk3⟩
  · have e1 : rdNum d k s = (0, s) := by unfold rdNum; rw [if_pos (by simpa using h0)]
    rw [e1]
    have H0 := Lib.hid h0
    clear h0 e1
    go_enter Tryd.func44, Tryd.ntmps44
    go_wp2_with (go_at_call 75; (with_reducible refine (rsome_off B p d s k _ hr H0.out).mono ?_); rintro e w1 ⟨rfl, hr1, hk1⟩)
    go_ret
    exact ⟨rfl, hr1, hk1⟩

theorem rrcount (B p : Nat) (d : List UInt8) (s : RS) (m : Nat) (w : World) (hr : IsRR w B p d s) (hlen : d.length ≤ 140737488355328) :
    Calls Tryd.prog 45 #[.pointer (some ⟨p, 0, none⟩), .int .i64 m] w (RdR B p d (.int .i64 (rdCount d m s).1) (rdCount d m s).2 w) := by
  have hat := hr.2.1
  have a1 : decide ((m : Int) < 0) = false := by rw [decide_eq_false_iff_not]; omega
  by_cases h0 : s.code = 0
  · by_cases h1 : d.length < 2 + s.at_
    · have e1 : rdCount d m s = (0, s.fault 10) := by unfold rdCount; rw [if_neg (by simpa using h0), if_pos h1]
      rw [e1]
      have h1' : (d.length : Int) - s.at_ < 2 := by omega
      have H0 := Lib.hid h0
      have H1 := Lib.hid h1'
      clear h0 h1 h1' e1
      go_enter Tryd.func45, Tryd.ntmps45
      go_wp2_with (go_at_call 75; (with_reducible refine (rsome_no B p d s 2 _ hr hlen H0.out H1.out).mono ?_); rintro e w1 ⟨rfl, hr1, hk1⟩)
      go_ret
      exact ⟨rfl, hr1, hk1⟩
    · have h1' : (2 : Int) ≤ (d.length : Int) - s.at_ := by omega
      have hnum := rnum_calls B p d s 2
      have hx : num ((d.drop s.at_).take 2) < 65536 := num_lt2 _
      have e0 : rdCount d m s = if m < num ((d.drop s.at_).take 2) then (0, s.fault 12) else (num ((d.drop s.at_).take 2), s.move 2) := by
        unfold rdCount; rw [if_neg (by simpa using h0), if_neg h1]
      rw [e0]
      have hbad := rbad_calls B p d s 12
      rw [if_pos h0] at hbad
      have HBAD := Lib.hid hbad
      have H0 := Lib.hid h0
      have H1 := Lib.hid h1'
      have h1n : s.at_ + 2 ≤ d.length := by omega
      clear h0 h1 h1' e0 hbad
      generalize num ((d.drop s.at_).take 2) = x at *
      have HN := Lib.hid hnum
      clear hnum
      have hw : IntKind.i64.wrap (x : Int) = x := IntWalk.i64_in _ (by omega)
      by_cases h2 : m < x
      · rw [if_pos h2]
        have hd : decide ((m : Int) < (x : Int)) = true := by rw [decide_eq_true_eq]; omega
        go_enter Tryd.func45, Tryd.ntmps45
        go_wp2_with (first
          | (go_at_call 75; (with_reducible refine (rsome_yes B p d s 2 _ hr hlen H0.out H1.out).mono ?_); rintro e w1 ⟨rfl, hr1, hk1⟩)
          | (go_at_call 76; (refine (HN.out _ hr1 hlen (by omega) h1n).mono ?_); rintro e w2 ⟨rfl, hr2, hk2⟩)
          | (go_at_call 74; (with_reducible refine (HBAD.out _ hr2).mono ?_); rintro e w3 ⟨rfl, hr3, hk3⟩))
        go_ret
        exact ⟨rfl, hr3, (hk1.trans hk2).trans hk3⟩
      · rw [if_neg h2]
        have hd : decide ((m : Int) < (x : Int)) = false := by rw [decide_eq_false_iff_not]; omega
        go_enter Tryd.func45, Tryd.ntmps45
        go_wp2_with (first
          | (go_at_call 75; (with_reducible refine (rsome_yes B p d s 2 _ hr hlen H0.out H1.out).mono ?_); rintro e w1 ⟨rfl, hr1, hk1⟩)
          | (go_at_call 76; (refine (HN.out _ hr1 hlen (by omega) h1n).mono ?_); rintro e w2 ⟨rfl, hr2, hk2⟩)
          | (go_at_call 77; (refine (rtook_calls B p d s 2 _ hr2 hlen h1n).mono ?_); rintro e w3 ⟨rfl, hr3, hk3⟩))
        go_ret
        exact ⟨rfl, hr3, (hk1.trans hk2).trans hk3⟩
  · have e1 : rdCount d m s = (0, s) := by unfold rdCount; rw [if_pos (by simpa using h0)]
    rw [e1]
    have H0 := Lib.hid h0
    clear h0 e1
    go_enter Tryd.func45, Tryd.ntmps45
    go_wp2_with (go_at_call 75; (with_reducible refine (rsome_off B p d s 2 _ hr H0.out).mono ?_); rintro e w1 ⟨rfl, hr1, hk1⟩)
    go_ret
    exact ⟨rfl, hr1, hk1⟩
end Go.Proofs.YtddpefbpiehgeaaDoor

/- The reference's reader: Text, End. -/
namespace Go.Proofs.YtddpefbpiehgeaaDoor
open Go Go.RowKit
set_option maxRecDepth 100000
set_option linter.unusedVariables false
set_option linter.unusedSectionVars false
set_option linter.unusedSimpArgs false

theorem rrtext (B p : Nat) (d : List UInt8) (s : RS) (m : Nat) (w : World) (hr : IsRR w B p d s) (hlen : d.length ≤ 140737488355328) :
    Calls Tryd.prog 46 #[.pointer (some ⟨p, 0, none⟩), .int .i64 m] w (RdR B p d (.string ⟨(rdText d m s).1.toArray⟩) (rdText d m s).2 w) := by
  have hat := hr.2.1
  have a1 : decide ((m : Int) < 0) = false := by rw [decide_eq_false_iff_not]; omega
  by_cases h0 : s.code = 0
  · by_cases h1 : d.length < 2 + s.at_
    · have e1 : rdText d m s = ([], s.fault 10) := by unfold rdText; rw [if_neg (by simpa using h0), if_pos h1]
      rw [e1]
      have h1' : (d.length : Int) - s.at_ < 2 := by omega
      have H0 := Lib.hid h0
      have H1 := Lib.hid h1'
      clear h0 h1 h1' e1
      go_enter Tryd.func46, Tryd.ntmps46
      go_wp2_with (go_at_call 75; (with_reducible refine (rsome_no B p d s 2 _ hr hlen H0.out H1.out).mono ?_); rintro e w1 ⟨rfl, hr1, hk1⟩)
      go_ret
      exact ⟨rfl, hr1, hk1⟩
    · have h1' : (2 : Int) ≤ (d.length : Int) - s.at_ := by omega
      have hnum := rnum_calls B p d s 2
      have hx : num ((d.drop s.at_).take 2) < 65536 := num_lt2 _
      have e0 : rdText d m s = if m < num ((d.drop s.at_).take 2) then ([], s.fault 12) else if d.length < num ((d.drop s.at_).take 2) + (s.at_ + 2) then ([], s.fault 10)
          else ((d.drop (s.at_ + 2)).take (num ((d.drop s.at_).take 2)), s.move (2 + num ((d.drop s.at_).take 2))) := by
        unfold rdText; rw [if_neg (by simpa using h0), if_neg h1]
      rw [e0]
      have hbad := rbad_calls B p d s 12
      rw [if_pos h0] at hbad
      have HBAD := Lib.hid hbad
      have hbad2 := rbad_calls B p d s 10
      rw [if_pos h0] at hbad2
      have HBAD2 := Lib.hid hbad2
      have H0 := Lib.hid h0
      have H1 := Lib.hid h1'
      have h1n : s.at_ + 2 ≤ d.length := by omega
      clear h0 h1 h1' e0 hbad hbad2
      generalize num ((d.drop s.at_).take 2) = x at *
      have HN := Lib.hid hnum
      clear hnum
      have hw : IntKind.i64.wrap (x : Int) = x := IntWalk.i64_in _ (by omega)
      by_cases h2 : m < x
      · rw [if_pos h2]
        have hd : decide ((m : Int) < (x : Int)) = true := by rw [decide_eq_true_eq]; omega
        go_enter Tryd.func46, Tryd.ntmps46
        go_wp2_with (first
          | (go_at_call 75; (with_reducible refine (rsome_yes B p d s 2 _ hr hlen H0.out H1.out).mono ?_); rintro e w1 ⟨rfl, hr1, hk1⟩)
          | (go_at_call 76; (refine (HN.out _ hr1 hlen (by omega) h1n).mono ?_); rintro e w2 ⟨rfl, hr2, hk2⟩)
          | (go_at_call 74; (with_reducible refine (HBAD.out _ hr2).mono ?_); rintro e w3 ⟨rfl, hr3, hk3⟩))
        go_ret
        exact ⟨rfl, hr3, (hk1.trans hk2).trans hk3⟩
      · rw [if_neg h2]
        have hd : decide ((m : Int) < (x : Int)) = false := by rw [decide_eq_false_iff_not]; omega
        have hhas := rhas_calls B p d s 2 x
        by_cases h3 : d.length < x + (s.at_ + 2)
        · rw [if_pos h3]
          have hd3 : decide ((x : Int) ≤ (d.length : Int) - s.at_ - 2) = false := by rw [decide_eq_false_iff_not]; omega
          rw [hd3] at hhas
          have HH := Lib.hid hhas
          clear hhas hd3 h3
          go_enter Tryd.func46, Tryd.ntmps46
          go_wp2_with (first
            | (go_at_call 75; (with_reducible refine (rsome_yes B p d s 2 _ hr hlen H0.out H1.out).mono ?_); rintro e w1 ⟨rfl, hr1, hk1⟩)
            | (go_at_call 76; (refine (HN.out _ hr1 hlen (by omega) h1n).mono ?_); rintro e w2 ⟨rfl, hr2, hk2⟩)
            | (go_at_call 78; (refine (HH.out _ hr2 hlen (by omega)).mono ?_); rintro e w3 ⟨rfl, hr3, hk3⟩)
            | (go_at_call 74; (with_reducible refine (HBAD2.out _ hr3).mono ?_); rintro e w4 ⟨rfl, hr4, hk4⟩))
          go_ret
          exact ⟨rfl, hr4, ((hk1.trans hk2).trans hk3).trans hk4⟩
        · rw [if_neg h3]
          have hd3 : decide ((x : Int) ≤ (d.length : Int) - s.at_ - 2) = true := by rw [decide_eq_true_eq]; omega
          rw [hd3] at hhas
          have HH := Lib.hid hhas
          have h3n : s.at_ + (2 + x) ≤ d.length := by omega
          clear hhas hd3 h3
          go_enter Tryd.func46, Tryd.ntmps46
          go_wp2_with (first
            | (go_at_call 75; (with_reducible refine (rsome_yes B p d s 2 _ hr hlen H0.out H1.out).mono ?_); rintro e w1 ⟨rfl, hr1, hk1⟩)
            | (go_at_call 76; (refine (HN.out _ hr1 hlen (by omega) h1n).mono ?_); rintro e w2 ⟨rfl, hr2, hk2⟩)
            | (go_at_call 78; (refine (HH.out _ hr2 hlen (by omega)).mono ?_); rintro e w3 ⟨rfl, hr3, hk3⟩; have hr3' := hr3; obtain ⟨hB, -, a, cap, hh, hb, hne⟩ := hr3'))
          have hplt := lt_of_heap hh
          obtain ⟨a', cap', he, hcap, hnone, hsome, -⟩ := Sl.form hb
          cases he
          obtain ⟨g, off, rfl, hg⟩ := hsome (by omega)
          clear hnone hsome
          have hh_0 := cell_heap (w := w3) (b := p) hh 0
          have hh_1 := cell_heap (w := w3) (b := p) hh 1
          simp only [List.getElem?_toArray, List.getElem?_cons_zero, List.getElem?_cons_succ] at hh_0 hh_1
          have e1 : IntKind.i64.wrap ((s.at_ : Int) + 2) = s.at_ + 2 := IntWalk.i64_in _ (by omega)
          have e2 : IntKind.i64.wrap ((s.at_ : Int) + 2 + x) = s.at_ + 2 + x := IntWalk.i64_in _ (by omega)
          have b1 : (0 : Int) ≤ (s.at_ : Int) + 2 ∧ (s.at_ : Int) + 2 ≤ (s.at_ : Int) + 2 + x ∧ (s.at_ : Int) + 2 + x ≤ cap := by omega
          have t1 : ((s.at_ : Int) + 2).toNat = s.at_ + 2 := by omega
          have t2 : ((s.at_ : Int) + 2 + x).toNat = s.at_ + 2 + x := by omega
          have t3 : s.at_ + 2 + x - (s.at_ + 2) = x := by omega
          have hpart := Sl.part hb (s.at_ + 2) x (by omega)
          have hq : ((bcells d).drop (s.at_ + 2)).take x = bcells ((d.drop (s.at_ + 2)).take x) := by simp [bcells, List.map_take, List.map_drop]
          rw [hq] at hpart
          have hql : ((d.drop (s.at_ + 2)).take x).length = x := by simp; omega
          generalize (d.drop (s.at_ + 2)).take x = q at *
          have hS : Gr w3 [p, g] w3.drew := Gr.of (fun _ _ => rfl)
          have hcv : ∀ u : Ag w3 [p, g], (convert 23 9 (.slice (if cap = s.at_ + 2 then some ⟨g, off, none⟩ else some ⟨g, off + (s.at_ + 2), none⟩) x (cap - (s.at_ + 2)))).run Tryd.prog u.w = .ok (.string ⟨q.toArray⟩) u.w := fun u => by
            have h := hpart
            simp only [Option.map_some, add_at] at h
            have hb' : Bs w3 (.slice (if cap = s.at_ + 2 then some ⟨g, off, none⟩ else some ⟨g, off + (s.at_ + 2), none⟩) x (cap - (s.at_ + 2))) q := by
              unfold Bs
              rw [hql]
              exact h
            refine b2sc (Bs.ag hb' u (fun b hb => ?_))
            split at hb <;> (cases hb; simp)
          clear hpart
          go_wp2
          refine wp_plan (.H 0 (.H 1 (.H 2 (.H 3 (.H 4 (.H 5 (.H 6 (.H 7 (.H 8 (.H 9 (.H 10 (.H 11 (.H 12 (.H 13 (.H 14 (.H 15 (.H 16 (.H 17 (.E 18 false .Z))))))))))))))))))) (Gr w3 [p, g]) (by as_aux_lemma => kernel_rfl) (by as_aux_lemma => kernel_rfl) ?_
          repeat (refine plan_H rfl hS (fun K hK => ?_); go_simp; refine hK _ ?_; clear hK K)
          refine plan_E rfl (fun K hK => ?_); go_simp
          refine hK _ _ nofun ?_
          clear hK K
          refine plan_Z ?_
          have hr4 : IsRR w3.drew B p d s := hr3.kp (S := []) ((Kp.refl [] w3).drew) (by simp)
          have e5 : IntKind.i64.wrap (2 + (x : Int)) = ((2 + x : Nat) : Int) := by rw [IntWalk.i64_in _ (by omega)]; omega
          clear hcv e1 e2 b1 t1 t2 t3 hS
          go_wp2_with (go_at_call 77; (refine (rtook_calls B p d s (2 + x) _ hr4 hlen h3n).mono ?_); rintro e w5 ⟨rfl, hr5, hk5⟩)
          all_goals (go_ret; exact ⟨rfl, hr5, (((hk1.trans hk2).trans hk3).drew).trans hk5⟩)
  · have e1 : rdText d m s = ([], s) := by unfold rdText; rw [if_pos (by simpa using h0)]
    rw [e1]
    have H0 := Lib.hid h0
    clear h0 e1
    go_enter Tryd.func46, Tryd.ntmps46
    go_wp2_with (go_at_call 75; (with_reducible refine (rsome_off B p d s 2 _ hr H0.out).mono ?_); rintro e w1 ⟨rfl, hr1, hk1⟩)
    go_ret
    exact ⟨rfl, hr1, hk1⟩

theorem rrend (B p : Nat) (d : List UInt8) (s : RS) (w : World) (hr : IsRR w B p d s) (hlen : d.length ≤ 140737488355328) :
    Calls Tryd.prog 47 #[.pointer (some ⟨p, 0, none⟩)] w (RdR B p d (faultV (rdEnd d s)) (rdEnd d s) w) := by
  have hr0 := hr
  obtain ⟨hB, hat, a, cap, hh, hb, hne⟩ := hr
  have hplt := lt_of_heap hh
  have hka := (Kp.refl [] w).alloc (.cells #[.int .i64 0, .int .i64 0] 78)
  have hra := hr0.kp hka (by simp)
  have hh_0 := cell_heap (w := w) (b := p) hh 0
  have hh_1 := cell_heap (w := w) (b := p) hh 1
  simp only [List.getElem?_toArray, List.getElem?_cons_zero, List.getElem?_cons_succ] at hh_0 hh_1
  by_cases h1 : s.at_ < d.length
  · have hd : decide ((s.at_ : Int) < (d.length : Int)) = true := by rw [decide_eq_true_eq]; omega
    have hbad := rbad_calls B p d s 13
    have e1 : rdEnd d s = if s.code = 0 then s.fault 13 else s := by unfold rdEnd; by_cases h0 : s.code = 0 <;> simp [h0, h1]
    rw [e1]
    generalize (if s.code = 0 then s.fault 13 else s) = s' at *
    have HBAD := Lib.hid hbad
    clear hbad e1
    go_enter Tryd.func47, Tryd.ntmps47
    go_wp2
    have hS : Gr w [p] (w.alloc (.cells #[.int .i64 0, .int .i64 0] 78)).drew := Gr.of (fun b hb => Below.heap_alloc _ _ _ (by simp at hb ⊢; omega))
    refine wp_plan (.H 0 (.H 1 (.H 2 (.H 3 (.H 4 (.H 5 (.H 6 (.H 7 (.H 8 (.E 9 false .Z)))))))))) (Gr w [p]) (by kernel_rfl) (by kernel_rfl) ?_
    repeat (first | (refine plan_H rfl hS (fun K hK => ?_); go_simp; refine hK _ ?_; clear hK K) | (refine plan_E rfl (fun K hK => ?_); go_simp; (first | refine hK _ _ (fun _ => hS) ?_ | refine hK _ _ nofun ?_); clear hK K))
    refine plan_Z ?_
    have hrd := hra.kp (S := []) ((Kp.refl [] _).drew) (by simp)
    have hkd := hka.drew
    have hN : ((w.alloc (.cells #[.int .i64 0, .int .i64 0] 78)).drew).heap[w.heap.size]? = some (.cells #[.int .i64 0, .int .i64 0] 78 (0, 0)) := heap_alloc_new _ _
    generalize (w.alloc (.cells #[.int .i64 0, .int .i64 0] 78)).drew = wd at *
    clear hS
    go_wp2_with (go_at_call 74; (with_reducible refine (HBAD.out _ hrd).mono ?_); rintro e w3 ⟨rfl, hr3, hk3⟩; have hr3' := hr3; obtain ⟨-, -, a3, cap3, hh3, -, -⟩ := hr3'; have hN3 := hk3.heap hN (by simp; omega); have h33 := cell_heap hh3 3; have h34 := cell_heap hh3 4; simp only [List.getElem?_toArray, List.getElem?_cons_zero, List.getElem?_cons_succ] at h33 h34; have hp3 := lt_of_heap hh3; have hn3 := lt_of_heap hN3; have hc0 := cell_heap hN3 0; have hc1 := cell_heap hN3 1; have hf0 := free_heap hN3 0; have hf1 := free_heap hN3 1; simp only [List.getElem?_toArray, List.getElem?_cons_zero, List.getElem?_cons_succ] at hc0 hc1)
    have hk : Kp [p] w ((w3.setCell ⟨w.heap.size, 0, none⟩ (.int .i64 s'.code)).setCell ⟨w.heap.size, 1, none⟩ (.int .i64 s'.fat)) := ((((hkd.nil (S := [p])).trans hk3).setCell (.inr (Nat.le_refl _)) _).setCell (.inr (Nat.le_refl _)) _)
    have hkq : Kp [w.heap.size] w3 ((w3.setCell ⟨w.heap.size, 0, none⟩ (.int .i64 s'.code)).setCell ⟨w.heap.size, 1, none⟩ (.int .i64 s'.fat)) := (((Kp.refl _ w3).setCell (.inl (by simp)) _).setCell (.inl (by simp)) _)
    exact bodyPost_ret (v := faultV s') (by simp [results, Tryd.results47, go_sem, faultV, hn3, hc0, hc1]) rfl ⟨rfl, hr3.kp hkq (by simp; omega), hk⟩
  · have hd : decide ((s.at_ : Int) < (d.length : Int)) = false := by rw [decide_eq_false_iff_not]; omega
    have e1 : rdEnd d s = s := by unfold rdEnd; rw [if_neg (by omega)]
    rw [e1]
    clear e1
    have hh_3 := cell_heap (w := w) (b := p) hh 3
    have hh_4 := cell_heap (w := w) (b := p) hh 4
    simp only [List.getElem?_toArray, List.getElem?_cons_zero, List.getElem?_cons_succ] at hh_3 hh_4
    go_enter Tryd.func47, Tryd.ntmps47
    go_wp2
    have hS : Gr w [p] (w.alloc (.cells #[.int .i64 0, .int .i64 0] 78)).drew := Gr.of (fun b hb => Below.heap_alloc _ _ _ (by simp at hb ⊢; omega))
    refine wp_plan (.H 0 (.H 1 (.H 2 (.H 3 (.H 4 (.H 5 (.H 6 (.H 7 (.H 8 (.E 9 false .Z)))))))))) (Gr w [p]) (by kernel_rfl) (by kernel_rfl) ?_
    repeat (first | (refine plan_H rfl hS (fun K hK => ?_); go_simp; refine hK _ ?_; clear hK K) | (refine plan_E rfl (fun K hK => ?_); go_simp; (first | refine hK _ _ (fun _ => hS) ?_ | refine hK _ _ nofun ?_); clear hK K))
    refine plan_Z ?_
    clear hS
    go_wp2
    have hk : Kp [] w (w.alloc (.cells #[.int .i64 s.code, .int .i64 s.fat] 78)).drew := ((Kp.refl [] w).alloc _).drew
    exact bodyPost_ret (v := faultV s) (by simp [results, Tryd.results47, go_sem, faultV, hplt]) rfl ⟨rfl, hr0.kp (S := []) hk (by simp), hk.nil⟩
end Go.Proofs.YtddpefbpiehgeaaDoor

/- The reference's Open. -/
namespace Go.Proofs.YtddpefbpiehgeaaDoor
open Go Go.RowKit
set_option maxRecDepth 100000
set_option linter.unusedVariables false
set_option linter.unusedSectionVars false
set_option linter.unusedSimpArgs false

theorem ropen_long (s : ByteArray) (v : Value) (w : World) (hs : 200 < s.size) :
    Calls Tryd.prog 43 #[.string s, v] w fun e w' => e = .returned (.tuple #[.slice none 0 0, .int .i64 2]) ∧ w = w' := by
  have hd : decide ((200 : Int) < (s.size : Int)) = true := by rw [decide_eq_true_eq]; omega
  go_enter Tryd.func43, Tryd.ntmps43
  go_wp2
  go_ret2
  exact ⟨rfl, rfl⟩

theorem ropen_short (s : ByteArray) (v : Value) (l : List UInt8) (w : World) (hs : s.size ≤ 200) (hv : Bs w v l) (hl : l.length < 16) :
    Calls Tryd.prog 43 #[.string s, v] w fun e w' => e = .returned (.tuple #[.slice none 0 0, .int .i64 40]) ∧ w = w' := by
  have hd : decide ((200 : Int) < (s.size : Int)) = false := by rw [decide_eq_false_iff_not]; omega
  obtain ⟨va, vc, rfl, -⟩ := Sl.form hv
  have hd2 : decide ((l.length : Int) < 16) = true := by rw [decide_eq_true_eq]; omega
  go_enter Tryd.func43, Tryd.ntmps43
  go_wp2
  go_ret2
  exact ⟨rfl, rfl⟩

theorem opened_iff (s : ByteArray) (l : List UInt8) (hl : 16 ≤ l.length) : opened s l = if sealed s (l.take (l.length - 16)) = l then some (l.take (l.length - 16)) else none := by
  unfold opened sealed
  have h : (hmac s (l.take (l.length - 16))).take 16 = l.drop (l.length - 16) ↔ l.take (l.length - 16) ++ (hmac s (l.take (l.length - 16))).take 16 = l := by
    constructor
    · intro h
      rw [h, List.take_append_drop]
    · intro h
      have h2 : l.take (l.length - 16) ++ (hmac s (l.take (l.length - 16))).take 16 = l.take (l.length - 16) ++ l.drop (l.length - 16) := by rw [h, List.take_append_drop]
      exact List.append_cancel_left h2
  by_cases hh : (hmac s (l.take (l.length - 16))).take 16 = l.drop (l.length - 16)
  · rw [if_pos hh, if_pos (h.1 hh)]
  · rw [if_neg hh, if_neg (fun hc => hh (h.2 hc))]

set_option maxHeartbeats 1000000 in
theorem ropen_calls (s : ByteArray) (v : Value) (l : List UInt8) (w : World) (hG : GR w) (hs : s.size ≤ 200) (hv : Bs w v l) (hl : 16 ≤ l.length) (hl1 : l.length ≤ 140737488352000) :
    Calls Tryd.prog 43 #[.string s, v] w (RetO s l w) := by
  obtain ⟨i0, hi, hz0, hz1, hz2⟩ := info_parts u8info
  have hd : decide ((200 : Int) < (s.size : Int)) = false := by rw [decide_eq_false_iff_not]; omega
  obtain ⟨va, vc, rfl, hvc, -, h6, -⟩ := Sl.form hv
  obtain ⟨vb, vo, rfl, hvb⟩ := h6 (by omega)
  clear h6
  have hd2 : decide ((l.length : Int) < 16) = false := by rw [decide_eq_false_iff_not]; omega
  have h16 : (16 : Int) ≤ (l.length : Int) ∧ ((l.length : Int) - 16).toNat = l.length - 16 ∧ ((l.length : Int) - 16) ≤ (vc : Int) ∧ ((l.length - 16 : Nat) : Int) = (l.length : Int) - 16 ∧ (l.length : Int) ≤ (vc : Int) := by omega
  obtain ⟨h16a, h16b, h16c, h16d, h16e⟩ := h16
  have hvc0 : vc ≠ 0 := by omega
  have hbody : Sl w 1 (.slice (some ⟨vb, vo, none⟩) (l.length - 16) vc) (l.length - 16) (bcells (l.take (l.length - 16))) := by
    have h := Sl.part hv 0 (l.length - 16) (by omega)
    simpa [bcells, List.map_take, hvc0, Addr.add] using h
  have hop := opened_iff s l hl
  have hsl : (sealed s (l.take (l.length - 16))).length ≤ 140737488355328 := by
    unfold sealed
    rw [List.length_append, List.length_take, List.length_take, hmac_length]
    omega
  have htl : (l.take (l.length - 16)).length = l.length - 16 := by simp
  generalize l.take (l.length - 16) = body at *
  have HOP := Lib.hid hop
  clear hop
  have HTL := Lib.hid htl
  go_enter Tryd.func43, Tryd.ntmps43
  go_wp2_with (with_reducible refine stop_app ?_)
  unfold Stop
  have hoA := own_alloc w 5 [] 0 w.heap.size (0, 0) (.inl rfl) rfl (Nat.le_refl _) (by unfold maxLen; omega)
  have hkA := (Kp.refl [] w).alloc (.cells #[] 5)
  refine wpList_app _ rfl _ _ 23 23 rfl w.heap.size 5 i0 _ 1 1 Tryd.underlying23 hi hz0 hz1 hz2 rfl (by omega) (.slice (some ⟨w.heap.size, 0, none⟩) 0 0) 0 [] rfl hoA (.slice (some ⟨vb, vo, none⟩) (l.length - 16) vc) (l.length - 16) _ rfl (Src.of_sl Tryd.underlying23 (hbody.kp0 hkA) bcells_one) (by omega) (by omega) hkA.size ?_
  intro v1 w1 ho1 hg1 hx1
  rw [Nat.zero_add, List.nil_append] at ho1
  have hk1 := hkA.grown hg1 (fun k hk => .inr (hoA.lt k hk).1)
  have ho1' : OB w1 5 w.heap.size v1 body := by unfold OB; rw [htl]; exact ho1
  obtain ⟨a1, c1, rfl⟩ := own_form ho1
  have hsc := b2sc (hv.kp0 hk1)
  go_wp2_with (go_at_call 35; refine (rseal_ok s _ body _ (hG.kp0 hk1) hs (OB.bs ho1') (by omega)).mono ?_; rintro e w2 ⟨v2, rfl, ho2, hk2⟩; have hcv := b2sc (OB.bs ho2); have hcl := b2sc (hv.kp0 (hk1.trans hk2)); skip)
  · rename_i h
    have hne : sealed s body ≠ l := by simpa using h
    go_ret2
    unfold RetO
    rw [HOP.out, if_neg hne]
    exact ⟨rfl, hk1.trans hk2⟩
  · rename_i h
    have he : sealed s body = l := by simpa using h
    go_ret2
    unfold RetO
    rw [HOP.out, if_pos he]
    exact ⟨_, rfl, own_kp ho1' hk2 (by simp), hk1.trans hk2⟩
end Go.Proofs.YtddpefbpiehgeaaDoor

/- The reference's Parse: what is not open; words on its reader. -/
namespace Go.Proofs.YtddpefbpiehgeaaDoor
open Go Go.RowKit
set_option maxRecDepth 100000
set_option linter.unusedVariables false
set_option linter.unusedSectionVars false
set_option linter.unusedSimpArgs false

/-- What the reference's Parse hands back: a frame that reads so, and a number. -/
def RdP (r : Fr × Int) (w : World) (e : Ending) (w' : World) : Prop := ∃ iv tv, e = .returned (.tuple #[.agg (fcells r.1 iv tv), .int .i64 r.2]) ∧ Rws w' iv r.1.its ∧ Bs w' tv r.1.t ∧ Kp [] w w'
theorem RdP.zero {w w' : World} {e : Ending} {c : Int} (he : e = .returned (.tuple #[zeroV, .int .i64 c])) (hk : Kp [] w w') : RdP (zeroF, c) w e w' :=
  ⟨_, _, he, ⟨[], Sl.of_own (Own.nil w' 0 0 1), rfl, fun i h => by simp [zeroF] at h⟩, Sl.of_own (Own.nil w' 0 0 1), hk⟩

theorem rparse_ret {Q : Ending → World → Prop} {a : Act} {w : World} {rb : Nat} {cs : Array Value} {fr : Nat × Nat} (h4 : a.tmps.getD 4 undef = .pointer (some ⟨rb, 0, none⟩)) (hd : a.defers = []) (hh : w.heap[rb]? = some (.cells cs 25 fr)) (h5 : cs.size = 5)
    (hQ : Q (.returned (.tuple #[.agg cs, a.tmps.getD 5 undef])) w) : bodyPost Tryd.prog Tryd.f17 Q Exit.ret a w :=
  bodyPost_ret (results_pair rfl _ _ rb _ cs fr _ h4 hh Tryd.underlying25 rfl (by rw [h5]; exact f5size)) hd hQ

theorem rparse_long (s : ByteArray) (v : Value) (w : World) (hs : 200 < s.size) :
    Calls Tryd.prog 17 #[.string s, v] w fun e w' => e = .returned (.tuple #[zeroV, .int .i64 2]) ∧ Kp [] w w' := by
  have hk0 := (Kp.refl [] w).alloc (.cells #[.int .i64 0, .int .i64 0, .int .i64 0, .slice none 0 0, .slice none 0 0] 25)
  go_enter Tryd.func17, Tryd.ntmps17
  go_wp2_with (first
    | (go_at_call 43; (with_reducible refine (ropen_long s v _ hs).mono ?_); rintro e w1 ⟨rfl, rfl⟩))
  exact rparse_ret rfl rfl (heap_alloc_new w _) rfl ⟨rfl, hk0⟩

theorem rparse_short (s : ByteArray) (v : Value) (l : List UInt8) (w : World) (hs : s.size ≤ 200) (hv : Bs w v l) (hl : l.length < 16) :
    Calls Tryd.prog 17 #[.string s, v] w fun e w' => e = .returned (.tuple #[zeroV, .int .i64 121]) ∧ Kp [] w w' := by
  have hk0 := (Kp.refl [] w).alloc (.cells #[.int .i64 0, .int .i64 0, .int .i64 0, .slice none 0 0, .slice none 0 0] 25)
  have hv0 : Bs (w.alloc (.cells #[.int .i64 0, .int .i64 0, .int .i64 0, .slice none 0 0, .slice none 0 0] 25)) v l := hv.kp0 hk0
  go_enter Tryd.func17, Tryd.ntmps17
  go_wp2_with (first
    | (go_at_call 43; (with_reducible refine (ropen_short s v l _ hs hv0 hl).mono ?_); rintro e w1 ⟨rfl, rfl⟩))
  exact rparse_ret rfl rfl (heap_alloc_new w _) rfl ⟨rfl, hk0⟩

theorem rparse_shut (s : ByteArray) (v : Value) (l : List UInt8) (w : World) (hG : GR w) (hs : s.size ≤ 200) (hv : Bs w v l) (hl : 16 ≤ l.length) (hl1 : l.length ≤ 140737488352000) (ho : opened s l = none) :
    Calls Tryd.prog 17 #[.string s, v] w fun e w' => e = .returned (.tuple #[zeroV, .int .i64 121]) ∧ Kp [] w w' := by
  have hk0 := (Kp.refl [] w).alloc (.cells #[.int .i64 0, .int .i64 0, .int .i64 0, .slice none 0 0, .slice none 0 0] 25)
  have hh0 := heap_alloc_new w (.cells #[.int .i64 0, .int .i64 0, .int .i64 0, .slice none 0 0, .slice none 0 0] 25)
  have hop := ropen_calls s v l _ (hG.kp0 hk0) hs (hv.kp0 hk0) hl hl1
  unfold RetO at hop
  rw [ho] at hop
  simp only at hop
  have HOP := Lib.hid hop
  clear hop
  go_enter Tryd.func17, Tryd.ntmps17
  go_wp2_with (first
    | (go_at_call 43; (with_reducible refine HOP.out.mono ?_); rintro e w1 ⟨rfl, hk1⟩; have hh1 := hk1.heap hh0 (by simp); have hf0 := free_heap hh1 0; have hf1 := free_heap hh1 1; have hf2 := free_heap hh1 2; have hf3 := free_heap hh1 3; have hf4 := free_heap hh1 4; obtain ⟨c0, c1, c2, c3, c4⟩ := cells5 hh1))
  exact rparse_ret rfl rfl (set5 _ _ _ _ _ hh1) rfl ⟨rfl, (hk0.trans hk1).trans' (set5_kp _ _ _ _ _ _ _) (by simp)⟩

/-- The reference's reader that came about after w0. -/
def RRd (w0 : World) (B p : Nat) (d : List UInt8) (s : RS) (w : World) : Prop := IsRR w B p d s ∧ Kp [] w0 w ∧ w0.heap.size ≤ p ∧ d.length ≤ 140737488355328
theorem RRd.kp {w0 w w' : World} {B p : Nat} {d : List UInt8} {s : RS} {S : List Nat} (h : RRd w0 B p d s w) (hk : Kp S w w') (hS : ∀ x ∈ S, x ≠ p ∧ B ≤ x) (hS2 : ∀ x ∈ S, w0.heap.size ≤ x) : RRd w0 B p d s w' :=
  ⟨h.1.kp hk hS, h.2.1.trans' hk (fun x hx => .inr (hS2 x hx)), h.2.2⟩
theorem rrd_num {w0 : World} {B p : Nat} {d : List UInt8} {s s' : RS} {k b : Nat} {ki : Int} (hki : ki = (k : Int)) (hv : rdNum d k s = (b, s')) (w : World) (h : RRd w0 B p d s w) (h1 : 1 ≤ k) (h8 : k ≤ 8) :
    Calls Tryd.prog 44 #[.pointer (some ⟨p, 0, none⟩), .int .i64 ki] w fun e w' => e = .returned (.int .i64 b) ∧ RRd w0 B p d s' w' ∧ Kp [p] w w' := by
  subst hki
  have hc := rrnumber B p d s k w h.1 h1 h8 h.2.2.2
  rw [hv] at hc
  exact hc.mono fun e w' ⟨he, hr, hk⟩ => ⟨he, ⟨hr, h.2.1.trans' hk (fun x hx => .inr (by simp at hx; subst hx; exact h.2.2.1)), h.2.2⟩, hk⟩
theorem rrd_count {w0 : World} {B p : Nat} {d : List UInt8} {s s' : RS} {m b : Nat} {mi : Int} (hmi : mi = (m : Int)) (hv : rdCount d m s = (b, s')) (w : World) (h : RRd w0 B p d s w) :
    Calls Tryd.prog 45 #[.pointer (some ⟨p, 0, none⟩), .int .i64 mi] w fun e w' => e = .returned (.int .i64 b) ∧ RRd w0 B p d s' w' ∧ Kp [p] w w' := by
  subst hmi
  have hc := rrcount B p d s m w h.1 h.2.2.2
  rw [hv] at hc
  exact hc.mono fun e w' ⟨he, hr, hk⟩ => ⟨he, ⟨hr, h.2.1.trans' hk (fun x hx => .inr (by simp at hx; subst hx; exact h.2.2.1)), h.2.2⟩, hk⟩
theorem rrd_text {w0 : World} {B p : Nat} {d : List UInt8} {s s' : RS} {m : Nat} {b : List UInt8} {mi : Int} (hmi : mi = (m : Int)) (hv : rdText d m s = (b, s')) (w : World) (h : RRd w0 B p d s w) :
    Calls Tryd.prog 46 #[.pointer (some ⟨p, 0, none⟩), .int .i64 mi] w fun e w' => e = .returned (.string ⟨b.toArray⟩) ∧ RRd w0 B p d s' w' ∧ Kp [p] w w' := by
  subst hmi
  have hc := rrtext B p d s m w h.1 h.2.2.2
  rw [hv] at hc
  exact hc.mono fun e w' ⟨he, hr, hk⟩ => ⟨he, ⟨hr, h.2.1.trans' hk (fun x hx => .inr (by simp at hx; subst hx; exact h.2.2.1)), h.2.2⟩, hk⟩
theorem rrd_end {w0 : World} {B p : Nat} {d : List UInt8} {s s' : RS} (hv : rdEnd d s = s') (w : World) (h : RRd w0 B p d s w) :
    Calls Tryd.prog 47 #[.pointer (some ⟨p, 0, none⟩)] w fun e w' => e = .returned (faultV s') ∧ RRd w0 B p d s' w' ∧ Kp [p] w w' := by
  have hc := rrend B p d s w h.1 h.2.2.2
  rw [hv] at hc
  exact hc.mono fun e w' ⟨he, hr, hk⟩ => ⟨he, ⟨hr, h.2.1.trans' hk (fun x hx => .inr (by simp at hx; subst hx; exact h.2.2.1)), h.2.2⟩, hk⟩
end Go.Proofs.YtddpefbpiehgeaaDoor

