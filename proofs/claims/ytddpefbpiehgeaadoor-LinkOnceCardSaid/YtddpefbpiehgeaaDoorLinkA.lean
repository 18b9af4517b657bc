/- The link: what a frame may be. -/
import Derived.Test.YtddpefbpiehgeaaDoorSealE
import Derived.Test.YtddpefbpiehgeaaDoorWireE
namespace Go.Proofs.YtddpefbpiehgeaaDoor
open Go Go.RowKit
set_option maxRecDepth 100000
set_option linter.unusedVariables false
set_option linter.unusedSectionVars false
set_option linter.unusedSimpArgs false

/-- A frame. -/
structure Fr where
  k : Int
  a : Int
  b : Int
  its : List (List UInt8)
  t : List UInt8

/-- A slice of slices of bytes. -/
def Rws (w : World) (v : Value) (its : List (List UInt8)) : Prop := ∃ vs, Sl w 1 v its.length vs ∧ vs.length = its.length ∧ ∀ (i : Nat) (h : i < its.length), ∃ u, vs[i]? = some u ∧ Bs w u its[i]

theorem Rws.kp0 {w w' : World} {v : Value} {its : List (List UInt8)} (h : Rws w v its) (hk : Kp [] w w') : Rws w' v its := by
  obtain ⟨vs, hs, hl, hb⟩ := h
  exact ⟨vs, hs.kp0 hk, hl, fun i hi => by obtain ⟨u, h1, h2⟩ := hb i hi; exact ⟨u, h1, h2.kp0 hk⟩⟩

theorem Rws.form {w : World} {v : Value} {its : List (List UInt8)} (h : Rws w v its) : ∃ a cap, v = .slice a its.length cap ∧ its.length ≤ cap := by
  obtain ⟨vs, hs, hl, hb⟩ := h
  obtain ⟨a, cap, he, hc, _⟩ := Sl.form hs
  exact ⟨a, cap, he, hc⟩

theorem Rws.at {w : World} {a : Option Addr} {n cap : Nat} {its : List (List UInt8)} (h : Rws w (.slice a n cap) its) (i : Nat) (hi : i < its.length) :
    ∃ b off u c, a = some ⟨b, off, none⟩ ∧ b < w.heap.size ∧ w.cell? ⟨b, off + i, none⟩ = some (.slice u its[i].length c) ∧ Bs w (.slice u its[i].length c) its[i] := by
  obtain ⟨vs, hs, hl, hb⟩ := h
  obtain ⟨a', cap', he, hc, _, h6, h7⟩ := Sl.form hs
  cases he
  obtain ⟨b, off, rfl, hlt⟩ := h6 (by omega)
  obtain ⟨u, hu, hbu⟩ := hb i hi
  obtain ⟨ua, uc, rfl, _⟩ := Sl.form hbu
  exact ⟨b, off, ua, uc, rfl, hlt, (h7 b off rfl).2 i _ hu, hbu⟩

/-- The five cells of a frame's value. -/
def fcells (f : Fr) (iv tv : Value) : Array Value := #[.int .i64 f.k, .int .i64 f.a, .int .i64 f.b, iv, tv]

def itemsMayB (f : Fr) : Bool :=
  f.its.all (fun x => decide (x.length ≤ 256)) && (decide (1 ≤ f.its.length) && (decide (f.its.length ≤ 8) && (decide (1 ≤ f.a) && (decide (f.a ≤ f.b) && decide (f.b ≤ 4294967295 - f.its.length + 1)))))

theorem itemsMay_calls (f : Fr) (iv tv : Value) (w : World) (hi : Rws w iv f.its) (ht : Bs w tv f.t) (hn : f.its.length ≤ 100000000000000) (hb : f.b ≤ 9223372036854775807) :
    Calls Tryd.prog 52 #[.agg (fcells f iv tv)] w fun e w' => e = .returned (.bool (itemsMayB f)) ∧ Kp [] w w' := by
  obtain ⟨ia, ic, rfl, hic⟩ := hi.form
  obtain ⟨ta, tc, rfl, -⟩ := Sl.form ht
  unfold fcells
  go_enter Tryd.func52, Tryd.ntmps52
  go_wp2_with fail
  have hk0 := (Kp.refl [] w).alloc (.cells #[.int .i64 f.k, .int .i64 f.a, .int .i64 f.b, .slice ia f.its.length ic, .slice ta f.t.length tc] 25)
  have hh0 := heap_alloc_new w (.cells #[.int .i64 f.k, .int .i64 f.a, .int .i64 f.b, .slice ia f.its.length ic, .slice ta f.t.length tc] 25)
  generalize w.alloc (.cells #[.int .i64 f.k, .int .i64 f.a, .int .i64 f.b, .slice ia f.its.length ic, .slice ta f.t.length tc] 25) = w0 at *
  go_loopw [9] (fun v9 wr => ∃ n : Nat, n ≤ f.its.length ∧ v9 = .int .i64 n ∧ (∀ x ∈ f.its.take n, x.length ≤ 256) ∧ wr = w0) (fun v9 _ => f.its.length - (intOf v9).toNat)
  case atStart => exact ⟨0, by omega, rfl, by simp, rfl⟩
  case round =>
    obtain ⟨n, hnl, rfl, hall, rfl⟩ := hrel
    have HALL := Lib.hid hall
    clear hall
    by_cases hlt : n < f.its.length
    · obtain ⟨ib, io, ua, uc, rfl, hib, hcell, hbx⟩ := (hi.kp0 hk0).at n hlt
      have hlen : f.its[n].length = f.its[n].length := rfl
      have hmem : f.its[n] ∈ f.its := List.getElem_mem hlt
      have htk : f.its.take (n + 1) = f.its.take n ++ [f.its[n]] := List.take_succ_eq_append_getElem hlt
      generalize f.its[n] = x at *
      have i0 : (0 : Int) ≤ n ∧ (n : Int) < f.its.length := by omega
      by_cases hx : x.length ≤ 256
      · have hd : decide (256 < (x.length : Int)) = false := by rw [decide_eq_false_iff_not]; omega
        have HT := Lib.hid htk
        clear htk hmem
        go_wp2
        go_roundw
        case measure => simp [intOf]; omega
        case rel => exact ⟨n + 1, by omega, by go_num, by rw [HT.out]; intro y hy; rw [List.mem_append] at hy; rcases hy with hy | hy; exact HALL.out y hy; simp at hy; subst hy; exact hx, by trivial⟩
      · have hd : decide (256 < (x.length : Int)) = true := by rw [decide_eq_true_eq]; omega
        have hfin : itemsMayB f = false := by
          unfold itemsMayB
          rw [show (f.its.all fun x => decide (x.length ≤ 256)) = false by
            rw [List.all_eq_false]; exact ⟨x, hmem, by simpa using hx⟩]
          rfl
        clear hmem htk
        go_wp2
        go_ret
        exact ⟨rfl, hk0⟩
    · have hall : (f.its.all fun x => decide (x.length ≤ 256)) = true := by
        rw [List.all_eq_true]
        intro x hx
        have := HALL.out x (by rw [List.take_of_length_le (by omega)]; exact hx)
        simpa using this
      have hfin : itemsMayB f = (decide (1 ≤ f.its.length) && (decide (f.its.length ≤ 8) && (decide (1 ≤ f.a) && (decide (f.a ≤ f.b) && decide (f.b ≤ 4294967295 - f.its.length + 1))))) := by
        unfold itemsMayB; rw [hall]; rfl
      clear hall
      have HF := Lib.hid hfin
      clear hfin
      have hcs := 25
      have hh0_0 := cell_heap (w := wr) (b := w.heap.size) hh0 0
      have hh0_1 := cell_heap (w := wr) (b := w.heap.size) hh0 1
      have hh0_2 := cell_heap (w := wr) (b := w.heap.size) hh0 2
      have hh0_3 := cell_heap (w := wr) (b := w.heap.size) hh0 3
      have hh0_4 := cell_heap (w := wr) (b := w.heap.size) hh0 4
      simp only [List.getElem?_toArray, List.getElem?_cons_zero, List.getElem?_cons_succ] at hh0_0 hh0_1 hh0_2 hh0_3 hh0_4
      have hd : decide ((n : Int) < (f.its.length : Int)) = false := by rw [decide_eq_false_iff_not]; omega
      have hnn : n = f.its.length := by omega
      have hdn : decide (n < f.its.length) = false := by rw [decide_eq_false_iff_not]; omega
      clear hnl hnn
      go_wp2
      all_goals (go_ret; refine ⟨?_, hk0⟩; show Ending.returned (.bool _) = .returned (.bool _); rw [HF.out])
      all_goals (congr 2; rw [Bool.eq_iff_iff]; simp only [Bool.and_eq_true, decide_eq_true_eq, Bool.false_eq_true, false_iff, iff_self])
      all_goals omega

def bareB (f : Fr) : Bool := (f.a == 0) && ((f.its.length : Int) == 0)
def mayB (f : Fr) : Bool :=
  if f.k = 1 then ((f.t.length : Int) == 0) && itemsMayB f
  else if f.k = 2 then bareB f && (((f.t.length : Int) == 0) && (decide (0 ≤ f.b) && decide (f.b ≤ 4294967295)))
  else if f.k = 3 then bareB f && (((f.t.length : Int) == 0) && (decide (0 ≤ f.b) && decide (f.b ≤ 2147483648)))
  else if f.k = 4 then bareB f && ((f.b == 0) && decide ((f.t.length : Int) ≤ 16100))
  else false

set_option maxHeartbeats 400000 in
theorem may_calls (f : Fr) (iv tv : Value) (w : World) (hi : Rws w iv f.its) (ht : Bs w tv f.t) (hn : f.its.length ≤ 100000000000000) (hnt : f.t.length ≤ 140737488352000) (hb : f.b ≤ 9223372036854775807) :
    Calls Tryd.prog 31 #[.agg (fcells f iv tv)] w fun e w' => e = .returned (.bool (mayB f)) ∧ Kp [] w w' := by
  obtain ⟨ia, ic, rfl, hic⟩ := hi.form
  obtain ⟨ta, tc, rfl, -⟩ := Sl.form ht
  have him := itemsMay_calls f _ _ (w.alloc (.cells (fcells f (.slice ia f.its.length ic) (.slice ta f.t.length tc)) 25)) (hi.kp0 ((Kp.refl [] w).alloc _)) (ht.kp0 ((Kp.refl [] w).alloc _)) hn hb
  have hk0 := (Kp.refl [] w).alloc (.cells (fcells f (.slice ia f.its.length ic) (.slice ta f.t.length tc)) 25)
  unfold fcells at him hk0 ⊢
  have HIM := Lib.hid him
  clear him
  obtain ⟨k, fa, fb, its, t⟩ := f
  obtain ⟨ba, hba⟩ : ∃ x, (fa == 0) = x := ⟨_, rfl⟩
  obtain ⟨bn, hbn⟩ : ∃ x, ((its.length : Int) == 0) = x := ⟨_, rfl⟩
  obtain ⟨bt, hbt⟩ : ∃ x, ((t.length : Int) == 0) = x := ⟨_, rfl⟩
  simp only at *
  have hk1 : k = 1 ∨ k = 2 ∨ k = 3 ∨ k = 4 ∨ (((k == 1) = false ∧ (k == 2) = false) ∧ ((k == 3) = false ∧ (k == 4) = false)) := by simp; omega
  rcases hk1 with rfl | rfl | rfl | rfl | ⟨⟨k1, k2⟩, k3, k4⟩
  · have hm1 : mayB ⟨1, fa, fb, its, t⟩ = (bt && itemsMayB ⟨1, fa, fb, its, t⟩) := by rw [← hbt]; rfl
    have HM := Lib.hid hm1
    clear hm1
    go_enter Tryd.func31, Tryd.ntmps31
    go_wp2_with (go_at_call 52; (with_reducible refine HIM.out.mono ?_); rintro e w1 ⟨rfl, hk1⟩)
    all_goals go_ret
    all_goals (first | refine ⟨?_, hk0.trans hk1⟩ | refine ⟨?_, hk0⟩)
    all_goals (show Ending.returned (.bool _) = .returned (.bool _); rw [HM.out]; clear HM HIM; simp_all <;> omega)
  · have hm1 : mayB ⟨2, fa, fb, its, t⟩ = (ba && bn && (bt && (decide (0 ≤ fb) && decide (fb ≤ 4294967295)))) := by rw [← hbt, ← hba, ← hbn]; rfl
    have HM := Lib.hid hm1
    clear hm1
    go_enter Tryd.func31, Tryd.ntmps31
    go_wp2
    all_goals go_ret
    all_goals refine ⟨?_, hk0⟩
    all_goals (show Ending.returned (.bool _) = .returned (.bool _); rw [HM.out]; clear HM HIM; simp_all <;> omega)
  · have hm1 : mayB ⟨3, fa, fb, its, t⟩ = (ba && bn && (bt && (decide (0 ≤ fb) && decide (fb ≤ 2147483648)))) := by rw [← hbt, ← hba, ← hbn]; rfl
    have HM := Lib.hid hm1
    clear hm1
    go_enter Tryd.func31, Tryd.ntmps31
    go_wp2
    all_goals go_ret
    all_goals refine ⟨?_, hk0⟩
    all_goals (show Ending.returned (.bool _) = .returned (.bool _); rw [HM.out]; clear HM HIM; simp_all <;> omega)
  · obtain ⟨bb, hbb⟩ : ∃ x, (fb == 0) = x := ⟨_, rfl⟩
    have hm1 : mayB ⟨4, fa, fb, its, t⟩ = (ba && bn && (bb && decide ((t.length : Int) ≤ 16100))) := by rw [← hbb, ← hba, ← hbn]; rfl
    have HM := Lib.hid hm1
    clear hm1
    go_enter Tryd.func31, Tryd.ntmps31
    go_wp2
    all_goals go_ret
    all_goals refine ⟨?_, hk0⟩
    all_goals (show Ending.returned (.bool _) = .returned (.bool _); rw [HM.out]; clear HM HIM; simp_all <;> omega)
  · have hm1 : mayB ⟨k, fa, fb, its, t⟩ = false := by
      simp at k1 k2 k3 k4
      simp [mayB, k1, k2, k3, k4]
    have HM := Lib.hid hm1
    clear hm1
    go_enter Tryd.func31, Tryd.ntmps31
    go_wp2
    all_goals go_ret
    all_goals refine ⟨?_, hk0⟩
    all_goals (show Ending.returned (.bool _) = .returned (.bool _); rw [HM.out])
end Go.Proofs.YtddpefbpiehgeaaDoor
