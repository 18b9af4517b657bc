/- The link: a receiver. -/
import Derived.Test.YtddpefbpiehgeaaDoorSendP
namespace Go.Proofs.YtddpefbpiehgeaaDoor
open Go Go.RowKit
set_option maxRecDepth 100000
set_option linter.unusedVariables false
set_option linter.unusedSectionVars false
set_option linter.unusedSimpArgs false

/-- A receiver. -/
def IsR (w : World) (p : Nat) (nx : Int) : Prop := w.heap[p]? = some (.cells #[.int .i64 nx] 84 (0, 0)) ∧ 0 ≤ nx ∧ nx ≤ 4294967296
theorem IsR.kp {S : List Nat} {w w' : World} {p : Nat} {nx : Int} (h : IsR w p nx) (hk : Kp S w w') (hS : p ∉ S) : IsR w' p nx := ⟨hk.heap h.1 hS, h.2⟩

theorem newReceiver_calls (w : World) : Calls Tryd.prog 19 #[] w fun e w' => ∃ p, e = .returned (.pointer (some ⟨p, 0, none⟩)) ∧ IsR w' p 0 ∧ w.heap.size ≤ p ∧ Kp [] w w' := by
  go_enter Tryd.func19, Tryd.ntmps19
  go_wp2
  go_ret
  exact ⟨w.heap.size, rfl, ⟨heap_alloc_new w _, by omega, by omega⟩, Nat.le_refl _, (Kp.refl [] w).alloc _⟩

theorem take_calls (p : Nat) (nx q : Int) (w : World) (hr : IsR w p nx) (hq0 : -9223372036854775808 ≤ q) (hq : q ≤ 9223372036854775807) :
    Calls Tryd.prog 23 #[.pointer (some ⟨p, 0, none⟩), .int .i64 q] w fun e w' => e = .returned (.tuple #[]) ∧ IsR w' p (takeN nx q) ∧ Kp [p] w w' := by
  obtain ⟨hh, h0, h9⟩ := hr
  have hc := cell_heap hh 0
  have hf := free_heap hh 0
  simp only [List.getElem?_toArray, List.getElem?_cons_zero, List.getElem?_cons_succ] at hc
  by_cases h : 0 < nx ∧ nx ≤ q ∧ q ≤ 4294967295
  · have ht : takeN nx q = q + 1 := if_pos h
    have HT := Lib.hid ht
    obtain ⟨h1, h2, h3⟩ := h
    have hs := heap_set (i := 0) (.int .i64 (q + 1)) hh
    clear ht
    go_enter Tryd.func23, Tryd.ntmps23
    go_wp2
    go_end0
    refine ⟨rfl, ?_, (Kp.refl [p] w).setCell (.inl (by simp)) _⟩
    rw [HT.out]
    exact ⟨hs, by omega, by omega⟩
  · have ht : takeN nx q = nx := if_neg h
    have HT := Lib.hid ht
    have hd : decide (0 < nx) = false ∨ decide (0 < nx) = true ∧ decide (nx ≤ q) = false ∨ decide (0 < nx) = true ∧ decide (nx ≤ q) = true ∧ decide (q ≤ 4294967295) = false := by
      simp only [decide_eq_false_iff_not, decide_eq_true_eq]; omega
    clear ht h
    rcases hd with h1 | ⟨h1, h2⟩ | ⟨h1, h2, h3⟩
    all_goals
      go_enter Tryd.func23, Tryd.ntmps23
      go_wp2
      go_end0
      refine ⟨rfl, ?_, Kp.refl _ w⟩
      rw [HT.out]
      exact ⟨hh, h0, h9⟩

theorem ack_ret {Q : Ending → World → Prop} {a : Act} {w : World} {rb : Nat} {cs : Array Value} {fr : Nat × Nat} (h4 : a.tmps.getD 2 undef = .pointer (some ⟨rb, 0, none⟩)) (hd : a.defers = []) (hh : w.heap[rb]? = some (.cells cs 25 fr)) (h5 : cs.size = 5)
    (hQ : Q (.returned (.tuple #[.agg cs, a.tmps.getD 3 undef])) w) : bodyPost Tryd.prog Tryd.f25 Q Exit.ret a w :=
  bodyPost_ret (results_pair rfl _ _ rb _ cs fr _ h4 hh Tryd.underlying25 rfl (by rw [h5]; exact f5size)) hd hQ

theorem ack_calls (p : Nat) (nx : Int) (w : World) (hr : IsR w p nx) :
    Calls Tryd.prog 25 #[.pointer (some ⟨p, 0, none⟩)] w fun e w' => e = .returned (.tuple #[.agg (fcells (ackF nx) (.slice none 0 0) (.slice none 0 0)), .bool (!(nx == 0))]) ∧ Kp [] w w' := by
  obtain ⟨hh, h0, h9⟩ := hr
  have hlt := lt_of_heap hh
  have hk0 := (Kp.refl [] w).alloc (.cells #[.int .i64 0, .int .i64 0, .int .i64 0, .slice none 0 0, .slice none 0 0] 25)
  have hh0 := heap_alloc_new w (.cells #[.int .i64 0, .int .i64 0, .int .i64 0, .slice none 0 0, .slice none 0 0] 25)
  have hc := cell_heap (hk0.heap hh (by simp)) 0
  simp only [List.getElem?_toArray, List.getElem?_cons_zero, List.getElem?_cons_succ] at hc
  have hsz := alloc_lt w (.cells #[.int .i64 0, .int .i64 0, .int .i64 0, .slice none 0 0, .slice none 0 0] 25)
  by_cases h : nx = 0
  · have ha : ackF nx = zeroF := if_pos h
    have HA := Lib.hid ha
    have hb : (nx == 0) = true := by simpa using h
    have hcc : Ending.returned (Value.tuple #[.agg (fcells (ackF nx) (.slice none 0 0) (.slice none 0 0)), .bool (!(nx == 0))]) = .returned (.tuple #[zeroV, .bool false]) := by rw [ha, hb]; rfl
    have HC := Lib.hid hcc
    clear ha h hcc
    go_enter Tryd.func25, Tryd.ntmps25
    go_wp2_with fail
    exact ack_ret rfl rfl (heap_alloc_new w _) rfl ⟨HC.out.symm, (Kp.refl [] w).alloc _⟩
  · have ha : ackF nx = ⟨2, 0, nx - 1, [], []⟩ := if_neg h
    have hb : (nx == 0) = false := by simpa using h
    have hcc : Ending.returned (Value.tuple #[.agg (fcells (ackF nx) (.slice none 0 0) (.slice none 0 0)), .bool (!(nx == 0))]) = .returned (.tuple #[.agg #[.int .i64 2, .int .i64 0, .int .i64 (nx - 1), .slice none 0 0, .slice none 0 0], .bool true]) := by rw [ha, hb]; rfl
    have HC := Lib.hid hcc
    have h1 : 1 ≤ nx := by omega
    clear ha h hcc
    go_enter Tryd.func25, Tryd.ntmps25
    go_wp2_with fail
    exact ack_ret rfl rfl (heap_alloc_new w _) rfl ⟨HC.out.symm, (Kp.refl [] w).alloc _⟩
end Go.Proofs.YtddpefbpiehgeaaDoor
