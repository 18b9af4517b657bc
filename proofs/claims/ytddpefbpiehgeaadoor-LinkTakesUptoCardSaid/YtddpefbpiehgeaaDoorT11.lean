/- The link: are these a queue's items? -/
import Derived.Test.YtddpefbpiehgeaaDoorT10
import Derived.Test.YtddpefbpiehgeaaDoorT08
import Derived.Test.YtddpefbpiehgeaaDoorT03
import Derived.Test.YtddpefbpiehgeaaDoorT07
import Derived.Laws.MakeOwn
import Derived.Laws.CopyOwn
namespace Go.Proofs.YtddpefbpiehgeaaDoor
open Go Go.RowKit
set_option maxRecDepth 100000
set_option linter.unusedVariables false
set_option linter.unusedSectionVars false
set_option linter.unusedSimpArgs false

theorem got_calls (p : Nat) (nx : Int) (f : Fr) (iv tv : Value) (w : World) (P : Nat → Prop) (hP : ¬ P p) (hr : IsR w p nx) (hi : RwP P w iv f.its) (ht : Bs w tv f.t) (hn : f.its.length ≤ 100000000000000) (hnt : f.t.length ≤ 140737488352000) (hb : f.b ≤ 9223372036854775807) :
    Calls Tryd.prog 20 #[.pointer (some ⟨p, 0, none⟩), .agg (fcells f iv tv)] w (RetG (got nx f) p w) := by
  by_cases h : f.k = 1 ∧ mayB f = true
  · exact got_is p nx _ f iv tv w P hP hr hi ht h.1 h.2 rfl
  · exact got_not p nx f iv tv w hr hi.rws ht hn hnt hb h

/-- The cells of one item. -/
theorem item_at {P : Nat → Prop} {w : World} {a : Option Addr} {n cap : Nat} {cs : List Value} {xs : List It} (hs : Sl w 2 (.slice a n cap) n cs) (hi : ItC P w cs xs) (hn : n = xs.length) (i : Nat) (h : i < xs.length) :
    ∃ b off u c, a = some ⟨b, off, none⟩ ∧ b < w.heap.size ∧ w.cell? ⟨b, off + i * 2, none⟩ = some (.int .i64 xs[i].q) ∧ w.cell? ⟨b, off + i * 2 + 1, none⟩ = some (.slice u xs[i].b.length c) ∧ Bs w (.slice u xs[i].b.length c) xs[i].b ∧ BlkP P (.slice u xs[i].b.length c) := by
  obtain ⟨a', cap', he, hc, _, h6, h7⟩ := Sl.form hs
  cases he
  obtain ⟨b, off, rfl, hlt⟩ := h6 (by omega)
  obtain ⟨u, h1, h2, h3, h4⟩ := hi.2 i h
  obtain ⟨ua, uc, rfl, _⟩ := Sl.form h3
  exact ⟨b, off, ua, uc, rfl, hlt, (h7 b off rfl).2 _ _ h1, (h7 b off rfl).2 _ _ h2, h3, h4⟩

theorem headQ_get (xs : List It) (h : 0 < xs.length) : xs[0].q = headQ xs := by
  cases xs with
  | nil => simp at h
  | cons _ _ => rfl

set_option maxHeartbeats 1000000 in
theorem row_calls (P : Nat → Prop) (v : Value) (cs : List Value) (xs : List It) (w : World) (hs : Sl w 2 v xs.length cs) (hi : ItC P w cs xs) (hn : xs.length ≤ 100000000000000) (hl : ∀ x ∈ xs, x.b.length ≤ 140737488355328) :
    Calls Tryd.prog 48 #[v] w fun e w' => e = .returned (.bool (rowB xs)) ∧ Kp [] w w' := by
  obtain ⟨a, cap, rfl, hcap, _⟩ := Sl.form hs
  have HL := Lib.hid hl
  clear hl
  go_enter Tryd.func48, Tryd.ntmps48
  go_wp2
  go_loopw [7] (fun v7 wr => ∃ n : Nat, n ≤ xs.length ∧ v7 = .int .i64 n ∧ rowB xs = rowFrom (headQ xs) n (xs.drop n) ∧ (0 < n → 1 ≤ headQ xs ∧ headQ xs ≤ 4294967295) ∧ Kp [] w wr) (fun v7 _ => xs.length - (intOf v7).toNat)
  case atStart => exact ⟨0, by omega, rfl, rfl, fun h => absurd h (by omega), Kp.refl _ _⟩
  case round =>
    obtain ⟨n, hnl, rfl, hrow, hq0, hk⟩ := hrel
    by_cases hlt : n < xs.length
    · obtain ⟨b, off, ua, uc, rfl, hb, hc0, hc1, hbx, _⟩ := item_at (hs.kp0 hk) (hi.kp hk (by simp)) rfl n hlt
      obtain ⟨b', off', u0, uc0, he, _, hz0, _, _, _⟩ := item_at (hs.kp0 hk) (hi.kp hk (by simp)) rfl 0 (by omega)
      cases he
      have hdr : xs.drop n = xs[n] :: xs.drop (n + 1) := List.drop_eq_getElem_cons hlt
      have hx := HL.out xs[n] (List.getElem_mem hlt)
      have hh0 : xs[0].q = headQ xs := headQ_get xs (by omega)
      rw [hh0] at hz0
      rw [hdr, rowFrom] at hrow
      have hz : n = 0 → xs[n].q = headQ xs := fun h => by subst h; exact hh0
      generalize xs[n] = x at *
      generalize headQ xs = q0 at *
      obtain ⟨q, xb⟩ := x
      simp only at hc0 hc1 hbx hx hz
      rw [Nat.zero_mul, Nat.add_zero] at hz0
      have HROW := Lib.hid hrow
      clear hrow hdr hh0
      have i0 : (0 : Int) ≤ n ∧ (n : Int) < xs.length ∧ (0 : Int) < xs.length := by omega
      obtain ⟨i0a, i0b, i0c⟩ := i0
      have i0d : 0 < xs.length := by omega
      go_wp2_with fail
      have hkA := (Kp.refl [] wr).alloc (.cells #[.int .i64 q, .slice ua xb.length uc] 51)
      have hhA := heap_alloc_new wr (.cells #[.int .i64 q, .slice ua xb.length uc] 51)
      have hcA := hkA.cells0.1 b off hb
      rw [hz0] at hcA
      generalize wr.alloc (.cells #[.int .i64 q, .slice ua xb.length uc] 51) = wA at *
      have d0 := cell_heap hhA 0
      have d1 := cell_heap hhA 1
      simp only [List.getElem?_toArray, List.getElem?_cons_zero, List.getElem?_cons_succ] at d0 d1
      have hbA : b < wA.heap.size := Nat.lt_of_lt_of_le hb hkA.size
      clear hc0 hc1 hz0
      have hS : Gr wA [wr.heap.size, b] wA.drew := Gr.of (fun _ _ => rfl)
      have hcs : (decide (q < 1) = true ∧ okIt q0 n ⟨q, xb⟩ = false) ∨ (decide (q < 1) = false ∧ decide (4294967295 < q) = true ∧ okIt q0 n ⟨q, xb⟩ = false) ∨ (decide (q < 1) = false ∧ decide (4294967295 < q) = false ∧ ¬ q = q0 + n ∧ okIt q0 n ⟨q, xb⟩ = false) ∨
          (decide (q < 1) = false ∧ decide (4294967295 < q) = false ∧ q = q0 + n ∧ decide (256 < (xb.length : Int)) = true ∧ okIt q0 n ⟨q, xb⟩ = false) ∨ (decide (q < 1) = false ∧ decide (4294967295 < q) = false ∧ q = q0 + n ∧ decide (256 < (xb.length : Int)) = false ∧ okIt q0 n ⟨q, xb⟩ = true) := by
        simp [okIt]; omega
      have hq1 : ¬ decide (q < 1) = true → ¬ decide (4294967295 < q) = true → 1 ≤ q0 ∧ q0 ≤ 4294967295 := by
        simp only [decide_eq_true_eq]
        intro h1 h2
        by_cases h : 0 < n
        · exact hq0 h
        · have := hz (by omega); omega
      have HQ0 := Lib.hid hq0
      have HZ := Lib.hid hz
      clear hq0 hz
      have hwr : 1 ≤ q0 ∧ q0 ≤ 4294967295 → IntKind.i64.wrap (q0 + (n : Int)) = q0 + n := fun h => IntWalk.i64_in _ (by omega)
      rcases hcs with ⟨h1, ok⟩ | ⟨h1, h2, ok⟩ | ⟨h1, h2, h3, ok⟩ | ⟨h1, h2, rfl, h4, ok⟩ | ⟨h1, h2, rfl, h4, ok⟩
      · have HOK := Lib.hid ok
        clear ok hq1 hwr
        refine wp_plan (.H 0 (.H 1 (.H 2 (.H 3 (.H 4 (.H 5 (.H 6 (.H 7 (.H 8 (.H 9 (.H 10 (.H 11 (.H 12 (.H 13 (.H 14 (.H 15 (.H 16 (.H 17 (.H 18 (.H 19 (.H 20 (.H 21 (.H 22 (.E 23 false (.E 24 false .Z))))))))))))))))))))))))) (Gr wA [wr.heap.size, b]) (by as_aux_lemma => kernel_rfl) (by as_aux_lemma => kernel_rfl) ?_
        repeat (first | (refine plan_H rfl hS (fun K hK => ?_); go_simp; refine hK _ ?_; clear hK K) | (refine plan_E rfl (fun K hK => ?_); go_simp; (first | refine hK _ _ (fun _ => hS) ?_ | refine hK _ _ nofun ?_); clear hK K))
        refine plan_Z ?_
        go_wp2
        go_ret
        rw [HROW.out, HOK.out]
        exact ⟨rfl, (hk.trans hkA).drew⟩
      · have HOK := Lib.hid ok
        clear ok hq1 hwr
        refine wp_plan (.H 0 (.H 1 (.H 2 (.H 3 (.H 4 (.H 5 (.H 6 (.H 7 (.H 8 (.H 9 (.H 10 (.H 11 (.H 12 (.H 13 (.H 14 (.H 15 (.H 16 (.H 17 (.H 18 (.H 19 (.H 20 (.H 21 (.H 22 (.E 23 false (.E 24 false .Z))))))))))))))))))))))))) (Gr wA [wr.heap.size, b]) (by as_aux_lemma => kernel_rfl) (by as_aux_lemma => kernel_rfl) ?_
        repeat (first | (refine plan_H rfl hS (fun K hK => ?_); go_simp; refine hK _ ?_; clear hK K) | (refine plan_E rfl (fun K hK => ?_); go_simp; (first | refine hK _ _ (fun _ => hS) ?_ | refine hK _ _ nofun ?_); clear hK K))
        refine plan_Z ?_
        go_wp2
        go_ret
        rw [HROW.out, HOK.out]
        exact ⟨rfl, (hk.trans hkA).drew⟩
      · have HOK := Lib.hid ok
        clear ok
        obtain ⟨hq1, hq2⟩ := hq1 (by rw [h1]; simp) (by rw [h2]; simp)
        replace hwr := hwr ⟨hq1, hq2⟩
        refine wp_plan (.H 0 (.H 1 (.H 2 (.H 3 (.H 4 (.H 5 (.H 6 (.H 7 (.H 8 (.H 9 (.H 10 (.H 11 (.H 12 (.H 13 (.H 14 (.H 15 (.H 16 (.H 17 (.H 18 (.H 19 (.H 20 (.H 21 (.H 22 (.E 23 false (.E 24 false .Z))))))))))))))))))))))))) (Gr wA [wr.heap.size, b]) (by as_aux_lemma => kernel_rfl) (by as_aux_lemma => kernel_rfl) ?_
        repeat (first | (refine plan_H rfl hS (fun K hK => ?_); go_simp; refine hK _ ?_; clear hK K) | (refine plan_E rfl (fun K hK => ?_); go_simp; (first | refine hK _ _ (fun _ => hS) ?_ | refine hK _ _ nofun ?_); clear hK K))
        refine plan_Z ?_
        go_wp2
        go_ret
        rw [HROW.out, HOK.out]
        exact ⟨rfl, (hk.trans hkA).drew⟩
      · have HOK := Lib.hid ok
        clear ok
        obtain ⟨hq1, hq2⟩ := hq1 (by rw [h1]; simp) (by rw [h2]; simp)
        replace hwr := hwr ⟨hq1, hq2⟩
        refine wp_plan (.H 0 (.H 1 (.H 2 (.H 3 (.H 4 (.H 5 (.H 6 (.H 7 (.H 8 (.H 9 (.H 10 (.H 11 (.H 12 (.H 13 (.H 14 (.H 15 (.H 16 (.H 17 (.H 18 (.H 19 (.H 20 (.H 21 (.H 22 (.E 23 false (.E 24 false .Z))))))))))))))))))))))))) (Gr wA [wr.heap.size, b]) (by as_aux_lemma => kernel_rfl) (by as_aux_lemma => kernel_rfl) ?_
        repeat (first | (refine plan_H rfl hS (fun K hK => ?_); go_simp; refine hK _ ?_; clear hK K) | (refine plan_E rfl (fun K hK => ?_); go_simp; (first | refine hK _ _ (fun _ => hS) ?_ | refine hK _ _ nofun ?_); clear hK K))
        refine plan_Z ?_
        go_wp2
        go_ret
        rw [HROW.out, HOK.out]
        exact ⟨rfl, (hk.trans hkA).drew⟩
      · have HOK := Lib.hid ok
        clear ok
        obtain ⟨hq1, hq2⟩ := hq1 (by rw [h1]; simp) (by rw [h2]; simp)
        replace hwr := hwr ⟨hq1, hq2⟩
        refine wp_plan (.H 0 (.H 1 (.H 2 (.H 3 (.H 4 (.H 5 (.H 6 (.H 7 (.H 8 (.H 9 (.H 10 (.H 11 (.H 12 (.H 13 (.H 14 (.H 15 (.H 16 (.H 17 (.H 18 (.H 19 (.H 20 (.H 21 (.H 22 (.E 23 false (.E 24 false .Z))))))))))))))))))))))))) (Gr wA [wr.heap.size, b]) (by as_aux_lemma => kernel_rfl) (by as_aux_lemma => kernel_rfl) ?_
        repeat (first | (refine plan_H rfl hS (fun K hK => ?_); go_simp; refine hK _ ?_; clear hK K) | (refine plan_E rfl (fun K hK => ?_); go_simp; (first | refine hK _ _ (fun _ => hS) ?_ | refine hK _ _ nofun ?_); clear hK K))
        refine plan_Z ?_
        go_wp2
        go_roundw
        case measure => simp [intOf]; omega
        case rel => exact ⟨n + 1, by omega, by go_num, by rw [HROW.out, HOK.out]; rfl, fun _ => ⟨hq1, hq2⟩, (hk.trans hkA).drew⟩
    · have hd : decide ((n : Int) < (xs.length : Int)) = false := by rw [decide_eq_false_iff_not]; omega
      rw [List.drop_of_length_le (by omega)] at hrow
      have HROW := Lib.hid hrow
      clear hrow
      go_wp2
      go_ret
      rw [HROW.out]
      exact ⟨rfl, hk⟩
end Go.Proofs.YtddpefbpiehgeaaDoor

/- The reference's receiver. -/
namespace Go.Proofs.YtddpefbpiehgeaaDoor
open Go Go.RowKit
set_option maxRecDepth 100000
set_option linter.unusedVariables false
set_option linter.unusedSectionVars false
set_option linter.unusedSimpArgs false

/-- The reference's receiver. -/
def IsX (w : World) (p : Nat) (nx : Int) : Prop := w.heap[p]? = some (.cells #[.int .i64 nx] 43 (0, 0)) ∧ 0 ≤ nx ∧ nx ≤ 4294967296
theorem IsX.kp {S : List Nat} {w w' : World} {p : Nat} {nx : Int} (h : IsX w p nx) (hk : Kp S w w') (hS : p ∉ S) : IsX w' p nx := ⟨hk.heap h.1 hS, h.2⟩

theorem rtake_calls (p : Nat) (nx q : Int) (w : World) (hr : IsX w p nx) (hq0 : -9223372036854775808 ≤ q) (hq : q ≤ 9223372036854775807) :
    Calls Tryd.prog 24 #[.pointer (some ⟨p, 0, none⟩), .int .i64 q] w fun e w' => e = .returned (.tuple #[]) ∧ IsX w' p (takeN nx q) ∧ Kp [p] w w' := by
  obtain ⟨hh, h0, h9⟩ := hr
  have hc := cell_heap hh 0
  have hf := free_heap hh 0
  have hpl := lt_of_heap hh
  simp only [List.getElem?_toArray, List.getElem?_cons_zero, List.getElem?_cons_succ] at hc
  by_cases h : 0 < nx ∧ nx ≤ q ∧ q ≤ 4294967295
  · have ht : takeN nx q = q + 1 := if_pos h
    have HT := Lib.hid ht
    obtain ⟨h1, h2, h3⟩ := h
    have hs := heap_set (i := 0) (.int .i64 (q + 1)) hh
    clear ht
    go_enter Tryd.func24, Tryd.ntmps24
    go_wp2
    go_end0
    refine ⟨rfl, ?_, (Kp.refl [p] w).setCell (.inl (by simp)) _⟩
    rw [HT.out]
    exact ⟨hs, by omega, by omega⟩
  · have ht : takeN nx q = nx := if_neg h
    have HT := Lib.hid ht
    have hd : decide (0 < nx) = false ∨ decide (0 < nx) = true ∧ decide (nx ≤ q) = false ∨ decide (0 < nx) = true ∧ decide (nx ≤ q) = true ∧ decide (q ≤ 4294967295) = false := by
      simp only [decide_eq_false_iff_not, decide_eq_true_eq]; omega
    clear ht h
    rcases hd with h1 | ⟨h1, h2⟩ | ⟨h1, h2, h3⟩
    all_goals
      go_enter Tryd.func24, Tryd.ntmps24
      go_wp2
      go_end0
      refine ⟨rfl, ?_, Kp.refl _ w⟩
      rw [HT.out]
      exact ⟨hh, h0, h9⟩

theorem rack_ret {Q : Ending → World → Prop} {a : Act} {w : World} {rb : Nat} {cs : Array Value} {fr : Nat × Nat} (h4 : a.tmps.getD 2 undef = .pointer (some ⟨rb, 0, none⟩)) (hd : a.defers = []) (hh : w.heap[rb]? = some (.cells cs 25 fr)) (h5 : cs.size = 5)
    (hQ : Q (.returned (.tuple #[.agg cs, a.tmps.getD 3 undef])) w) : bodyPost Tryd.prog Tryd.f26 Q Exit.ret a w :=
  bodyPost_ret (results_pair rfl _ _ rb _ cs fr _ h4 hh Tryd.underlying25 rfl (by rw [h5]; exact f5size)) hd hQ

theorem rack_calls (p : Nat) (nx : Int) (w : World) (hr : IsX w p nx) :
    Calls Tryd.prog 26 #[.pointer (some ⟨p, 0, none⟩)] w fun e w' => e = .returned (.tuple #[.agg (fcells (ackF nx) (.slice none 0 0) (.slice none 0 0)), .bool (!(nx == 0))]) ∧ Kp [] w w' := by
  obtain ⟨hh, h0, h9⟩ := hr
  have hlt := lt_of_heap hh
  have hk0 := (Kp.refl [] w).alloc (.cells #[.int .i64 0, .int .i64 0, .int .i64 0, .slice none 0 0, .slice none 0 0] 25)
  have hh0 := heap_alloc_new w (.cells #[.int .i64 0, .int .i64 0, .int .i64 0, .slice none 0 0, .slice none 0 0] 25)
  have hc := cell_heap (hk0.heap hh (by simp)) 0
  simp only [List.getElem?_toArray, List.getElem?_cons_zero, List.getElem?_cons_succ] at hc
  have hsz := alloc_lt w (.cells #[.int .i64 0, .int .i64 0, .int .i64 0, .slice none 0 0, .slice none 0 0] 25)
  by_cases h : nx = 0
  · have ha : ackF nx = zeroF := if_pos h
    have HA := Lib.hid ha
    have hb : (nx == 0) = true := by simpa using h
    have hcc : Ending.returned (Value.tuple #[.agg (fcells (ackF nx) (.slice none 0 0) (.slice none 0 0)), .bool (!(nx == 0))]) = .returned (.tuple #[zeroV, .bool false]) := by rw [ha, hb]; rfl
    have HC := Lib.hid hcc
    clear ha h hcc
    go_enter Tryd.func26, Tryd.ntmps26
    go_wp2_with fail
    exact rack_ret rfl rfl (heap_alloc_new w _) rfl ⟨HC.out.symm, (Kp.refl [] w).alloc _⟩
  · have ha : ackF nx = ⟨2, 0, nx - 1, [], []⟩ := if_neg h
    have hb : (nx == 0) = false := by simpa using h
    have hcc : Ending.returned (Value.tuple #[.agg (fcells (ackF nx) (.slice none 0 0) (.slice none 0 0)), .bool (!(nx == 0))]) = .returned (.tuple #[.agg #[.int .i64 2, .int .i64 0, .int .i64 (nx - 1), .slice none 0 0, .slice none 0 0], .bool true]) := by rw [ha, hb]; rfl
    have HC := Lib.hid hcc
    have h1 : 1 ≤ nx := by omega
    clear ha h hcc
    go_enter Tryd.func26, Tryd.ntmps26
    go_wp2_with fail
    exact rack_ret rfl rfl (heap_alloc_new w _) rfl ⟨HC.out.symm, (Kp.refl [] w).alloc _⟩

/-- What the reference's Got hands back. -/
def RetX (r : Int × List It) (p : Nat) (w : World) (e : Ending) (w' : World) : Prop :=
  ∃ v cs, e = .returned v ∧ Own w' w.heap.size 51 2 v r.2.length cs ∧ ItC (w.heap.size ≤ ·) w' cs r.2 ∧ IsX w' p r.1 ∧ Kp [p] w w'

theorem rgot_not (p : Nat) (nx : Int) (f : Fr) (iv tv : Value) (w : World) (hr : IsX w p nx) (hi : Rws w iv f.its) (ht : Bs w tv f.t) (hn : f.its.length ≤ 100000000000000) (hnt : f.t.length ≤ 140737488352000) (hb : f.b ≤ 9223372036854775807) (hno : ¬ (f.k = 1 ∧ mayB f = true)) :
    Calls Tryd.prog 21 #[.pointer (some ⟨p, 0, none⟩), .agg (fcells f iv tv)] w (RetX (got nx f) p w) := by
  have hg : got nx f = (nx, []) := by unfold got; rw [if_neg hno]
  rw [hg]
  obtain ⟨ia, ic, rfl, hic⟩ := hi.form
  obtain ⟨ta, tc, rfl, -⟩ := Sl.form ht
  have him := rmay_calls f _ _ (w.alloc (.cells (fcells f (.slice ia f.its.length ic) (.slice ta f.t.length tc)) 25)) (hi.kp0 ((Kp.refl [] w).alloc _)) (ht.kp0 ((Kp.refl [] w).alloc _)) hn hnt hb
  have hk0 := (Kp.refl [] w).alloc (.cells (fcells f (.slice ia f.its.length ic) (.slice ta f.t.length tc)) 25)
  have hh0 := heap_alloc_new w (.cells (fcells f (.slice ia f.its.length ic) (.slice ta f.t.length tc)) 25)
  have hp : p < w.heap.size := lt_of_heap hr.1
  unfold fcells at him hk0 hh0 ⊢
  have HIM := Lib.hid him
  clear him hg
  cases hm : mayB f with
  | true =>
    have hk : f.k ≠ 1 := fun hk => hno ⟨hk, hm⟩
    rw [hm] at HIM
    have hb1 : (f.k != 1) = true := by simpa using hk
    clear hk hm hno
    go_enter Tryd.func21, Tryd.ntmps21
    go_wp2_with (go_at_call 34; (with_reducible refine HIM.out.mono ?_); rintro e w1 ⟨rfl, hk1⟩; obtain ⟨c0, c1, c2, c3, c4⟩ := cells5 (hk1.heap hh0 (by simp)))
    go_ret
    exact ⟨_, [], rfl, Own.nil _ _ _ _, ItC.nil _ _, hr.kp (hk0.trans hk1) (by simp), (hk0.trans hk1).nil⟩
  | false =>
    rw [hm] at HIM
    clear hno hm
    go_enter Tryd.func21, Tryd.ntmps21
    go_wp2_with (go_at_call 34; (with_reducible refine HIM.out.mono ?_); rintro e w1 ⟨rfl, hk1⟩; obtain ⟨c0, c1, c2, c3, c4⟩ := cells5 (hk1.heap hh0 (by simp)))
    go_ret
    exact ⟨_, [], rfl, Own.nil _ _ _ _, ItC.nil _ _, hr.kp (hk0.trans hk1) (by simp), (hk0.trans hk1).nil⟩

set_option maxHeartbeats 1000000 in
theorem rgot_is (p : Nat) (nx NX : Int) (f : Fr) (iv tv : Value) (w : World) (P : Nat → Prop) (hP : ¬ P p) (hr : IsX w p nx) (hi : RwP P w iv f.its) (ht : Bs w tv f.t) (hk : f.k = 1) (hm : mayB f = true) (hNX : nextOf nx f = NX) :
    Calls Tryd.prog 21 #[.pointer (some ⟨p, 0, none⟩), .agg (fcells f iv tv)] w (RetX (got nx f) p w) := by
  obtain ⟨ht0, hx, hn1, hn8, ha1, hab, hb9⟩ := may_1 hm hk
  have hg : got nx f = (NX, if NX < f.b then [] else gotItems NX f 0 f.its) := by unfold got; rw [if_pos ⟨hk, hm⟩, hNX]
  have HG := Lib.hid hg
  have hN0 : 0 ≤ NX ∧ NX ≤ 4294967296 ∧ 1 ≤ NX ∧ ((nx < f.a ∧ NX = f.a) ∨ (f.a ≤ nx ∧ NX = nx)) := by have := hr.2; unfold nextOf at hNX; split at hNX <;> omega
  obtain ⟨ia, ic, rfl, hic⟩ := hi.rws.form
  obtain ⟨ta, tc, rfl, -⟩ := Sl.form ht
  have him := rmay_calls f _ _ (w.alloc (.cells (fcells f (.slice ia f.its.length ic) (.slice ta f.t.length tc)) 25)) (hi.rws.kp0 ((Kp.refl [] w).alloc _)) (ht.kp0 ((Kp.refl [] w).alloc _)) (by omega) (by rw [ht0]; simp) (by omega)
  have hk0 := (Kp.refl [] w).alloc (.cells (fcells f (.slice ia f.its.length ic) (.slice ta f.t.length tc)) 25)
  have hh0 := heap_alloc_new w (.cells (fcells f (.slice ia f.its.length ic) (.slice ta f.t.length tc)) 25)
  have hsz0 := alloc_lt w (.cells (fcells f (.slice ia f.its.length ic) (.slice ta f.t.length tc)) 25)
  have hp : p < w.heap.size := lt_of_heap hr.1
  rw [hm] at him
  unfold fcells at him hk0 hh0 hsz0 ⊢
  have HIM := Lib.hid him
  have HT0 := Lib.hid ht0
  have HX := Lib.hid hx
  have hb1 : (f.k != 1) = false := by simp [hk]
  have hk9 : f.k ≤ 1 := by omega
  clear him hg ht0 hx hm hk hNX
  obtain ⟨hrh, hr0, hr9⟩ := hr
  obtain ⟨hN0, hN9, hN1, hcs⟩ := hN0
  have hd : decide (nx < f.a) = true ∧ NX = f.a ∨ decide (nx < f.a) = false ∧ NX = nx := by
    rcases hcs with ⟨h1, h2⟩ | ⟨h1, h2⟩
    · exact .inl ⟨by simpa using h1, h2⟩
    · exact .inr ⟨by simpa using h1, h2⟩
  clear hcs
  have HD := Lib.hid hd
  clear hd
  rcases HD.out with ⟨h1, h2⟩ | ⟨h1, h2⟩
  · have H2 := Lib.hid h2
    clear h2 HD
    go_enter Tryd.func21, Tryd.ntmps21
    go_wp2_with (go_at_call 34; (with_reducible refine HIM.out.mono ?_); rintro e w1 ⟨rfl, hk1⟩; generalize w.alloc (.cells #[.int .i64 f.k, .int .i64 f.a, .int .i64 f.b, .slice ia f.its.length ic, .slice ta f.t.length tc] 25) = w0 at *; have hkw1 := hk0.trans hk1; have hh1 := hk1.heap hh0 (by simp); have hr1 := hkw1.heap hrh (by simp); obtain ⟨c0, c1, c2, c3, c4⟩ := cells5 hh1; have cp := cell_heap hr1 0; have fp := free_heap hr1 0; simp only [List.getElem?_toArray, List.getElem?_cons_zero] at cp)
    have hlt1 := lt_of_heap hh1
    have hS : Gr w1 [p, w.heap.size] w1.drew := Gr.of (fun _ _ => rfl)
    refine wp_plan (.H 0 (.H 1 (.H 2 (.H 3 (.H 4 (.H 5 (.E 6 false .Z))))))) (Gr w1 [p, w.heap.size]) (by as_aux_lemma => kernel_rfl) (by as_aux_lemma => kernel_rfl) ?_
    repeat (first | (refine plan_H rfl hS (fun K hK => ?_); go_simp; refine hK _ ?_; clear hK K) | (refine plan_E rfl (fun K hK => ?_); go_simp; (first | refine hK _ _ (fun _ => hS) ?_ | refine hK _ _ nofun ?_); clear hK K))
    refine plan_Z ?_
    clear hS
    have hkd := hkw1
    have hr1d : w1.heap[p]? = some (.cells #[.int .i64 nx] 43 (0, 0)) := hr1
    have hh1d : w1.heap[w.heap.size]? = some (.cells #[.int .i64 f.k, .int .i64 f.a, .int .i64 f.b, .slice ia f.its.length ic, .slice ta f.t.length tc] 25 (0, 0)) := hh1
    have hpl1 := lt_of_heap hr1
    go_wp2_with fail
    have hr2 : (w1.setCell ⟨p, 0, none⟩ (.int .i64 f.a)).heap[p]? = some (.cells #[.int .i64 NX] 43 (0, 0)) := by
      have := heap_set (i := 0) (.int .i64 f.a) hr1d
      rw [H2.out]
      exact this
    have hh2 := (hset w1 ⟨p, 0, none⟩ (.int .i64 f.a) w.heap.size (by simp; omega)).trans hh1d
    have hk2 : Kp [p] w (w1.setCell ⟨p, 0, none⟩ (.int .i64 f.a)) := hkd.nil.setCell (.inl (by simp)) _
    clear c0 c1 c2 c3 c4 cp fp hk1 hkw1 hh1 hr1 hlt1 hkd hr1d hh1d h1 hpl1 hh0 hk0 hsz0 HIM
    generalize w1.setCell ⟨p, 0, none⟩ (.int .i64 f.a) = w2 at *
    obtain ⟨c0, c1, c2, c3, c4⟩ := cells5 hh2
    have cp := cell_heap hr2 0
    simp only [List.getElem?_toArray, List.getElem?_cons_zero] at cp
    have hlt2 := lt_of_heap hh2
    have hltp := lt_of_heap hr2
    have hS : Gr w2 [p, w.heap.size] w2.drew.drew := Gr.of (fun _ _ => rfl)
    by_cases hlt : NX < f.b
    · have hd : decide (NX < f.b) = true := by simpa using hlt
      rw [if_pos hlt] at HG
      clear hlt
      refine wp_plan (.H 0 (.H 1 (.H 2 (.H 3 (.H 4 (.H 5 (.E 6 false .Z))))))) (Gr w2 [p, w.heap.size]) (by as_aux_lemma => kernel_rfl) (by as_aux_lemma => kernel_rfl) ?_
      repeat (first | (refine plan_H rfl hS (fun K hK => ?_); go_simp; refine hK _ ?_; clear hK K) | (refine plan_E rfl (fun K hK => ?_); go_simp; (first | refine hK _ _ (fun _ => hS) ?_ | refine hK _ _ nofun ?_); clear hK K))
      refine plan_Z ?_
      go_wp2
      go_ret
      rw [HG.out]
      exact ⟨_, [], rfl, Own.nil _ _ _ _, ItC.nil _ _, ⟨hr2, by omega, by omega⟩, hk2.drew.drew⟩
    · have hd : decide (NX < f.b) = false := by simpa using hlt
      rw [if_neg hlt] at HG
      have hge : f.b ≤ NX := by omega
      clear hlt
      refine wp_plan (.H 0 (.H 1 (.H 2 (.H 3 (.H 4 (.H 5 (.E 6 false .Z))))))) (Gr w2 [p, w.heap.size]) (by as_aux_lemma => kernel_rfl) (by as_aux_lemma => kernel_rfl) ?_
      repeat (first | (refine plan_H rfl hS (fun K hK => ?_); go_simp; refine hK _ ?_; clear hK K) | (refine plan_E rfl (fun K hK => ?_); go_simp; (first | refine hK _ _ (fun _ => hS) ?_ | refine hK _ _ nofun ?_); clear hK K))
      refine plan_Z ?_
      go_wp2_with fail
      have hi2 : RwP P w2 (.slice ia f.its.length ic) f.its := hi.kp hk2 (fun g hg hm => hP (by simp at hm; rw [← hm]; exact hg))
      have hs2 := hk2.size
      clear c0 c1 c2 c3 c4 cp hS hi hd
      go_loopw [6, 7] (fun v6 v7 wr => ∃ (n : Nat) (cs : List Value), n ≤ f.its.length ∧ v7 = .int .i64 n ∧ Own wr w2.heap.size 51 2 v6 (gotItems NX f 0 (f.its.take n)).length cs ∧ ItO wr w2.heap.size cs (gotItems NX f 0 (f.its.take n)) ∧ Kp [] w2 wr) (fun _ v7 _ => f.its.length - (intOf v7).toNat)
      case atStart => exact ⟨0, [], by omega, rfl, Own.nil _ _ _ _, ItO.nil _ _, (Kp.refl [] w2).drew.drew⟩
      case round =>
        obtain ⟨n, cs, hnl, rfl, hown, hitc, hkr⟩ := hrel
        have hhr := hkr.heap hh2 (by simp)
        have hrr := hkr.heap hr2 (by simp)
        obtain ⟨c0, c1, c2, c3, c4⟩ := cells5 hhr
        have cp := cell_heap hrr 0
        simp only [List.getElem?_toArray, List.getElem?_cons_zero] at cp
        have hltA := lt_of_heap hhr
        have hltB := lt_of_heap hrr
        by_cases hlt : n < f.its.length
        · obtain ⟨oa, oc, rfl⟩ := own_form hown
          obtain ⟨ib, io, ua, uc, rfl, hib, hcell, hbx⟩ := (hi2.kp hkr (by simp)).rws.at n hlt
          have hx := HX.out f.its[n] (List.getElem_mem hlt)
          have hsn := gotItems_snoc NX f f.its[n] (f.its.take n) 0
          rw [← List.take_succ_eq_append_getElem hlt, List.length_take, Nat.min_eq_left (by omega), Nat.zero_add] at hsn
          have hgl := gotItems_len NX f (f.its.take n) 0
          rw [List.length_take] at hgl
          generalize f.its[n] = x at *
          have i0 : (0 : Int) ≤ n ∧ (n : Int) < f.its.length := by omega
          obtain ⟨i0a, i0b⟩ := i0
          have hn8' : (n : Int) ≤ 8 := by omega
          have hS : Gr wr [p, w.heap.size, ib] wr.drew := Gr.of (fun _ _ => rfl)
          have hw1 : IntKind.i64.wrap (f.b + (n : Int)) = f.b + n := IntWalk.i64_in _ (by omega)
          by_cases hc : NX ≤ f.b + n
          · rw [if_pos hc] at hsn
            have hd : decide (NX ≤ f.b + (n : Int)) = true := by simpa using hc
            have HSN := Lib.hid hsn
            have hgl8 : (gotItems NX f 0 (f.its.take n)).length ≤ 8 := by omega
            clear hsn hc hgl
            generalize gotItems NX f 0 (f.its.take n) = G at *
            go_wp2_with fail
            refine wp_plan (.H 0 (.H 1 (.H 2 (.H 3 (.H 4 (.H 5 (.H 6 (.H 7 (.E 8 false .Z))))))))) (Gr wr [p, w.heap.size, ib]) (by as_aux_lemma => kernel_rfl) (by as_aux_lemma => kernel_rfl) ?_
            repeat (first | (refine plan_H rfl hS (fun K hK => ?_); go_simp; refine hK _ ?_; clear hK K) | (refine plan_E rfl (fun K hK => ?_); go_simp; (first | refine hK _ _ (fun _ => hS) ?_ | refine hK _ _ nofun ?_); clear hK K))
            refine plan_Z ?_
            go_wp2_with fail
            have hS2 : Gr wr [p, w.heap.size, ib] wr.drew.drew := Gr.of (fun _ _ => rfl)
            refine wp_plan (.H 0 (.H 1 (.H 2 (.H 3 (.H 4 (.H 6 (.H 7 (.H 8 (.H 9 (.H 10 (.E 5 true (.E 11 true (.E 12 true (.E 13 true (.E 14 false (.E 15 false .Z)))))))))))))))) (Gr wr [p, w.heap.size, ib]) (by as_aux_lemma => kernel_rfl) (by as_aux_lemma => kernel_rfl) ?_
            repeat (refine plan_H rfl hS2 (fun K hK => ?_); go_simp; refine hK _ ?_; clear hK K)
            have hzz : ∀ q, q ∈ [p, w.heap.size, ib] → q < wr.heap.size := fun q hq => by
              simp only [List.mem_cons, List.not_mem_nil, or_false] at hq
              rcases hq with rfl | rfl | rfl <;> omega
            refine plan_E rfl (fun K hK => ?_); go_simp
            have hk5 : Kp [] wr (wr.drew.drew.alloc (.cells #[] 5)) := (Kp.refl [] wr).drew.drew.alloc _
            have hS5 : Gr wr [p, w.heap.size, ib] (wr.drew.drew.alloc (.cells #[] 5)) := Gr.of (fun q hq => hk5.block q (hzz q hq) (by simp))
            refine hK _ _ (fun _ => hS5) ?_
            clear hK K
            obtain ⟨i0, hi0, hz0, hz1, hz2⟩ := info_parts u8infoF
            have hoA := own_alloc wr.drew.drew 5 [] 0 wr.heap.size (0, 0) (.inl rfl) rfl (Nat.le_refl _) (by unfold maxLen; omega)
            refine plan_E rfl (fun K hK => ?_)
            refine step_app2 _ rfl _ _ 23 23 rfl wr.heap.size 5 i0 _ 1 1 Tryd.underlying23 hi0 hz0 hz1 hz2 rfl (by omega) (.slice (some ⟨wr.heap.size, 0, none⟩) 0 0) 0 [] rfl hoA (.slice ua x.length uc) x.length _ rfl (Src.of_sl Tryd.underlying23 (hbx.kp0 hk5) bcells_one) (by omega) (by omega) (by simp) ?_
            intro v6 w6 ho6 hg6
            rw [Nat.zero_add, List.nil_append] at ho6
            have hk6 : Kp [] wr w6 := by
              rcases hg6 with ⟨-, hg6⟩ | ⟨hg6, -⟩
              · exact hk5.grown hg6 (fun k hk => .inr (by simp [Value.ownBlock] at hk; omega))
              · exact hk5.trans hg6
            obtain ⟨ya, yc, rfl⟩ := own_form ho6
            have hS6 : Gr wr [p, w.heap.size, ib] w6 := Gr.of (fun q hq => hk6.block q (hzz q hq) (by simp))
            refine hK _ _ (fun _ => hS6) ?_
            clear hK K hg6 hoA hS5
            refine plan_E rfl (fun K hK => ?_); go_simp
            refine hK _ _ (fun _ => hS6) ?_
            clear hK K
            refine plan_E rfl (fun K hK => ?_); go_simp
            have hk7 : Kp [] wr (w6.alloc (.cells #[.int .i64 (f.b + n), .slice ya x.length yc] 51)) := hk6.alloc _
            have hS7 : Gr wr [p, w.heap.size, ib] (w6.alloc (.cells #[.int .i64 (f.b + n), .slice ya x.length yc] 51)) := Gr.of (fun q hq => hk7.block q (hzz q hq) (by simp))
            refine hK _ _ (fun _ => hS7) ?_
            clear hK K
            obtain ⟨i1, hi1, hy0, hy1, hy2⟩ := info_parts iteminfo
            have hown7 := own_kp hown hk7 (by simp)
            refine plan_E rfl (fun K hK => ?_)
            refine step_app _ rfl _ _ 46 46 rfl w2.heap.size 51 i1 _ 2 32 Tryd.underlying46 hi1 hy0 hy1 hy2 rfl (by omega) (.slice oa G.length oc) G.length cs rfl hown7 (.slice (some ⟨w6.heap.size, 0, none⟩) 1 1) 1 [.int .i64 (f.b + n), .slice ya x.length yc] rfl (Src.of_sl Tryd.underlying46 (sl_alloc w6 51 _ _ rfl 2 1 rfl) (by simp [Value.oneCell'])) (by omega) (by omega) (by have := hkr.size; have := hk7.size; omega) ?_
            intro v5 w5 ho5 hg5 hx5
            obtain ⟨a5, c5, rfl⟩ := own_form ho5
            have hk55 : Kp (Value.slice oa G.length oc).ownBlock.toList w6 w5 := ((Kp.refl _ w6).alloc _).grown hg5 (fun q hq => .inl (by simp [hq]))
            have hown6 := own_kp hown hk6 (by simp)
            have hob3 : OB w5 5 w2.heap.size (.slice ya x.length yc) x := own_base (own_kp ho6 hk55 (fun q hq hm => own_ne ho6 hown6 (by decide) q hq (by simpa using hm))) (fun q hq => by have := (Own.lt ho6 q hq).1; have := hkr.size; omega)
            have hit5 := ((hitc.kp hk6 (by simp)).row hown6 (by decide) hk55).snoc (x := ⟨f.b + n, x⟩) hob3
            have hkr5 : Kp [] w2 w5 := (hkr.trans hk6).trans' hk55 (fun q hq => .inr (hown.lt q (by simpa using hq)).1)
            have HO5 := Lib.hid ho5
            have HI5 := Lib.hid hit5
            have HK5 := Lib.hid hkr5
            clear ho5 hit5 hkr5 hob3 hown6 hk55 hown7 hk7 hk6 ho6 hw1
            refine hK _ _ nofun ?_
            clear hK K
            refine plan_E rfl (fun K hK => ?_); go_simp
            refine hK _ _ nofun ?_
            clear hK K
            refine plan_Z ?_
            go_wp2
            go_roundw
            case measure => simp [intOf]; omega
            case rel => exact ⟨n + 1, _, by omega, by go_num, by rw [HSN.out, List.length_append]; exact HO5.out, by rw [HSN.out]; exact HI5.out, HK5.out⟩
          · rw [if_neg hc, List.append_nil] at hsn
            have hd : decide (NX ≤ f.b + (n : Int)) = false := by simpa using hc
            have HSN := Lib.hid hsn
            clear hsn hc hgl
            generalize gotItems NX f 0 (f.its.take n) = G at *
            go_wp2_with fail
            refine wp_plan (.H 0 (.H 1 (.H 2 (.H 3 (.H 4 (.H 5 (.H 6 (.H 7 (.E 8 false .Z))))))))) (Gr wr [p, w.heap.size, ib]) (by as_aux_lemma => kernel_rfl) (by as_aux_lemma => kernel_rfl) ?_
            repeat (first | (refine plan_H rfl hS (fun K hK => ?_); go_simp; refine hK _ ?_; clear hK K) | (refine plan_E rfl (fun K hK => ?_); go_simp; (first | refine hK _ _ (fun _ => hS) ?_ | refine hK _ _ nofun ?_); clear hK K))
            refine plan_Z ?_
            clear hw1
            go_wp2_with fail
            go_roundw
            case measure => simp [intOf]; omega
            case rel => exact ⟨n + 1, cs, by omega, by go_num, by rw [HSN.out]; exact own_kp hown ((Kp.refl [] wr).drew) (by simp), by rw [HSN.out]; exact hitc.kp ((Kp.refl [] wr).drew) (by simp), hkr.drew⟩
        · have hd : decide ((n : Int) < (f.its.length : Int)) = false := by rw [decide_eq_false_iff_not]; omega
          rw [List.take_of_length_le (by omega)] at hown hitc
          obtain ⟨oa, oc, rfl⟩ := own_form hown
          have hown' := own_base (base' := w.heap.size) hown (fun q hq => by have := (hown.lt q hq).1; omega)
          go_wp2_with fail
          go_ret
          rw [HG.out]
          exact ⟨_, cs, rfl, hown', hitc.itc.mono (fun g (hg : w2.heap.size ≤ g) => (by omega : w.heap.size ≤ g)), ⟨hrr, by omega, by omega⟩, hk2.trans hkr.nil⟩
  · have H2 := Lib.hid h2
    clear h2 HD
    go_enter Tryd.func21, Tryd.ntmps21
    go_wp2_with (go_at_call 34; (with_reducible refine HIM.out.mono ?_); rintro e w1 ⟨rfl, hk1⟩; generalize w.alloc (.cells #[.int .i64 f.k, .int .i64 f.a, .int .i64 f.b, .slice ia f.its.length ic, .slice ta f.t.length tc] 25) = w0 at *; have hkw1 := hk0.trans hk1; have hh1 := hk1.heap hh0 (by simp); have hr1 := hkw1.heap hrh (by simp); obtain ⟨c0, c1, c2, c3, c4⟩ := cells5 hh1; have cp := cell_heap hr1 0; have fp := free_heap hr1 0; simp only [List.getElem?_toArray, List.getElem?_cons_zero] at cp)
    have hlt1 := lt_of_heap hh1
    have hS : Gr w1 [p, w.heap.size] w1.drew := Gr.of (fun _ _ => rfl)
    refine wp_plan (.H 0 (.H 1 (.H 2 (.H 3 (.H 4 (.H 5 (.E 6 false .Z))))))) (Gr w1 [p, w.heap.size]) (by as_aux_lemma => kernel_rfl) (by as_aux_lemma => kernel_rfl) ?_
    repeat (first | (refine plan_H rfl hS (fun K hK => ?_); go_simp; refine hK _ ?_; clear hK K) | (refine plan_E rfl (fun K hK => ?_); go_simp; (first | refine hK _ _ (fun _ => hS) ?_ | refine hK _ _ nofun ?_); clear hK K))
    refine plan_Z ?_
    clear hS
    have hkd := hkw1
    have hr1d : w1.heap[p]? = some (.cells #[.int .i64 nx] 43 (0, 0)) := hr1
    have hh1d : w1.heap[w.heap.size]? = some (.cells #[.int .i64 f.k, .int .i64 f.a, .int .i64 f.b, .slice ia f.its.length ic, .slice ta f.t.length tc] 25 (0, 0)) := hh1
    have hpl1 := lt_of_heap hr1
    have hr2 : w1.heap[p]? = some (.cells #[.int .i64 NX] 43 (0, 0)) := by
      rw [H2.out]
      exact hr1d
    have HR2 := Lib.hid hr2
    clear hr2
    go_wp2_with fail
    have hr2 := HR2.out
    have hh2 := hh1d
    have hk2 : Kp [p] w w1 := hkd.nil
    clear c0 c1 c2 c3 c4 cp fp hk1 hkw1 hh1 hr1 hlt1 hkd hr1d hh1d h1 hpl1 hh0 hk0 hsz0 HIM HR2
    generalize w1 = w2 at *
    obtain ⟨c0, c1, c2, c3, c4⟩ := cells5 hh2
    have cp := cell_heap hr2 0
    simp only [List.getElem?_toArray, List.getElem?_cons_zero] at cp
    have hlt2 := lt_of_heap hh2
    have hltp := lt_of_heap hr2
    have hS : Gr w2 [p, w.heap.size] w2.drew.drew := Gr.of (fun _ _ => rfl)
    by_cases hlt : NX < f.b
    · have hd : decide (NX < f.b) = true := by simpa using hlt
      rw [if_pos hlt] at HG
      clear hlt
      refine wp_plan (.H 0 (.H 1 (.H 2 (.H 3 (.H 4 (.H 5 (.E 6 false .Z))))))) (Gr w2 [p, w.heap.size]) (by as_aux_lemma => kernel_rfl) (by as_aux_lemma => kernel_rfl) ?_
      repeat (first | (refine plan_H rfl hS (fun K hK => ?_); go_simp; refine hK _ ?_; clear hK K) | (refine plan_E rfl (fun K hK => ?_); go_simp; (first | refine hK _ _ (fun _ => hS) ?_ | refine hK _ _ nofun ?_); clear hK K))
      refine plan_Z ?_
      go_wp2
      go_ret
      rw [HG.out]
      exact ⟨_, [], rfl, Own.nil _ _ _ _, ItC.nil _ _, ⟨hr2, by omega, by omega⟩, hk2.drew.drew⟩
    · have hd : decide (NX < f.b) = false := by simpa using hlt
      rw [if_neg hlt] at HG
      have hge : f.b ≤ NX := by omega
      clear hlt
      refine wp_plan (.H 0 (.H 1 (.H 2 (.H 3 (.H 4 (.H 5 (.E 6 false .Z))))))) (Gr w2 [p, w.heap.size]) (by as_aux_lemma => kernel_rfl) (by as_aux_lemma => kernel_rfl) ?_
      repeat (first | (refine plan_H rfl hS (fun K hK => ?_); go_simp; refine hK _ ?_; clear hK K) | (refine plan_E rfl (fun K hK => ?_); go_simp; (first | refine hK _ _ (fun _ => hS) ?_ | refine hK _ _ nofun ?_); clear hK K))
      refine plan_Z ?_
      go_wp2_with fail
      have hi2 : RwP P w2 (.slice ia f.its.length ic) f.its := hi.kp hk2 (fun g hg hm => hP (by simp at hm; rw [← hm]; exact hg))
      have hs2 := hk2.size
      clear c0 c1 c2 c3 c4 cp hS hi hd
      go_loopw [6, 7] (fun v6 v7 wr => ∃ (n : Nat) (cs : List Value), n ≤ f.its.length ∧ v7 = .int .i64 n ∧ Own wr w2.heap.size 51 2 v6 (gotItems NX f 0 (f.its.take n)).length cs ∧ ItO wr w2.heap.size cs (gotItems NX f 0 (f.its.take n)) ∧ Kp [] w2 wr) (fun _ v7 _ => f.its.length - (intOf v7).toNat)
      case atStart => exact ⟨0, [], by omega, rfl, Own.nil _ _ _ _, ItO.nil _ _, (Kp.refl [] w2).drew.drew⟩
      case round =>
        obtain ⟨n, cs, hnl, rfl, hown, hitc, hkr⟩ := hrel
        have hhr := hkr.heap hh2 (by simp)
        have hrr := hkr.heap hr2 (by simp)
        obtain ⟨c0, c1, c2, c3, c4⟩ := cells5 hhr
        have cp := cell_heap hrr 0
        simp only [List.getElem?_toArray, List.getElem?_cons_zero] at cp
        have hltA := lt_of_heap hhr
        have hltB := lt_of_heap hrr
        by_cases hlt : n < f.its.length
        · obtain ⟨oa, oc, rfl⟩ := own_form hown
          obtain ⟨ib, io, ua, uc, rfl, hib, hcell, hbx⟩ := (hi2.kp hkr (by simp)).rws.at n hlt
          have hx := HX.out f.its[n] (List.getElem_mem hlt)
          have hsn := gotItems_snoc NX f f.its[n] (f.its.take n) 0
          rw [← List.take_succ_eq_append_getElem hlt, List.length_take, Nat.min_eq_left (by omega), Nat.zero_add] at hsn
          have hgl := gotItems_len NX f (f.its.take n) 0
          rw [List.length_take] at hgl
          generalize f.its[n] = x at *
          have i0 : (0 : Int) ≤ n ∧ (n : Int) < f.its.length := by omega
          obtain ⟨i0a, i0b⟩ := i0
          have hn8' : (n : Int) ≤ 8 := by omega
          have hS : Gr wr [p, w.heap.size, ib] wr.drew := Gr.of (fun _ _ => rfl)
          have hw1 : IntKind.i64.wrap (f.b + (n : Int)) = f.b + n := IntWalk.i64_in _ (by omega)
          by_cases hc : NX ≤ f.b + n
          · rw [if_pos hc] at hsn
            have hd : decide (NX ≤ f.b + (n : Int)) = true := by simpa using hc
            have HSN := Lib.hid hsn
            have hgl8 : (gotItems NX f 0 (f.its.take n)).length ≤ 8 := by omega
            clear hsn hc hgl
            generalize gotItems NX f 0 (f.its.take n) = G at *
            go_wp2_with fail
            refine wp_plan (.H 0 (.H 1 (.H 2 (.H 3 (.H 4 (.H 5 (.H 6 (.H 7 (.E 8 false .Z))))))))) (Gr wr [p, w.heap.size, ib]) (by as_aux_lemma => kernel_rfl) (by as_aux_lemma => kernel_rfl) ?_
            repeat (first | (refine plan_H rfl hS (fun K hK => ?_); go_simp; refine hK _ ?_; clear hK K) | (refine plan_E rfl (fun K hK => ?_); go_simp; (first | refine hK _ _ (fun _ => hS) ?_ | refine hK _ _ nofun ?_); clear hK K))
            refine plan_Z ?_
            go_wp2_with fail
            have hS2 : Gr wr [p, w.heap.size, ib] wr.drew.drew := Gr.of (fun _ _ => rfl)
            refine wp_plan (.H 0 (.H 1 (.H 2 (.H 3 (.H 4 (.H 6 (.H 7 (.H 8 (.H 9 (.H 10 (.E 5 true (.E 11 true (.E 12 true (.E 13 true (.E 14 false (.E 15 false .Z)))))))))))))))) (Gr wr [p, w.heap.size, ib]) (by as_aux_lemma => kernel_rfl) (by as_aux_lemma => kernel_rfl) ?_
            repeat (refine plan_H rfl hS2 (fun K hK => ?_); go_simp; refine hK _ ?_; clear hK K)
            have hzz : ∀ q, q ∈ [p, w.heap.size, ib] → q < wr.heap.size := fun q hq => by
              simp only [List.mem_cons, List.not_mem_nil, or_false] at hq
              rcases hq with rfl | rfl | rfl <;> omega
            refine plan_E rfl (fun K hK => ?_); go_simp
            have hk5 : Kp [] wr (wr.drew.drew.alloc (.cells #[] 5)) := (Kp.refl [] wr).drew.drew.alloc _
            have hS5 : Gr wr [p, w.heap.size, ib] (wr.drew.drew.alloc (.cells #[] 5)) := Gr.of (fun q hq => hk5.block q (hzz q hq) (by simp))
            refine hK _ _ (fun _ => hS5) ?_
            clear hK K
            obtain ⟨i0, hi0, hz0, hz1, hz2⟩ := info_parts u8infoF
            have hoA := own_alloc wr.drew.drew 5 [] 0 wr.heap.size (0, 0) (.inl rfl) rfl (Nat.le_refl _) (by unfold maxLen; omega)
            refine plan_E rfl (fun K hK => ?_)
            refine step_app2 _ rfl _ _ 23 23 rfl wr.heap.size 5 i0 _ 1 1 Tryd.underlying23 hi0 hz0 hz1 hz2 rfl (by omega) (.slice (some ⟨wr.heap.size, 0, none⟩) 0 0) 0 [] rfl hoA (.slice ua x.length uc) x.length _ rfl (Src.of_sl Tryd.underlying23 (hbx.kp0 hk5) bcells_one) (by omega) (by omega) (by simp) ?_
            intro v6 w6 ho6 hg6
            rw [Nat.zero_add, List.nil_append] at ho6
            have hk6 : Kp [] wr w6 := by
              rcases hg6 with ⟨-, hg6⟩ | ⟨hg6, -⟩
              · exact hk5.grown hg6 (fun k hk => .inr (by simp [Value.ownBlock] at hk; omega))
              · exact hk5.trans hg6
            obtain ⟨ya, yc, rfl⟩ := own_form ho6
            have hS6 : Gr wr [p, w.heap.size, ib] w6 := Gr.of (fun q hq => hk6.block q (hzz q hq) (by simp))
            refine hK _ _ (fun _ => hS6) ?_
            clear hK K hg6 hoA hS5
            refine plan_E rfl (fun K hK => ?_); go_simp
            refine hK _ _ (fun _ => hS6) ?_
            clear hK K
            refine plan_E rfl (fun K hK => ?_); go_simp
            have hk7 : Kp [] wr (w6.alloc (.cells #[.int .i64 (f.b + n), .slice ya x.length yc] 51)) := hk6.alloc _
            have hS7 : Gr wr [p, w.heap.size, ib] (w6.alloc (.cells #[.int .i64 (f.b + n), .slice ya x.length yc] 51)) := Gr.of (fun q hq => hk7.block q (hzz q hq) (by simp))
            refine hK _ _ (fun _ => hS7) ?_
            clear hK K
            obtain ⟨i1, hi1, hy0, hy1, hy2⟩ := info_parts iteminfo
            have hown7 := own_kp hown hk7 (by simp)
            refine plan_E rfl (fun K hK => ?_)
            refine step_app _ rfl _ _ 46 46 rfl w2.heap.size 51 i1 _ 2 32 Tryd.underlying46 hi1 hy0 hy1 hy2 rfl (by omega) (.slice oa G.length oc) G.length cs rfl hown7 (.slice (some ⟨w6.heap.size, 0, none⟩) 1 1) 1 [.int .i64 (f.b + n), .slice ya x.length yc] rfl (Src.of_sl Tryd.underlying46 (sl_alloc w6 51 _ _ rfl 2 1 rfl) (by simp [Value.oneCell'])) (by omega) (by omega) (by have := hkr.size; have := hk7.size; omega) ?_
            intro v5 w5 ho5 hg5 hx5
            obtain ⟨a5, c5, rfl⟩ := own_form ho5
            have hk55 : Kp (Value.slice oa G.length oc).ownBlock.toList w6 w5 := ((Kp.refl _ w6).alloc _).grown hg5 (fun q hq => .inl (by simp [hq]))
            have hown6 := own_kp hown hk6 (by simp)
            have hob3 : OB w5 5 w2.heap.size (.slice ya x.length yc) x := own_base (own_kp ho6 hk55 (fun q hq hm => own_ne ho6 hown6 (by decide) q hq (by simpa using hm))) (fun q hq => by have := (Own.lt ho6 q hq).1; have := hkr.size; omega)
            have hit5 := ((hitc.kp hk6 (by simp)).row hown6 (by decide) hk55).snoc (x := ⟨f.b + n, x⟩) hob3
            have hkr5 : Kp [] w2 w5 := (hkr.trans hk6).trans' hk55 (fun q hq => .inr (hown.lt q (by simpa using hq)).1)
            have HO5 := Lib.hid ho5
            have HI5 := Lib.hid hit5
            have HK5 := Lib.hid hkr5
            clear ho5 hit5 hkr5 hob3 hown6 hk55 hown7 hk7 hk6 ho6 hw1
            refine hK _ _ nofun ?_
            clear hK K
            refine plan_E rfl (fun K hK => ?_); go_simp
            refine hK _ _ nofun ?_
            clear hK K
            refine plan_Z ?_
            go_wp2
            go_roundw
            case measure => simp [intOf]; omega
            case rel => exact ⟨n + 1, _, by omega, by go_num, by rw [HSN.out, List.length_append]; exact HO5.out, by rw [HSN.out]; exact HI5.out, HK5.out⟩
          · rw [if_neg hc, List.append_nil] at hsn
            have hd : decide (NX ≤ f.b + (n : Int)) = false := by simpa using hc
            have HSN := Lib.hid hsn
            clear hsn hc hgl
            generalize gotItems NX f 0 (f.its.take n) = G at *
            go_wp2_with fail
            refine wp_plan (.H 0 (.H 1 (.H 2 (.H 3 (.H 4 (.H 5 (.H 6 (.H 7 (.E 8 false .Z))))))))) (Gr wr [p, w.heap.size, ib]) (by as_aux_lemma => kernel_rfl) (by as_aux_lemma => kernel_rfl) ?_
            repeat (first | (refine plan_H rfl hS (fun K hK => ?_); go_simp; refine hK _ ?_; clear hK K) | (refine plan_E rfl (fun K hK => ?_); go_simp; (first | refine hK _ _ (fun _ => hS) ?_ | refine hK _ _ nofun ?_); clear hK K))
            refine plan_Z ?_
            clear hw1
            go_wp2_with fail
            go_roundw
            case measure => simp [intOf]; omega
            case rel => exact ⟨n + 1, cs, by omega, by go_num, by rw [HSN.out]; exact own_kp hown ((Kp.refl [] wr).drew) (by simp), by rw [HSN.out]; exact hitc.kp ((Kp.refl [] wr).drew) (by simp), hkr.drew⟩
        · have hd : decide ((n : Int) < (f.its.length : Int)) = false := by rw [decide_eq_false_iff_not]; omega
          rw [List.take_of_length_le (by omega)] at hown hitc
          obtain ⟨oa, oc, rfl⟩ := own_form hown
          have hown' := own_base (base' := w.heap.size) hown (fun q hq => by have := (hown.lt q hq).1; omega)
          go_wp2_with fail
          go_ret
          rw [HG.out]
          exact ⟨_, cs, rfl, hown', hitc.itc.mono (fun g (hg : w2.heap.size ≤ g) => (by omega : w.heap.size ≤ g)), ⟨hrr, by omega, by omega⟩, hk2.trans hkr.nil⟩

theorem rgot_calls (p : Nat) (nx : Int) (f : Fr) (iv tv : Value) (w : World) (P : Nat → Prop) (hP : ¬ P p) (hr : IsX w p nx) (hi : RwP P w iv f.its) (ht : Bs w tv f.t) (hn : f.its.length ≤ 100000000000000) (hnt : f.t.length ≤ 140737488352000) (hb : f.b ≤ 9223372036854775807) :
    Calls Tryd.prog 21 #[.pointer (some ⟨p, 0, none⟩), .agg (fcells f iv tv)] w (RetX (got nx f) p w) := by
  by_cases h : f.k = 1 ∧ mayB f = true
  · exact rgot_is p nx _ f iv tv w P hP hr hi ht h.1 h.2 rfl
  · exact rgot_not p nx f iv tv w hr hi.rws ht hn hnt hb h
end Go.Proofs.YtddpefbpiehgeaaDoor

/- The laws' helper sameItems, of rows that read alike. -/
namespace Go.Proofs.YtddpefbpiehgeaaDoor
open Go Go.RowKit
set_option maxRecDepth 100000
set_option linter.unusedVariables false
set_option linter.unusedSectionVars false
set_option linter.unusedSimpArgs false

set_option maxHeartbeats 1000000 in
theorem sameItems_calls {P Q : Nat → Prop} (xs : List It) (va vb : Value) (ca cb : List Value) (w : World) (ha : Sl w 2 va xs.length ca) (hia : ItC P w ca xs) (hb : Sl w 2 vb xs.length cb) (hib : ItC Q w cb xs) (hn : xs.length ≤ 1000000) :
    Calls Tryd.prog 22 #[va, vb] w fun e w' => e = .returned (.bool true) ∧ Kp [] w w' := by
  obtain ⟨aa, ac, rfl, hac, -⟩ := Sl.form ha
  obtain ⟨ba, bc, rfl, hbc, -⟩ := Sl.form hb
  have hd0 : ((xs.length : Int) != (xs.length : Int)) = false := by simp
  go_enter Tryd.func22, Tryd.ntmps22
  go_wp2_with fail
  go_loopw [5] (fun v5 wr => ∃ n : Nat, n ≤ xs.length ∧ v5 = .int .i64 n ∧ Kp [] w wr) (fun v5 _ => xs.length - (intOf v5).toNat)
  case atStart => exact ⟨0, by omega, rfl, Kp.refl _ _⟩
  case round =>
    obtain ⟨n, hnl, rfl, hkr⟩ := hrel
    by_cases hlt : n < xs.length
    · obtain ⟨b1, o1, u1, c1, rfl, hb1, hq1, hv1, hs1, _⟩ := item_at (ha.kp0 hkr) (hia.kp hkr (by simp)) rfl n hlt
      obtain ⟨b2, o2, u2, c2, rfl, hb2, hq2, hv2, hs2, _⟩ := item_at (hb.kp0 hkr) (hib.kp hkr (by simp)) rfl n hlt
      generalize xs[n]'hlt = x at *
      obtain ⟨q, x⟩ := x
      simp only at hq1 hv1 hs1 hq2 hv2 hs2
      have hn1 : (0 : Int) ≤ n ∧ (n : Int) < xs.length := by omega
      obtain ⟨hn1, hn2⟩ := hn1
      have hdq : (q != q) = false := by simp
      have hdx : (x == x) = true := by simp
      have hcx : ∀ u : Ag wr ([b1, b2] ++ ((Value.slice u1 x.length c1).ownBlock.toList ++ (Value.slice u2 x.length c2).ownBlock.toList)), (convert 23 9 (.slice u1 x.length c1)).run Tryd.prog u.w = .ok (.string ⟨x.toArray⟩) u.w := fun u => b2sc (Bs.ag hs1 u (fun b hb => by simp [hb]))
      have hcy : ∀ u : Ag wr ([b1, b2] ++ ((Value.slice u1 x.length c1).ownBlock.toList ++ (Value.slice u2 x.length c2).ownBlock.toList)), (convert 23 9 (.slice u2 x.length c2)).run Tryd.prog u.w = .ok (.string ⟨x.toArray⟩) u.w := fun u => b2sc (Bs.ag hs2 u (fun b hb => by simp [hb]))
      go_wp2_with fail
      have hS : Gr wr ([b1, b2] ++ ((Value.slice u1 x.length c1).ownBlock.toList ++ (Value.slice u2 x.length c2).ownBlock.toList)) wr.drew := Gr.of (fun _ _ => rfl)
      generalize (Value.slice u1 x.length c1).ownBlock.toList ++ (Value.slice u2 x.length c2).ownBlock.toList = M at *
      simp only [List.cons_append, List.nil_append] at hcx hcy hS
      refine wp_plan (.H 0 (.H 1 (.H 2 (.H 3 (.H 4 (.H 5 (.H 6 (.H 7 (.H 8 (.H 9 (.H 10 (.H 11 (.H 12 (.H 13 (.H 14 (.H 15 (.H 16 (.H 17 (.H 18 (.H 19 (.H 20 (.H 21 (.H 22 (.H 23 (.E 24 false (.E 25 false .Z)))))))))))))))))))))))))) (Gr wr (b1 :: b2 :: M)) (by as_aux_lemma => kernel_rfl) (by as_aux_lemma => kernel_rfl) ?_
      repeat (first | (refine plan_H rfl hS (fun K hK => ?_); go_simp; refine hK _ ?_; clear hK K) | (refine plan_E rfl (fun K hK => ?_); go_simp; (first | refine hK _ _ (fun _ => hS) ?_ | refine hK _ _ nofun ?_); clear hK K))
      refine plan_Z ?_
      clear hcx hcy hS
      go_wp2_with fail
      go_roundw
      case measure => simp [intOf]; omega
      case rel => exact ⟨n + 1, by omega, by go_num, hkr.drew⟩
    · have hd : decide ((n : Int) < (xs.length : Int)) = false := by rw [decide_eq_false_iff_not]; omega
      go_wp2_with fail
      go_ret
      exact ⟨rfl, hkr⟩
end Go.Proofs.YtddpefbpiehgeaaDoor

/- The laws' helpers Lent and Back. -/
namespace Go.Proofs.YtddpefbpiehgeaaDoor
open Go Go.RowKit
set_option maxRecDepth 100000
set_option linter.unusedVariables false
set_option linter.unusedSectionVars false
set_option linter.unusedSimpArgs false

theorem stop_copy {P : Program} {ops : Array Oper} {rest : List Oper} {o d t p g : _} {x : _} {y : _} {a : Act} {w : World} {Q : Exit → Act → World → Prop} (h : Stop (wpList P ops Q ({ dst := d, op := .call { callee := .builtin .copy, args := x, argTypes := y }, type := t, pos := p, after := o, guard := g } :: rest) a w)) :
  wpList P ops Q ({ dst := d, op := .call { callee := .builtin .copy, args := x, argTypes := y }, type := t, pos := p, after := o, guard := g } :: rest) a w := h

theorem madeCells_u8 (n : Nat) : madeCells (Value.cells (.int .u8 0)) n = (bcells (List.replicate n 0)).toArray := by
  apply Array.ext_getElem?
  intro i
  simp only [madeCells, bcells, List.getElem?_toArray, List.getElem?_map, Array.getElem?_map, List.getElem?_replicate]
  by_cases h : i < n
  · simp [h, Value.cells, Nat.mod_one]
  · simp [h]

theorem lent_set (l : List UInt8) (a : Nat) (ha : a < 3) : (l ++ (List.replicate a 201 ++ List.replicate (3 - a) 0)).set (l.length + a) 201 = l ++ (List.replicate (a + 1) 201 ++ List.replicate (3 - (a + 1)) 0) := by
  rw [List.set_append_right _ _ (by omega), Nat.add_sub_cancel_left]
  match a, ha with
  | 0, _ => rfl
  | 1, _ => rfl
  | 2, _ => rfl

def RetL (l : List UInt8) (w : World) (e : Ending) (w' : World) : Prop := ∃ g, e = .returned (.slice (some ⟨g, 0, none⟩) l.length (l.length + 3)) ∧ OB w' 5 w.heap.size (.slice (some ⟨g, 0, none⟩) (l.length + 3) (l.length + 3)) (l ++ [201, 201, 201]) ∧ Kp [] w w'

/-- A row of bytes that is known whole. -/
theorem ob_whole {w : World} {T : TypeId} {base g : Nat} {l : List UInt8} (n : Nat) (hn : n = l.length) (hb : base ≤ g) (hm : n ≤ maxLen) (h : w.heap[g]? = some (.cells (bcells l).toArray T (0, 0))) : OB w T base (.slice (some ⟨g, 0, none⟩) n n) l := by
  subst hn
  refine ⟨by simp, .inr ⟨g, l.length, _, (0, 0), rfl, hb, h, .inl rfl, Nat.le_refl _, hm, by simp, ?_⟩⟩
  exact List.take_of_length_le (by simp)
theorem ob_stored {w : World} {T : TypeId} {base g n cap : Nat} {l : List UInt8} (h : OB w T base (.slice (some ⟨g, 0, none⟩) n cap) l) (hn : n = l.length) (j : Nat) (x : UInt8) : OB (w.setCell ⟨g, j, none⟩ (.int .u8 (x.toNat : Int))) T base (.slice (some ⟨g, 0, none⟩) n cap) (l.set j x) := by
  subst hn
  unfold OB
  rw [List.length_set, bcells_set]
  exact Own.stored h j _

theorem ob_cellAt {w : World} {T : TypeId} {base g n cap : Nat} {l : List UInt8} (h : OB w T base (.slice (some ⟨g, 0, none⟩) n cap) l) (hn : n = l.length) (j : Nat) (hj : j < l.length) : w.cell? ⟨g, j, none⟩ = some (.int .u8 ((l.getD j 0).toNat : Int)) := by
  subst hn
  rw [Own.cellAt h j (by omega), bcells_get _ _ hj]
  simp [List.getD, hj]
theorem ob_frozenAt {w : World} {T : TypeId} {base g n cap : Nat} {l : List UInt8} (h : OB w T base (.slice (some ⟨g, 0, none⟩) n cap) l) (hn : n = l.length) (j : Nat) (hj : j < cap) : w.frozen? ⟨g, j, none⟩ = false := by
  subst hn
  exact Own.frozenAt h j (by omega)

set_option maxHeartbeats 1000000 in
theorem lent_calls (v : Value) (l : List UInt8) (w : World) (hb : Bs w v l) (hl : l.length + 3 ≤ 140737488355328) :
    Calls Tryd.prog 14 #[v] w (RetL l w) := by
  obtain ⟨va, vc, rfl, hvc, -, h6, h7⟩ := Sl.form hb
  obtain ⟨i0, hi0, hz0, hz1, hz2⟩ := info_parts u8infoF
  have hmk : ∀ w : World, (Instr.makeSlice 23 (.int .i64 ((l.length : Int) + 3)) (.int .i64 ((l.length : Int) + 3))).run Tryd.prog w = .ok (.slice (some ⟨w.heap.size, 0, none⟩) (l.length + 3) (l.length + 3)) (w.alloc (.cells (bcells (List.replicate (l.length + 3) 0)).toArray 5)) := fun w => by
    have h := run_make (P := Tryd.prog) w 23 5 i0 (.int .u8 0) Tryd.underlying23 hi0 hz0 .i64 .i64 ((l.length : Int) + 3) ((l.length : Int) + 3) (by omega) (by omega) (by rw [hz2]; omega) (by omega)
    rw [h, hz1, madeCells_u8]
    have : ((l.length : Int) + 3).toNat = l.length + 3 := by omega
    rw [this, Nat.mul_one]
  have hb1 : (l.length : Int) + 3 ≤ 140737488355328 := by omega
  go_enter Tryd.func14, Tryd.ntmps14
  go_wp2_with (with_reducible refine stop_copy ?_)
  unfold Stop
  have hkA := (Kp.refl [] w).alloc (.cells (bcells (List.replicate (l.length + 3) 0)).toArray 5)
  have hA := heap_alloc_new w (.cells (bcells (List.replicate (l.length + 3) 0)).toArray 5)
  refine wpList_copy_splice rfl _ _ 23 23 rfl 5 Tryd.underlying23 (by kernel_rfl) (some ⟨w.heap.size, 0, none⟩) va (l.length + 3) (l.length + 3) l.length vc rfl rfl w.heap.size 0 (bcells (List.replicate (l.length + 3) 0)) 5 hA (bcells l) (by simp) (fun h0 => ?_) (by simp) bcells_one w.heap.size w (hkA.below (Nat.le_refl _) (by simp)) (Nat.le_refl _) ?_
  · obtain ⟨b, off, rfl, hlt⟩ := h6 (by simpa using h0)
    exact ⟨rfl, _, rfl, fun j u hu => by rw [Addr.add_lit, hkA.cells0.1 _ _ hlt]; exact (h7 b off rfl).2 j u hu⟩
  intro w2 hg2 hb2
  have hk2 : Kp [] w w2 := Kp.ofBelow hb2
  have hg2' := hg2.out
  have hsp : splice (bcells (List.replicate (l.length + 3) 0)) 0 (bcells l) = bcells (l ++ (List.replicate 0 201 ++ List.replicate (3 - 0) 0)) := by
    simp [splice, bcells]
  rw [hsp] at hg2'
  have ho2 := ob_whole (l.length + 3) (by simp) (Nat.le_refl _) (by unfold maxLen; omega) hg2'
  clear hg2 hg2' hsp hA hmk h6 h7 hb2 hkA
  go_wp2_with fail
  go_loopw [4] (fun v4 wr => ∃ (a : Nat), a ≤ 3 ∧ v4 = .int .i64 ((l.length : Int) + a) ∧ OB wr 5 w.heap.size (.slice (some ⟨w.heap.size, 0, none⟩) (l.length + 3) (l.length + 3)) (l ++ (List.replicate a 201 ++ List.replicate (3 - a) 0)) ∧ Kp [] w wr) (fun v4 _ => l.length + 3 - (intOf v4).toNat)
  case atStart => exact ⟨0, by omega, by simp, ho2, hk2⟩
  case round =>
    clear ho2 hk2
    obtain ⟨a, ha, rfl, ho, hk⟩ := hrel
    by_cases hlt : a < 3
    · have hst := ob_stored ho (by simp; omega) (l.length + a) 201
      rw [lent_set l a hlt] at hst
      have hln := (Own.lt ho w.heap.size rfl).2
      obtain ⟨y, hcell⟩ : ∃ y, wr.cell? ⟨w.heap.size, l.length + a, none⟩ = some y := ⟨_, ob_cellAt ho (by simp; omega) (l.length + a) (by simp; omega)⟩
      have hfrz := ob_frozenAt ho (by simp; omega) (l.length + a) (by omega)
      have hks := hk.setCell (p := ⟨w.heap.size, l.length + a, none⟩) (.inr (Nat.le_refl _)) (.int .u8 ((201 : UInt8).toNat : Int))
      have h201 : ((201 : UInt8).toNat : Int) = 201 := by decide
      rw [h201] at hst hks
      have hb2 : (0 : Int) ≤ (l.length : Int) + a ∧ (l.length : Int) + a < (l.length : Int) + 3 := by omega
      obtain ⟨hb2, hb3⟩ := hb2
      have ht1 : ((l.length : Int) + a).toNat = l.length + a := by omega
      have HST := Lib.hid hst
      have HO := Lib.hid ho
      clear h201 hst ho
      go_wp2_with fail
      go_roundw
      case measure => simp [intOf]; omega
      case rel => exact ⟨a + 1, by omega, by go_num, HST.out, hks⟩
    · obtain rfl : a = 3 := by omega
      have hd : decide ((l.length : Int) + (3 : Nat) < (l.length : Int) + 3) = false := by rw [decide_eq_false_iff_not]; omega
      have HO := Lib.hid ho
      clear ho
      go_wp2_with fail
      go_ret
      exact ⟨_, rfl, HO.out, hk⟩

theorem bcells_getD' (l : List UInt8) (i : Nat) (h : i < l.length) : (bcells l)[i]? = some (.int .u8 ((l.getD i 0).toNat : Int)) := by
  rw [bcells_get _ _ h]; simp [List.getD, h]

theorem u8_xor33 (x : UInt8) : bits .xor .u8 (x.toNat : Int) 33 = ((x ^^^ 33).toNat : Int) := by
  have h : ∀ n : Fin 256, bits .xor .u8 (n.val : Int) 33 = ((UInt8.ofNat n.val ^^^ 33).toNat : Int) := by decide +kernel
  have h2 := h ⟨x.toNat, x.toNat_lt⟩
  simpa using h2

set_option maxHeartbeats 1000000 in
theorem back_calls (g B : Nat) (rv : Value) (l : List UInt8) (w : World) (hl : l.length + 3 ≤ 140737488355328) (ho : OB w 5 B (.slice (some ⟨g, 0, none⟩) (l.length + 3) (l.length + 3)) (l ++ [201, 201, 201])) (hr : Bs w rv l) (hne : ∀ b, own1 rv = some b → b ≠ g) :
    Calls Tryd.prog 16 #[.slice (some ⟨g, 0, none⟩) l.length (l.length + 3), rv] w fun e w' => e = .returned (.bool true) ∧ Kp [g] w w' := by
  obtain ⟨va, vc, rfl, hvc, -, h6, -⟩ := Sl.form hr
  have hb1 : (l.length : Int) + 3 ≤ 140737488355328 := by omega
  have ht0 : ((l.length : Int) + 3).toNat = l.length + 3 := by omega
  go_enter Tryd.func16, Tryd.ntmps16
  go_wp2_with fail
  go_loopw [6, 7] (fun v6 v7 wr => ∃ (k : Nat) (xs : List UInt8), k ≤ l.length + 3 ∧ v7 = .int .i64 k ∧ v6 = .bool true ∧ xs.length = l.length + 3 ∧ xs.drop k = (l ++ [201, 201, 201]).drop k ∧ OB wr 5 B (.slice (some ⟨g, 0, none⟩) (l.length + 3) (l.length + 3)) xs ∧ Kp [g] w wr) (fun _ v7 _ => l.length + 3 - (intOf v7).toNat)
  case atStart => exact ⟨0, l ++ [201, 201, 201], by omega, rfl, rfl, by simp, rfl, ho, Kp.refl _ _⟩
  case round =>
    clear ho
    obtain ⟨k, xs, hk, rfl, rfl, hxl, hdr, ho, hkp⟩ := hrel
    by_cases hlt : k < l.length + 3
    · have hxk : xs.getD k 0 = (l ++ [201, 201, 201]).getD k 0 := by
        have := congrArg (fun q => q[0]?) hdr
        simp only [List.getElem?_drop, Nat.add_zero] at this
        simp [List.getD, this]
      have hnext : (xs.set k (xs.getD k 0 ^^^ 33)).drop (k + 1) = (l ++ [201, 201, 201]).drop (k + 1) := by
        rw [List.drop_set_of_lt (by omega)]
        have := congrArg (fun q => q.drop 1) hdr
        simpa [List.drop_drop] using this
      have hst := ob_stored ho hxl.symm k (xs.getD k 0 ^^^ 33)
      have hsl : (xs.set k (xs.getD k 0 ^^^ 33)).length = l.length + 3 := by simpa using hxl
      have hcell := ob_cellAt ho hxl.symm k (by omega)
      have hfrz := ob_frozenAt ho hxl.symm k (by omega)
      have hln := (Own.lt ho g rfl).2
      have hx := u8_xor33 (xs.getD k 0)
      have hks := hkp.setCell (p := ⟨g, k, none⟩) (.inl (by simp)) (.int .u8 ((xs.getD k 0 ^^^ 33).toNat : Int))
      have hb2 : (0 : Int) ≤ k ∧ (k : Int) < (l.length : Int) + 3 := by omega
      obtain ⟨hb2, hb3⟩ := hb2
      generalize xs.set k (xs.getD k 0 ^^^ 33) = ys at *
      generalize (xs.getD k 0 ^^^ 33) = z at *
      generalize xs.getD k 0 = x at *
      have HST := Lib.hid hst
      have HSL := Lib.hid hsl
      have HNX := Lib.hid hnext
      clear hst hsl hnext ho hdr hxl
      by_cases hlt2 : k < l.length
      · have hb4 : (k : Int) < (l.length : Int) := by omega
        obtain ⟨rb, ro, rfl, hrb⟩ := h6 (by omega)
        obtain ⟨_, _, he, _, _, _, h7⟩ := Sl.form (hr.kq hkp (fun b hb hm => hne b hb (by simpa using hm)))
        cases he
        have hrc := (h7 rb ro rfl).2 k _ (bcells_getD' l k hlt2)
        have hxe : x = l.getD k 0 := by
          rw [hxk]; simp [List.getD, List.getElem?_append_left hlt2]
        rw [← hxe] at hrc
        have hrl : rb < wr.heap.size := (h7 rb ro rfl).1 (by omega)
        clear h7 hxk hxe
        go_wp2_with fail
        go_roundw
        case measure => simp [intOf]; omega
        case rel => exact ⟨k + 1, ys, by omega, by go_num, rfl, HSL.out, HNX.out, HST.out, hks⟩
      · have hb4 : decide ((k : Int) < (l.length : Int)) = false := by rw [decide_eq_false_iff_not]; omega
        have hxe : x = 201 := by
          rw [hxk]
          obtain ⟨j, rfl⟩ : ∃ j, k = l.length + j := ⟨k - l.length, by omega⟩
          simp only [List.getD, List.getElem?_append_right (Nat.le_add_right _ _), Nat.add_sub_cancel_left]
          match j, (show j < 3 by omega) with
          | 0, _ => rfl
          | 1, _ => rfl
          | 2, _ => rfl
        have hxi : ((x.toNat : Nat) : Int) = 201 := by rw [hxe]; decide
        rw [hxi] at hcell hx
        clear hxk hxe hxi
        go_wp2_with fail
        go_roundw
        case measure => simp [intOf]; omega
        case rel => exact ⟨k + 1, ys, by omega, by go_num, rfl, HSL.out, HNX.out, HST.out, hks⟩
    · have hd : decide ((k : Int) < (l.length : Int) + 3) = false := by rw [decide_eq_false_iff_not]; omega
      have HO := Lib.hid ho
      have HD := Lib.hid hdr
      clear ho hdr hxl
      go_wp2_with fail
      go_ret
      exact ⟨rfl, hkp⟩
end Go.Proofs.YtddpefbpiehgeaaDoor

