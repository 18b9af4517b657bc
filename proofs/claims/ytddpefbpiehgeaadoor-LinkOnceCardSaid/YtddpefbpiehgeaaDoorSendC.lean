/- The link: are these a queue's items? -/
import Derived.Test.YtddpefbpiehgeaaDoorSendB
namespace Go.Proofs.YtddpefbpiehgeaaDoor
open Go Go.RowKit
set_option maxRecDepth 100000
set_option linter.unusedVariables false
set_option linter.unusedSectionVars false
set_option linter.unusedSimpArgs false

theorem got_calls (p : Nat) (nx : Int) (f : Fr) (iv tv : Value) (w : World) (P : Nat → Prop) (hP : ¬ P p) (hr : IsR w p nx) (hi : RwP P w iv f.its) (ht : Bs w tv f.t) (hn : f.its.length ≤ 100000000000000) (hnt : f.t.length ≤ 140737488352000) (hb : f.b ≤ 9223372036854775807) :
    Calls Tryd.prog 20 #[.pointer (some ⟨p, 0, none⟩), .agg (fcells f iv tv)] w (RetG (got nx f) p w) := by
  by_cases h : f.k = 1 ∧ mayB f = true
  · exact got_is p nx _ f iv tv w P hP hr hi ht h.1 h.2 rfl
  · exact got_not p nx f iv tv w hr hi.rws ht hn hnt hb h

/-- The cells of one item. -/
theorem item_at {P : Nat → Prop} {w : World} {a : Option Addr} {n cap : Nat} {cs : List Value} {xs : List It} (hs : Sl w 2 (.slice a n cap) n cs) (hi : ItC P w cs xs) (hn : n = xs.length) (i : Nat) (h : i < xs.length) :
    ∃ b off u c, a = some ⟨b, off, none⟩ ∧ b < w.heap.size ∧ w.cell? ⟨b, off + i * 2, none⟩ = some (.int .i64 xs[i].q) ∧ w.cell? ⟨b, off + i * 2 + 1, none⟩ = some (.slice u xs[i].b.length c) ∧ Bs w (.slice u xs[i].b.length c) xs[i].b ∧ BlkP P (.slice u xs[i].b.length c) := by
  obtain ⟨a', cap', he, hc, _, h6, h7⟩ := Sl.form hs
  cases he
  obtain ⟨b, off, rfl, hlt⟩ := h6 (by omega)
  obtain ⟨u, h1, h2, h3, h4⟩ := hi.2 i h
  obtain ⟨ua, uc, rfl, _⟩ := Sl.form h3
  exact ⟨b, off, ua, uc, rfl, hlt, (h7 b off rfl).2 _ _ h1, (h7 b off rfl).2 _ _ h2, h3, h4⟩

theorem headQ_get (xs : List It) (h : 0 < xs.length) : xs[0].q = headQ xs := by
  cases xs with
  | nil => simp at h
  | cons _ _ => rfl

set_option maxHeartbeats 1000000 in
theorem row_calls (P : Nat → Prop) (v : Value) (cs : List Value) (xs : List It) (w : World) (hs : Sl w 2 v xs.length cs) (hi : ItC P w cs xs) (hn : xs.length ≤ 100000000000000) (hl : ∀ x ∈ xs, x.b.length ≤ 140737488355328) :
    Calls Tryd.prog 48 #[v] w fun e w' => e = .returned (.bool (rowB xs)) ∧ Kp [] w w' := by
  obtain ⟨a, cap, rfl, hcap, _⟩ := Sl.form hs
  have HL := Lib.hid hl
  clear hl
  go_enter Tryd.func48, Tryd.ntmps48
  go_wp2
  go_loopw [7] (fun v7 wr => ∃ n : Nat, n ≤ xs.length ∧ v7 = .int .i64 n ∧ rowB xs = rowFrom (headQ xs) n (xs.drop n) ∧ (0 < n → 1 ≤ headQ xs ∧ headQ xs ≤ 4294967295) ∧ Kp [] w wr) (fun v7 _ => xs.length - (intOf v7).toNat)
  case atStart => exact ⟨0, by omega, rfl, rfl, fun h => absurd h (by omega), Kp.refl _ _⟩
  case round =>
    obtain ⟨n, hnl, rfl, hrow, hq0, hk⟩ := hrel
    by_cases hlt : n < xs.length
    · obtain ⟨b, off, ua, uc, rfl, hb, hc0, hc1, hbx, _⟩ := item_at (hs.kp0 hk) (hi.kp hk (by simp)) rfl n hlt
      obtain ⟨b', off', u0, uc0, he, _, hz0, _, _, _⟩ := item_at (hs.kp0 hk) (hi.kp hk (by simp)) rfl 0 (by omega)
      cases he
      have hdr : xs.drop n = xs[n] :: xs.drop (n + 1) := List.drop_eq_getElem_cons hlt
      have hx := HL.out xs[n] (List.getElem_mem hlt)
      have hh0 : xs[0].q = headQ xs := headQ_get xs (by omega)
      rw [hh0] at hz0
      rw [hdr, rowFrom] at hrow
      have hz : n = 0 → xs[n].q = headQ xs := fun h => by subst h; exact hh0
      generalize xs[n] = x at *
      generalize headQ xs = q0 at *
      obtain ⟨q, xb⟩ := x
      simp only at hc0 hc1 hbx hx hz
      rw [Nat.zero_mul, Nat.add_zero] at hz0
      have HROW := Lib.hid hrow
      clear hrow hdr hh0
      have i0 : (0 : Int) ≤ n ∧ (n : Int) < xs.length ∧ (0 : Int) < xs.length := by omega
      obtain ⟨i0a, i0b, i0c⟩ := i0
      have i0d : 0 < xs.length := by omega
      go_wp2_with fail
      have hkA := (Kp.refl [] wr).alloc (.cells #[.int .i64 q, .slice ua xb.length uc] 51)
      have hhA := heap_alloc_new wr (.cells #[.int .i64 q, .slice ua xb.length uc] 51)
      have hcA := hkA.cells0.1 b off hb
      rw [hz0] at hcA
      generalize wr.alloc (.cells #[.int .i64 q, .slice ua xb.length uc] 51) = wA at *
      have d0 := cell_heap hhA 0
      have d1 := cell_heap hhA 1
      simp only [List.getElem?_toArray, List.getElem?_cons_zero, List.getElem?_cons_succ] at d0 d1
      have hbA : b < wA.heap.size := Nat.lt_of_lt_of_le hb hkA.size
      clear hc0 hc1 hz0
      have hS : Gr wA [wr.heap.size, b] wA.drew := Gr.of (fun _ _ => rfl)
      have hcs : (decide (q < 1) = true ∧ okIt q0 n ⟨q, xb⟩ = false) ∨ (decide (q < 1) = false ∧ decide (4294967295 < q) = true ∧ okIt q0 n ⟨q, xb⟩ = false) ∨ (decide (q < 1) = false ∧ decide (4294967295 < q) = false ∧ ¬ q = q0 + n ∧ okIt q0 n ⟨q, xb⟩ = false) ∨
          (decide (q < 1) = false ∧ decide (4294967295 < q) = false ∧ q = q0 + n ∧ decide (256 < (xb.length : Int)) = true ∧ okIt q0 n ⟨q, xb⟩ = false) ∨ (decide (q < 1) = false ∧ decide (4294967295 < q) = false ∧ q = q0 + n ∧ decide (256 < (xb.length : Int)) = false ∧ okIt q0 n ⟨q, xb⟩ = true) := by
        simp [okIt]; omega
      have hq1 : ¬ decide (q < 1) = true → ¬ decide (4294967295 < q) = true → 1 ≤ q0 ∧ q0 ≤ 4294967295 := by
        simp only [decide_eq_true_eq]
        intro h1 h2
        by_cases h : 0 < n
        · exact hq0 h
        · have := hz (by omega); omega
      have HQ0 := Lib.hid hq0
      have HZ := Lib.hid hz
      clear hq0 hz
      have hwr : 1 ≤ q0 ∧ q0 ≤ 4294967295 → IntKind.i64.wrap (q0 + (n : Int)) = q0 + n := fun h => IntWalk.i64_in _ (by omega)
      rcases hcs with ⟨h1, ok⟩ | ⟨h1, h2, ok⟩ | ⟨h1, h2, h3, ok⟩ | ⟨h1, h2, rfl, h4, ok⟩ | ⟨h1, h2, rfl, h4, ok⟩
      · have HOK := Lib.hid ok
        clear ok hq1 hwr
        refine wp_plan (.H 0 (.H 1 (.H 2 (.H 3 (.H 4 (.H 5 (.H 6 (.H 7 (.H 8 (.H 9 (.H 10 (.H 11 (.H 12 (.H 13 (.H 14 (.H 15 (.H 16 (.H 17 (.H 18 (.H 19 (.H 20 (.H 21 (.H 22 (.E 23 false (.E 24 false .Z))))))))))))))))))))))))) (Gr wA [wr.heap.size, b]) (by as_aux_lemma => kernel_rfl) (by as_aux_lemma => kernel_rfl) ?_
        repeat (first | (refine plan_H rfl hS (fun K hK => ?_); go_simp; refine hK _ ?_; clear hK K) | (refine plan_E rfl (fun K hK => ?_); go_simp; (first | refine hK _ _ (fun _ => hS) ?_ | refine hK _ _ nofun ?_); clear hK K))
        refine plan_Z ?_
        go_wp2
        go_ret
        rw [HROW.out, HOK.out]
        exact ⟨rfl, (hk.trans hkA).drew⟩
      · have HOK := Lib.hid ok
        clear ok hq1 hwr
        refine wp_plan (.H 0 (.H 1 (.H 2 (.H 3 (.H 4 (.H 5 (.H 6 (.H 7 (.H 8 (.H 9 (.H 10 (.H 11 (.H 12 (.H 13 (.H 14 (.H 15 (.H 16 (.H 17 (.H 18 (.H 19 (.H 20 (.H 21 (.H 22 (.E 23 false (.E 24 false .Z))))))))))))))))))))))))) (Gr wA [wr.heap.size, b]) (by as_aux_lemma => kernel_rfl) (by as_aux_lemma => kernel_rfl) ?_
        repeat (first | (refine plan_H rfl hS (fun K hK => ?_); go_simp; refine hK _ ?_; clear hK K) | (refine plan_E rfl (fun K hK => ?_); go_simp; (first | refine hK _ _ (fun _ => hS) ?_ | refine hK _ _ nofun ?_); clear hK K))
        refine plan_Z ?_
        go_wp2
        go_ret
        rw [HROW.out, HOK.out]
        exact ⟨rfl, (hk.trans hkA).drew⟩
      · have HOK := Lib.hid ok
        clear ok
        obtain ⟨hq1, hq2⟩ := hq1 (by rw [h1]; simp) (by rw [h2]; simp)
        replace hwr := hwr ⟨hq1, hq2⟩
        refine wp_plan (.H 0 (.H 1 (.H 2 (.H 3 (.H 4 (.H 5 (.H 6 (.H 7 (.H 8 (.H 9 (.H 10 (.H 11 (.H 12 (.H 13 (.H 14 (.H 15 (.H 16 (.H 17 (.H 18 (.H 19 (.H 20 (.H 21 (.H 22 (.E 23 false (.E 24 false .Z))))))))))))))))))))))))) (Gr wA [wr.heap.size, b]) (by as_aux_lemma => kernel_rfl) (by as_aux_lemma => kernel_rfl) ?_
        repeat (first | (refine plan_H rfl hS (fun K hK => ?_); go_simp; refine hK _ ?_; clear hK K) | (refine plan_E rfl (fun K hK => ?_); go_simp; (first | refine hK _ _ (fun _ => hS) ?_ | refine hK _ _ nofun ?_); clear hK K))
        refine plan_Z ?_
        go_wp2
        go_ret
        rw [HROW.out, HOK.out]
        exact ⟨rfl, (hk.trans hkA).drew⟩
      · have HOK := Lib.hid ok
        clear ok
        obtain ⟨hq1, hq2⟩ := hq1 (by rw [h1]; simp) (by rw [h2]; simp)
        replace hwr := hwr ⟨hq1, hq2⟩
        refine wp_plan (.H 0 (.H 1 (.H 2 (.H 3 (.H 4 (.H 5 (.H 6 (.H 7 (.H 8 (.H 9 (.H 10 (.H 11 (.H 12 (.H 13 (.H 14 (.H 15 (.H 16 (.H 17 (.H 18 (.H 19 (.H 20 (.H 21 (.H 22 (.E 23 false (.E 24 false .Z))))))))))))))))))))))))) (Gr wA [wr.heap.size, b]) (by as_aux_lemma => kernel_rfl) (by as_aux_lemma => kernel_rfl) ?_
        repeat (first | (refine plan_H rfl hS (fun K hK => ?_); go_simp; refine hK _ ?_; clear hK K) | (refine plan_E rfl (fun K hK => ?_); go_simp; (first | refine hK _ _ (fun _ => hS) ?_ | refine hK _ _ nofun ?_); clear hK K))
        refine plan_Z ?_
        go_wp2
        go_ret
        rw [HROW.out, HOK.out]
        exact ⟨rfl, (hk.trans hkA).drew⟩
      · have HOK := Lib.hid ok
        clear ok
        obtain ⟨hq1, hq2⟩ := hq1 (by rw [h1]; simp) (by rw [h2]; simp)
        replace hwr := hwr ⟨hq1, hq2⟩
        refine wp_plan (.H 0 (.H 1 (.H 2 (.H 3 (.H 4 (.H 5 (.H 6 (.H 7 (.H 8 (.H 9 (.H 10 (.H 11 (.H 12 (.H 13 (.H 14 (.H 15 (.H 16 (.H 17 (.H 18 (.H 19 (.H 20 (.H 21 (.H 22 (.E 23 false (.E 24 false .Z))))))))))))))))))))))))) (Gr wA [wr.heap.size, b]) (by as_aux_lemma => kernel_rfl) (by as_aux_lemma => kernel_rfl) ?_
        repeat (first | (refine plan_H rfl hS (fun K hK => ?_); go_simp; refine hK _ ?_; clear hK K) | (refine plan_E rfl (fun K hK => ?_); go_simp; (first | refine hK _ _ (fun _ => hS) ?_ | refine hK _ _ nofun ?_); clear hK K))
        refine plan_Z ?_
        go_wp2
        go_roundw
        case measure => simp [intOf]; omega
        case rel => exact ⟨n + 1, by omega, by go_num, by rw [HROW.out, HOK.out]; rfl, fun _ => ⟨hq1, hq2⟩, (hk.trans hkA).drew⟩
    · have hd : decide ((n : Int) < (xs.length : Int)) = false := by rw [decide_eq_false_iff_not]; omega
      rw [List.drop_of_length_le (by omega)] at hrow
      have HROW := Lib.hid hrow
      clear hrow
      go_wp2
      go_ret
      rw [HROW.out]
      exact ⟨rfl, hk⟩
end Go.Proofs.YtddpefbpiehgeaaDoor
