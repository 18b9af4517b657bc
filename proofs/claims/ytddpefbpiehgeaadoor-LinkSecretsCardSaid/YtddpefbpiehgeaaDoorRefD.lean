/- The reference's digest: Sum is the program's digest. -/
import Derived.Test.YtddpefbpiehgeaaDoorRefC
namespace Go.Proofs.YtddpefbpiehgeaaDoor
open Go Go.RowKit
set_option maxRecDepth 100000
set_option linter.unusedVariables false
set_option linter.unusedSectionVars false
set_option linter.unusedSimpArgs false

theorem startW_vals : (startW initW).vals = #[w32 (initW.getD 0 0), w32 (initW.getD 1 0), w32 (initW.getD 2 0), w32 (initW.getD 3 0), w32 (initW.getD 4 0), w32 (initW.getD 5 0), w32 (initW.getD 6 0), w32 (initW.getD 7 0)] := rfl
theorem add_at (b o i : Nat) : (⟨b, o, none⟩ : Addr).add i = ⟨b, o + i, none⟩ := by
  unfold Addr.add
  split
  · rename_i h; subst h; rfl
  · rfl
theorem wq (x d : Int) (h0 : 0 ≤ x) (h : x < 4294967296) (hd : 0 < d) : IntKind.u8.wrap (IntKind.u32.wrap (x / d)) = x / d % 256 := by
  have h1 : 0 ≤ x / d := Int.ediv_nonneg h0 (by omega)
  have h2 : x / d ≤ x := Int.ediv_le_self _ h0
  rw [IntWalk.u32_in _ (by omega), IntKind.wrap_u8]
theorem take64_succ (q : List UInt8) (n : Nat) (h : 64 * n + 64 ≤ q.length) : ((q.drop (64 * n)).take 64).length = 64 := by simp; omega

set_option maxHeartbeats 2000000 in
theorem rsum_calls (v : Value) (l : List UInt8) (w : World) (hG : GR w) (hb : Bs w v l) (hlen : l.length ≤ 140737488355000) :
    Calls Tryd.prog 91 #[v] w fun e w' => ∃ v, e = .returned v ∧ OB w' 5 w.heap.size v (sha l) ∧ Kp [] w w' := by
  obtain ⟨i0, hi, hz0, hz1, hz2⟩ := info_parts u8info
  have hg4 := hG.size
  have g0 := hG.start 0 (by omega)
  have g1 := hG.start 1 (by omega)
  have g2 := hG.start 2 (by omega)
  have g3 := hG.start 3 (by omega)
  have g4 := hG.start 4 (by omega)
  have g5 := hG.start 5 (by omega)
  have g6 := hG.start 6 (by omega)
  have g7 := hG.start 7 (by omega)
  have hX0 := startW_vals
  generalize initW.getD 0 0 = s0 at *
  generalize initW.getD 1 0 = s1 at *
  generalize initW.getD 2 0 = s2 at *
  generalize initW.getD 3 0 = s3 at *
  generalize initW.getD 4 0 = s4 at *
  generalize initW.getD 5 0 = s5 at *
  generalize initW.getD 6 0 = s6 at *
  generalize initW.getD 7 0 = s7 at *
  unfold w32 at g0 g1 g2 g3 g4 g5 g6 g7 hX0
  have HX0 := Lib.hid hX0
  clear hX0
  obtain ⟨q, hq⟩ : ∃ q, q = l ++ padOf l.length := ⟨_, rfl⟩
  have hql : q.length % 64 = 0 ∧ q.length ≤ l.length + 200 := by
    have h1 := padOf_length l.length
    rw [hq, List.length_append]
    refine ⟨h1, ?_⟩
    simp [padOf]
    omega
  obtain ⟨N, hN⟩ : ∃ N, q.length = 64 * N := ⟨q.length / 64, by omega⟩
  have hD : sha l = outOf (absN kW N (startW initW) q).1.list := by
    unfold sha digest absorb
    rw [← hq, hN, Nat.mul_div_cancel_left _ (by omega)]
  have HD := Lib.hid hD
  have HQ := Lib.hid hq
  clear hD hq
  go_enter Tryd.func91, Tryd.ntmps91
  go_wp2_with fail
  have hk0 := (Kp.refl [] w).alloc (.cells (startW initW).vals 134)
  have hH0 := heap_alloc_new w (.cells (startW initW).vals 134)
  rw [HX0.out] at hk0 hH0
  obtain ⟨va, hva⟩ : ∃ va, va = Value.agg (startW initW).vals := ⟨_, rfl⟩
  rw [HX0.out] at hva
  simp only [← hva]
  clear hva
  refine (filled_calls v l _ (hb.kp0 hk0) hlen).mono ?_
  rintro e w1 ⟨qv, rfl, hoq, hk1⟩
  rw [← HQ.out] at hoq
  have hkw := hk0.trans hk1
  have hH1 := hk1.heap hH0 (by simp)
  rw [← HX0.out] at hH1
  have hG1 := hG.kp0 hkw
  have hq0 : 0 < q.length := by rw [HQ.out]; simp [padOf]; omega
  obtain ⟨bq, cq, rfl, hcq, hbq1, -⟩ := ob_some hoq hq0
  have hbq : Bs w1 (.slice (some ⟨bq, 0, none⟩) q.length cq) q := hoq.bs
  have hlq := hoq.lt
  have hszw : (w.alloc (.cells (startW initW).vals 134)).heap.size = w.heap.size + 1 := by simp
  rw [HX0.out] at hszw
  rw [hszw] at hlq hbq1
  have hs1 : w.heap.size + 1 ≤ w1.heap.size := by have := hk1.size; omega
  clear hb hk0 hk1 hH0 hG g0 g1 g2 g3 g4 g5 g6 g7 hoq hszw
  go_wp2
  go_loopw [5] (fun v5 wr => ∃ n : Nat, n ≤ N ∧ v5 = .int .i64 (64 * (n : Int)) ∧ wr.heap[w.heap.size]? = some (.cells (absN kW n (startW initW) q).1.vals 134 (0, 0)) ∧ Kp [w.heap.size] w1 wr) (fun v5 _ => 64 * N - (intOf v5).toNat)
  case atStart => exact ⟨0, by omega, by simp, hH1, Kp.refl _ _⟩
  case round =>
    as_aux_lemma =>
    obtain ⟨n, hn, rfl, hH, hkr⟩ := hrel
    have hsr := hkr.size
    by_cases hlt : n < N
    · have hbr : Bs wr (.slice (some ⟨bq, 0, none⟩) q.length cq) q := hbq.kp hkr (fun k hk => by have := (hlq k hk).1; simp; omega)
      have hlen64 := take64_succ q n (by omega)
      have hsucc := absN_succ kW n (startW initW) q
      rw [absN_rest] at hsucc
      generalize absN kW n (startW initW) q = A at *
      obtain ⟨X, R⟩ := A
      simp only at hH hsucc
      have HX := Lib.hid hsucc
      clear hsucc
      have hd : decide (64 * (n : Int) < (q.length : Int)) = true := by rw [decide_eq_true_eq]; omega
      rw [vals_eq] at hH
      have hH_0 := cell_heap (w := wr) (b := w.heap.size) hH 0
      have hH_1 := cell_heap (w := wr) (b := w.heap.size) hH 1
      have hH_2 := cell_heap (w := wr) (b := w.heap.size) hH 2
      have hH_3 := cell_heap (w := wr) (b := w.heap.size) hH 3
      have hH_4 := cell_heap (w := wr) (b := w.heap.size) hH 4
      have hH_5 := cell_heap (w := wr) (b := w.heap.size) hH 5
      have hH_6 := cell_heap (w := wr) (b := w.heap.size) hH 6
      have hH_7 := cell_heap (w := wr) (b := w.heap.size) hH 7
      simp only [List.getElem?_toArray, List.getElem?_cons_zero, List.getElem?_cons_succ] at hH_0 hH_1 hH_2 hH_3 hH_4 hH_5 hH_6 hH_7
      have e1 : IntKind.i64.wrap (64 * (n : Int) + 64) = 64 * n + 64 := IntWalk.i64_in _ (by omega)
      have b1 : (0 : Int) ≤ 64 * (n : Int) ∧ 64 * (n : Int) ≤ 64 * (n : Int) + 64 ∧ 64 * (n : Int) + 64 ≤ cq := by omega
      have hne : ¬ cq = 64 * n := by omega
      have t1 : (64 * (n : Int)).toNat = 64 * n := by omega
      have t2 : (64 * (n : Int) + 64).toNat = 64 * n + 64 := by omega
      have t3 : 64 * n + 64 - 64 * n = 64 := by omega
      go_wp2
      have hS : Gr wr [w.heap.size] wr.drew := Gr.of (fun _ _ => rfl)
      refine wp_plan (.H 0 (.H 1 (.H 2 (.E 3 true (.E 4 true (.E 5 true (.E 6 false (.E 7 false .Z)))))))) (Gr wr [w.heap.size]) (by as_aux_lemma => kernel_rfl) (by as_aux_lemma => kernel_rfl) ?_
      repeat (first | (refine plan_H rfl hS (fun K hK => ?_); go_simp; refine hK _ ?_; clear hK K) | (refine plan_E rfl (fun K hK => ?_); go_simp; (first | refine hK _ _ (fun _ => hS) ?_ | refine hK _ _ nofun ?_); clear hK K))
      have hB64 : Bs wr.drew (.slice (some ⟨bq, 64 * n, none⟩) 64 (cq - 64 * n)) ((q.drop (64 * n)).take 64) := by
        have h := Sl.part hbr (64 * n) 64 (by omega)
        have h2 := h.kp0 ((Kp.refl [] wr).drew)
        unfold Bs
        rw [hlen64]
        simpa [bcells, List.map_take, List.map_drop, hne, add_at] using h2
      refine plan_E rfl (fun K hK => ?_); go_simp
      refine (rchange_calls X _ ((q.drop (64 * n)).take 64) _ (hG1.kp (hkr.drew) (by simp; omega)) hB64 hlen64).mono ?_
      rintro e w5 ⟨rfl, hk5⟩
      have hk6 : Kp [] wr w5 := ((Kp.refl [] wr).drew).trans hk5
      refine hK _ _ nofun ?_
      clear hK K
      have hp5 := hk6.heap hH (by simp)
      generalize hY : chg kW X ((q.drop (64 * n)).take 64) = Y
      rw [hY] at HX
      clear hY hH_0 hH_1 hH_2 hH_3 hH_4 hH_5 hH_6 hH_7
      refine plan_E rfl (fun K hK => ?_)
      refine step_store_part rfl 134 _ _ rfl w.heap.size Y.vals rfl rfl 134 _ hp5 rsize8 (by simp [W8.vals, arr, W8.list]) (by simp [W8.vals, arr, W8.list, w32, Value.oneCell']) Y.vals (by simp [W8.vals, arr, W8.list, w32]) ?_
      refine hK _ _ nofun ?_
      clear hK K
      refine plan_Z ?_
      have hkww : Kp [w.heap.size] w1 (w5.setRow w.heap.size Y.vals) := (hkr.trans hk6.nil).trans (setRow_kp w5 w.heap.size Y.vals)
      have hrow := setRow_heap w5 w.heap.size _ Y.vals _ _ hp5
      have en : IntKind.i64.wrap (64 * (n : Int) + 64) = 64 * n + 64 := e1
      go_wp2
      go_roundw
      case measure => simp [intOf]; omega
      case rel => exact ⟨n + 1, by omega, by go_num, by rw [HX.out]; exact hrow, hkww⟩
    · have hd : decide (64 * (n : Int) < (q.length : Int)) = false := by rw [decide_eq_false_iff_not]; omega
      have hnN : n = N := by omega
      rw [hnN] at hH
      generalize hX : (absN kW N (startW initW) q).1 = X at *
      have HDD : Hid (sha l = outOf X.list) := Lib.hid HD.out
      have hrw := hbq1
      have hlt2 : ¬ (64 * (n : Int) < 64 * (N : Int)) := by omega
      have hkw2 : Kp [] w wr := hkw.trans' hkr (by simp)
      clear hX hnN
      go_wp2
      have hH' := hH
      rw [vals_eq] at hH'
      obtain ⟨wo, rfl⟩ : ∃ wo : World, wo = wr := ⟨wr, rfl⟩
      go_loopw [6, 7] (fun v6 v7 wr => ∃ (n : Nat) (a6 : Option Addr) (c6 : Nat), n ≤ 8 ∧ v7 = .int .i64 n ∧ v6 = .slice a6 (4 * n) c6 ∧ Own wr (w.heap.size + 1) 5 1 (.slice a6 (4 * n) c6) (4 * n) (bcells (outOf (X.list.take n))) ∧ wr.heap[w.heap.size]? = some (.cells X.vals 134 (0, 0)) ∧ Kp [] w wr) (fun _ v _ => 8 - (intOf v).toNat)
      case atStart => exact ⟨0, none, 0, by omega, rfl, rfl, Own.nil _ _ _ _, hH, hkw2⟩
      case round =>
        as_aux_lemma =>
        obtain ⟨n, a6, c6, hn8, rfl, rfl, ho, hH, hk⟩ := hrel
        have hsz := lt_of_heap hH
        by_cases hlt : n < 8
        · have hcl : wr.cell? ⟨w.heap.size, n, none⟩ = some (w32 (X.list.getD n 0)) := by
            have h8 : n < X.list.length := hlt
            rw [cell_heap hH, W8.vals, arr_get X.list n h8]
            simp [h8]
          have hxl : X.list.take (n + 1) = X.list.take n ++ [X.list.getD n 0] := by
            rw [List.take_add_one]; simp [show n < X.list.length from hlt]
          generalize X.list.getD n 0 = xn at *
          have HXL := Lib.hid hxl
          clear hxl
          unfold w32 at hcl
          have hn0 : (0 : Int) ≤ n := by omega
          have hn8' : (n : Int) < 8 := by omega
          go_wp2
          have hS : Gr wr [w.heap.size] wr.drew := Gr.of (fun _ _ => rfl)
          refine wp_plan (.H 0 (.H 1 (.H 2 (.H 3 (.H 4 (.H 5 (.H 6 (.H 7 (.H 8 (.H 9 (.H 10 (.H 11 (.H 12 (.H 13 (.H 14 (.H 15 (.H 16 (.H 17 (.H 18 (.H 19 (.E 20 true (.E 21 false (.E 22 false .Z))))))))))))))))))))))) (Gr wr [w.heap.size]) (by as_aux_lemma => kernel_rfl) (by as_aux_lemma => kernel_rfl) ?_
          repeat (refine plan_H rfl hS (fun K hK => ?_); go_simp; refine hK _ ?_; clear hK K)
          have hxl := u32_lt xn
          have q1 := wq (xn.toNat : Int) 16777216 (by omega) (by omega) (by omega)
          have q2 := wq (xn.toNat : Int) 65536 (by omega) (by omega) (by omega)
          have q3 := wq (xn.toNat : Int) 256 (by omega) (by omega) (by omega)
          have q4 := IntKind.wrap_u8 (xn.toNat : Int)
          have h4 := dig4 xn.toNat
          refine plan_E rfl (fun K hK => ?_); go_simp
          have hkD : Kp [] wr (wr.alloc (.cells (bcells (dig xn.toNat 4)).toArray 5)).drew := ((Kp.refl [] wr).alloc _).drew
          refine hK _ _ (fun _ => Gr.of (fun b hb => Below.heap_alloc _ _ _ (by simp at hb ⊢; omega))) ?_
          clear hK K
          refine plan_E rfl (fun K hK => ?_)
          refine step_app _ rfl _ _ 23 23 rfl (w.heap.size + 1) 5 i0 _ 1 1 Tryd.underlying23 hi hz0 hz1 hz2 rfl (by omega) (.slice a6 (4 * n) c6) (4 * n) (bcells (outOf (X.list.take n))) rfl (own_kp ho hkD (by simp)) (.slice (some ⟨wr.heap.size, 0, none⟩) 4 4) 4 (bcells (dig xn.toNat 4)) rfl (Src.of_sl Tryd.underlying23 ((bs_alloc wr _ (dig xn.toNat 4) _ rfl 4 (dig_length 4 _).symm).kp0 ((Kp.refl [] _).drew)) bcells_one) (by omega) (by omega) (by have := hkD.size; omega) ?_
          intro v7 w7 ho7 hg7 hx7
          have hk7 := (hk.trans hkD).grown hg7 (fun k hk => .inr (by have := (ho.lt k hk).1; omega))
          have hH7 := ((hkD.nil (S := (Value.slice a6 (4 * n) c6).ownBlock.toList)).grown hg7 (fun k hk => .inl (by simpa using hk))).heap hH (by
            intro h
            have := (ho.lt w.heap.size (by simpa using h)).1
            omega)
          obtain ⟨a7, c7, rfl⟩ := own_form ho7
          rw [← bcells_append, ← outOf_snoc, ← HXL.out] at ho7
          rw [show 4 * n + 4 = 4 * (n + 1) by omega] at ho7 ⊢
          refine hK _ _ nofun ?_
          clear hK K
          refine plan_E rfl (fun K hK => ?_); go_simp
          refine hK _ _ nofun ?_
          clear hK K
          refine plan_Z ?_
          have HO7 := Lib.hid ho7
          have HK7 := Lib.hid hk7
          have HH7 := Lib.hid hH7
          clear ho7 hk7 hH7 hS hcl
          go_wp2
          go_roundw
          case measure => simp [intOf]; omega
          case rel => exact ⟨n + 1, a7, c7, by omega, by go_num, by simp, HO7.out, HH7.out, HK7.out⟩
        · have h8 : n = 8 := by omega
          have hd8 : decide ((n : Int) < 8) = false := by rw [decide_eq_false_iff_not]; omega
          go_wp2
          go_ret
          refine ⟨_, rfl, ?_, hk⟩
          subst h8
          rw [HDD.out]
          have : X.list.take 8 = X.list := rfl
          rw [this] at ho
          unfold OB
          rw [show (outOf X.list).length = 4 * 8 by rw [outOf_length]; rfl]
          exact own_base ho (fun b hb => by have := (ho.lt b hb).1; omega)
end Go.Proofs.YtddpefbpiehgeaaDoor
