/- The reference's digest: Sum is the program's digest. -/
import Derived.Test.YtddpefbpiehgeaaDoorT08
import Derived.Test.YtddpefbpiehgeaaDoorT05
namespace Go.Proofs.YtddpefbpiehgeaaDoor
open Go Go.RowKit
set_option maxRecDepth 100000
set_option linter.unusedVariables false
set_option linter.unusedSectionVars false
set_option linter.unusedSimpArgs false

theorem startW_vals : (startW initW).vals = #[w32 (initW.getD 0 0), w32 (initW.getD 1 0), w32 (initW.getD 2 0), w32 (initW.getD 3 0), w32 (initW.getD 4 0), w32 (initW.getD 5 0), w32 (initW.getD 6 0), w32 (initW.getD 7 0)] := rfl
theorem add_at (b o i : Nat) : (⟨b, o, none⟩ : Addr).add i = ⟨b, o + i, none⟩ := by
  unfold Addr.add
  split
  · rename_i h; subst h; rfl
  · rfl
theorem wq (x d : Int) (h0 : 0 ≤ x) (h : x < 4294967296) (hd : 0 < d) : IntKind.u8.wrap (IntKind.u32.wrap (x / d)) = x / d % 256 := by
  have h1 : 0 ≤ x / d := Int.ediv_nonneg h0 (by omega)
  have h2 : x / d ≤ x := Int.ediv_le_self _ h0
  rw [IntWalk.u32_in _ (by omega), IntKind.wrap_u8]
theorem take64_succ (q : List UInt8) (n : Nat) (h : 64 * n + 64 ≤ q.length) : ((q.drop (64 * n)).take 64).length = 64 := by simp; omega

set_option maxHeartbeats 2000000 in
theorem rsum_calls (v : Value) (l : List UInt8) (w : World) (hG : GR w) (hb : Bs w v l) (hlen : l.length ≤ 140737488355000) :
    Calls Tryd.prog 91 #[v] w fun e w' => ∃ v, e = .returned v ∧ OB w' 5 w.heap.size v (sha l) ∧ Kp [] w w' := by
  obtain ⟨i0, hi, hz0, hz1, hz2⟩ := info_parts u8info
  have hg4 := hG.size
  have g0 := hG.start 0 (by omega)
  have g1 := hG.start 1 (by omega)
  have g2 := hG.start 2 (by omega)
  have g3 := hG.start 3 (by omega)
  have g4 := hG.start 4 (by omega)
  have g5 := hG.start 5 (by omega)
  have g6 := hG.start 6 (by omega)
  have g7 := hG.start 7 (by omega)
  have hX0 := startW_vals
  generalize initW.getD 0 0 = s0 at *
  generalize initW.getD 1 0 = s1 at *
  generalize initW.getD 2 0 = s2 at *
  generalize initW.getD 3 0 = s3 at *
  generalize initW.getD 4 0 = s4 at *
  generalize initW.getD 5 0 = s5 at *
  generalize initW.getD 6 0 = s6 at *
  generalize initW.getD 7 0 = s7 at *
  unfold w32 at g0 g1 g2 g3 g4 g5 g6 g7 hX0
  have HX0 := Lib.hid hX0
  clear hX0
  obtain ⟨q, hq⟩ : ∃ q, q = l ++ padOf l.length := ⟨_, rfl⟩
  have hql : q.length % 64 = 0 ∧ q.length ≤ l.length + 200 := by
    have h1 := padOf_length l.length
    rw [hq, List.length_append]
    refine ⟨h1, ?_⟩
    simp [padOf]
    omega
  obtain ⟨N, hN⟩ : ∃ N, q.length = 64 * N := ⟨q.length / 64, by omega⟩
  have hD : sha l = outOf (absN kW N (startW initW) q).1.list := by
    unfold sha digest absorb
    rw [← hq, hN, Nat.mul_div_cancel_left _ (by omega)]
  have HD := Lib.hid hD
  have HQ := Lib.hid hq
  clear hD hq
  go_enter Tryd.func91, Tryd.ntmps91
  go_wp2_with fail
  have hk0 := (Kp.refl [] w).alloc (.cells (startW initW).vals 134)
  have hH0 := heap_alloc_new w (.cells (startW initW).vals 134)
  rw [HX0.out] at hk0 hH0
  obtain ⟨va, hva⟩ : ∃ va, va = Value.agg (startW initW).vals := ⟨_, rfl⟩
  rw [HX0.out] at hva
  simp only [← hva]
  clear hva
  refine (filled_calls v l _ (hb.kp0 hk0) hlen).mono ?_
  rintro e w1 ⟨qv, rfl, hoq, hk1⟩
  rw [← HQ.out] at hoq
  have hkw := hk0.trans hk1
  have hH1 := hk1.heap hH0 (by simp)
  rw [← HX0.out] at hH1
  have hG1 := hG.kp0 hkw
  have hq0 : 0 < q.length := by rw [HQ.out]; simp [padOf]; omega
  obtain ⟨bq, cq, rfl, hcq, hbq1, -⟩ := ob_some hoq hq0
  have hbq : Bs w1 (.slice (some ⟨bq, 0, none⟩) q.length cq) q := hoq.bs
  have hlq := hoq.lt
  have hszw : (w.alloc (.cells (startW initW).vals 134)).heap.size = w.heap.size + 1 := by simp
  rw [HX0.out] at hszw
  rw [hszw] at hlq hbq1
  have hs1 : w.heap.size + 1 ≤ w1.heap.size := by have := hk1.size; omega
  clear hb hk0 hk1 hH0 hG g0 g1 g2 g3 g4 g5 g6 g7 hoq hszw
  go_wp2
  go_loopw [5] (fun v5 wr => ∃ n : Nat, n ≤ N ∧ v5 = .int .i64 (64 * (n : Int)) ∧ wr.heap[w.heap.size]? = some (.cells (absN kW n (startW initW) q).1.vals 134 (0, 0)) ∧ Kp [w.heap.size] w1 wr) (fun v5 _ => 64 * N - (intOf v5).toNat)
  case atStart => exact ⟨0, by omega, by simp, hH1, Kp.refl _ _⟩
  case round =>
    as_aux_lemma =>
    obtain ⟨n, hn, rfl, hH, hkr⟩ := hrel
    have hsr := hkr.size
    by_cases hlt : n < N
    · have hbr : Bs wr (.slice (some ⟨bq, 0, none⟩) q.length cq) q := hbq.kp hkr (fun k hk => by have := (hlq k hk).1; simp; omega)
      have hlen64 := take64_succ q n (by omega)
      have hsucc := absN_succ kW n (startW initW) q
      rw [absN_rest] at hsucc
      generalize absN kW n (startW initW) q = A at *
      obtain ⟨X, R⟩ := A
      simp only at hH hsucc
      have HX := Lib.hid hsucc
      clear hsucc
      have hd : decide (64 * (n : Int) < (q.length : Int)) = true := by rw [decide_eq_true_eq]; omega
      rw [vals_eq] at hH
      have hH_0 := cell_heap (w := wr) (b := w.heap.size) hH 0
      have hH_1 := cell_heap (w := wr) (b := w.heap.size) hH 1
      have hH_2 := cell_heap (w := wr) (b := w.heap.size) hH 2
      have hH_3 := cell_heap (w := wr) (b := w.heap.size) hH 3
      have hH_4 := cell_heap (w := wr) (b := w.heap.size) hH 4
      have hH_5 := cell_heap (w := wr) (b := w.heap.size) hH 5
      have hH_6 := cell_heap (w := wr) (b := w.heap.size) hH 6
      have hH_7 := cell_heap (w := wr) (b := w.heap.size) hH 7
      simp only [List.getElem?_toArray, List.getElem?_cons_zero, List.getElem?_cons_succ] at hH_0 hH_1 hH_2 hH_3 hH_4 hH_5 hH_6 hH_7
      have e1 : IntKind.i64.wrap (64 * (n : Int) + 64) = 64 * n + 64 := IntWalk.i64_in _ (by omega)
      have b1 : (0 : Int) ≤ 64 * (n : Int) ∧ 64 * (n : Int) ≤ 64 * (n : Int) + 64 ∧ 64 * (n : Int) + 64 ≤ cq := by omega
      have hne : ¬ cq = 64 * n := by omega
      have t1 : (64 * (n : Int)).toNat = 64 * n := by omega
      have t2 : (64 * (n : Int) + 64).toNat = 64 * n + 64 := by omega
      have t3 : 64 * n + 64 - 64 * n = 64 := by omega
      go_wp2
      have hS : Gr wr [w.heap.size] wr.drew := Gr.of (fun _ _ => rfl)
      refine wp_plan (.H 0 (.H 1 (.H 2 (.E 3 true (.E 4 true (.E 5 true (.E 6 false (.E 7 false .Z)))))))) (Gr wr [w.heap.size]) (by as_aux_lemma => kernel_rfl) (by as_aux_lemma => kernel_rfl) ?_
      repeat (first | (refine plan_H rfl hS (fun K hK => ?_); go_simp; refine hK _ ?_; clear hK K) | (refine plan_E rfl (fun K hK => ?_); go_simp; (first | refine hK _ _ (fun _ => hS) ?_ | refine hK _ _ nofun ?_); clear hK K))
      have hB64 : Bs wr.drew (.slice (some ⟨bq, 64 * n, none⟩) 64 (cq - 64 * n)) ((q.drop (64 * n)).take 64) := by
        have h := Sl.part hbr (64 * n) 64 (by omega)
        have h2 := h.kp0 ((Kp.refl [] wr).drew)
        unfold Bs
        rw [hlen64]
        simpa [bcells, List.map_take, List.map_drop, hne, add_at] using h2
      refine plan_E rfl (fun K hK => ?_); go_simp
      refine (rchange_calls X _ ((q.drop (64 * n)).take 64) _ (hG1.kp (hkr.drew) (by simp; omega)) hB64 hlen64).mono ?_
      rintro e w5 ⟨rfl, hk5⟩
      have hk6 : Kp [] wr w5 := ((Kp.refl [] wr).drew).trans hk5
      refine hK _ _ nofun ?_
      clear hK K
      have hp5 := hk6.heap hH (by simp)
      generalize hY : chg kW X ((q.drop (64 * n)).take 64) = Y
      rw [hY] at HX
      clear hY hH_0 hH_1 hH_2 hH_3 hH_4 hH_5 hH_6 hH_7
      refine plan_E rfl (fun K hK => ?_)
      refine step_store_part rfl 134 _ _ rfl w.heap.size Y.vals rfl rfl 134 _ hp5 rsize8 (by simp [W8.vals, arr, W8.list]) (by simp [W8.vals, arr, W8.list, w32, Value.oneCell']) Y.vals (by simp [W8.vals, arr, W8.list, w32]) ?_
      refine hK _ _ nofun ?_
      clear hK K
      refine plan_Z ?_
      have hkww : Kp [w.heap.size] w1 (w5.setRow w.heap.size Y.vals) := (hkr.trans hk6.nil).trans (setRow_kp w5 w.heap.size Y.vals)
      have hrow := setRow_heap w5 w.heap.size _ Y.vals _ _ hp5
      have en : IntKind.i64.wrap (64 * (n : Int) + 64) = 64 * n + 64 := e1
      go_wp2
      go_roundw
      case measure => simp [intOf]; omega
      case rel => exact ⟨n + 1, by omega, by go_num, by rw [HX.out]; exact hrow, hkww⟩
    · have hd : decide (64 * (n : Int) < (q.length : Int)) = false := by rw [decide_eq_false_iff_not]; omega
      have hnN : n = N := by omega
      rw [hnN] at hH
      generalize hX : (absN kW N (startW initW) q).1 = X at *
      have HDD : Hid (sha l = outOf X.list) := Lib.hid HD.out
      have hrw := hbq1
      have hlt2 : ¬ (64 * (n : Int) < 64 * (N : Int)) := by omega
      have hkw2 : Kp [] w wr := hkw.trans' hkr (by simp)
      clear hX hnN
      go_wp2
      have hH' := hH
      rw [vals_eq] at hH'
      obtain ⟨wo, rfl⟩ : ∃ wo : World, wo = wr := ⟨wr, rfl⟩
      go_loopw [6, 7] (fun v6 v7 wr => ∃ (n : Nat) (a6 : Option Addr) (c6 : Nat), n ≤ 8 ∧ v7 = .int .i64 n ∧ v6 = .slice a6 (4 * n) c6 ∧ Own wr (w.heap.size + 1) 5 1 (.slice a6 (4 * n) c6) (4 * n) (bcells (outOf (X.list.take n))) ∧ wr.heap[w.heap.size]? = some (.cells X.vals 134 (0, 0)) ∧ Kp [] w wr) (fun _ v _ => 8 - (intOf v).toNat)
      case atStart => exact ⟨0, none, 0, by omega, rfl, rfl, Own.nil _ _ _ _, hH, hkw2⟩
      case round =>
        as_aux_lemma =>
        obtain ⟨n, a6, c6, hn8, rfl, rfl, ho, hH, hk⟩ := hrel
        have hsz := lt_of_heap hH
        by_cases hlt : n < 8
        · have hcl : wr.cell? ⟨w.heap.size, n, none⟩ = some (w32 (X.list.getD n 0)) := by
            have h8 : n < X.list.length := hlt
            rw [cell_heap hH, W8.vals, arr_get X.list n h8]
            simp [h8]
          have hxl : X.list.take (n + 1) = X.list.take n ++ [X.list.getD n 0] := by
            rw [List.take_add_one]; simp [show n < X.list.length from hlt]
          generalize X.list.getD n 0 = xn at *
          have HXL := Lib.hid hxl
          clear hxl
          unfold w32 at hcl
          have hn0 : (0 : Int) ≤ n := by omega
          have hn8' : (n : Int) < 8 := by omega
          go_wp2
          have hS : Gr wr [w.heap.size] wr.drew := Gr.of (fun _ _ => rfl)
          refine wp_plan (.H 0 (.H 1 (.H 2 (.H 3 (.H 4 (.H 5 (.H 6 (.H 7 (.H 8 (.H 9 (.H 10 (.H 11 (.H 12 (.H 13 (.H 14 (.H 15 (.H 16 (.H 17 (.H 18 (.H 19 (.E 20 true (.E 21 false (.E 22 false .Z))))))))))))))))))))))) (Gr wr [w.heap.size]) (by as_aux_lemma => kernel_rfl) (by as_aux_lemma => kernel_rfl) ?_
          repeat (refine plan_H rfl hS (fun K hK => ?_); go_simp; refine hK _ ?_; clear hK K)
          have hxl := u32_lt xn
          have q1 := wq (xn.toNat : Int) 16777216 (by omega) (by omega) (by omega)
          have q2 := wq (xn.toNat : Int) 65536 (by omega) (by omega) (by omega)
          have q3 := wq (xn.toNat : Int) 256 (by omega) (by omega) (by omega)
          have q4 := IntKind.wrap_u8 (xn.toNat : Int)
          have h4 := dig4 xn.toNat
          refine plan_E rfl (fun K hK => ?_); go_simp
          have hkD : Kp [] wr (wr.alloc (.cells (bcells (dig xn.toNat 4)).toArray 5)).drew := ((Kp.refl [] wr).alloc _).drew
          refine hK _ _ (fun _ => Gr.of (fun b hb => Below.heap_alloc _ _ _ (by simp at hb ⊢; omega))) ?_
          clear hK K
          refine plan_E rfl (fun K hK => ?_)
          refine step_app _ rfl _ _ 23 23 rfl (w.heap.size + 1) 5 i0 _ 1 1 Tryd.underlying23 hi hz0 hz1 hz2 rfl (by omega) (.slice a6 (4 * n) c6) (4 * n) (bcells (outOf (X.list.take n))) rfl (own_kp ho hkD (by simp)) (.slice (some ⟨wr.heap.size, 0, none⟩) 4 4) 4 (bcells (dig xn.toNat 4)) rfl (Src.of_sl Tryd.underlying23 ((bs_alloc wr _ (dig xn.toNat 4) _ rfl 4 (dig_length 4 _).symm).kp0 ((Kp.refl [] _).drew)) bcells_one) (by omega) (by omega) (by have := hkD.size; omega) ?_
          intro v7 w7 ho7 hg7 hx7
          have hk7 := (hk.trans hkD).grown hg7 (fun k hk => .inr (by have := (ho.lt k hk).1; omega))
          have hH7 := ((hkD.nil (S := (Value.slice a6 (4 * n) c6).ownBlock.toList)).grown hg7 (fun k hk => .inl (by simpa using hk))).heap hH (by
            intro h
            have := (ho.lt w.heap.size (by simpa using h)).1
            omega)
          obtain ⟨a7, c7, rfl⟩ := own_form ho7
          rw [← bcells_append, ← outOf_snoc, ← HXL.out] at ho7
          rw [show 4 * n + 4 = 4 * (n + 1) by omega] at ho7 ⊢
          refine hK _ _ nofun ?_
          clear hK K
          refine plan_E rfl (fun K hK => ?_); go_simp
          refine hK _ _ nofun ?_
          clear hK K
          refine plan_Z ?_
          have HO7 := Lib.hid ho7
          have HK7 := Lib.hid hk7
          have HH7 := Lib.hid hH7
          clear ho7 hk7 hH7 hS hcl
          go_wp2
          go_roundw
          case measure => simp [intOf]; omega
          case rel => exact ⟨n + 1, a7, c7, by omega, by go_num, by simp, HO7.out, HH7.out, HK7.out⟩
        · have h8 : n = 8 := by omega
          have hd8 : decide ((n : Int) < 8) = false := by rw [decide_eq_false_iff_not]; omega
          go_wp2
          go_ret
          refine ⟨_, rfl, ?_, hk⟩
          subst h8
          rw [HDD.out]
          have : X.list.take 8 = X.list := rfl
          rw [this] at ho
          unfold OB
          rw [show (outOf X.list).length = 4 * 8 by rw [outOf_length]; rfl]
          exact own_base ho (fun b hb => by have := (ho.lt b hb).1; omega)
end Go.Proofs.YtddpefbpiehgeaaDoor

/- The reference's seal: under, Mac, Key. -/
namespace Go.Proofs.YtddpefbpiehgeaaDoor
open Go Go.RowKit
set_option maxRecDepth 100000
set_option linter.unusedVariables false
set_option linter.unusedSectionVars false
set_option linter.unusedSimpArgs false

/-- The first bytes are turned over. -/
def xorN (b : UInt8) (l : List UInt8) (i : Nat) : List UInt8 := (l.take i).map (· ^^^ b) ++ l.drop i
theorem xorN_length (b : UInt8) (l : List UInt8) (i : Nat) : (xorN b l i).length = l.length := by simp [xorN]; omega
theorem xorN_full (b : UInt8) (l : List UInt8) (i : Nat) (h : l.length = i) : xorN b l i = l.map (· ^^^ b) := by subst h; simp [xorN]
theorem xorN_get (b : UInt8) (l : List UInt8) (i : Nat) (h : i < l.length) : (xorN b l i).getD i 0 = l.getD i 0 := by
  unfold xorN
  simp only [List.getD]
  rw [List.getElem?_append_right (by simp; omega)]
  simp [h, Nat.min_eq_left (Nat.le_of_lt h)]
theorem xorN_set (b : UInt8) (l : List UInt8) (i : Nat) (h : i < l.length) : (xorN b l i).set i (l.getD i 0 ^^^ b) = xorN b l (i + 1) := by
  unfold xorN
  have hm : ((l.take i).map (· ^^^ b)).length = i := by simp; omega
  rw [List.set_append_right _ _ (by omega), hm, Nat.sub_self, List.drop_eq_getElem_cons h, List.set_cons_zero, List.take_succ_eq_append_getElem h, List.map_append]
  simp only [List.map_cons, List.map_nil, List.append_assoc, List.cons_append, List.nil_append]
  simp [h]
theorem bcells_getD (l : List UInt8) (i : Nat) (h : i < l.length) : (bcells l)[i]? = some (.int .u8 ((l.getD i 0).toNat : Int)) := by
  rw [bcells_get l i h]
  simp [h]

set_option maxHeartbeats 2000000 in
theorem under_calls (s : ByteArray) (b : UInt8) (bi : Int) (hbi : bi = (b.toNat : Int)) (w : World) (hG : GR w) (hs : s.size ≤ 1000000) :
    Calls Tryd.prog 90 #[.string s, .int .u8 bi] w fun e w' => ∃ v, e = .returned v ∧ OB w' 5 w.heap.size v ((padded s).map (· ^^^ b)) ∧ Kp [] w w' := by
  subst hbi
  obtain ⟨i0, hi, hz0, hz1, hz2⟩ := info_parts u8info
  have hsl : s.data.toList.length = s.size := by rw [Array.length_toList]; rfl
  have hpad : padded s = key0 s ++ List.replicate (64 - (key0 s).length) 0 := rfl
  go_enter Tryd.func90, Tryd.ntmps90
  by_cases h : 64 < s.size
  · have hd : decide ((64 : Int) < (s.size : Int)) = true := by rw [decide_eq_true_eq]; omega
    have hk0 : key0 s = sha s.data.toList := by unfold key0; rw [if_pos h]
    have hsh := sha_length s.data.toList
    go_wp2_with (first
      | (refine wpList_s2b rfl _ 9 23 5 rfl s rfl Tryd.underlying9 Tryd.underlying23 Tryd.underlying5 (by omega) ?_; intro v1 w1 ho1 hk1; obtain ⟨a1, c1, rfl⟩ := own_form ho1; rw [hsl] at ho1 ⊢)
      | (go_at_call 91; refine (rsum_calls _ _ _ (hG.kp0 hk1) (OB.bs ho1) (by omega)).mono ?_; rintro e w2 ⟨v2, rfl, ho2, hk2⟩; have hk12 := hk1.trans hk2)
      | (refine wpList_make_full _ rfl _ _ 23 rfl w.heap.size 5 i0 _ 1 Tryd.underlying23 hi hz0 hz1 .i64 .i64 64 64 64 rfl rfl rfl rfl (by rw [hz2]; omega) (by unfold maxLen; omega) hk12.size ?_; intro w3 ho3 hg3; rw [zeros_cells] at ho3; have hk3 := (Kp.refl [] w2).grown hg3 nofun)
      | (refine wpList_cpy rfl _ _ 23 23 rfl w.heap.size 5 w2.heap.size 64 64 (List.replicate 64 0) (sha s.data.toList) v2 rfl rfl (Own.of ho3) ((OB.bs ho2).kp0 hk3) (by omega) Tryd.underlying23 u8size ?_; intro w4 ho4 hk4))
    have hl64 := padded_length s
    have ho5 : Own w4 w.heap.size 5 1 (.slice (some ⟨w2.heap.size, 0, none⟩) 64 64) 64 (bcells (xorN b (padded s) 0)) := by
      rw [← hk0, List.drop_replicate] at ho4
      exact ho4
    have hk5 : Kp [] w w4 := (hk12.trans hk3).trans' hk4 (by simpa using hk12.size)
    generalize w2.heap.size = g at *
    have HL := Lib.hid hl64
    clear hk0 ho4 hk4 hl64
    obtain ⟨wo, rfl⟩ : ∃ wo : World, wo = w4 := ⟨_, rfl⟩
    go_wp2
    go_loopw [7] (fun v7 wr => ∃ i : Nat, i ≤ 64 ∧ v7 = .int .i64 i ∧ Own wr w.heap.size 5 1 (.slice (some ⟨g, 0, none⟩) 64 64) 64 (bcells (xorN b (padded s) i)) ∧ Kp [] w wr) (fun v7 _ => 64 - (intOf v7).toNat)
    case atStart => exact ⟨0, by omega, rfl, ho5, hk5⟩
    case round =>
      as_aux_lemma =>
      obtain ⟨i, hi64, rfl, ho, hk⟩ := hrel
      by_cases hlt : i < 64
      · have hx := xorN_get b (padded s) i (by have := HL.out; omega)
        have hc : wr.cell? ⟨g, i, none⟩ = some (.int .u8 (((padded s).getD i 0).toNat : Int)) := by
          rw [ho.cellAt i (by omega), bcells_getD, hx]
          have := HL.out
          rw [xorN_length]; omega
        have hf := ho.frozenAt i (by omega)
        have hst := ho.stored i (.int .u8 (((padded s).getD i 0 ^^^ b).toNat : Int))
        rw [← bcells_set, xorN_set b (padded s) i (by have := HL.out; omega)] at hst
        have hg := (ho.lt g rfl).1
        generalize (padded s).getD i 0 = y at *
        have HST := Lib.hid hst
        have i0 : (0 : Int) ≤ i ∧ (i : Int) < 64 := by omega
        clear hst hx
        go_wp2
        rw [u8_xor_v]
        go_roundw
        case measure => simp [intOf]; omega
        case rel => exact ⟨i + 1, by omega, by go_num, HST.out, hk.setCell (.inr hg) _⟩
      · have h64 : i = 64 := by omega
        have hd64 : decide ((i : Int) < 64) = false := by rw [decide_eq_false_iff_not]; omega
        go_wp2
        go_ret
        subst h64
        rw [xorN_full _ _ _ (by have := HL.out; omega)] at ho
        refine ⟨_, rfl, ?_, hk⟩
        unfold OB
        rw [List.length_map, HL.out]
        exact ho
  · have hd : decide ((64 : Int) < (s.size : Int)) = false := by rw [decide_eq_false_iff_not]; omega
    have hk0 : key0 s = s.data.toList := by unfold key0; rw [if_neg h]
    go_wp2_with (first
      | (refine wpList_s2b rfl _ 9 23 5 rfl s rfl Tryd.underlying9 Tryd.underlying23 Tryd.underlying5 (by omega) ?_; intro v1 w1 ho1 hk1; obtain ⟨a1, c1, rfl⟩ := own_form ho1; rw [hsl] at ho1 ⊢)
      | (refine wpList_make_full _ rfl _ _ 23 rfl w.heap.size 5 i0 _ 1 Tryd.underlying23 hi hz0 hz1 .i64 .i64 64 64 64 rfl rfl rfl rfl (by rw [hz2]; omega) (by unfold maxLen; omega) hk1.size ?_; intro w3 ho3 hg3; rw [zeros_cells] at ho3; have hk3 := (Kp.refl [] w1).grown hg3 nofun; have hb3 : Bs w3 (.slice a1 s.size c1) s.data.toList := (OB.bs ho1).kp0 hk3)
      | (refine wpList_cpy rfl _ _ 23 23 rfl w.heap.size 5 w1.heap.size 64 64 (List.replicate 64 0) s.data.toList (.slice a1 s.size c1) rfl rfl (Own.of ho3) hb3 (by omega) Tryd.underlying23 u8size ?_; intro w4 ho4 hk4))
    have hl64 := padded_length s
    have ho5 : Own w4 w.heap.size 5 1 (.slice (some ⟨w1.heap.size, 0, none⟩) 64 64) 64 (bcells (xorN b (padded s) 0)) := by
      rw [← hk0, List.drop_replicate] at ho4
      exact ho4
    have hk5 : Kp [] w w4 := (hk1.trans hk3).trans' hk4 (by simpa using hk1.size)
    generalize w1.heap.size = g at *
    have HL := Lib.hid hl64
    clear hk0 ho4 hk4 hl64
    obtain ⟨wo, rfl⟩ : ∃ wo : World, wo = w4 := ⟨_, rfl⟩
    go_wp2
    go_loopw [7] (fun v7 wr => ∃ i : Nat, i ≤ 64 ∧ v7 = .int .i64 i ∧ Own wr w.heap.size 5 1 (.slice (some ⟨g, 0, none⟩) 64 64) 64 (bcells (xorN b (padded s) i)) ∧ Kp [] w wr) (fun v7 _ => 64 - (intOf v7).toNat)
    case atStart => exact ⟨0, by omega, rfl, ho5, hk5⟩
    case round =>
      as_aux_lemma =>
      obtain ⟨i, hi64, rfl, ho, hk⟩ := hrel
      by_cases hlt : i < 64
      · have hx := xorN_get b (padded s) i (by have := HL.out; omega)
        have hc : wr.cell? ⟨g, i, none⟩ = some (.int .u8 (((padded s).getD i 0).toNat : Int)) := by
          rw [ho.cellAt i (by omega), bcells_getD, hx]
          have := HL.out
          rw [xorN_length]; omega
        have hf := ho.frozenAt i (by omega)
        have hst := ho.stored i (.int .u8 (((padded s).getD i 0 ^^^ b).toNat : Int))
        rw [← bcells_set, xorN_set b (padded s) i (by have := HL.out; omega)] at hst
        have hg := (ho.lt g rfl).1
        generalize (padded s).getD i 0 = y at *
        have HST := Lib.hid hst
        have i0 : (0 : Int) ≤ i ∧ (i : Int) < 64 := by omega
        clear hst hx
        go_wp2
        rw [u8_xor_v]
        go_roundw
        case measure => simp [intOf]; omega
        case rel => exact ⟨i + 1, by omega, by go_num, HST.out, hk.setCell (.inr hg) _⟩
      · have h64 : i = 64 := by omega
        have hd64 : decide ((i : Int) < 64) = false := by rw [decide_eq_false_iff_not]; omega
        go_wp2
        go_ret
        subst h64
        rw [xorN_full _ _ _ (by have := HL.out; omega)] at ho
        refine ⟨_, rfl, ?_, hk⟩
        unfold OB
        rw [List.length_map, HL.out]
        exact ho
end Go.Proofs.YtddpefbpiehgeaaDoor

/- The reference's seal: Mac, Key; the reference's Secret. -/
namespace Go.Proofs.YtddpefbpiehgeaaDoor
open Go Go.RowKit
set_option maxRecDepth 100000
set_option linter.unusedVariables false
set_option linter.unusedSectionVars false
set_option linter.unusedSimpArgs false

theorem rmac_calls (s : ByteArray) (v : Value) (l : List UInt8) (w : World) (hG : GR w) (hs : s.size ≤ 200) (hv : Bs w v l) (hl : l.length ≤ 140737488352000) :
    Calls Tryd.prog 60 #[.string s, v] w fun e w' => ∃ v, e = .returned (.tuple #[v, .int .i64 0]) ∧ OB w' 5 w.heap.size v (hmac s l) ∧ Kp [] w w' := by
  obtain ⟨i0, hi, hz0, hz1, hz2⟩ := info_parts u8info
  have hd : decide ((200 : Int) < (s.size : Int)) = false := by rw [decide_eq_false_iff_not]; omega
  have hpl := padded_length s
  have hml : ∀ b : UInt8, ((padded s).map (· ^^^ b)).length = 64 := fun b => by rw [List.length_map, hpl]
  have hsl := sha_length ((padded s).map (· ^^^ 54) ++ l)
  have hmac' : hmac s l = sha ((padded s).map (· ^^^ 92) ++ sha ((padded s).map (· ^^^ 54) ++ l)) := rfl
  rw [hmac']
  have hml1 := hml 54
  have hml2 := hml 92
  have hrec : ∀ (b : UInt8) (w : World), GR w → Calls Tryd.prog 90 #[.string s, .int .u8 (b.toNat : Int)] w fun e w' => ∃ v, e = .returned v ∧ OB w' 5 w.heap.size v ((padded s).map (· ^^^ b)) ∧ Kp [] w w' := fun b w hG => under_calls s b _ rfl w hG (by omega)
  have hr1 := hrec 54
  have hr2 := hrec 92
  generalize (padded s).map (· ^^^ (54 : UInt8)) = p1 at *
  generalize (padded s).map (· ^^^ (92 : UInt8)) = p2 at *
  clear hmac' hml hrec
  obtain ⟨av, cv, rfl, -⟩ := Sl.form hv
  have HR1 := Lib.hid hr1
  have HR2 := Lib.hid hr2
  clear hr1 hr2
  go_enter Tryd.func60, Tryd.ntmps60
  go_wp2_with fail
  refine (HR1.out _ hG).mono ?_
  rintro e w1 ⟨v1, rfl, ho1, hk1⟩
  obtain ⟨a1, c1, rfl⟩ := own_form ho1
  rw [hml1] at ho1 ⊢
  go_wp2_with (with_reducible refine stop_app ?_)
  unfold Stop
  refine wpList_app _ rfl _ _ 23 23 rfl w.heap.size 5 i0 _ 1 1 Tryd.underlying23 hi hz0 hz1 hz2 rfl (by omega) (.slice a1 64 c1) _ _ rfl (by unfold OB at ho1; rw [hml1] at ho1; exact ho1) (.slice av l.length cv) l.length (bcells (l)) rfl (Src.of_sl Tryd.underlying23 (hv.kp0 hk1) bcells_one) (by omega) (by omega) hk1.size ?_
  intro v2 w2 ho2 hg2 hx2
  have hk2 := hk1.grown hg2 (fun k hk => .inr (ho1.lt k hk).1)
  rw [← bcells_append] at ho2
  obtain ⟨a2, c2, rfl⟩ := own_form ho2
  have hb2 : Bs w2 (.slice a2 (64 + l.length) c2) (p1 ++ l) := by
    have := Sl.of_own ho2
    unfold Bs
    rw [List.length_append, hml1]
    exact this
  go_wp2_with fail
  refine (rsum_calls _ _ _ (hG.kp0 hk2) hb2 (by rw [List.length_append]; omega)).mono ?_
  rintro e w3 ⟨v3, rfl, ho3, hk3⟩
  have hk13 := hk2.trans hk3
  obtain ⟨a3, c3, rfl⟩ := own_form ho3
  go_wp2_with fail
  refine (HR2.out _ (hG.kp0 hk13)).mono ?_
  rintro e w4 ⟨v4, rfl, ho4, hk4⟩
  have hk14 := hk13.trans hk4
  obtain ⟨a4, c4, rfl⟩ := own_form ho4
  have hb3 : Bs w4 (.slice a3 (sha (p1 ++ l)).length c3) (sha (p1 ++ l)) := (OB.bs ho3).kp0 hk4
  have hlt4 := ho4.lt
  have hs3 := hk13.size
  generalize hdd : sha (p1 ++ l) = d at *
  have HDD := Lib.hid hdd
  clear hdd
  rw [hml2] at ho4 ⊢
  have hb32 : Sl w4 1 (.slice a3 32 c3) 32 (bcells d) := by
    have := hb3
    unfold Bs at this
    rw [hsl] at this
    exact this
  go_wp2_with (with_reducible refine stop_app ?_)
  unfold Stop
  refine wpList_app _ rfl _ _ 23 23 rfl w.heap.size 5 i0 _ 1 1 Tryd.underlying23 hi hz0 hz1 hz2 rfl (by omega) (.slice a4 64 c4) _ _ rfl (own_base (by unfold OB at ho4; rw [hml2] at ho4; exact ho4) (fun b hb => by have := (hlt4 b (by rw [hml2]; exact hb)).1; omega)) (.slice a3 32 c3) 32 (bcells (d)) rfl (Src.of_sl Tryd.underlying23 hb32 bcells_one) (by omega) (by omega) hk14.size ?_
  intro v5 w5 ho5 hg5 hx5
  have hk5 := hk14.grown hg5 (fun k hk => .inr (by have := (hlt4 k (by rw [hml2]; exact hk)).1; omega))
  rw [← bcells_append] at ho5
  obtain ⟨a5, c5, rfl⟩ := own_form ho5
  have hb5 : Bs w5 (.slice a5 (64 + 32) c5) (p2 ++ d) := by
    have := Sl.of_own ho5
    unfold Bs
    rw [List.length_append, hml2, hsl]
    exact this
  go_wp2_with fail
  refine (rsum_calls _ _ _ (hG.kp0 hk5) hb5 (by rw [List.length_append]; omega)).mono ?_
  rintro e w6 ⟨v6, rfl, ho6, hk6⟩
  rw [← HDD.out] at ho6
  go_wp2_with fail
  go_ret2
  exact ⟨_, rfl, own_base ho6 (fun b hb => by have := (ho6.lt b hb).1; have := hk5.size; omega), hk5.trans hk6⟩

theorem rkey_long (s : ByteArray) (n : Int) (w : World) (hs : 200 < s.size) :
    Calls Tryd.prog 51 #[.string s, .int .i64 n] w fun e w' => e = .returned (.tuple #[.string ⟨#[]⟩, .int .i64 2]) ∧ w = w' := by
  have hd : decide ((200 : Int) < (s.size : Int)) = true := by rw [decide_eq_true_eq]; omega
  go_enter Tryd.func51, Tryd.ntmps51
  go_wp2
  go_ret2
  exact ⟨rfl, rfl⟩

theorem rkey_wide (s : ByteArray) (n : Int) (w : World) (hs : s.size ≤ 200) (hn : n < 0 ∨ 65535 < n) :
    Calls Tryd.prog 51 #[.string s, .int .i64 n] w fun e w' => e = .returned (.tuple #[.string ⟨#[]⟩, .int .i64 1]) ∧ w = w' := by
  have hd : decide ((200 : Int) < (s.size : Int)) = false := by rw [decide_eq_false_iff_not]; omega
  rcases Int.lt_or_le n 0 with h | h
  · have hd2 : decide (n < 0) = true := by rw [decide_eq_true_eq]; exact h
    clear hn
    go_enter Tryd.func51, Tryd.ntmps51
    go_wp2
    go_ret2
    exact ⟨rfl, rfl⟩
  · have hd2 : decide (n < 0) = false := by rw [decide_eq_false_iff_not]; omega
    have hd3 : decide (65535 < n) = true := by rw [decide_eq_true_eq]; omega
    clear hn
    go_enter Tryd.func51, Tryd.ntmps51
    go_wp2
    go_ret2
    exact ⟨rfl, rfl⟩

theorem rkey_calls (s : ByteArray) (n : Nat) (w : World) (hG : GR w) (hs : s.size ≤ 200) (hn : n ≤ 65535) :
    Calls Tryd.prog 51 #[.string s, .int .i64 n] w fun e w' => e = .returned (.tuple #[.string (keyOf s n), .int .i64 0]) ∧ Kp [] w w' := by
  obtain ⟨i0, hi, hz0, hz1, hz2⟩ := info_parts u8info
  have hd : decide ((200 : Int) < (s.size : Int)) = false := by rw [decide_eq_false_iff_not]; omega
  have hn0 : (0 : Int) ≤ n ∧ (n : Int) ≤ 65535 := by omega
  obtain ⟨hn1, hn2⟩ := hn0
  have hd2 : decide ((n : Int) < 0) = false := by rw [decide_eq_false_iff_not]; omega
  have hd3 : decide (65535 < (n : Int)) = false := by rw [decide_eq_false_iff_not]; omega
  have hcs := Lib.run_convert_bytes_const (P := Tryd.prog) w 23 5 #[.int .u8 100, .int .u8 101, .int .u8 118, .int .u8 105, .int .u8 99, .int .u8 101] 6 6 Tryd.underlying23 Tryd.underlying5
  simp only [List.size_toArray, List.length_cons, List.length_nil, Nat.zero_add, Nat.reduceAdd] at hcs
  go_enter Tryd.func51, Tryd.ntmps51
  go_wp2_with (with_reducible refine stop_app ?_)
  unfold Stop
  rw [dig2 n hn, dev6]
  have hoA := own_alloc w 5 [100, 101, 118, 105, 99, 101] 6 w.heap.size (6, 7) (.inr (by simp)) rfl (Nat.le_refl _) (by unfold maxLen; omega)
  have hkA := (Kp.refl [] w).alloc (.cells (bcells [100, 101, 118, 105, 99, 101]).toArray 5 (6, 7))
  have hoB := own_kp hoA ((Kp.refl [] _).alloc (.cells (bcells (dig n 2)).toArray 5)) (by simp)
  have hkB := hkA.alloc (.cells (bcells (dig n 2)).toArray 5)
  have hsB := bs_alloc (w.alloc (.cells (bcells [100, 101, 118, 105, 99, 101]).toArray 5 (6, 7))) 5 (dig n 2) _ rfl 2 (dig_length 2 n).symm
  rw [World.size_alloc] at hsB
  generalize w.alloc (.cells (bcells [100, 101, 118, 105, 99, 101]).toArray 5 (6, 7)) = wA at *
  generalize wA.alloc (.cells (bcells (dig n 2)).toArray 5) = wB at *
  refine wpList_app _ rfl _ _ 23 23 rfl w.heap.size 5 i0 _ 1 1 Tryd.underlying23 hi hz0 hz1 hz2 rfl (by omega) (.slice (some ⟨w.heap.size, 0, none⟩) 6 6) _ _ rfl hoB (.slice (some ⟨w.heap.size + 1, 0, none⟩) 2 2) 2 (bcells (dig n 2)) rfl (Src.of_sl Tryd.underlying23 hsB bcells_one) (by omega) (by omega) hkB.size ?_
  intro v1 w1 ho1 hg1 hx1
  rw [← bcells_append] at ho1
  have hk1 : Kp [] w w1 := hkB.grown hg1 (fun k hk => .inr (hoB.lt k hk).1)
  have hb1 : Bs w1 v1 (devOf n) := OB.bs ho1
  have hml := hmac_length s (devOf n)
  obtain ⟨a1, c1, rfl⟩ := own_form ho1
  go_wp2_with (first
    | (go_at_call 60; refine (rmac_calls s _ _ _ (hG.kp0 hk1) hs hb1 (by simp [devOf])).mono ?_; rintro e w2 ⟨v2, rfl, ho2, hk2⟩; have hcv := b2s (OB.bs ho2) 23 9 5 Tryd.underlying23 Tryd.underlying5 Tryd.underlying9))
  go_ret2
  exact ⟨rfl, hk1.trans hk2⟩

theorem rsecret_long (s : ByteArray) (n : Int) (w : World) (hs : 200 < s.size) :
    Calls Tryd.prog 30 #[.string s, .int .i64 n] w fun e w' => e = .returned (.tuple #[.string ⟨#[]⟩, .int .i64 2]) ∧ w = w' := by
  go_enter Tryd.func30, Tryd.ntmps30
  go_wp2_with (first
    | (go_at_call 51; (with_reducible refine (rkey_long s n _ hs).mono ?_); rintro e w3 ⟨rfl, rfl⟩))
  go_ret2
  exact ⟨rfl, rfl⟩
theorem rsecret_wide (s : ByteArray) (n : Int) (w : World) (hs : s.size ≤ 200) (hn : n < 0 ∨ 65535 < n) :
    Calls Tryd.prog 30 #[.string s, .int .i64 n] w fun e w' => e = .returned (.tuple #[.string ⟨#[]⟩, .int .i64 1]) ∧ w = w' := by
  go_enter Tryd.func30, Tryd.ntmps30
  go_wp2_with (first
    | (go_at_call 51; (with_reducible refine (rkey_wide s n _ hs hn).mono ?_); rintro e w3 ⟨rfl, rfl⟩))
  go_ret2
  exact ⟨rfl, rfl⟩
theorem rsecret_calls (s : ByteArray) (n : Nat) (w : World) (hG : GR w) (hs : s.size ≤ 200) (hn : n ≤ 65535) :
    Calls Tryd.prog 30 #[.string s, .int .i64 n] w fun e w' => e = .returned (.tuple #[.string (keyOf (keyOf s n) 0), .int .i64 0]) ∧ Kp [] w w' := by
  have h32 := keyOf_size s n
  go_enter Tryd.func30, Tryd.ntmps30
  go_wp2_with (first
    | (go_at_call 51; (with_reducible refine (rkey_calls s n _ hG hs hn).mono ?_); rintro e w1 ⟨rfl, hk1⟩)
    | (go_at_call 51; (refine (rkey_calls (keyOf s n) 0 _ (hG.kp0 hk1) (by omega) (by omega)).mono ?_); rintro e w2 ⟨rfl, hk2⟩))
  go_ret2
  exact ⟨rfl, hk1.trans hk2⟩
end Go.Proofs.YtddpefbpiehgeaaDoor

/- The reference's writer. -/
namespace Go.Proofs.YtddpefbpiehgeaaDoor
open Go Go.RowKit
set_option maxRecDepth 100000
set_option linter.unusedVariables false
set_option linter.unusedSectionVars false
set_option linter.unusedSimpArgs false

theorem rdigits_calls (n s : Int) (w : World) (h0 : 0 ≤ n) (h64 : n < 18446744073709551616) (h1 : 1 ≤ s) (h8 : s ≤ 8) :
    Calls Tryd.prog 94 #[.int .u64 n, .int .i64 s] w fun e w' => ∃ v, e = .returned v ∧ OB w' 5 w.heap.size v (dig n.toNat s.toNat) ∧ Kp [] w w' := by
  obtain ⟨i0, hi, hz0, hz1, hz2⟩ := info_parts u8info
  obtain ⟨K, rfl⟩ := Int.eq_ofNat_of_zero_le (show 0 ≤ s by omega)
  rw [Int.toNat_natCast]
  obtain ⟨N, hN⟩ : ∃ N, n.toNat = N := ⟨_, rfl⟩
  have HNN := Lib.hid hN
  rw [hN]
  clear hN
  have e1 : IntKind.i64.wrap ((K : Int) - 1) = K - 1 := IntWalk.i64_in _ (by omega)
  go_enter Tryd.func94, Tryd.ntmps94
  go_wp2
  clear e1
  go_loopw [5, 6] (fun v v4 wr => ∃ (k : Nat) (av : Option Addr) (c : Nat) (q : List UInt8), k ≤ 8 ∧ v4 = .int .i64 ((k : Int) - 1) ∧ v = .slice av q.length c ∧ OB wr 5 w.heap.size (.slice av q.length c) q ∧ q ++ dig N k = dig N K ∧ q.length + k = K ∧ Kp [] w wr) (fun _ v _ => (intOf v + 1).toNat)
  case atStart => exact ⟨K, none, 0, [], by omega, rfl, rfl, Own.nil _ _ _ _, rfl, by simp, Kp.refl _ _⟩
  case round =>
    as_aux_lemma =>
    obtain ⟨k, av, c, q, hk8, rfl, rfl, ho, hq, hql, hk⟩ := hrel
    obtain _ | k := k
    · have hq0 : q = dig N K := by rw [← hq]; simp [dig]
      have HQ0 := Lib.hid hq0
      clear hq0 hq
      go_wp2
      go_ret
      exact ⟨_, rfl, HQ0.out ▸ ho, hk⟩
    · have HQ := Lib.hid hq
      clear hq
      have hbyte : n / 2 ^ (8 * k) % 256 = ((UInt8.ofNat (N / 256 ^ k)).toNat : Int) := by
        rw [byte_shr _ h0, HNN.out]
      have hk8i : (k : Int) ≤ 7 := by omega
      go_wp2_with (with_reducible refine stop_app ?_)
      unfold Stop
      rw [hbyte]
      have hno := own_kp ho ((Kp.refl [] wr).alloc (.cells #[.int .u8 ((UInt8.ofNat (N / 256 ^ k)).toNat : Int)] 5)) (by simp)
      refine wpList_app _ rfl _ _ 23 23 rfl w.heap.size 5 i0 _ 1 1 Tryd.underlying23 hi hz0 hz1 hz2 rfl (by omega) (.slice av q.length c) _ _ rfl hno (.slice (some ⟨wr.heap.size, 0, none⟩) 1 1) 1 (bcells ([UInt8.ofNat (N / 256 ^ k)])) rfl (Src.of_sl Tryd.underlying23 (bs_alloc wr _ [UInt8.ofNat (N / 256 ^ k)] _ rfl 1 rfl) bcells_one) (by omega) (by omega) (by have := hk.size; simp; omega) ?_
      intro v3 w3 ho3 hg3 hx3
      have hk3 := (hk.alloc (.cells #[.int .u8 ((UInt8.ofNat (N / 256 ^ k)).toNat : Int)] 5)).grown hg3 (fun k hk => .inr (ho.lt k hk).1)
      obtain ⟨a3, c3, rfl⟩ := own_form ho3
      rw [← bcells_append] at ho3
      go_wp2
      go_roundw
      case measure => simp [intOf]
      case rel =>
        refine ⟨k, a3, c3, q ++ [UInt8.ofNat (N / 256 ^ k)], by omega, by simp, by simp, by simpa [OB] using ho3, ?_, by simp; omega, hk3⟩
        rw [List.append_assoc, List.singleton_append, ← dig_cons]
        exact HQ.out

theorem rfits_calls (n s : Int) (w : World) (h0 : 0 ≤ n) (h1 : 1 ≤ s) (h8 : s ≤ 8) (h9 : n ≤ 9223372036854775807) (hf : n.toNat < 256 ^ s.toNat) :
    Calls Tryd.prog 93 #[.int .i64 n, .int .i64 s] w fun e w' => e = .returned (.bool true) ∧ w = w' := by
  obtain ⟨K, rfl⟩ := Int.eq_ofNat_of_zero_le (show 0 ≤ s by omega)
  obtain ⟨N, rfl⟩ := Int.eq_ofNat_of_zero_le h0
  rw [Int.toNat_natCast, Int.toNat_natCast] at hf
  have HF := Lib.hid hf
  clear hf
  go_enter Tryd.func93, Tryd.ntmps93
  go_wp2
  go_loopw [0, 5] (fun v0 v5 wr => ∃ i m : Nat, i ≤ K ∧ v5 = .int .i64 i ∧ v0 = .int .i64 m ∧ m = N / 256 ^ i ∧ m ≤ 9223372036854775807 ∧ wr = w) (fun _ v _ => K - (intOf v).toNat)
  case atStart => exact ⟨0, N, by omega, rfl, rfl, by simp, by omega, rfl⟩
  case round =>
    as_aux_lemma =>
    obtain ⟨i, m, hiK, rfl, rfl, hm, hm9, rfl⟩ := hrel
    have HM := Lib.hid hm
    clear hm
    by_cases hlt : i < K
    · have hi8 : (i : Int) < 8 := by omega
      have hd : decide ((i : Int) < 8) = true := by rw [decide_eq_true_eq]; exact hi8
      have hq : IntKind.i64.wrap ((m : Int) / 256) = ((m / 256 : Nat) : Int) := by
        rw [show ((m / 256 : Nat) : Int) = (m : Int) / 256 by omega]
        exact IntWalk.i64_in _ (by omega)
      go_wp2
      go_roundw
      case measure => simp [intOf]; omega
      case rel => exact ⟨i + 1, m / 256, by omega, by go_num, by go_num, by rw [HM.out, Nat.div_div_eq_div_mul, Nat.pow_succ], by omega, by trivial⟩
    · have hz : m = 0 := by rw [HM.out, show i = K by omega]; exact Nat.div_eq_of_lt HF.out
      subst hz
      go_wp2
      go_ret
      exact ⟨rfl, rfl⟩

/-- The reference's writer at block p, of the call's own (from base on), with the bytes l; nothing was wrong. -/
def IsWR (w : World) (base p : Nat) (l : List UInt8) : Prop :=
  base ≤ p ∧ ∃ bv, w.heap[p]? = some (.cells #[bv, .bool false] 100 (0, 0)) ∧ OB w 5 base bv l ∧ bv.ownBlock ≠ some p
theorem IsWR.kp {S : List Nat} {w w' : World} {base p : Nat} {l : List UInt8} (h : IsWR w base p l) (hk : Kp S w w') (hS : ∀ s ∈ S, s < base) : IsWR w' base p l := by
  obtain ⟨hb, bv, hh, ho, hne⟩ := h
  exact ⟨hb, bv, hk.heap hh (fun hc => by have := hS p hc; omega), own_kp ho hk (fun b e hc => by have := hS b hc; have := (ho.lt b e).1; omega), hne⟩

theorem rput_calls (base p : Nat) (l m : List UInt8) (v : Value) (w : World) (hw : IsWR w base p l) (hlen : l.length + m.length ≤ 140737488355328) (hv : Bs w v m) (hB : base ≤ w.heap.size) :
    Calls Tryd.prog 92 #[.pointer (some ⟨p, 0, none⟩), .bool true, v] w fun e w' => e = .returned (.tuple #[]) ∧ IsWR w' base p (l ++ m) ∧ Below base w w' := by
  obtain ⟨hbp, bv, hh, ho, hne⟩ := hw
  obtain ⟨i0, hi, hz0, hz1, hz2⟩ := info_parts u8info
  obtain ⟨av, cv, rfl, -⟩ := Sl.form hv
  obtain ⟨a1, c1, rfl⟩ := own_form ho
  have hplt := lt_of_heap hh
  have hh_0 := cell_heap (w := w) (b := p) hh 0
  have hh_1 := cell_heap (w := w) (b := p) hh 1
  simp only [List.getElem?_toArray, List.getElem?_cons_zero, List.getElem?_cons_succ] at hh_0 hh_1
  have hf0 := free_heap hh 0
  have hlt := ho.lt
  go_enter Tryd.func92, Tryd.ntmps92
  go_wp2_with (with_reducible refine stop_app ?_)
  unfold Stop
  refine wpList_app _ rfl _ _ 23 23 rfl base 5 i0 _ 1 1 Tryd.underlying23 hi hz0 hz1 hz2 rfl (by omega) (.slice a1 l.length c1) _ _ rfl ho (.slice av m.length cv) m.length (bcells (m)) rfl (Src.of_sl Tryd.underlying23 hv bcells_one) (by omega) (by omega) hB ?_
  intro v2 w2 ho2 hg2 hx2
  have hk2 : Kp (Value.slice a1 l.length c1).ownBlock.toList w w2 := ((Kp.refl [] w).nil).grown hg2 (fun k hk => .inl (by simp [hk]))
  have hh2 := hk2.heap hh (by simpa using hne)
  have hne2 : v2.ownBlock ≠ some p := fun e => by
    rcases hx2 p e with h | h
    · exact hne h
    · omega
  rw [← bcells_append] at ho2
  obtain ⟨a2, c2, rfl⟩ := own_form ho2
  have hh2_0 := cell_heap (w := w2) (b := p) hh2 0
  have hh2_1 := cell_heap (w := w2) (b := p) hh2 1
  simp only [List.getElem?_toArray, List.getElem?_cons_zero, List.getElem?_cons_succ] at hh2_0 hh2_1
  have hf2 := free_heap hh2 0
  go_wp2
  go_end0
  refine ⟨rfl, ⟨hbp, _, heap_setCell_same _ _ _ _ _ _ hh2, ?_, hne2⟩, ?_⟩
  · have h3 := own_kp ho2 (S := [p]) ((Kp.refl [p] w2).setCell (.inl (by simp)) (p := ⟨p, 0, none⟩) (.slice a2 (l.length + m.length) c2)) (fun b hb => by
      simp only [List.mem_singleton]
      rintro rfl
      exact hne2 hb)
    unfold OB
    simpa using h3
  · refine (hk2.below hB (fun s hs => ?_)).setCell hbp _
    exact (hlt s (by simpa using hs)).1

theorem rnumber (base p : Nat) (l : List UInt8) (n s : Int) (w : World) (hw : IsWR w base p l) (hB : base ≤ w.heap.size) (hlen : l.length ≤ 100000000000000)
    (h0 : 0 ≤ n) (h9 : n ≤ 9223372036854775807) (h1 : 1 ≤ s) (h8 : s ≤ 8) (hf : n.toNat < 256 ^ s.toNat) :
    Calls Tryd.prog 61 #[.pointer (some ⟨p, 0, none⟩), .int .i64 n, .int .i64 s] w fun e w' => e = .returned (.tuple #[]) ∧ IsWR w' base p (l ++ dig n.toNat s.toNat) ∧ Below base w w' := by
  have Hf := Lib.hid hf
  clear hf
  have hw1 : IntKind.u64.wrap n = n := IntWalk.u64_in _ (by omega)
  have d1 : decide (s < 1) = false := by rw [decide_eq_false_iff_not]; omega
  have d2 : decide (8 < s) = false := by rw [decide_eq_false_iff_not]; omega
  have d3 : decide (n < 0) = false := by rw [decide_eq_false_iff_not]; omega
  have hl : (dig n.toNat s.toNat).length ≤ 8 := by simp; omega
  go_enter Tryd.func61, Tryd.ntmps61
  go_wp2_with (first
    | (go_at_call 93; refine (rfits_calls _ _ _ h0 h1 h8 h9 Hf.out).mono ?_; rintro e w' ⟨rfl, rfl⟩)
    | (go_at_call 94; refine (rdigits_calls _ _ _ h0 (by omega) h1 h8).mono ?_; rintro e w1 ⟨v, rfl, ho, hk⟩)
    | (go_at_call 92; refine (rput_calls base p l _ v _ (hw.kp hk (by simp)) (by omega) (OB.bs ho) (by have := hk.size; omega)).mono ?_; rintro e w2 ⟨rfl, hw2, hb2⟩))
  go_end0
  exact ⟨rfl, hw2, (hk.below hB (by simp)).trans hb2⟩

theorem rcount (base p : Nat) (l : List UInt8) (n : Int) (w : World) (hw : IsWR w base p l) (hB : base ≤ w.heap.size) (hlen : l.length ≤ 100000000000000)
    (h0 : 0 ≤ n) (hf : n ≤ 65535) :
    Calls Tryd.prog 62 #[.pointer (some ⟨p, 0, none⟩), .int .i64 n] w fun e w' => e = .returned (.tuple #[]) ∧ IsWR w' base p (l ++ dig n.toNat 2) ∧ Below base w w' := by
  go_enter Tryd.func62, Tryd.ntmps62
  go_wp2_with fail
  refine (rnumber base p l n 2 w hw hB hlen h0 (by omega) (by omega) (by omega) (by simp; omega)).mono ?_
  rintro e w1 ⟨rfl, hw1, hb1⟩
  go_wp2
  go_end0
  exact ⟨rfl, hw1, hb1⟩

theorem rtext (base p : Nat) (l : List UInt8) (s : ByteArray) (w : World) (hw : IsWR w base p l) (hB : base ≤ w.heap.size) (hlen : l.length ≤ 100000000000000) (hs : s.size ≤ 65535) :
    Calls Tryd.prog 63 #[.pointer (some ⟨p, 0, none⟩), .string s] w fun e w' => e = .returned (.tuple #[]) ∧ IsWR w' base p (l ++ (dig s.size 2 ++ s.data.toList)) ∧ Below base w w' := by
  obtain ⟨i0, hi, hz0, hz1, hz2⟩ := info_parts u8info
  have hsl : s.data.toList.length = s.size := by simp
  have hw1 : IntKind.u64.wrap (s.size : Int) = s.size := IntWalk.u64_in _ (by omega)
  have hd : decide ((s.size : Int) ≤ 65535) = true := by rw [decide_eq_true_eq]; omega
  go_enter Tryd.func63, Tryd.ntmps63
  go_wp2_with (first
    | (go_at_call 94; refine (rdigits_calls _ _ _ (by omega) (by omega) (by omega) (by omega)).mono ?_; rintro e w1 ⟨v, rfl, ho, hk⟩; obtain ⟨a1, c1, rfl⟩ := own_form ho; have hlt1 := ho.lt; have ho : Own w1 w.heap.size 5 1 (.slice a1 2 c1) 2 (bcells (dig s.size 2)) := ho)
    | (refine wpList_app _ rfl _ _ 23 9 rfl w.heap.size 5 i0 _ 1 1 Tryd.underlying23 hi hz0 hz1 hz2 rfl (by omega) (.slice a1 2 c1) 2 _ rfl ho _ s.size (byteCells s) rfl (Src.ofString _ Tryd.underlying9 s) (by omega) (by omega) hk.size ?_; intro v2 w2 ho2 hg2 hx2))
  have hk2 : Kp [] w w2 := hk.grown hg2 (fun k hk' => .inr (ho.lt k hk').1)
  rw [byteCells_eq, ← bcells_append] at ho2
  have hb2 : Bs w2 v2 (dig s.size 2 ++ s.data.toList) := by
    have := Sl.of_own ho2
    unfold Bs
    rw [List.length_append, dig_length, hsl]
    exact this
  refine (rput_calls base p l _ v2 w2 (hw.kp hk2 (by simp)) (by rw [List.length_append, dig_length, hsl]; omega) hb2 (by have := hk2.size; omega)).mono ?_
  rintro e w3 ⟨rfl, hw3, hb3⟩
  go_wp2
  go_end0
  exact ⟨rfl, hw3, (hk2.below hB (by simp)).trans hb3⟩
end Go.Proofs.YtddpefbpiehgeaaDoor

