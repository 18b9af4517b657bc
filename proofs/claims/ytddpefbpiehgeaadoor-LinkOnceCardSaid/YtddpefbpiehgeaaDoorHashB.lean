/- The digest: a block changes eight words. -/
import Derived.Test.YtddpefbpiehgeaaDoorHashA
namespace Go.Proofs.YtddpefbpiehgeaaDoor
open Go Go.RowKit
set_option maxRecDepth 100000
set_option linter.unusedVariables false
set_option linter.unusedSectionVars false
set_option linter.unusedSimpArgs false

theorem idx64 (L : List UInt32) (hL : L.length = 64) (n : Nat) (h : n < 64) (w : World) :
    (Instr.index 140 (.agg (arr L)) (.int .i64 n)).run Tryd.prog w = .ok (.int .u32 ((L.getD n 0).toNat : Int)) w := by
  have h1 : (0 : Int) ≤ (n : Int) ∧ (n : Int) < 64 := by omega
  have hs : (Tryd.prog.info? 133).map (·.size) = some 1 := by kernel_rfl
  obtain ⟨i, hi, hi2⟩ : ∃ i, Tryd.prog.info? 133 = some i ∧ i.size = 1 := by
    cases hq : Tryd.prog.info? 133 with
    | none => rw [hq] at hs; cases hs
    | some i => rw [hq] at hs; exact ⟨i, rfl, by simpa using hs⟩
  have hg : (arr L)[n]? = some (w32 L[n]) := arr_get L n (by omega)
  simp [Instr.index, asIntOf, run_underlying Tryd.underlying140, sizeOf, typeInfo, hi, hi2, h1, part, hg, hL, h, w32]

theorem size8 : (Tryd.prog.info? 135).map (·.size) = some 8 := by kernel_rfl

theorem vals_eq (x : W8) : x.vals = #[.int .u32 (x.a.toNat : Int), .int .u32 (x.b.toNat : Int), .int .u32 (x.c.toNat : Int), .int .u32 (x.d.toNat : Int), .int .u32 (x.e.toNat : Int), .int .u32 (x.f.toNat : Int), .int .u32 (x.g.toNat : Int), .int .u32 (x.h.toNat : Int)] := rfl

def firstLoop : Code → Option Code
  | .loop c => some c
  | .seq a b => match firstLoop a with
    | some c => some c
    | none => firstLoop b
  | .block _ c => firstLoop c
  | .scope c => firstLoop c
  | .cond _ a b => match firstLoop a with
    | some c => some c
    | none => firstLoop b
  | _ => none
/-- The code behind the first loop. -/
def lateLoop : Code → Option Code
  | .seq a b => match lateLoop b with
    | some c => some c
    | none => match firstLoop b with
      | some c => some c
      | none => lateLoop a
  | _ => none
noncomputable def chBody2 : Code := ((Tryd.f97.body.bind lateLoop).getD .skip)

set_option maxHeartbeats 1000000 in
theorem ch_loop2 (n0 : Nat) (w wr : World) (x X : W8) (Q0 : Exit → Act → World → Prop) (c0 c1 c3 c4 c6 c7 c8 c9 c10 c11 c12 c13 c14 c15 c16 c17 c18 c19 c20 c21 c22 c23 c24 c25 c26 c27 c28 c29 c30 c31 c32 c33 c34 c35 c36 c37 c38 c39 c40 c41 c42 c43 c44 c45 c46 c47 c48 c49 c50 c51 c52 c53 c54 c55 c56 c57 c58 c59 c60 c61 c62 c63 c64 c65 c66 c67 c68 c69 c70 c71 c72 c73 c74 c75 c76 c77 c78 c79 c80 c81 c82 c83 c84 c85 c86 c87 c88 c89 c90 c91 c92 c93 c94 c95 c96 c97 c98 c99 c100 c102 c103 c104 c105 c106 c107 c108 c109 c110 c111 c112 c113 : Value)
    (hn0 : w.heap.size = n0) (HHr : wr.heap[n0]? = some (.cells x.vals 135 (0, 0))) (HXr : wr.heap[n0 + 2]? = some (.cells X.vals 135 (0, 0)))
    (HRr : wr.heap[n0 + 1]? = some (.cells (W8.vals ⟨0, 0, 0, 0, 0, 0, 0, 0⟩) 135 (0, 0))) (hkr : Kp [] w wr)
    (hexit : ∀ (u14 u101 u102 u103 u104 u105 u106 u107 u108 u109 u110 u111 u112 : Value) (W : World), W.heap[n0]? = some (.cells (arr (add8 x X).list) 135 (0, 0)) → W.heap[n0 + 1]? = some (.cells (W8.vals ⟨0, 0, 0, 0, 0, 0, 0, 0⟩) 135 (0, 0)) → Kp [] w W →
      Q0 (.exit 2) ⟨List.toArray (c0 :: c1 :: (.pointer (some ⟨n0, 0, none⟩)) :: c3 :: c4 :: (.pointer (some ⟨n0 + 1 + 1, 0, none⟩)) :: c6 :: c7 :: c8 :: c9 :: c10 :: c11 :: c12 :: c13 :: u14 :: c15 :: c16 :: c17 :: c18 :: c19 :: c20 :: c21 :: c22 :: c23 :: c24 :: c25 :: c26 :: c27 :: c28 :: c29 :: c30 :: c31 :: c32 :: c33 :: c34 :: c35 :: c36 :: c37 :: c38 :: c39 :: c40 :: c41 :: c42 :: c43 :: c44 :: c45 :: c46 :: c47 :: c48 :: c49 :: c50 :: c51 :: c52 :: c53 :: c54 :: c55 :: c56 :: c57 :: c58 :: c59 :: c60 :: c61 :: c62 :: c63 :: c64 :: c65 :: c66 :: c67 :: c68 :: c69 :: c70 :: c71 :: c72 :: c73 :: c74 :: c75 :: c76 :: c77 :: c78 :: c79 :: c80 :: c81 :: c82 :: c83 :: c84 :: c85 :: c86 :: c87 :: c88 :: c89 :: c90 :: c91 :: c92 :: c93 :: c94 :: c95 :: c96 :: c97 :: c98 :: c99 :: c100 :: u101 :: u102 :: u103 :: u104 :: u105 :: u106 :: u107 :: u108 :: u109 :: u110 :: u111 :: u112 :: c113 :: []), []⟩ W) :
    Code.wp Tryd.prog (Code.loop chBody2) Q0 ⟨List.toArray (c0 :: c1 :: (.pointer (some ⟨n0, 0, none⟩)) :: c3 :: c4 :: (.pointer (some ⟨n0 + 1 + 1, 0, none⟩)) :: c6 :: c7 :: c8 :: c9 :: c10 :: c11 :: c12 :: c13 :: c14 :: c15 :: c16 :: c17 :: c18 :: c19 :: c20 :: c21 :: c22 :: c23 :: c24 :: c25 :: c26 :: c27 :: c28 :: c29 :: c30 :: c31 :: c32 :: c33 :: c34 :: c35 :: c36 :: c37 :: c38 :: c39 :: c40 :: c41 :: c42 :: c43 :: c44 :: c45 :: c46 :: c47 :: c48 :: c49 :: c50 :: c51 :: c52 :: c53 :: c54 :: c55 :: c56 :: c57 :: c58 :: c59 :: c60 :: c61 :: c62 :: c63 :: c64 :: c65 :: c66 :: c67 :: c68 :: c69 :: c70 :: c71 :: c72 :: c73 :: c74 :: c75 :: c76 :: c77 :: c78 :: c79 :: c80 :: c81 :: c82 :: c83 :: c84 :: c85 :: c86 :: c87 :: c88 :: c89 :: c90 :: c91 :: c92 :: c93 :: c94 :: c95 :: c96 :: c97 :: c98 :: c99 :: c100 :: (.int .i64 0) :: c102 :: c103 :: c104 :: c105 :: c106 :: c107 :: c108 :: c109 :: c110 :: c111 :: c112 :: c113 :: []), []⟩ wr := by
  conv => arg 2; arg 1; whnf
  have HN0 := Lib.hid hn0
  clear hn0
  go_loopw [101] (fun v101 wr => ∃ i : Nat, i ≤ 8 ∧ v101 = .int .i64 i ∧ wr.heap[n0]? = some (.cells (arr (half8 x X i)) 135 (0, 0)) ∧ wr.heap[n0 + 2]? = some (.cells X.vals 135 (0, 0)) ∧
    wr.heap[n0 + 1]? = some (.cells (W8.vals ⟨0, 0, 0, 0, 0, 0, 0, 0⟩) 135 (0, 0)) ∧ Kp [] w wr) (fun v101 _ => 8 - (intOf v101).toNat)
  case atStart => exact ⟨0, by omega, rfl, by rw [half8_zero]; exact HHr, HXr, HRr, hkr⟩
  case round =>
    obtain ⟨i, hi, rfl, HHi, HXi, HRi, hki⟩ := hrel
    have hsi := lt_of_heap HXi
    by_cases hlt8 : i < 8
    · have c1 : wr.cell? ⟨n0, i, none⟩ = some (w32 (x.list.getD i 0)) := by
        rw [cell_heap HHi, arr_get _ _ (by rw [half8_length _ _ _ hi]; exact hlt8), half8_at _ _ _ hlt8]
      have c2 : wr.cell? ⟨n0 + 2, i, none⟩ = some (w32 (X.list.getD i 0)) := by
        rw [cell_heap HXi]
        have h8 : i < X.list.length := hlt8
        have := arr_get X.list i h8
        rw [W8.vals, this]
        simp [h8]
      have f1 := free_heap HHi i
      have hset8 := half8_set x X i hlt8
      generalize x.list.getD i 0 = xi at *
      generalize X.list.getD i 0 = yi at *
      have HS8 := Lib.hid hset8
      clear hset8
      unfold w32 at c1 c2
      have i0 : (0 : Int) ≤ i := by omega
      have i8 : (i : Int) < 8 := by omega
      go_wp2
      have hS : Gr wr [n0, n0 + 2] wr.drew := Gr.of (fun _ _ => rfl)
      refine wp_plan (.H 0 (.H 1 (.H 2 (.H 3 (.H 4 (.H 5 (.E 6 false (.E 7 false (.E 8 false .Z))))))))) (Gr wr [n0, n0 + 2]) (by as_aux_lemma => kernel_rfl) (by as_aux_lemma => kernel_rfl) ?_
      repeat (first | (refine plan_H rfl hS (fun K hK => ?_); go_simp; refine hK _ ?_; clear hK K) | (refine plan_E rfl (fun K hK => ?_); go_simp; (first | refine hK _ _ (fun _ => hS) ?_ | refine hK _ _ nofun ?_); clear hK K))
      refine plan_Z ?_
      rw [u32_add_v]
      clear hS c1 c2 f1
      go_wp2
      go_roundw
      case measure => simp [intOf]; omega
      case rel =>
        refine ⟨i + 1, by omega, by go_num, ?_, ?_, ?_, (hki.setCell (.inr (Nat.le_of_eq HN0.out)) _).drew⟩
        · rw [u32_add_m, hdrew, heap_set _ HHi]
          have := arr_set (half8 x X i) i (xi + yi)
          unfold w32 at this
          rw [this, HS8.out]
        · rw [hdrew, hset _ _ _ _ (by simp)]; exact HXi
        · rw [hdrew, hset _ _ _ _ (by simp)]; exact HRi
    · obtain rfl : i = 8 := by omega
      rw [half8_full] at HHi
      go_wp2
      exact hexit _ _ _ _ _ _ _ _ _ _ _ _ _ _ HHi HRi hki


set_option maxHeartbeats 1000000 in
theorem changed_aux (x Z : W8) (v : Value) (b : List UInt8) (L : List UInt32) (w : World) (hG : GH w) (hb : Bs w v b) (hl : b.length = 64) (HLe : Hid (spr b 64 = L)) (HZ : Hid (Z = add8 x (rounds kW L x 64))) :
    Calls Tryd.prog 97 #[.agg x.vals, v] w fun e w' => e = .returned (.agg Z.vals) ∧ Kp [] w w' := by
  have hv : x.vals = #[.int .u32 (x.a.toNat : Int), .int .u32 (x.b.toNat : Int), .int .u32 (x.c.toNat : Int), .int .u32 (x.d.toNat : Int), .int .u32 (x.e.toNat : Int), .int .u32 (x.f.toNat : Int), .int .u32 (x.g.toNat : Int), .int .u32 (x.h.toNat : Int)] := rfl
  have HL := Lib.hid hl
  clear hl
  have hspr : (spr b 64).length = 64 := spr_length b 64
  rw [HLe.out] at hspr
  have HS := Lib.hid hspr
  clear hspr
  rw [hv]
  go_enter Tryd.func97, Tryd.ntmps97
  go_wp2_with fail
  have hk0 : Kp [] w (((w.alloc (.cells x.vals 135)).alloc (.cells (W8.vals ⟨0, 0, 0, 0, 0, 0, 0, 0⟩) 135)).alloc (.cells x.vals 135)) := (((Kp.refl [] w).alloc _).alloc _).alloc _
  refine (spread_t v b _ (hb.kp0 hk0) HL.out).mono ?_
  rintro e w1 ⟨rfl, hk1⟩
  have HH : w1.heap[w.heap.size]? = some (.cells x.vals 135 (0, 0)) := hk1.heap (by simp only [halloc, World.size_alloc]; simp) (by simp)
  have HX : w1.heap[w.heap.size + 2]? = some (.cells (rounds kW (spr b 64) x 0).vals 135 (0, 0)) := hk1.heap (by simp only [halloc, World.size_alloc]; simp; rfl) (by simp)
  have HR : w1.heap[w.heap.size + 1]? = some (.cells (W8.vals ⟨0, 0, 0, 0, 0, 0, 0, 0⟩) 135 (0, 0)) := hk1.heap (by simp only [halloc, World.size_alloc]; simp) (by simp)
  have hkk := hk0.trans hk1
  have hGw := hG.kp0 hkk
  have hg4 := hG.size
  clear hk0 hk1 hG hb hv
  rw [HLe.out] at HX ⊢
  go_wp2
  go_loopw [18] (fun v18 wr => ∃ n : Nat, n ≤ 64 ∧ v18 = .int .i64 n ∧ wr.heap[w.heap.size]? = some (.cells x.vals 135 (0, 0)) ∧ wr.heap[w.heap.size + 2]? = some (.cells (rounds kW L x n).vals 135 (0, 0)) ∧
      wr.heap[w.heap.size + 1]? = some (.cells (W8.vals ⟨0, 0, 0, 0, 0, 0, 0, 0⟩) 135 (0, 0)) ∧ Kp [] w wr ∧ GH wr) (fun v18 _ => 64 - (intOf v18).toNat)
  case atStart => exact ⟨0, by omega, rfl, HH, HX, HR, hkk, hGw⟩
  case round =>
    obtain ⟨n, hn, rfl, HHr, HXr, HRr, hkr, hGr⟩ := hrel
    have hsr := lt_of_heap HXr
    by_cases hlt : n < 64
    · have hidx := idx64 L HS.out n hlt
      have hk : wr.cell? ⟨2, n, none⟩ = _ := hGr.rounds n hlt
      have hgs := hGr.size
      have hnext : rounds kW L x (n + 1) = rnd (rounds kW L x n) (kW.getD n 0) (L.getD n 0) := rfl
      generalize rounds kW L x n = X at *
      generalize kW.getD n 0 = kn at *
      generalize L.getD n 0 = ln at *
      have HY := Lib.hid hnext
      clear hnext
      rw [vals_eq X] at HXr
      have HXr_0 := cell_heap (w := wr) (b := (w.heap.size+2)) HXr 0
      have HXr_1 := cell_heap (w := wr) (b := (w.heap.size+2)) HXr 1
      have HXr_2 := cell_heap (w := wr) (b := (w.heap.size+2)) HXr 2
      have HXr_3 := cell_heap (w := wr) (b := (w.heap.size+2)) HXr 3
      have HXr_4 := cell_heap (w := wr) (b := (w.heap.size+2)) HXr 4
      have HXr_5 := cell_heap (w := wr) (b := (w.heap.size+2)) HXr 5
      have HXr_6 := cell_heap (w := wr) (b := (w.heap.size+2)) HXr 6
      have HXr_7 := cell_heap (w := wr) (b := (w.heap.size+2)) HXr 7
      simp only [List.getElem?_toArray, List.getElem?_cons_zero, List.getElem?_cons_succ] at HXr_0 HXr_1 HXr_2 HXr_3 HXr_4 HXr_5 HXr_6 HXr_7
      unfold w32 at hk
      have i0 : (0 : Int) ≤ n := by omega
      have i64 : (n : Int) < 64 := by omega
      go_wp2_with (go_at_call 102; first | ((with_reducible refine (rotk X.e 6 (-6) _ rfl (by omega) (by omega)).mono ?_); rintro e w' ⟨rfl, rfl⟩) | ((with_reducible refine (rotk X.e 11 (-11) _ rfl (by omega) (by omega)).mono ?_); rintro e w' ⟨rfl, rfl⟩) | ((with_reducible refine (rotk X.e 25 (-25) _ rfl (by omega) (by omega)).mono ?_); rintro e w' ⟨rfl, rfl⟩) | ((with_reducible refine (rotk X.a 2 (-2) _ rfl (by omega) (by omega)).mono ?_); rintro e w' ⟨rfl, rfl⟩) | ((with_reducible refine (rotk X.a 13 (-13) _ rfl (by omega) (by omega)).mono ?_); rintro e w' ⟨rfl, rfl⟩) | ((with_reducible refine (rotk X.a 22 (-22) _ rfl (by omega) (by omega)).mono ?_); rintro e w' ⟨rfl, rfl⟩))
      rw [big1_v]
      generalize hs1 : rotr X.e 6 ^^^ rotr X.e 11 ^^^ rotr X.e 25 = S1
      have HS1 := Lib.hid hs1
      clear hs1
      have hS : Gr wr [w.heap.size + 2, 2] wr.drew := Gr.of (fun _ _ => rfl)
      refine wp_plan (.H 0 (.H 1 (.H 2 (.H 3 (.H 4 (.H 5 (.H 6 (.H 7 (.H 8 (.H 9 (.H 10 (.H 11 (.H 12 (.H 13 (.H 14 (.H 15 (.H 16 (.H 17 (.H 18 (.E 19 true (.E 20 false (.E 21 false .Z)))))))))))))))))))))) (Gr wr [w.heap.size + 2, 2]) (by as_aux_lemma => kernel_rfl) (by as_aux_lemma => kernel_rfl) ?_
      repeat (first | (refine plan_H rfl hS (fun K hK => ?_); go_simp; refine hK _ ?_; clear hK K) | (refine plan_E rfl (fun K hK => ?_); go_simp; (first | refine hK _ _ (fun _ => hS) ?_ | refine hK _ _ nofun ?_); clear hK K))
      refine plan_Z ?_
      rw [t_v]
      generalize hT : X.h + S1 + ((X.e &&& X.f) ^^^ (~~~X.e &&& X.g)) + kn + ln = T
      have HT := Lib.hid hT
      clear hT hS hk hidx
      go_wp2_with (first
        | (go_at_call 102; first | ((with_reducible refine (rotk X.a 2 (-2) _ rfl (by omega) (by omega)).mono ?_); rintro e w' ⟨rfl, rfl⟩) | ((with_reducible refine (rotk X.a 13 (-13) _ rfl (by omega) (by omega)).mono ?_); rintro e w' ⟨rfl, rfl⟩) | ((with_reducible refine (rotk X.a 22 (-22) _ rfl (by omega) (by omega)).mono ?_); rintro e w' ⟨rfl, rfl⟩))
        | (refine wpList_store_row rfl 135 _ _ rfl (w.heap.size + 1 + 1) _ rfl rfl _ _ HXr size8 rfl ?_ ?_))
      · simp [Value.oneCell']
      go_roundw
      case measure => simp [intOf]; omega
      case rel =>
        rw [rnd_vals X kn ln S1 T HS1.out HT.out]
        have hrow := setRow_heap wr.drew (w.heap.size + 2) _ (rnd X kn ln).vals _ _ HXr
        have hoth : ∀ k, k ≠ w.heap.size + 2 → (wr.drew.setRow (w.heap.size + 2) (rnd X kn ln).vals).heap[k]? = wr.heap[k]? := fun k hk => setRow_other wr.drew _ k _ hk
        have hkf : Kp [w.heap.size + 2] wr (wr.drew.setRow (w.heap.size + 2) (rnd X kn ln).vals) := ⟨rfl, rfl, rfl, by simp only [World.setRow, Array.size_modify]; exact Nat.le_refl _, fun k _ hs => hoth k (by simpa using hs)⟩
        refine ⟨n + 1, by omega, by go_num, (hoth _ (by omega)).trans HHr, ?_, (hoth _ (by omega)).trans HRr, hkr.trans' hkf (by simp), hGr.kp hkf (by simp; omega)⟩
        rw [show rounds kW L x (n + 1) = rnd X kn ln from HY.out]
        exact hrow
    · have hd : decide ((n : Int) < 64) = false := by rw [decide_eq_false_iff_not]; omega
      have h64 : n = 64 := by omega
      have H64 := Lib.hid h64
      clear h64 hlt hn
      go_wp2
      have h64 := H64.out
      generalize hXe : rounds kW L x n = X at HXr
      have hZX : Z = add8 x X := by rw [HZ.out, ← hXe, h64]
      have HZX := Lib.hid hZX
      clear hXe hZX
      have hsz8 : (Tryd.prog.info? 135).map (·.size) = some (arr (add8 x X).list).size := by rw [show (arr (add8 x X).list).size = 8 from rfl]; exact size8
      have hone : (arr (add8 x X).list).all (·.oneCell') = true := by simp [arr, W8.list, w32, Value.oneCell']
      clear h64
      have Hsz8 := Lib.hid hsz8
      have Hone := Lib.hid hone
      clear hsz8 hone
      refine ch_loop2 w.heap.size w wr x X _ _ _ _ _ _ _ _ _ _ _ _ _ _ _ _ _ _ _ _ _ _ _ _ _ _ _ _ _ _ _ _ _ _ _ _ _ _ _ _ _ _ _ _ _ _ _ _ _ _ _ _ _ _ _ _ _ _ _ _ _ _ _ _ _ _ _ _ _ _ _ _ _ _ _ _ _ _ _ _ _ _ _ _ _ _ _ _ _ _ _ _ _ _ _ _ _ _ _ _ _ _ _ _ _ _ _ _ _ _ _ _ rfl HHr HXr HRr hkr (fun u14 u101 u102 u103 u104 u105 u106 u107 u108 u109 u110 u111 u112 W hH hR hK => ?_)
      have hrow := setRow_heap W (w.heap.size + 1) _ (arr (add8 x X).list) _ _ hR
      have hkf : Kp [] w (W.setRow (w.heap.size + 1) (arr (add8 x X).list)) := hK.trans' (T := [w.heap.size + 1]) ⟨rfl, rfl, rfl, by simp only [World.setRow, Array.size_modify]; exact Nat.le_refl _, fun k hk hs => setRow_other W (w.heap.size + 1) k _ (by simpa using hs)⟩ (by simp)
      go_wp2_with (first
        | (refine wpList_load_row rfl 135 _ rfl w.heap.size rfl _ _ _ _ hH Tryd.underlying135 rfl Hsz8.out ?_)
        | (refine wpList_store_row rfl 135 _ _ rfl (w.heap.size + 1) _ rfl rfl _ _ hR Hsz8.out ?_ Hone.out ?_))
      · rfl
      · go_wp2
        exact bodyPost_ret (v := .agg (arr (add8 x X).list)) (results_cell_row rfl _ _ (w.heap.size + 1) _ _ _ _ (by simp [Act.put]) hrow Tryd.underlying135 rfl Hsz8.out) (by simp [Act.put]) ⟨by rw [HZX.out]; rfl, hkf⟩

theorem changed_calls (x : W8) (v : Value) (b : List UInt8) (w : World) (hG : GH w) (hb : Bs w v b) (hl : b.length = 64) :
    Calls Tryd.prog 97 #[.agg x.vals, v] w fun e w' => e = .returned (.agg (chg kW x b).vals) ∧ Kp [] w w' :=
  changed_aux x (chg kW x b) v b (spr b 64) w hG hb hl (Lib.hid rfl) (Lib.hid rfl)
end Go.Proofs.YtddpefbpiehgeaaDoor
