/- The digest: a block changes eight words. -/
import Derived.Test.YtddpefbpiehgeaaDoorT00
import Derived.Test.YtddpefbpiehgeaaDoorProg
namespace Go.Proofs.YtddpefbpiehgeaaDoor
open Go Go.RowKit
set_option maxRecDepth 100000
set_option linter.unusedVariables false
set_option linter.unusedSectionVars false
set_option linter.unusedSimpArgs false

theorem idx64 (L : List UInt32) (hL : L.length = 64) (n : Nat) (h : n < 64) (w : World) :
    (Instr.index 140 (.agg (arr L)) (.int .i64 n)).run Tryd.prog w = .ok (.int .u32 ((L.getD n 0).toNat : Int)) w := by
  have h1 : (0 : Int) ≤ (n : Int) ∧ (n : Int) < 64 := by omega
  have hs : (Tryd.prog.info? 133).map (·.size) = some 1 := by kernel_rfl
  obtain ⟨i, hi, hi2⟩ : ∃ i, Tryd.prog.info? 133 = some i ∧ i.size = 1 := by
    cases hq : Tryd.prog.info? 133 with
    | none => rw [hq] at hs; cases hs
    | some i => rw [hq] at hs; exact ⟨i, rfl, by simpa using hs⟩
  have hg : (arr L)[n]? = some (w32 L[n]) := arr_get L n (by omega)
  simp [Instr.index, asIntOf, run_underlying Tryd.underlying140, sizeOf, typeInfo, hi, hi2, h1, part, hg, hL, h, w32]

theorem size8 : (Tryd.prog.info? 135).map (·.size) = some 8 := by kernel_rfl

theorem vals_eq (x : W8) : x.vals = #[.int .u32 (x.a.toNat : Int), .int .u32 (x.b.toNat : Int), .int .u32 (x.c.toNat : Int), .int .u32 (x.d.toNat : Int), .int .u32 (x.e.toNat : Int), .int .u32 (x.f.toNat : Int), .int .u32 (x.g.toNat : Int), .int .u32 (x.h.toNat : Int)] := rfl

def firstLoop : Code → Option Code
  | .loop c => some c
  | .seq a b => match firstLoop a with
    | some c => some c
    | none => firstLoop b
  | .block _ c => firstLoop c
  | .scope c => firstLoop c
  | .cond _ a b => match firstLoop a with
    | some c => some c
    | none => firstLoop b
  | _ => none
/-- The code behind the first loop. -/
def lateLoop : Code → Option Code
  | .seq a b => match lateLoop b with
    | some c => some c
    | none => match firstLoop b with
      | some c => some c
      | none => lateLoop a
  | _ => none
noncomputable def chBody2 : Code := ((Tryd.f97.body.bind lateLoop).getD .skip)

set_option maxHeartbeats 1000000 in
theorem ch_loop2 (n0 : Nat) (w wr : World) (x X : W8) (Q0 : Exit → Act → World → Prop) (c0 c1 c3 c4 c6 c7 c8 c9 c10 c11 c12 c13 c14 c15 c16 c17 c18 c19 c20 c21 c22 c23 c24 c25 c26 c27 c28 c29 c30 c31 c32 c33 c34 c35 c36 c37 c38 c39 c40 c41 c42 c43 c44 c45 c46 c47 c48 c49 c50 c51 c52 c53 c54 c55 c56 c57 c58 c59 c60 c61 c62 c63 c64 c65 c66 c67 c68 c69 c70 c71 c72 c73 c74 c75 c76 c77 c78 c79 c80 c81 c82 c83 c84 c85 c86 c87 c88 c89 c90 c91 c92 c93 c94 c95 c96 c97 c98 c99 c100 c102 c103 c104 c105 c106 c107 c108 c109 c110 c111 c112 c113 : Value)
    (hn0 : w.heap.size = n0) (HHr : wr.heap[n0]? = some (.cells x.vals 135 (0, 0))) (HXr : wr.heap[n0 + 2]? = some (.cells X.vals 135 (0, 0)))
    (HRr : wr.heap[n0 + 1]? = some (.cells (W8.vals ⟨0, 0, 0, 0, 0, 0, 0, 0⟩) 135 (0, 0))) (hkr : Kp [] w wr)
    (hexit : ∀ (u14 u101 u102 u103 u104 u105 u106 u107 u108 u109 u110 u111 u112 : Value) (W : World), W.heap[n0]? = some (.cells (arr (add8 x X).list) 135 (0, 0)) → W.heap[n0 + 1]? = some (.cells (W8.vals ⟨0, 0, 0, 0, 0, 0, 0, 0⟩) 135 (0, 0)) → Kp [] w W →
      Q0 (.exit 2) ⟨List.toArray (c0 :: c1 :: (.pointer (some ⟨n0, 0, none⟩)) :: c3 :: c4 :: (.pointer (some ⟨n0 + 1 + 1, 0, none⟩)) :: c6 :: c7 :: c8 :: c9 :: c10 :: c11 :: c12 :: c13 :: u14 :: c15 :: c16 :: c17 :: c18 :: c19 :: c20 :: c21 :: c22 :: c23 :: c24 :: c25 :: c26 :: c27 :: c28 :: c29 :: c30 :: c31 :: c32 :: c33 :: c34 :: c35 :: c36 :: c37 :: c38 :: c39 :: c40 :: c41 :: c42 :: c43 :: c44 :: c45 :: c46 :: c47 :: c48 :: c49 :: c50 :: c51 :: c52 :: c53 :: c54 :: c55 :: c56 :: c57 :: c58 :: c59 :: c60 :: c61 :: c62 :: c63 :: c64 :: c65 :: c66 :: c67 :: c68 :: c69 :: c70 :: c71 :: c72 :: c73 :: c74 :: c75 :: c76 :: c77 :: c78 :: c79 :: c80 :: c81 :: c82 :: c83 :: c84 :: c85 :: c86 :: c87 :: c88 :: c89 :: c90 :: c91 :: c92 :: c93 :: c94 :: c95 :: c96 :: c97 :: c98 :: c99 :: c100 :: u101 :: u102 :: u103 :: u104 :: u105 :: u106 :: u107 :: u108 :: u109 :: u110 :: u111 :: u112 :: c113 :: []), []⟩ W) :
    Code.wp Tryd.prog (Code.loop chBody2) Q0 ⟨List.toArray (c0 :: c1 :: (.pointer (some ⟨n0, 0, none⟩)) :: c3 :: c4 :: (.pointer (some ⟨n0 + 1 + 1, 0, none⟩)) :: c6 :: c7 :: c8 :: c9 :: c10 :: c11 :: c12 :: c13 :: c14 :: c15 :: c16 :: c17 :: c18 :: c19 :: c20 :: c21 :: c22 :: c23 :: c24 :: c25 :: c26 :: c27 :: c28 :: c29 :: c30 :: c31 :: c32 :: c33 :: c34 :: c35 :: c36 :: c37 :: c38 :: c39 :: c40 :: c41 :: c42 :: c43 :: c44 :: c45 :: c46 :: c47 :: c48 :: c49 :: c50 :: c51 :: c52 :: c53 :: c54 :: c55 :: c56 :: c57 :: c58 :: c59 :: c60 :: c61 :: c62 :: c63 :: c64 :: c65 :: c66 :: c67 :: c68 :: c69 :: c70 :: c71 :: c72 :: c73 :: c74 :: c75 :: c76 :: c77 :: c78 :: c79 :: c80 :: c81 :: c82 :: c83 :: c84 :: c85 :: c86 :: c87 :: c88 :: c89 :: c90 :: c91 :: c92 :: c93 :: c94 :: c95 :: c96 :: c97 :: c98 :: c99 :: c100 :: (.int .i64 0) :: c102 :: c103 :: c104 :: c105 :: c106 :: c107 :: c108 :: c109 :: c110 :: c111 :: c112 :: c113 :: []), []⟩ wr := by
  conv => arg 2; arg 1; whnf
  have HN0 := Lib.hid hn0
  clear hn0
  go_loopw [101] (fun v101 wr => ∃ i : Nat, i ≤ 8 ∧ v101 = .int .i64 i ∧ wr.heap[n0]? = some (.cells (arr (half8 x X i)) 135 (0, 0)) ∧ wr.heap[n0 + 2]? = some (.cells X.vals 135 (0, 0)) ∧
    wr.heap[n0 + 1]? = some (.cells (W8.vals ⟨0, 0, 0, 0, 0, 0, 0, 0⟩) 135 (0, 0)) ∧ Kp [] w wr) (fun v101 _ => 8 - (intOf v101).toNat)
  case atStart => exact ⟨0, by omega, rfl, by rw [half8_zero]; exact HHr, HXr, HRr, hkr⟩
  case round =>
    obtain ⟨i, hi, rfl, HHi, HXi, HRi, hki⟩ := hrel
    have hsi := lt_of_heap HXi
    by_cases hlt8 : i < 8
    · have c1 : wr.cell? ⟨n0, i, none⟩ = some (w32 (x.list.getD i 0)) := by
        rw [cell_heap HHi, arr_get _ _ (by rw [half8_length _ _ _ hi]; exact hlt8), half8_at _ _ _ hlt8]
      have c2 : wr.cell? ⟨n0 + 2, i, none⟩ = some (w32 (X.list.getD i 0)) := by
        rw [cell_heap HXi]
        have h8 : i < X.list.length := hlt8
        have := arr_get X.list i h8
        rw [W8.vals, this]
        simp [h8]
      have f1 := free_heap HHi i
      have hset8 := half8_set x X i hlt8
      generalize x.list.getD i 0 = xi at *
      generalize X.list.getD i 0 = yi at *
      have HS8 := Lib.hid hset8
      clear hset8
      unfold w32 at c1 c2
      have i0 : (0 : Int) ≤ i := by omega
      have i8 : (i : Int) < 8 := by omega
      go_wp2
      have hS : Gr wr [n0, n0 + 2] wr.drew := Gr.of (fun _ _ => rfl)
      refine wp_plan (.H 0 (.H 1 (.H 2 (.H 3 (.H 4 (.H 5 (.E 6 false (.E 7 false (.E 8 false .Z))))))))) (Gr wr [n0, n0 + 2]) (by as_aux_lemma => kernel_rfl) (by as_aux_lemma => kernel_rfl) ?_
      repeat (first | (refine plan_H rfl hS (fun K hK => ?_); go_simp; refine hK _ ?_; clear hK K) | (refine plan_E rfl (fun K hK => ?_); go_simp; (first | refine hK _ _ (fun _ => hS) ?_ | refine hK _ _ nofun ?_); clear hK K))
      refine plan_Z ?_
      rw [u32_add_v]
      clear hS c1 c2 f1
      go_wp2
      go_roundw
      case measure => simp [intOf]; omega
      case rel =>
        refine ⟨i + 1, by omega, by go_num, ?_, ?_, ?_, (hki.setCell (.inr (Nat.le_of_eq HN0.out)) _).drew⟩
        · rw [u32_add_m, hdrew, heap_set _ HHi]
          have := arr_set (half8 x X i) i (xi + yi)
          unfold w32 at this
          rw [this, HS8.out]
        · rw [hdrew, hset _ _ _ _ (by simp)]; exact HXi
        · rw [hdrew, hset _ _ _ _ (by simp)]; exact HRi
    · obtain rfl : i = 8 := by omega
      rw [half8_full] at HHi
      go_wp2
      exact hexit _ _ _ _ _ _ _ _ _ _ _ _ _ _ HHi HRi hki


set_option maxHeartbeats 1000000 in
theorem changed_aux (x Z : W8) (v : Value) (b : List UInt8) (L : List UInt32) (w : World) (hG : GH w) (hb : Bs w v b) (hl : b.length = 64) (HLe : Hid (spr b 64 = L)) (HZ : Hid (Z = add8 x (rounds kW L x 64))) :
    Calls Tryd.prog 97 #[.agg x.vals, v] w fun e w' => e = .returned (.agg Z.vals) ∧ Kp [] w w' := by
  have hv : x.vals = #[.int .u32 (x.a.toNat : Int), .int .u32 (x.b.toNat : Int), .int .u32 (x.c.toNat : Int), .int .u32 (x.d.toNat : Int), .int .u32 (x.e.toNat : Int), .int .u32 (x.f.toNat : Int), .int .u32 (x.g.toNat : Int), .int .u32 (x.h.toNat : Int)] := rfl
  have HL := Lib.hid hl
  clear hl
  have hspr : (spr b 64).length = 64 := spr_length b 64
  rw [HLe.out] at hspr
  have HS := Lib.hid hspr
  clear hspr
  rw [hv]
  go_enter Tryd.func97, Tryd.ntmps97
  go_wp2_with fail
  have hk0 : Kp [] w (((w.alloc (.cells x.vals 135)).alloc (.cells (W8.vals ⟨0, 0, 0, 0, 0, 0, 0, 0⟩) 135)).alloc (.cells x.vals 135)) := (((Kp.refl [] w).alloc _).alloc _).alloc _
  refine (spread_t v b _ (hb.kp0 hk0) HL.out).mono ?_
  rintro e w1 ⟨rfl, hk1⟩
  have HH : w1.heap[w.heap.size]? = some (.cells x.vals 135 (0, 0)) := hk1.heap (by simp only [halloc, World.size_alloc]; simp) (by simp)
  have HX : w1.heap[w.heap.size + 2]? = some (.cells (rounds kW (spr b 64) x 0).vals 135 (0, 0)) := hk1.heap (by simp only [halloc, World.size_alloc]; simp; rfl) (by simp)
  have HR : w1.heap[w.heap.size + 1]? = some (.cells (W8.vals ⟨0, 0, 0, 0, 0, 0, 0, 0⟩) 135 (0, 0)) := hk1.heap (by simp only [halloc, World.size_alloc]; simp) (by simp)
  have hkk := hk0.trans hk1
  have hGw := hG.kp0 hkk
  have hg4 := hG.size
  clear hk0 hk1 hG hb hv
  rw [HLe.out] at HX ⊢
  go_wp2
  go_loopw [18] (fun v18 wr => ∃ n : Nat, n ≤ 64 ∧ v18 = .int .i64 n ∧ wr.heap[w.heap.size]? = some (.cells x.vals 135 (0, 0)) ∧ wr.heap[w.heap.size + 2]? = some (.cells (rounds kW L x n).vals 135 (0, 0)) ∧
      wr.heap[w.heap.size + 1]? = some (.cells (W8.vals ⟨0, 0, 0, 0, 0, 0, 0, 0⟩) 135 (0, 0)) ∧ Kp [] w wr ∧ GH wr) (fun v18 _ => 64 - (intOf v18).toNat)
  case atStart => exact ⟨0, by omega, rfl, HH, HX, HR, hkk, hGw⟩
  case round =>
    obtain ⟨n, hn, rfl, HHr, HXr, HRr, hkr, hGr⟩ := hrel
    have hsr := lt_of_heap HXr
    by_cases hlt : n < 64
    · have hidx := idx64 L HS.out n hlt
      have hk : wr.cell? ⟨2, n, none⟩ = _ := hGr.rounds n hlt
      have hgs := hGr.size
      have hnext : rounds kW L x (n + 1) = rnd (rounds kW L x n) (kW.getD n 0) (L.getD n 0) := rfl
      generalize rounds kW L x n = X at *
      generalize kW.getD n 0 = kn at *
      generalize L.getD n 0 = ln at *
      have HY := Lib.hid hnext
      clear hnext
      rw [vals_eq X] at HXr
      have HXr_0 := cell_heap (w := wr) (b := (w.heap.size+2)) HXr 0
      have HXr_1 := cell_heap (w := wr) (b := (w.heap.size+2)) HXr 1
      have HXr_2 := cell_heap (w := wr) (b := (w.heap.size+2)) HXr 2
      have HXr_3 := cell_heap (w := wr) (b := (w.heap.size+2)) HXr 3
      have HXr_4 := cell_heap (w := wr) (b := (w.heap.size+2)) HXr 4
      have HXr_5 := cell_heap (w := wr) (b := (w.heap.size+2)) HXr 5
      have HXr_6 := cell_heap (w := wr) (b := (w.heap.size+2)) HXr 6
      have HXr_7 := cell_heap (w := wr) (b := (w.heap.size+2)) HXr 7
      simp only [List.getElem?_toArray, List.getElem?_cons_zero, List.getElem?_cons_succ] at HXr_0 HXr_1 HXr_2 HXr_3 HXr_4 HXr_5 HXr_6 HXr_7
      unfold w32 at hk
      have i0 : (0 : Int) ≤ n := by omega
      have i64 : (n : Int) < 64 := by omega
      go_wp2_with (go_at_call 102; first | ((with_reducible refine (rotk X.e 6 (-6) _ rfl (by omega) (by omega)).mono ?_); rintro e w' ⟨rfl, rfl⟩) | ((with_reducible refine (rotk X.e 11 (-11) _ rfl (by omega) (by omega)).mono ?_); rintro e w' ⟨rfl, rfl⟩) | ((with_reducible refine (rotk X.e 25 (-25) _ rfl (by omega) (by omega)).mono ?_); rintro e w' ⟨rfl, rfl⟩) | ((with_reducible refine (rotk X.a 2 (-2) _ rfl (by omega) (by omega)).mono ?_); rintro e w' ⟨rfl, rfl⟩) | ((with_reducible refine (rotk X.a 13 (-13) _ rfl (by omega) (by omega)).mono ?_); rintro e w' ⟨rfl, rfl⟩) | ((with_reducible refine (rotk X.a 22 (-22) _ rfl (by omega) (by omega)).mono ?_); rintro e w' ⟨rfl, rfl⟩))
      rw [big1_v]
      generalize hs1 : rotr X.e 6 ^^^ rotr X.e 11 ^^^ rotr X.e 25 = S1
      have HS1 := Lib.hid hs1
      clear hs1
      have hS : Gr wr [w.heap.size + 2, 2] wr.drew := Gr.of (fun _ _ => rfl)
      refine wp_plan (.H 0 (.H 1 (.H 2 (.H 3 (.H 4 (.H 5 (.H 6 (.H 7 (.H 8 (.H 9 (.H 10 (.H 11 (.H 12 (.H 13 (.H 14 (.H 15 (.H 16 (.H 17 (.H 18 (.E 19 true (.E 20 false (.E 21 false .Z)))))))))))))))))))))) (Gr wr [w.heap.size + 2, 2]) (by as_aux_lemma => kernel_rfl) (by as_aux_lemma => kernel_rfl) ?_
      repeat (first | (refine plan_H rfl hS (fun K hK => ?_); go_simp; refine hK _ ?_; clear hK K) | (refine plan_E rfl (fun K hK => ?_); go_simp; (first | refine hK _ _ (fun _ => hS) ?_ | refine hK _ _ nofun ?_); clear hK K))
      refine plan_Z ?_
      rw [t_v]
      generalize hT : X.h + S1 + ((X.e &&& X.f) ^^^ (~~~X.e &&& X.g)) + kn + ln = T
      have HT := Lib.hid hT
      clear hT hS hk hidx
      go_wp2_with (first
        | (go_at_call 102; first | ((with_reducible refine (rotk X.a 2 (-2) _ rfl (by omega) (by omega)).mono ?_); rintro e w' ⟨rfl, rfl⟩) | ((with_reducible refine (rotk X.a 13 (-13) _ rfl (by omega) (by omega)).mono ?_); rintro e w' ⟨rfl, rfl⟩) | ((with_reducible refine (rotk X.a 22 (-22) _ rfl (by omega) (by omega)).mono ?_); rintro e w' ⟨rfl, rfl⟩))
        | (refine wpList_store_row rfl 135 _ _ rfl (w.heap.size + 1 + 1) _ rfl rfl _ _ HXr size8 rfl ?_ ?_))
      · simp [Value.oneCell']
      go_roundw
      case measure => simp [intOf]; omega
      case rel =>
        rw [rnd_vals X kn ln S1 T HS1.out HT.out]
        have hrow := setRow_heap wr.drew (w.heap.size + 2) _ (rnd X kn ln).vals _ _ HXr
        have hoth : ∀ k, k ≠ w.heap.size + 2 → (wr.drew.setRow (w.heap.size + 2) (rnd X kn ln).vals).heap[k]? = wr.heap[k]? := fun k hk => setRow_other wr.drew _ k _ hk
        have hkf : Kp [w.heap.size + 2] wr (wr.drew.setRow (w.heap.size + 2) (rnd X kn ln).vals) := ⟨rfl, rfl, rfl, by simp only [World.setRow, Array.size_modify]; exact Nat.le_refl _, fun k _ hs => hoth k (by simpa using hs)⟩
        refine ⟨n + 1, by omega, by go_num, (hoth _ (by omega)).trans HHr, ?_, (hoth _ (by omega)).trans HRr, hkr.trans' hkf (by simp), hGr.kp hkf (by simp; omega)⟩
        rw [show rounds kW L x (n + 1) = rnd X kn ln from HY.out]
        exact hrow
    · have hd : decide ((n : Int) < 64) = false := by rw [decide_eq_false_iff_not]; omega
      have h64 : n = 64 := by omega
      have H64 := Lib.hid h64
      clear h64 hlt hn
      go_wp2
      have h64 := H64.out
      generalize hXe : rounds kW L x n = X at HXr
      have hZX : Z = add8 x X := by rw [HZ.out, ← hXe, h64]
      have HZX := Lib.hid hZX
      clear hXe hZX
      have hsz8 : (Tryd.prog.info? 135).map (·.size) = some (arr (add8 x X).list).size := by rw [show (arr (add8 x X).list).size = 8 from rfl]; exact size8
      have hone : (arr (add8 x X).list).all (·.oneCell') = true := by simp [arr, W8.list, w32, Value.oneCell']
      clear h64
      have Hsz8 := Lib.hid hsz8
      have Hone := Lib.hid hone
      clear hsz8 hone
      refine ch_loop2 w.heap.size w wr x X _ _ _ _ _ _ _ _ _ _ _ _ _ _ _ _ _ _ _ _ _ _ _ _ _ _ _ _ _ _ _ _ _ _ _ _ _ _ _ _ _ _ _ _ _ _ _ _ _ _ _ _ _ _ _ _ _ _ _ _ _ _ _ _ _ _ _ _ _ _ _ _ _ _ _ _ _ _ _ _ _ _ _ _ _ _ _ _ _ _ _ _ _ _ _ _ _ _ _ _ _ _ _ _ _ _ _ _ _ _ _ _ rfl HHr HXr HRr hkr (fun u14 u101 u102 u103 u104 u105 u106 u107 u108 u109 u110 u111 u112 W hH hR hK => ?_)
      have hrow := setRow_heap W (w.heap.size + 1) _ (arr (add8 x X).list) _ _ hR
      have hkf : Kp [] w (W.setRow (w.heap.size + 1) (arr (add8 x X).list)) := hK.trans' (T := [w.heap.size + 1]) ⟨rfl, rfl, rfl, by simp only [World.setRow, Array.size_modify]; exact Nat.le_refl _, fun k hk hs => setRow_other W (w.heap.size + 1) k _ (by simpa using hs)⟩ (by simp)
      go_wp2_with (first
        | (refine wpList_load_row rfl 135 _ rfl w.heap.size rfl _ _ _ _ hH Tryd.underlying135 rfl Hsz8.out ?_)
        | (refine wpList_store_row rfl 135 _ _ rfl (w.heap.size + 1) _ rfl rfl _ _ hR Hsz8.out ?_ Hone.out ?_))
      · rfl
      · go_wp2
        exact bodyPost_ret (v := .agg (arr (add8 x X).list)) (results_cell_row rfl _ _ (w.heap.size + 1) _ _ _ _ (by simp [Act.put]) hrow Tryd.underlying135 rfl Hsz8.out) (by simp [Act.put]) ⟨by rw [HZX.out]; rfl, hkf⟩

theorem changed_calls (x : W8) (v : Value) (b : List UInt8) (w : World) (hG : GH w) (hb : Bs w v b) (hl : b.length = 64) :
    Calls Tryd.prog 97 #[.agg x.vals, v] w fun e w' => e = .returned (.agg (chg kW x b).vals) ∧ Kp [] w w' :=
  changed_aux x (chg kW x b) v b (spr b 64) w hG hb hl (Lib.hid rfl) (Lib.hid rfl)
end Go.Proofs.YtddpefbpiehgeaaDoor

/- Plain: the digits of a number, the highest byte first. -/
namespace Go.Proofs.YtddpefbpiehgeaaDoor

/-- k bytes of n, the highest first. -/
def dig (n : Nat) : Nat → List UInt8
  | 0 => []
  | k + 1 => dig (n / 256) k ++ [UInt8.ofNat n]

@[simp] theorem dig_length : ∀ (k n : Nat), (dig n k).length = k
  | 0, _ => rfl
  | k + 1, n => by simp [dig, dig_length k]

theorem dig_cons (n : Nat) : ∀ k, dig n (k + 1) = UInt8.ofNat (n / 256 ^ k) :: dig n k := by
  intro k
  induction k generalizing n with
  | zero => simp [dig]
  | succ k ih =>
    rw [dig, ih (n / 256), dig]
    simp only [List.cons_append, List.cons.injEq, and_true]
    rw [Nat.div_div_eq_div_mul, Nat.pow_succ, Nat.mul_comm]

/-- The number that bytes spell. -/
def num : List UInt8 → Nat := List.foldl (fun n x => n * 256 + x.toNat) 0
theorem num_nil : num [] = 0 := rfl
theorem num_snoc (l : List UInt8) (x : UInt8) : num (l ++ [x]) = num l * 256 + x.toNat := by simp [num]
theorem num_lt : ∀ l : List UInt8, num l < 256 ^ l.length := by
  intro l
  rw [← List.reverse_reverse l]
  generalize l.reverse = m
  induction m with
  | nil => simp [num]
  | cons x m ih =>
    rw [List.reverse_cons, num_snoc]
    simp only [List.length_append, List.length_reverse, List.length_cons, List.length_nil, Nat.zero_add, Nat.pow_succ] at *
    have := x.toNat_lt
    omega
theorem num_lt2 (l : List UInt8) : num (l.take 2) < 65536 := by
  have h := num_lt (l.take 2)
  have h2 : (l.take 2).length ≤ 2 := List.length_take_le 2 l
  have h3 : 256 ^ (l.take 2).length ≤ 256 ^ 2 := Nat.pow_le_pow_right (by omega) h2
  omega
theorem num_dig (k n : Nat) (h : n < 256 ^ k) : num (dig n k) = n := by
  induction k generalizing n with
  | zero => simp at h; simp [dig, num, h]
  | succ k ih =>
    rw [dig, num_snoc, ih (n / 256) (by rw [Nat.pow_succ] at h; exact Nat.div_lt_of_lt_mul (by rw [Nat.mul_comm]; exact h))]
    simp
    omega
theorem dig_num (l : List UInt8) : dig (num l) l.length = l := by
  rw [← List.reverse_reverse l]
  generalize l.reverse = m
  induction m with
  | nil => simp [dig]
  | cons x m ih =>
    rw [List.reverse_cons, num_snoc]
    simp only [List.length_append, List.length_cons, List.length_nil, Nat.zero_add]
    rw [dig]
    have h1 : (num m.reverse * 256 + x.toNat) / 256 = num m.reverse := by have := x.toNat_lt; omega
    rw [h1, ih]
    congr 1
    simp
theorem byte_shr (n : Int) (h0 : 0 ≤ n) (i : Nat) : n / 2 ^ (8 * i) % 256 = ((UInt8.ofNat (n.toNat / 256 ^ i)).toNat : Int) := by
  obtain ⟨m, rfl⟩ := Int.eq_ofNat_of_zero_le h0
  rw [Int.toNat_natCast, show (UInt8.ofNat (m / 256 ^ i)).toNat = m / 256 ^ i % 256 from by simp, show 256 ^ i = 2 ^ (8 * i) from by rw [show (256 : Nat) = 2 ^ 8 from rfl, ← Nat.pow_mul]]
  simp
theorem dig_step (m k i : Nat) (h : i < k) : (List.replicate (k - i) (0 : UInt8) ++ dig m i).set (k - 1 - i) (UInt8.ofNat (m / 256 ^ i)) = List.replicate (k - (i + 1)) 0 ++ dig m (i + 1) := by
  obtain ⟨j, rfl⟩ : ∃ j, k = i + 1 + j := ⟨k - (i + 1), by omega⟩
  rw [show i + 1 + j - i = j + 1 by omega, show i + 1 + j - 1 - i = j by omega, show i + 1 + j - (i + 1) = j by omega, List.replicate_succ', dig_cons, List.append_assoc, List.set_append_right _ _ (by simp)]
  simp

/-- A reader's state, but for its bytes. -/
structure RS where
  at_ : Nat
  last : Nat
  code : Int
  fat : Int

def RS.fault (s : RS) (c : Int) : RS := { s with code := c, fat := s.at_ }
def RS.move (s : RS) (n : Nat) : RS := { s with at_ := s.at_ + n, last := s.at_ }

def rdNum (d : List UInt8) (k : Nat) (s : RS) : Nat × RS :=
  if s.code ≠ 0 then (0, s)
  else if d.length < k + s.at_ then (0, s.fault 10)
  else if 9223372036854775807 < num ((d.drop s.at_).take k) then (0, s.fault 11)
  else (num ((d.drop s.at_).take k), s.move k)

def rdCount (d : List UInt8) (most : Nat) (s : RS) : Nat × RS :=
  if s.code ≠ 0 then (0, s)
  else if d.length < 2 + s.at_ then (0, s.fault 10)
  else if most < num ((d.drop s.at_).take 2) then (0, s.fault 12)
  else (num ((d.drop s.at_).take 2), s.move 2)

def rdText (d : List UInt8) (most : Nat) (s : RS) : List UInt8 × RS :=
  if s.code ≠ 0 then ([], s)
  else if d.length < 2 + s.at_ then ([], s.fault 10)
  else if most < num ((d.drop s.at_).take 2) then ([], s.fault 12)
  else if d.length < num ((d.drop s.at_).take 2) + (s.at_ + 2) then ([], s.fault 10)
  else ((d.drop (s.at_ + 2)).take (num ((d.drop s.at_).take 2)), s.move (2 + num ((d.drop s.at_).take 2)))

def rdEnd (d : List UInt8) (s : RS) : RS := if s.code = 0 ∧ s.at_ < d.length then s.fault 13 else s
end Go.Proofs.YtddpefbpiehgeaaDoor

/- Plain: the digest, block by block. -/
namespace Go.Proofs.YtddpefbpiehgeaaDoor

/-- n blocks are taken in. -/
def absN (ks : List UInt32) : Nat → W8 → List UInt8 → W8 × List UInt8
  | 0, x, l => (x, l)
  | n + 1, x, l => absN ks n (chg ks x (l.take 64)) (l.drop 64)
/-- All whole blocks are taken in. -/
def absorb (ks : List UInt32) (x : W8) (l : List UInt8) : W8 × List UInt8 := absN ks (l.length / 64) x l

theorem absN_rest (ks : List UInt32) : ∀ n x l, (absN ks n x l).2 = l.drop (64 * n)
  | 0, _, _ => by simp [absN]
  | n + 1, x, l => by rw [absN, absN_rest ks n, List.drop_drop]; congr 1; omega
theorem absorb_rest (ks : List UInt32) (x : W8) (l : List UInt8) : (absorb ks x l).2.length = l.length % 64 := by
  rw [absorb, absN_rest, List.length_drop]; omega
theorem absN_succ (ks : List UInt32) : ∀ n x l, absN ks (n + 1) x l = (chg ks (absN ks n x l).1 ((absN ks n x l).2.take 64), (absN ks n x l).2.drop 64)
  | 0, x, l => rfl
  | n + 1, x, l => by rw [absN, absN_succ ks n]; rfl
theorem absN_add (ks : List UInt32) : ∀ m n x l, absN ks (m + n) x l = absN ks n (absN ks m x l).1 (absN ks m x l).2
  | 0, n, x, l => by simp [absN]
  | m + 1, n, x, l => by rw [show m + 1 + n = (m + n) + 1 by omega, absN, absN_add ks m n]; rfl
theorem absN_append (ks : List UInt32) : ∀ n x l b, 64 * n ≤ l.length → absN ks n x (l ++ b) = ((absN ks n x l).1, (absN ks n x l).2 ++ b)
  | 0, _, _, _, _ => rfl
  | n + 1, x, l, b, h => by
    rw [absN, absN, List.take_append_of_le_length (by omega), List.drop_append_of_le_length (by omega)]
    exact absN_append ks n _ _ b (by rw [List.length_drop]; omega)
theorem absorb_append (ks : List UInt32) (x : W8) (l b : List UInt8) : absorb ks x (l ++ b) = absorb ks (absorb ks x l).1 ((absorb ks x l).2 ++ b) := by
  have h1 := absorb_rest ks x l
  unfold absorb at h1 ⊢
  have h : (l ++ b).length / 64 = l.length / 64 + ((absN ks (l.length / 64) x l).2 ++ b).length / 64 := by
    rw [List.length_append, List.length_append, h1]; omega
  rw [h, absN_add, absN_append ks _ x l b (by omega)]

/-- What is put behind so many bytes. -/
def padOf (n : Nat) : List UInt8 := 128 :: (List.replicate ((119 - n % 64) % 64) 0 ++ dig (8 * n) 8)
theorem padOf_length (n : Nat) : (n + (padOf n).length) % 64 = 0 := by simp [padOf]; omega
theorem padOf_mod (n m : Nat) (h : n % 64 = m % 64) : padOf n = 128 :: (List.replicate ((119 - m % 64) % 64) 0 ++ dig (8 * n) 8) := by rw [padOf, h]

/-- Words as bytes. -/
def outOf (l : List UInt32) : List UInt8 := l.flatMap fun x => dig x.toNat 4
theorem outOf_length (l : List UInt32) : (outOf l).length = 4 * l.length := by
  induction l with
  | nil => rfl
  | cons x l ih => simp [outOf] at ih ⊢; omega
theorem outOf_snoc (l : List UInt32) (x : UInt32) : outOf (l ++ [x]) = outOf l ++ dig x.toNat 4 := by simp [outOf]

def startW (l : List UInt32) : W8 := ⟨l.getD 0 0, l.getD 1 0, l.getD 2 0, l.getD 3 0, l.getD 4 0, l.getD 5 0, l.getD 6 0, l.getD 7 0⟩
/-- The digest of bytes, out of the tables. -/
def digest (ks i : List UInt32) (l : List UInt8) : List UInt8 := outOf (absorb ks (startW i) (l ++ padOf l.length)).1.list
theorem digest_length (ks i : List UInt32) (l : List UInt8) : (digest ks i l).length = 32 := by simp [digest, outOf_length, W8.list]
end Go.Proofs.YtddpefbpiehgeaaDoor

/- The writer of pieces: the small functions, digits, put and what is put. -/
namespace Go.Proofs.YtddpefbpiehgeaaDoor
open Go Go.RowKit
set_option maxRecDepth 100000
set_option linter.unusedVariables false
set_option linter.unusedSimpArgs false

theorem u8info : (Tryd.prog.info? 5).map (fun i => (i.zero, i.size, i.bytes)) = some (some (.int .u8 0), 1, 1) := by kernel_rfl

def sizedB (n : Int) : Bool := decide (1 ≤ n) && decide (n ≤ 8)
theorem sized_calls (n : Int) (w : World) : Calls Tryd.prog 68 #[.int .i64 n] w fun e w' => e = .returned (.bool (sizedB n)) ∧ w = w' := by
  by_cases h1 : 1 ≤ n
  · go_enter Tryd.func68, Tryd.ntmps68
    go_wp2
    go_ret
    simp [sizedB, h1]
  · go_enter Tryd.func68, Tryd.ntmps68
    go_wp2
    go_ret
    have : decide (1 ≤ n) = false := by simpa using h1
    simp [sizedB, this]

theorem must_yes (w : World) : Calls Tryd.prog 86 #[.bool true] w fun e w' => e = .returned (.tuple #[]) ∧ w = w' := by
  go_enter Tryd.func86, Tryd.ntmps86
  go_wp2
  go_end0
  exact ⟨rfl, rfl⟩
theorem must_no (w : World) : Calls Tryd.prog 86 #[.bool false] w fun e w' => e = .panicked [{ v := .iface 28 (.int .i64 1), recovered := false }] ∧ w = w' := by
  go_enter Tryd.func86, Tryd.ntmps86
  go_wp2
  exact ⟨rfl, rfl, rfl⟩
theorem check_yes (c : Int) (w : World) : Calls Tryd.prog 67 #[.bool true, .int .i64 c] w fun e w' => e = .returned (.tuple #[]) ∧ w = w' := by
  go_enter Tryd.func67, Tryd.ntmps67
  go_wp2
  go_end0
  exact ⟨rfl, rfl⟩

set_option maxHeartbeats 400000 in
theorem digits_calls (n s : Int) (w : World) (h0 : 0 ≤ n) (h1 : 1 ≤ s) (h8 : s ≤ 8) :
    Calls Tryd.prog 88 #[.int .u64 n, .int .i64 s] w fun e w' => ∃ v, e = .returned v ∧ OB w' 5 w.heap.size v (dig n.toNat s.toNat) ∧ Kp [] w w' := by
  obtain ⟨i0, hi, hz0, hz1, hz2⟩ := info_parts u8info
  obtain ⟨k, rfl⟩ := Int.eq_ofNat_of_zero_le (show 0 ≤ s by omega)
  rw [Int.toNat_natCast]
  go_enter Tryd.func88, Tryd.ntmps88
  go_wp2_with (refine wpList_make_full _ rfl _ _ 23 rfl w.heap.size 5 i0 _ 1 Tryd.underlying23 hi hz0 hz1 .i64 .i64 k k k rfl rfl rfl rfl (by rw [hz2]; omega) (by unfold maxLen; omega) (Nat.le_refl _) ?_)
  intro w1 hown hg
  go_wp2
  go_loopw [11] (fun v wr => ∃ i : Nat, i ≤ k ∧ v = .int .i64 i ∧ OB wr 5 w.heap.size (.slice (some ⟨w.heap.size, 0, none⟩) k k) (List.replicate (k - i) 0 ++ dig n.toNat i) ∧ Kp [] w wr) (fun v _ => k - (intOf v).toNat)
  case atStart =>
    refine ⟨0, by omega, rfl, ?_, (Kp.refl [] w).grown hg nofun⟩
    have hl : (List.replicate (k - 0) (0 : UInt8) ++ dig n.toNat 0).length = k := by simp [dig]
    unfold OB
    rw [hl]
    refine cast ?_ (Own.of hown)
    congr 1
    simp [toList_madeCells_one, dig, bcells]
  case round =>
    obtain ⟨i, hik, rfl, ho, hk⟩ := hrel
    have hl : (List.replicate (k - i) (0 : UInt8) ++ dig n.toNat i).length = k := by simp; omega
    unfold OB at ho
    rw [hl] at ho
    by_cases hlt : i < k
    · have hc : wr.cell? ⟨w.heap.size, k - 1 - i, none⟩ = some (.int .u8 0) := by
        rw [ho.cellAt _ (by omega)]
        rw [bcells_append, List.getElem?_append_left (by simp; omega)]
        simp [bcells, show k - 1 - i < k - i by omega]
      have hf : wr.frozen? ⟨w.heap.size, k - 1 - i, none⟩ = false := ho.frozenAt _ (by omega)
      have hst := ho.stored (k - 1 - i) (.int .u8 (n / 2 ^ (8 * i) % 256))
      have Hl := Lib.hid hl
      clear hl
      go_wp2
      go_roundw
      case rel =>
        refine ⟨i + 1, by omega, by go_num, ?_, hk.setCell (.inr (Nat.le_refl _)) _⟩
        have h3 := hst
        rw [byte_shr n h0 i, ← bcells_set, dig_step _ _ _ hlt] at h3
        rw [byte_shr n h0 i]
        have hl2 : (List.replicate (k - (i + 1)) (0 : UInt8) ++ dig n.toNat (i + 1)).length = k := by simp; omega
        unfold OB
        rw [hl2]
        exact h3
      case measure => simp [intOf]; omega
    · go_wp2
      go_ret
      obtain rfl : i = k := by omega
      refine ⟨_, rfl, ?_, hk⟩
      unfold OB
      simpa using ho

theorem fits_calls (n s : Int) (w : World) (h0 : 0 ≤ n) (h1 : 1 ≤ s) (h8 : s ≤ 8) (h9 : n ≤ 9223372036854775807) (hf : n.toNat < 256 ^ s.toNat) :
    Calls Tryd.prog 87 #[.int .i64 n, .int .i64 s] w fun e w' => e = .returned (.bool true) ∧ w = w' := by
  by_cases h : s = 8
  · subst h
    clear hf
    go_enter Tryd.func87, Tryd.ntmps87
    go_wp2
    go_ret
    exact ⟨rfl, rfl⟩
  · have h' : ((s : Int) == 8) = false := by simpa using h
    have hz : ((n / 2 ^ (8 * s).toNat : Int) == 0) = true := by
      obtain ⟨m, rfl⟩ := Int.eq_ofNat_of_zero_le h0
      obtain ⟨k, rfl⟩ := Int.eq_ofNat_of_zero_le (show 0 ≤ s by omega)
      rw [Int.toNat_natCast, Int.toNat_natCast, show (256 : Nat) = 2 ^ 8 from rfl, ← Nat.pow_mul] at hf
      have : (8 * (k : Int)).toNat = 8 * k := by omega
      rw [this, beq_iff_eq]
      have h2 : m / 2 ^ (8 * k) = 0 := Nat.div_eq_of_lt hf
      exact_mod_cast h2
    clear hf h
    go_enter Tryd.func87, Tryd.ntmps87
    go_wp2
    go_ret
    exact ⟨rfl, rfl⟩

/-- A piece that is put: fresh bytes. -/
def Piece (B : Nat) (l : List UInt8) (w : World) (e : Ending) (w' : World) : Prop := ∃ v, e = .returned v ∧ OB w' 5 B v l ∧ Kp [] w w'

theorem num1_calls (n s : Int) (bn bs : Nat) (w : World) (hn : w.cell? ⟨bn, 0, none⟩ = some (.int .i64 n)) (hs : w.cell? ⟨bs, 0, none⟩ = some (.int .i64 s))
    (h0 : 0 ≤ n) (h9 : n ≤ 9223372036854775807) (h1 : 1 ≤ s) (h8 : s ≤ 8) (hf : n.toNat < 256 ^ s.toNat) :
    Calls Tryd.prog 85 #[.pointer (some ⟨bs, 0, none⟩), .pointer (some ⟨bn, 0, none⟩)] w (Piece w.heap.size (dig n.toNat s.toNat) w) := by
  have hz : sizedB s = true := by simp [sizedB, h1, h8]
  have Hz := Lib.hid hz
  have Hf := Lib.hid hf
  clear hz hf
  go_enter Tryd.func85, Tryd.ntmps85
  go_wp2_with (first
    | (go_at_call 68; refine (sized_calls _ _).mono ?_; rintro e w' ⟨rfl, rfl⟩; rw [Hz.out])
    | (go_at_call 87; refine (fits_calls _ _ _ h0 h1 h8 h9 Hf.out).mono ?_; rintro e w' ⟨rfl, rfl⟩)
    | (go_at_call 86; refine (must_yes _).mono ?_; rintro e w' ⟨rfl, rfl⟩)
    | (go_at_call 88; refine (digits_calls _ _ _ h0 h1 h8).mono ?_; rintro e w' ⟨v, rfl, ho, hk⟩))
  go_ret
  exact ⟨_, rfl, ho, hk⟩

theorem text1_calls (s : ByteArray) (b : Nat) (w : World) (hn : w.cell? ⟨b, 0, none⟩ = some (.string s)) (hb : b < w.heap.size) (hs : s.size ≤ 65535) :
    Calls Tryd.prog 89 #[.pointer (some ⟨b, 0, none⟩)] w (Piece w.heap.size (dig s.size 2 ++ s.data.toList) w) := by
  obtain ⟨i0, hi, hz0, hz1, hz2⟩ := info_parts u8info
  have hd : decide ((s.size : Int) ≤ 65535) = true := by rw [decide_eq_true_eq]; omega
  have hw : IntKind.u64.wrap (s.size : Int) = s.size := IntWalk.u64_in _ (by omega)
  go_enter Tryd.func89, Tryd.ntmps89
  go_wp2_with (first
    | (go_at_call 86; refine (must_yes _).mono ?_; rintro e w' ⟨rfl, rfl⟩))
  go_region_held3 (fun w' => w'.cell? ⟨b, 0, none⟩ = some (.string s)) (first | go_keep | (rw [hc _ _ hb]; exact hn) | (exact hg.cell ((hc _ _ hb).trans hn) (fun e => absurd (ho.lt _ e.symm).1 (Nat.not_le.2 hb))))
    (first
      | (go_at_call 88; refine (digits_calls _ _ _ (by omega) (by omega) (by omega)).mono ?_; rintro e w' ⟨v, rfl, ho, hk⟩; obtain ⟨hc, hf⟩ := hk.cells0)
      | (refine step_app _ rfl _ _ 23 9 rfl w.heap.size 5 i0 _ 1 1 Tryd.underlying23 hi hz0 hz1 hz2 rfl (by omega) v _ _ rfl ho _ s.size (byteCells s) rfl (Src.ofString _ Tryd.underlying9 s) (by simp; omega) (by simp; omega) hk.size ?_; intro v1 w1 ho1 hg hb1))
  go_wp2
  go_ret
  refine ⟨v1, rfl, ?_, (Kp.trans (b := w.drew) (Kp.refl [] w).drew hk).grown hg (fun b hb => .inr (ho.lt _ hb).1)⟩
  have := ho1
  unfold OB
  simp only [List.length_append, bcells_append, dig_length] at this ⊢
  rw [byteCells_eq] at this
  exact this

/-- A writer at block p, of the call's own (from base on), with the bytes l; nothing was wrong. -/
def IsWr (w : World) (base p : Nat) (l : List UInt8) : Prop :=
  base ≤ p ∧ ∃ bv, w.heap[p]? = some (.cells #[bv, .bool false] 124 (0, 0)) ∧ OB w 5 base bv l ∧ bv.ownBlock ≠ some p

theorem put_catch (x : Addr) (w : World) :
    CallsD Tryd.prog 98 #[.pointer (some x)] .returning w fun e u' w' => e = .returned (.tuple #[]) ∧ u' = .returning ∧ w = w' := by
  refine callsD_of_wpS Tryd.func98 rfl fun c₀ cs hu => ?_
  apply wpS_seq
  apply wpS_region
  simp [wpOpsS, go_sem, recoverD, hu, Tryd.ntmps98, Exit.thenS]
  refine wpS_of_wp ?_
  go_wp2
  cases c₀
  simp_all [bodyPostS, results, Tryd.results98]

theorem put_calls (base p fk : Nat) (caps : Array Value) (l m : List UInt8) (w : World) (hw : IsWr w base p l) (hlen : l.length + m.length ≤ 140737488355328)
    (hp : ∀ w', Kp [] w w' → Calls Tryd.prog fk caps w' (Piece w'.heap.size m w')) (hK : ∀ w, (callFunc fk caps).run Tryd.prog w = .ok (.enter fk caps) w) (hB : base ≤ w.heap.size) :
    Calls Tryd.prog 84 #[.pointer (some ⟨p, 0, none⟩), .func (.func fk) #[] caps] w fun e w' => e = .returned (.tuple #[]) ∧ IsWr w' base p (l ++ m) ∧ Below base w w' := by
  obtain ⟨hbp, bv, hh, ho, hne⟩ := hw
  obtain ⟨i0, hi, hz0, hz1, hz2⟩ := info_parts u8info
  have hplt := lt_of_heap hh
  have h0 := cell_heap hh 0
  have h1 := cell_heap hh 1
  have hf0 := free_heap hh 0
  simp only [List.getElem?_toArray, List.getElem?_cons_zero, List.getElem?_cons_succ] at h0 h1
  have hmf : ∀ (fn : Fn) (first cap : Array Value) (w : World), (Instr.makeFunc fn first cap).run Tryd.prog w = .ok (.func fn first cap) w := fun _ _ _ _ => rfl
  go_enter_defers Tryd.func84, Tryd.ntmps84
  go_wp2
  refine wp_plan (.H 0 (.H 1 (.H 2 (.H 3 (.H 4 (.H 5 (.E 6 true (.E 7 true (.H 8 (.H 9 (.E 10 false .Z))))))))))) (Gr (w.alloc (.cells #[.pointer (some ⟨p, 0, none⟩)] 93)) [p, w.heap.size]) (by kernel_rfl) (by kernel_rfl) ?_
  have hS : Gr (w.alloc (.cells #[.pointer (some ⟨p, 0, none⟩)] 93)) [p, w.heap.size] (w.alloc (.cells #[.pointer (some ⟨p, 0, none⟩)] 93)).drew := Gr.of (fun _ _ => rfl)
  iterate 6 (refine plan_H rfl hS (fun K hK => ?_); go_simp; refine hK _ ?_; clear hK K)
  have hlen' := ho.lt
  refine plan_E rfl (fun K hK => ?_)
  go_simp
  refine (hp _ ((Kp.refl [] w).alloc _).drew).mono ?_
  rintro e w1 ⟨v, rfl, ho1, hk1⟩
  have hk0 : Kp [] w w1 := (((Kp.refl [] w).alloc _).drew).trans hk1
  have hS1 : Gr (w.alloc (.cells #[.pointer (some ⟨p, 0, none⟩)] 93)) [p, w.heap.size] w1 := Gr.of (fun b hb => hk1.block b (by simp at hb ⊢; omega) (by simp))
  refine hK _ _ (fun _ => hS1) ?_
  clear hK K
  refine plan_E rfl (fun K hK => ?_)
  refine step_app _ rfl _ _ 23 23 rfl base 5 i0 _ 1 1 Tryd.underlying23 hi hz0 hz1 hz2 rfl (by omega) bv _ _ rfl (own_kp ho hk0 (by simp)) v _ _ rfl (Src.of_sl Tryd.underlying23 ho1.bs bcells_one) (by omega) (by omega) (by have := hk0.size; omega) ?_
  intro bv2 w2 ho2 hg2 hb2
  have hne2 : bv.ownBlock ≠ some w.heap.size := fun e => by have := (hlen' _ e).2; omega
  have hk2 : Kp bv.ownBlock.toList w w2 := hk0.nil.grown hg2 (fun k hk => .inl (by simp [hk]))
  have hS2 : Gr (w.alloc (.cells #[.pointer (some ⟨p, 0, none⟩)] 93)) [p, w.heap.size] w2 := Gr.of (fun b hb => by
    rw [hg2.block b (Nat.lt_of_lt_of_le (by simp at hb ⊢; omega) hk1.size) (by
      simp only [List.mem_cons, List.not_mem_nil, or_false] at hb
      rcases hb with rfl | rfl
      · exact fun e => hne e.symm
      · exact fun e => hne2 e.symm)]
    exact hk1.block b (by simp at hb ⊢; omega) (by simp))
  obtain ⟨a2, cap2, rfl⟩ := own_form ho2
  refine hK _ _ (fun _ => hS2) ?_
  clear hK K
  iterate 2 (refine plan_H rfl hS2 (fun K hK => ?_); go_simp; refine hK _ ?_; clear hK K)
  refine plan_E rfl (fun K hK => ?_)
  have hh2 : w2.heap[p]? = some (.cells #[bv, .bool false] 124 (0, 0)) := hk2.heap hh (by simpa using hne)
  have c2 := cell_heap hh2 0
  have f2 := free_heap hh2 0
  simp only [List.getElem?_toArray, List.getElem?_cons_zero] at c2
  go_simp
  refine hK _ _ nofun ?_
  clear hK K
  refine plan_Z ?_
  go_wp2
  refine leaves_cons (f := 98) (args := #[.pointer (some ⟨w.heap.size, 0, none⟩)]) (by simp) (by simp [go_sem]) ?_
  refine (put_catch _ _).mono ?_
  rintro e u' w'' ⟨rfl, rfl, rfl⟩
  have hp2 : (Value.slice a2 (l.length + m.length) cap2).ownBlock ≠ some p := fun e => by
    rcases hb2 _ e with h | h
    · exact hne h
    · have := hk0.size; omega
  have hb3 : ∀ b, (Value.slice a2 (l.length + m.length) cap2).ownBlock = some b → base ≤ b := fun b e => (ho2.lt b e).1
  refine ⟨_, results_none rfl _ _ _, rfl, ⟨hbp, _, heap_setCell_same _ _ _ _ _ _ hh2, ?_, hp2⟩, ?_⟩
  · have h3 := own_kp ho2 (S := [p]) ((Kp.refl [p] w2).setCell (.inl (by simp)) (p := ⟨p, 0, none⟩) (.slice a2 (l.length + m.length) cap2)) (fun b hb => by
      simp only [List.mem_singleton]
      rintro rfl
      exact hp2 hb)
    unfold OB
    simpa using h3
  · refine (hk2.below hB (fun s hs => ?_)).setCell hbp _
    exact (hlen' s (by simpa using hs)).1

theorem IsWr.kp {S : List Nat} {w w' : World} {base p : Nat} {l : List UInt8} (h : IsWr w base p l) (hk : Kp S w w') (hS : ∀ s ∈ S, s < base) : IsWr w' base p l := by
  obtain ⟨hb, bv, hh, ho, hne⟩ := h
  exact ⟨hb, bv, hk.heap hh (fun hc => by have := hS p hc; omega), own_kp ho hk (fun b e hc => by have := hS b hc; have := (ho.lt b e).1; omega), hne⟩

theorem newWriter_calls (w : World) : Calls Tryd.prog 55 #[] w fun e w' => ∃ p, e = .returned (.pointer (some ⟨p, 0, none⟩)) ∧ IsWr w' w.heap.size p [] ∧ Kp [] w w' := by
  go_enter Tryd.func55, Tryd.ntmps55
  go_wp2
  go_ret
  refine ⟨w.heap.size, rfl, ⟨Nat.le_refl _, _, heap_alloc_new _ _, Own.nil _ _ _ _, nofun⟩, (Kp.refl [] w).alloc _⟩

theorem number_calls (base p : Nat) (l : List UInt8) (n s : Int) (w : World) (hw : IsWr w base p l) (hB : base ≤ w.heap.size) (hlen : l.length ≤ 100000000000000)
    (h0 : 0 ≤ n) (h9 : n ≤ 9223372036854775807) (h1 : 1 ≤ s) (h8 : s ≤ 8) (hf : n.toNat < 256 ^ s.toNat) :
    Calls Tryd.prog 56 #[.pointer (some ⟨p, 0, none⟩), .int .i64 n, .int .i64 s] w fun e w' => e = .returned (.tuple #[]) ∧ IsWr w' base p (l ++ dig n.toNat s.toNat) ∧ Below base w w' := by
  have hmf : ∀ (fn : Fn) (first cap : Array Value) (w : World), (Instr.makeFunc fn first cap).run Tryd.prog w = .ok (.func fn first cap) w := fun _ _ _ _ => rfl
  have Hf := Lib.hid hf
  clear hf
  go_enter Tryd.func56, Tryd.ntmps56
  go_wp2_with fail
  refine (put_calls base p 85 _ l (dig n.toNat s.toNat) _ (hw.kp (((Kp.refl [] w).alloc _).alloc _) (by simp)) (by simp; omega) (fun w' hk => num1_calls n s _ _ w' ?_ ?_ h0 h9 h1 h8 Hf.out) (fun _ => by simp [go_sem]) (by simp; omega)).mono ?_
  · rw [hk.cells0.1 _ _ (by simp <;> omega)]; go_simp
  · rw [hk.cells0.1 _ _ (by simp)]; go_simp
  rintro e w1 ⟨rfl, hw1, hb1⟩
  go_wp2
  go_end0
  exact ⟨rfl, hw1, (((Below.refl base w).alloc hB _).alloc (by simp; omega) _).trans hb1⟩

theorem count_calls (base p : Nat) (l : List UInt8) (n : Int) (w : World) (hw : IsWr w base p l) (hB : base ≤ w.heap.size) (hlen : l.length ≤ 100000000000000)
    (h0 : 0 ≤ n) (hf : n ≤ 65535) :
    Calls Tryd.prog 57 #[.pointer (some ⟨p, 0, none⟩), .int .i64 n] w fun e w' => e = .returned (.tuple #[]) ∧ IsWr w' base p (l ++ dig n.toNat 2) ∧ Below base w w' := by
  go_enter Tryd.func57, Tryd.ntmps57
  go_wp2_with fail
  refine (number_calls base p l n 2 w hw hB hlen h0 (by omega) (by omega) (by omega) (by simp; omega)).mono ?_
  rintro e w1 ⟨rfl, hw1, hb1⟩
  go_wp2
  go_end0
  exact ⟨rfl, hw1, hb1⟩

theorem text_calls (base p : Nat) (l : List UInt8) (s : ByteArray) (w : World) (hw : IsWr w base p l) (hB : base ≤ w.heap.size) (hlen : l.length ≤ 100000000000000) (hs : s.size ≤ 65535) :
    Calls Tryd.prog 58 #[.pointer (some ⟨p, 0, none⟩), .string s] w fun e w' => e = .returned (.tuple #[]) ∧ IsWr w' base p (l ++ (dig s.size 2 ++ s.data.toList)) ∧ Below base w w' := by
  have hmf : ∀ (fn : Fn) (first cap : Array Value) (w : World), (Instr.makeFunc fn first cap).run Tryd.prog w = .ok (.func fn first cap) w := fun _ _ _ _ => rfl
  have hsl : s.data.toList.length = s.size := by simp
  go_enter Tryd.func58, Tryd.ntmps58
  go_wp2_with fail
  refine (put_calls base p 89 _ l _ _ (hw.kp ((Kp.refl [] w).alloc _) (by simp)) (by simp; omega) (fun w' hk => text1_calls s _ w' ?_ ?_ hs) (fun _ => by simp [go_sem]) (by simp; omega)).mono ?_
  · rw [hk.cells0.1 _ _ (by simp)]; go_simp
  · have := hk.size; simp at this; omega
  rintro e w1 ⟨rfl, hw1, hb1⟩
  go_wp2
  go_end0
  exact ⟨rfl, hw1, ((Below.refl base w).alloc hB _).trans hb1⟩

/-- What a function of bytes and an error's number hands back. -/
def RetB (B : Nat) (l : List UInt8) (c : Int) (w : World) (e : Ending) (w' : World) : Prop := ∃ v, e = .returned (.tuple #[v, .int .i64 c]) ∧ OB w' 5 B v l ∧ Kp [] w w'

theorem bytes_calls (base p : Nat) (l : List UInt8) (w : World) (hw : IsWr w base p l) (hlen : l.length ≤ 100000000000000) :
    Calls Tryd.prog 59 #[.pointer (some ⟨p, 0, none⟩)] w (RetB w.heap.size l 0 w) := by
  obtain ⟨hbp, bv, hh, ho, hne⟩ := hw
  obtain ⟨i0, hi, hz0, hz1, hz2⟩ := info_parts u8info
  have hplt := lt_of_heap hh
  have h0 := cell_heap hh 0
  have h1 := cell_heap hh 1
  simp only [List.getElem?_toArray, List.getElem?_cons_zero, List.getElem?_cons_succ] at h0 h1
  go_enter Tryd.func59, Tryd.ntmps59
  go_wp2_with (refine wpList_app _ rfl _ _ 23 23 rfl w.heap.size 5 i0 _ 1 1 Tryd.underlying23 hi hz0 hz1 hz2 rfl (by omega) (.slice none 0 0) 0 [] rfl (Own.nil _ _ _ _) bv _ _ rfl (Src.of_sl Tryd.underlying23 ho.bs bcells_one) (by omega) (by omega) (by omega) ?_)
  intro v w1 ho1 hg hb1
  go_wp2
  go_ret2
  refine ⟨v, rfl, ?_, (Kp.refl [] w).grown hg nofun⟩
  unfold OB
  simpa using ho1
end Go.Proofs.YtddpefbpiehgeaaDoor

