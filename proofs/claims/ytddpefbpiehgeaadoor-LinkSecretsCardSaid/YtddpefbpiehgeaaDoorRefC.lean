/- The reference's digest: a block changes eight words. -/
import Derived.Test.YtddpefbpiehgeaaDoorRefB
namespace Go.Proofs.YtddpefbpiehgeaaDoor
open Go Go.RowKit
set_option maxRecDepth 100000
set_option linter.unusedVariables false
set_option linter.unusedSectionVars false
set_option linter.unusedSimpArgs false

/-- The reference's tables. -/
structure GR (w : World) : Prop where
  size : 4 ≤ w.heap.size
  start : ∀ i, i < 8 → w.cell? ⟨1, i, none⟩ = some (w32 (initW.getD i 0))
  rounds : ∀ i, i < 64 → w.cell? ⟨3, i, none⟩ = some (w32 (kW.getD i 0))
theorem GR.kp {S : List Nat} {w w' : World} (h : GR w) (hk : Kp S w w') (hS : ∀ s ∈ S, 4 ≤ s) : GR w' :=
  ⟨Nat.le_trans h.size hk.size, fun i hi => (hk.cells.1 _ _ (by have := h.size; omega) (fun hm => by have := hS _ hm; omega)).trans (h.start i hi),
    fun i hi => (hk.cells.1 _ _ (by have := h.size; omega) (fun hm => by have := hS _ hm; omega)).trans (h.rounds i hi)⟩
theorem GR.kp0 {w w' : World} (h : GR w) (hk : Kp [] w w') : GR w' := h.kp hk (by simp)

/-- The words behind place i have moved up. -/
def upW (x : W8) (i : Nat) : List UInt32 := x.list.take (i + 1) ++ (x.list.drop i).take (7 - i)
theorem upW_length (x : W8) (i : Nat) (h : i ≤ 7) : (upW x i).length = 8 := by
  match i, h with
  | 0, _ | 1, _ | 2, _ | 3, _ | 4, _ | 5, _ | 6, _ | 7, _ => rfl
theorem upW_7 (x : W8) : upW x 7 = x.list := rfl
theorem upW_0 (x : W8) : upW x 0 = [x.a, x.a, x.b, x.c, x.d, x.e, x.f, x.g] := rfl
theorem upW_get (x : W8) (i : Nat) (h : i < 7) (h2 : i < (upW x (i + 1)).length) : (upW x (i + 1))[i] = x.list.getD i 0 := by
  match i, h with
  | 0, _ | 1, _ | 2, _ | 3, _ | 4, _ | 5, _ | 6, _ => rfl
theorem upW_set (x : W8) (i : Nat) (h : i < 7) : (upW x (i + 1)).set (i + 1) (x.list.getD i 0) = upW x i := by
  match i, h with
  | 0, _ | 1, _ | 2, _ | 3, _ | 4, _ | 5, _ | 6, _ => rfl

theorem ch_v (e f g : UInt32) : bits BinOp.xor IntKind.u32 (bits BinOp.and IntKind.u32 (e.toNat : Int) (f.toNat : Int)) (bits BinOp.and IntKind.u32 (bits BinOp.xor IntKind.u32 4294967295 (e.toNat : Int)) (g.toNat : Int)) = (((e &&& f) ^^^ (~~~e &&& g)).toNat : Int) := by
  have := u32_not_v e
  rw [show (if IntKind.u32.signed = true then -1 else IntKind.u32.max) = 4294967295 from rfl] at this
  rw [this, u32_and_v, u32_and_v, u32_xor_v]
theorem maj_v (a b c : UInt32) : bits BinOp.xor IntKind.u32 (bits BinOp.xor IntKind.u32 (bits BinOp.and IntKind.u32 (a.toNat : Int) (b.toNat : Int)) (bits BinOp.and IntKind.u32 (a.toNat : Int) (c.toNat : Int))) (bits BinOp.and IntKind.u32 (b.toNat : Int) (c.toNat : Int)) = (((a &&& b) ^^^ (a &&& c) ^^^ (b &&& c)).toNat : Int) := by
  rw [u32_and_v, u32_and_v, u32_and_v, u32_xor_v, u32_xor_v]
theorem add3_v (a b c : UInt32) : ((a.toNat : Int) + (b.toNat : Int) + (c.toNat : Int)) % 4294967296 = ((a + (b + c)).toNat : Int) := by rw [← add_add_m, Int.add_assoc]
theorem rend (X : W8) (kn ln S1 CH T Z1 MJ : UInt32) (h1 : Hid (rotr X.e 6 ^^^ rotr X.e 11 ^^^ rotr X.e 25 = S1)) (h2 : Hid ((X.e &&& X.f) ^^^ (~~~X.e &&& X.g) = CH)) (h3 : Hid (X.h + S1 + CH + kn + ln = T))
    (h4 : Hid (rotr X.a 2 ^^^ rotr X.a 13 ^^^ rotr X.a 22 = Z1)) (h5 : Hid ((X.a &&& X.b) ^^^ (X.a &&& X.c) ^^^ (X.b &&& X.c) = MJ)) (T0 : TypeId) :
    some (Obj.cells ((#[Value.int IntKind.u32 (X.a.toNat : Int), .int .u32 (X.a.toNat : Int), .int .u32 (X.b.toNat : Int), .int .u32 (X.c.toNat : Int), .int .u32 (X.d.toNat : Int), .int .u32 (X.e.toNat : Int), .int .u32 (X.f.toNat : Int), .int .u32 (X.g.toNat : Int)].setIfInBounds 4 (.int .u32 ((X.d + T).toNat : Int))).setIfInBounds 0 (.int .u32 ((T + (Z1 + MJ)).toNat : Int))) T0) =
      some (.cells (rnd X kn ln).vals T0) := by
  have h1 := h1.out
  have h2 := h2.out
  have h3 := h3.out
  have h4 := h4.out
  have h5 := h5.out
  subst h1 h2 h3 h4 h5
  rfl
theorem rsize8 : (Tryd.prog.info? 134).map (·.size) = some 8 := by kernel_rfl

set_option maxHeartbeats 3000000 in
theorem rchange_aux (x Z : W8) (v : Value) (b : List UInt8) (L : List UInt32) (w : World) (hG : GR w) (hb : Bs w v b) (hl : b.length = 64) (HLe : Hid (spr b 64 = L)) (HZ : Hid (Z = add8 x (rounds kW L x 64))) :
    Calls Tryd.prog 100 #[.agg x.vals, v] w fun e w' => e = .returned (.agg Z.vals) ∧ Kp [] w w' := by
  have hv : x.vals = #[.int .u32 (x.a.toNat : Int), .int .u32 (x.b.toNat : Int), .int .u32 (x.c.toNat : Int), .int .u32 (x.d.toNat : Int), .int .u32 (x.e.toNat : Int), .int .u32 (x.f.toNat : Int), .int .u32 (x.g.toNat : Int), .int .u32 (x.h.toNat : Int)] := rfl
  have HL := Lib.hid hl
  clear hl
  have hspr : (spr b 64).length = 64 := spr_length b 64
  rw [HLe.out] at hspr
  have HS := Lib.hid hspr
  clear hspr
  rw [hv]
  go_enter Tryd.func100, Tryd.ntmps100
  go_wp2_with fail
  have hk0 : Kp [] w ((w.alloc (.cells x.vals 134)).alloc (.cells (W8.vals ⟨0, 0, 0, 0, 0, 0, 0, 0⟩) 134)) := ((Kp.refl [] w).alloc _).alloc _
  refine (rspread_calls v b _ (hb.kp0 hk0) HL.out).mono ?_
  rintro e w1 ⟨sa, sc, rfl, ho1, hk1⟩
  have HH : w1.heap[w.heap.size]? = some (.cells x.vals 134 (0, 0)) := hk1.heap (by simp only [halloc, World.size_alloc]; simp) (by simp)
  have HR : w1.heap[w.heap.size + 1]? = some (.cells (W8.vals ⟨0, 0, 0, 0, 0, 0, 0, 0⟩) 134 (0, 0)) := hk1.heap (by simp only [halloc, World.size_alloc]; simp) (by simp)
  have hkk := hk0.trans hk1
  have hsz1 : w.heap.size + 2 ≤ w1.heap.size := by have := hk1.size; simpa using this
  rw [HLe.out] at ho1
  obtain ⟨bw, cw, hav, -, hbw, hbl⟩ := ob_some ho1 (by omega)
  cases hav
  have hbw2 : w.heap.size + 2 ≤ bw := by simpa using hbw
  have hcell : ∀ i, i < 64 → w1.cell? ⟨bw, i, none⟩ = some (.int .u32 ((L.getD i 0).toNat : Int)) := fun i hi => by
    rw [ho1.cellAt i (by omega), wcells_get _ _ (by have := HS.out; omega)]
  rw [vals_eq] at HH
  have HH_0 := cell_heap (w := w1) (b := w.heap.size) HH 0
  have HH_1 := cell_heap (w := w1) (b := w.heap.size) HH 1
  have HH_2 := cell_heap (w := w1) (b := w.heap.size) HH 2
  have HH_3 := cell_heap (w := w1) (b := w.heap.size) HH 3
  have HH_4 := cell_heap (w := w1) (b := w.heap.size) HH 4
  have HH_5 := cell_heap (w := w1) (b := w.heap.size) HH 5
  have HH_6 := cell_heap (w := w1) (b := w.heap.size) HH 6
  have HH_7 := cell_heap (w := w1) (b := w.heap.size) HH 7
  simp only [List.getElem?_toArray, List.getElem?_cons_zero, List.getElem?_cons_succ] at HH_0 HH_1 HH_2 HH_3 HH_4 HH_5 HH_6 HH_7
  go_wp2_with fail
  obtain ⟨w2, hw2⟩ : ∃ w2, w2 = w1.alloc (.cells x.vals 134) := ⟨_, rfl⟩
  have h6 : w2.heap[w1.heap.size]? = some (.cells (rounds kW L x 0).vals 134 (0, 0)) := by rw [hw2]; exact heap_alloc_new _ _
  have hk12 : Kp [] w1 w2 := by rw [hw2]; exact (Kp.refl [] w1).alloc _
  have hs2 : w2.heap.size = w1.heap.size + 1 := by rw [hw2]; simp
  rw [vals_eq] at hw2
  rw [← hw2]
  have HW : ∀ i, i < 64 → w2.cell? ⟨bw, i, none⟩ = some (.int .u32 ((L.getD i 0).toNat : Int)) := fun i hi => (hk12.cells0.1 _ _ hbl).trans (hcell i hi)
  have HH2 := hk12.heap HH (by simp)
  rw [← vals_eq] at HH2
  have HR2 := hk12.heap HR (by simp)
  have hK2 := hkk.trans hk12
  have hG2 := hG.kp0 hK2
  have hg4 := hG.size
  obtain ⟨va, hva⟩ : ∃ va, va = Value.agg x.vals := ⟨_, rfl⟩
  rw [vals_eq] at hva
  simp only [← hva]
  clear hva
  generalize hp6 : w1.heap.size = p6 at *
  generalize hh0 : w.heap.size = h0 at *
  have HP6 := Lib.hid hp6
  have HH0 := Lib.hid hh0
  have hb6 : bw < p6 := hbl
  clear hw2 HH_0 HH_1 HH_2 HH_3 HH_4 HH_5 HH_6 HH_7 hcell ho1 HH HR hk0 hk1 hkk hk12 hp6 hh0 hbl hbw hG hb hv
  go_loopw [7] (fun v7 wr => ∃ n : Nat, n ≤ 64 ∧ v7 = .int .i64 n ∧ wr.heap[p6]? = some (.cells (rounds kW L x n).vals 134 (0, 0)) ∧ Kp [p6] w2 wr) (fun v7 _ => 64 - (intOf v7).toNat)
  case atStart => exact ⟨0, by omega, rfl, h6, Kp.refl _ _⟩
  case round =>
    as_aux_lemma =>
      obtain ⟨n, hn, rfl, H6, hkr⟩ := hrel
      have hsr := lt_of_heap H6
      by_cases hlt : n < 64
      · have cw : wr.cell? ⟨bw, n, none⟩ = some (.int .u32 ((L.getD n 0).toNat : Int)) := (hkr.cells.1 _ _ (by omega) (by simp; omega)).trans (HW n hlt)
        have hk : wr.cell? ⟨3, n, none⟩ = _ := (hkr.cells.1 _ _ (by have := hG2.size; omega) (by simp; omega)).trans (hG2.rounds n hlt)
        have hnext : rounds kW L x (n + 1) = rnd (rounds kW L x n) (kW.getD n 0) (L.getD n 0) := rfl
        generalize rounds kW L x n = X at *
        generalize kW.getD n 0 = kn at *
        generalize L.getD n 0 = ln at *
        have HY := Lib.hid hnext
        clear hnext
        rw [vals_eq X] at H6
        have H6_0 := cell_heap (w := wr) (b := p6) H6 0
        have H6_1 := cell_heap (w := wr) (b := p6) H6 1
        have H6_2 := cell_heap (w := wr) (b := p6) H6 2
        have H6_3 := cell_heap (w := wr) (b := p6) H6 3
        have H6_4 := cell_heap (w := wr) (b := p6) H6 4
        have H6_5 := cell_heap (w := wr) (b := p6) H6 5
        have H6_6 := cell_heap (w := wr) (b := p6) H6 6
        have H6_7 := cell_heap (w := wr) (b := p6) H6 7
        simp only [List.getElem?_toArray, List.getElem?_cons_zero, List.getElem?_cons_succ] at H6_0 H6_1 H6_2 H6_3 H6_4 H6_5 H6_6 H6_7
        unfold w32 at hk
        have i0 : (0 : Int) ≤ n := by omega
        have i64 : (n : Int) < 64 := by omega
        have sg : IntKind.u32.signed = false := rfl
        have mx : IntKind.u32.max = 4294967295 := rfl
        go_wp2_with (go_at_call 104; first | ((with_reducible refine (rrot X.e 6 6 _ rfl (by omega) (by omega)).mono ?_); rintro e w' ⟨rfl, rfl⟩) | ((with_reducible refine (rrot X.e 11 11 _ rfl (by omega) (by omega)).mono ?_); rintro e w' ⟨rfl, rfl⟩) | ((with_reducible refine (rrot X.e 25 25 _ rfl (by omega) (by omega)).mono ?_); rintro e w' ⟨rfl, rfl⟩))
        rw [big1_v, ch_v]
        have hS : Gr wr [p6, 3, bw] wr.drew := Gr.of (fun _ _ => rfl)
        generalize hs1 : rotr X.e 6 ^^^ rotr X.e 11 ^^^ rotr X.e 25 = S1
        have HS1 := Lib.hid hs1
        generalize hch : (X.e &&& X.f) ^^^ (~~~X.e &&& X.g) = CH
        have HCH := Lib.hid hch
        clear hs1 hch
        refine wp_plan (.H 0 (.H 1 (.H 2 (.H 3 (.H 4 (.H 5 (.H 6 (.H 7 (.H 8 (.H 9 (.H 10 (.H 11 (.H 12 (.H 13 (.E 14 false (.E 15 false .Z)))))))))))))))) (Gr wr [p6, 3, bw]) (by as_aux_lemma => kernel_rfl) (by as_aux_lemma => kernel_rfl) ?_
        repeat (first | (refine plan_H rfl hS (fun K hK => ?_); go_simp; refine hK _ ?_; clear hK K) | (refine plan_E rfl (fun K hK => ?_); go_simp; (first | refine hK _ _ (fun _ => hS) ?_ | refine hK _ _ nofun ?_); clear hK K))
        refine plan_Z ?_
        rw [u32_add_v, u32_add_v, u32_add_v, u32_add_v]
        generalize hT : X.h + S1 + CH + kn + ln = T
        have HT := Lib.hid hT
        clear hT hS hk cw
        go_wp2_with (go_at_call 104; first | ((with_reducible refine (rrot X.a 2 2 _ rfl (by omega) (by omega)).mono ?_); rintro e w' ⟨rfl, rfl⟩) | ((with_reducible refine (rrot X.a 13 13 _ rfl (by omega) (by omega)).mono ?_); rintro e w' ⟨rfl, rfl⟩) | ((with_reducible refine (rrot X.a 22 22 _ rfl (by omega) (by omega)).mono ?_); rintro e w' ⟨rfl, rfl⟩))
        rw [big0_v, maj_v]
        generalize hz1 : rotr X.a 2 ^^^ rotr X.a 13 ^^^ rotr X.a 22 = Z1
        have HZ1 := Lib.hid hz1
        generalize hmj : (X.a &&& X.b) ^^^ (X.a &&& X.c) ^^^ (X.b &&& X.c) = MJ
        have HMJ := Lib.hid hmj
        clear hz1 hmj sg mx H6_0 H6_1 H6_2 H6_3 H6_4 H6_5 H6_6 H6_7
        rw [← vals_eq X] at H6
        obtain ⟨wo, hwo⟩ : ∃ wo : World, wo = wr.drew := ⟨_, rfl⟩
        have H6o : wo.heap[p6]? = some (.cells (arr (upW X 7)) 134 (0, 0)) := by rw [hwo, hdrew, H6]; rfl
        have hko : Kp [p6] w2 wo := by rw [hwo]; exact hkr.drew
        rw [← hwo]
        clear hwo H6 hkr hsr
        go_loopw [15] (fun v15 wr => ∃ i : Nat, i ≤ 7 ∧ v15 = .int .i64 i ∧ wr.heap[p6]? = some (.cells (arr (upW X i)) 134 (0, 0)) ∧ Kp [p6] w2 wr) (fun v15 _ => (intOf v15).toNat)
        case atStart => exact ⟨7, by omega, rfl, H6o, hko⟩
        case round =>
          as_aux_lemma =>
            obtain ⟨i, hi, rfl, Hi, hki⟩ := hrel
            have hsr := lt_of_heap Hi
            obtain _ | i := i
            · rw [upW_0] at Hi
              have hHi : wr.heap[p6]? = some (.cells #[.int .u32 (X.a.toNat : Int), .int .u32 (X.a.toNat : Int), .int .u32 (X.b.toNat : Int), .int .u32 (X.c.toNat : Int), .int .u32 (X.d.toNat : Int), .int .u32 (X.e.toNat : Int), .int .u32 (X.f.toNat : Int), .int .u32 (X.g.toNat : Int)] 134 (0, 0)) := Hi
              clear Hi
              have hHi_0 := cell_heap (w := wr) (b := p6) hHi 0
              have hHi_1 := cell_heap (w := wr) (b := p6) hHi 1
              have hHi_2 := cell_heap (w := wr) (b := p6) hHi 2
              have hHi_3 := cell_heap (w := wr) (b := p6) hHi 3
              have hHi_4 := cell_heap (w := wr) (b := p6) hHi 4
              have hHi_5 := cell_heap (w := wr) (b := p6) hHi 5
              have hHi_6 := cell_heap (w := wr) (b := p6) hHi 6
              have hHi_7 := cell_heap (w := wr) (b := p6) hHi 7
              simp only [List.getElem?_toArray, List.getElem?_cons_zero, List.getElem?_cons_succ] at hHi_0 hHi_1 hHi_2 hHi_3 hHi_4 hHi_5 hHi_6 hHi_7
              have hf0 := free_heap hHi 0
              have hf4 := free_heap hHi 4
              go_wp2
              go_roundw
              case measure => simp [intOf]; omega
              case rel =>
                refine ⟨n + 1, by omega, by go_num, ?_, (hki.setCell (.inl (by simp)) _).setCell (.inl (by simp)) _⟩
                rw [heap_set _ (heap_set _ hHi), show rounds kW L x (n + 1) = rnd X kn ln from HY.out]
                have e1 : ((X.d.toNat : Int) + (T.toNat : Int)) % 4294967296 = ((X.d + T).toNat : Int) := u32_add_m _ _
                have e2 : ((T.toNat : Int) + (Z1.toNat : Int) + (MJ.toNat : Int)) % 4294967296 = ((T + (Z1 + MJ)).toNat : Int) := add3_v _ _ _
                rw [e1, e2]
                exact rend X kn ln S1 CH T Z1 MJ HS1 HCH HT HZ1 HMJ 134
            · have c1 : wr.cell? ⟨p6, i, none⟩ = some (w32 (X.list.getD i 0)) := by
                rw [cell_heap Hi, arr_get _ _ (by rw [upW_length _ _ hi]; omega), upW_get _ _ (by omega)]
              have f1 := free_heap Hi (i + 1)
              have hup : i + 1 < (upW X (i + 1)).length := by rw [upW_length _ _ hi]; omega
              obtain ⟨xo, c2⟩ : ∃ xo, wr.cell? ⟨p6, i + 1, none⟩ = some (w32 xo) := ⟨_, (cell_heap Hi _).trans (arr_get _ _ hup)⟩
              have hset := upW_set X i (by omega)
              generalize X.list.getD i 0 = xi at *
              have HS8 := Lib.hid hset
              clear hset
              unfold w32 at c1 c2
              have ei : IntKind.i64.wrap ((i : Int) + 1 - 1) = i := by rw [show (i : Int) + 1 - 1 = i by omega]; exact IntWalk.i64_in _ (by omega)
              have bi : (0 : Int) ≤ (i : Int) ∧ (i : Int) < 8 := by omega
              have bi1 : (0 : Int) ≤ (i : Int) + 1 ∧ (i : Int) + 1 < 8 := by omega
              have hp : (0 : Int) < (i : Int) + 1 := by omega
              have ti : ((i : Int) + 1).toNat = i + 1 := by omega
              go_wp2_with fail
              go_roundw
              case measure => simp [intOf]
              case rel =>
                refine ⟨i, by omega, by go_num, ?_, hki.setCell (.inl (by simp)) _⟩
                rw [heap_set _ Hi]
                have := arr_set (upW X (i + 1)) (i + 1) xi
                unfold w32 at this
                rw [this, HS8.out]
      · have h64 : n = 64 := by omega
        rw [h64] at H6
        generalize hXe : rounds kW L x 64 = X at H6
        have hZX : Z = add8 x X := by rw [HZ.out, ← hXe]
        have HZX := Lib.hid hZX
        have h60 : h0 ≠ p6 := by omega
        have h61 : h0 + 1 ≠ p6 := by omega
        have HHx := hkr.heap HH2 (by simpa using h60)
        have HRx := hkr.heap HR2 (by simpa using h61)
        have hd : decide ((n : Int) < 64) = false := by rw [decide_eq_false_iff_not]; omega
        clear hXe hZX h64
        go_wp2
        obtain ⟨wo, hwo⟩ : ∃ wo : World, wo = wr := ⟨_, rfl⟩
        have hkw : Kp [h0, p6] w2 wr := hkr.mono (by simp)
        clear hwo wo
        go_loopw [16] (fun v16 wr => ∃ i : Nat, i ≤ 8 ∧ v16 = .int .i64 i ∧ wr.heap[h0]? = some (.cells (arr (half8 x X i)) 134 (0, 0)) ∧ wr.heap[p6]? = some (.cells X.vals 134 (0, 0)) ∧
          wr.heap[h0 + 1]? = some (.cells (W8.vals ⟨0, 0, 0, 0, 0, 0, 0, 0⟩) 134 (0, 0)) ∧ Kp [h0, p6] w2 wr) (fun v16 _ => 8 - (intOf v16).toNat)
        case atStart => exact ⟨0, by omega, rfl, by rw [half8_zero]; exact HHx, H6, HRx, hkw⟩
        case round =>
          as_aux_lemma =>
            obtain ⟨i, hi, rfl, HHi, HXi, HRi, hki⟩ := hrel
            have hsi := lt_of_heap HXi
            by_cases hlt8 : i < 8
            · have c1 : wr.cell? ⟨h0, i, none⟩ = some (w32 (x.list.getD i 0)) := by
                rw [cell_heap HHi, arr_get _ _ (by rw [half8_length _ _ _ hi]; exact hlt8), half8_at _ _ _ hlt8]
              have c2 : wr.cell? ⟨p6, i, none⟩ = some (w32 (X.list.getD i 0)) := by
                rw [cell_heap HXi]
                have h8 : i < X.list.length := hlt8
                have := arr_get X.list i h8
                rw [W8.vals, this]
                simp [h8]
              have f1 := free_heap HHi i
              have hset8 := half8_set x X i hlt8
              generalize x.list.getD i 0 = xi at *
              generalize X.list.getD i 0 = yi at *
              have HS8 := Lib.hid hset8
              clear hset8
              unfold w32 at c1 c2
              have i0 : (0 : Int) ≤ i := by omega
              have i8 : (i : Int) < 8 := by omega
              go_wp2
              have hS : Gr wr [h0, p6] wr.drew := Gr.of (fun _ _ => rfl)
              refine wp_plan (.H 0 (.H 1 (.H 2 (.H 3 (.H 4 (.H 5 (.H 6 (.E 7 true (.E 8 false (.E 9 false .Z)))))))))) (Gr wr [h0, p6]) (by as_aux_lemma => kernel_rfl) (by as_aux_lemma => kernel_rfl) ?_
              repeat (first | (refine plan_H rfl hS (fun K hK => ?_); go_simp; refine hK _ ?_; clear hK K) | (refine plan_E rfl (fun K hK => ?_); go_simp; (first | refine hK _ _ (fun _ => hS) ?_ | refine hK _ _ nofun ?_); clear hK K))
              refine plan_Z ?_
              rw [u32_add_v]
              clear hS c1 c2 f1
              go_wp2
              go_roundw
              case measure => simp [intOf]; omega
              case rel =>
                refine ⟨i + 1, by omega, by go_num, ?_, ?_, ?_, (hki.setCell (.inl (by simp)) _).drew⟩
                · rw [u32_add_m, hdrew, heap_set _ HHi]
                  have := arr_set (half8 x X i) i (xi + yi)
                  unfold w32 at this
                  rw [this, HS8.out]
                · rw [hdrew, hset _ _ _ _ (by simpa using h60.symm)]; exact HXi
                · rw [hdrew, hset _ _ _ _ (by simp)]; exact HRi
            · obtain rfl : i = 8 := by omega
              rw [half8_full] at HHi
              have hsz8 : (Tryd.prog.info? 134).map (·.size) = some (arr (add8 x X).list).size := by rw [show (arr (add8 x X).list).size = 8 from rfl]; exact rsize8
              have hone : (arr (add8 x X).list).all (·.oneCell') = true := by simp [arr, W8.list, w32, Value.oneCell']
              have Hsz8 := Lib.hid hsz8
              have Hone := Lib.hid hone
              clear hsz8 hone
              have hrow := setRow_heap wr (h0 + 1) _ (arr (add8 x X).list) _ _ HRi
              have hkf : Kp [] w (wr.setRow (h0 + 1) (arr (add8 x X).list)) := by
                refine (hK2.trans' hki (by have := HH0.out; simp; omega)).trans' (T := [h0 + 1]) ⟨rfl, rfl, rfl, by simp only [World.setRow, Array.size_modify]; exact Nat.le_refl _, fun k hk hs => setRow_other wr (h0 + 1) k _ (by simpa using hs)⟩ (by have := HH0.out; simp; omega)
              go_wp2_with (first
                | (refine wpList_load_row rfl 134 _ rfl h0 rfl _ _ _ _ HHi Tryd.underlying134 rfl Hsz8.out ?_)
                | (refine wpList_store_row rfl 134 _ _ rfl (h0 + 1) _ rfl rfl _ _ HRi Hsz8.out ?_ Hone.out ?_))
              · rfl
              · go_wp2
                exact bodyPost_ret (v := .agg (arr (add8 x X).list)) (results_cell_row rfl _ _ (h0 + 1) _ _ _ _ (by simp [Act.put]) hrow Tryd.underlying134 rfl Hsz8.out) (by simp [Act.put]) ⟨by rw [HZX.out]; rfl, hkf⟩

theorem rchange_calls (x : W8) (v : Value) (b : List UInt8) (w : World) (hG : GR w) (hb : Bs w v b) (hl : b.length = 64) :
    Calls Tryd.prog 100 #[.agg x.vals, v] w fun e w' => e = .returned (.agg (chg kW x b).vals) ∧ Kp [] w w' :=
  rchange_aux x (chg kW x b) v b (spr b 64) w hG hb hl (Lib.hid rfl) (Lib.hid rfl)
end Go.Proofs.YtddpefbpiehgeaaDoor
