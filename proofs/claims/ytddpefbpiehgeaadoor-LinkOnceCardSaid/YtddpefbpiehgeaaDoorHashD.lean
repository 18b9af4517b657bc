/- The digest: Sum. -/
import Derived.Test.YtddpefbpiehgeaaDoorHashC
namespace Go.Proofs.YtddpefbpiehgeaaDoor
open Go Go.RowKit
set_option maxRecDepth 100000
set_option linter.unusedVariables false
set_option linter.unusedSectionVars false
set_option linter.unusedSimpArgs false

theorem bs_alloc (w : World) (T : TypeId) (l : List UInt8) (cs : Array Value) (hcs : cs = (bcells l).toArray) (n : Nat) (hn : n = l.length) :
    Bs (w.alloc (.cells cs T)) (.slice (some ⟨w.heap.size, 0, none⟩) n n) l := by
  subst hcs hn
  refine ⟨by simp only [bcells_length, Nat.mul_one], .inr (.inr ⟨w.heap.size, 0, l.length, rfl, Nat.le_refl _, by simp only [World.alloc, Array.size_push]; omega, fun j u hu => ?_⟩)⟩
  rw [Nat.zero_add, cell_heap (heap_alloc_new w _)]
  simpa using hu

theorem idx8 (X : W8) (n : Nat) (h : n < 8) (w : World) :
    (Instr.index 135 (.agg X.vals) (.int .i64 n)).run Tryd.prog w = .ok (.int .u32 ((X.list.getD n 0).toNat : Int)) w := by
  have h1 : (0 : Int) ≤ (n : Int) ∧ (n : Int) < 8 := by omega
  have hs : (Tryd.prog.info? 133).map (·.size) = some 1 := by kernel_rfl
  obtain ⟨i, hi, hi2⟩ : ∃ i, Tryd.prog.info? 133 = some i ∧ i.size = 1 := by
    cases hq : Tryd.prog.info? 133 with
    | none => rw [hq] at hs; cases hs
    | some i => rw [hq] at hs; exact ⟨i, rfl, by simpa using hs⟩
  have hL : X.list.length = 8 := rfl
  have hg : X.vals[n]? = some (w32 X.list[n]) := arr_get X.list n (by omega)
  simp [Instr.index, asIntOf, run_underlying Tryd.underlying135, sizeOf, typeInfo, hi, hi2, h1, part, hg, hL, h, w32]
  rfl

theorem dig4 (n : Nat) : (#[.int .u8 ((n : Int) / 16777216 % 256), .int .u8 ((n : Int) / 65536 % 256), .int .u8 ((n : Int) / 256 % 256), .int .u8 ((n : Int) % 256)] : Array Value) = (bcells (dig n 4)).toArray := by
  simp [dig_cons, bcells, dig]
  omega

theorem cells8 {w : World} {b : Nat} {a0 a1 a2 a3 a4 a5 a6 a7 : Value} {T : TypeId} {fr : Nat × Nat} (h : w.heap[b]? = some (.cells #[a0, a1, a2, a3, a4, a5, a6, a7] T fr)) :
    w.cell? ⟨b, 0, none⟩ = some a0 ∧ w.cell? ⟨b, 1, none⟩ = some a1 ∧ w.cell? ⟨b, 2, none⟩ = some a2 ∧ w.cell? ⟨b, 3, none⟩ = some a3 ∧ w.cell? ⟨b, 4, none⟩ = some a4 ∧ w.cell? ⟨b, 5, none⟩ = some a5 ∧ w.cell? ⟨b, 6, none⟩ = some a6 ∧ w.cell? ⟨b, 7, none⟩ = some a7 :=
  ⟨cell_heap h 0, cell_heap h 1, cell_heap h 2, cell_heap h 3, cell_heap h 4, cell_heap h 5, cell_heap h 6, cell_heap h 7⟩

set_option maxHeartbeats 1000000 in
theorem hsum_calls (p : Nat) (l : List UInt8) (w : World) (hG : GH w) (hH : IsH w p l) (hlen : l.length ≤ 140737488355000) :
    Calls Tryd.prog 83 #[.pointer (some ⟨p, 0, none⟩)] w fun e w' => ∃ v, e = .returned v ∧ OB w' 5 w.heap.size v (digest kW initW l) ∧ Kp [] w w' := by
  obtain ⟨hp4, a, cap, hh, hr, hne⟩ := hH
  obtain ⟨i0, hi, hz0, hz1, hz2⟩ := info_parts u8info
  have hplt := lt_of_heap hh
  have hrest := absorb_rest kW (startW initW) l
  have happ := absorb_append kW (startW initW) l (padOf l.length)
  have hdig : digest kW initW l = outOf (absorb kW (startW initW) (l ++ padOf l.length)).1.list := rfl
  rw [happ] at hdig
  generalize digest kW initW l = D at hdig ⊢
  clear happ
  generalize absorb kW (startW initW) l = A0 at *
  obtain ⟨X, R⟩ := A0
  simp only at hh hr hne hrest hdig
  have hRl : R.length ≤ 63 := by omega
  have HD := Lib.hid hdig
  have HR := Lib.hid hrest
  clear hdig hrest
  unfold hcells at hh
  have hh_8 := cell_heap (w := w) (b := p) hh 8
  have hh_9 := cell_heap (w := w) (b := p) hh 9
  simp only [List.getElem?_toArray, List.getElem?_cons_zero, List.getElem?_cons_succ] at hh_8 hh_9
  go_enter Tryd.func83, Tryd.ntmps83
  go_wp2_with (first
    | (refine wpList_app _ rfl _ _ 23 23 rfl w.heap.size 5 i0 _ 1 1 Tryd.underlying23 hi hz0 hz1 hz2 rfl (by omega) (.slice none 0 0) 0 [] rfl (Own.nil _ _ _ _) (.slice a R.length cap) _ _ rfl (Src.of_sl Tryd.underlying23 hr bcells_one) (by omega) (by omega) (Nat.le_refl _) ?_; intro v1 w1 ho1 hg1 hx1; rw [Nat.zero_add, List.nil_append] at ho1; have hk1 := (Kp.refl [] w).grown hg1 nofun)
    | (refine wpList_app _ rfl _ _ 23 23 rfl w.heap.size 5 i0 _ 1 1 Tryd.underlying23 hi hz0 hz1 hz2 rfl (by omega) v1 R.length (bcells R) rfl (own_kp ho1 ((Kp.refl [] w1).alloc _) (by simp)) (.slice (some ⟨w1.heap.size, 0, none⟩) 1 1) 1 (bcells [128]) rfl (Src.of_sl Tryd.underlying23 (bs_alloc w1 _ [128] _ rfl 1 rfl) bcells_one) (by omega) (by omega) (by have := hk1.size; simp; omega) ?_; intro v2 w2 ho2 hg2 hx2))
  have hk2 : Kp [] w w2 := (hk1.alloc _).grown hg2 (fun k hk => .inr (ho1.lt k hk).1)
  rw [← bcells_append] at ho2
  have hz : ∃ z, z = (119 - l.length % 64) % 64 := ⟨_, rfl⟩
  obtain ⟨z, hz⟩ := hz
  have hz56 : (R.length + 1 + z) % 64 = 56 := by have := HR.out; omega
  have hz63 : z ≤ 63 := by omega
  have hzl : ∀ i, i < z → (R.length + 1 + i) % 64 ≠ 56 := by have := HR.out; intros; omega
  have HZ := Lib.hid hz
  clear hz
  obtain ⟨a2, c2, rfl⟩ := own_form ho2
  clear hx1 hx2 hg1 hg2 ho1 hk1
  go_loopw [3] (fun v wr => ∃ (i : Nat) (av : Option Addr) (c : Nat), i ≤ z ∧ v = .slice av (R.length + 1 + i) c ∧ Own wr w.heap.size 5 1 (.slice av (R.length + 1 + i) c) (R.length + 1 + i) (bcells (R ++ 128 :: List.replicate i 0)) ∧ Kp [] w wr) (fun v _ => z + R.length + 1 - lenV v)
  case atStart => exact ⟨0, a2, c2, by omega, rfl, ho2, hk2⟩
  case round =>
    obtain ⟨i, av, c, hiz, rfl, ho, hk⟩ := hrel
    by_cases hlt : i < z
    · have hne := hzl i hlt
      have hneb : (((R.length : Int) + 1 + (i : Int)) % 64 != 56) = true := by simp; omega
      have hno := own_kp ho ((Kp.refl [] wr).alloc (.cells #[.int .u8 0] 5)) (by simp)
      go_wp2_with (with_reducible refine stop_app ?_)
      unfold Stop
      refine wpList_app _ rfl _ _ 23 23 rfl w.heap.size 5 i0 _ 1 1 Tryd.underlying23 hi hz0 hz1 hz2 rfl (by omega) (.slice av (R.length + 1 + i) c) _ _ rfl hno (.slice (some ⟨wr.heap.size, 0, none⟩) 1 1) 1 (bcells ([0])) rfl (Src.of_sl Tryd.underlying23 (bs_alloc wr _ [0] _ rfl 1 rfl) bcells_one) (by omega) (by omega) (by have := hk.size; simp; omega) ?_
      intro v3 w3 ho3 hg3 hx3
      have hk3 := (hk.alloc (.cells #[.int .u8 0] 5)).grown hg3 (fun k hk => .inr (ho.lt k hk).1)
      obtain ⟨a3, c3, rfl⟩ := own_form ho3
      rw [← bcells_append, show (R ++ 128 :: List.replicate i 0) ++ [0] = R ++ 128 :: List.replicate (i + 1) 0 by simp [List.replicate_succ']] at ho3
      go_wp2
      go_roundw
      case measure => simp [lenV]; omega
      case rel => exact ⟨i + 1, a3, c3, by omega, by simp; omega, by simpa [Nat.add_assoc] using ho3, hk3⟩
    · have hne : (R.length + 1 + i) % 64 = 56 := by rw [show i = z by omega]; exact hz56
      have hneb : (((R.length : Int) + 1 + (i : Int)) % 64 != 56) = false := by simp; omega
      go_wp2
      obtain ⟨q, hq⟩ : ∃ q, q = R ++ 128 :: List.replicate i 0 := ⟨_, rfl⟩
      have hql : q.length = R.length + 1 + i := by simp [hq]; omega
      rw [← hq, ← hql] at ho
      have hqd : q ++ dig (8 * l.length) 8 = R ++ padOf l.length := by rw [hq, padOf, show i = (119 - l.length % 64) % 64 by rw [← HZ.out]; omega]; simp
      have HQ := Lib.hid hqd
      have HQL := Lib.hid hql
      have hq64 : q.length ≤ 128 := by omega
      have hqm : (q.length + 8) % 64 = 0 := by omega
      simp only [← hql]
      clear hq hqd hql hneb hne hzl hz56
      obtain ⟨wo, rfl⟩ : ∃ wo : World, wo = wr := ⟨wr, rfl⟩
      go_loopw [3, 4] (fun v v4 wr => ∃ (k : Nat) (av : Option Addr) (c : Nat) (q' : List UInt8), k ≤ 8 ∧ v4 = .int .i64 ((k : Int) - 1) ∧ v = .slice av q'.length c ∧ OB wr 5 w.heap.size (.slice av q'.length c) q' ∧ q' ++ dig (8 * l.length) k = q ++ dig (8 * l.length) 8 ∧ q'.length + k = q.length + 8 ∧ Kp [] w wr) (fun _ v _ => (intOf v + 1).toNat)
      case atStart => exact ⟨8, av, c, q, by omega, by simp, rfl, ho, rfl, rfl, hk⟩
      case round =>
        obtain ⟨k, av', c', q', hk8, rfl, rfl, ho', hqq, hql', hk'⟩ := hrel
        obtain _ | k := k
        · -- all bytes are there
          have hq0 : q' = R ++ padOf l.length := by rw [← HQ.out, ← hqq]; simp [dig]
          have hql2 : q'.length % 64 = 0 := by omega
          have hq200 : q'.length ≤ 200 := by omega
          have HQ0 := Lib.hid hq0
          clear hqq hq0 hql'
          have hhw := hk'.heap hh (by simp)
          have hhw_0 := cell_heap (w := wr) (b := p) hhw 0
          have hhw_1 := cell_heap (w := wr) (b := p) hhw 1
          have hhw_2 := cell_heap (w := wr) (b := p) hhw 2
          have hhw_3 := cell_heap (w := wr) (b := p) hhw 3
          have hhw_4 := cell_heap (w := wr) (b := p) hhw 4
          have hhw_5 := cell_heap (w := wr) (b := p) hhw 5
          have hhw_6 := cell_heap (w := wr) (b := p) hhw 6
          have hhw_7 := cell_heap (w := wr) (b := p) hhw 7
          simp only [List.getElem?_toArray, List.getElem?_cons_zero, List.getElem?_cons_succ] at hhw_0 hhw_1 hhw_2 hhw_3 hhw_4 hhw_5 hhw_6 hhw_7
          go_wp2_with fail
          obtain ⟨wb, rfl⟩ : ∃ wb : World, wb = wr := ⟨wr, rfl⟩
          have hkb := hk'.alloc (.cells X.vals 135)
          have hBq : Bs (wb.alloc (.cells X.vals 135)) (.slice av' q'.length c') q' := (OB.bs ho').kp0 ((Kp.refl [] wb).alloc _)
          have hltq := ho'.lt
          have hXrow := heap_alloc_new wb (.cells X.vals 135)
          have hGb := hG.kp0 hkb
          clear hhw_0 hhw_1 hhw_2 hhw_3 hhw_4 hhw_5 hhw_6 hhw_7 hhw hk hk2 ho ho' ho2
          have hq64b := hk'.size
          have HK := Lib.hid hql2
          go_loopw [3] (fun v wr => ∃ (i : Nat) (X' : W8) (R' : List UInt8) (a' : Option Addr) (c' : Nat), v = .slice a' R'.length c' ∧ absN kW i X q' = (X', R') ∧ wr.heap[wb.heap.size]? = some (.cells X'.vals 135 (0, 0)) ∧
            Bs wr (.slice a' R'.length c') R' ∧ (∀ k, Value.ownBlock (.slice a' R'.length c') = some k → k < wb.heap.size) ∧ Kp [] w wr ∧ 64 * i + R'.length = q'.length ) (fun v _ => lenV v)
          case atStart => exact ⟨0, X, q', av', c', rfl, rfl, hXrow, hBq, fun k h => (hltq k h).2, hkb, by omega⟩
          case round =>
            obtain ⟨i, X', R', a', c', rfl, hX, hpr, hB, hv, hkr, hl⟩ := hrel
            have hGr : GH wr := hG.kp0 hkr
            have hbs := lt_of_heap hpr
            by_cases h0 : 0 < R'.length
            · have h64 : 64 ≤ R'.length := by omega
              have hd : decide ((0 : Int) < (R'.length : Int)) = true := by rw [decide_eq_true_eq]; omega
              have hX2 := absN_succ kW i X q'
              rw [hX] at hX2
              have HX := Lib.hid hX
              have HX2 := Lib.hid hX2
              have Hl := Lib.hid hl
              clear hX hX2 hl
              have hc64 : 64 ≤ c' := by
                obtain ⟨_, _, he, h, _⟩ := Sl.form hB
                cases he; omega
              obtain ⟨ab, ao, rfl, hab⟩ : ∃ b off, a' = some ⟨b, off, none⟩ ∧ b < wr.heap.size := by
                obtain ⟨_, _, he, _, _, h6, _⟩ := Sl.form hB
                cases he; exact h6 (by omega)
              have hab2 : ab < wb.heap.size := hv ab rfl
              rw [vals_eq] at hpr
              have hpr_0 := cell_heap (w := wr) (b := wb.heap.size) hpr 0
              have hpr_1 := cell_heap (w := wr) (b := wb.heap.size) hpr 1
              have hpr_2 := cell_heap (w := wr) (b := wb.heap.size) hpr 2
              have hpr_3 := cell_heap (w := wr) (b := wb.heap.size) hpr 3
              have hpr_4 := cell_heap (w := wr) (b := wb.heap.size) hpr 4
              have hpr_5 := cell_heap (w := wr) (b := wb.heap.size) hpr 5
              have hpr_6 := cell_heap (w := wr) (b := wb.heap.size) hpr 6
              have hpr_7 := cell_heap (w := wr) (b := wb.heap.size) hpr 7
              simp only [List.getElem?_toArray, List.getElem?_cons_zero, List.getElem?_cons_succ] at hpr_0 hpr_1 hpr_2 hpr_3 hpr_4 hpr_5 hpr_6 hpr_7
              go_wp2
              have hS : Gr wr [wb.heap.size] wr.drew := Gr.of (fun _ _ => rfl)
              refine wp_plan (.H 0 (.E 1 true (.E 2 true (.E 3 false (.E 4 false .Z))))) (Gr wr [wb.heap.size]) (by as_aux_lemma => kernel_rfl) (by as_aux_lemma => kernel_rfl) ?_
              have h64c : (64 : Int) ≤ (c' : Int) := by omega
              have h64i : (64 : Int) ≤ (R'.length : Int) := by omega
              repeat (first | (refine plan_H rfl hS (fun K hK => ?_); go_simp; refine hK _ ?_; clear hK K) | (refine plan_E rfl (fun K hK => ?_); go_simp; (first | refine hK _ _ (fun _ => hS) ?_ | refine hK _ _ nofun ?_); clear hK K))
              have hB64 : Bs wr.drew (.slice (some ⟨ab, ao, none⟩) 64 c') (R'.take 64) := by
                have h := Sl.part hB 0 64 (by omega)
                have h2 := h.kp0 ((Kp.refl [] wr).drew)
                unfold Bs
                rw [List.length_take, Nat.min_eq_left h64]
                simpa [bcells, List.map_take, show c' ≠ 0 by omega, Addr.add] using h2
              have hBr : Sl wr 1 (.slice (if c' = 64 then some ⟨ab, ao, none⟩ else some ⟨ab, ao + 64, none⟩) (R'.length - 64) (c' - 64)) (R'.length - 64) (bcells (R'.drop 64)) := by
                have h := Sl.part hB 64 (R'.length - 64) (by omega)
                have h4 : ((bcells R').drop 64).take (R'.length - 64) = bcells (R'.drop 64) := by
                  rw [List.take_of_length_le (by simp)]; simp [bcells, List.map_drop]
                rw [h4] at h
                simpa [Addr.add] using h
              refine plan_E rfl (fun K hK => ?_); go_simp
              refine (changed_calls X' _ (R'.take 64) _ (hGr.kp0 (Kp.refl [] wr).drew) hB64 (by simp; omega)).mono ?_
              rintro e w5 ⟨rfl, hk5⟩
              have hk6 : Kp [] wr w5 := ((Kp.refl [] wr).drew).trans hk5
              refine hK _ _ nofun ?_
              clear hK K
              have hp5 := hk6.heap hpr (by simp)
              generalize hY : chg kW X' (R'.take 64) = Y
              have HY := Lib.hid hY
              clear hY hpr_0 hpr_1 hpr_2 hpr_3 hpr_4 hpr_5 hpr_6 hpr_7
              refine plan_E rfl (fun K hK => ?_)
              refine step_store_part rfl 135 _ _ rfl wb.heap.size Y.vals rfl rfl 135 _ hp5 size8 (by simp [W8.vals, arr, W8.list]) (by simp [W8.vals, arr, W8.list, w32, Value.oneCell']) Y.vals (by simp [W8.vals, arr, W8.list, w32]) ?_
              refine hK _ _ nofun ?_
              clear hK K
              refine plan_Z ?_
              have h64r : (64 : Int) ≤ (R'.length : Int) ∧ ((R'.length : Int) - 64).toNat = R'.length - 64 := by omega
              have hn64 : ((R'.length - 64 : Nat) : Int) = (R'.length : Int) - 64 := by omega
              have hd64 : (R'.drop 64).length = R'.length - 64 := by simp
              have hkf := setRow_kp w5 wb.heap.size Y.vals
              have hkw : Kp [wb.heap.size] wr (w5.setRow wb.heap.size Y.vals) := hk6.nil.trans hkf
              have hkww : Kp [] w (w5.setRow wb.heap.size Y.vals) := hkr.trans' hkw (by simp; omega)
              have hrow := setRow_heap w5 wb.heap.size _ Y.vals _ _ hp5
              have hlast : 64 * (i + 1) + (R'.drop 64).length = q'.length := by have := Hl.out; rw [hd64]; omega
              have hXY : absN kW (i + 1) X q' = (Y, R'.drop 64) := by rw [HX2.out, HY.out]
              have HXY := Lib.hid hXY
              have Hlast := Lib.hid hlast
              have HROW := Lib.hid hrow
              have HKWW := Lib.hid hkww
              clear hXY hlast hd hrow hkww
              go_wp2
              · have hc := h
                go_roundw
                case measure => simp [lenV]; omega
                case rel =>
                  refine ⟨i + 1, Y, R'.drop 64, some ⟨ab, ao, none⟩, 0, by simp [hd64], HXY.out, HROW.out, ?_, fun k h => by cases h; exact hab2, HKWW.out, by simpa using Hlast.out⟩
                  have h := hBr.kp hkw (fun k hk' => by simp only [hc, if_pos, if_neg, not_false_eq_true, Value.ownBlock, Option.some.injEq] at hk'; subst hk'; simp; omega)
                  unfold Bs
                  rw [hd64]
                  simpa [hc] using h
              · have hc := h
                go_roundw
                case measure => simp [lenV]; omega
                case rel =>
                  refine ⟨i + 1, Y, R'.drop 64, some ⟨ab, ao + 64, none⟩, c' - 64, by simp [hd64], HXY.out, HROW.out, ?_, fun k h => by cases h; exact hab2, HKWW.out, by simpa using Hlast.out⟩
                  have h := hBr.kp hkw (fun k hk' => by simp only [hc, if_pos, if_neg, not_false_eq_true, Value.ownBlock, Option.some.injEq] at hk'; subst hk'; simp; omega)
                  unfold Bs
                  rw [hd64]
                  simpa [hc] using h
            · have hd : decide ((0 : Int) < (R'.length : Int)) = false := by rw [decide_eq_false_iff_not]; omega
              have hX3 : absorb kW X q' = (X', R') := by unfold absorb; rw [show q'.length / 64 = i by omega]; exact hX
              have hDD : D = outOf X'.list := by rw [HD.out, ← HQ0.out, hX3]
              have HDD := Lib.hid hDD
              clear hDD hX3 hX hl
              rw [vals_eq] at hpr
              have hpr_0 := cell_heap (w := wr) (b := wb.heap.size) hpr 0
              have hpr_1 := cell_heap (w := wr) (b := wb.heap.size) hpr 1
              have hpr_2 := cell_heap (w := wr) (b := wb.heap.size) hpr 2
              have hpr_3 := cell_heap (w := wr) (b := wb.heap.size) hpr 3
              have hpr_4 := cell_heap (w := wr) (b := wb.heap.size) hpr 4
              have hpr_5 := cell_heap (w := wr) (b := wb.heap.size) hpr 5
              have hpr_6 := cell_heap (w := wr) (b := wb.heap.size) hpr 6
              have hpr_7 := cell_heap (w := wr) (b := wb.heap.size) hpr 7
              simp only [List.getElem?_toArray, List.getElem?_cons_zero, List.getElem?_cons_succ] at hpr_0 hpr_1 hpr_2 hpr_3 hpr_4 hpr_5 hpr_6 hpr_7
              go_wp2_with (refine wpList_make_own _ rfl _ _ 23 rfl w.heap.size 5 i0 _ 1 Tryd.underlying23 hi hz0 hz1 .i64 .i64 32 32 rfl rfl rfl (by rw [hz2]; omega) (by unfold maxLen; omega) hkr.size ?_; intro w6 ho6 hg6; obtain ⟨hp6_0, hp6_1, hp6_2, hp6_3, hp6_4, hp6_5, hp6_6, hp6_7⟩ := cells8 (((Kp.refl [] wr).grown hg6 nofun).heap hpr (by simp)))
              have hk6 := hkr.grown hg6 nofun
              obtain ⟨wc, rfl⟩ : ∃ wc : World, wc = wr := ⟨wr, rfl⟩
              go_loopw [6, 55] (fun v6 v55 wr => ∃ (n : Nat) (a6 : Option Addr) (c6 : Nat), n ≤ 8 ∧ v55 = .int .i64 n ∧ v6 = .slice a6 (4 * n) c6 ∧ Own wr w.heap.size 5 1 (.slice a6 (4 * n) c6) (4 * n) (bcells (outOf (X'.list.take n))) ∧ Kp [] w wr) (fun _ v _ => 8 - (intOf v).toNat)
              case atStart => exact ⟨0, _, _, by omega, rfl, rfl, Own.of ho6, hk6⟩
              case round =>
                obtain ⟨n, a6, c6, hn8, rfl, rfl, ho, hk⟩ := hrel
                by_cases hlt : n < 8
                · have hidx := idx8 X' n hlt
                  rw [vals_eq] at hidx
                  have hxl : X'.list.take (n + 1) = X'.list.take n ++ [X'.list.getD n 0] := by
                    rw [List.take_add_one]; simp [show n < X'.list.length from hlt]
                  generalize X'.list.getD n 0 = xn at *
                  have HXL := Lib.hid hxl
                  clear hxl
                  have hn0 : (0 : Int) ≤ n ∧ (n : Int) < 8 := by omega
                  go_wp2_with (with_reducible refine stop_app ?_)
                  unfold Stop
                  have h4 := dig4 xn.toNat
                  have hno := own_kp ho ((Kp.refl [] wr).alloc (.cells (bcells (dig xn.toNat 4)).toArray 5)) (by simp)
                  rw [h4]
                  refine wpList_app _ rfl _ _ 23 23 rfl w.heap.size 5 i0 _ 1 1 Tryd.underlying23 hi hz0 hz1 hz2 rfl (by omega) (.slice a6 (4 * n) c6) _ _ rfl hno (.slice (some ⟨wr.heap.size, 0, none⟩) 4 4) 4 (bcells (dig xn.toNat 4)) rfl (Src.of_sl Tryd.underlying23 (bs_alloc wr _ (dig xn.toNat 4) _ rfl 4 (dig_length 4 _).symm) bcells_one) (by omega) (by omega) (by have := hk.size; simp; omega) ?_
                  intro v7 w7 ho7 hg7 hx7
                  have hk7 := (hk.alloc (.cells (bcells (dig xn.toNat 4)).toArray 5)).grown hg7 (fun k hk => .inr (ho.lt k hk).1)
                  obtain ⟨a7, c7, rfl⟩ := own_form ho7
                  rw [← bcells_append, ← outOf_snoc, ← HXL.out] at ho7
                  rw [show 4 * n + 4 = 4 * (n + 1) by omega] at ho7 ⊢
                  have HO7 := Lib.hid ho7
                  have HK7 := Lib.hid hk7
                  clear ho7 hk7 hno
                  go_wp2
                  go_roundw
                  case measure => simp [intOf]; omega
                  case rel => exact ⟨n + 1, a7, c7, by omega, by simp, by simp, HO7.out, HK7.out⟩
                · go_wp2
                  go_ret
                  refine ⟨_, rfl, ?_, hk⟩
                  obtain rfl : n = 8 := by omega
                  rw [HDD.out]
                  have : X'.list.take 8 = X'.list := rfl
                  rw [this] at ho
                  unfold OB
                  rw [show (outOf X'.list).length = 4 * 8 by rw [outOf_length]; rfl]
                  exact ho
        · have HQQ := Lib.hid hqq
          clear hqq
          have hhw := hk'.heap hh (by simp)
          have hhw_9 := cell_heap (w := wr) (b := p) hhw 9
          simp only [List.getElem?_toArray, List.getElem?_cons_zero, List.getElem?_cons_succ] at hhw_9
          have hbyte : (l.length : Int) * 8 / 2 ^ (8 * k) % 256 = ((UInt8.ofNat (8 * l.length / 256 ^ k)).toNat : Int) := by
            rw [byte_shr _ (by omega), show ((l.length : Int) * 8).toNat = 8 * l.length by omega]
          go_wp2_with (with_reducible refine stop_app ?_)
          unfold Stop
          rw [hbyte]
          have hno := own_kp ho' ((Kp.refl [] wr).alloc (.cells #[.int .u8 ((UInt8.ofNat (8 * l.length / 256 ^ k)).toNat : Int)] 5)) (by simp)
          refine wpList_app _ rfl _ _ 23 23 rfl w.heap.size 5 i0 _ 1 1 Tryd.underlying23 hi hz0 hz1 hz2 rfl (by omega) (.slice av' q'.length c') _ _ rfl hno (.slice (some ⟨wr.heap.size, 0, none⟩) 1 1) 1 (bcells ([UInt8.ofNat (8 * l.length / 256 ^ k)])) rfl (Src.of_sl Tryd.underlying23 (bs_alloc wr _ [UInt8.ofNat (8 * l.length / 256 ^ k)] _ rfl 1 rfl) bcells_one) (by omega) (by omega) (by have := hk'.size; simp; omega) ?_
          intro v3 w3 ho3 hg3 hx3
          have hk3 := (hk'.alloc (.cells #[.int .u8 ((UInt8.ofNat (8 * l.length / 256 ^ k)).toNat : Int)] 5)).grown hg3 (fun k hk => .inr (ho'.lt k hk).1)
          obtain ⟨a3, c3, rfl⟩ := own_form ho3
          rw [← bcells_append] at ho3
          go_wp2
          go_roundw
          case measure => simp [intOf]
          case rel =>
            refine ⟨k, a3, c3, q' ++ [UInt8.ofNat (8 * l.length / 256 ^ k)], by omega, by simp, by simp, by simpa [OB] using ho3, ?_, by simp; omega, hk3⟩
            rw [List.append_assoc, List.singleton_append, ← dig_cons]
            exact HQQ.out

/-- The digest of bytes. -/
def sha (l : List UInt8) : List UInt8 := digest kW initW l
theorem sha_length (l : List UInt8) : (sha l).length = 32 := digest_length _ _ l

theorem sha_calls (v : Value) (l : List UInt8) (w : World) (hG : GH w) (hb : Bs w v l) (hlen : l.length ≤ 140737488355000) :
    Calls Tryd.prog 96 #[v] w fun e w' => ∃ v, e = .returned v ∧ OB w' 5 w.heap.size v (sha l) ∧ Kp [] w w' := by
  have hbl := hb.lt
  go_enter Tryd.func96, Tryd.ntmps96
  go_wp2_with (first
    | (go_at_call 81; refine (hnew_calls _ hG).mono ?_; rintro e w1 ⟨p, rfl, hp, hH, hk1⟩)
    | (go_at_call 82; refine (hwrite_calls p [] l _ _ (hG.kp0 hk1) hH (hb.kp0 hk1) (fun e => by have := hbl _ e; omega) (by simpa using hlen)).mono ?_; rintro e w2 ⟨rfl, hH2, hk2⟩; have hk12 : Kp [] w w2 := hk1.trans' hk2 (by simpa using hp))
    | (go_at_call 83; refine (hsum_calls p ([] ++ l) _ (hG.kp0 hk12) hH2 (by simpa using hlen)).mono ?_; rintro e w3 ⟨u, rfl, ho3, hk3⟩))
  go_ret
  exact ⟨_, rfl, own_base ho3 (fun b hb => Nat.le_trans hk12.size (ho3.lt b hb).1), hk12.trans hk3⟩
end Go.Proofs.YtddpefbpiehgeaaDoor
