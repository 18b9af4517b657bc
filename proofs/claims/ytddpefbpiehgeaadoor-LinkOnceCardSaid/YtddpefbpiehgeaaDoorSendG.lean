/- The link: a tick. -/
import Derived.Test.YtddpefbpiehgeaaDoorSendF
namespace Go.Proofs.YtddpefbpiehgeaaDoor
open Go Go.RowKit
set_option maxRecDepth 100000
set_option linter.unusedVariables false
set_option linter.unusedSectionVars false
set_option linter.unusedSimpArgs false

/-- What a tick hands back. -/
def RetT (r : Sent × List Fr) (p mb n win bat : Nat) (ev clk : Int) (w : World) (e : Ending) (w' : World) : Prop :=
  ∃ v l n', e = .returned v ∧ OutR w' w.heap.size bat v l ∧ l.map Prod.fst = r.2 ∧ n' ≤ n + 64 ∧ IsS w' p mb n' win bat ev clk r.1 ∧ Kp [p, mb] w w'

/-- The clock goes on. -/
theorem IsS.tick {w : World} {p mb n win bat : Nat} {ev clk : Int} {f : Sent} (h : IsS w p mb n win bat ev clk f) : IsS (w.setCell ⟨p, 3, none⟩ (.int .i64 (clk + 1))) p mb n win bat ev (clk + 1) f := by
  have h1 := heap_set (i := 3) (.int .i64 (clk + 1)) h.cells
  have hk : Kp [p] w (w.setCell ⟨p, 3, none⟩ (.int .i64 (clk + 1))) := (Kp.refl [p] w).setCell (.inl (by simp)) _
  have hl := h.lt
  exact { h with cells := (by simpa using h1), map := h.map.kp hk (by simp; omega), old := (fun k c hc => by have := h.old k c hc; omega), clk0 := (by have := h.clk0; omega) }

theorem tick_bad (P : Nat → Prop) (p mb n win bat : Nat) (ev clk : Int) (f : Sent) (v : Value) (cs : List Value) (xs : List It) (w : World) (hP : ¬ P p) (hP2 : ¬ P mb) (hs : IsS w p mb n win bat ev clk f) (hclk : clk ≤ 100000000000000) (hsl : Sl w 2 v xs.length cs) (hv : BlkP P v) (hi : ItC P w cs xs) (hn : xs.length ≤ 100000000000000) (hl : ∀ x ∈ xs, x.b.length ≤ 140737488355328) (hr : rowB xs = false) :
    Calls Tryd.prog 28 #[.pointer (some ⟨p, 0, none⟩), v] w (RetT (tick win bat (clk + 1) ev f xs) p mb n win bat ev (clk + 1) w) := by
  have ht : tick win bat (clk + 1) ev f xs = (f, []) := by unfold tick; rw [hr]; rfl
  rw [ht]
  obtain ⟨a, cap, rfl, hcap, _⟩ := Sl.form hsl
  have hs1 := hs.tick
  have hk1 : Kp [p] w (w.setCell ⟨p, 3, none⟩ (.int .i64 (clk + 1))) := (Kp.refl [p] w).setCell (.inl (by simp)) _
  have hrow := row_calls P _ cs xs _ (hsl.kq hk1 (fun b hb hm => hP (by rw [List.mem_singleton] at hm; rw [← hm]; exact hv b hb))) (hi.kp hk1 (fun g hg hm => hP (by rw [List.mem_singleton] at hm; rw [← hm]; exact hg))) hn hl
  rw [hr] at hrow
  have HROW := Lib.hid hrow
  have hc3 := cell_heap hs.cells 3
  have f3 := free_heap hs.cells 3
  simp only [List.getElem?_toArray, List.getElem?_cons_zero, List.getElem?_cons_succ] at hc3
  have hclk0 := hs.clk0
  clear hrow ht hr
  go_enter Tryd.func28, Tryd.ntmps28
  go_wp2_with (go_at_call 48; (with_reducible refine HROW.out.mono ?_); rintro e w1 ⟨rfl, hk2⟩)
  go_ret
  exact ⟨_, [], n, rfl, OutR.nil _ _ _, rfl, by omega, hs1.kp hk2 (by simp) (by simp), (hk1.trans hk2.nil).mono (by simp)⟩

set_option maxHeartbeats 2000000 in
theorem tick_okA (P : Nat → Prop) (p mb n win bat : Nat) (ev clk : Int) (f : Sent) (v : Value) (cs : List Value) (xs : List It) (w : World) (hP : ¬ P p) (hP2 : ¬ P mb) (hs : IsS w p mb n win bat ev clk f) (hclk : clk ≤ 100000000000000) (hnn : n ≤ 10000000000000) (hsl : Sl w 2 v xs.length cs) (hv : BlkP P v) (hi : ItC P w cs xs) (hn : xs.length ≤ 100000000000000) (hr : rowB xs = true) (hwx : win < xs.length) :
    Calls Tryd.prog 28 #[.pointer (some ⟨p, 0, none⟩), v] w (RetT (tick win bat (clk + 1) ev f xs) p mb n win bat ev (clk + 1) w) := by
  have ht : tick win bat (clk + 1) ev f xs = ((trun bat (clk + 1) ev (headQ xs) ⟨keepS f xs, [], false⟩ (xs.take win)).f, (trun bat (clk + 1) ev (headQ xs) ⟨keepS f xs, [], false⟩ (xs.take win)).out) := by unfold tick; rw [hr]; rfl
  have HT := Lib.hid ht
  have HWX := Lib.hid hwx
  have hspec := rowB_spec hr
  obtain ⟨a, cap, rfl, hcap, hnil, _⟩ := Sl.form hsl
  have hs1 := hs.tick
  have hk1 : Kp [p] w (w.setCell ⟨p, 3, none⟩ (.int .i64 (clk + 1))) := (Kp.refl [p] w).setCell (.inl (by simp)) _
  have hsl1 := hsl.kq hk1 (fun b hb hm => hP (by rw [List.mem_singleton] at hm; rw [← hm]; exact hv b hb))
  have hi1 := hi.kp hk1 (fun g hg hm => hP (by rw [List.mem_singleton] at hm; rw [← hm]; exact hg))
  have hrow := row_calls P _ cs xs _ hsl1 hi1 hn (fun x hx => by
    obtain ⟨i, hi, rfl⟩ := List.mem_iff_getElem.1 hx
    have := (hspec i hi).2.2.2; omega)
  rw [hr] at hrow
  have HROW := Lib.hid hrow
  have HSP := Lib.hid hspec
  have hc3 := cell_heap hs.cells 3
  have f3 := free_heap hs.cells 3
  simp only [List.getElem?_toArray, List.getElem?_cons_zero, List.getElem?_cons_succ] at hc3
  have hclk0 := hs.clk0
  clear hrow ht hr hspec hwx
  go_enter Tryd.func28, Tryd.ntmps28
  go_wp2_with (go_at_call 48; (with_reducible refine HROW.out.mono ?_); rintro e w1 ⟨rfl, hk2⟩; have hs2 := hs1.kp hk2 (by simp) (by simp); obtain ⟨s0, s1, s2, s3, s4⟩ := cells5 hs2.cells; obtain ⟨D, hown, htell⟩ := hs2.map; obtain ⟨w0, hrun0, hrg0, hg0, hz0⟩ := hown.range mlaw Tryd.underlying85)
  have hkw := hk1.trans hk2.nil
  have hr1 : p < w1.heap.size ∧ mb < w1.heap.size ∧ p ≠ mb := hs2.lt
  have hslw := hsl1.kp hk2 (by simp)
  have hiw := hi1.kp hk2 (by simp)
  clear hrun0 HROW hc3 f3 s0 s1 s2 s3 s4
  have hkeep0 := mid_start xs htell
  go_loopw [5] (fun _ wr => ∃ (left : Lit → Bool) (cnt : Nat) (D : DataW Unit), wr.ranges Tryd.prog 3 (plainElem Tryd.prog 3) mb w1.heap.size n D left cnt ∧ Tells D (mid left f xs) ∧ Kp [mb] w1 wr) (fun _ wr => wr.rangeLeft mb w1.heap.size)
  case atStart => exact ⟨_, _, D, hrg0, hkeep0, (Kp.refl _ w1).grown hg0 nofun⟩
  case round =>
    clear hkeep0 hrg0 hg0 hz0 hown htell D
    obtain ⟨left, cnt, D, hrg, htell, hkr⟩ := hrel
    have HTELL := Lib.hid htell
    clear htell
    go_wp2_with (first
      | (at_next; refine wpList_next_ranges_ii _ rfl _ rfl 3 3 .i64 .i64 mlaw Tryd.underlying3 Tryd.underlying3 mb w1.heap.size n _ _ _ rfl hrg ?_ ?_))
    · intro _ hl0
      have hsr : IsS wr p mb n win bat ev (clk + 1) (keepS f xs) := { hs2 with cells := hkr.heap hs2.cells (by simp; omega), map := ⟨D, hrg.owns, mid_end HTELL.out hl0⟩, old := (fun k c hc => hs2.old k c (keepS_some hc)) }
      have hslr := hslw.kq hkr (fun b hb hm => hP2 (by rw [List.mem_singleton] at hm; rw [← hm]; exact hv b hb))
      have hir := hiw.kp hkr (fun g hg hm => hP2 (by rw [List.mem_singleton] at hm; rw [← hm]; exact hg))
      have hkwr : Kp [p, mb] w wr := (hkw.mono (by simp)).trans (hkr.mono (by simp))
      obtain ⟨s0, s1, s2, s3, s4⟩ := cells5 hsr.cells
      have hw1 := hsr.win1
      have hw9 := hsr.win9
      have hwi : (1 : Int) ≤ win ∧ (win : Int) ≤ 64 := by omega
      obtain ⟨hwi1, hwi2⟩ := hwi
      clear HTELL hrg hkr hslw hiw hkw hs2 hk2 hi1 hsl1 hk1 hs1
      have hwx := HWX.out
      have hci : (xs.length : Int) ≤ cap ∧ (win : Int) < xs.length := by omega
      obtain ⟨hci, hwl⟩ := hci
      have hwd : decide ((win : Int) < xs.length) = true := by simpa using hwl
      have hM : win ≤ xs.length ∧ win ≤ 64 := by omega
      obtain ⟨hM1, hM2⟩ := hM
      go_wp2_with fail
      clear s0 s1 s2 s3 s4 hci hwd hwl
      obtain ⟨wo, rfl⟩ : ∃ wo : World, wo = wr := ⟨_, rfl⟩
      go_loopw [6, 7, 56] (fun v6 v7 v56 wr => ∃ (i : Nat) (l : FL) (st : TS), i ≤ win ∧ v56 = .int .i64 i ∧ trun bat (clk + 1) ev (headQ xs) ⟨keepS f xs, [], false⟩ (xs.take i) = st ∧ v7 = .bool st.op ∧ l.map Prod.fst = st.out ∧ OutR wr w.heap.size bat v6 l ∧ (st.op = true → l ≠ []) ∧ l.length ≤ i ∧ IsS wr p mb (n + i) win bat ev (clk + 1) st.f ∧ Kp [p, mb] w wr) (fun _ _ v56 _ => win - (intOf v56).toNat)
      case atStart => exact ⟨0, [], ⟨keepS f xs, [], false⟩, by omega, rfl, rfl, rfl, rfl, OutR.nil _ _ _, nofun, Nat.le_refl _, hsr, hkwr⟩
      case round =>
        clear hslr hir hsr hkwr D
        obtain ⟨i, l, ⟨sf, so, sop⟩, hiM, rfl, htr, rfl, hlo, hout, hop, hll, hsx, hkx⟩ := hrel
        by_cases hlt : i < win
        · have hslx := hsl.kq hkx (fun b hb hm => by
            rcases List.mem_cons.1 hm with rfl | hm
            · exact hP (hv _ hb)
            · rw [List.mem_singleton] at hm; exact hP2 (by rw [← hm]; exact hv b hb))
          have hix := hi.kp hkx (fun g hg hm => by
            rcases List.mem_cons.1 hm with rfl | hm
            · exact hP hg
            · rw [List.mem_singleton] at hm; exact hP2 (by rw [← hm]; exact hg))
          obtain ⟨ib, io, ua, uc, rfl, hib, hc0, hc1, hbx, hbP, hbW⟩ := item_at2 hi hslx hix rfl i (by omega)
          obtain ⟨ib', io', u0, uc0, he, _, hz0, _, _, _⟩ := item_at hslx hix rfl 0 (by omega)
          cases he
          rw [headQ_get xs (by omega), Nat.zero_mul, Nat.add_zero] at hz0
          have hsnoc := trun_snoc bat (clk + 1) ev (headQ xs) ⟨keepS f xs, [], false⟩ (xs.take i) (xs[i]'(by omega))
          rw [← List.take_succ_eq_append_getElem (by omega), htr] at hsnoc
          obtain ⟨hq1, hq2, -, hb9⟩ := HSP.out i (by omega)
          generalize xs[i]'(by omega) = x at *
          obtain ⟨q, xb⟩ := x
          simp only at hc0 hc1 hbx hq1 hq2 hb9 hbP hbW
          have HTR := Lib.hid htr
          have HSN := Lib.hid hsnoc
          have HLO := Lib.hid hlo
          have HOP := Lib.hid hop
          clear htr hsnoc hlo hop hslx hix
          have hqI : isInt q := ⟨by omega, by omega⟩
          have hltp := hsx.lt
          have hkA := (Kp.refl [] wr).alloc (.cells #[.int .i64 q, .slice ua xb.length uc] 51)
          have hhA := heap_alloc_new wr (.cells #[.int .i64 q, .slice ua xb.length uc] 51)
          have hsA := hsx.kp hkA (by simp) (by simp)
          have hii : (0 : Int) ≤ i ∧ (i : Int) < win ∧ (win : Int) ≤ xs.length ∧ (0 : Int) < xs.length := by omega
          obtain ⟨hi1, hi2, hi3, hi4⟩ := hii
          have hi5 : 0 < xs.length := by omega
          go_wp2_with fail
          (with_reducible refine (due_calls p mb (n + i) win bat ev (clk + 1) q sf _ ua xb.length uc rfl _ hsA (by omega) hqI).mono ?_)
          rintro e w9 ⟨rfl, hk9⟩
          have hs9 := hsA.kp hk9 (by simp) (by simp)
          have hx9 := hk9.heap hhA (by simp)
          have hkx9 : Kp [] wr w9 := hkA.trans hk9
          have hz9 := hkx9.cells0.1 ib io hib
          rw [hz0] at hz9
          have hb9x := hbx.kp0 hkx9
          have hout9 := hout.kp hkx9 (by simp)
          have hkw9 := hkx.trans hkx9.nil
          have hib9 : ib < w9.heap.size := Nat.lt_of_lt_of_le hib hkx9.size
          have hsz9 : wr.heap.size < w9.heap.size := lt_of_heap hx9
          have hwsz : w.heap.size ≤ wr.heap.size := hkx.size
          have hpw : p < w.heap.size ∧ mb < w.heap.size := ⟨hs.lt.1, hs.lt.2.1⟩
          have hown1 : own1 (.slice (some ⟨ib, io, none⟩) xs.length cap) = some ib := own1_of (by omega)
          have hibne : ib ≠ p ∧ ib ≠ mb := ⟨fun e => hP (e ▸ hv ib hown1), fun e => hP2 (e ▸ hv ib hown1)⟩
          have hibw : ib < w.heap.size := hsl.lt ib hown1
          clear hown1
          clear hc0 hc1 hz0 hbx hout hsA hsx hkA hhA hk9
          generalize wr.heap.size = xk at *
          cases hdue : dueB sf (clk + 1) ev q with
          | false =>
            have hst : tstep bat (clk + 1) ev (headQ xs) ⟨sf, so, sop⟩ ⟨q, xb⟩ = ⟨sf, so, false⟩ := by unfold tstep; rw [hdue]; rfl
            have HST := Lib.hid hst
            clear hst hdue
            go_wp2_with fail
            go_roundw
            case measure => simp [intOf]; omega
            case rel => exact ⟨i + 1, l, ⟨sf, so, false⟩, by omega, by go_num, HSN.out.trans HST.out, rfl, HLO.out, hout9, nofun, by omega, { hs9 with map := hs9.map.mono (by omega) }, hkw9⟩
          | true =>
            have HDUE := Lib.hid hdue
            clear hdue
            go_wp2_with fail
            obtain ⟨e0, e1, e2, e3, e4⟩ := cells5 hs9.cells
            have d0 := cell_heap hx9 0
            have d1 := cell_heap hx9 1
            simp only [List.getElem?_toArray, List.getElem?_cons_zero, List.getElem?_cons_succ] at d0 d1
            have hS : Gr w9 [p, xk] w9.drew := Gr.of (fun _ _ => rfl)
            refine wp_plan (.H 0 (.H 1 (.H 2 (.H 3 (.H 4 (.H 5 (.H 6 (.H 7 (.H 8 (.H 9 (.E 10 false .Z))))))))))) (Gr w9 [p, xk]) (by as_aux_lemma => kernel_rfl) (by as_aux_lemma => kernel_rfl) ?_
            repeat (first | (refine plan_H rfl hS (fun K hK => ?_); go_simp; refine hK _ ?_; clear hK K) | (refine plan_E rfl (fun K hK => ?_); go_simp; (first | refine hK _ _ (fun _ => hS) ?_ | refine hK _ _ nofun ?_); clear hK K))
            refine plan_E rfl (fun K hK => ?_)
            refine step_put rfl _ _ _ rfl mb (n + i) sf rfl (hs9.map.kp (Kp.refl [] w9).drew (by simp)) (by omega) q (clk + 1) rfl rfl hqI ⟨by omega, by omega⟩ ?_
            intro w10 hm10 hk10 hz10
            have hk910 : Kp [mb] w9 w10 := ((Kp.refl [mb] w9).drew).trans hk10
            refine hK _ _ nofun ?_
            clear hK K
            refine plan_Z ?_
            have hne : p ≠ mb := hltp.2.2
            have hx10 := hk910.heap hx9 (by have := hltp.2.1; simp; omega)
            have hs10 : IsS w10 p mb (n + (i + 1)) win bat ev (clk + 1) (sf.put q (clk + 1)) := { hs9 with cells := hk910.heap hs9.cells (by simpa using hne), map := hm10, old := (fun k c hc => by
              unfold Sent.put at hc
              split at hc
              · cases hc; omega
              · exact hs9.old k c hc) }
            have hz10 := hk910.cells.1 ib io hib9 (by simpa using hibne.2)
            rw [hz9] at hz10
            have hb10 := hb9x.kq hk910 (fun b hb hm => by
              rw [List.mem_singleton] at hm
              exact hP2 (by rw [← hm]; exact hbP b hb))
            have hout10 := hout9.kp hk910 (by have := hltp.2.1; simp; omega)
            have hkw10 := hkw9.trans (hk910.mono (by simp))
            have hib10 : ib < w10.heap.size := Nat.lt_of_lt_of_le hib9 hk910.size
            clear hS e0 e1 e2 e3 e4 d0 d1 hz9 hm10 hk10 hb9x hout9 hkw9 hs9 hx9 hk910
            obtain ⟨wC, hwC⟩ : ∃ wC, wC = w10.drew := ⟨_, rfl⟩
            have hkC : Kp [] w10 wC := by rw [hwC]; exact (Kp.refl [] w10).drew
            cases sop with
            | false =>
              have hS : Gr w10 [p] w10.drew := Gr.of (fun _ _ => rfl)
              obtain ⟨oa, oc0, rfl⟩ := own_form hout10.row
              go_wp2_with fail
              refine wp_plan (.H 0 (.H 1 (.H 2 (.H 3 (.H 4 (.H 5 (.H 6 (.H 7 (.H 8 (.H 9 (.H 10 (.H 11 (.H 12 (.H 13 (.H 14 (.E 15 false (.E 16 false .Z))))))))))))))))) (Gr w10 [p]) (by as_aux_lemma => kernel_rfl) (by as_aux_lemma => kernel_rfl) ?_
              repeat (first | (refine plan_H rfl hS (fun K hK => ?_); go_simp; refine hK _ ?_; clear hK K) | (refine plan_E rfl (fun K hK => ?_); go_simp; (first | refine hK _ _ (fun _ => hS) ?_ | refine hK _ _ nofun ?_); clear hK K))
              refine plan_Z ?_
              have houtC := hout10.kp hkC (by simp)
              have hsC := hs10.kp hkC (by simp) (by simp)
              have hxC := hkC.heap hx10 (by simp)
              have hbC := hb10.kp0 hkC
              have hkwC := hkw10.trans hkC.nil
              have hzC := hkC.cells0.1 ib io hib10
              rw [hz10] at hzC
              have d0 := cell_heap hxC 0
              simp only [List.getElem?_toArray, List.getElem?_cons_zero, List.getElem?_cons_succ] at d0
              have hibC : ib < wC.heap.size := Nat.lt_of_lt_of_le hib10 hkC.size
              have hxkC := lt_of_heap hxC
              rw [← hwC]
              clear hwC
              have hSC : Gr wC [ib, xk] wC.drew := Gr.of (fun _ _ => rfl)
              go_wp2_with fail
              refine wp_plan (.H 0 (.H 1 (.H 2 (.H 3 (.H 4 (.H 5 (.H 6 (.E 7 true (.E 8 true (.E 9 false (.E 10 false .Z))))))))))) (Gr wC [ib, xk]) (by as_aux_lemma => kernel_rfl) (by as_aux_lemma => kernel_rfl) ?_
              iterate 7 (refine plan_H rfl hSC (fun K hK => ?_); go_simp; refine hK _ ?_; clear hK K)
              refine plan_E rfl (fun K hK => ?_); go_simp
              refine hK _ _ (fun _ => hSC) ?_
              clear hK K
              have hkD : Kp [] wC (wC.alloc (.cells #[.int .i64 1, .int .i64 (headQ xs), .int .i64 q, .slice none 0 0, .slice none 0 0] 25)).drew := ((Kp.refl [] wC).alloc _).drew
              have hSD : Gr wC [ib, xk] (wC.alloc (.cells #[.int .i64 1, .int .i64 (headQ xs), .int .i64 q, .slice none 0 0, .slice none 0 0] 25)).drew := Gr.of (fun b hb => hkD.block b (by
                rcases List.mem_cons.1 hb with rfl | hb
                · exact hibC
                · rw [List.mem_singleton] at hb; rw [hb]; exact hxkC) (by simp))
              refine plan_E rfl (fun K hK => ?_); go_simp
              refine hK _ _ (fun _ => hSD) ?_
              clear hK K
              obtain ⟨i0, hif, hf0, hf1, hf2⟩ := info_parts frinfo
              have hrowD := own_kp houtC.row hkD (by simp)
              have hszC : w.heap.size ≤ wC.heap.size := hkwC.size
              refine plan_E rfl (fun K hK => ?_)
              refine step_app _ rfl _ _ 59 59 rfl w.heap.size 25 i0 _ 5 72 Tryd.underlying59 hif hf0 hf1 hf2 rfl (by omega) (.slice oa l.length oc0) l.length (fcs l) rfl hrowD (.slice (some ⟨wC.heap.size, 0, none⟩) 1 1) 1 [.int .i64 1, .int .i64 (headQ xs), .int .i64 q, .slice none 0 0, .slice none 0 0] rfl (Src.of_sl Tryd.underlying59 ((sl_alloc wC 25 _ _ rfl 5 1 rfl).kp0 ((Kp.refl [] _).drew)) (by simp [Value.oneCell'])) (by omega) (by omega) (by have := hkD.size; omega) ?_
              intro ov wT hoT hgT hxT'
              obtain ⟨ob, oc, rfl, hoc, hob, hobT⟩ := own_some hoT (by omega)
              obtain ⟨g, hg⟩ : ∃ g : Fr, g = ⟨1, headQ xs, q, [], []⟩ := ⟨_, rfl⟩
              have hgl : g.its = [] := by rw [hg]
              have houtT := houtC.add hkD g (by rw [hg]) hgl hgT (by rw [fcs_one, hg]; exact hoT)
              have hkCT : Kp (Value.slice oa l.length oc0).ownBlock.toList wC wT := hkD.nil.grown hgT (fun b hb => .inl (by simp [hb]))
              have hrowC := houtC.row
              have hrowge : ∀ b ∈ (Value.slice oa l.length oc0).ownBlock.toList, w.heap.size ≤ b := fun b hb => (hrowC.lt b (by simpa using hb)).1
              have hsT := hsC.kp hkCT (fun hm => by have := hrowge _ hm; omega) (fun hm => by have := hrowge _ hm; omega)
              have hxT := hkCT.heap hxC (fun hm => by
                have hm' : (Value.slice oa l.length oc0).ownBlock = some xk := by simpa using hm
                rcases hrowC.2 with ⟨h, _⟩ | ⟨g', cap', cur, fr, hv', _, hh', _⟩
                · rw [h] at hm'; cases hm'
                · rw [hv'] at hm'
                  cases hm'
                  rw [hxC] at hh'
                  cases hh')
              have hbT : Bs wT (.slice ua xb.length uc) xb := hbC.kq hkCT (fun b hb hm => by
                have := hrowge _ hm
                have := hbW b hb
                simp only at this
                omega)
              have hkT := hkwC.trans' hkCT (fun b hb => .inr (hrowge b hb))
              obtain ⟨ja, jc, hj⟩ : ∃ (ja : Option Addr) (jc : Nat), Value.slice none 0 0 = .slice ja g.its.length jc := ⟨none, 0, by rw [hgl]; rfl⟩
              rw [hj] at houtT
              have hgf : g.its.length < bat := by have := hs.bat1; rw [hgl]; simp; omega
              have hst : tstep bat (clk + 1) ev (headQ xs) ⟨sf, so, false⟩ ⟨q, xb⟩ = ⟨sf.put q (clk + 1), l.map Prod.fst ++ [{ g with its := g.its ++ [xb] }], true⟩ := by
                unfold tstep
                rw [HDUE.out]
                rw [HLO.out]
                simp [hg, moreIt_snoc]
              have HST := Lib.hid hst
              clear hst hj hgl hg houtC hsC hxC hbC hkwC hzC d0 hSC hkD hrowD hrowC hrowge hkCT hoT hgT hxT'
              generalize l = li at *
              refine hK _ _ nofun ?_
              clear hK K
              refine plan_E rfl (fun K hK => ?_); go_simp
              refine hK _ _ nofun ?_
              clear hK K
              refine plan_Z ?_
              go_wp2_with fail
              have hT1 : (0 : Int) ≤ (li.length : Int) ∧ (li.length : Int) < (li.length : Int) + 1 := by omega
              obtain ⟨hT1, hT2⟩ := hT1
              obtain ⟨gt0, gle, us, hus, hitsT⟩ := houtT.its (g, .slice ja g.its.length jc) (by simp)
              simp only at gt0 gle hus hitsT
              have hrowT : Own wT w.heap.size 25 5 (.slice (some ⟨ob, 0, none⟩) (li.length + 1) oc) (li.length + 1) (fcs (li ++ [(g, .slice ja g.its.length jc)])) := by have h := houtT.row; rwa [show (li ++ [(g, Value.slice ja g.its.length jc)]).length = li.length + 1 by simp] at h
              have cj := hrowT.cellAt (li.length * 5 + 3) (by omega)
              rw [fcs_at] at cj
              have hobw := hrowT.lt ob rfl
              have d0 := cell_heap hxT 0
              have d1 := cell_heap hxT 1
              simp only [List.getElem?_toArray, List.getElem?_cons_zero, List.getElem?_cons_succ] at d0 d1
              have hxkT := lt_of_heap hxT
              have hobx : ob ≠ xk := fun e => by
                rcases hrowT.2 with ⟨h, _⟩ | ⟨g', cap', cur, fr, hv', _, hh', _⟩
                · cases h
                · cases hv'
                  rw [e, hxT] at hh'
                  cases hh'
              go_wp2_with fail
              have hS : Gr wT [ob, xk] wT.drew := Gr.of (fun _ _ => rfl)
              refine wp_plan (.H 0 (.H 1 (.H 2 (.H 3 (.H 4 (.H 5 (.H 6 (.E 7 true (.E 8 true (.E 9 true (.E 10 false (.E 11 false (.E 12 false .Z))))))))))))) (Gr wT [ob, xk]) (by as_aux_lemma => kernel_rfl) (by as_aux_lemma => kernel_rfl) ?_
              repeat (first | (refine plan_H rfl hS (fun K hK => ?_); go_simp; refine hK _ ?_; clear hK K) | (refine plan_E rfl (fun K hK => ?_); go_simp; (first | refine hK _ _ (fun _ => hS) ?_ | refine hK _ _ nofun ?_); clear hK K))
              obtain ⟨i0, hiu, hu0, hu1, hu2⟩ := info_parts u8info
              refine plan_E rfl (fun K hK => ?_)
              refine step_app _ rfl _ _ 23 23 rfl wT.heap.size 5 i0 _ 1 1 Tryd.underlying23 hiu hu0 hu1 hu2 rfl (by omega) (.slice none 0 0) 0 [] rfl (Own.nil _ _ _ _) (.slice ua xb.length uc) _ _ rfl (Src.of_sl Tryd.underlying23 (hbT.kp0 ((Kp.refl [] wT).drew)) bcells_one) (by omega) (by omega) (Nat.le_refl _) ?_
              intro xv w21 hxo hg21 hx21
              rw [Nat.zero_add, List.nil_append] at hxo
              obtain ⟨xa, xc, rfl⟩ := own_form hxo
              have hk21 : Kp [] wT w21 := (((Kp.refl [] wT).drew).grown hg21 nofun)
              have hS21 : Gr wT [ob, xk] w21 := Gr.of (fun b hb => hk21.block b (by
                rcases List.mem_cons.1 hb with rfl | hb
                · exact hobw.2
                · rw [List.mem_singleton] at hb; rw [hb]; exact hxkT) (by simp))
              refine hK _ _ (fun _ => hS21) ?_
              clear hK K
              refine plan_E rfl (fun K hK => ?_); go_simp
              have hk22 : Kp [] wT (w21.alloc (.cells #[.slice xa xb.length xc] 23)) := hk21.alloc _
              have hS22 : Gr wT [ob, xk] (w21.alloc (.cells #[.slice xa xb.length xc] 23)) := Gr.of (fun b hb => hk22.block b (by
                rcases List.mem_cons.1 hb with rfl | hb
                · exact hobw.2
                · rw [List.mem_singleton] at hb; rw [hb]; exact hxkT) (by simp))
              refine hK _ _ (fun _ => hS22) ?_
              clear hK K
              obtain ⟨i1, hir, hr0', hr1', hr2'⟩ := info_parts rowinfo
              have hus22 := own_kp hus hk22 (by simp)
              have hsz22 := hk22.size
              have hbat9 := hs.bat9
              refine plan_E rfl (fun K hK => ?_)
              refine step_app _ rfl _ _ 22 22 rfl w.heap.size 23 i1 _ 1 24 Tryd.underlying22 hir hr0' hr1' hr2' rfl (by omega) (.slice ja g.its.length jc) g.its.length us rfl hus22 (.slice (some ⟨w21.heap.size, 0, none⟩) 1 1) 1 [.slice xa xb.length xc] rfl (Src.of_sl Tryd.underlying22 (sl_alloc w21 23 _ _ rfl 1 1 rfl) (by simp [Value.oneCell'])) (by omega) (by omega) (by omega) ?_
              intro jv w23 ho23 hg23 hx23
              obtain ⟨ja', jc', rfl⟩ := own_form ho23
              obtain ⟨hfin, hkf⟩ := OutR.more houtT hus hitsT hk21 (own_base hxo (fun b hb => (Own.lt hxo b hb).1)) (by omega) ((Kp.refl [] w21).alloc _) hg23 hgf ho23 hx23
              have hkj : Kp (Value.slice ja g.its.length jc).ownBlock.toList wT w23 := hk22.nil.grown hg23 (fun q hq => .inl (by simp [hq]))
              have hrow23 := own_kp hrowT hkj (fun b hb hm => own_ne hrowT hus (by decide) b hb (by simpa using hm))
              have c23 := hrow23.cellAt (li.length * 5 + 3) (by omega)
              rw [fcs_at] at c23
              have hcap := Own.frozenAt hrow23 (li.length * 5 + 3) (by have := own_cap hrow23; omega)
              have hkeepP : ∀ b ∈ ob :: (Value.slice ja g.its.length jc).ownBlock.toList, w.heap.size ≤ b := fun b hb => by
                rcases List.mem_cons.1 hb with rfl | hb
                · exact hobw.1
                · exact (hus.lt b (by simpa using hb)).1
              have hsF := hsT.kp hkf (fun hm => by have := hkeepP _ hm; omega) (fun hm => by have := hkeepP _ hm; omega)
              have hkwF : Kp [p, mb] w (w23.setCell ⟨ob, li.length * 5 + 3, none⟩ (.slice ja' (g.its.length + 1) jc')) := hkT.trans' hkf (fun b hb => .inr (hkeepP b hb))
              have hobj : ob ∉ (Value.slice ja g.its.length jc).ownBlock.toList := fun hm => own_ne hus hrowT (by decide) ob (by simpa using hm) rfl
              have hxj : xk ∉ (Value.slice ja g.its.length jc).ownBlock.toList := fun hm => by
                have hm' : (Value.slice ja g.its.length jc).ownBlock = some xk := by simpa using hm
                rcases hus.2 with ⟨h, _⟩ | ⟨g', cap', cur, fr, hv', _, hh', _⟩
                · rw [h] at hm'; cases hm'
                · rw [hv'] at hm'
                  cases hm'
                  rw [hxT] at hh'
                  cases hh'
              have hS23 : Gr wT [ob, xk] w23 := Gr.of (fun b hb => by
                rcases List.mem_cons.1 hb with rfl | hb
                · exact hkj.block _ hobw.2 hobj
                · rw [List.mem_singleton] at hb; subst hb; exact hkj.block _ hxkT hxj)
              have HFIN := Lib.hid hfin
              have HSF := Lib.hid hsF
              have HKW := Lib.hid hkwF
              clear hfin hsF hkwF hkf hkeepP hrowT hrow23 hus22 hxo ho23 hus hitsT houtT hsT hkT
              refine hK _ _ (fun _ => hS23) ?_
              clear hK K
              refine plan_E rfl (fun K hK => ?_); go_simp
              refine hK _ _ nofun ?_
              clear hK K
              refine plan_E rfl (fun K hK => ?_); go_simp
              refine hK _ _ nofun ?_
              clear hK K
              refine plan_E rfl (fun K hK => ?_); go_simp
              refine hK _ _ nofun ?_
              clear hK K
              refine plan_Z ?_
              have hi64 : (i : Int) ≤ 64 := by omega
              go_wp2_with fail
              go_roundw
              case measure => simp [intOf]; omega
              case rel => exact ⟨i + 1, li ++ [({ g with its := g.its ++ [xb] }, .slice ja' (g.its.length + 1) jc')], ⟨sf.put q (clk + 1), li.map Prod.fst ++ [{ g with its := g.its ++ [xb] }], true⟩, by omega, by go_num, HSN.out.trans HST.out, rfl, by simp, HFIN.out, fun _ => by simp, by simp; omega, HSF.out, HKW.out⟩
            | true =>
              obtain ⟨li, ⟨g, j⟩, rfl⟩ : ∃ li x, l = li ++ [x] := ⟨l.dropLast, l.getLast (HOP.out rfl), (List.dropLast_concat_getLast (HOP.out rfl)).symm⟩
              obtain ⟨ob, oc, rfl, hoc, hob⟩ := own_some hout10.row (by simp)
              have hlen : (li ++ [(g, j)]).length = li.length + 1 := by simp
              obtain ⟨_, gle0, us0, hus0, _⟩ := hout10.its (g, j) (by simp)
              simp only at gle0 hus0
              obtain ⟨ja, jc, rfl⟩ := own_form hus0
              have hrow10 : Own w10 w.heap.size 25 5 (.slice (some ⟨ob, 0, none⟩) (li.length + 1) oc) (li.length + 1) (fcs (li ++ [(g, .slice ja g.its.length jc)])) := by have h := hout10.row; rwa [show (li ++ [(g, Value.slice ja g.its.length jc)]).length = li.length + 1 by simp] at h
              have cj := hrow10.cellAt (li.length * 5 + 3) (by omega)
              rw [fcs_at] at cj
              rw [hlen] at hout10 ⊢
              obtain ⟨e0, e1, e2, e3, e4⟩ := cells5 hs10.cells
              have hT1 : (0 : Int) ≤ (li.length : Int) ∧ (li.length : Int) < (li.length : Int) + 1 := by omega
              obtain ⟨hT1, hT2⟩ := hT1
              have hwr : IntKind.i64.wrap (li.length : Int) = li.length := IntWalk.i64_in _ (by rw [hlen] at hll; omega)
              by_cases hfu : g.its.length = bat
              · have hd : ((g.its.length : Int) == (bat : Int)) = true := by rw [beq_iff_eq]; omega
                have hful : fullB so bat = true := by
                  have hso : so = li.map Prod.fst ++ [g] := by rw [← HLO.out]; simp
                  rw [hso, fullB_snoc]; simpa using hfu
                have HFUL := Lib.hid hful
                clear hful hfu
                go_wp2_with fail
                have hS : Gr w10 [p, ob] w10.drew := Gr.of (fun _ _ => rfl)
                refine wp_plan (.H 0 (.H 1 (.H 2 (.H 3 (.H 4 (.H 5 (.H 6 (.H 7 (.H 8 (.H 9 (.H 10 (.H 11 (.H 12 (.H 13 (.H 14 (.E 15 false (.E 16 false .Z))))))))))))))))) (Gr w10 [p, ob]) (by as_aux_lemma => kernel_rfl) (by as_aux_lemma => kernel_rfl) ?_
                repeat (first | (refine plan_H rfl hS (fun K hK => ?_); go_simp; refine hK _ ?_; clear hK K) | (refine plan_E rfl (fun K hK => ?_); go_simp; (first | refine hK _ _ (fun _ => hS) ?_ | refine hK _ _ nofun ?_); clear hK K))
                clear hS e0 e1 e2 e3 e4 hT1 hT2 hwr cj hrow10 hus0 gle0 hd
                obtain ⟨oa, hoa⟩ : ∃ oa : Option Addr, oa = some ⟨ob, 0, none⟩ := ⟨_, rfl⟩
                rw [← hoa, ← hlen] at hout10 ⊢
                clear hoa hlen hoc hob
                generalize li ++ [(g, Value.slice ja g.its.length jc)] = l at *
                obtain ⟨oc0, hoc0⟩ : ∃ x, x = oc := ⟨_, rfl⟩
                rw [← hoc0] at hout10 ⊢
                clear hoc0
                have hful := HFUL.out
                refine plan_Z ?_
                have houtC := hout10.kp hkC (by simp)
                have hsC := hs10.kp hkC (by simp) (by simp)
                have hxC := hkC.heap hx10 (by simp)
                have hbC := hb10.kp0 hkC
                have hkwC := hkw10.trans hkC.nil
                have hzC := hkC.cells0.1 ib io hib10
                rw [hz10] at hzC
                have d0 := cell_heap hxC 0
                simp only [List.getElem?_toArray, List.getElem?_cons_zero, List.getElem?_cons_succ] at d0
                have hibC : ib < wC.heap.size := Nat.lt_of_lt_of_le hib10 hkC.size
                have hxkC := lt_of_heap hxC
                rw [← hwC]
                clear hwC
                have hSC : Gr wC [ib, xk] wC.drew := Gr.of (fun _ _ => rfl)
                go_wp2_with fail
                refine wp_plan (.H 0 (.H 1 (.H 2 (.H 3 (.H 4 (.H 5 (.H 6 (.E 7 true (.E 8 true (.E 9 false (.E 10 false .Z))))))))))) (Gr wC [ib, xk]) (by as_aux_lemma => kernel_rfl) (by as_aux_lemma => kernel_rfl) ?_
                iterate 7 (refine plan_H rfl hSC (fun K hK => ?_); go_simp; refine hK _ ?_; clear hK K)
                refine plan_E rfl (fun K hK => ?_); go_simp
                refine hK _ _ (fun _ => hSC) ?_
                clear hK K
                have hkD : Kp [] wC (wC.alloc (.cells #[.int .i64 1, .int .i64 (headQ xs), .int .i64 q, .slice none 0 0, .slice none 0 0] 25)).drew := ((Kp.refl [] wC).alloc _).drew
                have hSD : Gr wC [ib, xk] (wC.alloc (.cells #[.int .i64 1, .int .i64 (headQ xs), .int .i64 q, .slice none 0 0, .slice none 0 0] 25)).drew := Gr.of (fun b hb => hkD.block b (by
                  rcases List.mem_cons.1 hb with rfl | hb
                  · exact hibC
                  · rw [List.mem_singleton] at hb; rw [hb]; exact hxkC) (by simp))
                refine plan_E rfl (fun K hK => ?_); go_simp
                refine hK _ _ (fun _ => hSD) ?_
                clear hK K
                obtain ⟨i0, hif, hf0, hf1, hf2⟩ := info_parts frinfo
                have hrowD := own_kp houtC.row hkD (by simp)
                have hszC : w.heap.size ≤ wC.heap.size := hkwC.size
                refine plan_E rfl (fun K hK => ?_)
                refine step_app _ rfl _ _ 59 59 rfl w.heap.size 25 i0 _ 5 72 Tryd.underlying59 hif hf0 hf1 hf2 rfl (by omega) (.slice oa l.length oc0) l.length (fcs l) rfl hrowD (.slice (some ⟨wC.heap.size, 0, none⟩) 1 1) 1 [.int .i64 1, .int .i64 (headQ xs), .int .i64 q, .slice none 0 0, .slice none 0 0] rfl (Src.of_sl Tryd.underlying59 ((sl_alloc wC 25 _ _ rfl 5 1 rfl).kp0 ((Kp.refl [] _).drew)) (by simp [Value.oneCell'])) (by omega) (by omega) (by have := hkD.size; omega) ?_
                intro ov wT hoT hgT hxT'
                obtain ⟨ob, oc, rfl, hoc, hob, hobT⟩ := own_some hoT (by omega)
                obtain ⟨g, hg⟩ : ∃ g : Fr, g = ⟨1, headQ xs, q, [], []⟩ := ⟨_, rfl⟩
                have hgl : g.its = [] := by rw [hg]
                have houtT := houtC.add hkD g (by rw [hg]) hgl hgT (by rw [fcs_one, hg]; exact hoT)
                have hkCT : Kp (Value.slice oa l.length oc0).ownBlock.toList wC wT := hkD.nil.grown hgT (fun b hb => .inl (by simp [hb]))
                have hrowC := houtC.row
                have hrowge : ∀ b ∈ (Value.slice oa l.length oc0).ownBlock.toList, w.heap.size ≤ b := fun b hb => (hrowC.lt b (by simpa using hb)).1
                have hsT := hsC.kp hkCT (fun hm => by have := hrowge _ hm; omega) (fun hm => by have := hrowge _ hm; omega)
                have hxT := hkCT.heap hxC (fun hm => by
                  have hm' : (Value.slice oa l.length oc0).ownBlock = some xk := by simpa using hm
                  rcases hrowC.2 with ⟨h, _⟩ | ⟨g', cap', cur, fr, hv', _, hh', _⟩
                  · rw [h] at hm'; cases hm'
                  · rw [hv'] at hm'
                    cases hm'
                    rw [hxC] at hh'
                    cases hh')
                have hbT : Bs wT (.slice ua xb.length uc) xb := hbC.kq hkCT (fun b hb hm => by
                  have := hrowge _ hm
                  have := hbW b hb
                  simp only at this
                  omega)
                have hkT := hkwC.trans' hkCT (fun b hb => .inr (hrowge b hb))
                obtain ⟨ja, jc, hj⟩ : ∃ (ja : Option Addr) (jc : Nat), Value.slice none 0 0 = .slice ja g.its.length jc := ⟨none, 0, by rw [hgl]; rfl⟩
                rw [hj] at houtT
                have hgf : g.its.length < bat := by have := hs.bat1; rw [hgl]; simp; omega
                have hst : tstep bat (clk + 1) ev (headQ xs) ⟨sf, so, true⟩ ⟨q, xb⟩ = ⟨sf.put q (clk + 1), l.map Prod.fst ++ [{ g with its := g.its ++ [xb] }], true⟩ := by
                  unfold tstep
                  rw [HDUE.out]
                  rw [HLO.out]
                  simp [hg, moreIt_snoc, hful]
                have HST := Lib.hid hst
                clear hful hst hj hgl hg houtC hsC hxC hbC hkwC hzC d0 hSC hkD hrowD hrowC hrowge hkCT hoT hgT hxT'
                generalize l = li at *
                refine hK _ _ nofun ?_
                clear hK K
                refine plan_E rfl (fun K hK => ?_); go_simp
                refine hK _ _ nofun ?_
                clear hK K
                refine plan_Z ?_
                go_wp2_with fail
                have hT1 : (0 : Int) ≤ (li.length : Int) ∧ (li.length : Int) < (li.length : Int) + 1 := by omega
                obtain ⟨hT1, hT2⟩ := hT1
                obtain ⟨gt0, gle, us, hus, hitsT⟩ := houtT.its (g, .slice ja g.its.length jc) (by simp)
                simp only at gt0 gle hus hitsT
                have hrowT : Own wT w.heap.size 25 5 (.slice (some ⟨ob, 0, none⟩) (li.length + 1) oc) (li.length + 1) (fcs (li ++ [(g, .slice ja g.its.length jc)])) := by have h := houtT.row; rwa [show (li ++ [(g, Value.slice ja g.its.length jc)]).length = li.length + 1 by simp] at h
                have cj := hrowT.cellAt (li.length * 5 + 3) (by omega)
                rw [fcs_at] at cj
                have hobw := hrowT.lt ob rfl
                have d0 := cell_heap hxT 0
                have d1 := cell_heap hxT 1
                simp only [List.getElem?_toArray, List.getElem?_cons_zero, List.getElem?_cons_succ] at d0 d1
                have hxkT := lt_of_heap hxT
                have hobx : ob ≠ xk := fun e => by
                  rcases hrowT.2 with ⟨h, _⟩ | ⟨g', cap', cur, fr, hv', _, hh', _⟩
                  · cases h
                  · cases hv'
                    rw [e, hxT] at hh'
                    cases hh'
                go_wp2_with fail
                have hS : Gr wT [ob, xk] wT.drew := Gr.of (fun _ _ => rfl)
                refine wp_plan (.H 0 (.H 1 (.H 2 (.H 3 (.H 4 (.H 5 (.H 6 (.E 7 true (.E 8 true (.E 9 true (.E 10 false (.E 11 false (.E 12 false .Z))))))))))))) (Gr wT [ob, xk]) (by as_aux_lemma => kernel_rfl) (by as_aux_lemma => kernel_rfl) ?_
                repeat (first | (refine plan_H rfl hS (fun K hK => ?_); go_simp; refine hK _ ?_; clear hK K) | (refine plan_E rfl (fun K hK => ?_); go_simp; (first | refine hK _ _ (fun _ => hS) ?_ | refine hK _ _ nofun ?_); clear hK K))
                obtain ⟨i0, hiu, hu0, hu1, hu2⟩ := info_parts u8info
                refine plan_E rfl (fun K hK => ?_)
                refine step_app _ rfl _ _ 23 23 rfl wT.heap.size 5 i0 _ 1 1 Tryd.underlying23 hiu hu0 hu1 hu2 rfl (by omega) (.slice none 0 0) 0 [] rfl (Own.nil _ _ _ _) (.slice ua xb.length uc) _ _ rfl (Src.of_sl Tryd.underlying23 (hbT.kp0 ((Kp.refl [] wT).drew)) bcells_one) (by omega) (by omega) (Nat.le_refl _) ?_
                intro xv w21 hxo hg21 hx21
                rw [Nat.zero_add, List.nil_append] at hxo
                obtain ⟨xa, xc, rfl⟩ := own_form hxo
                have hk21 : Kp [] wT w21 := (((Kp.refl [] wT).drew).grown hg21 nofun)
                have hS21 : Gr wT [ob, xk] w21 := Gr.of (fun b hb => hk21.block b (by
                  rcases List.mem_cons.1 hb with rfl | hb
                  · exact hobw.2
                  · rw [List.mem_singleton] at hb; rw [hb]; exact hxkT) (by simp))
                refine hK _ _ (fun _ => hS21) ?_
                clear hK K
                refine plan_E rfl (fun K hK => ?_); go_simp
                have hk22 : Kp [] wT (w21.alloc (.cells #[.slice xa xb.length xc] 23)) := hk21.alloc _
                have hS22 : Gr wT [ob, xk] (w21.alloc (.cells #[.slice xa xb.length xc] 23)) := Gr.of (fun b hb => hk22.block b (by
                  rcases List.mem_cons.1 hb with rfl | hb
                  · exact hobw.2
                  · rw [List.mem_singleton] at hb; rw [hb]; exact hxkT) (by simp))
                refine hK _ _ (fun _ => hS22) ?_
                clear hK K
                obtain ⟨i1, hir, hr0', hr1', hr2'⟩ := info_parts rowinfo
                have hus22 := own_kp hus hk22 (by simp)
                have hsz22 := hk22.size
                have hbat9 := hs.bat9
                refine plan_E rfl (fun K hK => ?_)
                refine step_app _ rfl _ _ 22 22 rfl w.heap.size 23 i1 _ 1 24 Tryd.underlying22 hir hr0' hr1' hr2' rfl (by omega) (.slice ja g.its.length jc) g.its.length us rfl hus22 (.slice (some ⟨w21.heap.size, 0, none⟩) 1 1) 1 [.slice xa xb.length xc] rfl (Src.of_sl Tryd.underlying22 (sl_alloc w21 23 _ _ rfl 1 1 rfl) (by simp [Value.oneCell'])) (by omega) (by omega) (by omega) ?_
                intro jv w23 ho23 hg23 hx23
                obtain ⟨ja', jc', rfl⟩ := own_form ho23
                obtain ⟨hfin, hkf⟩ := OutR.more houtT hus hitsT hk21 (own_base hxo (fun b hb => (Own.lt hxo b hb).1)) (by omega) ((Kp.refl [] w21).alloc _) hg23 hgf ho23 hx23
                have hkj : Kp (Value.slice ja g.its.length jc).ownBlock.toList wT w23 := hk22.nil.grown hg23 (fun q hq => .inl (by simp [hq]))
                have hrow23 := own_kp hrowT hkj (fun b hb hm => own_ne hrowT hus (by decide) b hb (by simpa using hm))
                have c23 := hrow23.cellAt (li.length * 5 + 3) (by omega)
                rw [fcs_at] at c23
                have hcap := Own.frozenAt hrow23 (li.length * 5 + 3) (by have := own_cap hrow23; omega)
                have hkeepP : ∀ b ∈ ob :: (Value.slice ja g.its.length jc).ownBlock.toList, w.heap.size ≤ b := fun b hb => by
                  rcases List.mem_cons.1 hb with rfl | hb
                  · exact hobw.1
                  · exact (hus.lt b (by simpa using hb)).1
                have hsF := hsT.kp hkf (fun hm => by have := hkeepP _ hm; omega) (fun hm => by have := hkeepP _ hm; omega)
                have hkwF : Kp [p, mb] w (w23.setCell ⟨ob, li.length * 5 + 3, none⟩ (.slice ja' (g.its.length + 1) jc')) := hkT.trans' hkf (fun b hb => .inr (hkeepP b hb))
                have hobj : ob ∉ (Value.slice ja g.its.length jc).ownBlock.toList := fun hm => own_ne hus hrowT (by decide) ob (by simpa using hm) rfl
                have hxj : xk ∉ (Value.slice ja g.its.length jc).ownBlock.toList := fun hm => by
                  have hm' : (Value.slice ja g.its.length jc).ownBlock = some xk := by simpa using hm
                  rcases hus.2 with ⟨h, _⟩ | ⟨g', cap', cur, fr, hv', _, hh', _⟩
                  · rw [h] at hm'; cases hm'
                  · rw [hv'] at hm'
                    cases hm'
                    rw [hxT] at hh'
                    cases hh'
                have hS23 : Gr wT [ob, xk] w23 := Gr.of (fun b hb => by
                  rcases List.mem_cons.1 hb with rfl | hb
                  · exact hkj.block _ hobw.2 hobj
                  · rw [List.mem_singleton] at hb; subst hb; exact hkj.block _ hxkT hxj)
                have HFIN := Lib.hid hfin
                have HSF := Lib.hid hsF
                have HKW := Lib.hid hkwF
                clear hfin hsF hkwF hkf hkeepP hrowT hrow23 hus22 hxo ho23 hus hitsT houtT hsT hkT
                refine hK _ _ (fun _ => hS23) ?_
                clear hK K
                refine plan_E rfl (fun K hK => ?_); go_simp
                refine hK _ _ nofun ?_
                clear hK K
                refine plan_E rfl (fun K hK => ?_); go_simp
                refine hK _ _ nofun ?_
                clear hK K
                refine plan_E rfl (fun K hK => ?_); go_simp
                refine hK _ _ nofun ?_
                clear hK K
                refine plan_Z ?_
                have hi64 : (i : Int) ≤ 64 := by omega
                go_wp2_with fail
                go_roundw
                case measure => simp [intOf]; omega
                case rel => exact ⟨i + 1, li ++ [({ g with its := g.its ++ [xb] }, .slice ja' (g.its.length + 1) jc')], ⟨sf.put q (clk + 1), li.map Prod.fst ++ [{ g with its := g.its ++ [xb] }], true⟩, by omega, by go_num, HSN.out.trans HST.out, rfl, by simp, HFIN.out, fun _ => by simp, by simp; omega, HSF.out, HKW.out⟩
              · have hd : ((g.its.length : Int) == (bat : Int)) = false := by rw [beq_eq_false_iff_ne]; omega
                have hgf : g.its.length < bat := by omega
                have hst : tstep bat (clk + 1) ev (headQ xs) ⟨sf, so, true⟩ ⟨q, xb⟩ = ⟨sf.put q (clk + 1), li.map Prod.fst ++ [{ g with its := g.its ++ [xb] }], true⟩ := by
                  unfold tstep
                  rw [HDUE.out]
                  have hso : so = li.map Prod.fst ++ [g] := by rw [← HLO.out]; simp
                  simp [hso, fullB_snoc, hfu, moreIt_snoc]
                have HST := Lib.hid hst
                clear hst hfu
                go_wp2_with fail
                have hS : Gr w10 [p, ob] w10.drew := Gr.of (fun _ _ => rfl)
                refine wp_plan (.H 0 (.H 1 (.H 2 (.H 3 (.H 4 (.H 5 (.H 6 (.H 7 (.H 8 (.H 9 (.H 10 (.H 11 (.H 12 (.H 13 (.H 14 (.E 15 false (.E 16 false .Z))))))))))))))))) (Gr w10 [p, ob]) (by as_aux_lemma => kernel_rfl) (by as_aux_lemma => kernel_rfl) ?_
                repeat (first | (refine plan_H rfl hS (fun K hK => ?_); go_simp; refine hK _ ?_; clear hK K) | (refine plan_E rfl (fun K hK => ?_); go_simp; (first | refine hK _ _ (fun _ => hS) ?_ | refine hK _ _ nofun ?_); clear hK K))
                refine plan_Z ?_
                have houtT := hout10.kp hkC (by simp)
                have hsT := hs10.kp hkC (by simp) (by simp)
                have hxT := hkC.heap hx10 (by simp)
                have hbT := hb10.kp0 hkC
                have hkT := hkw10.trans hkC.nil
                rw [← hwC]
                clear hwC e0 e1 e2 e3 e4 cj hwr hrow10 hus0 hS hT1 hT2
                generalize wC = wT at *
                rw [hlen] at hll
                have hT1 : (0 : Int) ≤ (li.length : Int) ∧ (li.length : Int) < (li.length : Int) + 1 := by omega
                obtain ⟨hT1, hT2⟩ := hT1
                obtain ⟨gt0, gle, us, hus, hitsT⟩ := houtT.its (g, .slice ja g.its.length jc) (by simp)
                simp only at gt0 gle hus hitsT
                have hrowT : Own wT w.heap.size 25 5 (.slice (some ⟨ob, 0, none⟩) (li.length + 1) oc) (li.length + 1) (fcs (li ++ [(g, .slice ja g.its.length jc)])) := by have h := houtT.row; rwa [show (li ++ [(g, Value.slice ja g.its.length jc)]).length = li.length + 1 by simp] at h
                have cj := hrowT.cellAt (li.length * 5 + 3) (by omega)
                rw [fcs_at] at cj
                have hobw := hrowT.lt ob rfl
                have d0 := cell_heap hxT 0
                have d1 := cell_heap hxT 1
                simp only [List.getElem?_toArray, List.getElem?_cons_zero, List.getElem?_cons_succ] at d0 d1
                have hxkT := lt_of_heap hxT
                have hobx : ob ≠ xk := fun e => by
                  rcases hrowT.2 with ⟨h, _⟩ | ⟨g', cap', cur, fr, hv', _, hh', _⟩
                  · cases h
                  · cases hv'
                    rw [e, hxT] at hh'
                    cases hh'
                go_wp2_with fail
                have hS : Gr wT [ob, xk] wT.drew := Gr.of (fun _ _ => rfl)
                refine wp_plan (.H 0 (.H 1 (.H 2 (.H 3 (.H 4 (.H 5 (.H 6 (.E 7 true (.E 8 true (.E 9 true (.E 10 false (.E 11 false (.E 12 false .Z))))))))))))) (Gr wT [ob, xk]) (by as_aux_lemma => kernel_rfl) (by as_aux_lemma => kernel_rfl) ?_
                repeat (first | (refine plan_H rfl hS (fun K hK => ?_); go_simp; refine hK _ ?_; clear hK K) | (refine plan_E rfl (fun K hK => ?_); go_simp; (first | refine hK _ _ (fun _ => hS) ?_ | refine hK _ _ nofun ?_); clear hK K))
                obtain ⟨i0, hiu, hu0, hu1, hu2⟩ := info_parts u8info
                refine plan_E rfl (fun K hK => ?_)
                refine step_app _ rfl _ _ 23 23 rfl wT.heap.size 5 i0 _ 1 1 Tryd.underlying23 hiu hu0 hu1 hu2 rfl (by omega) (.slice none 0 0) 0 [] rfl (Own.nil _ _ _ _) (.slice ua xb.length uc) _ _ rfl (Src.of_sl Tryd.underlying23 (hbT.kp0 ((Kp.refl [] wT).drew)) bcells_one) (by omega) (by omega) (Nat.le_refl _) ?_
                intro xv w21 hxo hg21 hx21
                rw [Nat.zero_add, List.nil_append] at hxo
                obtain ⟨xa, xc, rfl⟩ := own_form hxo
                have hk21 : Kp [] wT w21 := (((Kp.refl [] wT).drew).grown hg21 nofun)
                have hS21 : Gr wT [ob, xk] w21 := Gr.of (fun b hb => hk21.block b (by
                  rcases List.mem_cons.1 hb with rfl | hb
                  · exact hobw.2
                  · rw [List.mem_singleton] at hb; rw [hb]; exact hxkT) (by simp))
                refine hK _ _ (fun _ => hS21) ?_
                clear hK K
                refine plan_E rfl (fun K hK => ?_); go_simp
                have hk22 : Kp [] wT (w21.alloc (.cells #[.slice xa xb.length xc] 23)) := hk21.alloc _
                have hS22 : Gr wT [ob, xk] (w21.alloc (.cells #[.slice xa xb.length xc] 23)) := Gr.of (fun b hb => hk22.block b (by
                  rcases List.mem_cons.1 hb with rfl | hb
                  · exact hobw.2
                  · rw [List.mem_singleton] at hb; rw [hb]; exact hxkT) (by simp))
                refine hK _ _ (fun _ => hS22) ?_
                clear hK K
                obtain ⟨i1, hir, hr0', hr1', hr2'⟩ := info_parts rowinfo
                have hus22 := own_kp hus hk22 (by simp)
                have hsz22 := hk22.size
                have hbat9 := hs.bat9
                refine plan_E rfl (fun K hK => ?_)
                refine step_app _ rfl _ _ 22 22 rfl w.heap.size 23 i1 _ 1 24 Tryd.underlying22 hir hr0' hr1' hr2' rfl (by omega) (.slice ja g.its.length jc) g.its.length us rfl hus22 (.slice (some ⟨w21.heap.size, 0, none⟩) 1 1) 1 [.slice xa xb.length xc] rfl (Src.of_sl Tryd.underlying22 (sl_alloc w21 23 _ _ rfl 1 1 rfl) (by simp [Value.oneCell'])) (by omega) (by omega) (by omega) ?_
                intro jv w23 ho23 hg23 hx23
                obtain ⟨ja', jc', rfl⟩ := own_form ho23
                obtain ⟨hfin, hkf⟩ := OutR.more houtT hus hitsT hk21 (own_base hxo (fun b hb => (Own.lt hxo b hb).1)) (by omega) ((Kp.refl [] w21).alloc _) hg23 hgf ho23 hx23
                have hkj : Kp (Value.slice ja g.its.length jc).ownBlock.toList wT w23 := hk22.nil.grown hg23 (fun q hq => .inl (by simp [hq]))
                have hrow23 := own_kp hrowT hkj (fun b hb hm => own_ne hrowT hus (by decide) b hb (by simpa using hm))
                have c23 := hrow23.cellAt (li.length * 5 + 3) (by omega)
                rw [fcs_at] at c23
                have hcap := Own.frozenAt hrow23 (li.length * 5 + 3) (by have := own_cap hrow23; omega)
                have hkeepP : ∀ b ∈ ob :: (Value.slice ja g.its.length jc).ownBlock.toList, w.heap.size ≤ b := fun b hb => by
                  rcases List.mem_cons.1 hb with rfl | hb
                  · exact hobw.1
                  · exact (hus.lt b (by simpa using hb)).1
                have hsF := hsT.kp hkf (fun hm => by have := hkeepP _ hm; omega) (fun hm => by have := hkeepP _ hm; omega)
                have hkwF : Kp [p, mb] w (w23.setCell ⟨ob, li.length * 5 + 3, none⟩ (.slice ja' (g.its.length + 1) jc')) := hkT.trans' hkf (fun b hb => .inr (hkeepP b hb))
                have hobj : ob ∉ (Value.slice ja g.its.length jc).ownBlock.toList := fun hm => own_ne hus hrowT (by decide) ob (by simpa using hm) rfl
                have hxj : xk ∉ (Value.slice ja g.its.length jc).ownBlock.toList := fun hm => by
                  have hm' : (Value.slice ja g.its.length jc).ownBlock = some xk := by simpa using hm
                  rcases hus.2 with ⟨h, _⟩ | ⟨g', cap', cur, fr, hv', _, hh', _⟩
                  · rw [h] at hm'; cases hm'
                  · rw [hv'] at hm'
                    cases hm'
                    rw [hxT] at hh'
                    cases hh'
                have hS23 : Gr wT [ob, xk] w23 := Gr.of (fun b hb => by
                  rcases List.mem_cons.1 hb with rfl | hb
                  · exact hkj.block _ hobw.2 hobj
                  · rw [List.mem_singleton] at hb; subst hb; exact hkj.block _ hxkT hxj)
                have HFIN := Lib.hid hfin
                have HSF := Lib.hid hsF
                have HKW := Lib.hid hkwF
                clear hfin hsF hkwF hkf hkeepP hrowT hrow23 hus22 hxo ho23 hus hitsT houtT hsT hkT
                refine hK _ _ (fun _ => hS23) ?_
                clear hK K
                refine plan_E rfl (fun K hK => ?_); go_simp
                refine hK _ _ nofun ?_
                clear hK K
                refine plan_E rfl (fun K hK => ?_); go_simp
                refine hK _ _ nofun ?_
                clear hK K
                refine plan_E rfl (fun K hK => ?_); go_simp
                refine hK _ _ nofun ?_
                clear hK K
                refine plan_Z ?_
                have hi64 : (i : Int) ≤ 64 := by omega
                go_wp2_with fail
                go_roundw
                case measure => simp [intOf]; omega
                case rel => exact ⟨i + 1, li ++ [({ g with its := g.its ++ [xb] }, .slice ja' (g.its.length + 1) jc')], ⟨sf.put q (clk + 1), li.map Prod.fst ++ [{ g with its := g.its ++ [xb] }], true⟩, by omega, by go_num, HSN.out.trans HST.out, rfl, by simp, HFIN.out, fun _ => by simp, by simp; omega, HSF.out, HKW.out⟩
        · have hd : decide ((i : Int) < (win : Int)) = false := by rw [decide_eq_false_iff_not]; omega
          have hwx2 := HWX.out
          have htk : xs.take i = xs.take win := by
            first
            | (have : i = win := by omega
               rw [this])
            | rw [List.take_of_length_le (by omega), List.take_of_length_le (by omega)]
          rw [htk] at htr
          have HTR := Lib.hid htr
          have HLO := Lib.hid hlo
          clear htr htk hlo hop
          obtain ⟨oa, oc, rfl⟩ := own_form hout.row
          go_wp2_with fail
          go_ret
          exact ⟨_, l, n + i, rfl, hout, by rw [HT.out, HTR.out]; exact HLO.out, by omega, by rw [HT.out, HTR.out]; exact hsx, hkx⟩
    · intro x c w3 cnt1 hwx hwc hlx hat hrg1 hlt hg1 hs1 hen
      have hk3 : Kp [mb] w1 w3 := hkr.grown hg1 (fun k hk => by cases hk; exact .inr (Nat.le_refl _))
      obtain ⟨s0, s1, s2, s3, s4⟩ := cells5 (hk3.heap hs2.cells (by simp; omega))
      by_cases hx0 : xs.length = 0
      · obtain rfl : xs = [] := List.eq_nil_of_length_eq_zero hx0
        go_wp2_with (first
          | (at_delete; refine wpList_delete_ranges _ rfl _ _ 85 3 rfl 3 mlaw Tryd.underlying85 _ mb w1.heap.size n _ _ _ rfl hrg1 _ _ rfl (isInt.of hwx).key ?_; intro w4 cnt4 hrg4 hle hturn; go_frame))
        rw [Maps.strike_twice] at hrg4
        go_roundw
        case rel => exact ⟨_, cnt4, _, hrg4, mid_del HTELL.out rfl, hk3.trans (Kp.turned hturn (by simp))⟩
        case measure => rw [hrg4.left_eq, hrg.left_eq]; omega
      · have hsl3 := hslw.kq hk3 (fun b hb hm => hP2 (by rw [List.mem_singleton] at hm; rw [← hm]; exact hv b hb))
        have hi3 := hiw.kp hk3 (fun g hg hm => hP2 (by rw [List.mem_singleton] at hm; rw [← hm]; exact hg))
        obtain ⟨ib, io, ua, uc, rfl, hib, hzq, _, _, _⟩ := item_at hsl3 hi3 rfl 0 (by omega)
        rw [headQ_get xs (by omega), Nat.zero_mul, Nat.add_zero] at hzq
        have hx1 : ((xs.length : Int) == 0) = false := by rw [beq_eq_false_iff_ne]; omega
        have hx2 : (0 : Int) < xs.length := by omega
        have hx3 : 0 < xs.length := by omega
        have hkq : keepS f xs x = if x < headQ xs then none else f x := by
          cases xs with
          | nil => simp at hx3
          | cons y l => rfl
        by_cases hxq : x < headQ xs
        · have hd : decide (x < headQ xs) = true := by simpa using hxq
          rw [if_pos hxq] at hkq
          have HKQ := Lib.hid hkq
          clear hkq hxq
          go_wp2_with (first
            | (at_delete; refine wpList_delete_ranges _ rfl _ _ 85 3 rfl 3 mlaw Tryd.underlying85 _ mb w1.heap.size n _ _ _ rfl hrg1 _ _ rfl (isInt.of hwx).key ?_; intro w4 cnt4 hrg4 hle hturn; go_frame))
          rw [Maps.strike_twice] at hrg4
          go_roundw
          case rel => exact ⟨_, cnt4, _, hrg4, mid_del HTELL.out HKQ.out, hk3.trans (Kp.turned hturn (by simp))⟩
          case measure => rw [hrg4.left_eq, hrg.left_eq]; exact Nat.lt_of_le_of_lt hle hlt
        · have hd : decide (x < headQ xs) = false := by simpa using hxq
          rw [if_neg hxq] at hkq
          have HKQ := Lib.hid hkq
          clear hkq hxq
          go_wp2_with fail
          go_roundw
          case rel => exact ⟨_, cnt1, _, hrg1, mid_stay HTELL.out HKQ.out, hk3⟩
          case measure => rw [hrg1.left_eq, hrg.left_eq]; exact hlt
set_option maxHeartbeats 2000000 in
theorem tick_okB (P : Nat → Prop) (p mb n win bat : Nat) (ev clk : Int) (f : Sent) (v : Value) (cs : List Value) (xs : List It) (w : World) (hP : ¬ P p) (hP2 : ¬ P mb) (hs : IsS w p mb n win bat ev clk f) (hclk : clk ≤ 100000000000000) (hnn : n ≤ 10000000000000) (hsl : Sl w 2 v xs.length cs) (hv : BlkP P v) (hi : ItC P w cs xs) (hn : xs.length ≤ 100000000000000) (hr : rowB xs = true) (hwx : xs.length ≤ win) :
    Calls Tryd.prog 28 #[.pointer (some ⟨p, 0, none⟩), v] w (RetT (tick win bat (clk + 1) ev f xs) p mb n win bat ev (clk + 1) w) := by
  have ht : tick win bat (clk + 1) ev f xs = ((trun bat (clk + 1) ev (headQ xs) ⟨keepS f xs, [], false⟩ (xs.take win)).f, (trun bat (clk + 1) ev (headQ xs) ⟨keepS f xs, [], false⟩ (xs.take win)).out) := by unfold tick; rw [hr]; rfl
  have HT := Lib.hid ht
  have HWX := Lib.hid hwx
  have hspec := rowB_spec hr
  obtain ⟨a, cap, rfl, hcap, hnil, _⟩ := Sl.form hsl
  have hs1 := hs.tick
  have hk1 : Kp [p] w (w.setCell ⟨p, 3, none⟩ (.int .i64 (clk + 1))) := (Kp.refl [p] w).setCell (.inl (by simp)) _
  have hsl1 := hsl.kq hk1 (fun b hb hm => hP (by rw [List.mem_singleton] at hm; rw [← hm]; exact hv b hb))
  have hi1 := hi.kp hk1 (fun g hg hm => hP (by rw [List.mem_singleton] at hm; rw [← hm]; exact hg))
  have hrow := row_calls P _ cs xs _ hsl1 hi1 hn (fun x hx => by
    obtain ⟨i, hi, rfl⟩ := List.mem_iff_getElem.1 hx
    have := (hspec i hi).2.2.2; omega)
  rw [hr] at hrow
  have HROW := Lib.hid hrow
  have HSP := Lib.hid hspec
  have hc3 := cell_heap hs.cells 3
  have f3 := free_heap hs.cells 3
  simp only [List.getElem?_toArray, List.getElem?_cons_zero, List.getElem?_cons_succ] at hc3
  have hclk0 := hs.clk0
  clear hrow ht hr hspec hwx
  go_enter Tryd.func28, Tryd.ntmps28
  go_wp2_with (go_at_call 48; (with_reducible refine HROW.out.mono ?_); rintro e w1 ⟨rfl, hk2⟩; have hs2 := hs1.kp hk2 (by simp) (by simp); obtain ⟨s0, s1, s2, s3, s4⟩ := cells5 hs2.cells; obtain ⟨D, hown, htell⟩ := hs2.map; obtain ⟨w0, hrun0, hrg0, hg0, hz0⟩ := hown.range mlaw Tryd.underlying85)
  have hkw := hk1.trans hk2.nil
  have hr1 : p < w1.heap.size ∧ mb < w1.heap.size ∧ p ≠ mb := hs2.lt
  have hslw := hsl1.kp hk2 (by simp)
  have hiw := hi1.kp hk2 (by simp)
  clear hrun0 HROW hc3 f3 s0 s1 s2 s3 s4
  have hkeep0 := mid_start xs htell
  go_loopw [5] (fun _ wr => ∃ (left : Lit → Bool) (cnt : Nat) (D : DataW Unit), wr.ranges Tryd.prog 3 (plainElem Tryd.prog 3) mb w1.heap.size n D left cnt ∧ Tells D (mid left f xs) ∧ Kp [mb] w1 wr) (fun _ wr => wr.rangeLeft mb w1.heap.size)
  case atStart => exact ⟨_, _, D, hrg0, hkeep0, (Kp.refl _ w1).grown hg0 nofun⟩
  case round =>
    clear hkeep0 hrg0 hg0 hz0 hown htell D
    obtain ⟨left, cnt, D, hrg, htell, hkr⟩ := hrel
    have HTELL := Lib.hid htell
    clear htell
    go_wp2_with (first
      | (at_next; refine wpList_next_ranges_ii _ rfl _ rfl 3 3 .i64 .i64 mlaw Tryd.underlying3 Tryd.underlying3 mb w1.heap.size n _ _ _ rfl hrg ?_ ?_))
    · intro _ hl0
      have hsr : IsS wr p mb n win bat ev (clk + 1) (keepS f xs) := { hs2 with cells := hkr.heap hs2.cells (by simp; omega), map := ⟨D, hrg.owns, mid_end HTELL.out hl0⟩, old := (fun k c hc => hs2.old k c (keepS_some hc)) }
      have hslr := hslw.kq hkr (fun b hb hm => hP2 (by rw [List.mem_singleton] at hm; rw [← hm]; exact hv b hb))
      have hir := hiw.kp hkr (fun g hg hm => hP2 (by rw [List.mem_singleton] at hm; rw [← hm]; exact hg))
      have hkwr : Kp [p, mb] w wr := (hkw.mono (by simp)).trans (hkr.mono (by simp))
      obtain ⟨s0, s1, s2, s3, s4⟩ := cells5 hsr.cells
      have hw1 := hsr.win1
      have hw9 := hsr.win9
      have hwi : (1 : Int) ≤ win ∧ (win : Int) ≤ 64 := by omega
      obtain ⟨hwi1, hwi2⟩ := hwi
      clear HTELL hrg hkr hslw hiw hkw hs2 hk2 hi1 hsl1 hk1 hs1
      have hwx := HWX.out
      have hci : (xs.length : Int) ≤ cap ∧ (xs.length : Int) ≤ win := by omega
      obtain ⟨hci, hwl⟩ := hci
      have hwd : decide ((win : Int) < xs.length) = false := by simpa using hwl
      have hM : xs.length ≤ xs.length ∧ xs.length ≤ 64 := by omega
      obtain ⟨hM1, hM2⟩ := hM
      go_wp2_with fail
      clear s0 s1 s2 s3 s4 hci hwd hwl
      obtain ⟨wo, rfl⟩ : ∃ wo : World, wo = wr := ⟨_, rfl⟩
      go_loopw [6, 7, 56] (fun v6 v7 v56 wr => ∃ (i : Nat) (l : FL) (st : TS), i ≤ xs.length ∧ v56 = .int .i64 i ∧ trun bat (clk + 1) ev (headQ xs) ⟨keepS f xs, [], false⟩ (xs.take i) = st ∧ v7 = .bool st.op ∧ l.map Prod.fst = st.out ∧ OutR wr w.heap.size bat v6 l ∧ (st.op = true → l ≠ []) ∧ l.length ≤ i ∧ IsS wr p mb (n + i) win bat ev (clk + 1) st.f ∧ Kp [p, mb] w wr) (fun _ _ v56 _ => xs.length - (intOf v56).toNat)
      case atStart => exact ⟨0, [], ⟨keepS f xs, [], false⟩, by omega, rfl, rfl, rfl, rfl, OutR.nil _ _ _, nofun, Nat.le_refl _, hsr, hkwr⟩
      case round =>
        clear hslr hir hsr hkwr D
        obtain ⟨i, l, ⟨sf, so, sop⟩, hiM, rfl, htr, rfl, hlo, hout, hop, hll, hsx, hkx⟩ := hrel
        by_cases hlt : i < xs.length
        · have hslx := hsl.kq hkx (fun b hb hm => by
            rcases List.mem_cons.1 hm with rfl | hm
            · exact hP (hv _ hb)
            · rw [List.mem_singleton] at hm; exact hP2 (by rw [← hm]; exact hv b hb))
          have hix := hi.kp hkx (fun g hg hm => by
            rcases List.mem_cons.1 hm with rfl | hm
            · exact hP hg
            · rw [List.mem_singleton] at hm; exact hP2 (by rw [← hm]; exact hg))
          obtain ⟨ib, io, ua, uc, rfl, hib, hc0, hc1, hbx, hbP, hbW⟩ := item_at2 hi hslx hix rfl i (by omega)
          obtain ⟨ib', io', u0, uc0, he, _, hz0, _, _, _⟩ := item_at hslx hix rfl 0 (by omega)
          cases he
          rw [headQ_get xs (by omega), Nat.zero_mul, Nat.add_zero] at hz0
          have hsnoc := trun_snoc bat (clk + 1) ev (headQ xs) ⟨keepS f xs, [], false⟩ (xs.take i) (xs[i]'(by omega))
          rw [← List.take_succ_eq_append_getElem (by omega), htr] at hsnoc
          obtain ⟨hq1, hq2, -, hb9⟩ := HSP.out i (by omega)
          generalize xs[i]'(by omega) = x at *
          obtain ⟨q, xb⟩ := x
          simp only at hc0 hc1 hbx hq1 hq2 hb9 hbP hbW
          have HTR := Lib.hid htr
          have HSN := Lib.hid hsnoc
          have HLO := Lib.hid hlo
          have HOP := Lib.hid hop
          clear htr hsnoc hlo hop hslx hix
          have hqI : isInt q := ⟨by omega, by omega⟩
          have hltp := hsx.lt
          have hkA := (Kp.refl [] wr).alloc (.cells #[.int .i64 q, .slice ua xb.length uc] 51)
          have hhA := heap_alloc_new wr (.cells #[.int .i64 q, .slice ua xb.length uc] 51)
          have hsA := hsx.kp hkA (by simp) (by simp)
          have hii : (0 : Int) ≤ i ∧ (i : Int) < xs.length ∧ (xs.length : Int) ≤ xs.length ∧ (0 : Int) < xs.length := by omega
          obtain ⟨hi1, hi2, hi3, hi4⟩ := hii
          have hi5 : 0 < xs.length := by omega
          go_wp2_with fail
          (with_reducible refine (due_calls p mb (n + i) win bat ev (clk + 1) q sf _ ua xb.length uc rfl _ hsA (by omega) hqI).mono ?_)
          rintro e w9 ⟨rfl, hk9⟩
          have hs9 := hsA.kp hk9 (by simp) (by simp)
          have hx9 := hk9.heap hhA (by simp)
          have hkx9 : Kp [] wr w9 := hkA.trans hk9
          have hz9 := hkx9.cells0.1 ib io hib
          rw [hz0] at hz9
          have hb9x := hbx.kp0 hkx9
          have hout9 := hout.kp hkx9 (by simp)
          have hkw9 := hkx.trans hkx9.nil
          have hib9 : ib < w9.heap.size := Nat.lt_of_lt_of_le hib hkx9.size
          have hsz9 : wr.heap.size < w9.heap.size := lt_of_heap hx9
          have hwsz : w.heap.size ≤ wr.heap.size := hkx.size
          have hpw : p < w.heap.size ∧ mb < w.heap.size := ⟨hs.lt.1, hs.lt.2.1⟩
          have hown1 : own1 (.slice (some ⟨ib, io, none⟩) xs.length cap) = some ib := own1_of (by omega)
          have hibne : ib ≠ p ∧ ib ≠ mb := ⟨fun e => hP (e ▸ hv ib hown1), fun e => hP2 (e ▸ hv ib hown1)⟩
          have hibw : ib < w.heap.size := hsl.lt ib hown1
          clear hown1
          clear hc0 hc1 hz0 hbx hout hsA hsx hkA hhA hk9
          generalize wr.heap.size = xk at *
          cases hdue : dueB sf (clk + 1) ev q with
          | false =>
            have hst : tstep bat (clk + 1) ev (headQ xs) ⟨sf, so, sop⟩ ⟨q, xb⟩ = ⟨sf, so, false⟩ := by unfold tstep; rw [hdue]; rfl
            have HST := Lib.hid hst
            clear hst hdue
            go_wp2_with fail
            go_roundw
            case measure => simp [intOf]; omega
            case rel => exact ⟨i + 1, l, ⟨sf, so, false⟩, by omega, by go_num, HSN.out.trans HST.out, rfl, HLO.out, hout9, nofun, by omega, { hs9 with map := hs9.map.mono (by omega) }, hkw9⟩
          | true =>
            have HDUE := Lib.hid hdue
            clear hdue
            go_wp2_with fail
            obtain ⟨e0, e1, e2, e3, e4⟩ := cells5 hs9.cells
            have d0 := cell_heap hx9 0
            have d1 := cell_heap hx9 1
            simp only [List.getElem?_toArray, List.getElem?_cons_zero, List.getElem?_cons_succ] at d0 d1
            have hS : Gr w9 [p, xk] w9.drew := Gr.of (fun _ _ => rfl)
            refine wp_plan (.H 0 (.H 1 (.H 2 (.H 3 (.H 4 (.H 5 (.H 6 (.H 7 (.H 8 (.H 9 (.E 10 false .Z))))))))))) (Gr w9 [p, xk]) (by as_aux_lemma => kernel_rfl) (by as_aux_lemma => kernel_rfl) ?_
            repeat (first | (refine plan_H rfl hS (fun K hK => ?_); go_simp; refine hK _ ?_; clear hK K) | (refine plan_E rfl (fun K hK => ?_); go_simp; (first | refine hK _ _ (fun _ => hS) ?_ | refine hK _ _ nofun ?_); clear hK K))
            refine plan_E rfl (fun K hK => ?_)
            refine step_put rfl _ _ _ rfl mb (n + i) sf rfl (hs9.map.kp (Kp.refl [] w9).drew (by simp)) (by omega) q (clk + 1) rfl rfl hqI ⟨by omega, by omega⟩ ?_
            intro w10 hm10 hk10 hz10
            have hk910 : Kp [mb] w9 w10 := ((Kp.refl [mb] w9).drew).trans hk10
            refine hK _ _ nofun ?_
            clear hK K
            refine plan_Z ?_
            have hne : p ≠ mb := hltp.2.2
            have hx10 := hk910.heap hx9 (by have := hltp.2.1; simp; omega)
            have hs10 : IsS w10 p mb (n + (i + 1)) win bat ev (clk + 1) (sf.put q (clk + 1)) := { hs9 with cells := hk910.heap hs9.cells (by simpa using hne), map := hm10, old := (fun k c hc => by
              unfold Sent.put at hc
              split at hc
              · cases hc; omega
              · exact hs9.old k c hc) }
            have hz10 := hk910.cells.1 ib io hib9 (by simpa using hibne.2)
            rw [hz9] at hz10
            have hb10 := hb9x.kq hk910 (fun b hb hm => by
              rw [List.mem_singleton] at hm
              exact hP2 (by rw [← hm]; exact hbP b hb))
            have hout10 := hout9.kp hk910 (by have := hltp.2.1; simp; omega)
            have hkw10 := hkw9.trans (hk910.mono (by simp))
            have hib10 : ib < w10.heap.size := Nat.lt_of_lt_of_le hib9 hk910.size
            clear hS e0 e1 e2 e3 e4 d0 d1 hz9 hm10 hk10 hb9x hout9 hkw9 hs9 hx9 hk910
            obtain ⟨wC, hwC⟩ : ∃ wC, wC = w10.drew := ⟨_, rfl⟩
            have hkC : Kp [] w10 wC := by rw [hwC]; exact (Kp.refl [] w10).drew
            cases sop with
            | false =>
              have hS : Gr w10 [p] w10.drew := Gr.of (fun _ _ => rfl)
              obtain ⟨oa, oc0, rfl⟩ := own_form hout10.row
              go_wp2_with fail
              refine wp_plan (.H 0 (.H 1 (.H 2 (.H 3 (.H 4 (.H 5 (.H 6 (.H 7 (.H 8 (.H 9 (.H 10 (.H 11 (.H 12 (.H 13 (.H 14 (.E 15 false (.E 16 false .Z))))))))))))))))) (Gr w10 [p]) (by as_aux_lemma => kernel_rfl) (by as_aux_lemma => kernel_rfl) ?_
              repeat (first | (refine plan_H rfl hS (fun K hK => ?_); go_simp; refine hK _ ?_; clear hK K) | (refine plan_E rfl (fun K hK => ?_); go_simp; (first | refine hK _ _ (fun _ => hS) ?_ | refine hK _ _ nofun ?_); clear hK K))
              refine plan_Z ?_
              have houtC := hout10.kp hkC (by simp)
              have hsC := hs10.kp hkC (by simp) (by simp)
              have hxC := hkC.heap hx10 (by simp)
              have hbC := hb10.kp0 hkC
              have hkwC := hkw10.trans hkC.nil
              have hzC := hkC.cells0.1 ib io hib10
              rw [hz10] at hzC
              have d0 := cell_heap hxC 0
              simp only [List.getElem?_toArray, List.getElem?_cons_zero, List.getElem?_cons_succ] at d0
              have hibC : ib < wC.heap.size := Nat.lt_of_lt_of_le hib10 hkC.size
              have hxkC := lt_of_heap hxC
              rw [← hwC]
              clear hwC
              have hSC : Gr wC [ib, xk] wC.drew := Gr.of (fun _ _ => rfl)
              go_wp2_with fail
              refine wp_plan (.H 0 (.H 1 (.H 2 (.H 3 (.H 4 (.H 5 (.H 6 (.E 7 true (.E 8 true (.E 9 false (.E 10 false .Z))))))))))) (Gr wC [ib, xk]) (by as_aux_lemma => kernel_rfl) (by as_aux_lemma => kernel_rfl) ?_
              iterate 7 (refine plan_H rfl hSC (fun K hK => ?_); go_simp; refine hK _ ?_; clear hK K)
              refine plan_E rfl (fun K hK => ?_); go_simp
              refine hK _ _ (fun _ => hSC) ?_
              clear hK K
              have hkD : Kp [] wC (wC.alloc (.cells #[.int .i64 1, .int .i64 (headQ xs), .int .i64 q, .slice none 0 0, .slice none 0 0] 25)).drew := ((Kp.refl [] wC).alloc _).drew
              have hSD : Gr wC [ib, xk] (wC.alloc (.cells #[.int .i64 1, .int .i64 (headQ xs), .int .i64 q, .slice none 0 0, .slice none 0 0] 25)).drew := Gr.of (fun b hb => hkD.block b (by
                rcases List.mem_cons.1 hb with rfl | hb
                · exact hibC
                · rw [List.mem_singleton] at hb; rw [hb]; exact hxkC) (by simp))
              refine plan_E rfl (fun K hK => ?_); go_simp
              refine hK _ _ (fun _ => hSD) ?_
              clear hK K
              obtain ⟨i0, hif, hf0, hf1, hf2⟩ := info_parts frinfo
              have hrowD := own_kp houtC.row hkD (by simp)
              have hszC : w.heap.size ≤ wC.heap.size := hkwC.size
              refine plan_E rfl (fun K hK => ?_)
              refine step_app _ rfl _ _ 59 59 rfl w.heap.size 25 i0 _ 5 72 Tryd.underlying59 hif hf0 hf1 hf2 rfl (by omega) (.slice oa l.length oc0) l.length (fcs l) rfl hrowD (.slice (some ⟨wC.heap.size, 0, none⟩) 1 1) 1 [.int .i64 1, .int .i64 (headQ xs), .int .i64 q, .slice none 0 0, .slice none 0 0] rfl (Src.of_sl Tryd.underlying59 ((sl_alloc wC 25 _ _ rfl 5 1 rfl).kp0 ((Kp.refl [] _).drew)) (by simp [Value.oneCell'])) (by omega) (by omega) (by have := hkD.size; omega) ?_
              intro ov wT hoT hgT hxT'
              obtain ⟨ob, oc, rfl, hoc, hob, hobT⟩ := own_some hoT (by omega)
              obtain ⟨g, hg⟩ : ∃ g : Fr, g = ⟨1, headQ xs, q, [], []⟩ := ⟨_, rfl⟩
              have hgl : g.its = [] := by rw [hg]
              have houtT := houtC.add hkD g (by rw [hg]) hgl hgT (by rw [fcs_one, hg]; exact hoT)
              have hkCT : Kp (Value.slice oa l.length oc0).ownBlock.toList wC wT := hkD.nil.grown hgT (fun b hb => .inl (by simp [hb]))
              have hrowC := houtC.row
              have hrowge : ∀ b ∈ (Value.slice oa l.length oc0).ownBlock.toList, w.heap.size ≤ b := fun b hb => (hrowC.lt b (by simpa using hb)).1
              have hsT := hsC.kp hkCT (fun hm => by have := hrowge _ hm; omega) (fun hm => by have := hrowge _ hm; omega)
              have hxT := hkCT.heap hxC (fun hm => by
                have hm' : (Value.slice oa l.length oc0).ownBlock = some xk := by simpa using hm
                rcases hrowC.2 with ⟨h, _⟩ | ⟨g', cap', cur, fr, hv', _, hh', _⟩
                · rw [h] at hm'; cases hm'
                · rw [hv'] at hm'
                  cases hm'
                  rw [hxC] at hh'
                  cases hh')
              have hbT : Bs wT (.slice ua xb.length uc) xb := hbC.kq hkCT (fun b hb hm => by
                have := hrowge _ hm
                have := hbW b hb
                simp only at this
                omega)
              have hkT := hkwC.trans' hkCT (fun b hb => .inr (hrowge b hb))
              obtain ⟨ja, jc, hj⟩ : ∃ (ja : Option Addr) (jc : Nat), Value.slice none 0 0 = .slice ja g.its.length jc := ⟨none, 0, by rw [hgl]; rfl⟩
              rw [hj] at houtT
              have hgf : g.its.length < bat := by have := hs.bat1; rw [hgl]; simp; omega
              have hst : tstep bat (clk + 1) ev (headQ xs) ⟨sf, so, false⟩ ⟨q, xb⟩ = ⟨sf.put q (clk + 1), l.map Prod.fst ++ [{ g with its := g.its ++ [xb] }], true⟩ := by
                unfold tstep
                rw [HDUE.out]
                rw [HLO.out]
                simp [hg, moreIt_snoc]
              have HST := Lib.hid hst
              clear hst hj hgl hg houtC hsC hxC hbC hkwC hzC d0 hSC hkD hrowD hrowC hrowge hkCT hoT hgT hxT'
              generalize l = li at *
              refine hK _ _ nofun ?_
              clear hK K
              refine plan_E rfl (fun K hK => ?_); go_simp
              refine hK _ _ nofun ?_
              clear hK K
              refine plan_Z ?_
              go_wp2_with fail
              have hT1 : (0 : Int) ≤ (li.length : Int) ∧ (li.length : Int) < (li.length : Int) + 1 := by omega
              obtain ⟨hT1, hT2⟩ := hT1
              obtain ⟨gt0, gle, us, hus, hitsT⟩ := houtT.its (g, .slice ja g.its.length jc) (by simp)
              simp only at gt0 gle hus hitsT
              have hrowT : Own wT w.heap.size 25 5 (.slice (some ⟨ob, 0, none⟩) (li.length + 1) oc) (li.length + 1) (fcs (li ++ [(g, .slice ja g.its.length jc)])) := by have h := houtT.row; rwa [show (li ++ [(g, Value.slice ja g.its.length jc)]).length = li.length + 1 by simp] at h
              have cj := hrowT.cellAt (li.length * 5 + 3) (by omega)
              rw [fcs_at] at cj
              have hobw := hrowT.lt ob rfl
              have d0 := cell_heap hxT 0
              have d1 := cell_heap hxT 1
              simp only [List.getElem?_toArray, List.getElem?_cons_zero, List.getElem?_cons_succ] at d0 d1
              have hxkT := lt_of_heap hxT
              have hobx : ob ≠ xk := fun e => by
                rcases hrowT.2 with ⟨h, _⟩ | ⟨g', cap', cur, fr, hv', _, hh', _⟩
                · cases h
                · cases hv'
                  rw [e, hxT] at hh'
                  cases hh'
              go_wp2_with fail
              have hS : Gr wT [ob, xk] wT.drew := Gr.of (fun _ _ => rfl)
              refine wp_plan (.H 0 (.H 1 (.H 2 (.H 3 (.H 4 (.H 5 (.H 6 (.E 7 true (.E 8 true (.E 9 true (.E 10 false (.E 11 false (.E 12 false .Z))))))))))))) (Gr wT [ob, xk]) (by as_aux_lemma => kernel_rfl) (by as_aux_lemma => kernel_rfl) ?_
              repeat (first | (refine plan_H rfl hS (fun K hK => ?_); go_simp; refine hK _ ?_; clear hK K) | (refine plan_E rfl (fun K hK => ?_); go_simp; (first | refine hK _ _ (fun _ => hS) ?_ | refine hK _ _ nofun ?_); clear hK K))
              obtain ⟨i0, hiu, hu0, hu1, hu2⟩ := info_parts u8info
              refine plan_E rfl (fun K hK => ?_)
              refine step_app _ rfl _ _ 23 23 rfl wT.heap.size 5 i0 _ 1 1 Tryd.underlying23 hiu hu0 hu1 hu2 rfl (by omega) (.slice none 0 0) 0 [] rfl (Own.nil _ _ _ _) (.slice ua xb.length uc) _ _ rfl (Src.of_sl Tryd.underlying23 (hbT.kp0 ((Kp.refl [] wT).drew)) bcells_one) (by omega) (by omega) (Nat.le_refl _) ?_
              intro xv w21 hxo hg21 hx21
              rw [Nat.zero_add, List.nil_append] at hxo
              obtain ⟨xa, xc, rfl⟩ := own_form hxo
              have hk21 : Kp [] wT w21 := (((Kp.refl [] wT).drew).grown hg21 nofun)
              have hS21 : Gr wT [ob, xk] w21 := Gr.of (fun b hb => hk21.block b (by
                rcases List.mem_cons.1 hb with rfl | hb
                · exact hobw.2
                · rw [List.mem_singleton] at hb; rw [hb]; exact hxkT) (by simp))
              refine hK _ _ (fun _ => hS21) ?_
              clear hK K
              refine plan_E rfl (fun K hK => ?_); go_simp
              have hk22 : Kp [] wT (w21.alloc (.cells #[.slice xa xb.length xc] 23)) := hk21.alloc _
              have hS22 : Gr wT [ob, xk] (w21.alloc (.cells #[.slice xa xb.length xc] 23)) := Gr.of (fun b hb => hk22.block b (by
                rcases List.mem_cons.1 hb with rfl | hb
                · exact hobw.2
                · rw [List.mem_singleton] at hb; rw [hb]; exact hxkT) (by simp))
              refine hK _ _ (fun _ => hS22) ?_
              clear hK K
              obtain ⟨i1, hir, hr0', hr1', hr2'⟩ := info_parts rowinfo
              have hus22 := own_kp hus hk22 (by simp)
              have hsz22 := hk22.size
              have hbat9 := hs.bat9
              refine plan_E rfl (fun K hK => ?_)
              refine step_app _ rfl _ _ 22 22 rfl w.heap.size 23 i1 _ 1 24 Tryd.underlying22 hir hr0' hr1' hr2' rfl (by omega) (.slice ja g.its.length jc) g.its.length us rfl hus22 (.slice (some ⟨w21.heap.size, 0, none⟩) 1 1) 1 [.slice xa xb.length xc] rfl (Src.of_sl Tryd.underlying22 (sl_alloc w21 23 _ _ rfl 1 1 rfl) (by simp [Value.oneCell'])) (by omega) (by omega) (by omega) ?_
              intro jv w23 ho23 hg23 hx23
              obtain ⟨ja', jc', rfl⟩ := own_form ho23
              obtain ⟨hfin, hkf⟩ := OutR.more houtT hus hitsT hk21 (own_base hxo (fun b hb => (Own.lt hxo b hb).1)) (by omega) ((Kp.refl [] w21).alloc _) hg23 hgf ho23 hx23
              have hkj : Kp (Value.slice ja g.its.length jc).ownBlock.toList wT w23 := hk22.nil.grown hg23 (fun q hq => .inl (by simp [hq]))
              have hrow23 := own_kp hrowT hkj (fun b hb hm => own_ne hrowT hus (by decide) b hb (by simpa using hm))
              have c23 := hrow23.cellAt (li.length * 5 + 3) (by omega)
              rw [fcs_at] at c23
              have hcap := Own.frozenAt hrow23 (li.length * 5 + 3) (by have := own_cap hrow23; omega)
              have hkeepP : ∀ b ∈ ob :: (Value.slice ja g.its.length jc).ownBlock.toList, w.heap.size ≤ b := fun b hb => by
                rcases List.mem_cons.1 hb with rfl | hb
                · exact hobw.1
                · exact (hus.lt b (by simpa using hb)).1
              have hsF := hsT.kp hkf (fun hm => by have := hkeepP _ hm; omega) (fun hm => by have := hkeepP _ hm; omega)
              have hkwF : Kp [p, mb] w (w23.setCell ⟨ob, li.length * 5 + 3, none⟩ (.slice ja' (g.its.length + 1) jc')) := hkT.trans' hkf (fun b hb => .inr (hkeepP b hb))
              have hobj : ob ∉ (Value.slice ja g.its.length jc).ownBlock.toList := fun hm => own_ne hus hrowT (by decide) ob (by simpa using hm) rfl
              have hxj : xk ∉ (Value.slice ja g.its.length jc).ownBlock.toList := fun hm => by
                have hm' : (Value.slice ja g.its.length jc).ownBlock = some xk := by simpa using hm
                rcases hus.2 with ⟨h, _⟩ | ⟨g', cap', cur, fr, hv', _, hh', _⟩
                · rw [h] at hm'; cases hm'
                · rw [hv'] at hm'
                  cases hm'
                  rw [hxT] at hh'
                  cases hh'
              have hS23 : Gr wT [ob, xk] w23 := Gr.of (fun b hb => by
                rcases List.mem_cons.1 hb with rfl | hb
                · exact hkj.block _ hobw.2 hobj
                · rw [List.mem_singleton] at hb; subst hb; exact hkj.block _ hxkT hxj)
              have HFIN := Lib.hid hfin
              have HSF := Lib.hid hsF
              have HKW := Lib.hid hkwF
              clear hfin hsF hkwF hkf hkeepP hrowT hrow23 hus22 hxo ho23 hus hitsT houtT hsT hkT
              refine hK _ _ (fun _ => hS23) ?_
              clear hK K
              refine plan_E rfl (fun K hK => ?_); go_simp
              refine hK _ _ nofun ?_
              clear hK K
              refine plan_E rfl (fun K hK => ?_); go_simp
              refine hK _ _ nofun ?_
              clear hK K
              refine plan_E rfl (fun K hK => ?_); go_simp
              refine hK _ _ nofun ?_
              clear hK K
              refine plan_Z ?_
              have hi64 : (i : Int) ≤ 64 := by omega
              go_wp2_with fail
              go_roundw
              case measure => simp [intOf]; omega
              case rel => exact ⟨i + 1, li ++ [({ g with its := g.its ++ [xb] }, .slice ja' (g.its.length + 1) jc')], ⟨sf.put q (clk + 1), li.map Prod.fst ++ [{ g with its := g.its ++ [xb] }], true⟩, by omega, by go_num, HSN.out.trans HST.out, rfl, by simp, HFIN.out, fun _ => by simp, by simp; omega, HSF.out, HKW.out⟩
            | true =>
              obtain ⟨li, ⟨g, j⟩, rfl⟩ : ∃ li x, l = li ++ [x] := ⟨l.dropLast, l.getLast (HOP.out rfl), (List.dropLast_concat_getLast (HOP.out rfl)).symm⟩
              obtain ⟨ob, oc, rfl, hoc, hob⟩ := own_some hout10.row (by simp)
              have hlen : (li ++ [(g, j)]).length = li.length + 1 := by simp
              obtain ⟨_, gle0, us0, hus0, _⟩ := hout10.its (g, j) (by simp)
              simp only at gle0 hus0
              obtain ⟨ja, jc, rfl⟩ := own_form hus0
              have hrow10 : Own w10 w.heap.size 25 5 (.slice (some ⟨ob, 0, none⟩) (li.length + 1) oc) (li.length + 1) (fcs (li ++ [(g, .slice ja g.its.length jc)])) := by have h := hout10.row; rwa [show (li ++ [(g, Value.slice ja g.its.length jc)]).length = li.length + 1 by simp] at h
              have cj := hrow10.cellAt (li.length * 5 + 3) (by omega)
              rw [fcs_at] at cj
              rw [hlen] at hout10 ⊢
              obtain ⟨e0, e1, e2, e3, e4⟩ := cells5 hs10.cells
              have hT1 : (0 : Int) ≤ (li.length : Int) ∧ (li.length : Int) < (li.length : Int) + 1 := by omega
              obtain ⟨hT1, hT2⟩ := hT1
              have hwr : IntKind.i64.wrap (li.length : Int) = li.length := IntWalk.i64_in _ (by rw [hlen] at hll; omega)
              by_cases hfu : g.its.length = bat
              · have hd : ((g.its.length : Int) == (bat : Int)) = true := by rw [beq_iff_eq]; omega
                have hful : fullB so bat = true := by
                  have hso : so = li.map Prod.fst ++ [g] := by rw [← HLO.out]; simp
                  rw [hso, fullB_snoc]; simpa using hfu
                have HFUL := Lib.hid hful
                clear hful hfu
                go_wp2_with fail
                have hS : Gr w10 [p, ob] w10.drew := Gr.of (fun _ _ => rfl)
                refine wp_plan (.H 0 (.H 1 (.H 2 (.H 3 (.H 4 (.H 5 (.H 6 (.H 7 (.H 8 (.H 9 (.H 10 (.H 11 (.H 12 (.H 13 (.H 14 (.E 15 false (.E 16 false .Z))))))))))))))))) (Gr w10 [p, ob]) (by as_aux_lemma => kernel_rfl) (by as_aux_lemma => kernel_rfl) ?_
                repeat (first | (refine plan_H rfl hS (fun K hK => ?_); go_simp; refine hK _ ?_; clear hK K) | (refine plan_E rfl (fun K hK => ?_); go_simp; (first | refine hK _ _ (fun _ => hS) ?_ | refine hK _ _ nofun ?_); clear hK K))
                clear hS e0 e1 e2 e3 e4 hT1 hT2 hwr cj hrow10 hus0 gle0 hd
                obtain ⟨oa, hoa⟩ : ∃ oa : Option Addr, oa = some ⟨ob, 0, none⟩ := ⟨_, rfl⟩
                rw [← hoa, ← hlen] at hout10 ⊢
                clear hoa hlen hoc hob
                generalize li ++ [(g, Value.slice ja g.its.length jc)] = l at *
                obtain ⟨oc0, hoc0⟩ : ∃ x, x = oc := ⟨_, rfl⟩
                rw [← hoc0] at hout10 ⊢
                clear hoc0
                have hful := HFUL.out
                refine plan_Z ?_
                have houtC := hout10.kp hkC (by simp)
                have hsC := hs10.kp hkC (by simp) (by simp)
                have hxC := hkC.heap hx10 (by simp)
                have hbC := hb10.kp0 hkC
                have hkwC := hkw10.trans hkC.nil
                have hzC := hkC.cells0.1 ib io hib10
                rw [hz10] at hzC
                have d0 := cell_heap hxC 0
                simp only [List.getElem?_toArray, List.getElem?_cons_zero, List.getElem?_cons_succ] at d0
                have hibC : ib < wC.heap.size := Nat.lt_of_lt_of_le hib10 hkC.size
                have hxkC := lt_of_heap hxC
                rw [← hwC]
                clear hwC
                have hSC : Gr wC [ib, xk] wC.drew := Gr.of (fun _ _ => rfl)
                go_wp2_with fail
                refine wp_plan (.H 0 (.H 1 (.H 2 (.H 3 (.H 4 (.H 5 (.H 6 (.E 7 true (.E 8 true (.E 9 false (.E 10 false .Z))))))))))) (Gr wC [ib, xk]) (by as_aux_lemma => kernel_rfl) (by as_aux_lemma => kernel_rfl) ?_
                iterate 7 (refine plan_H rfl hSC (fun K hK => ?_); go_simp; refine hK _ ?_; clear hK K)
                refine plan_E rfl (fun K hK => ?_); go_simp
                refine hK _ _ (fun _ => hSC) ?_
                clear hK K
                have hkD : Kp [] wC (wC.alloc (.cells #[.int .i64 1, .int .i64 (headQ xs), .int .i64 q, .slice none 0 0, .slice none 0 0] 25)).drew := ((Kp.refl [] wC).alloc _).drew
                have hSD : Gr wC [ib, xk] (wC.alloc (.cells #[.int .i64 1, .int .i64 (headQ xs), .int .i64 q, .slice none 0 0, .slice none 0 0] 25)).drew := Gr.of (fun b hb => hkD.block b (by
                  rcases List.mem_cons.1 hb with rfl | hb
                  · exact hibC
                  · rw [List.mem_singleton] at hb; rw [hb]; exact hxkC) (by simp))
                refine plan_E rfl (fun K hK => ?_); go_simp
                refine hK _ _ (fun _ => hSD) ?_
                clear hK K
                obtain ⟨i0, hif, hf0, hf1, hf2⟩ := info_parts frinfo
                have hrowD := own_kp houtC.row hkD (by simp)
                have hszC : w.heap.size ≤ wC.heap.size := hkwC.size
                refine plan_E rfl (fun K hK => ?_)
                refine step_app _ rfl _ _ 59 59 rfl w.heap.size 25 i0 _ 5 72 Tryd.underlying59 hif hf0 hf1 hf2 rfl (by omega) (.slice oa l.length oc0) l.length (fcs l) rfl hrowD (.slice (some ⟨wC.heap.size, 0, none⟩) 1 1) 1 [.int .i64 1, .int .i64 (headQ xs), .int .i64 q, .slice none 0 0, .slice none 0 0] rfl (Src.of_sl Tryd.underlying59 ((sl_alloc wC 25 _ _ rfl 5 1 rfl).kp0 ((Kp.refl [] _).drew)) (by simp [Value.oneCell'])) (by omega) (by omega) (by have := hkD.size; omega) ?_
                intro ov wT hoT hgT hxT'
                obtain ⟨ob, oc, rfl, hoc, hob, hobT⟩ := own_some hoT (by omega)
                obtain ⟨g, hg⟩ : ∃ g : Fr, g = ⟨1, headQ xs, q, [], []⟩ := ⟨_, rfl⟩
                have hgl : g.its = [] := by rw [hg]
                have houtT := houtC.add hkD g (by rw [hg]) hgl hgT (by rw [fcs_one, hg]; exact hoT)
                have hkCT : Kp (Value.slice oa l.length oc0).ownBlock.toList wC wT := hkD.nil.grown hgT (fun b hb => .inl (by simp [hb]))
                have hrowC := houtC.row
                have hrowge : ∀ b ∈ (Value.slice oa l.length oc0).ownBlock.toList, w.heap.size ≤ b := fun b hb => (hrowC.lt b (by simpa using hb)).1
                have hsT := hsC.kp hkCT (fun hm => by have := hrowge _ hm; omega) (fun hm => by have := hrowge _ hm; omega)
                have hxT := hkCT.heap hxC (fun hm => by
                  have hm' : (Value.slice oa l.length oc0).ownBlock = some xk := by simpa using hm
                  rcases hrowC.2 with ⟨h, _⟩ | ⟨g', cap', cur, fr, hv', _, hh', _⟩
                  · rw [h] at hm'; cases hm'
                  · rw [hv'] at hm'
                    cases hm'
                    rw [hxC] at hh'
                    cases hh')
                have hbT : Bs wT (.slice ua xb.length uc) xb := hbC.kq hkCT (fun b hb hm => by
                  have := hrowge _ hm
                  have := hbW b hb
                  simp only at this
                  omega)
                have hkT := hkwC.trans' hkCT (fun b hb => .inr (hrowge b hb))
                obtain ⟨ja, jc, hj⟩ : ∃ (ja : Option Addr) (jc : Nat), Value.slice none 0 0 = .slice ja g.its.length jc := ⟨none, 0, by rw [hgl]; rfl⟩
                rw [hj] at houtT
                have hgf : g.its.length < bat := by have := hs.bat1; rw [hgl]; simp; omega
                have hst : tstep bat (clk + 1) ev (headQ xs) ⟨sf, so, true⟩ ⟨q, xb⟩ = ⟨sf.put q (clk + 1), l.map Prod.fst ++ [{ g with its := g.its ++ [xb] }], true⟩ := by
                  unfold tstep
                  rw [HDUE.out]
                  rw [HLO.out]
                  simp [hg, moreIt_snoc, hful]
                have HST := Lib.hid hst
                clear hful hst hj hgl hg houtC hsC hxC hbC hkwC hzC d0 hSC hkD hrowD hrowC hrowge hkCT hoT hgT hxT'
                generalize l = li at *
                refine hK _ _ nofun ?_
                clear hK K
                refine plan_E rfl (fun K hK => ?_); go_simp
                refine hK _ _ nofun ?_
                clear hK K
                refine plan_Z ?_
                go_wp2_with fail
                have hT1 : (0 : Int) ≤ (li.length : Int) ∧ (li.length : Int) < (li.length : Int) + 1 := by omega
                obtain ⟨hT1, hT2⟩ := hT1
                obtain ⟨gt0, gle, us, hus, hitsT⟩ := houtT.its (g, .slice ja g.its.length jc) (by simp)
                simp only at gt0 gle hus hitsT
                have hrowT : Own wT w.heap.size 25 5 (.slice (some ⟨ob, 0, none⟩) (li.length + 1) oc) (li.length + 1) (fcs (li ++ [(g, .slice ja g.its.length jc)])) := by have h := houtT.row; rwa [show (li ++ [(g, Value.slice ja g.its.length jc)]).length = li.length + 1 by simp] at h
                have cj := hrowT.cellAt (li.length * 5 + 3) (by omega)
                rw [fcs_at] at cj
                have hobw := hrowT.lt ob rfl
                have d0 := cell_heap hxT 0
                have d1 := cell_heap hxT 1
                simp only [List.getElem?_toArray, List.getElem?_cons_zero, List.getElem?_cons_succ] at d0 d1
                have hxkT := lt_of_heap hxT
                have hobx : ob ≠ xk := fun e => by
                  rcases hrowT.2 with ⟨h, _⟩ | ⟨g', cap', cur, fr, hv', _, hh', _⟩
                  · cases h
                  · cases hv'
                    rw [e, hxT] at hh'
                    cases hh'
                go_wp2_with fail
                have hS : Gr wT [ob, xk] wT.drew := Gr.of (fun _ _ => rfl)
                refine wp_plan (.H 0 (.H 1 (.H 2 (.H 3 (.H 4 (.H 5 (.H 6 (.E 7 true (.E 8 true (.E 9 true (.E 10 false (.E 11 false (.E 12 false .Z))))))))))))) (Gr wT [ob, xk]) (by as_aux_lemma => kernel_rfl) (by as_aux_lemma => kernel_rfl) ?_
                repeat (first | (refine plan_H rfl hS (fun K hK => ?_); go_simp; refine hK _ ?_; clear hK K) | (refine plan_E rfl (fun K hK => ?_); go_simp; (first | refine hK _ _ (fun _ => hS) ?_ | refine hK _ _ nofun ?_); clear hK K))
                obtain ⟨i0, hiu, hu0, hu1, hu2⟩ := info_parts u8info
                refine plan_E rfl (fun K hK => ?_)
                refine step_app _ rfl _ _ 23 23 rfl wT.heap.size 5 i0 _ 1 1 Tryd.underlying23 hiu hu0 hu1 hu2 rfl (by omega) (.slice none 0 0) 0 [] rfl (Own.nil _ _ _ _) (.slice ua xb.length uc) _ _ rfl (Src.of_sl Tryd.underlying23 (hbT.kp0 ((Kp.refl [] wT).drew)) bcells_one) (by omega) (by omega) (Nat.le_refl _) ?_
                intro xv w21 hxo hg21 hx21
                rw [Nat.zero_add, List.nil_append] at hxo
                obtain ⟨xa, xc, rfl⟩ := own_form hxo
                have hk21 : Kp [] wT w21 := (((Kp.refl [] wT).drew).grown hg21 nofun)
                have hS21 : Gr wT [ob, xk] w21 := Gr.of (fun b hb => hk21.block b (by
                  rcases List.mem_cons.1 hb with rfl | hb
                  · exact hobw.2
                  · rw [List.mem_singleton] at hb; rw [hb]; exact hxkT) (by simp))
                refine hK _ _ (fun _ => hS21) ?_
                clear hK K
                refine plan_E rfl (fun K hK => ?_); go_simp
                have hk22 : Kp [] wT (w21.alloc (.cells #[.slice xa xb.length xc] 23)) := hk21.alloc _
                have hS22 : Gr wT [ob, xk] (w21.alloc (.cells #[.slice xa xb.length xc] 23)) := Gr.of (fun b hb => hk22.block b (by
                  rcases List.mem_cons.1 hb with rfl | hb
                  · exact hobw.2
                  · rw [List.mem_singleton] at hb; rw [hb]; exact hxkT) (by simp))
                refine hK _ _ (fun _ => hS22) ?_
                clear hK K
                obtain ⟨i1, hir, hr0', hr1', hr2'⟩ := info_parts rowinfo
                have hus22 := own_kp hus hk22 (by simp)
                have hsz22 := hk22.size
                have hbat9 := hs.bat9
                refine plan_E rfl (fun K hK => ?_)
                refine step_app _ rfl _ _ 22 22 rfl w.heap.size 23 i1 _ 1 24 Tryd.underlying22 hir hr0' hr1' hr2' rfl (by omega) (.slice ja g.its.length jc) g.its.length us rfl hus22 (.slice (some ⟨w21.heap.size, 0, none⟩) 1 1) 1 [.slice xa xb.length xc] rfl (Src.of_sl Tryd.underlying22 (sl_alloc w21 23 _ _ rfl 1 1 rfl) (by simp [Value.oneCell'])) (by omega) (by omega) (by omega) ?_
                intro jv w23 ho23 hg23 hx23
                obtain ⟨ja', jc', rfl⟩ := own_form ho23
                obtain ⟨hfin, hkf⟩ := OutR.more houtT hus hitsT hk21 (own_base hxo (fun b hb => (Own.lt hxo b hb).1)) (by omega) ((Kp.refl [] w21).alloc _) hg23 hgf ho23 hx23
                have hkj : Kp (Value.slice ja g.its.length jc).ownBlock.toList wT w23 := hk22.nil.grown hg23 (fun q hq => .inl (by simp [hq]))
                have hrow23 := own_kp hrowT hkj (fun b hb hm => own_ne hrowT hus (by decide) b hb (by simpa using hm))
                have c23 := hrow23.cellAt (li.length * 5 + 3) (by omega)
                rw [fcs_at] at c23
                have hcap := Own.frozenAt hrow23 (li.length * 5 + 3) (by have := own_cap hrow23; omega)
                have hkeepP : ∀ b ∈ ob :: (Value.slice ja g.its.length jc).ownBlock.toList, w.heap.size ≤ b := fun b hb => by
                  rcases List.mem_cons.1 hb with rfl | hb
                  · exact hobw.1
                  · exact (hus.lt b (by simpa using hb)).1
                have hsF := hsT.kp hkf (fun hm => by have := hkeepP _ hm; omega) (fun hm => by have := hkeepP _ hm; omega)
                have hkwF : Kp [p, mb] w (w23.setCell ⟨ob, li.length * 5 + 3, none⟩ (.slice ja' (g.its.length + 1) jc')) := hkT.trans' hkf (fun b hb => .inr (hkeepP b hb))
                have hobj : ob ∉ (Value.slice ja g.its.length jc).ownBlock.toList := fun hm => own_ne hus hrowT (by decide) ob (by simpa using hm) rfl
                have hxj : xk ∉ (Value.slice ja g.its.length jc).ownBlock.toList := fun hm => by
                  have hm' : (Value.slice ja g.its.length jc).ownBlock = some xk := by simpa using hm
                  rcases hus.2 with ⟨h, _⟩ | ⟨g', cap', cur, fr, hv', _, hh', _⟩
                  · rw [h] at hm'; cases hm'
                  · rw [hv'] at hm'
                    cases hm'
                    rw [hxT] at hh'
                    cases hh'
                have hS23 : Gr wT [ob, xk] w23 := Gr.of (fun b hb => by
                  rcases List.mem_cons.1 hb with rfl | hb
                  · exact hkj.block _ hobw.2 hobj
                  · rw [List.mem_singleton] at hb; subst hb; exact hkj.block _ hxkT hxj)
                have HFIN := Lib.hid hfin
                have HSF := Lib.hid hsF
                have HKW := Lib.hid hkwF
                clear hfin hsF hkwF hkf hkeepP hrowT hrow23 hus22 hxo ho23 hus hitsT houtT hsT hkT
                refine hK _ _ (fun _ => hS23) ?_
                clear hK K
                refine plan_E rfl (fun K hK => ?_); go_simp
                refine hK _ _ nofun ?_
                clear hK K
                refine plan_E rfl (fun K hK => ?_); go_simp
                refine hK _ _ nofun ?_
                clear hK K
                refine plan_E rfl (fun K hK => ?_); go_simp
                refine hK _ _ nofun ?_
                clear hK K
                refine plan_Z ?_
                have hi64 : (i : Int) ≤ 64 := by omega
                go_wp2_with fail
                go_roundw
                case measure => simp [intOf]; omega
                case rel => exact ⟨i + 1, li ++ [({ g with its := g.its ++ [xb] }, .slice ja' (g.its.length + 1) jc')], ⟨sf.put q (clk + 1), li.map Prod.fst ++ [{ g with its := g.its ++ [xb] }], true⟩, by omega, by go_num, HSN.out.trans HST.out, rfl, by simp, HFIN.out, fun _ => by simp, by simp; omega, HSF.out, HKW.out⟩
              · have hd : ((g.its.length : Int) == (bat : Int)) = false := by rw [beq_eq_false_iff_ne]; omega
                have hgf : g.its.length < bat := by omega
                have hst : tstep bat (clk + 1) ev (headQ xs) ⟨sf, so, true⟩ ⟨q, xb⟩ = ⟨sf.put q (clk + 1), li.map Prod.fst ++ [{ g with its := g.its ++ [xb] }], true⟩ := by
                  unfold tstep
                  rw [HDUE.out]
                  have hso : so = li.map Prod.fst ++ [g] := by rw [← HLO.out]; simp
                  simp [hso, fullB_snoc, hfu, moreIt_snoc]
                have HST := Lib.hid hst
                clear hst hfu
                go_wp2_with fail
                have hS : Gr w10 [p, ob] w10.drew := Gr.of (fun _ _ => rfl)
                refine wp_plan (.H 0 (.H 1 (.H 2 (.H 3 (.H 4 (.H 5 (.H 6 (.H 7 (.H 8 (.H 9 (.H 10 (.H 11 (.H 12 (.H 13 (.H 14 (.E 15 false (.E 16 false .Z))))))))))))))))) (Gr w10 [p, ob]) (by as_aux_lemma => kernel_rfl) (by as_aux_lemma => kernel_rfl) ?_
                repeat (first | (refine plan_H rfl hS (fun K hK => ?_); go_simp; refine hK _ ?_; clear hK K) | (refine plan_E rfl (fun K hK => ?_); go_simp; (first | refine hK _ _ (fun _ => hS) ?_ | refine hK _ _ nofun ?_); clear hK K))
                refine plan_Z ?_
                have houtT := hout10.kp hkC (by simp)
                have hsT := hs10.kp hkC (by simp) (by simp)
                have hxT := hkC.heap hx10 (by simp)
                have hbT := hb10.kp0 hkC
                have hkT := hkw10.trans hkC.nil
                rw [← hwC]
                clear hwC e0 e1 e2 e3 e4 cj hwr hrow10 hus0 hS hT1 hT2
                generalize wC = wT at *
                rw [hlen] at hll
                have hT1 : (0 : Int) ≤ (li.length : Int) ∧ (li.length : Int) < (li.length : Int) + 1 := by omega
                obtain ⟨hT1, hT2⟩ := hT1
                obtain ⟨gt0, gle, us, hus, hitsT⟩ := houtT.its (g, .slice ja g.its.length jc) (by simp)
                simp only at gt0 gle hus hitsT
                have hrowT : Own wT w.heap.size 25 5 (.slice (some ⟨ob, 0, none⟩) (li.length + 1) oc) (li.length + 1) (fcs (li ++ [(g, .slice ja g.its.length jc)])) := by have h := houtT.row; rwa [show (li ++ [(g, Value.slice ja g.its.length jc)]).length = li.length + 1 by simp] at h
                have cj := hrowT.cellAt (li.length * 5 + 3) (by omega)
                rw [fcs_at] at cj
                have hobw := hrowT.lt ob rfl
                have d0 := cell_heap hxT 0
                have d1 := cell_heap hxT 1
                simp only [List.getElem?_toArray, List.getElem?_cons_zero, List.getElem?_cons_succ] at d0 d1
                have hxkT := lt_of_heap hxT
                have hobx : ob ≠ xk := fun e => by
                  rcases hrowT.2 with ⟨h, _⟩ | ⟨g', cap', cur, fr, hv', _, hh', _⟩
                  · cases h
                  · cases hv'
                    rw [e, hxT] at hh'
                    cases hh'
                go_wp2_with fail
                have hS : Gr wT [ob, xk] wT.drew := Gr.of (fun _ _ => rfl)
                refine wp_plan (.H 0 (.H 1 (.H 2 (.H 3 (.H 4 (.H 5 (.H 6 (.E 7 true (.E 8 true (.E 9 true (.E 10 false (.E 11 false (.E 12 false .Z))))))))))))) (Gr wT [ob, xk]) (by as_aux_lemma => kernel_rfl) (by as_aux_lemma => kernel_rfl) ?_
                repeat (first | (refine plan_H rfl hS (fun K hK => ?_); go_simp; refine hK _ ?_; clear hK K) | (refine plan_E rfl (fun K hK => ?_); go_simp; (first | refine hK _ _ (fun _ => hS) ?_ | refine hK _ _ nofun ?_); clear hK K))
                obtain ⟨i0, hiu, hu0, hu1, hu2⟩ := info_parts u8info
                refine plan_E rfl (fun K hK => ?_)
                refine step_app _ rfl _ _ 23 23 rfl wT.heap.size 5 i0 _ 1 1 Tryd.underlying23 hiu hu0 hu1 hu2 rfl (by omega) (.slice none 0 0) 0 [] rfl (Own.nil _ _ _ _) (.slice ua xb.length uc) _ _ rfl (Src.of_sl Tryd.underlying23 (hbT.kp0 ((Kp.refl [] wT).drew)) bcells_one) (by omega) (by omega) (Nat.le_refl _) ?_
                intro xv w21 hxo hg21 hx21
                rw [Nat.zero_add, List.nil_append] at hxo
                obtain ⟨xa, xc, rfl⟩ := own_form hxo
                have hk21 : Kp [] wT w21 := (((Kp.refl [] wT).drew).grown hg21 nofun)
                have hS21 : Gr wT [ob, xk] w21 := Gr.of (fun b hb => hk21.block b (by
                  rcases List.mem_cons.1 hb with rfl | hb
                  · exact hobw.2
                  · rw [List.mem_singleton] at hb; rw [hb]; exact hxkT) (by simp))
                refine hK _ _ (fun _ => hS21) ?_
                clear hK K
                refine plan_E rfl (fun K hK => ?_); go_simp
                have hk22 : Kp [] wT (w21.alloc (.cells #[.slice xa xb.length xc] 23)) := hk21.alloc _
                have hS22 : Gr wT [ob, xk] (w21.alloc (.cells #[.slice xa xb.length xc] 23)) := Gr.of (fun b hb => hk22.block b (by
                  rcases List.mem_cons.1 hb with rfl | hb
                  · exact hobw.2
                  · rw [List.mem_singleton] at hb; rw [hb]; exact hxkT) (by simp))
                refine hK _ _ (fun _ => hS22) ?_
                clear hK K
                obtain ⟨i1, hir, hr0', hr1', hr2'⟩ := info_parts rowinfo
                have hus22 := own_kp hus hk22 (by simp)
                have hsz22 := hk22.size
                have hbat9 := hs.bat9
                refine plan_E rfl (fun K hK => ?_)
                refine step_app _ rfl _ _ 22 22 rfl w.heap.size 23 i1 _ 1 24 Tryd.underlying22 hir hr0' hr1' hr2' rfl (by omega) (.slice ja g.its.length jc) g.its.length us rfl hus22 (.slice (some ⟨w21.heap.size, 0, none⟩) 1 1) 1 [.slice xa xb.length xc] rfl (Src.of_sl Tryd.underlying22 (sl_alloc w21 23 _ _ rfl 1 1 rfl) (by simp [Value.oneCell'])) (by omega) (by omega) (by omega) ?_
                intro jv w23 ho23 hg23 hx23
                obtain ⟨ja', jc', rfl⟩ := own_form ho23
                obtain ⟨hfin, hkf⟩ := OutR.more houtT hus hitsT hk21 (own_base hxo (fun b hb => (Own.lt hxo b hb).1)) (by omega) ((Kp.refl [] w21).alloc _) hg23 hgf ho23 hx23
                have hkj : Kp (Value.slice ja g.its.length jc).ownBlock.toList wT w23 := hk22.nil.grown hg23 (fun q hq => .inl (by simp [hq]))
                have hrow23 := own_kp hrowT hkj (fun b hb hm => own_ne hrowT hus (by decide) b hb (by simpa using hm))
                have c23 := hrow23.cellAt (li.length * 5 + 3) (by omega)
                rw [fcs_at] at c23
                have hcap := Own.frozenAt hrow23 (li.length * 5 + 3) (by have := own_cap hrow23; omega)
                have hkeepP : ∀ b ∈ ob :: (Value.slice ja g.its.length jc).ownBlock.toList, w.heap.size ≤ b := fun b hb => by
                  rcases List.mem_cons.1 hb with rfl | hb
                  · exact hobw.1
                  · exact (hus.lt b (by simpa using hb)).1
                have hsF := hsT.kp hkf (fun hm => by have := hkeepP _ hm; omega) (fun hm => by have := hkeepP _ hm; omega)
                have hkwF : Kp [p, mb] w (w23.setCell ⟨ob, li.length * 5 + 3, none⟩ (.slice ja' (g.its.length + 1) jc')) := hkT.trans' hkf (fun b hb => .inr (hkeepP b hb))
                have hobj : ob ∉ (Value.slice ja g.its.length jc).ownBlock.toList := fun hm => own_ne hus hrowT (by decide) ob (by simpa using hm) rfl
                have hxj : xk ∉ (Value.slice ja g.its.length jc).ownBlock.toList := fun hm => by
                  have hm' : (Value.slice ja g.its.length jc).ownBlock = some xk := by simpa using hm
                  rcases hus.2 with ⟨h, _⟩ | ⟨g', cap', cur, fr, hv', _, hh', _⟩
                  · rw [h] at hm'; cases hm'
                  · rw [hv'] at hm'
                    cases hm'
                    rw [hxT] at hh'
                    cases hh'
                have hS23 : Gr wT [ob, xk] w23 := Gr.of (fun b hb => by
                  rcases List.mem_cons.1 hb with rfl | hb
                  · exact hkj.block _ hobw.2 hobj
                  · rw [List.mem_singleton] at hb; subst hb; exact hkj.block _ hxkT hxj)
                have HFIN := Lib.hid hfin
                have HSF := Lib.hid hsF
                have HKW := Lib.hid hkwF
                clear hfin hsF hkwF hkf hkeepP hrowT hrow23 hus22 hxo ho23 hus hitsT houtT hsT hkT
                refine hK _ _ (fun _ => hS23) ?_
                clear hK K
                refine plan_E rfl (fun K hK => ?_); go_simp
                refine hK _ _ nofun ?_
                clear hK K
                refine plan_E rfl (fun K hK => ?_); go_simp
                refine hK _ _ nofun ?_
                clear hK K
                refine plan_E rfl (fun K hK => ?_); go_simp
                refine hK _ _ nofun ?_
                clear hK K
                refine plan_Z ?_
                have hi64 : (i : Int) ≤ 64 := by omega
                go_wp2_with fail
                go_roundw
                case measure => simp [intOf]; omega
                case rel => exact ⟨i + 1, li ++ [({ g with its := g.its ++ [xb] }, .slice ja' (g.its.length + 1) jc')], ⟨sf.put q (clk + 1), li.map Prod.fst ++ [{ g with its := g.its ++ [xb] }], true⟩, by omega, by go_num, HSN.out.trans HST.out, rfl, by simp, HFIN.out, fun _ => by simp, by simp; omega, HSF.out, HKW.out⟩
        · have hd : decide ((i : Int) < (xs.length : Int)) = false := by rw [decide_eq_false_iff_not]; omega
          have hwx2 := HWX.out
          have htk : xs.take i = xs.take win := by
            first
            | (have : i = win := by omega
               rw [this])
            | rw [List.take_of_length_le (by omega), List.take_of_length_le (by omega)]
          rw [htk] at htr
          have HTR := Lib.hid htr
          have HLO := Lib.hid hlo
          clear htr htk hlo hop
          obtain ⟨oa, oc, rfl⟩ := own_form hout.row
          go_wp2_with fail
          go_ret
          exact ⟨_, l, n + i, rfl, hout, by rw [HT.out, HTR.out]; exact HLO.out, by omega, by rw [HT.out, HTR.out]; exact hsx, hkx⟩
    · intro x c w3 cnt1 hwx hwc hlx hat hrg1 hlt hg1 hs1 hen
      have hk3 : Kp [mb] w1 w3 := hkr.grown hg1 (fun k hk => by cases hk; exact .inr (Nat.le_refl _))
      obtain ⟨s0, s1, s2, s3, s4⟩ := cells5 (hk3.heap hs2.cells (by simp; omega))
      by_cases hx0 : xs.length = 0
      · obtain rfl : xs = [] := List.eq_nil_of_length_eq_zero hx0
        go_wp2_with (first
          | (at_delete; refine wpList_delete_ranges _ rfl _ _ 85 3 rfl 3 mlaw Tryd.underlying85 _ mb w1.heap.size n _ _ _ rfl hrg1 _ _ rfl (isInt.of hwx).key ?_; intro w4 cnt4 hrg4 hle hturn; go_frame))
        rw [Maps.strike_twice] at hrg4
        go_roundw
        case rel => exact ⟨_, cnt4, _, hrg4, mid_del HTELL.out rfl, hk3.trans (Kp.turned hturn (by simp))⟩
        case measure => rw [hrg4.left_eq, hrg.left_eq]; omega
      · have hsl3 := hslw.kq hk3 (fun b hb hm => hP2 (by rw [List.mem_singleton] at hm; rw [← hm]; exact hv b hb))
        have hi3 := hiw.kp hk3 (fun g hg hm => hP2 (by rw [List.mem_singleton] at hm; rw [← hm]; exact hg))
        obtain ⟨ib, io, ua, uc, rfl, hib, hzq, _, _, _⟩ := item_at hsl3 hi3 rfl 0 (by omega)
        rw [headQ_get xs (by omega), Nat.zero_mul, Nat.add_zero] at hzq
        have hx1 : ((xs.length : Int) == 0) = false := by rw [beq_eq_false_iff_ne]; omega
        have hx2 : (0 : Int) < xs.length := by omega
        have hx3 : 0 < xs.length := by omega
        have hkq : keepS f xs x = if x < headQ xs then none else f x := by
          cases xs with
          | nil => simp at hx3
          | cons y l => rfl
        by_cases hxq : x < headQ xs
        · have hd : decide (x < headQ xs) = true := by simpa using hxq
          rw [if_pos hxq] at hkq
          have HKQ := Lib.hid hkq
          clear hkq hxq
          go_wp2_with (first
            | (at_delete; refine wpList_delete_ranges _ rfl _ _ 85 3 rfl 3 mlaw Tryd.underlying85 _ mb w1.heap.size n _ _ _ rfl hrg1 _ _ rfl (isInt.of hwx).key ?_; intro w4 cnt4 hrg4 hle hturn; go_frame))
          rw [Maps.strike_twice] at hrg4
          go_roundw
          case rel => exact ⟨_, cnt4, _, hrg4, mid_del HTELL.out HKQ.out, hk3.trans (Kp.turned hturn (by simp))⟩
          case measure => rw [hrg4.left_eq, hrg.left_eq]; exact Nat.lt_of_le_of_lt hle hlt
        · have hd : decide (x < headQ xs) = false := by simpa using hxq
          rw [if_neg hxq] at hkq
          have HKQ := Lib.hid hkq
          clear hkq hxq
          go_wp2_with fail
          go_roundw
          case rel => exact ⟨_, cnt1, _, hrg1, mid_stay HTELL.out HKQ.out, hk3⟩
          case measure => rw [hrg1.left_eq, hrg.left_eq]; exact hlt
end Go.Proofs.YtddpefbpiehgeaaDoor
