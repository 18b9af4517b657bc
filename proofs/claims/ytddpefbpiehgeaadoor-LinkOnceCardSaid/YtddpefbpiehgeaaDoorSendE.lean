/- The link: a sender, what is due. -/
import Derived.Test.YtddpefbpiehgeaaDoorSendD
namespace Go.Proofs.YtddpefbpiehgeaaDoor
open Go Go.RowKit
set_option maxRecDepth 100000
set_option linter.unusedVariables false
set_option linter.unusedSectionVars false
set_option linter.unusedSimpArgs false

/-- A sender. -/
structure IsS (w : World) (p mb n win bat : Nat) (ev clk : Int) (f : Sent) : Prop where
  cells : w.heap[p]? = some (.cells #[.int .i64 win, .int .i64 bat, .int .i64 ev, .int .i64 clk, .map (some mb)] 87 (0, 0))
  map : MI w mb n f
  old : ∀ k c, f k = some c → 0 ≤ c ∧ c ≤ clk
  win1 : 1 ≤ win
  win9 : win ≤ 64
  bat1 : 1 ≤ bat
  bat9 : bat ≤ 8
  ev1 : 1 ≤ ev
  ev9 : ev ≤ 1000
  clk0 : 0 ≤ clk
theorem IsS.kp {S : List Nat} {w w' : World} {p mb n win bat : Nat} {ev clk : Int} {f : Sent} (h : IsS w p mb n win bat ev clk f) (hk : Kp S w w') (hp : p ∉ S) (hm : mb ∉ S) : IsS w' p mb n win bat ev clk f :=
  { h with cells := hk.heap h.cells hp, map := h.map.kp hk hm }
theorem IsS.lt {w : World} {p mb n win bat : Nat} {ev clk : Int} {f : Sent} (h : IsS w p mb n win bat ev clk f) : p < w.heap.size ∧ mb < w.heap.size ∧ p ≠ mb := ⟨lt_of_heap h.cells, h.map.lt, h.map.not_cells h.cells⟩

theorem newSender_calls (win bat : Nat) (ev : Int) (w : World) (h1 : 1 ≤ win) (h2 : win ≤ 64) (h3 : 1 ≤ bat) (h4 : bat ≤ 8) (h5 : 1 ≤ ev) (h6 : ev ≤ 1000) :
    Calls Tryd.prog 27 #[.int .i64 win, .int .i64 bat, .int .i64 ev] w fun e w' => ∃ p mb, e = .returned (.tuple #[.pointer (some ⟨p, 0, none⟩), .int .i64 0]) ∧ IsS w' p mb 0 win bat ev 0 (fun _ => none) ∧ w.heap.size ≤ p ∧ w.heap.size ≤ mb ∧ Kp [] w w' := by
  have hmm := @run_makeMap Tryd.prog
  have hi : (1 : Int) ≤ win ∧ (win : Int) ≤ 64 ∧ (1 : Int) ≤ bat ∧ (bat : Int) ≤ 8 := by omega
  obtain ⟨i1, i2, i3, i4⟩ := hi
  go_enter Tryd.func27, Tryd.ntmps27
  go_wp2
  go_ret2
  have hk : Kp [] w (w.alloc (.map #[] 0)) := (Kp.refl [] w).alloc _
  refine ⟨w.heap.size + 1, w.heap.size, rfl, ⟨?_, (MI.made w).kp ((Kp.refl [] _).alloc _) (by simp), fun k c h => (by cases h), h1, h2, h3, h4, h5, h6, by omega⟩, by omega, Nat.le_refl _, hk.alloc _⟩
  have := heap_alloc_new (w.alloc (.map #[] 0)) (.cells #[.int .i64 win, .int .i64 bat, .int .i64 ev, .int .i64 0, .map (some w.heap.size)] 87)
  simpa using this

theorem due_calls (p mb n win bat : Nat) (ev clk q : Int) (f : Sent) (u : Value) (ua : Option Addr) (ul uc : Nat) (hu : u = .slice ua ul uc) (w : World) (hs : IsS w p mb n win bat ev clk f) (hclk : clk ≤ 1000000000000000) (hq : isInt q) :
    Calls Tryd.prog 49 #[.pointer (some ⟨p, 0, none⟩), .agg #[.int .i64 q, u]] w fun e w' => e = .returned (.bool (dueB f clk ev q)) ∧ Kp [] w w' := by
  subst hu
  have hk0 := (Kp.refl [] w).alloc (.cells #[.int .i64 q, .slice ua ul uc] 51)
  have hh0 := heap_alloc_new w (.cells #[.int .i64 q, .slice ua ul uc] 51)
  have hs0 := hs.kp hk0 (by simp) (by simp)
  obtain ⟨c, hrun, hc⟩ := (hs0.map.kp ((Kp.refl [] _).drew) (by simp)).look hq
  have hold := hs.old q
  have hev := hs.ev1
  have hev9 := hs.ev9
  have hclk0 := hs.clk0
  have hpc := hs0.cells
  have hpl := hs.lt
  go_enter Tryd.func49, Tryd.ntmps49
  go_wp2_with fail
  generalize w.alloc (.cells #[.int .i64 q, .slice ua ul uc] 51) = w0 at *
  obtain ⟨c0, c1, c2, c3, c4⟩ := cells5 hpc
  have d0 := cell_heap hh0 0
  simp only [List.getElem?_toArray, List.getElem?_cons_zero] at d0
  have hS : Gr w0 [w.heap.size, p] w0.drew := Gr.of (fun _ _ => rfl)
  have hS2 : Gr w0 [w.heap.size, p] w0.drew.drew := Gr.of (fun _ _ => rfl)
  have hb : dueB f clk ev q = (!(f q).isSome || decide (ev ≤ clk - c)) := by
    unfold dueB
    cases hf : f q with
    | none => rfl
    | some c' => rw [hc c' hf]; rfl
  have hcb : (f q).isSome = true → 0 ≤ c ∧ c ≤ clk := fun h => by
    cases hf : f q with
    | none => rw [hf] at h; cases h
    | some c' => rw [hc c' hf]; exact hold c' hf
  have HB := Lib.hid hb
  clear hb hc hold hs hs0
  cases hso : (f q).isSome with
  | false =>
    rw [hso] at hrun HB
    clear hso hcb
    refine wp_plan (.H 0 (.H 1 (.H 2 (.H 3 (.H 4 (.H 5 (.E 6 true (.E 7 true (.H 8 (.H 9 (.E 10 true (.E 11 false .Z)))))))))))) (Gr w0 [w.heap.size, p]) (by as_aux_lemma => kernel_rfl) (by as_aux_lemma => kernel_rfl) ?_
    repeat (first | (refine plan_H rfl hS (fun K hK => ?_); go_simp; refine hK _ ?_; clear hK K) | (refine plan_E rfl (fun K hK => ?_); go_simp; (first | refine hK _ _ (fun _ => hS) ?_ | refine hK _ _ nofun ?_); clear hK K))
    refine plan_Z ?_
    go_wp2_with fail
    refine wp_plan (.H 0 (.H 1 (.H 2 (.H 3 (.H 4 (.H 5 (.H 6 (.H 7 (.H 8 (.H 9 (.H 10 (.H 11 (.H 12 (.E 13 false (.E 14 false (.E 15 false .Z)))))))))))))))) (Gr w0 [w.heap.size, p]) (by as_aux_lemma => kernel_rfl) (by as_aux_lemma => kernel_rfl) ?_
    repeat (first | (refine plan_H rfl hS2 (fun K hK => ?_); go_simp; refine hK _ ?_; clear hK K) | (refine plan_E rfl (fun K hK => ?_); go_simp; (first | refine hK _ _ (fun _ => hS2) ?_ | refine hK _ _ nofun ?_); clear hK K))
    refine plan_Z ?_
    go_wp2_with fail
    go_ret
    rw [HB.out]
    exact ⟨rfl, (hk0.drew).drew⟩
  | true =>
    rw [hso] at hrun HB
    obtain ⟨hc1, hc2⟩ := hcb hso
    clear hso hcb
    refine wp_plan (.H 0 (.H 1 (.H 2 (.H 3 (.H 4 (.H 5 (.E 6 true (.E 7 true (.H 8 (.H 9 (.E 10 true (.E 11 false .Z)))))))))))) (Gr w0 [w.heap.size, p]) (by as_aux_lemma => kernel_rfl) (by as_aux_lemma => kernel_rfl) ?_
    repeat (first | (refine plan_H rfl hS (fun K hK => ?_); go_simp; refine hK _ ?_; clear hK K) | (refine plan_E rfl (fun K hK => ?_); go_simp; (first | refine hK _ _ (fun _ => hS) ?_ | refine hK _ _ nofun ?_); clear hK K))
    refine plan_Z ?_
    go_wp2_with fail
    refine wp_plan (.H 0 (.H 1 (.H 2 (.H 3 (.H 4 (.H 5 (.H 6 (.H 7 (.H 8 (.H 9 (.H 10 (.H 11 (.H 12 (.E 13 false (.E 14 false (.E 15 false .Z)))))))))))))))) (Gr w0 [w.heap.size, p]) (by as_aux_lemma => kernel_rfl) (by as_aux_lemma => kernel_rfl) ?_
    repeat (first | (refine plan_H rfl hS2 (fun K hK => ?_); go_simp; refine hK _ ?_; clear hK K) | (refine plan_E rfl (fun K hK => ?_); go_simp; (first | refine hK _ _ (fun _ => hS2) ?_ | refine hK _ _ nofun ?_); clear hK K))
    refine plan_Z ?_
    go_wp2_with fail
    go_ret
    rw [HB.out]
    refine ⟨?_, (hk0.drew).drew⟩
    show Ending.returned (.bool _) = .returned (.bool _)
    rw [IntWalk.i64_in _ (by omega)]
    rfl
end Go.Proofs.YtddpefbpiehgeaaDoor
