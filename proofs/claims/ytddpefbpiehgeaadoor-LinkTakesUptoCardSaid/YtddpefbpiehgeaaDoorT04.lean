/- The reader: a piece is taken. -/
import Derived.Test.YtddpefbpiehgeaaDoorT03
namespace Go.Proofs.YtddpefbpiehgeaaDoor
open Go Go.RowKit
set_option maxRecDepth 100000
set_option linter.unusedVariables false
set_option linter.unusedSectionVars false
set_option linter.unusedSimpArgs false

/-- A reader at block p: its bytes d (they lie below B), its state. -/
def IsRd (w : World) (B p : Nat) (d : List UInt8) (s : RS) : Prop :=
  B ≤ w.heap.size ∧ s.at_ ≤ d.length ∧ ∃ a cap, w.heap[p]? = some (.cells #[.slice a d.length cap, .int .i64 s.at_, .int .i64 s.last, .int .i64 s.code, .int .i64 s.fat] 102 (0, 0)) ∧
    Bs w (.slice a d.length cap) d ∧ (∀ b, Value.ownBlock (.slice a d.length cap) = some b → b ≠ p ∧ b < B)

theorem IsRd.kp {S : List Nat} {w w' : World} {B p : Nat} {d : List UInt8} {s : RS} (h : IsRd w B p d s) (hk : Kp S w w') (hS : ∀ x ∈ S, x ≠ p ∧ B ≤ x) : IsRd w' B p d s := by
  obtain ⟨hB, h0, a, cap, hh, hb, hne⟩ := h
  exact ⟨Nat.le_trans hB hk.size, h0, a, cap, hk.heap hh (fun hm => (hS p hm).1 rfl), hb.kp hk (fun b e hm => by have := (hS b hm).2; have := (hne b e).2; omega), hne⟩

theorem catch_panic (rb cb p c : Nat) (code : Int) (d : List UInt8) (a : Option Addr) (cap : Nat) (s : RS) (older : List PanicEntry) (w : World)
    (hr : One w rb (.pointer (some ⟨p, 0, none⟩)) 73) (hp : w.heap[p]? = some (.cells #[.slice a d.length cap, .int .i64 s.at_, .int .i64 s.last, .int .i64 s.code, .int .i64 s.fat] 102 (0, 0))) :
    CallsD Tryd.prog 95 #[.pointer (some ⟨rb, 0, none⟩), .pointer (some ⟨cb, 0, none⟩)] (.panicking ({ v := .iface 28 (.int .i64 code), recovered := false } :: older)) w fun e u' w' =>
      e = .returned (.tuple #[]) ∧ u' = .panicking ({ v := .iface 28 (.int .i64 code), recovered := true } :: older) ∧
      w'.heap[p]? = some (.cells #[.slice a d.length cap, .int .i64 s.at_, .int .i64 s.last, .int .i64 code, .int .i64 s.at_] 102 (0, 0)) ∧ Kp [p] w w' := by
  have hta : ∀ w, (Instr.typeAssert (.iface 28 (.int .i64 code)) 20 28 true).run Tryd.prog w = .ok (.tuple #[.int .i64 code, .bool true]) w := fun _ => by kernel_rfl
  refine callsD_of_wpS Tryd.func95 rfl fun c₀ cs hu => ?_
  simp only [Tryd.ntmps95, List.size_toArray, List.length_cons, List.length_nil, Nat.reduceAdd, Nat.reduceSub, Array.replicate_succ,
     Array.replicate_zero, List.push_toArray, List.append_toArray, List.nil_append, List.cons_append]
  apply wpS_seq
  apply wpS_seq
  refine wpS_recover (v := .iface 28 (.int .i64 code)) (cs' := { c₀ with mode := .panicking ({ v := .iface 28 (.int .i64 code), recovered := true } :: older) } :: cs) rfl rfl (.inl (by simp only [recoverD, hu])) ?_
  go_wp2
  simp only [Exit.thenS]
  refine wpS_of_wp ?_
  have r0 := hr.cell
  have hrlt := lt_of_heap hr
  have hplt := lt_of_heap hp
  have p1 : w.cell? ⟨p, 1, none⟩ = _ := cell_heap hp 1
  have p3 : w.cell? ⟨p, 3, none⟩ = _ := cell_heap hp 3
  have p4 : w.cell? ⟨p, 4, none⟩ = _ := cell_heap hp 4
  have f3 := free_heap hp 3
  have f4 := free_heap hp 4
  simp only [List.getElem?_toArray, List.getElem?_cons_zero, List.getElem?_cons_succ] at p1 p3 p4
  go_wp2
  have hS : Gr w [p, rb] w.drew := Gr.of (fun _ _ => rfl)
  refine wp_plan (.H 0 (.H 1 (.H 2 (.H 3 (.H 4 (.H 5 (.H 6 (.H 7 (.H 8 (.E 9 false .Z)))))))))) (Gr w [p, rb]) (by kernel_rfl) (by kernel_rfl) ?_
  repeat (refine plan_H rfl hS (fun K hK => ?_); go_simp; refine hK _ ?_; clear hK K)
  refine plan_E rfl (fun K hK => ?_)
  go_simp
  refine hK _ _ nofun ?_
  clear hK K
  refine plan_Z ?_
  go_wp2
  have h3 := heap_setCell_same w p 3 _ _ (.int .i64 code) hp
  have h4 := heap_setCell_same _ p 4 _ _ (.int .i64 s.at_) h3
  exact ⟨rfl, _, rfl, _, results_none rfl _ _ _, rfl, rfl, by simpa [World.drew] using h4, ((((Kp.refl [p] w).setCell (.inl (by simp)) _).setCell (.inl (by simp)) _).drew)⟩

theorem catch_ret (rb cb p c : Nat) (d : List UInt8) (a a2 : Option Addr) (cap at2 : Nat) (bs : Value) (s : RS) (w : World)
    (hr : One w rb (.pointer (some ⟨p, 0, none⟩)) 73) (hp : w.heap[p]? = some (.cells #[.slice a d.length cap, .int .i64 s.at_, .int .i64 s.last, .int .i64 s.code, .int .i64 s.fat] 102 (0, 0)))
    (hcb : One w cb (.pointer (some ⟨c, 0, none⟩)) 105) (hc : w.heap[c]? = some (.cells #[bs, .int .i64 at2] 131 (0, 0))) (hpc : p ≠ c) (hpr : p ≠ rb) (hpb : p ≠ cb) :
    CallsD Tryd.prog 95 #[.pointer (some ⟨rb, 0, none⟩), .pointer (some ⟨cb, 0, none⟩)] .returning w fun e u' w' =>
      e = .returned (.tuple #[]) ∧ u' = .returning ∧
      w'.heap[p]? = some (.cells #[.slice a d.length cap, .int .i64 at2, .int .i64 s.at_, .int .i64 s.code, .int .i64 s.fat] 102 (0, 0)) ∧ Kp [p] w w' := by
  have hta : ∀ w, (Instr.typeAssert .nilIface 20 28 true).run Tryd.prog w = .ok (.tuple #[.int .i64 0, .bool false]) w := fun _ => by kernel_rfl
  refine callsD_of_wpS Tryd.func95 rfl fun c₀ cs hu => ?_
  simp only [Tryd.ntmps95, List.size_toArray, List.length_cons, List.length_nil, Nat.reduceAdd, Nat.reduceSub, Array.replicate_succ,
     Array.replicate_zero, List.push_toArray, List.append_toArray, List.nil_append, List.cons_append]
  apply wpS_seq
  apply wpS_seq
  refine wpS_recover (v := .nilIface) (cs' := c₀ :: cs) rfl rfl (.inr ⟨by simp only [recoverD, hu], rfl, rfl⟩) ?_
  go_wp2
  simp only [Exit.thenS]
  refine wpS_of_wp ?_
  have r0 := hr.cell
  have c0 := hcb.cell
  have hrlt := lt_of_heap hr
  have hplt := lt_of_heap hp
  have hcblt := lt_of_heap hcb
  have hclt := lt_of_heap hc
  have p1 : w.cell? ⟨p, 1, none⟩ = _ := cell_heap hp 1
  have p2 : w.cell? ⟨p, 2, none⟩ = _ := cell_heap hp 2
  have c1 : w.cell? ⟨c, 1, none⟩ = _ := cell_heap hc 1
  have f1 := free_heap hp 1
  have f2 := free_heap hp 2
  simp only [List.getElem?_toArray, List.getElem?_cons_zero, List.getElem?_cons_succ] at p1 p2 c1
  go_wp2
  simp only [Exit.thenS]
  refine wpS_of_wp ?_
  have hS : Gr w [rb, cb, c, p] w.drew := Gr.of (fun _ _ => rfl)
  refine wp_plan (.H 0 (.H 1 (.H 2 (.H 3 (.H 4 (.H 5 (.H 6 (.H 7 (.H 8 (.H 9 (.E 10 false (.E 11 false (.E 12 false (.E 13 false (.E 14 false (.E 15 false .Z)))))))))))))))) (Gr w [rb, cb, c, p]) (by kernel_rfl) (by kernel_rfl) ?_
  repeat (first | (refine plan_H rfl hS (fun K hK => ?_); go_simp; refine hK _ ?_; clear hK K) | (refine plan_E rfl (fun K hK => ?_); go_simp; (first | refine hK _ _ (fun _ => hS) ?_ | refine hK _ _ nofun ?_); clear hK K))
  refine plan_Z ?_
  go_wp2
  have h3 := heap_setCell_same w p 2 _ _ (.int .i64 s.at_) hp
  have h4 := heap_setCell_same _ p 1 _ _ (.int .i64 at2) h3
  cases c₀
  simp only at hu
  subst hu
  exact ⟨rfl, _, rfl, _, results_none rfl _ _ _, rfl, rfl, by simpa [World.drew] using h4, ((((Kp.refl [p] w).setCell (.inl (by simp)) _).setCell (.inl (by simp)) _).drew)⟩

section
variable (p fk : Nat) (caps : Array Value) (d : List UInt8) (s : RS) (w : World)

theorem take_skip (B : Nat) (hr : IsRd w B p d s) (hs : s.code ≠ 0) :
    Calls Tryd.prog 65 #[.pointer (some ⟨p, 0, none⟩), .func (.func fk) #[] caps] w fun e w' => e = .returned (.tuple #[]) ∧ Kp [] w w' := by
  obtain ⟨hB, hat, a, cap, hh, hb, hne⟩ := hr
  have hplt := lt_of_heap hh
  have hh_3 := cell_heap (w := w) (b := p) hh 3
  simp only [List.getElem?_toArray, List.getElem?_cons_zero, List.getElem?_cons_succ] at hh_3
  have hsb : (s.code != 0) = true := by simpa using hs
  have Hs := Lib.hid hs
  clear hs
  have hmf : ∀ (fn : Fn) (first cap : Array Value) (w : World), (Instr.makeFunc fn first cap).run Tryd.prog w = .ok (.func fn first cap) w := fun _ _ _ _ => rfl
  go_enter_defers Tryd.func65, Tryd.ntmps65
  go_wp2
  exact ⟨_, results_none rfl _ _ _, rfl, (Kp.refl [] w).alloc _⟩

/-- What stands behind the cursor's making. -/
theorem take_ok (B q at2 : Nat) (v : Value) (T : TypeId) (hr : IsRd w B p d s) (hs : s.code = 0)
    (hBq : B ≤ q) (hqw : q < w.heap.size) (hpq : p ≠ q) (ha2 : at2 ≤ d.length)
    (args : Value → Array Value) (hargs : ∀ a, #[a] ++ caps = args a) (hK0 : ∀ a w, (callFunc fk (args a)).run Tryd.prog w = .ok (.enter fk (args a)) w)
    (hp0 : ∀ c w1, Kp [] w w1 → w.heap.size ≤ c → IsCur w1 B c d s.at_ → Calls Tryd.prog fk (args (.pointer (some ⟨c, 0, none⟩))) w1 (Took B c q d at2 v T w1)) :
    Calls Tryd.prog 65 #[.pointer (some ⟨p, 0, none⟩), .func (.func fk) #[] caps] w fun e w' => e = .returned (.tuple #[]) ∧ IsRd w' B p d { s with at_ := at2, last := s.at_ } ∧ One w' q v T ∧ Kp [p, q] w w' := by
  have hK : ∀ a w, (callFunc fk (#[a] ++ caps)).run Tryd.prog w = .ok (.enter fk (#[a] ++ caps)) w := fun a w => by rw [hargs]; exact hK0 a w
  have hp : ∀ c w1, Kp [] w w1 → w.heap.size ≤ c → IsCur w1 B c d s.at_ → Calls Tryd.prog fk (#[.pointer (some ⟨c, 0, none⟩)] ++ caps) w1 (Took B c q d at2 v T w1) := fun c w1 h1 h2 h3 => by rw [hargs]; exact hp0 c w1 h1 h2 h3
  clear hK0 hp0 hargs
  obtain ⟨hBw, hat, a, cap, hh, hb, hne⟩ := hr
  have hplt := lt_of_heap hh
  have hh_0 := cell_heap (w := w) (b := p) hh 0
  have hh_1 := cell_heap (w := w) (b := p) hh 1
  have hh_3 := cell_heap (w := w) (b := p) hh 3
  simp only [List.getElem?_toArray, List.getElem?_cons_zero, List.getElem?_cons_succ] at hh_0 hh_1 hh_3
  have hsb : (s.code != 0) = false := by simpa using hs
  have Hs := Lib.hid hs
  clear hs
  have hmf : ∀ (fn : Fn) (first cap : Array Value) (w : World), (Instr.makeFunc fn first cap).run Tryd.prog w = .ok (.func fn first cap) w := fun _ _ _ _ => rfl
  go_enter_defers Tryd.func65, Tryd.ntmps65
  go_wp2
  have hS : Gr (w.alloc (.cells #[.pointer (some ⟨p, 0, none⟩)] 73)) [p, w.heap.size] (w.alloc (.cells #[.pointer (some ⟨p, 0, none⟩)] 73)).drew := Gr.of (fun _ _ => rfl)
  refine wp_plan (.H 0 (.H 1 (.H 2 (.H 3 (.H 4 (.H 5 (.H 6 (.H 7 (.H 8 (.B 9 false (.E 10 true (.E 11 false .Z)) 10 true (.E 9 false (.E 11 false .Z)))))))))))) (Gr (w.alloc (.cells #[.pointer (some ⟨p, 0, none⟩)] 73)) [p, w.heap.size]) (by kernel_rfl) (by kernel_rfl) ?_
  repeat (first | (refine plan_H rfl hS (fun K hK => ?_); go_simp; refine hK _ ?_; clear hK K) | (refine plan_E rfl (fun K hK => ?_); go_simp; (first | refine hK _ _ (fun _ => hS) ?_ | refine hK _ _ nofun ?_); clear hK K))
  have fin : ∀ (c cb : Nat) (W : World), Kp [] w W → One W w.heap.size (.pointer (some ⟨p, 0, none⟩)) 73 → One W cb (.pointer (some ⟨c, 0, none⟩)) 105 →
      W.heap[c]? = some (.cells #[.slice a d.length cap, .int .i64 s.at_] 131 (0, 0)) → w.heap.size < c → w.heap.size < cb → c ≠ cb →
      Calls Tryd.prog fk (#[.pointer (some ⟨c, 0, none⟩)] ++ caps) W fun e w2 => e = .returned (.tuple #[]) ∧ CallsD Tryd.prog 95 #[.pointer (some ⟨w.heap.size, 0, none⟩), .pointer (some ⟨cb, 0, none⟩)] .returning w2 fun e u' w' =>
        e = .returned (.tuple #[]) ∧ u' = .returning ∧ IsRd w' B p d { s with at_ := at2, last := s.at_ } ∧ One w' q v T ∧ Kp [p, q] w w' := by
    intro c cb W hk hrb hcb hcc h1 h2 h3
    refine (hp c W hk (by omega) ⟨by omega, a, cap, hcc, hb.kp0 hk, fun b e => (hne b e).2⟩).mono ?_
    rintro e w2 ⟨rfl, hcur, hq, hk2⟩
    refine ⟨rfl, ?_⟩
    obtain ⟨_, a3, cap3, hc3, _⟩ := hcur
    have hp2 := hk2.heap (hk.heap hh (by simp)) (by simp; omega)
    have hlt := lt_of_heap hrb
    refine (catch_ret w.heap.size cb p c d a a cap at2 _ s w2 (hrb.kp hk2 (by simp; omega)) hp2 (hcb.kp hk2 (by simp; omega)) hc3 (by omega) (by omega) (by omega)).mono ?_
    rintro e u' w' ⟨rfl, rfl, hp3, hk3⟩
    have hkk : Kp [p, q] w w2 := hk.nil.trans' hk2 (by simp; omega)
    refine ⟨rfl, rfl, ⟨by have := hkk.size; have := hk3.size; omega, ha2, a, cap, hp3, (hb.kp hkk ?_).kp hk3 ?_, hne⟩, One.kp hq hk3 (by simp; omega), hkk.trans' hk3 (by simp)⟩
    · intro b e hm
      have := hne b e
      simp only [List.mem_cons, List.not_mem_nil, or_false] at hm
      omega
    · intro b e hm
      have := hne b e
      simp only [List.mem_cons, List.not_mem_nil, or_false] at hm
      omega
  refine plan_B rfl rfl (fun K hK => ?_) (fun K hK => ?_)
  all_goals go_simp
  · refine hK _ _ (fun _ => Gr.of (fun b hb => Below.heap_alloc _ _ _ (by simp at hb ⊢; omega))) ?_
    clear hK K
    refine plan_E rfl (fun K hK => ?_); go_simp
    refine hK _ _ (fun _ => Gr.of (fun b hb => (Below.heap_alloc _ _ _ (by simp at hb ⊢; omega)).trans (Below.heap_alloc _ _ _ (by simp at hb ⊢; omega)))) ?_
    clear hK K
    refine plan_E rfl (fun K hK => ?_); go_simp
    refine hK _ _ nofun ?_
    clear hK K
    refine plan_Z ?_
    go_wp2_with fail
    refine (fin (w.heap.size + 1) (w.heap.size + 1 + 1) _ ?_ ?_ ?_ ?_ (by omega) (by omega) (by omega)).mono ?_
    · exact ((((Kp.refl [] w).alloc _).alloc _).alloc _).drew
    · simp only [One, halloc, hdrew, World.size_alloc]; simp; try omega
    · simp only [One, halloc, hdrew, World.size_alloc]; simp; try omega
    · simp only [halloc, hdrew, World.size_alloc]; simp; try omega
    rintro e w2 ⟨rfl, hD⟩
    go_wp2
    refine leaves_cons (f := 95) (args := #[.pointer (some ⟨w.heap.size, 0, none⟩), .pointer (some ⟨(w.heap.size + 1 + 1), 0, none⟩)]) (by simp) (by simp [go_sem]) ?_
    refine hD.mono ?_
    rintro e u' w' ⟨rfl, rfl, h1, h2, h3⟩
    exact ⟨_, results_none rfl _ _ _, rfl, h1, h2, h3⟩
  · refine hK _ _ (fun _ => Gr.of (fun b hb => Below.heap_alloc _ _ _ (by simp at hb ⊢; omega))) ?_
    clear hK K
    refine plan_E rfl (fun K hK => ?_); go_simp
    refine hK _ _ (fun _ => Gr.of (fun b hb => (Below.heap_alloc _ _ _ (by simp at hb ⊢; omega)).trans (Below.heap_alloc _ _ _ (by simp at hb ⊢; omega)))) ?_
    clear hK K
    refine plan_E rfl (fun K hK => ?_); go_simp
    refine hK _ _ nofun ?_
    clear hK K
    refine plan_Z ?_
    go_wp2_with fail
    refine (fin (w.heap.size + 1 + 1) (w.heap.size + 1) _ ?_ ?_ ?_ ?_ (by omega) (by omega) (by omega)).mono ?_
    · exact ((((Kp.refl [] w).alloc _).alloc _).alloc _).drew
    · simp only [One, halloc, hdrew, World.size_alloc]; simp; try omega
    · simp only [One, halloc, hdrew, World.size_alloc]; simp; try omega
    · simp only [halloc, hdrew, World.size_alloc]; simp; try omega
    rintro e w2 ⟨rfl, hD⟩
    go_wp2
    refine leaves_cons (f := 95) (args := #[.pointer (some ⟨w.heap.size, 0, none⟩), .pointer (some ⟨(w.heap.size + 1), 0, none⟩)]) (by simp) (by simp [go_sem]) ?_
    refine hD.mono ?_
    rintro e u' w' ⟨rfl, rfl, h1, h2, h3⟩
    exact ⟨_, results_none rfl _ _ _, rfl, h1, h2, h3⟩

theorem take_bad (B : Nat) (code : Int) (hr : IsRd w B p d s) (hs : s.code = 0)
    (args : Value → Array Value) (hargs : ∀ a, #[a] ++ caps = args a) (hK0 : ∀ a w, (callFunc fk (args a)).run Tryd.prog w = .ok (.enter fk (args a)) w)
    (hp0 : ∀ c w1, Kp [] w w1 → w.heap.size ≤ c → IsCur w1 B c d s.at_ → Calls Tryd.prog fk (args (.pointer (some ⟨c, 0, none⟩))) w1 (Bad c code w1)) :
    Calls Tryd.prog 65 #[.pointer (some ⟨p, 0, none⟩), .func (.func fk) #[] caps] w fun e w' => e = .returned (.tuple #[]) ∧ IsRd w' B p d (s.fault code) ∧ Kp [p] w w' := by
  have hK : ∀ a w, (callFunc fk (#[a] ++ caps)).run Tryd.prog w = .ok (.enter fk (#[a] ++ caps)) w := fun a w => by rw [hargs]; exact hK0 a w
  have hp : ∀ c w1, Kp [] w w1 → w.heap.size ≤ c → IsCur w1 B c d s.at_ → Calls Tryd.prog fk (#[.pointer (some ⟨c, 0, none⟩)] ++ caps) w1 (Bad c code w1) := fun c w1 h1 h2 h3 => by rw [hargs]; exact hp0 c w1 h1 h2 h3
  clear hK0 hp0 hargs
  obtain ⟨hBw, hat, a, cap, hh, hb, hne⟩ := hr
  have hplt := lt_of_heap hh
  have hh_0 := cell_heap (w := w) (b := p) hh 0
  have hh_1 := cell_heap (w := w) (b := p) hh 1
  have hh_3 := cell_heap (w := w) (b := p) hh 3
  simp only [List.getElem?_toArray, List.getElem?_cons_zero, List.getElem?_cons_succ] at hh_0 hh_1 hh_3
  have hsb : (s.code != 0) = false := by simpa using hs
  have Hs := Lib.hid hs
  clear hs
  have hmf : ∀ (fn : Fn) (first cap : Array Value) (w : World), (Instr.makeFunc fn first cap).run Tryd.prog w = .ok (.func fn first cap) w := fun _ _ _ _ => rfl
  go_enter_defers Tryd.func65, Tryd.ntmps65
  go_wp2
  have hS : Gr (w.alloc (.cells #[.pointer (some ⟨p, 0, none⟩)] 73)) [p, w.heap.size] (w.alloc (.cells #[.pointer (some ⟨p, 0, none⟩)] 73)).drew := Gr.of (fun _ _ => rfl)
  refine wp_plan (.H 0 (.H 1 (.H 2 (.H 3 (.H 4 (.H 5 (.H 6 (.H 7 (.H 8 (.B 9 false (.E 10 true (.E 11 false .Z)) 10 true (.E 9 false (.E 11 false .Z)))))))))))) (Gr (w.alloc (.cells #[.pointer (some ⟨p, 0, none⟩)] 73)) [p, w.heap.size]) (by kernel_rfl) (by kernel_rfl) ?_
  repeat (first | (refine plan_H rfl hS (fun K hK => ?_); go_simp; refine hK _ ?_; clear hK K) | (refine plan_E rfl (fun K hK => ?_); go_simp; (first | refine hK _ _ (fun _ => hS) ?_ | refine hK _ _ nofun ?_); clear hK K))
  have fin : ∀ (c cb : Nat) (W : World), Kp [] w W → One W w.heap.size (.pointer (some ⟨p, 0, none⟩)) 73 →
      W.heap[c]? = some (.cells #[.slice a d.length cap, .int .i64 s.at_] 131 (0, 0)) → w.heap.size < c →
      Calls Tryd.prog fk (#[.pointer (some ⟨c, 0, none⟩)] ++ caps) W fun e w2 => e = .panicked [{ v := .iface 28 (.int .i64 code), recovered := false }] ∧ CallsD Tryd.prog 95 #[.pointer (some ⟨w.heap.size, 0, none⟩), .pointer (some ⟨cb, 0, none⟩)] (.panicking [{ v := .iface 28 (.int .i64 code), recovered := false }]) w2 fun e u' w' =>
        e = .returned (.tuple #[]) ∧ u' = .panicking [{ v := .iface 28 (.int .i64 code), recovered := true }] ∧ IsRd w' B p d (s.fault code) ∧ Kp [p] w w' := by
    intro c cb W hk hrb hcc h1
    refine (hp c W hk (by omega) ⟨by omega, a, cap, hcc, hb.kp0 hk, fun b e => (hne b e).2⟩).mono ?_
    rintro e w2 ⟨rfl, hk2⟩
    refine ⟨rfl, ?_⟩
    have hp2 := hk2.heap (hk.heap hh (by simp)) (by simp; omega)
    refine (catch_panic w.heap.size cb p c code d a cap s [] w2 (hrb.kp hk2 (by simp; omega)) hp2).mono ?_
    rintro e u' w' ⟨rfl, rfl, hp3, hk3⟩
    have hkk : Kp [p] w w2 := hk.nil.trans' hk2 (by simp; omega)
    refine ⟨rfl, rfl, ⟨by have := hkk.size; have := hk3.size; omega, hat, a, cap, hp3, (hb.kp hkk ?_).kp hk3 ?_, hne⟩, hkk.trans' hk3 (by simp)⟩
    · intro b e hm
      have := hne b e
      simp only [List.mem_cons, List.not_mem_nil, or_false] at hm
      omega
    · intro b e hm
      have := hne b e
      simp only [List.mem_cons, List.not_mem_nil, or_false] at hm
      omega
  refine plan_B rfl rfl (fun K hK => ?_) (fun K hK => ?_)
  all_goals go_simp
  · refine hK _ _ (fun _ => Gr.of (fun b hb => Below.heap_alloc _ _ _ (by simp at hb ⊢; omega))) ?_
    clear hK K
    refine plan_E rfl (fun K hK => ?_); go_simp
    refine hK _ _ (fun _ => Gr.of (fun b hb => (Below.heap_alloc _ _ _ (by simp at hb ⊢; omega)).trans (Below.heap_alloc _ _ _ (by simp at hb ⊢; omega)))) ?_
    clear hK K
    refine plan_E rfl (fun K hK => ?_); go_simp
    refine hK _ _ nofun ?_
    clear hK K
    refine plan_Z ?_
    go_wp2_with fail
    refine (fin (w.heap.size + 1) (w.heap.size + 1 + 1) _ ?_ ?_ ?_ (by omega)).mono ?_
    · exact ((((Kp.refl [] w).alloc _).alloc _).alloc _).drew
    · simp only [One, halloc, hdrew, World.size_alloc]; simp; try omega
    · simp only [halloc, hdrew, World.size_alloc]; simp; try omega
    rintro e w2 ⟨rfl, hD⟩
    go_wp2
    refine leaves_cons (f := 95) (args := #[.pointer (some ⟨w.heap.size, 0, none⟩), .pointer (some ⟨(w.heap.size + 1 + 1), 0, none⟩)]) (by simp) (by simp [go_sem]) ?_
    refine hD.mono ?_
    rintro e u' w' ⟨rfl, rfl, h1, h2⟩
    exact ⟨_, results_none rfl _ _ _, rfl, h1, h2⟩
  · refine hK _ _ (fun _ => Gr.of (fun b hb => Below.heap_alloc _ _ _ (by simp at hb ⊢; omega))) ?_
    clear hK K
    refine plan_E rfl (fun K hK => ?_); go_simp
    refine hK _ _ (fun _ => Gr.of (fun b hb => (Below.heap_alloc _ _ _ (by simp at hb ⊢; omega)).trans (Below.heap_alloc _ _ _ (by simp at hb ⊢; omega)))) ?_
    clear hK K
    refine plan_E rfl (fun K hK => ?_); go_simp
    refine hK _ _ nofun ?_
    clear hK K
    refine plan_Z ?_
    go_wp2_with fail
    refine (fin (w.heap.size + 1 + 1) (w.heap.size + 1) _ ?_ ?_ ?_ (by omega)).mono ?_
    · exact ((((Kp.refl [] w).alloc _).alloc _).alloc _).drew
    · simp only [One, halloc, hdrew, World.size_alloc]; simp; try omega
    · simp only [halloc, hdrew, World.size_alloc]; simp; try omega
    rintro e w2 ⟨rfl, hD⟩
    go_wp2
    refine leaves_cons (f := 95) (args := #[.pointer (some ⟨w.heap.size, 0, none⟩), .pointer (some ⟨(w.heap.size + 1), 0, none⟩)]) (by simp) (by simp [go_sem]) ?_
    refine hD.mono ?_
    rintro e u' w' ⟨rfl, rfl, h1, h2⟩
    exact ⟨_, results_none rfl _ _ _, rfl, h1, h2⟩
end
end Go.Proofs.YtddpefbpiehgeaaDoor

/- The reader: Number, Count, Text, End. -/
namespace Go.Proofs.YtddpefbpiehgeaaDoor
open Go Go.RowKit
set_option maxRecDepth 100000
set_option linter.unusedVariables false
set_option linter.unusedSectionVars false
set_option linter.unusedSimpArgs false

section
variable (B c bs q : Nat) (d : List UInt8) (at_ : Nat) (x0 : Value) (w : World) (hc : IsCur w B c d at_) (hcq : c ≠ q) (hBq : B ≤ q) (hlen : d.length ≤ 140737488355328)
include hc hcq hBq hlen

theorem pcount_ok (m : Nat) (hs : One w bs (.int .i64 m) 3) (hq : One w q x0 3) (hcs : c ≠ bs)
    (hn : 2 + at_ ≤ d.length) (hx : num ((d.drop at_).take 2) ≤ m) :
    Calls Tryd.prog 70 #[.pointer (some ⟨c, 0, none⟩), .pointer (some ⟨bs, 0, none⟩), .pointer (some ⟨q, 0, none⟩)] w (Took B c q d (at_ + 2) (.int .i64 (num ((d.drop at_).take 2))) 3 w) := by
  have hX2 := num_lt2 (d.drop at_)
  generalize hX : num ((d.drop at_).take 2) = X at *
  have HX := Lib.hid hX
  clear hX
  have hd0 : decide ((0 : Int) ≤ m) = true := by rw [decide_eq_true_eq]; omega
  have hd1 : decide ((X : Int) ≤ m) = true := by rw [decide_eq_true_eq]; omega
  have hd2 : decide (X ≤ m) = true := by rw [decide_eq_true_eq]; omega
  have hw1 : IntKind.i64.wrap (X : Int) = X := IntWalk.i64_in _ (by omega)
  have hslt := lt_of_heap hs
  have hqlt := lt_of_heap hq
  have s0 := hs.cell
  go_enter Tryd.func70, Tryd.ntmps70
  go_wp2_with (first
    | (go_at_call 67; refine (check_yes _ _).mono ?_; rintro e w' ⟨rfl, rfl⟩)
    | (go_at_call 69; refine (bits_ok B c d at_ 2 w hc hn (by omega) hlen).mono ?_; rintro e w1 ⟨rfl, hc1, hk1'⟩; rw [HX.out]; have hq1 := hq.kp hk1' (by simpa using hcq.symm); have q0 := hq1.cell; have qf := hq1.free; have s1 := (hs.kp hk1' (by simpa using hcs.symm)).cell))
  go_end0
  exact Took.mk hc1 hk1' hq1 hcq hBq

theorem pcount_short (m : Nat) (hs : One w bs (.int .i64 m) 3) (ha : at_ ≤ d.length) (hn : d.length < 2 + at_) :
    Calls Tryd.prog 70 #[.pointer (some ⟨c, 0, none⟩), .pointer (some ⟨bs, 0, none⟩), .pointer (some ⟨q, 0, none⟩)] w (Bad c 10 w) := by
  have hd0 : decide ((0 : Int) ≤ m) = true := by rw [decide_eq_true_eq]; omega
  have hslt := lt_of_heap hs
  have s0 := hs.cell
  go_enter Tryd.func70, Tryd.ntmps70
  go_wp2_with (first
    | (go_at_call 67; first | ((with_reducible refine (check_yes _ _).mono ?_); rintro e w' ⟨rfl, rfl⟩) | ((with_reducible refine (check_no _ _).mono ?_); rintro e w' ⟨rfl, rfl⟩))
    | (go_at_call 69; refine (bits_bad B c d at_ 2 w hc hn ha hlen).mono ?_; rintro e w1 ⟨rfl, hk1'⟩))
  exact ⟨rfl, rfl, hk1'.nil⟩

theorem pcount_long (m : Nat) (hs : One w bs (.int .i64 m) 3) (hcs : c ≠ bs) (hn : 2 + at_ ≤ d.length) (hx : m < num ((d.drop at_).take 2)) :
    Calls Tryd.prog 70 #[.pointer (some ⟨c, 0, none⟩), .pointer (some ⟨bs, 0, none⟩), .pointer (some ⟨q, 0, none⟩)] w (Bad c 12 w) := by
  have hX2 := num_lt2 (d.drop at_)
  generalize hX : num ((d.drop at_).take 2) = X at *
  have HX := Lib.hid hX
  clear hX
  have hd0 : decide ((0 : Int) ≤ m) = true := by rw [decide_eq_true_eq]; omega
  have hw1 : IntKind.i64.wrap (X : Int) = X := IntWalk.i64_in _ (by omega)
  have hslt := lt_of_heap hs
  have s0 := hs.cell
  have hd1 : decide ((X : Int) ≤ m) = false := by rw [decide_eq_false_iff_not]; omega
  have hd2 : decide (X ≤ m) = false := by rw [decide_eq_false_iff_not]; omega
  go_enter Tryd.func70, Tryd.ntmps70
  go_wp2_with (first
    | (go_at_call 67; first | ((with_reducible refine (check_yes _ _).mono ?_); rintro e w' ⟨rfl, rfl⟩) | ((with_reducible refine (check_no _ _).mono ?_); rintro e w' ⟨rfl, rfl⟩))
    | (go_at_call 69; refine (bits_ok B c d at_ 2 w hc hn (by omega) hlen).mono ?_; rintro e w1 ⟨rfl, hc1, hk1'⟩; rw [HX.out]; have s1 := (hs.kp hk1' (by simpa using hcs.symm)).cell))
  exact ⟨rfl, rfl, hk1'⟩

theorem ptext_short (m : Nat) (hs : One w bs (.int .i64 m) 3) (ha : at_ ≤ d.length) (hn : d.length < 2 + at_) :
    Calls Tryd.prog 71 #[.pointer (some ⟨c, 0, none⟩), .pointer (some ⟨bs, 0, none⟩), .pointer (some ⟨q, 0, none⟩)] w (Bad c 10 w) := by
  have hd0 : decide ((0 : Int) ≤ m) = true := by rw [decide_eq_true_eq]; omega
  have hslt := lt_of_heap hs
  have s0 := hs.cell
  go_enter Tryd.func71, Tryd.ntmps71
  go_wp2_with (first
    | (go_at_call 67; first | ((with_reducible refine (check_yes _ _).mono ?_); rintro e w' ⟨rfl, rfl⟩) | ((with_reducible refine (check_no _ _).mono ?_); rintro e w' ⟨rfl, rfl⟩))
    | (go_at_call 69; refine (bits_bad B c d at_ 2 w hc hn ha hlen).mono ?_; rintro e w1 ⟨rfl, hk1'⟩))
  exact ⟨rfl, rfl, hk1'.nil⟩

theorem ptext_long (m : Nat) (hs : One w bs (.int .i64 m) 3) (hcs : c ≠ bs) (hn : 2 + at_ ≤ d.length) (hx : m < num ((d.drop at_).take 2)) :
    Calls Tryd.prog 71 #[.pointer (some ⟨c, 0, none⟩), .pointer (some ⟨bs, 0, none⟩), .pointer (some ⟨q, 0, none⟩)] w (Bad c 12 w) := by
  have hX2 := num_lt2 (d.drop at_)
  generalize hX : num ((d.drop at_).take 2) = X at *
  have HX := Lib.hid hX
  clear hX
  have hd0 : decide ((0 : Int) ≤ m) = true := by rw [decide_eq_true_eq]; omega
  have hw1 : IntKind.i64.wrap (X : Int) = X := IntWalk.i64_in _ (by omega)
  have hslt := lt_of_heap hs
  have s0 := hs.cell
  have hd1 : decide ((X : Int) ≤ m) = false := by rw [decide_eq_false_iff_not]; omega
  have hd2 : decide (X ≤ m) = false := by rw [decide_eq_false_iff_not]; omega
  go_enter Tryd.func71, Tryd.ntmps71
  go_wp2_with (first
    | (go_at_call 67; first | ((with_reducible refine (check_yes _ _).mono ?_); rintro e w' ⟨rfl, rfl⟩) | ((with_reducible refine (check_no _ _).mono ?_); rintro e w' ⟨rfl, rfl⟩))
    | (go_at_call 69; refine (bits_ok B c d at_ 2 w hc hn (by omega) hlen).mono ?_; rintro e w1 ⟨rfl, hc1, hk1'⟩; rw [HX.out]; have s1 := (hs.kp hk1' (by simpa using hcs.symm)).cell))
  exact ⟨rfl, rfl, hk1'⟩

theorem ptext_ok (m : Nat) (hs : One w bs (.int .i64 m) 3) (hq : One w q x0 9) (hcs : c ≠ bs)
    (hn : 2 + at_ ≤ d.length) (hx : num ((d.drop at_).take 2) ≤ m) (hn2 : num ((d.drop at_).take 2) + (at_ + 2) ≤ d.length) :
    Calls Tryd.prog 71 #[.pointer (some ⟨c, 0, none⟩), .pointer (some ⟨bs, 0, none⟩), .pointer (some ⟨q, 0, none⟩)] w
      (Took B c q d (at_ + 2 + num ((d.drop at_).take 2)) (.string ⟨((d.drop (at_ + 2)).take (num ((d.drop at_).take 2))).toArray⟩) 9 w) := by
  have hX2 := num_lt2 (d.drop at_)
  generalize hX : num ((d.drop at_).take 2) = X at *
  have HX := Lib.hid hX
  clear hX
  have hd0 : decide ((0 : Int) ≤ m) = true := by rw [decide_eq_true_eq]; omega
  have hw1 : IntKind.i64.wrap (X : Int) = X := IntWalk.i64_in _ (by omega)
  have hslt := lt_of_heap hs
  have s0 := hs.cell
  have hd1 : decide ((X : Int) ≤ m) = true := by rw [decide_eq_true_eq]; omega
  have hd2 : decide (X ≤ m) = true := by rw [decide_eq_true_eq]; omega
  have hqlt := lt_of_heap hq
  go_enter Tryd.func71, Tryd.ntmps71
  go_wp2_with (first
    | (go_at_call 67; refine (check_yes _ _).mono ?_; rintro e w' ⟨rfl, rfl⟩)
    | (go_at_call 69; refine (bits_ok B c d at_ 2 w hc hn (by omega) hlen).mono ?_; rintro e w1 ⟨rfl, hc1, hk1'⟩; rw [HX.out]; have s1 := (hs.kp hk1' (by simpa using hcs.symm)).cell)
    | (go_at_call 72; refine (cbytes_ok B c d (at_ + 2) X w1 hc1 hn2 hlen).mono ?_; rintro e w2 ⟨v, rfl, hb2, hc2, hk2⟩; have hcv := b2s hb2 23 9 5 Tryd.underlying23 Tryd.underlying5 Tryd.underlying9; have hk3 := hk1'.trans hk2; have hq1 := hq.kp hk3 (by simpa using hcq.symm); have q0 := hq1.cell; have qf := hq1.free))
  go_end0
  exact Took.mk hc2 hk3 hq1 hcq hBq

theorem ptext_short2 (m : Nat) (hs : One w bs (.int .i64 m) 3) (hcs : c ≠ bs)
    (hn : 2 + at_ ≤ d.length) (hx : num ((d.drop at_).take 2) ≤ m) (hn2 : d.length < num ((d.drop at_).take 2) + (at_ + 2)) :
    Calls Tryd.prog 71 #[.pointer (some ⟨c, 0, none⟩), .pointer (some ⟨bs, 0, none⟩), .pointer (some ⟨q, 0, none⟩)] w (Bad c 10 w) := by
  have hX2 := num_lt2 (d.drop at_)
  generalize hX : num ((d.drop at_).take 2) = X at *
  have HX := Lib.hid hX
  clear hX
  have hd0 : decide ((0 : Int) ≤ m) = true := by rw [decide_eq_true_eq]; omega
  have hw1 : IntKind.i64.wrap (X : Int) = X := IntWalk.i64_in _ (by omega)
  have hslt := lt_of_heap hs
  have s0 := hs.cell
  have hd1 : decide ((X : Int) ≤ m) = true := by rw [decide_eq_true_eq]; omega
  have hd2 : decide (X ≤ m) = true := by rw [decide_eq_true_eq]; omega
  go_enter Tryd.func71, Tryd.ntmps71
  go_wp2_with (first
    | (go_at_call 67; refine (check_yes _ _).mono ?_; rintro e w' ⟨rfl, rfl⟩)
    | (go_at_call 69; refine (bits_ok B c d at_ 2 w hc hn (by omega) hlen).mono ?_; rintro e w1 ⟨rfl, hc1, hk1'⟩; rw [HX.out]; have s1 := (hs.kp hk1' (by simpa using hcs.symm)).cell)
    | (go_at_call 72; refine (cbytes_bad B c d (at_ + 2) X w1 hc1 hn2 (by omega) hlen).mono ?_; rintro e w2 ⟨rfl, hk2⟩))
  exact ⟨rfl, rfl, hk1'.trans hk2.nil⟩
end
end Go.Proofs.YtddpefbpiehgeaaDoor

/- The reader's methods. -/
namespace Go.Proofs.YtddpefbpiehgeaaDoor
open Go Go.RowKit
set_option maxRecDepth 100000
set_option linter.unusedVariables false
set_option linter.unusedSectionVars false
set_option linter.unusedSimpArgs false

theorem newReader_calls (v : Value) (d : List UInt8) (w : World) (hb : Bs w v d) (hlen : d.length ≤ 140737488355328) :
    Calls Tryd.prog 38 #[v] w fun e w' => ∃ p, e = .returned (.pointer (some ⟨p, 0, none⟩)) ∧ w.heap.size ≤ p ∧ IsRd w' w'.heap.size p d ⟨0, 0, 0, 0⟩ ∧ Kp [] w w' := by
  obtain ⟨i0, hi, hz0, hz1, hz2⟩ := info_parts u8info
  go_enter Tryd.func38, Tryd.ntmps38
  go_wp2_with (refine wpList_app _ rfl _ _ 23 23 rfl w.heap.size 5 i0 _ 1 1 Tryd.underlying23 hi hz0 hz1 hz2 rfl (by omega) (.slice none 0 0) 0 [] rfl (Own.nil _ _ _ _) v _ _ rfl (Src.of_sl Tryd.underlying23 hb bcells_one) (by omega) (by omega) (by omega) ?_)
  intro v1 w1 ho hg hb1
  obtain ⟨a1, cap1, rfl⟩ := own_form ho
  go_wp2
  go_ret
  have ho2 : OB w1 5 w.heap.size (.slice a1 (d.length) cap1) d := by unfold OB; simpa using ho
  have hk1 : Kp [] w w1 := (Kp.refl [] w).grown hg nofun
  have hk2 : Kp [] w1 (w1.alloc (.cells #[.slice a1 (d.length) cap1, .int .i64 0, .int .i64 0, .int .i64 0, .int .i64 0] 102)) := (Kp.refl [] w1).alloc _
  refine ⟨w1.heap.size, rfl, hk1.size, ⟨Nat.le_refl _, Nat.zero_le _, a1, cap1, ?_, ?_, ?_⟩, hk1.trans hk2⟩
  · have := heap_alloc_new w1 (.cells #[.slice a1 (d.length) cap1, .int .i64 0, .int .i64 0, .int .i64 0, .int .i64 0] 102)
    exact this
  · have := ho2.bs.kp0 hk2
    exact this
  · intro b e
    have h1 := (ho2.lt b e).2
    have h2 : (w1.alloc (.cells #[.slice a1 (d.length) cap1, .int .i64 0, .int .i64 0, .int .i64 0, .int .i64 0] 102)).heap.size = w1.heap.size + 1 := World.size_alloc _ _
    omega

/-- What a read comes to. -/
def Read (B p : Nat) (d : List UInt8) (v : Value) (s : RS) (w : World) (e : Ending) (w' : World) : Prop := e = .returned v ∧ IsRd w' B p d s ∧ Kp [p] w w'

theorem rnumber_calls (B p : Nat) (d : List UInt8) (s : RS) (k : Nat) (w : World) (hr : IsRd w B p d s) (hk1 : 1 ≤ k) (hk8 : k ≤ 8) (hlen : d.length ≤ 140737488355328) :
    Calls Tryd.prog 39 #[.pointer (some ⟨p, 0, none⟩), .int .i64 k] w (Read B p d (.int .i64 (rdNum d k s).1) (rdNum d k s).2 w) := by
  have hmf : ∀ (fn : Fn) (first cap : Array Value) (w : World), (Instr.makeFunc fn first cap).run Tryd.prog w = .ok (.func fn first cap) w := fun _ _ _ _ => rfl
  have hpw : p < w.heap.size := by obtain ⟨_, _, a, cap, hh, _⟩ := hr; exact lt_of_heap hh
  have hBw := hr.1
  have hat := hr.2.1
  have hkk : Kp [] w ((w.alloc (.cells #[.int .i64 k] 3)).alloc (.cells #[.int .u64 0] 103)) := ((Kp.refl [] w).alloc _).alloc _
  have hsz : ((w.alloc (.cells #[.int .i64 k] 3)).alloc (.cells #[.int .u64 0] 103)).heap.size = w.heap.size + 1 + 1 := by simp only [World.size_alloc]
  have hbs : One ((w.alloc (.cells #[.int .i64 k] 3)).alloc (.cells #[.int .u64 0] 103)) w.heap.size (.int .i64 k) 3 := by simp only [One, halloc, hdrew, World.size_alloc]; simp
  have hqs : One ((w.alloc (.cells #[.int .i64 k] 3)).alloc (.cells #[.int .u64 0] 103)) (w.heap.size + 1) (.int .u64 0) 103 := by simp only [One, halloc, hdrew, World.size_alloc]; simp
  have hr2 := hr.kp hkk (by simp)
  have key : Calls Tryd.prog 65 #[.pointer (some ⟨p, 0, none⟩), .func (.func 66) #[] #[.pointer (some ⟨w.heap.size, 0, none⟩), .pointer (some ⟨w.heap.size + 1, 0, none⟩)]] ((w.alloc (.cells #[.int .i64 k] 3)).alloc (.cells #[.int .u64 0] 103))
      fun e w1 => e = .returned (.tuple #[]) ∧ IsRd w1 B p d (rdNum d k s).2 ∧ One w1 (w.heap.size + 1) (.int .u64 (rdNum d k s).1) 103 ∧ Kp [p, w.heap.size + 1] ((w.alloc (.cells #[.int .i64 k] 3)).alloc (.cells #[.int .u64 0] 103)) w1 := by
    by_cases h0 : s.code = 0
    · by_cases h1 : d.length < k + s.at_
      · have e1 : rdNum d k s = (0, s.fault 10) := by unfold rdNum; rw [if_neg (by simpa using h0), if_pos h1]
        rw [e1]
        refine (take_bad p 66 #[.pointer (some ⟨w.heap.size, 0, none⟩), .pointer (some ⟨w.heap.size + 1, 0, none⟩)] d s _ B 10 hr2 h0 (fun a => #[a, .pointer (some ⟨w.heap.size, 0, none⟩), .pointer (some ⟨w.heap.size + 1, 0, none⟩)]) (fun _ => rfl) (fun a w => by simp [go_sem]) (fun c w1 hk hc hcur => pnum_short B c _ (w.heap.size + 1) d s.at_ w1 hcur (by omega) (by omega) (by omega) hlen k (hbs.kp hk (by simp)) hat h1 hk1 hk8)).mono ?_
        rintro e w1 ⟨rfl, h1, hk⟩
        exact ⟨rfl, h1, hqs.kp hk (by simp; omega), hk.mono (by simp)⟩
      by_cases h2 : 9223372036854775807 < num ((d.drop s.at_).take k)
      · have e1 : rdNum d k s = (0, s.fault 11) := by unfold rdNum; rw [if_neg (by simpa using h0), if_neg h1, if_pos h2]
        rw [e1]
        refine (take_bad p 66 #[.pointer (some ⟨w.heap.size, 0, none⟩), .pointer (some ⟨w.heap.size + 1, 0, none⟩)] d s _ B 11 hr2 h0 (fun a => #[a, .pointer (some ⟨w.heap.size, 0, none⟩), .pointer (some ⟨w.heap.size + 1, 0, none⟩)]) (fun _ => rfl) (fun a w => by simp [go_sem]) (fun c w1 hk hc hcur => pnum_form B c _ (w.heap.size + 1) d s.at_ w1 hcur (by omega) (by omega) (by omega) hlen k (hbs.kp hk (by simp)) (by omega) hk1 hk8 h2)).mono ?_
        rintro e w1 ⟨rfl, h1, hk⟩
        exact ⟨rfl, h1, hqs.kp hk (by simp; omega), hk.mono (by simp)⟩
      · have e1 : rdNum d k s = (num ((d.drop s.at_).take k), s.move k) := by unfold rdNum; rw [if_neg (by simpa using h0), if_neg h1, if_neg h2]
        rw [e1]
        refine (take_ok p 66 #[.pointer (some ⟨w.heap.size, 0, none⟩), .pointer (some ⟨w.heap.size + 1, 0, none⟩)] d s _ B (w.heap.size + 1) (s.at_ + k) (.int .u64 (num ((d.drop s.at_).take k))) 103 hr2 h0 (by omega) (by omega) (by omega) (by omega) (fun a => #[a, .pointer (some ⟨w.heap.size, 0, none⟩), .pointer (some ⟨w.heap.size + 1, 0, none⟩)]) (fun _ => rfl) (fun a w => by simp [go_sem]) (fun c w1 hk hc hcur => pnum_ok B c _ (w.heap.size + 1) d s.at_ _ w1 hcur (by omega) (by omega) (by omega) hlen k (hbs.kp hk (by simp)) (hqs.kp hk (by simp)) (by omega) hk1 hk8 (by omega))).mono ?_
        rintro e w1 ⟨rfl, h1, h2, hk⟩
        exact ⟨rfl, h1, h2, hk⟩
    · have e1 : rdNum d k s = (0, s) := by unfold rdNum; rw [if_pos (by simpa using h0)]
      rw [e1]
      refine (take_skip p _ _ d s _ B hr2 h0).mono ?_
      rintro e w1 ⟨rfl, hk⟩
      exact ⟨rfl, hr2.kp hk (by simp), hqs.kp hk (by simp), hk.nil⟩
  have hx9 : (rdNum d k s).1 ≤ 9223372036854775807 := by
    unfold rdNum
    repeat (split; · simp)
    simp; omega
  generalize rdNum d k s = R at *
  have hw1 : IntKind.i64.wrap (R.1 : Int) = R.1 := IntWalk.i64_in _ (by omega)
  go_enter Tryd.func39, Tryd.ntmps39
  go_wp2_with fail
  refine key.mono ?_
  rintro e w1 ⟨rfl, h1, h2, hk⟩
  have q0 := h2.cell
  go_wp2
  go_ret
  exact ⟨rfl, h1, hkk.nil.trans' hk (by simp)⟩

theorem rcount_calls (B p : Nat) (d : List UInt8) (s : RS) (m : Nat) (w : World) (hr : IsRd w B p d s) (hlen : d.length ≤ 140737488355328) :
    Calls Tryd.prog 40 #[.pointer (some ⟨p, 0, none⟩), .int .i64 m] w (Read B p d (.int .i64 (rdCount d m s).1) (rdCount d m s).2 w) := by
  have hmf : ∀ (fn : Fn) (first cap : Array Value) (w : World), (Instr.makeFunc fn first cap).run Tryd.prog w = .ok (.func fn first cap) w := fun _ _ _ _ => rfl
  have hpw : p < w.heap.size := by obtain ⟨_, _, a, cap, hh, _⟩ := hr; exact lt_of_heap hh
  have hBw := hr.1
  have hat := hr.2.1
  have hkk : Kp [] w ((w.alloc (.cells #[.int .i64 m] 3)).alloc (.cells #[.int .i64 0] 3)) := ((Kp.refl [] w).alloc _).alloc _
  have hsz : ((w.alloc (.cells #[.int .i64 m] 3)).alloc (.cells #[.int .i64 0] 3)).heap.size = w.heap.size + 1 + 1 := by simp only [World.size_alloc]
  have hbs : One ((w.alloc (.cells #[.int .i64 m] 3)).alloc (.cells #[.int .i64 0] 3)) w.heap.size (.int .i64 m) 3 := by simp only [One, halloc, hdrew, World.size_alloc]; simp
  have hqs : One ((w.alloc (.cells #[.int .i64 m] 3)).alloc (.cells #[.int .i64 0] 3)) (w.heap.size + 1) (.int .i64 0) 3 := by simp only [One, halloc, hdrew, World.size_alloc]; simp
  have hr2 := hr.kp hkk (by simp)
  have key : Calls Tryd.prog 65 #[.pointer (some ⟨p, 0, none⟩), .func (.func 70) #[] #[.pointer (some ⟨w.heap.size, 0, none⟩), .pointer (some ⟨w.heap.size + 1, 0, none⟩)]] ((w.alloc (.cells #[.int .i64 m] 3)).alloc (.cells #[.int .i64 0] 3))
      fun e w1 => e = .returned (.tuple #[]) ∧ IsRd w1 B p d (rdCount d m s).2 ∧ One w1 (w.heap.size + 1) (.int .i64 (rdCount d m s).1) 3 ∧ Kp [p, w.heap.size + 1] ((w.alloc (.cells #[.int .i64 m] 3)).alloc (.cells #[.int .i64 0] 3)) w1 := by
    by_cases h0 : s.code = 0
    · by_cases h1 : d.length < 2 + s.at_
      · have e1 : rdCount d m s = (0, s.fault 10) := by unfold rdCount; rw [if_neg (by simpa using h0), if_pos h1]
        rw [e1]
        refine (take_bad p 70 #[.pointer (some ⟨w.heap.size, 0, none⟩), .pointer (some ⟨w.heap.size + 1, 0, none⟩)] d s _ B 10 hr2 h0 (fun a => #[a, .pointer (some ⟨w.heap.size, 0, none⟩), .pointer (some ⟨w.heap.size + 1, 0, none⟩)]) (fun _ => rfl) (fun a w => by simp [go_sem]) (fun c w1 hk hc hcur => pcount_short B c _ (w.heap.size + 1) d s.at_ w1 hcur (by omega) (by omega) hlen m (hbs.kp hk (by simp)) hat h1)).mono ?_
        rintro e w1 ⟨rfl, h1, hk⟩
        exact ⟨rfl, h1, hqs.kp hk (by simp; omega), hk.mono (by simp)⟩
      by_cases h2 : m < num ((d.drop s.at_).take 2)
      · have e1 : rdCount d m s = (0, s.fault 12) := by unfold rdCount; rw [if_neg (by simpa using h0), if_neg h1, if_pos h2]
        rw [e1]
        refine (take_bad p 70 #[.pointer (some ⟨w.heap.size, 0, none⟩), .pointer (some ⟨w.heap.size + 1, 0, none⟩)] d s _ B 12 hr2 h0 (fun a => #[a, .pointer (some ⟨w.heap.size, 0, none⟩), .pointer (some ⟨w.heap.size + 1, 0, none⟩)]) (fun _ => rfl) (fun a w => by simp [go_sem]) (fun c w1 hk hc hcur => pcount_long B c _ (w.heap.size + 1) d s.at_ w1 hcur (by omega) (by omega) hlen m (hbs.kp hk (by simp)) (by omega) (by omega) h2)).mono ?_
        rintro e w1 ⟨rfl, h1, hk⟩
        exact ⟨rfl, h1, hqs.kp hk (by simp; omega), hk.mono (by simp)⟩
      · have e1 : rdCount d m s = (num ((d.drop s.at_).take 2), s.move 2) := by unfold rdCount; rw [if_neg (by simpa using h0), if_neg h1, if_neg h2]
        rw [e1]
        refine (take_ok p 70 #[.pointer (some ⟨w.heap.size, 0, none⟩), .pointer (some ⟨w.heap.size + 1, 0, none⟩)] d s _ B (w.heap.size + 1) (s.at_ + 2) (.int .i64 (num ((d.drop s.at_).take 2))) 3 hr2 h0 (by omega) (by omega) (by omega) (by omega) (fun a => #[a, .pointer (some ⟨w.heap.size, 0, none⟩), .pointer (some ⟨w.heap.size + 1, 0, none⟩)]) (fun _ => rfl) (fun a w => by simp [go_sem]) (fun c w1 hk hc hcur => pcount_ok B c _ (w.heap.size + 1) d s.at_ _ w1 hcur (by omega) (by omega) hlen m (hbs.kp hk (by simp)) (hqs.kp hk (by simp)) (by omega) (by omega) (by omega))).mono ?_
        rintro e w1 ⟨rfl, h1, h2, hk⟩
        exact ⟨rfl, h1, h2, hk⟩
    · have e1 : rdCount d m s = (0, s) := by unfold rdCount; rw [if_pos (by simpa using h0)]
      rw [e1]
      refine (take_skip p _ _ d s _ B hr2 h0).mono ?_
      rintro e w1 ⟨rfl, hk⟩
      exact ⟨rfl, hr2.kp hk (by simp), hqs.kp hk (by simp), hk.nil⟩
  generalize rdCount d m s = R at *
  go_enter Tryd.func40, Tryd.ntmps40
  go_wp2_with fail
  refine key.mono ?_
  rintro e w1 ⟨rfl, h1, h2, hk⟩
  have q0 := h2.cell
  go_wp2
  go_ret
  exact ⟨rfl, h1, hkk.nil.trans' hk (by simp)⟩

theorem rtext_calls (B p : Nat) (d : List UInt8) (s : RS) (m : Nat) (w : World) (hr : IsRd w B p d s) (hlen : d.length ≤ 140737488355328) :
    Calls Tryd.prog 41 #[.pointer (some ⟨p, 0, none⟩), .int .i64 m] w (Read B p d (.string ⟨(rdText d m s).1.toArray⟩) (rdText d m s).2 w) := by
  have hmf : ∀ (fn : Fn) (first cap : Array Value) (w : World), (Instr.makeFunc fn first cap).run Tryd.prog w = .ok (.func fn first cap) w := fun _ _ _ _ => rfl
  have hpw : p < w.heap.size := by obtain ⟨_, _, a, cap, hh, _⟩ := hr; exact lt_of_heap hh
  have hBw := hr.1
  have hat := hr.2.1
  have hkk : Kp [] w ((w.alloc (.cells #[.int .i64 m] 3)).alloc (.cells #[.string ⟨#[]⟩] 9)) := ((Kp.refl [] w).alloc _).alloc _
  have hsz : ((w.alloc (.cells #[.int .i64 m] 3)).alloc (.cells #[.string ⟨#[]⟩] 9)).heap.size = w.heap.size + 1 + 1 := by simp only [World.size_alloc]
  have hbs : One ((w.alloc (.cells #[.int .i64 m] 3)).alloc (.cells #[.string ⟨#[]⟩] 9)) w.heap.size (.int .i64 m) 3 := by simp only [One, halloc, hdrew, World.size_alloc]; simp
  have hqs : One ((w.alloc (.cells #[.int .i64 m] 3)).alloc (.cells #[.string ⟨#[]⟩] 9)) (w.heap.size + 1) (.string ⟨#[]⟩) 9 := by simp only [One, halloc, hdrew, World.size_alloc]; simp
  have hr2 := hr.kp hkk (by simp)
  have key : Calls Tryd.prog 65 #[.pointer (some ⟨p, 0, none⟩), .func (.func 71) #[] #[.pointer (some ⟨w.heap.size, 0, none⟩), .pointer (some ⟨w.heap.size + 1, 0, none⟩)]] ((w.alloc (.cells #[.int .i64 m] 3)).alloc (.cells #[.string ⟨#[]⟩] 9))
      fun e w1 => e = .returned (.tuple #[]) ∧ IsRd w1 B p d (rdText d m s).2 ∧ One w1 (w.heap.size + 1) (.string ⟨(rdText d m s).1.toArray⟩) 9 ∧ Kp [p, w.heap.size + 1] ((w.alloc (.cells #[.int .i64 m] 3)).alloc (.cells #[.string ⟨#[]⟩] 9)) w1 := by
    by_cases h0 : s.code = 0
    · by_cases h1 : d.length < 2 + s.at_
      · have e1 : rdText d m s = ([], s.fault 10) := by unfold rdText; rw [if_neg (by simpa using h0), if_pos h1]
        rw [e1]
        refine (take_bad p 71 #[.pointer (some ⟨w.heap.size, 0, none⟩), .pointer (some ⟨w.heap.size + 1, 0, none⟩)] d s _ B 10 hr2 h0 (fun a => #[a, .pointer (some ⟨w.heap.size, 0, none⟩), .pointer (some ⟨w.heap.size + 1, 0, none⟩)]) (fun _ => rfl) (fun a w => by simp [go_sem]) (fun c w1 hk hc hcur => ptext_short B c _ (w.heap.size + 1) d s.at_ w1 hcur (by omega) (by omega) hlen m (hbs.kp hk (by simp)) hat h1)).mono ?_
        rintro e w1 ⟨rfl, h1, hk⟩
        exact ⟨rfl, h1, hqs.kp hk (by simp; omega), hk.mono (by simp)⟩
      by_cases h2 : m < num ((d.drop s.at_).take 2)
      · have e1 : rdText d m s = ([], s.fault 12) := by unfold rdText; rw [if_neg (by simpa using h0), if_neg h1, if_pos h2]
        rw [e1]
        refine (take_bad p 71 #[.pointer (some ⟨w.heap.size, 0, none⟩), .pointer (some ⟨w.heap.size + 1, 0, none⟩)] d s _ B 12 hr2 h0 (fun a => #[a, .pointer (some ⟨w.heap.size, 0, none⟩), .pointer (some ⟨w.heap.size + 1, 0, none⟩)]) (fun _ => rfl) (fun a w => by simp [go_sem]) (fun c w1 hk hc hcur => ptext_long B c _ (w.heap.size + 1) d s.at_ w1 hcur (by omega) (by omega) hlen m (hbs.kp hk (by simp)) (by omega) (by omega) h2)).mono ?_
        rintro e w1 ⟨rfl, h1, hk⟩
        exact ⟨rfl, h1, hqs.kp hk (by simp; omega), hk.mono (by simp)⟩
      by_cases h3 : d.length < num ((d.drop s.at_).take 2) + (s.at_ + 2)
      · have e1 : rdText d m s = ([], s.fault 10) := by unfold rdText; rw [if_neg (by simpa using h0), if_neg h1, if_neg h2, if_pos h3]
        rw [e1]
        refine (take_bad p 71 #[.pointer (some ⟨w.heap.size, 0, none⟩), .pointer (some ⟨w.heap.size + 1, 0, none⟩)] d s _ B 10 hr2 h0 (fun a => #[a, .pointer (some ⟨w.heap.size, 0, none⟩), .pointer (some ⟨w.heap.size + 1, 0, none⟩)]) (fun _ => rfl) (fun a w => by simp [go_sem]) (fun c w1 hk hc hcur => ptext_short2 B c _ (w.heap.size + 1) d s.at_ w1 hcur (by omega) (by omega) hlen m (hbs.kp hk (by simp)) (by omega) (by omega) (by omega) h3)).mono ?_
        rintro e w1 ⟨rfl, h1, hk⟩
        exact ⟨rfl, h1, hqs.kp hk (by simp; omega), hk.mono (by simp)⟩
      · have e1 : rdText d m s = ((d.drop (s.at_ + 2)).take (num ((d.drop s.at_).take 2)), s.move (2 + num ((d.drop s.at_).take 2))) := by unfold rdText; rw [if_neg (by simpa using h0), if_neg h1, if_neg h2, if_neg h3]
        rw [e1]
        refine (take_ok p 71 #[.pointer (some ⟨w.heap.size, 0, none⟩), .pointer (some ⟨w.heap.size + 1, 0, none⟩)] d s _ B (w.heap.size + 1) (s.at_ + 2 + num ((d.drop s.at_).take 2)) (.string ⟨((d.drop (s.at_ + 2)).take (num ((d.drop s.at_).take 2))).toArray⟩) 9 hr2 h0 (by omega) (by omega) (by omega) (by omega) (fun a => #[a, .pointer (some ⟨w.heap.size, 0, none⟩), .pointer (some ⟨w.heap.size + 1, 0, none⟩)]) (fun _ => rfl) (fun a w => by simp [go_sem]) (fun c w1 hk hc hcur => ptext_ok B c _ (w.heap.size + 1) d s.at_ _ w1 hcur (by omega) (by omega) hlen m (hbs.kp hk (by simp)) (hqs.kp hk (by simp)) (by omega) (by omega) (by omega) (by omega))).mono ?_
        rintro e w1 ⟨rfl, h1, h2, hk⟩
        refine ⟨rfl, ?_, h2, hk⟩
        rw [Nat.add_assoc] at h1
        exact h1
    · have e1 : rdText d m s = ([], s) := by unfold rdText; rw [if_pos (by simpa using h0)]
      rw [e1]
      refine (take_skip p _ _ d s _ B hr2 h0).mono ?_
      rintro e w1 ⟨rfl, hk⟩
      exact ⟨rfl, hr2.kp hk (by simp), hqs.kp hk (by simp), hk.nil⟩
  generalize rdText d m s = R at *
  go_enter Tryd.func41, Tryd.ntmps41
  go_wp2_with fail
  refine key.mono ?_
  rintro e w1 ⟨rfl, h1, h2, hk⟩
  have q0 := h2.cell
  go_wp2
  go_ret
  exact ⟨rfl, h1, hkk.nil.trans' hk (by simp)⟩

theorem left_calls (B p : Nat) (d : List UInt8) (s : RS) (w : World) (hr : IsRd w B p d s) (hlen : d.length ≤ 140737488355328) :
    Calls Tryd.prog 73 #[.pointer (some ⟨p, 0, none⟩)] w fun e w' => e = .returned (.int .i64 ((d.length : Int) - s.at_)) ∧ ∃ n, w' = w.drewN n := by
  obtain ⟨hB, hat, a, cap, hh, hb, hne⟩ := hr
  have hplt := lt_of_heap hh
  have hh_0 := cell_heap (w := w) (b := p) hh 0
  have hh_1 := cell_heap (w := w) (b := p) hh 1
  simp only [List.getElem?_toArray, List.getElem?_cons_zero, List.getElem?_cons_succ] at hh_0 hh_1
  have hw1 : IntKind.i64.wrap ((d.length : Int) - s.at_) = d.length - s.at_ := IntWalk.i64_in _ (by omega)
  go_enter Tryd.func73, Tryd.ntmps73
  go_wp2
  go_quiet (fail)
  go_wp2
  go_ret
  exact ⟨rfl, _, rfl⟩

/-- A fault as a value. -/
def faultV (s : RS) : Value := .agg #[.int .i64 s.code, .int .i64 s.fat]

theorem end_calls (B p : Nat) (d : List UInt8) (s : RS) (w : World) (hr : IsRd w B p d s) (hlen : d.length ≤ 140737488355328) :
    Calls Tryd.prog 42 #[.pointer (some ⟨p, 0, none⟩)] w (Read B p d (faultV (rdEnd d s)) (rdEnd d s) w) := by
  have hr0 := hr
  obtain ⟨hB, hat, a, cap, hh, hb, hne⟩ := hr
  have hplt := lt_of_heap hh
  have hh_1 := cell_heap (w := w) (b := p) hh 1
  have hh_3 := cell_heap (w := w) (b := p) hh 3
  have hh_4 := cell_heap (w := w) (b := p) hh 4
  simp only [List.getElem?_toArray, List.getElem?_cons_zero, List.getElem?_cons_succ] at hh_1 hh_3 hh_4
  have f3 := free_heap hh 3
  have f4 := free_heap hh 4
  by_cases h0 : s.code = 0
  · have hb0 : (s.code == 0) = true := by simpa using h0
    by_cases h1 : s.at_ < d.length
    · have e1 : rdEnd d s = s.fault 13 := by unfold rdEnd; rw [if_pos ⟨h0, h1⟩]
      rw [e1]
      clear h0 e1
      have hd : decide ((0 : Int) < (d.length : Int) - s.at_) = true := by rw [decide_eq_true_eq]; omega
      go_enter Tryd.func42, Tryd.ntmps42
      go_wp2_with (go_at_call 73; refine (left_calls B p d s _ (hr0.kp ((Kp.refl [] w).alloc _) (by simp)) hlen).mono ?_; rintro e w' ⟨rfl, n, rfl⟩)
      have hA : ((w.alloc (.cells #[.int .i64 0, .int .i64 0] 78)).drewN n).heap[p]? = _ := (((Kp.refl [] w).alloc (.cells #[.int .i64 0, .int .i64 0] 78)).drewN n).heap hh (by simp)
      have h3 := heap_setCell_same _ p 3 _ _ (.int .i64 13) hA
      have h4 := heap_setCell_same _ p 4 _ _ (.int .i64 s.at_) h3
      have hk : Kp [p] w ((((((w.alloc (.cells #[.int .i64 0, .int .i64 0] 78)).drewN n).setCell ⟨p, 3, none⟩ (.int .i64 13)).setCell ⟨p, 4, none⟩ (.int .i64 s.at_)).setCell ⟨w.heap.size, 0, none⟩ (.int .i64 13)).setCell ⟨w.heap.size, 1, none⟩ (.int .i64 s.at_)) :=
        (((((((Kp.refl [p] w).alloc _).drewN n).setCell (.inl (by simp)) _).setCell (.inl (by simp)) _).setCell (.inr (Nat.le_refl _)) _).setCell (.inr (Nat.le_refl _)) _)
      refine bodyPost_ret (v := faultV (s.fault 13)) (by simp [results, Tryd.results42, go_sem, faultV, RS.fault, hplt]) rfl ⟨rfl, ⟨by have := hk.size; omega, hat, a, cap, ?_, hb.kp hk (fun b e hm => (hne b e).1 (by simpa using hm)), hne⟩, hk⟩
      rw [hset _ _ _ _ (by simp; omega), hset _ _ _ _ (by simp; omega), h4]
      simp [RS.fault]
    · have e1 : rdEnd d s = s := by unfold rdEnd; rw [if_neg (by omega)]
      rw [e1]
      have h0' := Lib.hid h0
      clear h0 e1
      have hd : decide ((0 : Int) < (d.length : Int) - s.at_) = false := by rw [decide_eq_false_iff_not]; omega
      go_enter Tryd.func42, Tryd.ntmps42
      go_wp2_with (go_at_call 73; refine (left_calls B p d s _ (hr0.kp ((Kp.refl [] w).alloc _) (by simp)) hlen).mono ?_; rintro e w' ⟨rfl, n, rfl⟩)
      have hk : Kp [] w ((((w.alloc (.cells #[.int .i64 0, .int .i64 0] 78)).drewN n).setCell ⟨w.heap.size, 0, none⟩ (.int .i64 s.code)).setCell ⟨w.heap.size, 1, none⟩ (.int .i64 s.fat)) :=
        (((((Kp.refl [] w).alloc _).drewN n).setCell (.inr (Nat.le_refl _)) _).setCell (.inr (Nat.le_refl _)) _)
      exact bodyPost_ret (v := faultV s) (by simp [results, Tryd.results42, go_sem, faultV, hplt]) rfl ⟨rfl, hr0.kp hk (by simp), hk.nil⟩
  · have e1 : rdEnd d s = s := by unfold rdEnd; rw [if_neg (by omega)]
    have hb0 : (s.code == 0) = false := by simpa using h0
    rw [e1]
    have h0' := Lib.hid h0
    clear h0 e1
    go_enter Tryd.func42, Tryd.ntmps42
    go_wp2_with fail
    exact bodyPost_ret (v := faultV s) (by simp [results, Tryd.results42, go_sem, faultV, hplt]) rfl ⟨rfl, hr0.kp (S := []) ((Kp.refl [] w).alloc _) (by simp), (Kp.refl [p] w).alloc _⟩
end Go.Proofs.YtddpefbpiehgeaaDoor

/- The link: what a frame may be. -/
namespace Go.Proofs.YtddpefbpiehgeaaDoor
open Go Go.RowKit
set_option maxRecDepth 100000
set_option linter.unusedVariables false
set_option linter.unusedSectionVars false
set_option linter.unusedSimpArgs false

/-- A frame. -/
structure Fr where
  k : Int
  a : Int
  b : Int
  its : List (List UInt8)
  t : List UInt8

/-- A slice of slices of bytes. -/
def Rws (w : World) (v : Value) (its : List (List UInt8)) : Prop := ∃ vs, Sl w 1 v its.length vs ∧ vs.length = its.length ∧ ∀ (i : Nat) (h : i < its.length), ∃ u, vs[i]? = some u ∧ Bs w u its[i]

theorem Rws.kp0 {w w' : World} {v : Value} {its : List (List UInt8)} (h : Rws w v its) (hk : Kp [] w w') : Rws w' v its := by
  obtain ⟨vs, hs, hl, hb⟩ := h
  exact ⟨vs, hs.kp0 hk, hl, fun i hi => by obtain ⟨u, h1, h2⟩ := hb i hi; exact ⟨u, h1, h2.kp0 hk⟩⟩

theorem Rws.form {w : World} {v : Value} {its : List (List UInt8)} (h : Rws w v its) : ∃ a cap, v = .slice a its.length cap ∧ its.length ≤ cap := by
  obtain ⟨vs, hs, hl, hb⟩ := h
  obtain ⟨a, cap, he, hc, _⟩ := Sl.form hs
  exact ⟨a, cap, he, hc⟩

theorem Rws.at {w : World} {a : Option Addr} {n cap : Nat} {its : List (List UInt8)} (h : Rws w (.slice a n cap) its) (i : Nat) (hi : i < its.length) :
    ∃ b off u c, a = some ⟨b, off, none⟩ ∧ b < w.heap.size ∧ w.cell? ⟨b, off + i, none⟩ = some (.slice u its[i].length c) ∧ Bs w (.slice u its[i].length c) its[i] := by
  obtain ⟨vs, hs, hl, hb⟩ := h
  obtain ⟨a', cap', he, hc, _, h6, h7⟩ := Sl.form hs
  cases he
  obtain ⟨b, off, rfl, hlt⟩ := h6 (by omega)
  obtain ⟨u, hu, hbu⟩ := hb i hi
  obtain ⟨ua, uc, rfl, _⟩ := Sl.form hbu
  exact ⟨b, off, ua, uc, rfl, hlt, (h7 b off rfl).2 i _ hu, hbu⟩

/-- The five cells of a frame's value. -/
def fcells (f : Fr) (iv tv : Value) : Array Value := #[.int .i64 f.k, .int .i64 f.a, .int .i64 f.b, iv, tv]

def itemsMayB (f : Fr) : Bool :=
  f.its.all (fun x => decide (x.length ≤ 256)) && (decide (1 ≤ f.its.length) && (decide (f.its.length ≤ 8) && (decide (1 ≤ f.a) && (decide (f.a ≤ f.b) && decide (f.b ≤ 4294967295 - f.its.length + 1)))))

theorem itemsMay_calls (f : Fr) (iv tv : Value) (w : World) (hi : Rws w iv f.its) (ht : Bs w tv f.t) (hn : f.its.length ≤ 100000000000000) (hb : f.b ≤ 9223372036854775807) :
    Calls Tryd.prog 52 #[.agg (fcells f iv tv)] w fun e w' => e = .returned (.bool (itemsMayB f)) ∧ Kp [] w w' := by
  obtain ⟨ia, ic, rfl, hic⟩ := hi.form
  obtain ⟨ta, tc, rfl, -⟩ := Sl.form ht
  unfold fcells
  go_enter Tryd.func52, Tryd.ntmps52
  go_wp2_with fail
  have hk0 := (Kp.refl [] w).alloc (.cells #[.int .i64 f.k, .int .i64 f.a, .int .i64 f.b, .slice ia f.its.length ic, .slice ta f.t.length tc] 25)
  have hh0 := heap_alloc_new w (.cells #[.int .i64 f.k, .int .i64 f.a, .int .i64 f.b, .slice ia f.its.length ic, .slice ta f.t.length tc] 25)
  generalize w.alloc (.cells #[.int .i64 f.k, .int .i64 f.a, .int .i64 f.b, .slice ia f.its.length ic, .slice ta f.t.length tc] 25) = w0 at *
  go_loopw [9] (fun v9 wr => ∃ n : Nat, n ≤ f.its.length ∧ v9 = .int .i64 n ∧ (∀ x ∈ f.its.take n, x.length ≤ 256) ∧ wr = w0) (fun v9 _ => f.its.length - (intOf v9).toNat)
  case atStart => exact ⟨0, by omega, rfl, by simp, rfl⟩
  case round =>
    obtain ⟨n, hnl, rfl, hall, rfl⟩ := hrel
    have HALL := Lib.hid hall
    clear hall
    by_cases hlt : n < f.its.length
    · obtain ⟨ib, io, ua, uc, rfl, hib, hcell, hbx⟩ := (hi.kp0 hk0).at n hlt
      have hlen : f.its[n].length = f.its[n].length := rfl
      have hmem : f.its[n] ∈ f.its := List.getElem_mem hlt
      have htk : f.its.take (n + 1) = f.its.take n ++ [f.its[n]] := List.take_succ_eq_append_getElem hlt
      generalize f.its[n] = x at *
      have i0 : (0 : Int) ≤ n ∧ (n : Int) < f.its.length := by omega
      by_cases hx : x.length ≤ 256
      · have hd : decide (256 < (x.length : Int)) = false := by rw [decide_eq_false_iff_not]; omega
        have HT := Lib.hid htk
        clear htk hmem
        go_wp2
        go_roundw
        case measure => simp [intOf]; omega
        case rel => exact ⟨n + 1, by omega, by go_num, by rw [HT.out]; intro y hy; rw [List.mem_append] at hy; rcases hy with hy | hy; exact HALL.out y hy; simp at hy; subst hy; exact hx, by trivial⟩
      · have hd : decide (256 < (x.length : Int)) = true := by rw [decide_eq_true_eq]; omega
        have hfin : itemsMayB f = false := by
          unfold itemsMayB
          rw [show (f.its.all fun x => decide (x.length ≤ 256)) = false by
            rw [List.all_eq_false]; exact ⟨x, hmem, by simpa using hx⟩]
          rfl
        clear hmem htk
        go_wp2
        go_ret
        exact ⟨rfl, hk0⟩
    · have hall : (f.its.all fun x => decide (x.length ≤ 256)) = true := by
        rw [List.all_eq_true]
        intro x hx
        have := HALL.out x (by rw [List.take_of_length_le (by omega)]; exact hx)
        simpa using this
      have hfin : itemsMayB f = (decide (1 ≤ f.its.length) && (decide (f.its.length ≤ 8) && (decide (1 ≤ f.a) && (decide (f.a ≤ f.b) && decide (f.b ≤ 4294967295 - f.its.length + 1))))) := by
        unfold itemsMayB; rw [hall]; rfl
      clear hall
      have HF := Lib.hid hfin
      clear hfin
      have hcs := 25
      have hh0_0 := cell_heap (w := wr) (b := w.heap.size) hh0 0
      have hh0_1 := cell_heap (w := wr) (b := w.heap.size) hh0 1
      have hh0_2 := cell_heap (w := wr) (b := w.heap.size) hh0 2
      have hh0_3 := cell_heap (w := wr) (b := w.heap.size) hh0 3
      have hh0_4 := cell_heap (w := wr) (b := w.heap.size) hh0 4
      simp only [List.getElem?_toArray, List.getElem?_cons_zero, List.getElem?_cons_succ] at hh0_0 hh0_1 hh0_2 hh0_3 hh0_4
      have hd : decide ((n : Int) < (f.its.length : Int)) = false := by rw [decide_eq_false_iff_not]; omega
      have hnn : n = f.its.length := by omega
      have hdn : decide (n < f.its.length) = false := by rw [decide_eq_false_iff_not]; omega
      clear hnl hnn
      go_wp2
      all_goals (go_ret; refine ⟨?_, hk0⟩; show Ending.returned (.bool _) = .returned (.bool _); rw [HF.out])
      all_goals (congr 2; rw [Bool.eq_iff_iff]; simp only [Bool.and_eq_true, decide_eq_true_eq, Bool.false_eq_true, false_iff, iff_self])
      all_goals omega

def bareB (f : Fr) : Bool := (f.a == 0) && ((f.its.length : Int) == 0)
def mayB (f : Fr) : Bool :=
  if f.k = 1 then ((f.t.length : Int) == 0) && itemsMayB f
  else if f.k = 2 then bareB f && (((f.t.length : Int) == 0) && (decide (0 ≤ f.b) && decide (f.b ≤ 4294967295)))
  else if f.k = 3 then bareB f && (((f.t.length : Int) == 0) && (decide (0 ≤ f.b) && decide (f.b ≤ 2147483648)))
  else if f.k = 4 then bareB f && ((f.b == 0) && decide ((f.t.length : Int) ≤ 16100))
  else false

set_option maxHeartbeats 400000 in
theorem may_calls (f : Fr) (iv tv : Value) (w : World) (hi : Rws w iv f.its) (ht : Bs w tv f.t) (hn : f.its.length ≤ 100000000000000) (hnt : f.t.length ≤ 140737488352000) (hb : f.b ≤ 9223372036854775807) :
    Calls Tryd.prog 31 #[.agg (fcells f iv tv)] w fun e w' => e = .returned (.bool (mayB f)) ∧ Kp [] w w' := by
  obtain ⟨ia, ic, rfl, hic⟩ := hi.form
  obtain ⟨ta, tc, rfl, -⟩ := Sl.form ht
  have him := itemsMay_calls f _ _ (w.alloc (.cells (fcells f (.slice ia f.its.length ic) (.slice ta f.t.length tc)) 25)) (hi.kp0 ((Kp.refl [] w).alloc _)) (ht.kp0 ((Kp.refl [] w).alloc _)) hn hb
  have hk0 := (Kp.refl [] w).alloc (.cells (fcells f (.slice ia f.its.length ic) (.slice ta f.t.length tc)) 25)
  unfold fcells at him hk0 ⊢
  have HIM := Lib.hid him
  clear him
  obtain ⟨k, fa, fb, its, t⟩ := f
  obtain ⟨ba, hba⟩ : ∃ x, (fa == 0) = x := ⟨_, rfl⟩
  obtain ⟨bn, hbn⟩ : ∃ x, ((its.length : Int) == 0) = x := ⟨_, rfl⟩
  obtain ⟨bt, hbt⟩ : ∃ x, ((t.length : Int) == 0) = x := ⟨_, rfl⟩
  simp only at *
  have hk1 : k = 1 ∨ k = 2 ∨ k = 3 ∨ k = 4 ∨ (((k == 1) = false ∧ (k == 2) = false) ∧ ((k == 3) = false ∧ (k == 4) = false)) := by simp; omega
  rcases hk1 with rfl | rfl | rfl | rfl | ⟨⟨k1, k2⟩, k3, k4⟩
  · have hm1 : mayB ⟨1, fa, fb, its, t⟩ = (bt && itemsMayB ⟨1, fa, fb, its, t⟩) := by rw [← hbt]; rfl
    have HM := Lib.hid hm1
    clear hm1
    go_enter Tryd.func31, Tryd.ntmps31
    go_wp2_with (go_at_call 52; (with_reducible refine HIM.out.mono ?_); rintro e w1 ⟨rfl, hk1⟩)
    all_goals go_ret
    all_goals (first | refine ⟨?_, hk0.trans hk1⟩ | refine ⟨?_, hk0⟩)
    all_goals (show Ending.returned (.bool _) = .returned (.bool _); rw [HM.out]; clear HM HIM; simp_all <;> omega)
  · have hm1 : mayB ⟨2, fa, fb, its, t⟩ = (ba && bn && (bt && (decide (0 ≤ fb) && decide (fb ≤ 4294967295)))) := by rw [← hbt, ← hba, ← hbn]; rfl
    have HM := Lib.hid hm1
    clear hm1
    go_enter Tryd.func31, Tryd.ntmps31
    go_wp2
    all_goals go_ret
    all_goals refine ⟨?_, hk0⟩
    all_goals (show Ending.returned (.bool _) = .returned (.bool _); rw [HM.out]; clear HM HIM; simp_all <;> omega)
  · have hm1 : mayB ⟨3, fa, fb, its, t⟩ = (ba && bn && (bt && (decide (0 ≤ fb) && decide (fb ≤ 2147483648)))) := by rw [← hbt, ← hba, ← hbn]; rfl
    have HM := Lib.hid hm1
    clear hm1
    go_enter Tryd.func31, Tryd.ntmps31
    go_wp2
    all_goals go_ret
    all_goals refine ⟨?_, hk0⟩
    all_goals (show Ending.returned (.bool _) = .returned (.bool _); rw [HM.out]; clear HM HIM; simp_all <;> omega)
  · obtain ⟨bb, hbb⟩ : ∃ x, (fb == 0) = x := ⟨_, rfl⟩
    have hm1 : mayB ⟨4, fa, fb, its, t⟩ = (ba && bn && (bb && decide ((t.length : Int) ≤ 16100))) := by rw [← hbb, ← hba, ← hbn]; rfl
    have HM := Lib.hid hm1
    clear hm1
    go_enter Tryd.func31, Tryd.ntmps31
    go_wp2
    all_goals go_ret
    all_goals refine ⟨?_, hk0⟩
    all_goals (show Ending.returned (.bool _) = .returned (.bool _); rw [HM.out]; clear HM HIM; simp_all <;> omega)
  · have hm1 : mayB ⟨k, fa, fb, its, t⟩ = false := by
      simp at k1 k2 k3 k4
      simp [mayB, k1, k2, k3, k4]
    have HM := Lib.hid hm1
    clear hm1
    go_enter Tryd.func31, Tryd.ntmps31
    go_wp2
    all_goals go_ret
    all_goals refine ⟨?_, hk0⟩
    all_goals (show Ending.returned (.bool _) = .returned (.bool _); rw [HM.out])
end Go.Proofs.YtddpefbpiehgeaaDoor

