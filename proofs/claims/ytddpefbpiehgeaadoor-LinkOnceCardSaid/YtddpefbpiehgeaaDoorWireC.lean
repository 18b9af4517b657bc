/- The reader: a piece is taken. -/
import Derived.Test.YtddpefbpiehgeaaDoorWireB
namespace Go.Proofs.YtddpefbpiehgeaaDoor
open Go Go.RowKit
set_option maxRecDepth 100000
set_option linter.unusedVariables false
set_option linter.unusedSectionVars false
set_option linter.unusedSimpArgs false

/-- A reader at block p: its bytes d (they lie below B), its state. -/
def IsRd (w : World) (B p : Nat) (d : List UInt8) (s : RS) : Prop :=
  B ≤ w.heap.size ∧ s.at_ ≤ d.length ∧ ∃ a cap, w.heap[p]? = some (.cells #[.slice a d.length cap, .int .i64 s.at_, .int .i64 s.last, .int .i64 s.code, .int .i64 s.fat] 102 (0, 0)) ∧
    Bs w (.slice a d.length cap) d ∧ (∀ b, Value.ownBlock (.slice a d.length cap) = some b → b ≠ p ∧ b < B)

theorem IsRd.kp {S : List Nat} {w w' : World} {B p : Nat} {d : List UInt8} {s : RS} (h : IsRd w B p d s) (hk : Kp S w w') (hS : ∀ x ∈ S, x ≠ p ∧ B ≤ x) : IsRd w' B p d s := by
  obtain ⟨hB, h0, a, cap, hh, hb, hne⟩ := h
  exact ⟨Nat.le_trans hB hk.size, h0, a, cap, hk.heap hh (fun hm => (hS p hm).1 rfl), hb.kp hk (fun b e hm => by have := (hS b hm).2; have := (hne b e).2; omega), hne⟩

theorem catch_panic (rb cb p c : Nat) (code : Int) (d : List UInt8) (a : Option Addr) (cap : Nat) (s : RS) (older : List PanicEntry) (w : World)
    (hr : One w rb (.pointer (some ⟨p, 0, none⟩)) 73) (hp : w.heap[p]? = some (.cells #[.slice a d.length cap, .int .i64 s.at_, .int .i64 s.last, .int .i64 s.code, .int .i64 s.fat] 102 (0, 0))) :
    CallsD Tryd.prog 95 #[.pointer (some ⟨rb, 0, none⟩), .pointer (some ⟨cb, 0, none⟩)] (.panicking ({ v := .iface 28 (.int .i64 code), recovered := false } :: older)) w fun e u' w' =>
      e = .returned (.tuple #[]) ∧ u' = .panicking ({ v := .iface 28 (.int .i64 code), recovered := true } :: older) ∧
      w'.heap[p]? = some (.cells #[.slice a d.length cap, .int .i64 s.at_, .int .i64 s.last, .int .i64 code, .int .i64 s.at_] 102 (0, 0)) ∧ Kp [p] w w' := by
  have hta : ∀ w, (Instr.typeAssert (.iface 28 (.int .i64 code)) 20 28 true).run Tryd.prog w = .ok (.tuple #[.int .i64 code, .bool true]) w := fun _ => by kernel_rfl
  refine callsD_of_wpS Tryd.func95 rfl fun c₀ cs hu => ?_
  simp only [Tryd.ntmps95, List.size_toArray, List.length_cons, List.length_nil, Nat.reduceAdd, Nat.reduceSub, Array.replicate_succ,
     Array.replicate_zero, List.push_toArray, List.append_toArray, List.nil_append, List.cons_append]
  apply wpS_seq
  apply wpS_seq
  refine wpS_recover (v := .iface 28 (.int .i64 code)) (cs' := { c₀ with mode := .panicking ({ v := .iface 28 (.int .i64 code), recovered := true } :: older) } :: cs) rfl rfl (.inl (by simp only [recoverD, hu])) ?_
  go_wp2
  simp only [Exit.thenS]
  refine wpS_of_wp ?_
  have r0 := hr.cell
  have hrlt := lt_of_heap hr
  have hplt := lt_of_heap hp
  have p1 : w.cell? ⟨p, 1, none⟩ = _ := cell_heap hp 1
  have p3 : w.cell? ⟨p, 3, none⟩ = _ := cell_heap hp 3
  have p4 : w.cell? ⟨p, 4, none⟩ = _ := cell_heap hp 4
  have f3 := free_heap hp 3
  have f4 := free_heap hp 4
  simp only [List.getElem?_toArray, List.getElem?_cons_zero, List.getElem?_cons_succ] at p1 p3 p4
  go_wp2
  have hS : Gr w [p, rb] w.drew := Gr.of (fun _ _ => rfl)
  refine wp_plan (.H 0 (.H 1 (.H 2 (.H 3 (.H 4 (.H 5 (.H 6 (.H 7 (.H 8 (.E 9 false .Z)))))))))) (Gr w [p, rb]) (by kernel_rfl) (by kernel_rfl) ?_
  repeat (refine plan_H rfl hS (fun K hK => ?_); go_simp; refine hK _ ?_; clear hK K)
  refine plan_E rfl (fun K hK => ?_)
  go_simp
  refine hK _ _ nofun ?_
  clear hK K
  refine plan_Z ?_
  go_wp2
  have h3 := heap_setCell_same w p 3 _ _ (.int .i64 code) hp
  have h4 := heap_setCell_same _ p 4 _ _ (.int .i64 s.at_) h3
  exact ⟨rfl, _, rfl, _, results_none rfl _ _ _, rfl, rfl, by simpa [World.drew] using h4, ((((Kp.refl [p] w).setCell (.inl (by simp)) _).setCell (.inl (by simp)) _).drew)⟩

theorem catch_ret (rb cb p c : Nat) (d : List UInt8) (a a2 : Option Addr) (cap at2 : Nat) (bs : Value) (s : RS) (w : World)
    (hr : One w rb (.pointer (some ⟨p, 0, none⟩)) 73) (hp : w.heap[p]? = some (.cells #[.slice a d.length cap, .int .i64 s.at_, .int .i64 s.last, .int .i64 s.code, .int .i64 s.fat] 102 (0, 0)))
    (hcb : One w cb (.pointer (some ⟨c, 0, none⟩)) 105) (hc : w.heap[c]? = some (.cells #[bs, .int .i64 at2] 131 (0, 0))) (hpc : p ≠ c) (hpr : p ≠ rb) (hpb : p ≠ cb) :
    CallsD Tryd.prog 95 #[.pointer (some ⟨rb, 0, none⟩), .pointer (some ⟨cb, 0, none⟩)] .returning w fun e u' w' =>
      e = .returned (.tuple #[]) ∧ u' = .returning ∧
      w'.heap[p]? = some (.cells #[.slice a d.length cap, .int .i64 at2, .int .i64 s.at_, .int .i64 s.code, .int .i64 s.fat] 102 (0, 0)) ∧ Kp [p] w w' := by
  have hta : ∀ w, (Instr.typeAssert .nilIface 20 28 true).run Tryd.prog w = .ok (.tuple #[.int .i64 0, .bool false]) w := fun _ => by kernel_rfl
  refine callsD_of_wpS Tryd.func95 rfl fun c₀ cs hu => ?_
  simp only [Tryd.ntmps95, List.size_toArray, List.length_cons, List.length_nil, Nat.reduceAdd, Nat.reduceSub, Array.replicate_succ,
     Array.replicate_zero, List.push_toArray, List.append_toArray, List.nil_append, List.cons_append]
  apply wpS_seq
  apply wpS_seq
  refine wpS_recover (v := .nilIface) (cs' := c₀ :: cs) rfl rfl (.inr ⟨by simp only [recoverD, hu], rfl, rfl⟩) ?_
  go_wp2
  simp only [Exit.thenS]
  refine wpS_of_wp ?_
  have r0 := hr.cell
  have c0 := hcb.cell
  have hrlt := lt_of_heap hr
  have hplt := lt_of_heap hp
  have hcblt := lt_of_heap hcb
  have hclt := lt_of_heap hc
  have p1 : w.cell? ⟨p, 1, none⟩ = _ := cell_heap hp 1
  have p2 : w.cell? ⟨p, 2, none⟩ = _ := cell_heap hp 2
  have c1 : w.cell? ⟨c, 1, none⟩ = _ := cell_heap hc 1
  have f1 := free_heap hp 1
  have f2 := free_heap hp 2
  simp only [List.getElem?_toArray, List.getElem?_cons_zero, List.getElem?_cons_succ] at p1 p2 c1
  go_wp2
  simp only [Exit.thenS]
  refine wpS_of_wp ?_
  have hS : Gr w [rb, cb, c, p] w.drew := Gr.of (fun _ _ => rfl)
  refine wp_plan (.H 0 (.H 1 (.H 2 (.H 3 (.H 4 (.H 5 (.H 6 (.H 7 (.H 8 (.H 9 (.E 10 false (.E 11 false (.E 12 false (.E 13 false (.E 14 false (.E 15 false .Z)))))))))))))))) (Gr w [rb, cb, c, p]) (by kernel_rfl) (by kernel_rfl) ?_
  repeat (first | (refine plan_H rfl hS (fun K hK => ?_); go_simp; refine hK _ ?_; clear hK K) | (refine plan_E rfl (fun K hK => ?_); go_simp; (first | refine hK _ _ (fun _ => hS) ?_ | refine hK _ _ nofun ?_); clear hK K))
  refine plan_Z ?_
  go_wp2
  have h3 := heap_setCell_same w p 2 _ _ (.int .i64 s.at_) hp
  have h4 := heap_setCell_same _ p 1 _ _ (.int .i64 at2) h3
  cases c₀
  simp only at hu
  subst hu
  exact ⟨rfl, _, rfl, _, results_none rfl _ _ _, rfl, rfl, by simpa [World.drew] using h4, ((((Kp.refl [p] w).setCell (.inl (by simp)) _).setCell (.inl (by simp)) _).drew)⟩

section
variable (p fk : Nat) (caps : Array Value) (d : List UInt8) (s : RS) (w : World)

theorem take_skip (B : Nat) (hr : IsRd w B p d s) (hs : s.code ≠ 0) :
    Calls Tryd.prog 65 #[.pointer (some ⟨p, 0, none⟩), .func (.func fk) #[] caps] w fun e w' => e = .returned (.tuple #[]) ∧ Kp [] w w' := by
  obtain ⟨hB, hat, a, cap, hh, hb, hne⟩ := hr
  have hplt := lt_of_heap hh
  have hh_3 := cell_heap (w := w) (b := p) hh 3
  simp only [List.getElem?_toArray, List.getElem?_cons_zero, List.getElem?_cons_succ] at hh_3
  have hsb : (s.code != 0) = true := by simpa using hs
  have Hs := Lib.hid hs
  clear hs
  have hmf : ∀ (fn : Fn) (first cap : Array Value) (w : World), (Instr.makeFunc fn first cap).run Tryd.prog w = .ok (.func fn first cap) w := fun _ _ _ _ => rfl
  go_enter_defers Tryd.func65, Tryd.ntmps65
  go_wp2
  exact ⟨_, results_none rfl _ _ _, rfl, (Kp.refl [] w).alloc _⟩

/-- What stands behind the cursor's making. -/
theorem take_ok (B q at2 : Nat) (v : Value) (T : TypeId) (hr : IsRd w B p d s) (hs : s.code = 0)
    (hBq : B ≤ q) (hqw : q < w.heap.size) (hpq : p ≠ q) (ha2 : at2 ≤ d.length)
    (args : Value → Array Value) (hargs : ∀ a, #[a] ++ caps = args a) (hK0 : ∀ a w, (callFunc fk (args a)).run Tryd.prog w = .ok (.enter fk (args a)) w)
    (hp0 : ∀ c w1, Kp [] w w1 → w.heap.size ≤ c → IsCur w1 B c d s.at_ → Calls Tryd.prog fk (args (.pointer (some ⟨c, 0, none⟩))) w1 (Took B c q d at2 v T w1)) :
    Calls Tryd.prog 65 #[.pointer (some ⟨p, 0, none⟩), .func (.func fk) #[] caps] w fun e w' => e = .returned (.tuple #[]) ∧ IsRd w' B p d { s with at_ := at2, last := s.at_ } ∧ One w' q v T ∧ Kp [p, q] w w' := by
  have hK : ∀ a w, (callFunc fk (#[a] ++ caps)).run Tryd.prog w = .ok (.enter fk (#[a] ++ caps)) w := fun a w => by rw [hargs]; exact hK0 a w
  have hp : ∀ c w1, Kp [] w w1 → w.heap.size ≤ c → IsCur w1 B c d s.at_ → Calls Tryd.prog fk (#[.pointer (some ⟨c, 0, none⟩)] ++ caps) w1 (Took B c q d at2 v T w1) := fun c w1 h1 h2 h3 => by rw [hargs]; exact hp0 c w1 h1 h2 h3
  clear hK0 hp0 hargs
  obtain ⟨hBw, hat, a, cap, hh, hb, hne⟩ := hr
  have hplt := lt_of_heap hh
  have hh_0 := cell_heap (w := w) (b := p) hh 0
  have hh_1 := cell_heap (w := w) (b := p) hh 1
  have hh_3 := cell_heap (w := w) (b := p) hh 3
  simp only [List.getElem?_toArray, List.getElem?_cons_zero, List.getElem?_cons_succ] at hh_0 hh_1 hh_3
  have hsb : (s.code != 0) = false := by simpa using hs
  have Hs := Lib.hid hs
  clear hs
  have hmf : ∀ (fn : Fn) (first cap : Array Value) (w : World), (Instr.makeFunc fn first cap).run Tryd.prog w = .ok (.func fn first cap) w := fun _ _ _ _ => rfl
  go_enter_defers Tryd.func65, Tryd.ntmps65
  go_wp2
  have hS : Gr (w.alloc (.cells #[.pointer (some ⟨p, 0, none⟩)] 73)) [p, w.heap.size] (w.alloc (.cells #[.pointer (some ⟨p, 0, none⟩)] 73)).drew := Gr.of (fun _ _ => rfl)
  refine wp_plan (.H 0 (.H 1 (.H 2 (.H 3 (.H 4 (.H 5 (.H 6 (.H 7 (.H 8 (.B 9 false (.E 10 true (.E 11 false .Z)) 10 true (.E 9 false (.E 11 false .Z)))))))))))) (Gr (w.alloc (.cells #[.pointer (some ⟨p, 0, none⟩)] 73)) [p, w.heap.size]) (by kernel_rfl) (by kernel_rfl) ?_
  repeat (first | (refine plan_H rfl hS (fun K hK => ?_); go_simp; refine hK _ ?_; clear hK K) | (refine plan_E rfl (fun K hK => ?_); go_simp; (first | refine hK _ _ (fun _ => hS) ?_ | refine hK _ _ nofun ?_); clear hK K))
  have fin : ∀ (c cb : Nat) (W : World), Kp [] w W → One W w.heap.size (.pointer (some ⟨p, 0, none⟩)) 73 → One W cb (.pointer (some ⟨c, 0, none⟩)) 105 →
      W.heap[c]? = some (.cells #[.slice a d.length cap, .int .i64 s.at_] 131 (0, 0)) → w.heap.size < c → w.heap.size < cb → c ≠ cb →
      Calls Tryd.prog fk (#[.pointer (some ⟨c, 0, none⟩)] ++ caps) W fun e w2 => e = .returned (.tuple #[]) ∧ CallsD Tryd.prog 95 #[.pointer (some ⟨w.heap.size, 0, none⟩), .pointer (some ⟨cb, 0, none⟩)] .returning w2 fun e u' w' =>
        e = .returned (.tuple #[]) ∧ u' = .returning ∧ IsRd w' B p d { s with at_ := at2, last := s.at_ } ∧ One w' q v T ∧ Kp [p, q] w w' := by
    intro c cb W hk hrb hcb hcc h1 h2 h3
    refine (hp c W hk (by omega) ⟨by omega, a, cap, hcc, hb.kp0 hk, fun b e => (hne b e).2⟩).mono ?_
    rintro e w2 ⟨rfl, hcur, hq, hk2⟩
    refine ⟨rfl, ?_⟩
    obtain ⟨_, a3, cap3, hc3, _⟩ := hcur
    have hp2 := hk2.heap (hk.heap hh (by simp)) (by simp; omega)
    have hlt := lt_of_heap hrb
    refine (catch_ret w.heap.size cb p c d a a cap at2 _ s w2 (hrb.kp hk2 (by simp; omega)) hp2 (hcb.kp hk2 (by simp; omega)) hc3 (by omega) (by omega) (by omega)).mono ?_
    rintro e u' w' ⟨rfl, rfl, hp3, hk3⟩
    have hkk : Kp [p, q] w w2 := hk.nil.trans' hk2 (by simp; omega)
    refine ⟨rfl, rfl, ⟨by have := hkk.size; have := hk3.size; omega, ha2, a, cap, hp3, (hb.kp hkk ?_).kp hk3 ?_, hne⟩, One.kp hq hk3 (by simp; omega), hkk.trans' hk3 (by simp)⟩
    · intro b e hm
      have := hne b e
      simp only [List.mem_cons, List.not_mem_nil, or_false] at hm
      omega
    · intro b e hm
      have := hne b e
      simp only [List.mem_cons, List.not_mem_nil, or_false] at hm
      omega
  refine plan_B rfl rfl (fun K hK => ?_) (fun K hK => ?_)
  all_goals go_simp
  · refine hK _ _ (fun _ => Gr.of (fun b hb => Below.heap_alloc _ _ _ (by simp at hb ⊢; omega))) ?_
    clear hK K
    refine plan_E rfl (fun K hK => ?_); go_simp
    refine hK _ _ (fun _ => Gr.of (fun b hb => (Below.heap_alloc _ _ _ (by simp at hb ⊢; omega)).trans (Below.heap_alloc _ _ _ (by simp at hb ⊢; omega)))) ?_
    clear hK K
    refine plan_E rfl (fun K hK => ?_); go_simp
    refine hK _ _ nofun ?_
    clear hK K
    refine plan_Z ?_
    go_wp2_with fail
    refine (fin (w.heap.size + 1) (w.heap.size + 1 + 1) _ ?_ ?_ ?_ ?_ (by omega) (by omega) (by omega)).mono ?_
    · exact ((((Kp.refl [] w).alloc _).alloc _).alloc _).drew
    · simp only [One, halloc, hdrew, World.size_alloc]; simp; try omega
    · simp only [One, halloc, hdrew, World.size_alloc]; simp; try omega
    · simp only [halloc, hdrew, World.size_alloc]; simp; try omega
    rintro e w2 ⟨rfl, hD⟩
    go_wp2
    refine leaves_cons (f := 95) (args := #[.pointer (some ⟨w.heap.size, 0, none⟩), .pointer (some ⟨(w.heap.size + 1 + 1), 0, none⟩)]) (by simp) (by simp [go_sem]) ?_
    refine hD.mono ?_
    rintro e u' w' ⟨rfl, rfl, h1, h2, h3⟩
    exact ⟨_, results_none rfl _ _ _, rfl, h1, h2, h3⟩
  · refine hK _ _ (fun _ => Gr.of (fun b hb => Below.heap_alloc _ _ _ (by simp at hb ⊢; omega))) ?_
    clear hK K
    refine plan_E rfl (fun K hK => ?_); go_simp
    refine hK _ _ (fun _ => Gr.of (fun b hb => (Below.heap_alloc _ _ _ (by simp at hb ⊢; omega)).trans (Below.heap_alloc _ _ _ (by simp at hb ⊢; omega)))) ?_
    clear hK K
    refine plan_E rfl (fun K hK => ?_); go_simp
    refine hK _ _ nofun ?_
    clear hK K
    refine plan_Z ?_
    go_wp2_with fail
    refine (fin (w.heap.size + 1 + 1) (w.heap.size + 1) _ ?_ ?_ ?_ ?_ (by omega) (by omega) (by omega)).mono ?_
    · exact ((((Kp.refl [] w).alloc _).alloc _).alloc _).drew
    · simp only [One, halloc, hdrew, World.size_alloc]; simp; try omega
    · simp only [One, halloc, hdrew, World.size_alloc]; simp; try omega
    · simp only [halloc, hdrew, World.size_alloc]; simp; try omega
    rintro e w2 ⟨rfl, hD⟩
    go_wp2
    refine leaves_cons (f := 95) (args := #[.pointer (some ⟨w.heap.size, 0, none⟩), .pointer (some ⟨(w.heap.size + 1), 0, none⟩)]) (by simp) (by simp [go_sem]) ?_
    refine hD.mono ?_
    rintro e u' w' ⟨rfl, rfl, h1, h2, h3⟩
    exact ⟨_, results_none rfl _ _ _, rfl, h1, h2, h3⟩

theorem take_bad (B : Nat) (code : Int) (hr : IsRd w B p d s) (hs : s.code = 0)
    (args : Value → Array Value) (hargs : ∀ a, #[a] ++ caps = args a) (hK0 : ∀ a w, (callFunc fk (args a)).run Tryd.prog w = .ok (.enter fk (args a)) w)
    (hp0 : ∀ c w1, Kp [] w w1 → w.heap.size ≤ c → IsCur w1 B c d s.at_ → Calls Tryd.prog fk (args (.pointer (some ⟨c, 0, none⟩))) w1 (Bad c code w1)) :
    Calls Tryd.prog 65 #[.pointer (some ⟨p, 0, none⟩), .func (.func fk) #[] caps] w fun e w' => e = .returned (.tuple #[]) ∧ IsRd w' B p d (s.fault code) ∧ Kp [p] w w' := by
  have hK : ∀ a w, (callFunc fk (#[a] ++ caps)).run Tryd.prog w = .ok (.enter fk (#[a] ++ caps)) w := fun a w => by rw [hargs]; exact hK0 a w
  have hp : ∀ c w1, Kp [] w w1 → w.heap.size ≤ c → IsCur w1 B c d s.at_ → Calls Tryd.prog fk (#[.pointer (some ⟨c, 0, none⟩)] ++ caps) w1 (Bad c code w1) := fun c w1 h1 h2 h3 => by rw [hargs]; exact hp0 c w1 h1 h2 h3
  clear hK0 hp0 hargs
  obtain ⟨hBw, hat, a, cap, hh, hb, hne⟩ := hr
  have hplt := lt_of_heap hh
  have hh_0 := cell_heap (w := w) (b := p) hh 0
  have hh_1 := cell_heap (w := w) (b := p) hh 1
  have hh_3 := cell_heap (w := w) (b := p) hh 3
  simp only [List.getElem?_toArray, List.getElem?_cons_zero, List.getElem?_cons_succ] at hh_0 hh_1 hh_3
  have hsb : (s.code != 0) = false := by simpa using hs
  have Hs := Lib.hid hs
  clear hs
  have hmf : ∀ (fn : Fn) (first cap : Array Value) (w : World), (Instr.makeFunc fn first cap).run Tryd.prog w = .ok (.func fn first cap) w := fun _ _ _ _ => rfl
  go_enter_defers Tryd.func65, Tryd.ntmps65
  go_wp2
  have hS : Gr (w.alloc (.cells #[.pointer (some ⟨p, 0, none⟩)] 73)) [p, w.heap.size] (w.alloc (.cells #[.pointer (some ⟨p, 0, none⟩)] 73)).drew := Gr.of (fun _ _ => rfl)
  refine wp_plan (.H 0 (.H 1 (.H 2 (.H 3 (.H 4 (.H 5 (.H 6 (.H 7 (.H 8 (.B 9 false (.E 10 true (.E 11 false .Z)) 10 true (.E 9 false (.E 11 false .Z)))))))))))) (Gr (w.alloc (.cells #[.pointer (some ⟨p, 0, none⟩)] 73)) [p, w.heap.size]) (by kernel_rfl) (by kernel_rfl) ?_
  repeat (first | (refine plan_H rfl hS (fun K hK => ?_); go_simp; refine hK _ ?_; clear hK K) | (refine plan_E rfl (fun K hK => ?_); go_simp; (first | refine hK _ _ (fun _ => hS) ?_ | refine hK _ _ nofun ?_); clear hK K))
  have fin : ∀ (c cb : Nat) (W : World), Kp [] w W → One W w.heap.size (.pointer (some ⟨p, 0, none⟩)) 73 →
      W.heap[c]? = some (.cells #[.slice a d.length cap, .int .i64 s.at_] 131 (0, 0)) → w.heap.size < c →
      Calls Tryd.prog fk (#[.pointer (some ⟨c, 0, none⟩)] ++ caps) W fun e w2 => e = .panicked [{ v := .iface 28 (.int .i64 code), recovered := false }] ∧ CallsD Tryd.prog 95 #[.pointer (some ⟨w.heap.size, 0, none⟩), .pointer (some ⟨cb, 0, none⟩)] (.panicking [{ v := .iface 28 (.int .i64 code), recovered := false }]) w2 fun e u' w' =>
        e = .returned (.tuple #[]) ∧ u' = .panicking [{ v := .iface 28 (.int .i64 code), recovered := true }] ∧ IsRd w' B p d (s.fault code) ∧ Kp [p] w w' := by
    intro c cb W hk hrb hcc h1
    refine (hp c W hk (by omega) ⟨by omega, a, cap, hcc, hb.kp0 hk, fun b e => (hne b e).2⟩).mono ?_
    rintro e w2 ⟨rfl, hk2⟩
    refine ⟨rfl, ?_⟩
    have hp2 := hk2.heap (hk.heap hh (by simp)) (by simp; omega)
    refine (catch_panic w.heap.size cb p c code d a cap s [] w2 (hrb.kp hk2 (by simp; omega)) hp2).mono ?_
    rintro e u' w' ⟨rfl, rfl, hp3, hk3⟩
    have hkk : Kp [p] w w2 := hk.nil.trans' hk2 (by simp; omega)
    refine ⟨rfl, rfl, ⟨by have := hkk.size; have := hk3.size; omega, hat, a, cap, hp3, (hb.kp hkk ?_).kp hk3 ?_, hne⟩, hkk.trans' hk3 (by simp)⟩
    · intro b e hm
      have := hne b e
      simp only [List.mem_cons, List.not_mem_nil, or_false] at hm
      omega
    · intro b e hm
      have := hne b e
      simp only [List.mem_cons, List.not_mem_nil, or_false] at hm
      omega
  refine plan_B rfl rfl (fun K hK => ?_) (fun K hK => ?_)
  all_goals go_simp
  · refine hK _ _ (fun _ => Gr.of (fun b hb => Below.heap_alloc _ _ _ (by simp at hb ⊢; omega))) ?_
    clear hK K
    refine plan_E rfl (fun K hK => ?_); go_simp
    refine hK _ _ (fun _ => Gr.of (fun b hb => (Below.heap_alloc _ _ _ (by simp at hb ⊢; omega)).trans (Below.heap_alloc _ _ _ (by simp at hb ⊢; omega)))) ?_
    clear hK K
    refine plan_E rfl (fun K hK => ?_); go_simp
    refine hK _ _ nofun ?_
    clear hK K
    refine plan_Z ?_
    go_wp2_with fail
    refine (fin (w.heap.size + 1) (w.heap.size + 1 + 1) _ ?_ ?_ ?_ (by omega)).mono ?_
    · exact ((((Kp.refl [] w).alloc _).alloc _).alloc _).drew
    · simp only [One, halloc, hdrew, World.size_alloc]; simp; try omega
    · simp only [halloc, hdrew, World.size_alloc]; simp; try omega
    rintro e w2 ⟨rfl, hD⟩
    go_wp2
    refine leaves_cons (f := 95) (args := #[.pointer (some ⟨w.heap.size, 0, none⟩), .pointer (some ⟨(w.heap.size + 1 + 1), 0, none⟩)]) (by simp) (by simp [go_sem]) ?_
    refine hD.mono ?_
    rintro e u' w' ⟨rfl, rfl, h1, h2⟩
    exact ⟨_, results_none rfl _ _ _, rfl, h1, h2⟩
  · refine hK _ _ (fun _ => Gr.of (fun b hb => Below.heap_alloc _ _ _ (by simp at hb ⊢; omega))) ?_
    clear hK K
    refine plan_E rfl (fun K hK => ?_); go_simp
    refine hK _ _ (fun _ => Gr.of (fun b hb => (Below.heap_alloc _ _ _ (by simp at hb ⊢; omega)).trans (Below.heap_alloc _ _ _ (by simp at hb ⊢; omega)))) ?_
    clear hK K
    refine plan_E rfl (fun K hK => ?_); go_simp
    refine hK _ _ nofun ?_
    clear hK K
    refine plan_Z ?_
    go_wp2_with fail
    refine (fin (w.heap.size + 1 + 1) (w.heap.size + 1) _ ?_ ?_ ?_ (by omega)).mono ?_
    · exact ((((Kp.refl [] w).alloc _).alloc _).alloc _).drew
    · simp only [One, halloc, hdrew, World.size_alloc]; simp; try omega
    · simp only [halloc, hdrew, World.size_alloc]; simp; try omega
    rintro e w2 ⟨rfl, hD⟩
    go_wp2
    refine leaves_cons (f := 95) (args := #[.pointer (some ⟨w.heap.size, 0, none⟩), .pointer (some ⟨(w.heap.size + 1), 0, none⟩)]) (by simp) (by simp [go_sem]) ?_
    refine hD.mono ?_
    rintro e u' w' ⟨rfl, rfl, h1, h2⟩
    exact ⟨_, results_none rfl _ _ _, rfl, h1, h2⟩
end
end Go.Proofs.YtddpefbpiehgeaaDoor
