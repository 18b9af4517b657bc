/- The reader of pieces: the cursor, what is taken, End. -/
import Derived.Test.YtddpefbpiehgeaaDoorWireA
namespace Go.Proofs.YtddpefbpiehgeaaDoor
open Go Go.RowKit
set_option maxRecDepth 100000
set_option linter.unusedVariables false
set_option linter.unusedSectionVars false
set_option linter.unusedSimpArgs false

/-- A cursor at block c: its bytes d, where it stands. -/
def IsCur (w : World) (B c : Nat) (d : List UInt8) (at_ : Nat) : Prop :=
  B ≤ c ∧ ∃ a cap, w.heap[c]? = some (.cells #[.slice a d.length cap, .int .i64 at_] 131 (0, 0)) ∧ Bs w (.slice a d.length cap) d ∧ (∀ b, Value.ownBlock (.slice a d.length cap) = some b → b < B)

theorem check_no (c : Int) (w : World) : Calls Tryd.prog 67 #[.bool false, .int .i64 c] w fun e w' => e = .panicked [{ v := .iface 28 (.int .i64 c), recovered := false }] ∧ w = w' := by
  go_enter Tryd.func67, Tryd.ntmps67
  go_wp2
  exact ⟨rfl, rfl, rfl⟩

theorem cbytes_ok (B c : Nat) (d : List UInt8) (at_ n : Nat) (w : World) (hc : IsCur w B c d at_) (hn : n + at_ ≤ d.length) (hlen : d.length ≤ 140737488355328) :
    Calls Tryd.prog 72 #[.pointer (some ⟨c, 0, none⟩), .int .i64 n] w fun e w' => ∃ v, e = .returned v ∧ Bs w' v ((d.drop at_).take n) ∧ IsCur w' B c d (at_ + n) ∧ Kp [c] w w' := by
  obtain ⟨hBc, a, cap, hh, hb, hBd⟩ := hc
  have hne : ∀ b, Value.ownBlock (.slice a d.length cap) = some b → b ≠ c := fun b e => by have := hBd b e; omega
  have hclt := lt_of_heap hh
  have h0 := cell_heap hh 0
  have h1 := cell_heap hh 1
  have hf1 := free_heap hh 1
  simp only [List.getElem?_toArray, List.getElem?_cons_zero, List.getElem?_cons_succ] at h0 h1
  have hle : decide ((n : Int) ≤ (d.length : Int) - at_) = true := by rw [decide_eq_true_eq]; omega
  have hw1 : IntKind.i64.wrap ((d.length : Int) - at_) = d.length - at_ := IntWalk.i64_in _ (by omega)
  go_enter Tryd.func72, Tryd.ntmps72
  go_wp2
  have hS : Gr w [c] w.drew := Gr.of (fun _ _ => rfl)
  refine wp_plan (.H 0 (.H 1 (.H 2 (.H 3 (.H 4 (.H 5 (.H 6 (.H 7 (.H 8 (.H 9 (.H 10 (.H 11 (.E 12 false .Z))))))))))))) (Gr w [c]) (by kernel_rfl) (by kernel_rfl) ?_
  repeat (refine plan_H rfl hS (fun K hK => ?_); go_simp; refine hK _ ?_; clear hK K)
  refine plan_E rfl (fun K hK => ?_)
  go_simp
  refine (check_yes _ _).mono ?_
  rintro e w' ⟨rfl, rfl⟩
  refine hK _ _ nofun ?_
  clear hK K
  refine plan_Z ?_
  have hw2 : IntKind.i64.wrap ((at_ : Int) + n) = at_ + n := IntWalk.i64_in _ (by omega)
  have hw3 : IntKind.i64.wrap ((at_ : Int) + n - n) = at_ := by rw [Int.add_sub_cancel]; exact IntWalk.i64_in _ (by omega)
  go_wp2
  have hfm := Sl.form hb
  obtain ⟨a', cap', he, hcap, hnone, hsome, hcells⟩ := hfm
  cases he
  have c0 : (w.setCell ⟨c, 1, none⟩ (.int .i64 (at_ + n))).cell? ⟨c, 0, none⟩ = some (.slice a d.length cap) := by rw [World.cell?_setCell_other _ _ _ _ (by simp)]; exact h0
  have c1 : (w.setCell ⟨c, 1, none⟩ (.int .i64 (at_ + n))).cell? ⟨c, 1, none⟩ = some (.int .i64 (at_ + n)) := World.cell?_setCell_same _ _ _ h1
  have hS2 : Gr (w.setCell ⟨c, 1, none⟩ (.int .i64 (at_ + n))) [c] (w.setCell ⟨c, 1, none⟩ (.int .i64 (at_ + n))).drew.drew := Gr.of (fun _ _ => rfl)
  refine wp_plan (.H 0 (.H 1 (.H 2 (.H 3 (.H 4 (.H 5 (.H 6 (.H 7 (.H 8 (.H 9 (.H 10 (.H 11 (.H 12 (.H 13 (.H 14 (.H 15 .Z)))))))))))))))) (Gr (w.setCell ⟨c, 1, none⟩ (.int .i64 (at_ + n))) [c]) (by kernel_rfl) (by kernel_rfl) ?_
  have hw4 : IntKind.i64.wrap (at_ : Int) = at_ := IntWalk.i64_in _ (by omega)
  have b1 : (0 : Int) ≤ (at_ : Int) + n ∧ (at_ : Int) + n ≤ cap := ⟨by omega, by omega⟩
  have b2 : (0 : Int) ≤ (at_ : Int) ∧ (at_ : Int) ≤ max ((at_ : Int) + n) 0 := ⟨by omega, by omega⟩
  have b4 : (at_ : Int) ≤ (at_ : Int) + n := by omega
  have b3 : ((at_ : Int) + n).toNat - at_ = n := by omega
  repeat (refine plan_H rfl hS2 (fun K hK => ?_); go_simp; refine hK _ ?_; clear hK K)
  refine plan_Z ?_
  have hpart := (Sl.part hb at_ n (by omega))
  generalize hA : (if cap = at_ then a else Option.map (fun x => x.add at_) a) = A at hpart ⊢
  have HA := Lib.hid hA
  clear hA
  clear b1 b2 b3 b4 hw1 hw2 hw3 hw4 c0 c1
  go_wp2
  go_ret
  have hkk : Kp [c] w (w.setCell ⟨c, 1, none⟩ (.int .i64 (at_ + n))).drew.drew := (((Kp.refl [c] w).setCell (.inl (by simp)) _).drew).drew
  refine ⟨_, rfl, ?_, ⟨hBc, a, cap, ?_, hb.kp hkk (fun b e hm => hne b e (by simpa using hm)), hBd⟩, hkk⟩
  · have h3 := hpart.kp hkk (fun b e hm => ?_)
    · unfold Bs
      rw [bcells_part]
      have : ((d.drop at_).take n).length = n := by simp; omega
      rw [this]
      exact h3
    · simp only [List.mem_singleton] at hm
      subst hm
      have hA := HA.out
      cases a with
      | none => simp at hA; rw [← hA] at e; cases e
      | some x =>
        refine hne b ?_ rfl
        rw [← hA] at e
        by_cases hq : cap = at_
        · simpa [hq, Value.ownBlock] using e
        · simpa [hq, Value.ownBlock, add_block] using e
  · have := heap_setCell_same w c 1 _ _ (.int .i64 ((at_ : Int) + n)) hh
    simpa [World.drew] using this

theorem cbytes_bad (B c : Nat) (d : List UInt8) (at_ n : Nat) (w : World) (hc : IsCur w B c d at_) (hn : d.length < n + at_) (ha : at_ ≤ d.length) (hlen : d.length ≤ 140737488355328) :
    Calls Tryd.prog 72 #[.pointer (some ⟨c, 0, none⟩), .int .i64 n] w fun e w' => e = .panicked [{ v := .iface 28 (.int .i64 10), recovered := false }] ∧ Kp [] w w' := by
  obtain ⟨hBc, a, cap, hh, hb, hBd⟩ := hc
  have hne : ∀ b, Value.ownBlock (.slice a d.length cap) = some b → b ≠ c := fun b e => by have := hBd b e; omega
  have hclt := lt_of_heap hh
  have h0 := cell_heap hh 0
  have h1 := cell_heap hh 1
  simp only [List.getElem?_toArray, List.getElem?_cons_zero, List.getElem?_cons_succ] at h0 h1
  have hle : decide ((n : Int) ≤ (d.length : Int) - at_) = false := by rw [decide_eq_false_iff_not]; omega
  have hw1 : IntKind.i64.wrap ((d.length : Int) - at_) = d.length - at_ := IntWalk.i64_in _ (by omega)
  go_enter Tryd.func72, Tryd.ntmps72
  go_wp2
  have hS : Gr w [c] w.drew := Gr.of (fun _ _ => rfl)
  refine wp_plan_p (.H 0 (.H 1 (.H 2 (.H 3 (.H 4 (.H 5 (.H 6 (.H 7 (.H 8 (.H 9 (.H 10 (.H 11 (.E 12 false .Z))))))))))))) (Gr w [c]) (by kernel_rfl) (by kernel_rfl) (fun c a x v w h => by cases x <;> exact h) ?_
  repeat (refine plan_H rfl hS (fun K hK => ?_); go_simp; refine hK _ ?_; clear hK K)
  refine plan_E rfl (fun K hK => ?_)
  go_simp
  refine (check_no _ _).mono ?_
  rintro e w' ⟨rfl, rfl⟩
  exact ⟨rfl, rfl, ((Kp.refl [] w).drew)⟩

theorem bits_ok (B c : Nat) (d : List UInt8) (at_ k : Nat) (w : World) (hc : IsCur w B c d at_) (hn : k + at_ ≤ d.length) (hk8 : k ≤ 8) (hlen : d.length ≤ 140737488355328) :
    Calls Tryd.prog 69 #[.pointer (some ⟨c, 0, none⟩), .int .i64 k] w fun e w' => e = .returned (.int .u64 (num ((d.drop at_).take k))) ∧ IsCur w' B c d (at_ + k) ∧ Kp [c] w w' := by
  generalize hl : (d.drop at_).take k = l
  have hll : l.length = k := by rw [← hl]; simp; omega
  go_enter Tryd.func69, Tryd.ntmps69
  go_wp2_with fail
  refine (cbytes_ok B c d at_ k w hc hn hlen).mono ?_
  rintro e w1 ⟨v, rfl, hb, hc1, hk1⟩
  rw [hl] at hb
  obtain ⟨a, cap, rfl, hcap, hnone, hsome, hcells⟩ := Sl.form hb
  have HL := Lib.hid hl
  have HLL := Lib.hid hll
  have hl8 : l.length ≤ 8 := by omega
  clear hl hll
  go_wp2
  go_loop [5, 12] (fun n i => ∃ j : Nat, j ≤ l.length ∧ i = .int .i64 j ∧ n = .int .u64 (num (l.take j))) (fun _ i => l.length - (intOf i).toNat)
  case atStart => exact ⟨0, Nat.zero_le _, rfl, rfl⟩
  case round =>
    obtain ⟨j, hj, rfl, rfl⟩ := hrel
    by_cases hlt : j < l.length
    · obtain ⟨b, off, rfl, hbl⟩ := hsome (by omega)
      have hcell := (hcells b off rfl).2 j _ (bcells_get l j hlt)
      have hi0 : (0 : Int) ≤ (j : Int) := by omega
      have hi1 : (j : Int) < (l.length : Int) := by omega
      clear hcells hnone hsome
      go_wp2
      have hnum := num_lt (l.take j)
      rw [List.length_take, Nat.min_eq_left (by omega)] at hnum
      have hpow : 256 ^ j ≤ 256 ^ 7 := Nat.pow_le_pow_right (by omega) (by omega)
      refine ⟨⟨j + 1, by omega, by go_num, ?_⟩, by simp [intOf]; omega⟩
      rw [byte_or _ _ (by omega) (l[j].toNat_lt), ← num_snoc, List.take_succ_eq_append_getElem hlt]
    · obtain rfl : j = l.length := by omega
      go_wp2
      go_ret
      exact ⟨rfl, hc1, hk1⟩

theorem bits_bad (B c : Nat) (d : List UInt8) (at_ k : Nat) (w : World) (hc : IsCur w B c d at_) (hn : d.length < k + at_) (ha : at_ ≤ d.length) (hlen : d.length ≤ 140737488355328) :
    Calls Tryd.prog 69 #[.pointer (some ⟨c, 0, none⟩), .int .i64 k] w fun e w' => e = .panicked [{ v := .iface 28 (.int .i64 10), recovered := false }] ∧ Kp [] w w' := by
  go_enter Tryd.func69, Tryd.ntmps69
  go_wp2_with fail
  refine (cbytes_bad B c d at_ k w hc hn ha hlen).mono ?_
  rintro e w1 ⟨rfl, hk1⟩
  exact ⟨rfl, rfl, hk1⟩

/-- What a piece comes to: it is taken, the cursor stands at at2, and the block q holds v; or it is at fault. -/
def Took (B c q : Nat) (d : List UInt8) (at2 : Nat) (v : Value) (T : TypeId) (w : World) (e : Ending) (w' : World) : Prop :=
  e = .returned (.tuple #[]) ∧ IsCur w' B c d at2 ∧ w'.heap[q]? = some (.cells #[v] T (0, 0)) ∧ Kp [c, q] w w'
def Bad (c : Nat) (code : Int) (w : World) (e : Ending) (w' : World) : Prop :=
  e = .panicked [{ v := .iface 28 (.int .i64 code), recovered := false }] ∧ Kp [c] w w'

theorem IsCur.kp {S : List Nat} {w w' : World} {B c : Nat} {d : List UInt8} {at_ : Nat} (h : IsCur w B c d at_) (hk : Kp S w w') (hS : ∀ s ∈ S, s ≠ c ∧ B ≤ s) : IsCur w' B c d at_ := by
  obtain ⟨hB, a, cap, hh, hb, hne⟩ := h
  exact ⟨hB, a, cap, hk.heap hh (fun hm => (hS c hm).1 rfl), hb.kp hk (fun b e hm => by have := (hS b hm).2; have := hne b e; omega), hne⟩

/-- A block of one cell. -/
def One (w : World) (q : Nat) (v : Value) (T : TypeId) : Prop := w.heap[q]? = some (.cells #[v] T (0, 0))
theorem One.cell {w : World} {q : Nat} {v : Value} {T : TypeId} (h : One w q v T) : w.cell? ⟨q, 0, none⟩ = some v := by simpa using cell_heap h 0
theorem One.free {w : World} {q : Nat} {v : Value} {T : TypeId} (h : One w q v T) : w.frozen? ⟨q, 0, none⟩ = false := free_heap h 0
theorem One.kp {S : List Nat} {w w' : World} {q : Nat} {v : Value} {T : TypeId} (h : One w q v T) (hk : Kp S w w') (hS : q ∉ S) : One w' q v T := hk.heap h hS
theorem One.set {w : World} {q : Nat} {v u : Value} {T : TypeId} (h : One w q v T) : One (w.setCell ⟨q, 0, none⟩ u) q u T := by
  have := heap_setCell_same w q 0 _ _ u h
  unfold One
  simpa using this

/-- The out block is written, behind the cursor's move. -/
theorem Took.mk {B c q : Nat} {d : List UInt8} {at2 : Nat} {v x0 : Value} {T : TypeId} {w w1 : World} (hc : IsCur w1 B c d at2) (hk : Kp [c] w w1) (hq : One w1 q x0 T) (hcq : c ≠ q) (hB : B ≤ q) :
    Took B c q d at2 v T w (.returned (.tuple #[])) (w1.setCell ⟨q, 0, none⟩ v) := by
  have hs : Kp [q] w1 (w1.setCell ⟨q, 0, none⟩ v) := (Kp.refl [q] w1).setCell (.inl (by simp)) v
  exact ⟨rfl, hc.kp hs (by simp; omega), hq.set, (hk.mono (by simp)).trans (hs.mono (by simp))⟩

section
variable (B c bs q : Nat) (d : List UInt8) (at_ : Nat) (x0 : Value) (w : World) (hc : IsCur w B c d at_) (hcs : c ≠ bs) (hcq : c ≠ q) (hBq : B ≤ q) (hlen : d.length ≤ 140737488355328)
include hc hcs hcq hBq hlen

theorem pnum_ok (k : Nat) (hs : One w bs (.int .i64 k) 3) (hq : One w q x0 103)
    (hn : k + at_ ≤ d.length) (hk1 : 1 ≤ k) (hk8 : k ≤ 8) (hx : num ((d.drop at_).take k) ≤ 9223372036854775807) :
    Calls Tryd.prog 66 #[.pointer (some ⟨c, 0, none⟩), .pointer (some ⟨bs, 0, none⟩), .pointer (some ⟨q, 0, none⟩)] w (Took B c q d (at_ + k) (.int .u64 (num ((d.drop at_).take k))) 103 w) := by
  have hz : sizedB (k : Int) = true := by simp [sizedB]; omega
  have Hz := Lib.hid hz
  clear hz
  generalize hX : num ((d.drop at_).take k) = X at *
  have HX := Lib.hid hX
  clear hX
  have hd1 : decide ((X : Int) ≤ 9223372036854775807) = true := by rw [decide_eq_true_eq]; omega
  have hslt := lt_of_heap hs
  have hqlt := lt_of_heap hq
  have s0 := hs.cell
  go_enter Tryd.func66, Tryd.ntmps66
  go_wp2_with (first
    | (go_at_call 68; refine (sized_calls _ _).mono ?_; rintro e w' ⟨rfl, rfl⟩; rw [Hz.out])
    | (go_at_call 67; refine (check_yes _ _).mono ?_; rintro e w' ⟨rfl, rfl⟩)
    | (go_at_call 69; refine (bits_ok B c d at_ k w hc hn hk8 hlen).mono ?_; rintro e w1 ⟨rfl, hc1, hk1'⟩; rw [HX.out]; have hq1 := hq.kp hk1' (by simpa using hcq.symm); have q0 := hq1.cell; have qf := hq1.free))
  go_end0
  exact Took.mk hc1 hk1' hq1 hcq hBq

theorem pnum_short (k : Nat) (hs : One w bs (.int .i64 k) 3) (ha : at_ ≤ d.length) (hn : d.length < k + at_) (hk1 : 1 ≤ k) (hk8 : k ≤ 8) :
    Calls Tryd.prog 66 #[.pointer (some ⟨c, 0, none⟩), .pointer (some ⟨bs, 0, none⟩), .pointer (some ⟨q, 0, none⟩)] w (Bad c 10 w) := by
  have hz : sizedB (k : Int) = true := by simp [sizedB]; omega
  have Hz := Lib.hid hz
  clear hz
  have hslt := lt_of_heap hs
  have s0 := hs.cell
  go_enter Tryd.func66, Tryd.ntmps66
  go_wp2_with (first
    | (go_at_call 68; refine (sized_calls _ _).mono ?_; rintro e w' ⟨rfl, rfl⟩; rw [Hz.out])
    | (go_at_call 67; refine (check_yes _ _).mono ?_; rintro e w' ⟨rfl, rfl⟩)
    | (go_at_call 69; refine (bits_bad B c d at_ k w hc hn ha hlen).mono ?_; rintro e w1 ⟨rfl, hk1'⟩))
  exact ⟨rfl, rfl, hk1'.nil⟩

theorem pnum_form (k : Nat) (hs : One w bs (.int .i64 k) 3) (hn : k + at_ ≤ d.length) (hk1 : 1 ≤ k) (hk8 : k ≤ 8) (hx : 9223372036854775807 < num ((d.drop at_).take k)) :
    Calls Tryd.prog 66 #[.pointer (some ⟨c, 0, none⟩), .pointer (some ⟨bs, 0, none⟩), .pointer (some ⟨q, 0, none⟩)] w (Bad c 11 w) := by
  have hz : sizedB (k : Int) = true := by simp [sizedB]; omega
  have Hz := Lib.hid hz
  clear hz
  generalize hX : num ((d.drop at_).take k) = X at *
  have HX := Lib.hid hX
  clear hX
  have hd1 : decide ((X : Int) ≤ 9223372036854775807) = false := by rw [decide_eq_false_iff_not]; omega
  have hslt := lt_of_heap hs
  have s0 := hs.cell
  go_enter Tryd.func66, Tryd.ntmps66
  go_wp2_with (first
    | (go_at_call 68; refine (sized_calls _ _).mono ?_; rintro e w' ⟨rfl, rfl⟩; rw [Hz.out])
    | (go_at_call 67; first | ((with_reducible refine (check_yes _ _).mono ?_); rintro e w' ⟨rfl, rfl⟩) | ((with_reducible refine (check_no _ _).mono ?_); rintro e w' ⟨rfl, rfl⟩))
    | (go_at_call 69; refine (bits_ok B c d at_ k w hc hn hk8 hlen).mono ?_; rintro e w1 ⟨rfl, hc1, hk1'⟩; rw [HX.out]))
  exact ⟨rfl, rfl, hk1'⟩
end
end Go.Proofs.YtddpefbpiehgeaaDoor
