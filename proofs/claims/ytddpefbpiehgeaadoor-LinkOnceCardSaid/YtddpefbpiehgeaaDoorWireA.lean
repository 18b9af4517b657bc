/- The writer of pieces: the small functions, digits, put and what is put. -/
import Derived.Test.YtddpefbpiehgeaaDoorProg
import Derived.Test.YtddpefbpiehgeaaDoorRegion
import Derived.Test.YtddpefbpiehgeaaDoorWireP
namespace Go.Proofs.YtddpefbpiehgeaaDoor
open Go Go.RowKit
set_option maxRecDepth 100000
set_option linter.unusedVariables false
set_option linter.unusedSimpArgs false

theorem u8info : (Tryd.prog.info? 5).map (fun i => (i.zero, i.size, i.bytes)) = some (some (.int .u8 0), 1, 1) := by kernel_rfl

def sizedB (n : Int) : Bool := decide (1 ≤ n) && decide (n ≤ 8)
theorem sized_calls (n : Int) (w : World) : Calls Tryd.prog 68 #[.int .i64 n] w fun e w' => e = .returned (.bool (sizedB n)) ∧ w = w' := by
  by_cases h1 : 1 ≤ n
  · go_enter Tryd.func68, Tryd.ntmps68
    go_wp2
    go_ret
    simp [sizedB, h1]
  · go_enter Tryd.func68, Tryd.ntmps68
    go_wp2
    go_ret
    have : decide (1 ≤ n) = false := by simpa using h1
    simp [sizedB, this]

theorem must_yes (w : World) : Calls Tryd.prog 86 #[.bool true] w fun e w' => e = .returned (.tuple #[]) ∧ w = w' := by
  go_enter Tryd.func86, Tryd.ntmps86
  go_wp2
  go_end0
  exact ⟨rfl, rfl⟩
theorem must_no (w : World) : Calls Tryd.prog 86 #[.bool false] w fun e w' => e = .panicked [{ v := .iface 28 (.int .i64 1), recovered := false }] ∧ w = w' := by
  go_enter Tryd.func86, Tryd.ntmps86
  go_wp2
  exact ⟨rfl, rfl, rfl⟩
theorem check_yes (c : Int) (w : World) : Calls Tryd.prog 67 #[.bool true, .int .i64 c] w fun e w' => e = .returned (.tuple #[]) ∧ w = w' := by
  go_enter Tryd.func67, Tryd.ntmps67
  go_wp2
  go_end0
  exact ⟨rfl, rfl⟩

set_option maxHeartbeats 400000 in
theorem digits_calls (n s : Int) (w : World) (h0 : 0 ≤ n) (h1 : 1 ≤ s) (h8 : s ≤ 8) :
    Calls Tryd.prog 88 #[.int .u64 n, .int .i64 s] w fun e w' => ∃ v, e = .returned v ∧ OB w' 5 w.heap.size v (dig n.toNat s.toNat) ∧ Kp [] w w' := by
  obtain ⟨i0, hi, hz0, hz1, hz2⟩ := info_parts u8info
  obtain ⟨k, rfl⟩ := Int.eq_ofNat_of_zero_le (show 0 ≤ s by omega)
  rw [Int.toNat_natCast]
  go_enter Tryd.func88, Tryd.ntmps88
  go_wp2_with (refine wpList_make_full _ rfl _ _ 23 rfl w.heap.size 5 i0 _ 1 Tryd.underlying23 hi hz0 hz1 .i64 .i64 k k k rfl rfl rfl rfl (by rw [hz2]; omega) (by unfold maxLen; omega) (Nat.le_refl _) ?_)
  intro w1 hown hg
  go_wp2
  go_loopw [11] (fun v wr => ∃ i : Nat, i ≤ k ∧ v = .int .i64 i ∧ OB wr 5 w.heap.size (.slice (some ⟨w.heap.size, 0, none⟩) k k) (List.replicate (k - i) 0 ++ dig n.toNat i) ∧ Kp [] w wr) (fun v _ => k - (intOf v).toNat)
  case atStart =>
    refine ⟨0, by omega, rfl, ?_, (Kp.refl [] w).grown hg nofun⟩
    have hl : (List.replicate (k - 0) (0 : UInt8) ++ dig n.toNat 0).length = k := by simp [dig]
    unfold OB
    rw [hl]
    refine cast ?_ (Own.of hown)
    congr 1
    simp [toList_madeCells_one, dig, bcells]
  case round =>
    obtain ⟨i, hik, rfl, ho, hk⟩ := hrel
    have hl : (List.replicate (k - i) (0 : UInt8) ++ dig n.toNat i).length = k := by simp; omega
    unfold OB at ho
    rw [hl] at ho
    by_cases hlt : i < k
    · have hc : wr.cell? ⟨w.heap.size, k - 1 - i, none⟩ = some (.int .u8 0) := by
        rw [ho.cellAt _ (by omega)]
        rw [bcells_append, List.getElem?_append_left (by simp; omega)]
        simp [bcells, show k - 1 - i < k - i by omega]
      have hf : wr.frozen? ⟨w.heap.size, k - 1 - i, none⟩ = false := ho.frozenAt _ (by omega)
      have hst := ho.stored (k - 1 - i) (.int .u8 (n / 2 ^ (8 * i) % 256))
      have Hl := Lib.hid hl
      clear hl
      go_wp2
      go_roundw
      case rel =>
        refine ⟨i + 1, by omega, by go_num, ?_, hk.setCell (.inr (Nat.le_refl _)) _⟩
        have h3 := hst
        rw [byte_shr n h0 i, ← bcells_set, dig_step _ _ _ hlt] at h3
        rw [byte_shr n h0 i]
        have hl2 : (List.replicate (k - (i + 1)) (0 : UInt8) ++ dig n.toNat (i + 1)).length = k := by simp; omega
        unfold OB
        rw [hl2]
        exact h3
      case measure => simp [intOf]; omega
    · go_wp2
      go_ret
      obtain rfl : i = k := by omega
      refine ⟨_, rfl, ?_, hk⟩
      unfold OB
      simpa using ho

theorem fits_calls (n s : Int) (w : World) (h0 : 0 ≤ n) (h1 : 1 ≤ s) (h8 : s ≤ 8) (h9 : n ≤ 9223372036854775807) (hf : n.toNat < 256 ^ s.toNat) :
    Calls Tryd.prog 87 #[.int .i64 n, .int .i64 s] w fun e w' => e = .returned (.bool true) ∧ w = w' := by
  by_cases h : s = 8
  · subst h
    clear hf
    go_enter Tryd.func87, Tryd.ntmps87
    go_wp2
    go_ret
    exact ⟨rfl, rfl⟩
  · have h' : ((s : Int) == 8) = false := by simpa using h
    have hz : ((n / 2 ^ (8 * s).toNat : Int) == 0) = true := by
      obtain ⟨m, rfl⟩ := Int.eq_ofNat_of_zero_le h0
      obtain ⟨k, rfl⟩ := Int.eq_ofNat_of_zero_le (show 0 ≤ s by omega)
      rw [Int.toNat_natCast, Int.toNat_natCast, show (256 : Nat) = 2 ^ 8 from rfl, ← Nat.pow_mul] at hf
      have : (8 * (k : Int)).toNat = 8 * k := by omega
      rw [this, beq_iff_eq]
      have h2 : m / 2 ^ (8 * k) = 0 := Nat.div_eq_of_lt hf
      exact_mod_cast h2
    clear hf h
    go_enter Tryd.func87, Tryd.ntmps87
    go_wp2
    go_ret
    exact ⟨rfl, rfl⟩

/-- A piece that is put: fresh bytes. -/
def Piece (B : Nat) (l : List UInt8) (w : World) (e : Ending) (w' : World) : Prop := ∃ v, e = .returned v ∧ OB w' 5 B v l ∧ Kp [] w w'

theorem num1_calls (n s : Int) (bn bs : Nat) (w : World) (hn : w.cell? ⟨bn, 0, none⟩ = some (.int .i64 n)) (hs : w.cell? ⟨bs, 0, none⟩ = some (.int .i64 s))
    (h0 : 0 ≤ n) (h9 : n ≤ 9223372036854775807) (h1 : 1 ≤ s) (h8 : s ≤ 8) (hf : n.toNat < 256 ^ s.toNat) :
    Calls Tryd.prog 85 #[.pointer (some ⟨bs, 0, none⟩), .pointer (some ⟨bn, 0, none⟩)] w (Piece w.heap.size (dig n.toNat s.toNat) w) := by
  have hz : sizedB s = true := by simp [sizedB, h1, h8]
  have Hz := Lib.hid hz
  have Hf := Lib.hid hf
  clear hz hf
  go_enter Tryd.func85, Tryd.ntmps85
  go_wp2_with (first
    | (go_at_call 68; refine (sized_calls _ _).mono ?_; rintro e w' ⟨rfl, rfl⟩; rw [Hz.out])
    | (go_at_call 87; refine (fits_calls _ _ _ h0 h1 h8 h9 Hf.out).mono ?_; rintro e w' ⟨rfl, rfl⟩)
    | (go_at_call 86; refine (must_yes _).mono ?_; rintro e w' ⟨rfl, rfl⟩)
    | (go_at_call 88; refine (digits_calls _ _ _ h0 h1 h8).mono ?_; rintro e w' ⟨v, rfl, ho, hk⟩))
  go_ret
  exact ⟨_, rfl, ho, hk⟩

theorem text1_calls (s : ByteArray) (b : Nat) (w : World) (hn : w.cell? ⟨b, 0, none⟩ = some (.string s)) (hb : b < w.heap.size) (hs : s.size ≤ 65535) :
    Calls Tryd.prog 89 #[.pointer (some ⟨b, 0, none⟩)] w (Piece w.heap.size (dig s.size 2 ++ s.data.toList) w) := by
  obtain ⟨i0, hi, hz0, hz1, hz2⟩ := info_parts u8info
  have hd : decide ((s.size : Int) ≤ 65535) = true := by rw [decide_eq_true_eq]; omega
  have hw : IntKind.u64.wrap (s.size : Int) = s.size := IntWalk.u64_in _ (by omega)
  go_enter Tryd.func89, Tryd.ntmps89
  go_wp2_with (first
    | (go_at_call 86; refine (must_yes _).mono ?_; rintro e w' ⟨rfl, rfl⟩))
  go_region_held3 (fun w' => w'.cell? ⟨b, 0, none⟩ = some (.string s)) (first | go_keep | (rw [hc _ _ hb]; exact hn) | (exact hg.cell ((hc _ _ hb).trans hn) (fun e => absurd (ho.lt _ e.symm).1 (Nat.not_le.2 hb))))
    (first
      | (go_at_call 88; refine (digits_calls _ _ _ (by omega) (by omega) (by omega)).mono ?_; rintro e w' ⟨v, rfl, ho, hk⟩; obtain ⟨hc, hf⟩ := hk.cells0)
      | (refine step_app _ rfl _ _ 23 9 rfl w.heap.size 5 i0 _ 1 1 Tryd.underlying23 hi hz0 hz1 hz2 rfl (by omega) v _ _ rfl ho _ s.size (byteCells s) rfl (Src.ofString _ Tryd.underlying9 s) (by simp; omega) (by simp; omega) hk.size ?_; intro v1 w1 ho1 hg hb1))
  go_wp2
  go_ret
  refine ⟨v1, rfl, ?_, (Kp.trans (b := w.drew) (Kp.refl [] w).drew hk).grown hg (fun b hb => .inr (ho.lt _ hb).1)⟩
  have := ho1
  unfold OB
  simp only [List.length_append, bcells_append, dig_length] at this ⊢
  rw [byteCells_eq] at this
  exact this

/-- A writer at block p, of the call's own (from base on), with the bytes l; nothing was wrong. -/
def IsWr (w : World) (base p : Nat) (l : List UInt8) : Prop :=
  base ≤ p ∧ ∃ bv, w.heap[p]? = some (.cells #[bv, .bool false] 124 (0, 0)) ∧ OB w 5 base bv l ∧ bv.ownBlock ≠ some p

theorem put_catch (x : Addr) (w : World) :
    CallsD Tryd.prog 98 #[.pointer (some x)] .returning w fun e u' w' => e = .returned (.tuple #[]) ∧ u' = .returning ∧ w = w' := by
  refine callsD_of_wpS Tryd.func98 rfl fun c₀ cs hu => ?_
  apply wpS_seq
  apply wpS_region
  simp [wpOpsS, go_sem, recoverD, hu, Tryd.ntmps98, Exit.thenS]
  refine wpS_of_wp ?_
  go_wp2
  cases c₀
  simp_all [bodyPostS, results, Tryd.results98]

theorem put_calls (base p fk : Nat) (caps : Array Value) (l m : List UInt8) (w : World) (hw : IsWr w base p l) (hlen : l.length + m.length ≤ 140737488355328)
    (hp : ∀ w', Kp [] w w' → Calls Tryd.prog fk caps w' (Piece w'.heap.size m w')) (hK : ∀ w, (callFunc fk caps).run Tryd.prog w = .ok (.enter fk caps) w) (hB : base ≤ w.heap.size) :
    Calls Tryd.prog 84 #[.pointer (some ⟨p, 0, none⟩), .func (.func fk) #[] caps] w fun e w' => e = .returned (.tuple #[]) ∧ IsWr w' base p (l ++ m) ∧ Below base w w' := by
  obtain ⟨hbp, bv, hh, ho, hne⟩ := hw
  obtain ⟨i0, hi, hz0, hz1, hz2⟩ := info_parts u8info
  have hplt := lt_of_heap hh
  have h0 := cell_heap hh 0
  have h1 := cell_heap hh 1
  have hf0 := free_heap hh 0
  simp only [List.getElem?_toArray, List.getElem?_cons_zero, List.getElem?_cons_succ] at h0 h1
  have hmf : ∀ (fn : Fn) (first cap : Array Value) (w : World), (Instr.makeFunc fn first cap).run Tryd.prog w = .ok (.func fn first cap) w := fun _ _ _ _ => rfl
  go_enter_defers Tryd.func84, Tryd.ntmps84
  go_wp2
  refine wp_plan (.H 0 (.H 1 (.H 2 (.H 3 (.H 4 (.H 5 (.E 6 true (.E 7 true (.H 8 (.H 9 (.E 10 false .Z))))))))))) (Gr (w.alloc (.cells #[.pointer (some ⟨p, 0, none⟩)] 93)) [p, w.heap.size]) (by kernel_rfl) (by kernel_rfl) ?_
  have hS : Gr (w.alloc (.cells #[.pointer (some ⟨p, 0, none⟩)] 93)) [p, w.heap.size] (w.alloc (.cells #[.pointer (some ⟨p, 0, none⟩)] 93)).drew := Gr.of (fun _ _ => rfl)
  iterate 6 (refine plan_H rfl hS (fun K hK => ?_); go_simp; refine hK _ ?_; clear hK K)
  have hlen' := ho.lt
  refine plan_E rfl (fun K hK => ?_)
  go_simp
  refine (hp _ ((Kp.refl [] w).alloc _).drew).mono ?_
  rintro e w1 ⟨v, rfl, ho1, hk1⟩
  have hk0 : Kp [] w w1 := (((Kp.refl [] w).alloc _).drew).trans hk1
  have hS1 : Gr (w.alloc (.cells #[.pointer (some ⟨p, 0, none⟩)] 93)) [p, w.heap.size] w1 := Gr.of (fun b hb => hk1.block b (by simp at hb ⊢; omega) (by simp))
  refine hK _ _ (fun _ => hS1) ?_
  clear hK K
  refine plan_E rfl (fun K hK => ?_)
  refine step_app _ rfl _ _ 23 23 rfl base 5 i0 _ 1 1 Tryd.underlying23 hi hz0 hz1 hz2 rfl (by omega) bv _ _ rfl (own_kp ho hk0 (by simp)) v _ _ rfl (Src.of_sl Tryd.underlying23 ho1.bs bcells_one) (by omega) (by omega) (by have := hk0.size; omega) ?_
  intro bv2 w2 ho2 hg2 hb2
  have hne2 : bv.ownBlock ≠ some w.heap.size := fun e => by have := (hlen' _ e).2; omega
  have hk2 : Kp bv.ownBlock.toList w w2 := hk0.nil.grown hg2 (fun k hk => .inl (by simp [hk]))
  have hS2 : Gr (w.alloc (.cells #[.pointer (some ⟨p, 0, none⟩)] 93)) [p, w.heap.size] w2 := Gr.of (fun b hb => by
    rw [hg2.block b (Nat.lt_of_lt_of_le (by simp at hb ⊢; omega) hk1.size) (by
      simp only [List.mem_cons, List.not_mem_nil, or_false] at hb
      rcases hb with rfl | rfl
      · exact fun e => hne e.symm
      · exact fun e => hne2 e.symm)]
    exact hk1.block b (by simp at hb ⊢; omega) (by simp))
  obtain ⟨a2, cap2, rfl⟩ := own_form ho2
  refine hK _ _ (fun _ => hS2) ?_
  clear hK K
  iterate 2 (refine plan_H rfl hS2 (fun K hK => ?_); go_simp; refine hK _ ?_; clear hK K)
  refine plan_E rfl (fun K hK => ?_)
  have hh2 : w2.heap[p]? = some (.cells #[bv, .bool false] 124 (0, 0)) := hk2.heap hh (by simpa using hne)
  have c2 := cell_heap hh2 0
  have f2 := free_heap hh2 0
  simp only [List.getElem?_toArray, List.getElem?_cons_zero] at c2
  go_simp
  refine hK _ _ nofun ?_
  clear hK K
  refine plan_Z ?_
  go_wp2
  refine leaves_cons (f := 98) (args := #[.pointer (some ⟨w.heap.size, 0, none⟩)]) (by simp) (by simp [go_sem]) ?_
  refine (put_catch _ _).mono ?_
  rintro e u' w'' ⟨rfl, rfl, rfl⟩
  have hp2 : (Value.slice a2 (l.length + m.length) cap2).ownBlock ≠ some p := fun e => by
    rcases hb2 _ e with h | h
    · exact hne h
    · have := hk0.size; omega
  have hb3 : ∀ b, (Value.slice a2 (l.length + m.length) cap2).ownBlock = some b → base ≤ b := fun b e => (ho2.lt b e).1
  refine ⟨_, results_none rfl _ _ _, rfl, ⟨hbp, _, heap_setCell_same _ _ _ _ _ _ hh2, ?_, hp2⟩, ?_⟩
  · have h3 := own_kp ho2 (S := [p]) ((Kp.refl [p] w2).setCell (.inl (by simp)) (p := ⟨p, 0, none⟩) (.slice a2 (l.length + m.length) cap2)) (fun b hb => by
      simp only [List.mem_singleton]
      rintro rfl
      exact hp2 hb)
    unfold OB
    simpa using h3
  · refine (hk2.below hB (fun s hs => ?_)).setCell hbp _
    exact (hlen' s (by simpa using hs)).1

theorem IsWr.kp {S : List Nat} {w w' : World} {base p : Nat} {l : List UInt8} (h : IsWr w base p l) (hk : Kp S w w') (hS : ∀ s ∈ S, s < base) : IsWr w' base p l := by
  obtain ⟨hb, bv, hh, ho, hne⟩ := h
  exact ⟨hb, bv, hk.heap hh (fun hc => by have := hS p hc; omega), own_kp ho hk (fun b e hc => by have := hS b hc; have := (ho.lt b e).1; omega), hne⟩

theorem newWriter_calls (w : World) : Calls Tryd.prog 55 #[] w fun e w' => ∃ p, e = .returned (.pointer (some ⟨p, 0, none⟩)) ∧ IsWr w' w.heap.size p [] ∧ Kp [] w w' := by
  go_enter Tryd.func55, Tryd.ntmps55
  go_wp2
  go_ret
  refine ⟨w.heap.size, rfl, ⟨Nat.le_refl _, _, heap_alloc_new _ _, Own.nil _ _ _ _, nofun⟩, (Kp.refl [] w).alloc _⟩

theorem number_calls (base p : Nat) (l : List UInt8) (n s : Int) (w : World) (hw : IsWr w base p l) (hB : base ≤ w.heap.size) (hlen : l.length ≤ 100000000000000)
    (h0 : 0 ≤ n) (h9 : n ≤ 9223372036854775807) (h1 : 1 ≤ s) (h8 : s ≤ 8) (hf : n.toNat < 256 ^ s.toNat) :
    Calls Tryd.prog 56 #[.pointer (some ⟨p, 0, none⟩), .int .i64 n, .int .i64 s] w fun e w' => e = .returned (.tuple #[]) ∧ IsWr w' base p (l ++ dig n.toNat s.toNat) ∧ Below base w w' := by
  have hmf : ∀ (fn : Fn) (first cap : Array Value) (w : World), (Instr.makeFunc fn first cap).run Tryd.prog w = .ok (.func fn first cap) w := fun _ _ _ _ => rfl
  have Hf := Lib.hid hf
  clear hf
  go_enter Tryd.func56, Tryd.ntmps56
  go_wp2_with fail
  refine (put_calls base p 85 _ l (dig n.toNat s.toNat) _ (hw.kp (((Kp.refl [] w).alloc _).alloc _) (by simp)) (by simp; omega) (fun w' hk => num1_calls n s _ _ w' ?_ ?_ h0 h9 h1 h8 Hf.out) (fun _ => by simp [go_sem]) (by simp; omega)).mono ?_
  · rw [hk.cells0.1 _ _ (by simp <;> omega)]; go_simp
  · rw [hk.cells0.1 _ _ (by simp)]; go_simp
  rintro e w1 ⟨rfl, hw1, hb1⟩
  go_wp2
  go_end0
  exact ⟨rfl, hw1, (((Below.refl base w).alloc hB _).alloc (by simp; omega) _).trans hb1⟩

theorem count_calls (base p : Nat) (l : List UInt8) (n : Int) (w : World) (hw : IsWr w base p l) (hB : base ≤ w.heap.size) (hlen : l.length ≤ 100000000000000)
    (h0 : 0 ≤ n) (hf : n ≤ 65535) :
    Calls Tryd.prog 57 #[.pointer (some ⟨p, 0, none⟩), .int .i64 n] w fun e w' => e = .returned (.tuple #[]) ∧ IsWr w' base p (l ++ dig n.toNat 2) ∧ Below base w w' := by
  go_enter Tryd.func57, Tryd.ntmps57
  go_wp2_with fail
  refine (number_calls base p l n 2 w hw hB hlen h0 (by omega) (by omega) (by omega) (by simp; omega)).mono ?_
  rintro e w1 ⟨rfl, hw1, hb1⟩
  go_wp2
  go_end0
  exact ⟨rfl, hw1, hb1⟩

theorem text_calls (base p : Nat) (l : List UInt8) (s : ByteArray) (w : World) (hw : IsWr w base p l) (hB : base ≤ w.heap.size) (hlen : l.length ≤ 100000000000000) (hs : s.size ≤ 65535) :
    Calls Tryd.prog 58 #[.pointer (some ⟨p, 0, none⟩), .string s] w fun e w' => e = .returned (.tuple #[]) ∧ IsWr w' base p (l ++ (dig s.size 2 ++ s.data.toList)) ∧ Below base w w' := by
  have hmf : ∀ (fn : Fn) (first cap : Array Value) (w : World), (Instr.makeFunc fn first cap).run Tryd.prog w = .ok (.func fn first cap) w := fun _ _ _ _ => rfl
  have hsl : s.data.toList.length = s.size := by simp
  go_enter Tryd.func58, Tryd.ntmps58
  go_wp2_with fail
  refine (put_calls base p 89 _ l _ _ (hw.kp ((Kp.refl [] w).alloc _) (by simp)) (by simp; omega) (fun w' hk => text1_calls s _ w' ?_ ?_ hs) (fun _ => by simp [go_sem]) (by simp; omega)).mono ?_
  · rw [hk.cells0.1 _ _ (by simp)]; go_simp
  · have := hk.size; simp at this; omega
  rintro e w1 ⟨rfl, hw1, hb1⟩
  go_wp2
  go_end0
  exact ⟨rfl, hw1, ((Below.refl base w).alloc hB _).trans hb1⟩

/-- What a function of bytes and an error's number hands back. -/
def RetB (B : Nat) (l : List UInt8) (c : Int) (w : World) (e : Ending) (w' : World) : Prop := ∃ v, e = .returned (.tuple #[v, .int .i64 c]) ∧ OB w' 5 B v l ∧ Kp [] w w'

theorem bytes_calls (base p : Nat) (l : List UInt8) (w : World) (hw : IsWr w base p l) (hlen : l.length ≤ 100000000000000) :
    Calls Tryd.prog 59 #[.pointer (some ⟨p, 0, none⟩)] w (RetB w.heap.size l 0 w) := by
  obtain ⟨hbp, bv, hh, ho, hne⟩ := hw
  obtain ⟨i0, hi, hz0, hz1, hz2⟩ := info_parts u8info
  have hplt := lt_of_heap hh
  have h0 := cell_heap hh 0
  have h1 := cell_heap hh 1
  simp only [List.getElem?_toArray, List.getElem?_cons_zero, List.getElem?_cons_succ] at h0 h1
  go_enter Tryd.func59, Tryd.ntmps59
  go_wp2_with (refine wpList_app _ rfl _ _ 23 23 rfl w.heap.size 5 i0 _ 1 1 Tryd.underlying23 hi hz0 hz1 hz2 rfl (by omega) (.slice none 0 0) 0 [] rfl (Own.nil _ _ _ _) bv _ _ rfl (Src.of_sl Tryd.underlying23 ho.bs bcells_one) (by omega) (by omega) (by omega) ?_)
  intro v w1 ho1 hg hb1
  go_wp2
  go_ret2
  refine ⟨v, rfl, ?_, (Kp.refl [] w).grown hg nofun⟩
  unfold OB
  simpa using ho1
end Go.Proofs.YtddpefbpiehgeaaDoor
