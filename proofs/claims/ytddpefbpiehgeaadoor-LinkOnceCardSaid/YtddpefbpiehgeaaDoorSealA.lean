/- The seal: the key and the code. -/
import Derived.Test.YtddpefbpiehgeaaDoorHashD
import Derived.Laws.CopyOwn
import Derived.Laws.IdiomCopy
namespace Go.Proofs.YtddpefbpiehgeaaDoor
open Go Go.RowKit
set_option maxRecDepth 100000
set_option linter.unusedVariables false
set_option linter.unusedSectionVars false
set_option linter.unusedSimpArgs false

theorem smay_calls (s : ByteArray) (w : World) : Calls Tryd.prog 53 #[.string s] w fun e w' => e = .returned (.bool (decide (s.size ≤ 200))) ∧ w = w' := by
  go_enter Tryd.func53, Tryd.ntmps53
  go_wp2
  go_ret
  simp
  omega

section
variable {P : Program}
theorem run_cpy {w : World} {B e g N C : Nat} {z l : List UInt8} {v : Value} (hd : Own w B e 1 (.slice (some ⟨g, 0, none⟩) N C) N (bcells z)) (hs : Bs w v l) (hle : l.length ≤ N)
    (dT sT ty : TypeId) (hu : P.underlying dT = some (.slice e)) (hse : (P.info? e).map (·.size) = some 1) :
    ∃ w', (Builtin.copy_ #[dT, sT] ty #[.slice (some ⟨g, 0, none⟩) N C, v]).run P w = .ok (goInt l.length) w' ∧ Own w' B e 1 (.slice (some ⟨g, 0, none⟩) N C) N (bcells (l ++ z.drop l.length)) ∧ Kp [g] w w' := by
  obtain ⟨hl, hs⟩ := hs
  rcases hs with ⟨rfl, h0⟩ | ⟨a, rfl, h0⟩ | ⟨b, off, cap, rfl, hc, hb, hh⟩
  · have : l = [] := List.eq_nil_of_length_eq_zero h0
    subst this
    exact ⟨w, run_copy_none w dT sT ty e _ none N C 0 0 hu hse (by simp), by simpa using hd, Kp.refl _ _⟩
  · have : l = [] := List.eq_nil_of_length_eq_zero h0
    subst this
    exact ⟨w, run_copy_none w dT sT ty e _ (some a) N C 0 0 hu hse (by simp), by simpa using hd, Kp.refl _ _⟩
  · have hzl : z.length = N := by have := hd.1; simpa using this
    have hr := run_copy_cells (P := P) w dT sT ty e g 0 N C ⟨b, off, none⟩ l.length cap (bcells l) hu hse (by rw [bcells_length]; exact (Nat.min_eq_left hle).symm) (fun j u hu => by rw [Addr.add_lit]; exact hh j u hu)
      (fun j hj => by
        rw [bcells_length] at hj
        rw [Nat.zero_add, hd.cellAt j (by omega), List.getElem?_eq_getElem (by rw [bcells_length]; omega)]; rfl)
      (fun j hj => by
        rw [bcells_length] at hj
        have hNC : N ≤ C := by
          rcases hd.2 with ⟨h, _⟩ | ⟨_, _, _, _, hv, _, _, _, hn, _⟩
          · cases h
          · cases hv; exact hn
        rw [Nat.zero_add]; exact hd.frozenAt j (by omega)) bcells_one
    rw [bcells_length] at hr
    obtain ⟨hx, h⟩ := hd
    rcases h with ⟨h, _⟩ | ⟨g', cap', cur, fr, hv, hg, hcur, hf, hn, hm, hsz, ht⟩
    · cases h
    · cases hv
      obtain ⟨h1, h2, h3, h4, h5, h6⟩ := heap_sets (bcells l) 0 w cur hcur (by rw [bcells_length]; omega)
      refine ⟨_, hr, ⟨by simp [hzl]; omega, .inr ⟨g, C, _, fr, rfl, hg, h1, ?_, hn, hm, ?_, ?_⟩⟩, ⟨h3, h4, h5, Nat.le_of_eq h6.symm, fun k hk hs => h2 k (by simpa using hs)⟩⟩
      · simp only [List.take_zero, List.nil_append, Nat.zero_add, List.size_toArray, List.length_append, List.length_drop, Array.length_toList, bcells_length]
        rcases hf with hf | hf
        · exact .inl hf
        · exact .inr (by omega)
      · simp only [List.take_zero, List.nil_append, Nat.zero_add, List.size_toArray, List.length_append, List.length_drop, Array.length_toList, bcells_length]
        all_goals omega
      · simp only [List.take_zero, List.nil_append, Nat.zero_add, bcells_append, bcells_length]
        rw [List.take_append, List.take_of_length_le (by rw [bcells_length]; omega), bcells_length]
        congr 1
        have : bcells (z.drop l.length) = (bcells z).drop l.length := by simp [bcells, List.map_drop]
        rw [this, ← ht, List.drop_take]

theorem wpList_cpy {ops : Array Oper} {rest : List Oper} {o : Oper} {a : Act} {w : World} {Q : Exit → Act → World → Prop} (hgd : o.guard = none) (d s : Operand) (dT sT : TypeId)
    (ho : o.op = .call { callee := .builtin .copy, args := #[d, s], argTypes := #[dT, sT] }) (B e g N C : Nat) (z l : List UInt8) (v : Value)
    (hx : a.eval d = .slice (some ⟨g, 0, none⟩) N C) (hy : a.eval s = v) (hd : Own w B e 1 (.slice (some ⟨g, 0, none⟩) N C) N (bcells z)) (hs : Bs w v l) (hle : l.length ≤ N)
    (hu : P.underlying dT = some (.slice e)) (hse : (P.info? e).map (·.size) = some 1)
    (h : ∀ w', Own w' B e 1 (.slice (some ⟨g, 0, none⟩) N C) N (bcells (l ++ z.drop l.length)) → Kp [g] w w' → wpList P ops Q rest (a.put o.dst (goInt l.length)) w') : wpList P ops Q (o :: rest) a w := by
  refine wpList_plain hgd fun K hK => ?_
  obtain ⟨w', hr, h1, h2⟩ := run_cpy (P := P) hd hs hle dT sT o.type hu hse
  unfold Oper.wp
  simp [execOp, ho, resolve, invoke, builtin, hx, hy, hr, Result.andThen]
  exact hK _ _ (h w' h1 h2)
end

/-- The key, cut to its hash where it is long, filled to 64 bytes. -/
def key0 (s : ByteArray) : List UInt8 := if 64 < s.size then sha s.data.toList else s.data.toList
def padded (s : ByteArray) : List UInt8 := key0 s ++ List.replicate (64 - (key0 s).length) 0
theorem key0_le (s : ByteArray) : (key0 s).length ≤ 64 := by
  unfold key0
  split
  · rw [sha_length]; omega
  · rw [Array.length_toList]; show s.size ≤ 64; omega
theorem padded_length (s : ByteArray) : (padded s).length = 64 := by have := key0_le s; simp [padded]; omega

theorem u8size : (Tryd.prog.info? 5).map (·.size) = some 1 := by kernel_rfl
theorem zeros_cells (n : Nat) : (madeCells (Value.int IntKind.u8 0).cells (n * 1)).toList = bcells (List.replicate n 0) := by
  rw [Nat.mul_one]
  show (madeCells #[.int .u8 0] n).toList = _
  simp [toList_madeCells_one, bcells]

set_option maxHeartbeats 400000 in
theorem pad_calls (s : ByteArray) (w : World) (hG : GH w) (hs : s.size ≤ 1000000) :
    Calls Tryd.prog 79 #[.string s] w fun e w' => ∃ v, e = .returned v ∧ Bs w' v (padded s) ∧ (∀ k, v.ownBlock = some k → w.heap.size ≤ k) ∧ Kp [] w w' := by
  obtain ⟨i0, hi, hz0, hz1, hz2⟩ := info_parts u8info
  have hsl : s.data.toList.length = s.size := by rw [Array.length_toList]; rfl
  have hend : ∀ (w2 w3 w4 : World), Kp [] w w2 → Kp [] w2 w3 → Kp [w2.heap.size] w3 w4 →
      Own w4 w.heap.size 5 1 (.slice (some ⟨w2.heap.size, 0, none⟩) 64 64) 64 (bcells (key0 s ++ (List.replicate 64 0).drop (key0 s).length)) →
      ∃ v, Ending.returned (.slice (some ⟨w2.heap.size, 0, none⟩) 64 64) = .returned v ∧ Bs w4 v (padded s) ∧ (∀ k, v.ownBlock = some k → w.heap.size ≤ k) ∧ Kp [] w w4 := by
    intro w2 w3 w4 h2 h3 h4 ho
    refine ⟨_, rfl, ?_, fun k hk => by cases hk; exact h2.size, (h2.trans h3).trans' h4 (by simpa using h2.size)⟩
    have hb := Sl.of_own ho
    unfold Bs
    rw [padded_length]
    rw [List.drop_replicate] at hb
    exact hb
  go_enter Tryd.func79, Tryd.ntmps79
  by_cases h : 64 < s.size
  · have hd : decide ((64 : Int) < (s.size : Int)) = true := by rw [decide_eq_true_eq]; omega
    have hk0 : key0 s = sha s.data.toList := by unfold key0; rw [if_pos h]
    have hsh := sha_length s.data.toList
    go_wp2_with (first
      | (refine wpList_s2b rfl _ 9 23 5 rfl s rfl Tryd.underlying9 Tryd.underlying23 Tryd.underlying5 (by omega) ?_; intro v1 w1 ho1 hk1; obtain ⟨a1, c1, rfl⟩ := own_form ho1; rw [hsl] at ho1 ⊢)
      | (go_at_call 96; refine (sha_calls _ _ _ (hG.kp0 hk1) (OB.bs ho1) (by omega)).mono ?_; rintro e w2 ⟨v2, rfl, ho2, hk2⟩; have hk12 := hk1.trans hk2)
      | (refine wpList_make_full _ rfl _ _ 23 rfl w.heap.size 5 i0 _ 1 Tryd.underlying23 hi hz0 hz1 .i64 .i64 64 64 64 rfl rfl rfl rfl (by rw [hz2]; omega) (by unfold maxLen; omega) hk12.size ?_; intro w3 ho3 hg3; rw [zeros_cells] at ho3; have hk3 := (Kp.refl [] w2).grown hg3 nofun)
      | (refine wpList_cpy rfl _ _ 23 23 rfl w.heap.size 5 w2.heap.size 64 64 (List.replicate 64 0) (sha s.data.toList) v2 rfl rfl (Own.of ho3) ((OB.bs ho2).kp0 hk3) (by omega) Tryd.underlying23 u8size ?_; intro w4 ho4 hk4))
    go_ret
    rw [← hk0] at ho4
    exact hend w2 w3 w4 hk12 hk3 hk4 ho4
  · have hd : decide ((64 : Int) < (s.size : Int)) = false := by rw [decide_eq_false_iff_not]; omega
    have hk0 : key0 s = s.data.toList := by unfold key0; rw [if_neg h]
    go_wp2_with (first
      | (refine wpList_s2b rfl _ 9 23 5 rfl s rfl Tryd.underlying9 Tryd.underlying23 Tryd.underlying5 (by omega) ?_; intro v1 w1 ho1 hk1; obtain ⟨a1, c1, rfl⟩ := own_form ho1; rw [hsl] at ho1 ⊢)
      | (refine wpList_make_full _ rfl _ _ 23 rfl w.heap.size 5 i0 _ 1 Tryd.underlying23 hi hz0 hz1 .i64 .i64 64 64 64 rfl rfl rfl rfl (by rw [hz2]; omega) (by unfold maxLen; omega) hk1.size ?_; intro w3 ho3 hg3; rw [zeros_cells] at ho3; have hk3 := (Kp.refl [] w1).grown hg3 nofun; have hb3 : Bs w3 (.slice a1 s.size c1) s.data.toList := (OB.bs ho1).kp0 hk3)
      | (refine wpList_cpy rfl _ _ 23 23 rfl w.heap.size 5 w1.heap.size 64 64 (List.replicate 64 0) s.data.toList (.slice a1 s.size c1) rfl rfl (Own.of ho3) hb3 (by omega) Tryd.underlying23 u8size ?_; intro w4 ho4 hk4))
    go_ret
    rw [← hk0] at ho4
    exact hend w1 w3 w4 hk1 hk3 hk4 ho4
end Go.Proofs.YtddpefbpiehgeaaDoor
