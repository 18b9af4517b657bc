/- The reference's seal: under, Mac, Key. -/
import Derived.Test.YtddpefbpiehgeaaDoorRefD
namespace Go.Proofs.YtddpefbpiehgeaaDoor
open Go Go.RowKit
set_option maxRecDepth 100000
set_option linter.unusedVariables false
set_option linter.unusedSectionVars false
set_option linter.unusedSimpArgs false

/-- The first bytes are turned over. -/
def xorN (b : UInt8) (l : List UInt8) (i : Nat) : List UInt8 := (l.take i).map (· ^^^ b) ++ l.drop i
theorem xorN_length (b : UInt8) (l : List UInt8) (i : Nat) : (xorN b l i).length = l.length := by simp [xorN]; omega
theorem xorN_full (b : UInt8) (l : List UInt8) (i : Nat) (h : l.length = i) : xorN b l i = l.map (· ^^^ b) := by subst h; simp [xorN]
theorem xorN_get (b : UInt8) (l : List UInt8) (i : Nat) (h : i < l.length) : (xorN b l i).getD i 0 = l.getD i 0 := by
  unfold xorN
  simp only [List.getD]
  rw [List.getElem?_append_right (by simp; omega)]
  simp [h, Nat.min_eq_left (Nat.le_of_lt h)]
theorem xorN_set (b : UInt8) (l : List UInt8) (i : Nat) (h : i < l.length) : (xorN b l i).set i (l.getD i 0 ^^^ b) = xorN b l (i + 1) := by
  unfold xorN
  have hm : ((l.take i).map (· ^^^ b)).length = i := by simp; omega
  rw [List.set_append_right _ _ (by omega), hm, Nat.sub_self, List.drop_eq_getElem_cons h, List.set_cons_zero, List.take_succ_eq_append_getElem h, List.map_append]
  simp only [List.map_cons, List.map_nil, List.append_assoc, List.cons_append, List.nil_append]
  simp [h]
theorem bcells_getD (l : List UInt8) (i : Nat) (h : i < l.length) : (bcells l)[i]? = some (.int .u8 ((l.getD i 0).toNat : Int)) := by
  rw [bcells_get l i h]
  simp [h]

set_option maxHeartbeats 2000000 in
theorem under_calls (s : ByteArray) (b : UInt8) (bi : Int) (hbi : bi = (b.toNat : Int)) (w : World) (hG : GR w) (hs : s.size ≤ 1000000) :
    Calls Tryd.prog 90 #[.string s, .int .u8 bi] w fun e w' => ∃ v, e = .returned v ∧ OB w' 5 w.heap.size v ((padded s).map (· ^^^ b)) ∧ Kp [] w w' := by
  subst hbi
  obtain ⟨i0, hi, hz0, hz1, hz2⟩ := info_parts u8info
  have hsl : s.data.toList.length = s.size := by rw [Array.length_toList]; rfl
  have hpad : padded s = key0 s ++ List.replicate (64 - (key0 s).length) 0 := rfl
  go_enter Tryd.func90, Tryd.ntmps90
  by_cases h : 64 < s.size
  · have hd : decide ((64 : Int) < (s.size : Int)) = true := by rw [decide_eq_true_eq]; omega
    have hk0 : key0 s = sha s.data.toList := by unfold key0; rw [if_pos h]
    have hsh := sha_length s.data.toList
    go_wp2_with (first
      | (refine wpList_s2b rfl _ 9 23 5 rfl s rfl Tryd.underlying9 Tryd.underlying23 Tryd.underlying5 (by omega) ?_; intro v1 w1 ho1 hk1; obtain ⟨a1, c1, rfl⟩ := own_form ho1; rw [hsl] at ho1 ⊢)
      | (go_at_call 91; refine (rsum_calls _ _ _ (hG.kp0 hk1) (OB.bs ho1) (by omega)).mono ?_; rintro e w2 ⟨v2, rfl, ho2, hk2⟩; have hk12 := hk1.trans hk2)
      | (refine wpList_make_full _ rfl _ _ 23 rfl w.heap.size 5 i0 _ 1 Tryd.underlying23 hi hz0 hz1 .i64 .i64 64 64 64 rfl rfl rfl rfl (by rw [hz2]; omega) (by unfold maxLen; omega) hk12.size ?_; intro w3 ho3 hg3; rw [zeros_cells] at ho3; have hk3 := (Kp.refl [] w2).grown hg3 nofun)
      | (refine wpList_cpy rfl _ _ 23 23 rfl w.heap.size 5 w2.heap.size 64 64 (List.replicate 64 0) (sha s.data.toList) v2 rfl rfl (Own.of ho3) ((OB.bs ho2).kp0 hk3) (by omega) Tryd.underlying23 u8size ?_; intro w4 ho4 hk4))
    have hl64 := padded_length s
    have ho5 : Own w4 w.heap.size 5 1 (.slice (some ⟨w2.heap.size, 0, none⟩) 64 64) 64 (bcells (xorN b (padded s) 0)) := by
      rw [← hk0, List.drop_replicate] at ho4
      exact ho4
    have hk5 : Kp [] w w4 := (hk12.trans hk3).trans' hk4 (by simpa using hk12.size)
    generalize w2.heap.size = g at *
    have HL := Lib.hid hl64
    clear hk0 ho4 hk4 hl64
    obtain ⟨wo, rfl⟩ : ∃ wo : World, wo = w4 := ⟨_, rfl⟩
    go_wp2
    go_loopw [7] (fun v7 wr => ∃ i : Nat, i ≤ 64 ∧ v7 = .int .i64 i ∧ Own wr w.heap.size 5 1 (.slice (some ⟨g, 0, none⟩) 64 64) 64 (bcells (xorN b (padded s) i)) ∧ Kp [] w wr) (fun v7 _ => 64 - (intOf v7).toNat)
    case atStart => exact ⟨0, by omega, rfl, ho5, hk5⟩
    case round =>
      as_aux_lemma =>
      obtain ⟨i, hi64, rfl, ho, hk⟩ := hrel
      by_cases hlt : i < 64
      · have hx := xorN_get b (padded s) i (by have := HL.out; omega)
        have hc : wr.cell? ⟨g, i, none⟩ = some (.int .u8 (((padded s).getD i 0).toNat : Int)) := by
          rw [ho.cellAt i (by omega), bcells_getD, hx]
          have := HL.out
          rw [xorN_length]; omega
        have hf := ho.frozenAt i (by omega)
        have hst := ho.stored i (.int .u8 (((padded s).getD i 0 ^^^ b).toNat : Int))
        rw [← bcells_set, xorN_set b (padded s) i (by have := HL.out; omega)] at hst
        have hg := (ho.lt g rfl).1
        generalize (padded s).getD i 0 = y at *
        have HST := Lib.hid hst
        have i0 : (0 : Int) ≤ i ∧ (i : Int) < 64 := by omega
        clear hst hx
        go_wp2
        rw [u8_xor_v]
        go_roundw
        case measure => simp [intOf]; omega
        case rel => exact ⟨i + 1, by omega, by go_num, HST.out, hk.setCell (.inr hg) _⟩
      · have h64 : i = 64 := by omega
        have hd64 : decide ((i : Int) < 64) = false := by rw [decide_eq_false_iff_not]; omega
        go_wp2
        go_ret
        subst h64
        rw [xorN_full _ _ _ (by have := HL.out; omega)] at ho
        refine ⟨_, rfl, ?_, hk⟩
        unfold OB
        rw [List.length_map, HL.out]
        exact ho
  · have hd : decide ((64 : Int) < (s.size : Int)) = false := by rw [decide_eq_false_iff_not]; omega
    have hk0 : key0 s = s.data.toList := by unfold key0; rw [if_neg h]
    go_wp2_with (first
      | (refine wpList_s2b rfl _ 9 23 5 rfl s rfl Tryd.underlying9 Tryd.underlying23 Tryd.underlying5 (by omega) ?_; intro v1 w1 ho1 hk1; obtain ⟨a1, c1, rfl⟩ := own_form ho1; rw [hsl] at ho1 ⊢)
      | (refine wpList_make_full _ rfl _ _ 23 rfl w.heap.size 5 i0 _ 1 Tryd.underlying23 hi hz0 hz1 .i64 .i64 64 64 64 rfl rfl rfl rfl (by rw [hz2]; omega) (by unfold maxLen; omega) hk1.size ?_; intro w3 ho3 hg3; rw [zeros_cells] at ho3; have hk3 := (Kp.refl [] w1).grown hg3 nofun; have hb3 : Bs w3 (.slice a1 s.size c1) s.data.toList := (OB.bs ho1).kp0 hk3)
      | (refine wpList_cpy rfl _ _ 23 23 rfl w.heap.size 5 w1.heap.size 64 64 (List.replicate 64 0) s.data.toList (.slice a1 s.size c1) rfl rfl (Own.of ho3) hb3 (by omega) Tryd.underlying23 u8size ?_; intro w4 ho4 hk4))
    have hl64 := padded_length s
    have ho5 : Own w4 w.heap.size 5 1 (.slice (some ⟨w1.heap.size, 0, none⟩) 64 64) 64 (bcells (xorN b (padded s) 0)) := by
      rw [← hk0, List.drop_replicate] at ho4
      exact ho4
    have hk5 : Kp [] w w4 := (hk1.trans hk3).trans' hk4 (by simpa using hk1.size)
    generalize w1.heap.size = g at *
    have HL := Lib.hid hl64
    clear hk0 ho4 hk4 hl64
    obtain ⟨wo, rfl⟩ : ∃ wo : World, wo = w4 := ⟨_, rfl⟩
    go_wp2
    go_loopw [7] (fun v7 wr => ∃ i : Nat, i ≤ 64 ∧ v7 = .int .i64 i ∧ Own wr w.heap.size 5 1 (.slice (some ⟨g, 0, none⟩) 64 64) 64 (bcells (xorN b (padded s) i)) ∧ Kp [] w wr) (fun v7 _ => 64 - (intOf v7).toNat)
    case atStart => exact ⟨0, by omega, rfl, ho5, hk5⟩
    case round =>
      as_aux_lemma =>
      obtain ⟨i, hi64, rfl, ho, hk⟩ := hrel
      by_cases hlt : i < 64
      · have hx := xorN_get b (padded s) i (by have := HL.out; omega)
        have hc : wr.cell? ⟨g, i, none⟩ = some (.int .u8 (((padded s).getD i 0).toNat : Int)) := by
          rw [ho.cellAt i (by omega), bcells_getD, hx]
          have := HL.out
          rw [xorN_length]; omega
        have hf := ho.frozenAt i (by omega)
        have hst := ho.stored i (.int .u8 (((padded s).getD i 0 ^^^ b).toNat : Int))
        rw [← bcells_set, xorN_set b (padded s) i (by have := HL.out; omega)] at hst
        have hg := (ho.lt g rfl).1
        generalize (padded s).getD i 0 = y at *
        have HST := Lib.hid hst
        have i0 : (0 : Int) ≤ i ∧ (i : Int) < 64 := by omega
        clear hst hx
        go_wp2
        rw [u8_xor_v]
        go_roundw
        case measure => simp [intOf]; omega
        case rel => exact ⟨i + 1, by omega, by go_num, HST.out, hk.setCell (.inr hg) _⟩
      · have h64 : i = 64 := by omega
        have hd64 : decide ((i : Int) < 64) = false := by rw [decide_eq_false_iff_not]; omega
        go_wp2
        go_ret
        subst h64
        rw [xorN_full _ _ _ (by have := HL.out; omega)] at ho
        refine ⟨_, rfl, ?_, hk⟩
        unfold OB
        rw [List.length_map, HL.out]
        exact ho
end Go.Proofs.YtddpefbpiehgeaaDoor
