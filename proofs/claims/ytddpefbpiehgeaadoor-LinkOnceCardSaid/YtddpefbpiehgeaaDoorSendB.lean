/- The link: a receiver's answer. -/
import Derived.Test.YtddpefbpiehgeaaDoorSendA
namespace Go.Proofs.YtddpefbpiehgeaaDoor
open Go Go.RowKit
set_option maxRecDepth 100000
set_option linter.unusedVariables false
set_option linter.unusedSectionVars false
set_option linter.unusedSimpArgs false

theorem iteminfo : (Tryd.prog.info? 51).map (fun i => (i.zero, i.size, i.bytes)) = some (some (.agg #[.int .i64 0, .slice none 0 0]), 2, 32) := by kernel_rfl

theorem gotItems_snoc (nx : Int) (f : Fr) (b : List UInt8) : ∀ (l : List (List UInt8)) (i : Nat), gotItems nx f i (l ++ [b]) = gotItems nx f i l ++ (if nx ≤ f.b + ((i + l.length : Nat) : Int) then [⟨f.b + ((i + l.length : Nat) : Int), b⟩] else [])
  | [], i => by simp [gotItems]
  | x :: l, i => by
    rw [List.cons_append, gotItems, gotItems, gotItems_snoc nx f b l (i + 1), List.append_assoc, List.length_cons, show i + 1 + l.length = i + (l.length + 1) by omega]
theorem gotItems_len (nx : Int) (f : Fr) : ∀ (l : List (List UInt8)) (i : Nat), (gotItems nx f i l).length ≤ l.length
  | [], i => by simp [gotItems]
  | x :: l, i => by
    have := gotItems_len nx f l (i + 1)
    rw [gotItems, List.length_append, List.length_cons]
    split <;> simp <;> omega

/-- What Got hands back. -/
def RetG (r : Int × List It) (p : Nat) (w : World) (e : Ending) (w' : World) : Prop :=
  ∃ v cs, e = .returned v ∧ Own w' w.heap.size 51 2 v r.2.length cs ∧ ItC (w.heap.size ≤ ·) w' cs r.2 ∧ IsR w' p r.1 ∧ Kp [p] w w'

theorem got_not (p : Nat) (nx : Int) (f : Fr) (iv tv : Value) (w : World) (hr : IsR w p nx) (hi : Rws w iv f.its) (ht : Bs w tv f.t) (hn : f.its.length ≤ 100000000000000) (hnt : f.t.length ≤ 140737488352000) (hb : f.b ≤ 9223372036854775807) (hno : ¬ (f.k = 1 ∧ mayB f = true)) :
    Calls Tryd.prog 20 #[.pointer (some ⟨p, 0, none⟩), .agg (fcells f iv tv)] w (RetG (got nx f) p w) := by
  have hg : got nx f = (nx, []) := by unfold got; rw [if_neg hno]
  rw [hg]
  obtain ⟨ia, ic, rfl, hic⟩ := hi.form
  obtain ⟨ta, tc, rfl, -⟩ := Sl.form ht
  have him := may_calls f _ _ (w.alloc (.cells (fcells f (.slice ia f.its.length ic) (.slice ta f.t.length tc)) 25)) (hi.kp0 ((Kp.refl [] w).alloc _)) (ht.kp0 ((Kp.refl [] w).alloc _)) hn hnt hb
  have hk0 := (Kp.refl [] w).alloc (.cells (fcells f (.slice ia f.its.length ic) (.slice ta f.t.length tc)) 25)
  have hp : p < w.heap.size := lt_of_heap hr.1
  unfold fcells at him hk0 ⊢
  have HIM := Lib.hid him
  clear him hg
  by_cases hk : f.k = 1
  · have hm : mayB f = false := by
      cases h : mayB f with
      | false => rfl
      | true => exact absurd ⟨hk, h⟩ hno
    rw [hm] at HIM
    have hb1 : (f.k != 1) = false := by simp [hk]
    clear hk hm hno
    go_enter Tryd.func20, Tryd.ntmps20
    go_wp2_with (go_at_call 31; (with_reducible refine HIM.out.mono ?_); rintro e w1 ⟨rfl, hk1⟩)
    go_ret
    exact ⟨_, [], rfl, Own.nil _ _ _ _, ItC.nil _ _, hr.kp (hk0.trans hk1) (by simp), (hk0.trans hk1).nil⟩
  · have hb1 : (f.k != 1) = true := by simpa using hk
    clear hk hno
    go_enter Tryd.func20, Tryd.ntmps20
    go_wp2_with fail
    go_ret
    exact ⟨_, [], rfl, Own.nil _ _ _ _, ItC.nil _ _, hr.kp hk0 (by simp), hk0.nil⟩

set_option maxHeartbeats 1000000 in
theorem got_is (p : Nat) (nx NX : Int) (f : Fr) (iv tv : Value) (w : World) (P : Nat → Prop) (hP : ¬ P p) (hr : IsR w p nx) (hi : RwP P w iv f.its) (ht : Bs w tv f.t) (hk : f.k = 1) (hm : mayB f = true) (hNX : (if nx < f.a then f.a else nx) = NX) :
    Calls Tryd.prog 20 #[.pointer (some ⟨p, 0, none⟩), .agg (fcells f iv tv)] w (RetG (got nx f) p w) := by
  obtain ⟨ht0, hx, hn1, hn8, ha1, hab, hb9⟩ := may_1 hm hk
  have hg : got nx f = (NX, if NX < f.b then [] else gotItems NX f 0 f.its) := by unfold got nextOf; rw [if_pos ⟨hk, hm⟩, hNX]
  have HG := Lib.hid hg
  have hN0 : 0 ≤ NX ∧ NX ≤ 4294967296 ∧ 1 ≤ NX := by have := hr.2; omega
  obtain ⟨ia, ic, rfl, hic⟩ := hi.rws.form
  obtain ⟨ta, tc, rfl, -⟩ := Sl.form ht
  have him := may_calls f _ _ (w.alloc (.cells (fcells f (.slice ia f.its.length ic) (.slice ta f.t.length tc)) 25)) (hi.rws.kp0 ((Kp.refl [] w).alloc _)) (ht.kp0 ((Kp.refl [] w).alloc _)) (by omega) (by rw [ht0]; simp) (by omega)
  have hk0 := (Kp.refl [] w).alloc (.cells (fcells f (.slice ia f.its.length ic) (.slice ta f.t.length tc)) 25)
  have hh0 := heap_alloc_new w (.cells (fcells f (.slice ia f.its.length ic) (.slice ta f.t.length tc)) 25)
  have hsz0 := alloc_lt w (.cells (fcells f (.slice ia f.its.length ic) (.slice ta f.t.length tc)) 25)
  have hp : p < w.heap.size := lt_of_heap hr.1
  rw [hm] at him
  unfold fcells at him hk0 hh0 hsz0 ⊢
  have HIM := Lib.hid him
  have HT0 := Lib.hid ht0
  have HX := Lib.hid hx
  have HNX := Lib.hid hNX
  have hb1 : (f.k != 1) = false := by simp [hk]
  have hk9 : f.k ≤ 1 := by omega
  clear him hg ht0 hx hm hk hNX
  obtain ⟨hrh, hr0, hr9⟩ := hr
  go_enter Tryd.func20, Tryd.ntmps20
  go_wp2_with (go_at_call 31; (with_reducible refine HIM.out.mono ?_); rintro e w1 ⟨rfl, hk1⟩; generalize w.alloc (.cells #[.int .i64 f.k, .int .i64 f.a, .int .i64 f.b, .slice ia f.its.length ic, .slice ta f.t.length tc] 25) = w0 at *; have hkw1 := hk0.trans hk1; have hh1 := hk1.heap hh0 (by simp); have hr1 := hkw1.heap hrh (by simp); obtain ⟨c0, c1, c2, c3, c4⟩ := cells5 hh1; have cp := cell_heap hr1 0; have fp := free_heap hr1 0; simp only [List.getElem?_toArray, List.getElem?_cons_zero] at cp)
  have hlt1 := lt_of_heap hh1
  have hS : Gr w1 [p, w.heap.size] w1.drew := Gr.of (fun _ _ => rfl)
  refine wp_plan (.H 0 (.H 1 (.H 2 (.H 3 (.H 4 (.H 5 (.H 6 (.H 7 (.E 8 false (.E 9 false (.E 10 false .Z))))))))))) (Gr w1 [p, w.heap.size]) (by as_aux_lemma => kernel_rfl) (by as_aux_lemma => kernel_rfl) ?_
  repeat (first | (refine plan_H rfl hS (fun K hK => ?_); go_simp; refine hK _ ?_; clear hK K) | (refine plan_E rfl (fun K hK => ?_); go_simp; (first | refine hK _ _ (fun _ => hS) ?_ | refine hK _ _ nofun ?_); clear hK K))
  refine plan_Z ?_
  rw [HNX.out]
  have hh2 : (w1.setCell ⟨p, 0, none⟩ (.int .i64 NX)).heap[w.heap.size]? = _ := (hset _ _ _ _ (by simp; omega)).trans hh1
  have hr2 := heap_set (i := 0) (.int .i64 NX) hr1
  simp only [List.setIfInBounds_toArray, List.set_cons_succ, List.set_cons_zero] at hr2
  have hk2 : Kp [p] w (w1.setCell ⟨p, 0, none⟩ (.int .i64 NX)) := hkw1.nil.setCell (.inl (by simp)) _
  clear c0 c1 c2 c3 c4 cp fp hS
  generalize w1.setCell ⟨p, 0, none⟩ (.int .i64 NX) = w2 at *
  obtain ⟨c0, c1, c2, c3, c4⟩ := cells5 hh2
  have cp := cell_heap hr2 0
  simp only [List.getElem?_toArray, List.getElem?_cons_zero] at cp
  have hS : Gr w2 [p, w.heap.size] w2.drew.drew := Gr.of (fun _ _ => rfl)
  by_cases hlt : NX < f.b
  · have hd : decide (NX < f.b) = true := by simpa using hlt
    rw [if_pos hlt] at HG
    clear hlt
    go_wp2_with fail
    refine wp_plan (.H 0 (.H 1 (.H 2 (.H 3 (.H 4 (.H 5 (.E 6 false .Z))))))) (Gr w2 [p, w.heap.size]) (by as_aux_lemma => kernel_rfl) (by as_aux_lemma => kernel_rfl) ?_
    repeat (first | (refine plan_H rfl hS (fun K hK => ?_); go_simp; refine hK _ ?_; clear hK K) | (refine plan_E rfl (fun K hK => ?_); go_simp; (first | refine hK _ _ (fun _ => hS) ?_ | refine hK _ _ nofun ?_); clear hK K))
    refine plan_Z ?_
    go_wp2
    go_ret
    rw [HG.out]
    exact ⟨_, [], rfl, Own.nil _ _ _ _, ItC.nil _ _, ⟨hr2, by omega, by omega⟩, (hk2.drew).drew⟩
  · have hd : decide (NX < f.b) = false := by simpa using hlt
    rw [if_neg hlt] at HG
    have hge : f.b ≤ NX := by omega
    clear hlt
    go_wp2_with fail
    refine wp_plan (.H 0 (.H 1 (.H 2 (.H 3 (.H 4 (.H 5 (.E 6 false .Z))))))) (Gr w2 [p, w.heap.size]) (by as_aux_lemma => kernel_rfl) (by as_aux_lemma => kernel_rfl) ?_
    repeat (first | (refine plan_H rfl hS (fun K hK => ?_); go_simp; refine hK _ ?_; clear hK K) | (refine plan_E rfl (fun K hK => ?_); go_simp; (first | refine hK _ _ (fun _ => hS) ?_ | refine hK _ _ nofun ?_); clear hK K))
    refine plan_Z ?_
    go_wp2_with fail
    have hi2 : RwP P w2 (.slice ia f.its.length ic) f.its := hi.kp hk2 (fun g hg hm => hP (by simp at hm; rw [← hm]; exact hg))
    have hs2 := hk2.size
    have hlt2 := lt_of_heap hh2
    have hltp := lt_of_heap hr2
    clear c0 c1 c2 c3 c4 cp hS hi hd
    go_loopw [5, 37] (fun v5 v37 wr => ∃ (n : Nat) (cs : List Value), n ≤ f.its.length ∧ v37 = .int .i64 n ∧ Own wr w2.heap.size 51 2 v5 (gotItems NX f 0 (f.its.take n)).length cs ∧ ItO wr w2.heap.size cs (gotItems NX f 0 (f.its.take n)) ∧ Kp [] w2 wr) (fun _ v37 _ => f.its.length - (intOf v37).toNat)
    case atStart => exact ⟨0, [], by omega, rfl, Own.nil _ _ _ _, ItO.nil _ _, ((Kp.refl [] w2).drew).drew⟩
    case round =>
      obtain ⟨n, cs, hnl, rfl, hown, hitc, hkr⟩ := hrel
      have hhr := hkr.heap hh2 (by simp)
      have hrr := hkr.heap hr2 (by simp)
      obtain ⟨c0, c1, c2, c3, c4⟩ := cells5 hhr
      have cp := cell_heap hrr 0
      simp only [List.getElem?_toArray, List.getElem?_cons_zero] at cp
      by_cases hlt : n < f.its.length
      · obtain ⟨oa, oc, rfl⟩ := own_form hown
        obtain ⟨ib, io, ua, uc, rfl, hib, hcell, hbx⟩ := (hi2.kp hkr (by simp)).rws.at n hlt
        have hx := HX.out f.its[n] (List.getElem_mem hlt)
        have hsn := gotItems_snoc NX f f.its[n] (f.its.take n) 0
        rw [← List.take_succ_eq_append_getElem hlt, List.length_take, Nat.min_eq_left (by omega), Nat.zero_add] at hsn
        have hgl := gotItems_len NX f (f.its.take n) 0
        rw [List.length_take] at hgl
        generalize f.its[n] = x at *
        have i0 : (0 : Int) ≤ n ∧ (n : Int) < f.its.length := by omega
        have hn8' : (n : Int) ≤ 8 := by omega
        by_cases hc : NX ≤ f.b + n
        · rw [if_pos hc] at hsn
          have hd : decide (NX ≤ f.b + (n : Int)) = true := by simpa using hc
          have HSN := Lib.hid hsn
          have hgl8 : (gotItems NX f 0 (f.its.take n)).length ≤ 8 := by omega
          clear hsn hc hgl
          generalize gotItems NX f 0 (f.its.take n) = G at *
          obtain ⟨i0, hi, hz0, hz1, hz2⟩ := info_parts u8info
          go_wp2_with (with_reducible refine stop_app ?_)
          unfold Stop
          refine wpList_app _ rfl _ _ 23 23 rfl wr.heap.size 5 i0 _ 1 1 Tryd.underlying23 hi hz0 hz1 hz2 rfl (by omega) (.slice none 0 0) 0 [] rfl (Own.nil _ _ _ _) (.slice ua x.length uc) _ _ rfl (Src.of_sl Tryd.underlying23 hbx bcells_one) (by omega) (by omega) (Nat.le_refl _) ?_
          intro v3 w3 ho3 hg3 hx3
          rw [Nat.zero_add, List.nil_append] at ho3
          obtain ⟨xa, xc, rfl⟩ := own_form ho3
          have hk3 : Kp [] wr w3 := (Kp.refl [] wr).grown hg3 nofun
          obtain ⟨i0, hi, hz0, hz1, hz2⟩ := info_parts iteminfo
          go_wp2_with (with_reducible refine stop_app ?_)
          unfold Stop
          have hk4 : Kp [] wr (w3.alloc (.cells #[.int .i64 (f.b + n), .slice xa x.length xc] 51)) := hk3.alloc _
          have hown4 := own_kp hown hk4 (by simp)
          refine wpList_app _ rfl _ _ 46 46 rfl w2.heap.size 51 i0 _ 2 32 Tryd.underlying46 hi hz0 hz1 hz2 rfl (by omega) (.slice oa G.length oc) G.length cs rfl hown4 (.slice (some ⟨w3.heap.size, 0, none⟩) 1 1) 1 [.int .i64 (f.b + n), .slice xa x.length xc] rfl (Src.of_sl Tryd.underlying46 (sl_alloc w3 51 _ _ rfl 2 1 rfl) (by simp [Value.oneCell'])) (by omega) (by omega) (by have := hkr.size; have := hk4.size; omega) ?_
          intro v5 w5 ho5 hg5 hx5
          obtain ⟨a5, c5, rfl⟩ := own_form ho5
          have hk5 : Kp (Value.slice oa G.length oc).ownBlock.toList w3 w5 := ((Kp.refl _ w3).alloc _).grown hg5 (fun q hq => .inl (by simp [hq]))
          have hown3 := own_kp hown hk3 (by simp)
          have hob3 : OB w5 5 w2.heap.size (.slice xa x.length xc) x := own_base (own_kp ho3 hk5 (fun q hq hm => own_ne ho3 hown3 (by decide) q hq (by simpa using hm))) (fun q hq => by have := (Own.lt ho3 q hq).1; have := hkr.size; omega)
          have hit5 := ((hitc.kp hk3 (by simp)).row hown3 (by decide) hk5).snoc (x := ⟨f.b + n, x⟩) hob3
          have hkr5 : Kp [] w2 w5 := (hkr.trans hk3).trans' hk5 (fun q hq => .inr (hown.lt q (by simpa using hq)).1)
          have HO5 := Lib.hid ho5
          have HI5 := Lib.hid hit5
          have HK5 := Lib.hid hkr5
          clear ho5 hit5 hkr5 hob3 hown3 hk5 hown4 hk4 hk3 ho3
          go_wp2
          go_roundw
          case measure => simp [intOf]; omega
          case rel => exact ⟨n + 1, _, by omega, by go_num, by rw [HSN.out, List.length_append]; exact HO5.out, by rw [HSN.out]; exact HI5.out, HK5.out⟩
        · rw [if_neg hc, List.append_nil] at hsn
          have hd : decide (NX ≤ f.b + (n : Int)) = false := by simpa using hc
          have HSN := Lib.hid hsn
          clear hsn hc hgl
          generalize gotItems NX f 0 (f.its.take n) = G at *
          go_wp2_with fail
          go_roundw
          case measure => simp [intOf]; omega
          case rel => exact ⟨n + 1, cs, by omega, by go_num, by rw [HSN.out]; exact hown, by rw [HSN.out]; exact hitc, hkr⟩
      · have hd : decide ((n : Int) < (f.its.length : Int)) = false := by rw [decide_eq_false_iff_not]; omega
        rw [List.take_of_length_le (by omega)] at hown hitc
        obtain ⟨oa, oc, rfl⟩ := own_form hown
        have hown' := own_base (base' := w.heap.size) hown (fun q hq => by have := (hown.lt q hq).1; omega)
        go_wp2_with fail
        go_ret
        rw [HG.out]
        exact ⟨_, cs, rfl, hown', hitc.itc.mono (fun g (hg : w2.heap.size ≤ g) => (by omega : w.heap.size ≤ g)), ⟨hrr, by omega, by omega⟩, hk2.trans hkr.nil⟩
end Go.Proofs.YtddpefbpiehgeaaDoor
