/- The link: a receiver's answer. -/
import Derived.Test.YtddpefbpiehgeaaDoorF13
import Derived.Maps.OwnSet
import Derived.Maps.RangeWalk
import Derived.Maps.OwnOps
namespace Go.Proofs.YtddpefbpiehgeaaDoor
open Go Go.RowKit
set_option maxRecDepth 100000
set_option linter.unusedVariables false
set_option linter.unusedSectionVars false
set_option linter.unusedSimpArgs false

theorem iteminfo : (Tryd.prog.info? 51).map (fun i => (i.zero, i.size, i.bytes)) = some (some (.agg #[.int .i64 0, .slice none 0 0]), 2, 32) := by kernel_rfl

theorem gotItems_snoc (nx : Int) (f : Fr) (b : List UInt8) : ∀ (l : List (List UInt8)) (i : Nat), gotItems nx f i (l ++ [b]) = gotItems nx f i l ++ (if nx ≤ f.b + ((i + l.length : Nat) : Int) then [⟨f.b + ((i + l.length : Nat) : Int), b⟩] else [])
  | [], i => by simp [gotItems]
  | x :: l, i => by
    rw [List.cons_append, gotItems, gotItems, gotItems_snoc nx f b l (i + 1), List.append_assoc, List.length_cons, show i + 1 + l.length = i + (l.length + 1) by omega]
theorem gotItems_len (nx : Int) (f : Fr) : ∀ (l : List (List UInt8)) (i : Nat), (gotItems nx f i l).length ≤ l.length
  | [], i => by simp [gotItems]
  | x :: l, i => by
    have := gotItems_len nx f l (i + 1)
    rw [gotItems, List.length_append, List.length_cons]
    split <;> simp <;> omega

/-- What Got hands back. -/
def RetG (r : Int × List It) (p : Nat) (w : World) (e : Ending) (w' : World) : Prop :=
  ∃ v cs, e = .returned v ∧ Own w' w.heap.size 51 2 v r.2.length cs ∧ ItC (w.heap.size ≤ ·) w' cs r.2 ∧ IsR w' p r.1 ∧ Kp [p] w w'

theorem got_not (p : Nat) (nx : Int) (f : Fr) (iv tv : Value) (w : World) (hr : IsR w p nx) (hi : Rws w iv f.its) (ht : Bs w tv f.t) (hn : f.its.length ≤ 100000000000000) (hnt : f.t.length ≤ 140737488352000) (hb : f.b ≤ 9223372036854775807) (hno : ¬ (f.k = 1 ∧ mayB f = true)) :
    Calls Tryd.prog 20 #[.pointer (some ⟨p, 0, none⟩), .agg (fcells f iv tv)] w (RetG (got nx f) p w) := by
  have hg : got nx f = (nx, []) := by unfold got; rw [if_neg hno]
  rw [hg]
  obtain ⟨ia, ic, rfl, hic⟩ := hi.form
  obtain ⟨ta, tc, rfl, -⟩ := Sl.form ht
  have him := may_calls f _ _ (w.alloc (.cells (fcells f (.slice ia f.its.length ic) (.slice ta f.t.length tc)) 25)) (hi.kp0 ((Kp.refl [] w).alloc _)) (ht.kp0 ((Kp.refl [] w).alloc _)) hn hnt hb
  have hk0 := (Kp.refl [] w).alloc (.cells (fcells f (.slice ia f.its.length ic) (.slice ta f.t.length tc)) 25)
  have hp : p < w.heap.size := lt_of_heap hr.1
  unfold fcells at him hk0 ⊢
  have HIM := Lib.hid him
  clear him hg
  by_cases hk : f.k = 1
  · have hm : mayB f = false := by
      cases h : mayB f with
      | false => rfl
      | true => exact absurd ⟨hk, h⟩ hno
    rw [hm] at HIM
    have hb1 : (f.k != 1) = false := by simp [hk]
    clear hk hm hno
    go_enter Tryd.func20, Tryd.ntmps20
    go_wp2_with (go_at_call 31; (with_reducible refine HIM.out.mono ?_); rintro e w1 ⟨rfl, hk1⟩)
    go_ret
    exact ⟨_, [], rfl, Own.nil _ _ _ _, ItC.nil _ _, hr.kp (hk0.trans hk1) (by simp), (hk0.trans hk1).nil⟩
  · have hb1 : (f.k != 1) = true := by simpa using hk
    clear hk hno
    go_enter Tryd.func20, Tryd.ntmps20
    go_wp2_with fail
    go_ret
    exact ⟨_, [], rfl, Own.nil _ _ _ _, ItC.nil _ _, hr.kp hk0 (by simp), hk0.nil⟩

set_option maxHeartbeats 1000000 in
theorem got_is (p : Nat) (nx NX : Int) (f : Fr) (iv tv : Value) (w : World) (P : Nat → Prop) (hP : ¬ P p) (hr : IsR w p nx) (hi : RwP P w iv f.its) (ht : Bs w tv f.t) (hk : f.k = 1) (hm : mayB f = true) (hNX : (if nx < f.a then f.a else nx) = NX) :
    Calls Tryd.prog 20 #[.pointer (some ⟨p, 0, none⟩), .agg (fcells f iv tv)] w (RetG (got nx f) p w) := by
  obtain ⟨ht0, hx, hn1, hn8, ha1, hab, hb9⟩ := may_1 hm hk
  have hg : got nx f = (NX, if NX < f.b then [] else gotItems NX f 0 f.its) := by unfold got nextOf; rw [if_pos ⟨hk, hm⟩, hNX]
  have HG := Lib.hid hg
  have hN0 : 0 ≤ NX ∧ NX ≤ 4294967296 ∧ 1 ≤ NX := by have := hr.2; omega
  obtain ⟨ia, ic, rfl, hic⟩ := hi.rws.form
  obtain ⟨ta, tc, rfl, -⟩ := Sl.form ht
  have him := may_calls f _ _ (w.alloc (.cells (fcells f (.slice ia f.its.length ic) (.slice ta f.t.length tc)) 25)) (hi.rws.kp0 ((Kp.refl [] w).alloc _)) (ht.kp0 ((Kp.refl [] w).alloc _)) (by omega) (by rw [ht0]; simp) (by omega)
  have hk0 := (Kp.refl [] w).alloc (.cells (fcells f (.slice ia f.its.length ic) (.slice ta f.t.length tc)) 25)
  have hh0 := heap_alloc_new w (.cells (fcells f (.slice ia f.its.length ic) (.slice ta f.t.length tc)) 25)
  have hsz0 := alloc_lt w (.cells (fcells f (.slice ia f.its.length ic) (.slice ta f.t.length tc)) 25)
  have hp : p < w.heap.size := lt_of_heap hr.1
  rw [hm] at him
  unfold fcells at him hk0 hh0 hsz0 ⊢
  have HIM := Lib.hid him
  have HT0 := Lib.hid ht0
  have HX := Lib.hid hx
  have HNX := Lib.hid hNX
  have hb1 : (f.k != 1) = false := by simp [hk]
  have hk9 : f.k ≤ 1 := by omega
  clear him hg ht0 hx hm hk hNX
  obtain ⟨hrh, hr0, hr9⟩ := hr
  go_enter Tryd.func20, Tryd.ntmps20
  go_wp2_with (go_at_call 31; (with_reducible refine HIM.out.mono ?_); rintro e w1 ⟨rfl, hk1⟩; generalize w.alloc (.cells #[.int .i64 f.k, .int .i64 f.a, .int .i64 f.b, .slice ia f.its.length ic, .slice ta f.t.length tc] 25) = w0 at *; have hkw1 := hk0.trans hk1; have hh1 := hk1.heap hh0 (by simp); have hr1 := hkw1.heap hrh (by simp); obtain ⟨c0, c1, c2, c3, c4⟩ := cells5 hh1; have cp := cell_heap hr1 0; have fp := free_heap hr1 0; simp only [List.getElem?_toArray, List.getElem?_cons_zero] at cp)
  have hlt1 := lt_of_heap hh1
  have hS : Gr w1 [p, w.heap.size] w1.drew := Gr.of (fun _ _ => rfl)
  refine wp_plan (.H 0 (.H 1 (.H 2 (.H 3 (.H 4 (.H 5 (.H 6 (.H 7 (.E 8 false (.E 9 false (.E 10 false .Z))))))))))) (Gr w1 [p, w.heap.size]) (by as_aux_lemma => kernel_rfl) (by as_aux_lemma => kernel_rfl) ?_
  repeat (first | (refine plan_H rfl hS (fun K hK => ?_); go_simp; refine hK _ ?_; clear hK K) | (refine plan_E rfl (fun K hK => ?_); go_simp; (first | refine hK _ _ (fun _ => hS) ?_ | refine hK _ _ nofun ?_); clear hK K))
  refine plan_Z ?_
  rw [HNX.out]
  have hh2 : (w1.setCell ⟨p, 0, none⟩ (.int .i64 NX)).heap[w.heap.size]? = _ := (hset _ _ _ _ (by simp; omega)).trans hh1
  have hr2 := heap_set (i := 0) (.int .i64 NX) hr1
  simp only [List.setIfInBounds_toArray, List.set_cons_succ, List.set_cons_zero] at hr2
  have hk2 : Kp [p] w (w1.setCell ⟨p, 0, none⟩ (.int .i64 NX)) := hkw1.nil.setCell (.inl (by simp)) _
  clear c0 c1 c2 c3 c4 cp fp hS
  generalize w1.setCell ⟨p, 0, none⟩ (.int .i64 NX) = w2 at *
  obtain ⟨c0, c1, c2, c3, c4⟩ := cells5 hh2
  have cp := cell_heap hr2 0
  simp only [List.getElem?_toArray, List.getElem?_cons_zero] at cp
  have hS : Gr w2 [p, w.heap.size] w2.drew.drew := Gr.of (fun _ _ => rfl)
  by_cases hlt : NX < f.b
  · have hd : decide (NX < f.b) = true := by simpa using hlt
    rw [if_pos hlt] at HG
    clear hlt
    go_wp2_with fail
    refine wp_plan (.H 0 (.H 1 (.H 2 (.H 3 (.H 4 (.H 5 (.E 6 false .Z))))))) (Gr w2 [p, w.heap.size]) (by as_aux_lemma => kernel_rfl) (by as_aux_lemma => kernel_rfl) ?_
    repeat (first | (refine plan_H rfl hS (fun K hK => ?_); go_simp; refine hK _ ?_; clear hK K) | (refine plan_E rfl (fun K hK => ?_); go_simp; (first | refine hK _ _ (fun _ => hS) ?_ | refine hK _ _ nofun ?_); clear hK K))
    refine plan_Z ?_
    go_wp2
    go_ret
    rw [HG.out]
    exact ⟨_, [], rfl, Own.nil _ _ _ _, ItC.nil _ _, ⟨hr2, by omega, by omega⟩, (hk2.drew).drew⟩
  · have hd : decide (NX < f.b) = false := by simpa using hlt
    rw [if_neg hlt] at HG
    have hge : f.b ≤ NX := by omega
    clear hlt
    go_wp2_with fail
    refine wp_plan (.H 0 (.H 1 (.H 2 (.H 3 (.H 4 (.H 5 (.E 6 false .Z))))))) (Gr w2 [p, w.heap.size]) (by as_aux_lemma => kernel_rfl) (by as_aux_lemma => kernel_rfl) ?_
    repeat (first | (refine plan_H rfl hS (fun K hK => ?_); go_simp; refine hK _ ?_; clear hK K) | (refine plan_E rfl (fun K hK => ?_); go_simp; (first | refine hK _ _ (fun _ => hS) ?_ | refine hK _ _ nofun ?_); clear hK K))
    refine plan_Z ?_
    go_wp2_with fail
    have hi2 : RwP P w2 (.slice ia f.its.length ic) f.its := hi.kp hk2 (fun g hg hm => hP (by simp at hm; rw [← hm]; exact hg))
    have hs2 := hk2.size
    have hlt2 := lt_of_heap hh2
    have hltp := lt_of_heap hr2
    clear c0 c1 c2 c3 c4 cp hS hi hd
    go_loopw [5, 37] (fun v5 v37 wr => ∃ (n : Nat) (cs : List Value), n ≤ f.its.length ∧ v37 = .int .i64 n ∧ Own wr w2.heap.size 51 2 v5 (gotItems NX f 0 (f.its.take n)).length cs ∧ ItO wr w2.heap.size cs (gotItems NX f 0 (f.its.take n)) ∧ Kp [] w2 wr) (fun _ v37 _ => f.its.length - (intOf v37).toNat)
    case atStart => exact ⟨0, [], by omega, rfl, Own.nil _ _ _ _, ItO.nil _ _, ((Kp.refl [] w2).drew).drew⟩
    case round =>
      obtain ⟨n, cs, hnl, rfl, hown, hitc, hkr⟩ := hrel
      have hhr := hkr.heap hh2 (by simp)
      have hrr := hkr.heap hr2 (by simp)
      obtain ⟨c0, c1, c2, c3, c4⟩ := cells5 hhr
      have cp := cell_heap hrr 0
      simp only [List.getElem?_toArray, List.getElem?_cons_zero] at cp
      by_cases hlt : n < f.its.length
      · obtain ⟨oa, oc, rfl⟩ := own_form hown
        obtain ⟨ib, io, ua, uc, rfl, hib, hcell, hbx⟩ := (hi2.kp hkr (by simp)).rws.at n hlt
        have hx := HX.out f.its[n] (List.getElem_mem hlt)
        have hsn := gotItems_snoc NX f f.its[n] (f.its.take n) 0
        rw [← List.take_succ_eq_append_getElem hlt, List.length_take, Nat.min_eq_left (by omega), Nat.zero_add] at hsn
        have hgl := gotItems_len NX f (f.its.take n) 0
        rw [List.length_take] at hgl
        generalize f.its[n] = x at *
        have i0 : (0 : Int) ≤ n ∧ (n : Int) < f.its.length := by omega
        have hn8' : (n : Int) ≤ 8 := by omega
        by_cases hc : NX ≤ f.b + n
        · rw [if_pos hc] at hsn
          have hd : decide (NX ≤ f.b + (n : Int)) = true := by simpa using hc
          have HSN := Lib.hid hsn
          have hgl8 : (gotItems NX f 0 (f.its.take n)).length ≤ 8 := by omega
          clear hsn hc hgl
          generalize gotItems NX f 0 (f.its.take n) = G at *
          obtain ⟨i0, hi, hz0, hz1, hz2⟩ := info_parts u8info
          go_wp2_with (with_reducible refine stop_app ?_)
          unfold Stop
          refine wpList_app _ rfl _ _ 23 23 rfl wr.heap.size 5 i0 _ 1 1 Tryd.underlying23 hi hz0 hz1 hz2 rfl (by omega) (.slice none 0 0) 0 [] rfl (Own.nil _ _ _ _) (.slice ua x.length uc) _ _ rfl (Src.of_sl Tryd.underlying23 hbx bcells_one) (by omega) (by omega) (Nat.le_refl _) ?_
          intro v3 w3 ho3 hg3 hx3
          rw [Nat.zero_add, List.nil_append] at ho3
          obtain ⟨xa, xc, rfl⟩ := own_form ho3
          have hk3 : Kp [] wr w3 := (Kp.refl [] wr).grown hg3 nofun
          obtain ⟨i0, hi, hz0, hz1, hz2⟩ := info_parts iteminfo
          go_wp2_with (with_reducible refine stop_app ?_)
          unfold Stop
          have hk4 : Kp [] wr (w3.alloc (.cells #[.int .i64 (f.b + n), .slice xa x.length xc] 51)) := hk3.alloc _
          have hown4 := own_kp hown hk4 (by simp)
          refine wpList_app _ rfl _ _ 46 46 rfl w2.heap.size 51 i0 _ 2 32 Tryd.underlying46 hi hz0 hz1 hz2 rfl (by omega) (.slice oa G.length oc) G.length cs rfl hown4 (.slice (some ⟨w3.heap.size, 0, none⟩) 1 1) 1 [.int .i64 (f.b + n), .slice xa x.length xc] rfl (Src.of_sl Tryd.underlying46 (sl_alloc w3 51 _ _ rfl 2 1 rfl) (by simp [Value.oneCell'])) (by omega) (by omega) (by have := hkr.size; have := hk4.size; omega) ?_
          intro v5 w5 ho5 hg5 hx5
          obtain ⟨a5, c5, rfl⟩ := own_form ho5
          have hk5 : Kp (Value.slice oa G.length oc).ownBlock.toList w3 w5 := ((Kp.refl _ w3).alloc _).grown hg5 (fun q hq => .inl (by simp [hq]))
          have hown3 := own_kp hown hk3 (by simp)
          have hob3 : OB w5 5 w2.heap.size (.slice xa x.length xc) x := own_base (own_kp ho3 hk5 (fun q hq hm => own_ne ho3 hown3 (by decide) q hq (by simpa using hm))) (fun q hq => by have := (Own.lt ho3 q hq).1; have := hkr.size; omega)
          have hit5 := ((hitc.kp hk3 (by simp)).row hown3 (by decide) hk5).snoc (x := ⟨f.b + n, x⟩) hob3
          have hkr5 : Kp [] w2 w5 := (hkr.trans hk3).trans' hk5 (fun q hq => .inr (hown.lt q (by simpa using hq)).1)
          have HO5 := Lib.hid ho5
          have HI5 := Lib.hid hit5
          have HK5 := Lib.hid hkr5
          clear ho5 hit5 hkr5 hob3 hown3 hk5 hown4 hk4 hk3 ho3
          go_wp2
          go_roundw
          case measure => simp [intOf]; omega
          case rel => exact ⟨n + 1, _, by omega, by go_num, by rw [HSN.out, List.length_append]; exact HO5.out, by rw [HSN.out]; exact HI5.out, HK5.out⟩
        · rw [if_neg hc, List.append_nil] at hsn
          have hd : decide (NX ≤ f.b + (n : Int)) = false := by simpa using hc
          have HSN := Lib.hid hsn
          clear hsn hc hgl
          generalize gotItems NX f 0 (f.its.take n) = G at *
          go_wp2_with fail
          go_roundw
          case measure => simp [intOf]; omega
          case rel => exact ⟨n + 1, cs, by omega, by go_num, by rw [HSN.out]; exact hown, by rw [HSN.out]; exact hitc, hkr⟩
      · have hd : decide ((n : Int) < (f.its.length : Int)) = false := by rw [decide_eq_false_iff_not]; omega
        rw [List.take_of_length_le (by omega)] at hown hitc
        obtain ⟨oa, oc, rfl⟩ := own_form hown
        have hown' := own_base (base' := w.heap.size) hown (fun q hq => by have := (hown.lt q hq).1; omega)
        go_wp2_with fail
        go_ret
        rw [HG.out]
        exact ⟨_, cs, rfl, hown', hitc.itc.mono (fun g (hg : w2.heap.size ≤ g) => (by omega : w.heap.size ≤ g)), ⟨hrr, by omega, by omega⟩, hk2.trans hkr.nil⟩
end Go.Proofs.YtddpefbpiehgeaaDoor

/- The link: are these a queue's items? -/
namespace Go.Proofs.YtddpefbpiehgeaaDoor
open Go Go.RowKit
set_option maxRecDepth 100000
set_option linter.unusedVariables false
set_option linter.unusedSectionVars false
set_option linter.unusedSimpArgs false

theorem got_calls (p : Nat) (nx : Int) (f : Fr) (iv tv : Value) (w : World) (P : Nat → Prop) (hP : ¬ P p) (hr : IsR w p nx) (hi : RwP P w iv f.its) (ht : Bs w tv f.t) (hn : f.its.length ≤ 100000000000000) (hnt : f.t.length ≤ 140737488352000) (hb : f.b ≤ 9223372036854775807) :
    Calls Tryd.prog 20 #[.pointer (some ⟨p, 0, none⟩), .agg (fcells f iv tv)] w (RetG (got nx f) p w) := by
  by_cases h : f.k = 1 ∧ mayB f = true
  · exact got_is p nx _ f iv tv w P hP hr hi ht h.1 h.2 rfl
  · exact got_not p nx f iv tv w hr hi.rws ht hn hnt hb h

/-- The cells of one item. -/
theorem item_at {P : Nat → Prop} {w : World} {a : Option Addr} {n cap : Nat} {cs : List Value} {xs : List It} (hs : Sl w 2 (.slice a n cap) n cs) (hi : ItC P w cs xs) (hn : n = xs.length) (i : Nat) (h : i < xs.length) :
    ∃ b off u c, a = some ⟨b, off, none⟩ ∧ b < w.heap.size ∧ w.cell? ⟨b, off + i * 2, none⟩ = some (.int .i64 xs[i].q) ∧ w.cell? ⟨b, off + i * 2 + 1, none⟩ = some (.slice u xs[i].b.length c) ∧ Bs w (.slice u xs[i].b.length c) xs[i].b ∧ BlkP P (.slice u xs[i].b.length c) := by
  obtain ⟨a', cap', he, hc, _, h6, h7⟩ := Sl.form hs
  cases he
  obtain ⟨b, off, rfl, hlt⟩ := h6 (by omega)
  obtain ⟨u, h1, h2, h3, h4⟩ := hi.2 i h
  obtain ⟨ua, uc, rfl, _⟩ := Sl.form h3
  exact ⟨b, off, ua, uc, rfl, hlt, (h7 b off rfl).2 _ _ h1, (h7 b off rfl).2 _ _ h2, h3, h4⟩

theorem headQ_get (xs : List It) (h : 0 < xs.length) : xs[0].q = headQ xs := by
  cases xs with
  | nil => simp at h
  | cons _ _ => rfl

set_option maxHeartbeats 1000000 in
theorem row_calls (P : Nat → Prop) (v : Value) (cs : List Value) (xs : List It) (w : World) (hs : Sl w 2 v xs.length cs) (hi : ItC P w cs xs) (hn : xs.length ≤ 100000000000000) (hl : ∀ x ∈ xs, x.b.length ≤ 140737488355328) :
    Calls Tryd.prog 48 #[v] w fun e w' => e = .returned (.bool (rowB xs)) ∧ Kp [] w w' := by
  obtain ⟨a, cap, rfl, hcap, _⟩ := Sl.form hs
  have HL := Lib.hid hl
  clear hl
  go_enter Tryd.func48, Tryd.ntmps48
  go_wp2
  go_loopw [7] (fun v7 wr => ∃ n : Nat, n ≤ xs.length ∧ v7 = .int .i64 n ∧ rowB xs = rowFrom (headQ xs) n (xs.drop n) ∧ (0 < n → 1 ≤ headQ xs ∧ headQ xs ≤ 4294967295) ∧ Kp [] w wr) (fun v7 _ => xs.length - (intOf v7).toNat)
  case atStart => exact ⟨0, by omega, rfl, rfl, fun h => absurd h (by omega), Kp.refl _ _⟩
  case round =>
    obtain ⟨n, hnl, rfl, hrow, hq0, hk⟩ := hrel
    by_cases hlt : n < xs.length
    · obtain ⟨b, off, ua, uc, rfl, hb, hc0, hc1, hbx, _⟩ := item_at (hs.kp0 hk) (hi.kp hk (by simp)) rfl n hlt
      obtain ⟨b', off', u0, uc0, he, _, hz0, _, _, _⟩ := item_at (hs.kp0 hk) (hi.kp hk (by simp)) rfl 0 (by omega)
      cases he
      have hdr : xs.drop n = xs[n] :: xs.drop (n + 1) := List.drop_eq_getElem_cons hlt
      have hx := HL.out xs[n] (List.getElem_mem hlt)
      have hh0 : xs[0].q = headQ xs := headQ_get xs (by omega)
      rw [hh0] at hz0
      rw [hdr, rowFrom] at hrow
      have hz : n = 0 → xs[n].q = headQ xs := fun h => by subst h; exact hh0
      generalize xs[n] = x at *
      generalize headQ xs = q0 at *
      obtain ⟨q, xb⟩ := x
      simp only at hc0 hc1 hbx hx hz
      rw [Nat.zero_mul, Nat.add_zero] at hz0
      have HROW := Lib.hid hrow
      clear hrow hdr hh0
      have i0 : (0 : Int) ≤ n ∧ (n : Int) < xs.length ∧ (0 : Int) < xs.length := by omega
      obtain ⟨i0a, i0b, i0c⟩ := i0
      have i0d : 0 < xs.length := by omega
      go_wp2_with fail
      have hkA := (Kp.refl [] wr).alloc (.cells #[.int .i64 q, .slice ua xb.length uc] 51)
      have hhA := heap_alloc_new wr (.cells #[.int .i64 q, .slice ua xb.length uc] 51)
      have hcA := hkA.cells0.1 b off hb
      rw [hz0] at hcA
      generalize wr.alloc (.cells #[.int .i64 q, .slice ua xb.length uc] 51) = wA at *
      have d0 := cell_heap hhA 0
      have d1 := cell_heap hhA 1
      simp only [List.getElem?_toArray, List.getElem?_cons_zero, List.getElem?_cons_succ] at d0 d1
      have hbA : b < wA.heap.size := Nat.lt_of_lt_of_le hb hkA.size
      clear hc0 hc1 hz0
      have hS : Gr wA [wr.heap.size, b] wA.drew := Gr.of (fun _ _ => rfl)
      have hcs : (decide (q < 1) = true ∧ okIt q0 n ⟨q, xb⟩ = false) ∨ (decide (q < 1) = false ∧ decide (4294967295 < q) = true ∧ okIt q0 n ⟨q, xb⟩ = false) ∨ (decide (q < 1) = false ∧ decide (4294967295 < q) = false ∧ ¬ q = q0 + n ∧ okIt q0 n ⟨q, xb⟩ = false) ∨
          (decide (q < 1) = false ∧ decide (4294967295 < q) = false ∧ q = q0 + n ∧ decide (256 < (xb.length : Int)) = true ∧ okIt q0 n ⟨q, xb⟩ = false) ∨ (decide (q < 1) = false ∧ decide (4294967295 < q) = false ∧ q = q0 + n ∧ decide (256 < (xb.length : Int)) = false ∧ okIt q0 n ⟨q, xb⟩ = true) := by
        simp [okIt]; omega
      have hq1 : ¬ decide (q < 1) = true → ¬ decide (4294967295 < q) = true → 1 ≤ q0 ∧ q0 ≤ 4294967295 := by
        simp only [decide_eq_true_eq]
        intro h1 h2
        by_cases h : 0 < n
        · exact hq0 h
        · have := hz (by omega); omega
      have HQ0 := Lib.hid hq0
      have HZ := Lib.hid hz
      clear hq0 hz
      have hwr : 1 ≤ q0 ∧ q0 ≤ 4294967295 → IntKind.i64.wrap (q0 + (n : Int)) = q0 + n := fun h => IntWalk.i64_in _ (by omega)
      rcases hcs with ⟨h1, ok⟩ | ⟨h1, h2, ok⟩ | ⟨h1, h2, h3, ok⟩ | ⟨h1, h2, rfl, h4, ok⟩ | ⟨h1, h2, rfl, h4, ok⟩
      · have HOK := Lib.hid ok
        clear ok hq1 hwr
        refine wp_plan (.H 0 (.H 1 (.H 2 (.H 3 (.H 4 (.H 5 (.H 6 (.H 7 (.H 8 (.H 9 (.H 10 (.H 11 (.H 12 (.H 13 (.H 14 (.H 15 (.H 16 (.H 17 (.H 18 (.H 19 (.H 20 (.H 21 (.H 22 (.E 23 false (.E 24 false .Z))))))))))))))))))))))))) (Gr wA [wr.heap.size, b]) (by as_aux_lemma => kernel_rfl) (by as_aux_lemma => kernel_rfl) ?_
        repeat (first | (refine plan_H rfl hS (fun K hK => ?_); go_simp; refine hK _ ?_; clear hK K) | (refine plan_E rfl (fun K hK => ?_); go_simp; (first | refine hK _ _ (fun _ => hS) ?_ | refine hK _ _ nofun ?_); clear hK K))
        refine plan_Z ?_
        go_wp2
        go_ret
        rw [HROW.out, HOK.out]
        exact ⟨rfl, (hk.trans hkA).drew⟩
      · have HOK := Lib.hid ok
        clear ok hq1 hwr
        refine wp_plan (.H 0 (.H 1 (.H 2 (.H 3 (.H 4 (.H 5 (.H 6 (.H 7 (.H 8 (.H 9 (.H 10 (.H 11 (.H 12 (.H 13 (.H 14 (.H 15 (.H 16 (.H 17 (.H 18 (.H 19 (.H 20 (.H 21 (.H 22 (.E 23 false (.E 24 false .Z))))))))))))))))))))))))) (Gr wA [wr.heap.size, b]) (by as_aux_lemma => kernel_rfl) (by as_aux_lemma => kernel_rfl) ?_
        repeat (first | (refine plan_H rfl hS (fun K hK => ?_); go_simp; refine hK _ ?_; clear hK K) | (refine plan_E rfl (fun K hK => ?_); go_simp; (first | refine hK _ _ (fun _ => hS) ?_ | refine hK _ _ nofun ?_); clear hK K))
        refine plan_Z ?_
        go_wp2
        go_ret
        rw [HROW.out, HOK.out]
        exact ⟨rfl, (hk.trans hkA).drew⟩
      · have HOK := Lib.hid ok
        clear ok
        obtain ⟨hq1, hq2⟩ := hq1 (by rw [h1]; simp) (by rw [h2]; simp)
        replace hwr := hwr ⟨hq1, hq2⟩
        refine wp_plan (.H 0 (.H 1 (.H 2 (.H 3 (.H 4 (.H 5 (.H 6 (.H 7 (.H 8 (.H 9 (.H 10 (.H 11 (.H 12 (.H 13 (.H 14 (.H 15 (.H 16 (.H 17 (.H 18 (.H 19 (.H 20 (.H 21 (.H 22 (.E 23 false (.E 24 false .Z))))))))))))))))))))))))) (Gr wA [wr.heap.size, b]) (by as_aux_lemma => kernel_rfl) (by as_aux_lemma => kernel_rfl) ?_
        repeat (first | (refine plan_H rfl hS (fun K hK => ?_); go_simp; refine hK _ ?_; clear hK K) | (refine plan_E rfl (fun K hK => ?_); go_simp; (first | refine hK _ _ (fun _ => hS) ?_ | refine hK _ _ nofun ?_); clear hK K))
        refine plan_Z ?_
        go_wp2
        go_ret
        rw [HROW.out, HOK.out]
        exact ⟨rfl, (hk.trans hkA).drew⟩
      · have HOK := Lib.hid ok
        clear ok
        obtain ⟨hq1, hq2⟩ := hq1 (by rw [h1]; simp) (by rw [h2]; simp)
        replace hwr := hwr ⟨hq1, hq2⟩
        refine wp_plan (.H 0 (.H 1 (.H 2 (.H 3 (.H 4 (.H 5 (.H 6 (.H 7 (.H 8 (.H 9 (.H 10 (.H 11 (.H 12 (.H 13 (.H 14 (.H 15 (.H 16 (.H 17 (.H 18 (.H 19 (.H 20 (.H 21 (.H 22 (.E 23 false (.E 24 false .Z))))))))))))))))))))))))) (Gr wA [wr.heap.size, b]) (by as_aux_lemma => kernel_rfl) (by as_aux_lemma => kernel_rfl) ?_
        repeat (first | (refine plan_H rfl hS (fun K hK => ?_); go_simp; refine hK _ ?_; clear hK K) | (refine plan_E rfl (fun K hK => ?_); go_simp; (first | refine hK _ _ (fun _ => hS) ?_ | refine hK _ _ nofun ?_); clear hK K))
        refine plan_Z ?_
        go_wp2
        go_ret
        rw [HROW.out, HOK.out]
        exact ⟨rfl, (hk.trans hkA).drew⟩
      · have HOK := Lib.hid ok
        clear ok
        obtain ⟨hq1, hq2⟩ := hq1 (by rw [h1]; simp) (by rw [h2]; simp)
        replace hwr := hwr ⟨hq1, hq2⟩
        refine wp_plan (.H 0 (.H 1 (.H 2 (.H 3 (.H 4 (.H 5 (.H 6 (.H 7 (.H 8 (.H 9 (.H 10 (.H 11 (.H 12 (.H 13 (.H 14 (.H 15 (.H 16 (.H 17 (.H 18 (.H 19 (.H 20 (.H 21 (.H 22 (.E 23 false (.E 24 false .Z))))))))))))))))))))))))) (Gr wA [wr.heap.size, b]) (by as_aux_lemma => kernel_rfl) (by as_aux_lemma => kernel_rfl) ?_
        repeat (first | (refine plan_H rfl hS (fun K hK => ?_); go_simp; refine hK _ ?_; clear hK K) | (refine plan_E rfl (fun K hK => ?_); go_simp; (first | refine hK _ _ (fun _ => hS) ?_ | refine hK _ _ nofun ?_); clear hK K))
        refine plan_Z ?_
        go_wp2
        go_roundw
        case measure => simp [intOf]; omega
        case rel => exact ⟨n + 1, by omega, by go_num, by rw [HROW.out, HOK.out]; rfl, fun _ => ⟨hq1, hq2⟩, (hk.trans hkA).drew⟩
    · have hd : decide ((n : Int) < (xs.length : Int)) = false := by rw [decide_eq_false_iff_not]; omega
      rw [List.drop_of_length_le (by omega)] at hrow
      have HROW := Lib.hid hrow
      clear hrow
      go_wp2
      go_ret
      rw [HROW.out]
      exact ⟨rfl, hk⟩
end Go.Proofs.YtddpefbpiehgeaaDoor

/- The link: a sender's memory. -/
namespace Go.Proofs.YtddpefbpiehgeaaDoor
open Go Go.RowKit
set_option maxRecDepth 100000
set_option linter.unusedVariables false
set_option linter.unusedSectionVars false
set_option linter.unusedSimpArgs false

theorem mlaw : Maps.Keyed Tryd.prog 3 := Maps.int_keyed Tryd.underlying3
theorem mzero (w : World) : (zeroValue 3).run Tryd.prog w = .ok (.int .i64 0) w := by kernel_rfl

/-- A key that is an int. -/
def isInt (k : Int) : Prop := -9223372036854775808 ≤ k ∧ k ≤ 9223372036854775807
theorem isInt.wf {k : Int} (h : isInt k) : (Lit.int .i64 k).wf = true := WalkArith.wf_i64 h
theorem isInt.of {k : Int} (h : (Lit.int .i64 k).wf = true) : isInt k := by
  simp [Lit.wf, IntKind.min, IntKind.max, IntKind.signed, IntKind.bits] at h
  exact ⟨by omega, by omega⟩
theorem isInt.key {k : Int} (h : isInt k) : _root_.Go.keyOf Tryd.prog 3 (.int .i64 k) = some (.int .i64 k) := Maps.keyOf_int_mk Tryd.underlying3 h.wf

/-- What a datum tells of numbers. -/
def Tells (D : DataW Unit) (f : Sent) : Prop := ∀ k, isInt k → Maps.has D (.int .i64 k) = (f k).isSome ∧ ∀ c, f k = some c → ∀ z, D.atKey (.int .i64 k) z = .lit (.int .i64 c)

/-- Block b is a map that tells f. -/
def MI (w : World) (b n : Nat) (f : Sent) : Prop := ∃ D : DataW Unit, w.ownsMap Tryd.prog 3 (plainElem Tryd.prog 3) b n D ∧ Tells D f

theorem MI.made (w : World) : MI (w.alloc (.map #[] 0)) w.heap.size 0 (fun _ => none) :=
  ⟨.map [], World.ownsMap_made _ _ _ _, fun k _ => ⟨rfl, fun c h => by cases h⟩⟩
theorem MI.lt {w : World} {b n : Nat} {f : Sent} (h : MI w b n f) : b < w.heap.size := by obtain ⟨D, h, _⟩ := h; exact h.lt
theorem MI.kp {S : List Nat} {w w' : World} {b n : Nat} {f : Sent} (h : MI w b n f) (hk : Kp S w w') (hS : b ∉ S) : MI w' b n f := by
  obtain ⟨D, ⟨es, clock, hb, r⟩, hd⟩ := h
  exact ⟨D, ⟨es, clock, hk.heap hb hS, r⟩, hd⟩
theorem MI.mono {w : World} {b n n' : Nat} {f : Sent} (h : MI w b n f) (hn : n ≤ n') : MI w b n' f := by
  obtain ⟨D, h1, h2⟩ := h; exact ⟨D, h1.mono hn, h2⟩
theorem MI.not_cells {w : World} {b n : Nat} {f : Sent} (h : MI w b n f) {c : Array Value} {T : TypeId} {fr : Nat × Nat} {g : Nat} (hg : w.heap[g]? = some (.cells c T fr)) : g ≠ b := by
  obtain ⟨D, ⟨es, clock, hb, _⟩, _⟩ := h
  intro e
  rw [e, hb] at hg
  cases hg

theorem MI.look {w : World} {b n : Nat} {f : Sent} (h : MI w b n f) {k : Int} (hk : isInt k) :
    ∃ c, (Instr.lookup 85 (.map (some b)) (.int .i64 k) true).run Tryd.prog w = .ok (.tuple #[.int .i64 c, .bool (f k).isSome]) w ∧ ∀ c', f k = some c' → c = c' := by
  obtain ⟨D, ho, ht⟩ := h
  obtain ⟨v, ps, hrun, hv⟩ := ho.look_ok mlaw Tryd.underlying85 (mzero w) (plainElem_int Tryd.underlying3 (by decide)) hk.key
  obtain ⟨c, rfl, hc, hw⟩ := plainElem_int_inv Tryd.underlying3 hv
  obtain ⟨h1, h2⟩ := ht k hk
  rw [h1] at hrun
  refine ⟨c, hrun, fun c' hc' => ?_⟩
  have := h2 c' hc' (.lit (.int .i64 0))
  have h3 := congrArg Prod.fst hc
  simp only at h3
  rw [this] at h3
  cases h3
  rfl

theorem Tells.put {D : DataW Unit} {f : Sent} (h : Tells D f) (hm : Maps.IsMap D) {k c : Int} : Tells (D.put (.int .i64 k) (.lit (.int .i64 c))) (f.put k c) := by
  intro z hz
  by_cases he : z = k
  · subst he
    refine ⟨by rw [Maps.has_put_same hm (k := .int .i64 z) trivial]; simp [Sent.put], fun c' hc' y => ?_⟩
    rw [Maps.atKey_put_same hm (k := .int .i64 z) trivial]
    simp only [Sent.put, if_pos] at hc'
    cases hc'
    rfl
  · have hne : Lit.int .i64 z ≠ Lit.int .i64 k := fun e => he (by cases e; rfl)
    obtain ⟨h1, h2⟩ := h z hz
    refine ⟨by rw [Maps.has_put_other hne, h1]; simp [Sent.put, he], fun c' hc' y => ?_⟩
    rw [Maps.atKey_put_other hne]
    simp only [Sent.put, if_neg he] at hc'
    exact h2 c' hc' y

theorem Tells.del {D : DataW Unit} {f : Sent} (h : Tells D f) (k : Int) : Tells (D.del (.int .i64 k)) (fun z => if z = k then none else f z) := by
  intro z hz
  by_cases he : z = k
  · subst he
    exact ⟨by rw [Maps.has_del_same]; simp, fun c' hc' y => by simp at hc'⟩
  · have hne : Lit.int .i64 z ≠ Lit.int .i64 k := fun e => he (by cases e; rfl)
    obtain ⟨h1, h2⟩ := h z hz
    refine ⟨by rw [Maps.has_del_other hne, h1]; simp [he], fun c' hc' y => ?_⟩
    rw [Maps.atKey_del_other hne]
    simp only [if_neg he] at hc'
    exact h2 c' hc' y

theorem Kp.turned {S : List Nat} {w w' : World} {b : Nat} (h : w.mapTurned w' b) (hb : b ∈ S) : Kp S w w' :=
  ((Kp.refl S w).grown h.grown (fun k hk => .inl (by cases hk; exact hb)))

/-- m[k] = c in a region that draws. -/
theorem step_put {ops : Array Oper} {o : Oper} {a : Act} {w : World} {K : Act → World → Prop} {Q : Exit → Act → World → Prop} {E : Prop} (hgd : o.guard = none) (m x v : Operand) (hop : o.op = Op.mapUpdate 85 m x v)
    (b n : Nat) (f : Sent) (hm : a.eval m = .map (some b)) (h : MI w b n f) (hn : n ≤ 100000000000000) (k c : Int) (hx : a.eval x = .int .i64 k) (hv : a.eval v = .int .i64 c) (hk : isInt k) (hc : isInt c)
    (hK : ∀ w', MI w' b (n + 1) (f.put k c) → Kp [b] w w' → w'.heap.size = w.heap.size → K (a.put o.dst undef) w') :
    if Region.wanted o (yielded ops a.tmps) = true then Oper.wp Tryd.prog o a w K Q else E := by
  have hw : Region.wanted o (yielded ops a.tmps) = true := by simp [Region.wanted, hgd]
  rw [if_pos hw]
  obtain ⟨D, ho, ht⟩ := h
  obtain ⟨w', hrun, r1, r2⟩ := ho.store mlaw Tryd.underlying85 (by unfold maxLen; omega) hk.key (plainElem_int Tryd.underlying3 hc.wf)
  unfold Oper.wp
  simp [execOp, hop, hm, hx, hv, hrun, Result.andThen]
  exact hK w' ⟨_, r1, ht.put ho.isMap⟩ (Kp.turned r2 (by simp)) (by obtain ⟨es, cl, es', cl', _, rfl⟩ := r2; simp [ChangeMaps.setBlock])
end Go.Proofs.YtddpefbpiehgeaaDoor

/- The link: a sender, what is due. -/
namespace Go.Proofs.YtddpefbpiehgeaaDoor
open Go Go.RowKit
set_option maxRecDepth 100000
set_option linter.unusedVariables false
set_option linter.unusedSectionVars false
set_option linter.unusedSimpArgs false

/-- A sender. -/
structure IsS (w : World) (p mb n win bat : Nat) (ev clk : Int) (f : Sent) : Prop where
  cells : w.heap[p]? = some (.cells #[.int .i64 win, .int .i64 bat, .int .i64 ev, .int .i64 clk, .map (some mb)] 87 (0, 0))
  map : MI w mb n f
  old : ∀ k c, f k = some c → 0 ≤ c ∧ c ≤ clk
  win1 : 1 ≤ win
  win9 : win ≤ 64
  bat1 : 1 ≤ bat
  bat9 : bat ≤ 8
  ev1 : 1 ≤ ev
  ev9 : ev ≤ 1000
  clk0 : 0 ≤ clk
theorem IsS.kp {S : List Nat} {w w' : World} {p mb n win bat : Nat} {ev clk : Int} {f : Sent} (h : IsS w p mb n win bat ev clk f) (hk : Kp S w w') (hp : p ∉ S) (hm : mb ∉ S) : IsS w' p mb n win bat ev clk f :=
  { h with cells := hk.heap h.cells hp, map := h.map.kp hk hm }
theorem IsS.lt {w : World} {p mb n win bat : Nat} {ev clk : Int} {f : Sent} (h : IsS w p mb n win bat ev clk f) : p < w.heap.size ∧ mb < w.heap.size ∧ p ≠ mb := ⟨lt_of_heap h.cells, h.map.lt, h.map.not_cells h.cells⟩

theorem newSender_calls (win bat : Nat) (ev : Int) (w : World) (h1 : 1 ≤ win) (h2 : win ≤ 64) (h3 : 1 ≤ bat) (h4 : bat ≤ 8) (h5 : 1 ≤ ev) (h6 : ev ≤ 1000) :
    Calls Tryd.prog 27 #[.int .i64 win, .int .i64 bat, .int .i64 ev] w fun e w' => ∃ p mb, e = .returned (.tuple #[.pointer (some ⟨p, 0, none⟩), .int .i64 0]) ∧ IsS w' p mb 0 win bat ev 0 (fun _ => none) ∧ w.heap.size ≤ p ∧ w.heap.size ≤ mb ∧ Kp [] w w' := by
  have hmm := @run_makeMap Tryd.prog
  have hi : (1 : Int) ≤ win ∧ (win : Int) ≤ 64 ∧ (1 : Int) ≤ bat ∧ (bat : Int) ≤ 8 := by omega
  obtain ⟨i1, i2, i3, i4⟩ := hi
  go_enter Tryd.func27, Tryd.ntmps27
  go_wp2
  go_ret2
  have hk : Kp [] w (w.alloc (.map #[] 0)) := (Kp.refl [] w).alloc _
  refine ⟨w.heap.size + 1, w.heap.size, rfl, ⟨?_, (MI.made w).kp ((Kp.refl [] _).alloc _) (by simp), fun k c h => (by cases h), h1, h2, h3, h4, h5, h6, by omega⟩, by omega, Nat.le_refl _, hk.alloc _⟩
  have := heap_alloc_new (w.alloc (.map #[] 0)) (.cells #[.int .i64 win, .int .i64 bat, .int .i64 ev, .int .i64 0, .map (some w.heap.size)] 87)
  simpa using this

theorem due_calls (p mb n win bat : Nat) (ev clk q : Int) (f : Sent) (u : Value) (ua : Option Addr) (ul uc : Nat) (hu : u = .slice ua ul uc) (w : World) (hs : IsS w p mb n win bat ev clk f) (hclk : clk ≤ 1000000000000000) (hq : isInt q) :
    Calls Tryd.prog 49 #[.pointer (some ⟨p, 0, none⟩), .agg #[.int .i64 q, u]] w fun e w' => e = .returned (.bool (dueB f clk ev q)) ∧ Kp [] w w' := by
  subst hu
  have hk0 := (Kp.refl [] w).alloc (.cells #[.int .i64 q, .slice ua ul uc] 51)
  have hh0 := heap_alloc_new w (.cells #[.int .i64 q, .slice ua ul uc] 51)
  have hs0 := hs.kp hk0 (by simp) (by simp)
  obtain ⟨c, hrun, hc⟩ := (hs0.map.kp ((Kp.refl [] _).drew) (by simp)).look hq
  have hold := hs.old q
  have hev := hs.ev1
  have hev9 := hs.ev9
  have hclk0 := hs.clk0
  have hpc := hs0.cells
  have hpl := hs.lt
  go_enter Tryd.func49, Tryd.ntmps49
  go_wp2_with fail
  generalize w.alloc (.cells #[.int .i64 q, .slice ua ul uc] 51) = w0 at *
  obtain ⟨c0, c1, c2, c3, c4⟩ := cells5 hpc
  have d0 := cell_heap hh0 0
  simp only [List.getElem?_toArray, List.getElem?_cons_zero] at d0
  have hS : Gr w0 [w.heap.size, p] w0.drew := Gr.of (fun _ _ => rfl)
  have hS2 : Gr w0 [w.heap.size, p] w0.drew.drew := Gr.of (fun _ _ => rfl)
  have hb : dueB f clk ev q = (!(f q).isSome || decide (ev ≤ clk - c)) := by
    unfold dueB
    cases hf : f q with
    | none => rfl
    | some c' => rw [hc c' hf]; rfl
  have hcb : (f q).isSome = true → 0 ≤ c ∧ c ≤ clk := fun h => by
    cases hf : f q with
    | none => rw [hf] at h; cases h
    | some c' => rw [hc c' hf]; exact hold c' hf
  have HB := Lib.hid hb
  clear hb hc hold hs hs0
  cases hso : (f q).isSome with
  | false =>
    rw [hso] at hrun HB
    clear hso hcb
    refine wp_plan (.H 0 (.H 1 (.H 2 (.H 3 (.H 4 (.H 5 (.E 6 true (.E 7 true (.H 8 (.H 9 (.E 10 true (.E 11 false .Z)))))))))))) (Gr w0 [w.heap.size, p]) (by as_aux_lemma => kernel_rfl) (by as_aux_lemma => kernel_rfl) ?_
    repeat (first | (refine plan_H rfl hS (fun K hK => ?_); go_simp; refine hK _ ?_; clear hK K) | (refine plan_E rfl (fun K hK => ?_); go_simp; (first | refine hK _ _ (fun _ => hS) ?_ | refine hK _ _ nofun ?_); clear hK K))
    refine plan_Z ?_
    go_wp2_with fail
    refine wp_plan (.H 0 (.H 1 (.H 2 (.H 3 (.H 4 (.H 5 (.H 6 (.H 7 (.H 8 (.H 9 (.H 10 (.H 11 (.H 12 (.E 13 false (.E 14 false (.E 15 false .Z)))))))))))))))) (Gr w0 [w.heap.size, p]) (by as_aux_lemma => kernel_rfl) (by as_aux_lemma => kernel_rfl) ?_
    repeat (first | (refine plan_H rfl hS2 (fun K hK => ?_); go_simp; refine hK _ ?_; clear hK K) | (refine plan_E rfl (fun K hK => ?_); go_simp; (first | refine hK _ _ (fun _ => hS2) ?_ | refine hK _ _ nofun ?_); clear hK K))
    refine plan_Z ?_
    go_wp2_with fail
    go_ret
    rw [HB.out]
    exact ⟨rfl, (hk0.drew).drew⟩
  | true =>
    rw [hso] at hrun HB
    obtain ⟨hc1, hc2⟩ := hcb hso
    clear hso hcb
    refine wp_plan (.H 0 (.H 1 (.H 2 (.H 3 (.H 4 (.H 5 (.E 6 true (.E 7 true (.H 8 (.H 9 (.E 10 true (.E 11 false .Z)))))))))))) (Gr w0 [w.heap.size, p]) (by as_aux_lemma => kernel_rfl) (by as_aux_lemma => kernel_rfl) ?_
    repeat (first | (refine plan_H rfl hS (fun K hK => ?_); go_simp; refine hK _ ?_; clear hK K) | (refine plan_E rfl (fun K hK => ?_); go_simp; (first | refine hK _ _ (fun _ => hS) ?_ | refine hK _ _ nofun ?_); clear hK K))
    refine plan_Z ?_
    go_wp2_with fail
    refine wp_plan (.H 0 (.H 1 (.H 2 (.H 3 (.H 4 (.H 5 (.H 6 (.H 7 (.H 8 (.H 9 (.H 10 (.H 11 (.H 12 (.E 13 false (.E 14 false (.E 15 false .Z)))))))))))))))) (Gr w0 [w.heap.size, p]) (by as_aux_lemma => kernel_rfl) (by as_aux_lemma => kernel_rfl) ?_
    repeat (first | (refine plan_H rfl hS2 (fun K hK => ?_); go_simp; refine hK _ ?_; clear hK K) | (refine plan_E rfl (fun K hK => ?_); go_simp; (first | refine hK _ _ (fun _ => hS2) ?_ | refine hK _ _ nofun ?_); clear hK K))
    refine plan_Z ?_
    go_wp2_with fail
    go_ret
    rw [HB.out]
    refine ⟨?_, (hk0.drew).drew⟩
    show Ending.returned (.bool _) = .returned (.bool _)
    rw [IntWalk.i64_in _ (by omega)]
    rfl
end Go.Proofs.YtddpefbpiehgeaaDoor

