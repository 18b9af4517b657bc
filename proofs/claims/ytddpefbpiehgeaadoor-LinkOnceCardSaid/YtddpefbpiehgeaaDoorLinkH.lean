/- The link: Parse, a frame with items. -/
import Derived.Test.YtddpefbpiehgeaaDoorLinkG
namespace Go.Proofs.YtddpefbpiehgeaaDoor
open Go Go.RowKit
set_option maxRecDepth 100000
set_option linter.unusedVariables false
set_option linter.unusedSectionVars false
set_option linter.unusedSimpArgs false

theorem rdText_len (d : List UInt8) (m : Nat) (s : RS) : (rdText d m s).1.length ≤ m := by
  unfold rdText
  repeat (split; · simp)
  simp; omega
theorem rowinfo : (Tryd.prog.info? 23).map (fun i => (i.zero, i.size, i.bytes)) = some (some (.slice none 0 0), 1, 24) := by kernel_rfl

theorem step_s2b {P : Program} {ops : Array Oper} {o : Oper} {a : Act} {w : World} {K : Act → World → Prop} {Q : Exit → Act → World → Prop} {E : Prop} (hgd : o.guard = none) (x : Operand) (src dst e : TypeId) (ho : o.op = .convert src dst x) (s : ByteArray) (hx : a.eval x = .string s)
    {u : TypeDesc} (hs : P.underlying src = some u) (hd : P.underlying dst = some (.slice e)) (he : P.underlying e = some (.int .u8)) (hlen : s.size ≤ 140737488355328)
    (h : ∀ v w', OB w' e w.heap.size v s.data.toList → Kp [] w w' → K (a.put o.dst v) w') :
    if Region.wanted o (yielded ops a.tmps) = true then Oper.wp P o a w K Q else E := by
  have hw : Region.wanted o (yielded ops a.tmps) = true := by simp [Region.wanted, hgd]
  rw [if_pos hw]
  exact wp_s2b x src dst e ho s hx hs hd he hlen h

theorem sl_alloc (w : World) (T : TypeId) (cs : Array Value) (l : List Value) (hl : cs.toList = l) (sz n : Nat) (h : l.length = n * sz) : Sl (w.alloc (.cells cs T)) sz (.slice (some ⟨w.heap.size, 0, none⟩) n n) n l :=
  ⟨h, .inr (.inr ⟨w.heap.size, 0, n, rfl, Nat.le_refl _, by simp only [World.size_alloc]; omega, fun j u hu => by rw [cell_heap (heap_alloc_new w _), Nat.zero_add, ← Array.getElem?_toList, hl]; exact hu⟩)⟩

/-- Rows of different types lie in different blocks. -/
theorem own_ne {w : World} {B B' e e' sz sz' n n' : Nat} {v v' : Value} {xs xs' : List Value} (h : Own w B e sz v n xs) (h' : Own w B' e' sz' v' n' xs') (he : e ≠ e') : Apart v v' := by
  intro g hg hg'
  rcases h.2 with ⟨h, _⟩ | ⟨g1, _, _, _, hv, _, hh, _⟩
  · rw [h] at hg; cases hg
  rcases h'.2 with ⟨h', _⟩ | ⟨g2, _, _, _, hv', _, hh', _⟩
  · rw [h'] at hg'; cases hg'
  rw [hv] at hg; cases hg
  rw [hv'] at hg'; cases hg'
  rw [hh] at hh'
  cases hh'
  exact he rfl

theorem Apart.symm {a b : Value} (h : Apart a b) : Apart b a := fun g h1 h2 => h g h2 h1

theorem Its.snoc {w : World} {B : Nat} {us : List Value} {its : List (List UInt8)} {v : Value} {x : List UInt8} (h : Its w B us its) (ho : OB w 5 B v x) (ha : ∀ u ∈ us, Apart u v) : Its w B (us ++ [v]) (its ++ [x]) := by
  obtain ⟨hl, h1, h2⟩ := h
  refine ⟨by simp [hl], fun i hi => ?_, fun i j a b hij hi hj => ?_⟩
  · by_cases hlt : i < its.length
    · obtain ⟨u, hu, hb⟩ := h1 i hlt
      exact ⟨u, by rw [List.getElem?_append_left (by omega)]; exact hu, by rw [List.getElem_append_left hlt]; exact hb⟩
    · have : i = its.length := by simp at hi; omega
      subst this
      exact ⟨v, by rw [List.getElem?_append_right (by omega)]; simp [hl], by simpa using ho⟩
  · have key : ∀ i u, (us ++ [v])[i]? = some u → (i < us.length ∧ us[i]? = some u) ∨ (i = us.length ∧ u = v) := by
      intro i u hu
      by_cases hlt : i < us.length
      · rw [List.getElem?_append_left hlt] at hu; exact .inl ⟨hlt, hu⟩
      · rw [List.getElem?_append_right (by omega)] at hu
        have : i - us.length = 0 := by
          rcases Nat.eq_zero_or_pos (i - us.length) with h0 | h0
          · exact h0
          · rw [List.getElem?_eq_none (by simp; omega)] at hu; cases hu
        rw [this] at hu
        exact .inr ⟨by omega, by simpa using hu.symm⟩
    rcases key i a hi with ⟨a1, a2⟩ | ⟨a1, rfl⟩ <;> rcases key j b hj with ⟨b1, b2⟩ | ⟨b1, rfl⟩
    · exact h2 i j a b hij a2 b2
    · exact ha a (List.mem_of_getElem? a2)
    · exact (ha b (List.mem_of_getElem? b2)).symm
    · omega

set_option maxHeartbeats 1000000 in
theorem parse_items (s : ByteArray) (v : Value) (l d : List UInt8) (k fa b N : Nat) (its : List (List UInt8)) (s1 sa s2 s4 s5 s3 : RS) (w : World) (hG : GH w) (hs : s.size ≤ 200) (hv : Bs w v l) (hl : 16 ≤ l.length) (hl1 : l.length ≤ 140737488352000) (ho : opened s l = some d)
    (h1 : rdNum d 1 ⟨0, 0, 0, 0⟩ = (k, s1)) (ha : rdNum d 8 s1 = (fa, sa)) (h2 : rdNum d 8 sa = (b, s2)) (h4 : rdCount d 8 s2 = (N, s4)) (h5 : rdIts d N [] s4 = (its, s5)) (h3 : rdEnd d s5 = s3) (hk1 : k = 1) (hfa : fa ≤ 9223372036854775807) (hb : b ≤ 9223372036854775807) (hN : N ≤ 8) :
    Calls Tryd.prog 15 #[.string s, v] w (RetP d w) := by
  have hdl := opened_len ho
  have hP : parsed d = if s3.code = 0 && mayB ⟨k, fa, b, its, []⟩ then some ⟨k, fa, b, its, []⟩ else none := by
    unfold parsed rdFrame
    simp only [h1, ha, h2, h4, h5, h3, if_pos (show k = 1 from hk1)]
  have HP := Lib.hid hP
  have hk0 := (Kp.refl [] w).alloc (.cells #[.int .i64 0, .int .i64 0, .int .i64 0, .slice none 0 0, .slice none 0 0] 25)
  have hh0 := heap_alloc_new w (.cells #[.int .i64 0, .int .i64 0, .int .i64 0, .slice none 0 0, .slice none 0 0] 25)
  have hsz0 := alloc_lt w (.cells #[.int .i64 0, .int .i64 0, .int .i64 0, .slice none 0 0, .slice none 0 0] 25)
  have hop := open_calls s v l _ (hG.kp0 hk0) hs (hv.kp0 hk0) hl hl1
  unfold RetO at hop
  rw [ho] at hop
  simp only at hop
  have HOP := Lib.hid hop
  have H1 := Lib.hid h1
  have H2 := Lib.hid h2
  have H3 := Lib.hid h3
  have b1 : ((k : Int) == 1) = true := by simp; omega
  have HA := Lib.hid ha
  have H4 := Lib.hid h4
  have H5 := Lib.hid h5
  have hkn : 0 ≤ (k : Int) ∧ (k : Int) ≤ 1 := by omega
  clear hop hP h1 h2 h3 ha h4 h5 hk1
  go_enter Tryd.func15, Tryd.ntmps15
  go_wp2_with fail
  generalize w.alloc (.cells #[.int .i64 0, .int .i64 0, .int .i64 0, .slice none 0 0, .slice none 0 0] 25) = w0 at *
  go_wp2_with (first
    | (go_at_call 37; (with_reducible refine HOP.out.mono ?_); rintro e w1 ⟨v1, rfl, ho1, hkw1⟩; obtain ⟨a1, c1, rfl⟩ := own_form ho1)
    | (go_at_call 38; (with_reducible refine (rd_new _ d w0 _ hkw1 (OB.bs ho1) (by omega)).mono ?_); rintro e w2 ⟨p, rfl, hr2, hkw2⟩)
    | (go_at_call 39; (with_reducible refine (rd_numE w0 _ p d _ s1 1 k 1 rfl H1.out _ hr2 (by omega) (by omega) (by omega)).mono ?_); rintro e w3 ⟨rfl, hr3, hkw3⟩; have hr3' := hr3.kp ((Kp.refl [] w3).alloc (.cells #[.int .i64 k, .int .i64 0, .int .i64 0, .slice none 0 0, .slice none 0 0] 25)) nofun nofun; have h9 := heap_alloc_new w3 (.cells #[.int .i64 k, .int .i64 0, .int .i64 0, .slice none 0 0, .slice none 0 0] 25))
    | (go_at_call 39; (with_reducible refine (rd_numE w0 _ p d _ sa 8 fa 8 rfl HA.out _ hr3' (by omega) (by omega) (by omega)).mono ?_); rintro e w4 ⟨rfl, hr4, hkw4⟩; have hne9 : w3.heap.size ∉ [p] := (by have := hr3.2.2.2.2; simp; omega); have h94 := hkw4.heap h9 hne9)
    | (go_at_call 39; (with_reducible refine (rd_numE w0 _ p d _ s2 8 b 8 rfl H2.out _ hr4 (by omega) (by omega) (by omega)).mono ?_); rintro e w5 ⟨rfl, hr5, hkw5⟩; have h95 := hkw5.heap h94 hne9; have f91 := free_heap h95 1; have f92 := free_heap h95 2; obtain ⟨c90, c91, c92, c93, c94⟩ := cells5 h95))
  have hB3 := hr3.1.1
  have hw3 := hr3.2.1.size
  have h96 := heap_set (i := 2) (.int .i64 b) (heap_set (i := 1) (.int .i64 fa) h95)
  have hr6 := hr5.kp (((Kp.refl [w3.heap.size] w5).setCell (p := ⟨w3.heap.size, 1, none⟩) (.inl (by simp)) (.int .i64 fa)).setCell (p := ⟨w3.heap.size, 2, none⟩) (.inl (by simp)) (.int .i64 b)) (by simpa using hB3) (by simpa using hw3)
  simp only [List.setIfInBounds_toArray, List.set_cons_succ, List.set_cons_zero] at h96
  go_wp2_with fail
  refine (rd_countE w0 _ p d s2 s4 8 N 8 rfl H4.out _ hr6 (by omega)).mono ?_
  rintro e w7 ⟨rfl, hr7, hkw7⟩
  have h97 := hkw7.heap h96 hne9
  clear c90 c91 c92 c93 c94 f91 f92
  have hp3 : p < w3.heap.size := hr3.2.2.2.2
  generalize w3.heap.size = fb at *
  generalize w2.heap.size = B at *
  go_wp2_with fail
  clear hr3' h9 h94 h95 h96 hkw4 hkw5 hkw7 hr3 hkw3 hr2 hkw2 hr4 hr5 hr6
  go_loopw [45] (fun v45 wr => ∃ (n : Nat) (l : List (List UInt8)) (s : RS) (iv : Value) (us : List Value), n ≤ N ∧ v45 = .int .i64 n ∧ rdIts d n [] s4 = (l, s) ∧ l.length = n ∧ wr.heap[fb]? = some (.cells #[.int .i64 k, .int .i64 fa, .int .i64 b, iv, .slice none 0 0] 25 (0, 0)) ∧ Own wr (fb + 1) 23 1 iv n us ∧ Its wr (fb + 1) us l ∧ RD w0 B p d s wr) (fun v45 _ => N - (intOf v45).toNat)
  case atStart => exact ⟨0, [], s4, .slice none 0 0, [], by omega, rfl, rfl, rfl, h97, Own.nil _ _ _ _, ⟨rfl, fun i h => by simp at h, fun i j u v _ h => by simp at h⟩, hr7⟩
  case round =>
    clear h97 hr7
    obtain ⟨n, lr, sr, iv, us, hnN, rfl, hit, hln, hfr, hown, hits, hrd⟩ := hrel
    obtain ⟨ia, ic, rfl⟩ := own_form hown
    obtain ⟨c0, c1', c2, c3, c4⟩ := cells5 hfr
    by_cases hlt : n < N
    · obtain ⟨x, s', hx⟩ : ∃ x s', rdText d 256 sr = (x, s') := ⟨_, _, rfl⟩
      have hsuc := rdIts_succ d n [] s4
      rw [hit] at hsuc
      simp only [hx] at hsuc
      have hxl : x.length ≤ 256 := by have := rdText_len d 256 sr; rw [hx] at this; exact this
      have HX := Lib.hid hx
      have HSUC := Lib.hid hsuc
      have HIT := Lib.hid hit
      have HLN := Lib.hid hln
      clear hx hsuc hit hln
      have hrfb := lt_of_heap hfr
      go_wp2_with fail
      have hS : Gr wr [fb] wr.drew := Gr.of (fun _ _ => rfl)
      refine wp_plan (.H 0 (.H 1 (.E 2 true (.E 3 true (.E 4 true (.E 5 true (.E 6 false (.E 7 false (.E 8 false .Z))))))))) (Gr wr [fb]) (by as_aux_lemma => kernel_rfl) (by as_aux_lemma => kernel_rfl) ?_
      repeat (first | (refine plan_H rfl hS (fun K hK => ?_); go_simp; refine hK _ ?_; clear hK K) | (refine plan_E rfl (fun K hK => ?_); go_simp; (first | refine hK _ _ (fun _ => hS) ?_ | refine hK _ _ nofun ?_); clear hK K))
      refine plan_E rfl (fun K hK => ?_); go_simp
      refine (rd_textE w0 B p d sr s' 256 x 256 rfl HX.out _ (hrd.kp ((Kp.refl [] wr).drew) (by simp) (by simp)) (by omega)).mono ?_
      rintro e w5 ⟨rfl, hr5, hkw5⟩
      have hk5 : Kp [p] wr w5 := ((Kp.refl [p] wr).drew).trans hkw5
      have hS5 : Gr wr [fb] w5 := Gr.of (fun q hq => by rw [List.mem_singleton] at hq; subst hq; exact hk5.block _ hrfb hne9)
      refine hK _ _ (fun _ => hS5) ?_
      clear hK K
      refine plan_E rfl (fun K hK => ?_)
      refine step_s2b rfl _ _ _ 5 rfl _ rfl Tryd.underlying9 Tryd.underlying23 Tryd.underlying5 (by show x.toArray.size ≤ _; simp; omega) ?_
      intro xv w6 hxo hkw6
      have hk6 : Kp [p] wr w6 := hk5.trans hkw6.nil
      have hS6 : Gr wr [fb] w6 := Gr.of (fun q hq => by rw [List.mem_singleton] at hq; subst hq; exact hk6.block _ hrfb hne9)
      obtain ⟨xa, xc, rfl⟩ := own_form hxo
      refine hK _ _ (fun _ => hS6) ?_
      clear hK K
      refine plan_E rfl (fun K hK => ?_); go_simp
      have hk7 : Kp [p] wr (w6.alloc (.cells #[.slice xa x.length xc] 23)) := hk6.alloc _
      have hS7 : Gr wr [fb] (w6.alloc (.cells #[.slice xa x.length xc] 23)) := Gr.of (fun q hq => by rw [List.mem_singleton] at hq; subst hq; exact hk7.block _ hrfb hne9)
      refine hK _ _ (fun _ => hS7) ?_
      clear hK K
      obtain ⟨i0, hi, hz0, hz1, hz2⟩ := info_parts rowinfo
      have hown7 := own_kp hown hk7 (fun q hq hm => by have := (hown.lt q hq).1; simp at hm; omega)
      have hsz7 := hk7.size
      refine plan_E rfl (fun K hK => ?_)
      refine step_app _ rfl _ _ 22 22 rfl (fb + 1) 23 i0 _ 1 24 Tryd.underlying22 hi hz0 hz1 hz2 rfl (by omega) (.slice ia n ic) n us rfl hown7 (.slice (some ⟨w6.heap.size, 0, none⟩) 1 1) 1 [.slice xa x.length xc] rfl (Src.of_sl Tryd.underlying22 (sl_alloc w6 23 _ _ rfl 1 1 rfl) (by simp [Value.oneCell'])) (by omega) (by omega) (by omega) ?_
      intro v8 w8 ho8 hg8 hx8
      obtain ⟨a8, c8, rfl⟩ := own_form ho8
      have hk68 : Kp (Value.slice ia n ic).ownBlock.toList w6 w8 := ((Kp.refl _ w6).alloc _).grown hg8 (fun q hq => .inl (by simp [hq]))
      have hfr6 : w6.heap[fb]? = _ := hk6.heap hfr hne9
      have hfr8 : w8.heap[fb]? = _ := hk68.heap hfr6 (fun hm => by have := (hown.lt fb (by simpa using hm)).1; omega)
      have f3 := free_heap hfr8 3
      obtain ⟨_, _, _, e3, _⟩ := cells5 hfr8
      have hfr9 := heap_set (i := 3) (.slice a8 (n + 1) c8) hfr8
      simp only [List.setIfInBounds_toArray, List.set_cons_succ, List.set_cons_zero] at hfr9
      have hk89 : Kp [fb] w8 (w8.setCell ⟨fb, 3, none⟩ (.slice a8 (n + 1) c8)) := (Kp.refl [fb] w8).setCell (.inl (by simp)) _
      have hits6 : Its w6 (fb + 1) us lr := hits.kp hk6 (fun u hu q hq hm => by have := (hits.lt u hu q hq).1; simp at hm; omega)
      have hown6 : Own w6 (fb + 1) 23 1 (.slice ia n ic) n us := own_kp hown hk6 (fun q hq hm => by have := (hown.lt q hq).1; simp at hm; omega)
      have hits8 : Its w8 (fb + 1) us lr := hits6.kp hk68 (fun u hu q hq hm => by
        obtain ⟨i, hi⟩ := List.mem_iff_getElem?.1 hu
        obtain ⟨u', h1, h2⟩ := hits6.2.1 i (by rw [← hits6.1]; exact (List.getElem?_eq_some_iff.1 hi).1)
        rw [hi] at h1; cases h1
        exact own_ne h2 hown6 (by decide) q hq (by simpa using hm))
      have hxo6 : OB w6 5 (fb + 1) (.slice xa x.length xc) x := own_base hxo (fun q hq => by have := (Own.lt hxo q hq).1; have := hk5.size; omega)
      have hxo8 : OB w8 5 (fb + 1) (.slice xa x.length xc) x := own_kp hxo6 hk68 (fun q hq hm => own_ne hxo6 hown6 (by decide) q hq (by simpa using hm))
      have hap : ∀ u ∈ us, Apart u (.slice xa x.length xc) := fun u hu g h1 h2 => by
        have := (hits.lt u hu g h1).2
        have := (Own.lt hxo g h2).1
        have := hk5.size
        omega
      have hits9 := (hits8.snoc hxo8 hap).kp hk89 (fun u hu q hq hm => by have := ((hits8.snoc hxo8 hap).lt u hu q hq).1; simp at hm; omega)
      have hown9 := own_kp ho8 hk89 (fun q hq hm => by have := (ho8.lt q hq).1; simp at hm; omega)
      have hk69 : Kp (fb :: (Value.slice ia n ic).ownBlock.toList) w5 (w8.setCell ⟨fb, 3, none⟩ (.slice a8 (n + 1) c8)) := hkw6.nil.trans ((hk68.mono (by simp +contextual)).trans (hk89.mono (by simp)))
      have hge : ∀ q ∈ fb :: (Value.slice ia n ic).ownBlock.toList, fb ≤ q := fun q hq => by
        rcases List.mem_cons.1 hq with rfl | hq
        · omega
        · have := (hown.lt q (by simpa using hq)).1; omega
      have hr9 := hr5.kp hk69 (fun q hq => by have := hge q hq; omega) (fun q hq => by have := hge q hq; omega)
      have HOWN9 := Lib.hid hown9
      have HITS9 := Lib.hid hits9
      clear hown9 hits9 hits8 hits6 hown6 hown7 hown hits
      refine hK _ _ nofun ?_
      clear hK K
      refine plan_E rfl (fun K hK => ?_); go_simp
      refine hK _ _ nofun ?_
      clear hK K
      refine plan_E rfl (fun K hK => ?_); go_simp
      refine hK _ _ nofun ?_
      clear hK K
      refine plan_Z ?_
      have hn8 : (n : Int) ≤ 8 := by omega
      go_wp2
      go_roundw
      case measure => simp [intOf]; omega
      case rel => exact ⟨n + 1, lr ++ [x], s', _, _, by omega, by go_num, HSUC.out, by simp [HLN.out], hfr9, HOWN9.out, HITS9.out, hr9⟩
    · obtain rfl : N = n := by omega
      have hit2 := hit.symm.trans H5.out
      simp only [Prod.mk.injEq] at hit2
      obtain ⟨rfl, rfl⟩ := hit2
      have hd : decide ((N : Int) < (N : Int)) = false := by rw [decide_eq_false_iff_not]; omega
      have HIT := Lib.hid hit
      have HLN := Lib.hid hln
      clear hit hln
      go_wp2_with fail
      refine (rd_end w0 B p d sr _ hrd (by omega)).mono ?_
      rintro e w6 ⟨rfl, hr6, hkw6⟩
      rw [H3.out]
      rw [H3.out] at hr6
      have h96 := hkw6.heap hfr hne9
      clear c0 c1' c2 c3 c4
      obtain ⟨c90, c91, c92, c93, c94⟩ := cells5 h96
      have hkw := hk0.trans hr6.2.1
      have hown6 := own_kp hown hkw6 (fun q hq hm => by have := (hown.lt q hq).1; simp at hm; omega)
      have hits6 := hits.kp hkw6 (fun u hu q hq hm => by have := (hits.lt u hu q hq).1; simp at hm; omega)
      have hiv : Rws w6 (.slice ia N ic) lr := OR.rws ⟨us, (by rw [HLN.out]; exact hown6), hits6⟩
      have htv : Bs w6 (.slice none 0 0) [] := OB.bs (e := 5) (base := 0) (Own.nil w6 0 5 1)
      have hF : IsF w6 (w.heap.size + 1) (.agg #[.int .i64 (k : Int), .int .i64 fa, .int .i64 b, .slice ia N ic, .slice none 0 0]) ⟨k, fa, b, lr, []⟩ := ⟨_, _, us, rfl, own_base (by show Own _ _ _ _ _ lr.length _; rw [HLN.out]; exact hown6) (fun q hq => by have := (hown.lt q hq).1; omega), hits6.base (by omega), Own.nil _ _ _ _, fun u _ g _ h => by cases h⟩
      have hmy := may_calls ⟨k, fa, b, lr, []⟩ _ _ w6 hiv htv (by simp only; rw [HLN.out]; omega) (by simp) (by simp only; omega)
      unfold fcells at hmy
      simp only at hmy
      have HF := Lib.hid hF
      have HM := Lib.hid hmy
      clear hF hmy hiv htv hown6 hits6 hown hits
      generalize hFR : (⟨k, fa, b, lr, []⟩ : Fr) = FRAME at *
      have hrb := hr6.2.1.heap hh0 (by simp)
      have hfd := fault_code s3.code s3.fat
      have hf0 := free_heap hrb 0
      have hf1 := free_heap hrb 1
      have hf2 := free_heap hrb 2
      have hf3 := free_heap hrb 3
      have hf4 := free_heap hrb 4
      obtain ⟨r0, r1, r2, r3, r4⟩ := cells5 hrb
      have hrlt := Nat.lt_of_lt_of_le hsz0 hr6.2.1.size
      by_cases hc : s3.code = 0
      · have bc : (s3.code != 0) = false := by simp [hc]
        rw [hc] at HP
        clear hc
        cases hm : mayB FRAME with
        | false =>
          rw [hm] at HM HP
          go_wp2_with (go_at_call 31; (with_reducible refine HM.out.mono ?_); rintro e w7 ⟨rfl, hkw7⟩; have hrb7 := hkw7.heap hrb (by simp); have hg0 := free_heap hrb7 0; have hg1 := free_heap hrb7 1; have hg2 := free_heap hrb7 2; have hg3 := free_heap hrb7 3; have hg4 := free_heap hrb7 4; obtain ⟨q0, q1, q2, q3, q4⟩ := cells5 hrb7)
          refine parse_ret rfl rfl (set5 _ _ _ _ _ hrb7) rfl ?_
          unfold RetP
          rw [HP.out]
          exact ⟨rfl, (hkw.trans hkw7).trans' (set5_kp _ _ _ _ _ _ _) (by simp)⟩
        | true =>
          rw [hm] at HM HP
          go_wp2_with (go_at_call 31; (with_reducible refine HM.out.mono ?_); rintro e w7 ⟨rfl, hkw7⟩; have hrb7 := hkw7.heap hrb (by simp); have hg0 := free_heap hrb7 0; have hg1 := free_heap hrb7 1; have hg2 := free_heap hrb7 2; have hg3 := free_heap hrb7 3; have hg4 := free_heap hrb7 4; obtain ⟨q0, q1, q2, q3, q4⟩ := cells5 hrb7; obtain ⟨p0, p1, p2, p3, p4⟩ := cells5 (hkw7.heap h96 (by simp)))
          refine parse_ret rfl rfl (set5 _ _ _ _ _ hrb7) rfl ?_
          unfold RetP
          rw [HP.out]
          exact ⟨_, rfl, ((HF.out.kp hkw7 (by simp)).kp (set5_kp _ _ _ _ _ _ _) (by simp)).base (by omega), (hkw.trans hkw7).trans' (set5_kp _ _ _ _ _ _ _) (by simp)⟩
      · have bc : (s3.code != 0) = true := by simpa using hc
        have hP2 : parsed d = none := by rw [HP.out]; simp [hc]
        have HP2 := Lib.hid hP2
        clear hc hP2
        go_wp2
        refine parse_ret rfl rfl (set5 _ _ _ _ _ hrb) rfl ?_
        unfold RetP
        rw [HP2.out]
        exact ⟨rfl, hkw.trans' (set5_kp _ _ _ _ _ _ _) (by simp)⟩
end Go.Proofs.YtddpefbpiehgeaaDoor
