/- The laws' helper copied. -/
import Derived.Test.YtddpefbpiehgeaaDoorT07
import Derived.Test.YtddpefbpiehgeaaDoorT03
namespace Go.Proofs.YtddpefbpiehgeaaDoor
open Go Go.RowKit
set_option maxRecDepth 100000
set_option linter.unusedVariables false
set_option linter.unusedSectionVars false
set_option linter.unusedSimpArgs false

theorem u8infoF : (Tryd.prog.info? 5).map (fun i => (i.zero, i.size, i.bytes)) = some (some (.int .u8 0), 1, 1) := by kernel_rfl

theorem results_one {P : Program} {fn : Func} {p : Tmp} {ty : TypeId} (h : fn.results = #[.cell p ty]) (tmps : Array Value) (w : World) (g : Nat) (t : TypeId) (cs : Array Value) (fr : Nat × Nat) (d : TypeDesc)
    (hp : tmps.getD p undef = .pointer (some ⟨g, 0, none⟩)) (hg : w.heap[g]? = some (.cells cs t fr))
    (hu : P.underlying ty = some d) (hd : (match d with | .struct _ | .array _ _ => true | _ => false) = true) (hi : (P.info? ty).map (·.size) = some cs.size) :
    (results fn tmps).run P w = .ok (.agg cs) w := by
  have hp' : tmps[p]?.getD undef = .pointer (some ⟨g, 0, none⟩) := by simpa using hp
  simp [results, h, hp', asAddr, run_loadVar_row w g t ty cs fr d hg hu hd hi]

def RetC (f : Fr) (w : World) (e : Ending) (w' : World) : Prop := ∃ v, e = .returned v ∧ IsF w' w.heap.size v f ∧ Kp [] w w'

set_option maxHeartbeats 1000000 in
theorem copied_calls (f : Fr) (iv tv : Value) (w : World) (hi : Rws w iv f.its) (ht : Bs w tv f.t) (hn : f.its.length ≤ 5864062014805) (hnt : f.t.length ≤ 140737488355328) (hnl : ∀ x ∈ f.its, x.length ≤ 140737488355328) :
    Calls Tryd.prog 10 #[.agg (fcells f iv tv)] w (RetC f w) := by
  obtain ⟨ia, ic, rfl, hic⟩ := hi.form
  obtain ⟨ta, tc, rfl, -⟩ := Sl.form ht
  unfold fcells
  obtain ⟨i0, hi0, hz0, hz1, hz2⟩ := info_parts u8infoF
  have hk0 := (Kp.refl [] w).alloc (.cells #[.int .i64 f.k, .int .i64 f.a, .int .i64 f.b, .slice ia f.its.length ic, .slice ta f.t.length tc] 25)
  have hh0 := heap_alloc_new w (.cells #[.int .i64 f.k, .int .i64 f.a, .int .i64 f.b, .slice ia f.its.length ic, .slice ta f.t.length tc] 25)
  have hk1 := hk0.alloc (.cells #[.int .i64 0, .int .i64 0, .int .i64 0, .slice none 0 0, .slice none 0 0] 25)
  have hk2 := hk1.alloc (.cells #[.int .i64 f.k, .int .i64 f.a, .int .i64 f.b, .slice ia f.its.length ic, .slice ta f.t.length tc] 25)
  have hz := alloc_lt w (.cells #[.int .i64 f.k, .int .i64 f.a, .int .i64 f.b, .slice ia f.its.length ic, .slice ta f.t.length tc] 25)
  have hx2 : (((w.alloc (.cells #[.int .i64 f.k, .int .i64 f.a, .int .i64 f.b, .slice ia f.its.length ic, .slice ta f.t.length tc] 25)).alloc (.cells #[.int .i64 0, .int .i64 0, .int .i64 0, .slice none 0 0, .slice none 0 0] 25)).alloc (.cells #[.int .i64 f.k, .int .i64 f.a, .int .i64 f.b, .slice ia f.its.length ic, .slice ta f.t.length tc] 25)).heap.size = w.heap.size + 1 + 1 + 1 := by simp
  have h2A := (((Kp.refl [] _).alloc (.cells #[.int .i64 0, .int .i64 0, .int .i64 0, .slice none 0 0, .slice none 0 0] 25)).alloc (.cells #[.int .i64 f.k, .int .i64 f.a, .int .i64 f.b, .slice ia f.its.length ic, .slice ta f.t.length tc] 25)).heap hh0 (by simp)
  have h2Z := ((Kp.refl [] _).alloc (.cells #[.int .i64 f.k, .int .i64 f.a, .int .i64 f.b, .slice ia f.its.length ic, .slice ta f.t.length tc] 25)).heap (heap_alloc_new (w.alloc (.cells #[.int .i64 f.k, .int .i64 f.a, .int .i64 f.b, .slice ia f.its.length ic, .slice ta f.t.length tc] 25)) (.cells #[.int .i64 0, .int .i64 0, .int .i64 0, .slice none 0 0, .slice none 0 0] 25)) (by simp)
  have h2C := heap_alloc_new ((w.alloc (.cells #[.int .i64 f.k, .int .i64 f.a, .int .i64 f.b, .slice ia f.its.length ic, .slice ta f.t.length tc] 25)).alloc (.cells #[.int .i64 0, .int .i64 0, .int .i64 0, .slice none 0 0, .slice none 0 0] 25)) (.cells #[.int .i64 f.k, .int .i64 f.a, .int .i64 f.b, .slice ia f.its.length ic, .slice ta f.t.length tc] 25)
  simp only [World.size_alloc] at h2Z h2C
  go_enter Tryd.func10, Tryd.ntmps10
  go_wp2_with (with_reducible refine stop_app ?_)
  unfold Stop
  generalize (((w.alloc (.cells #[.int .i64 f.k, .int .i64 f.a, .int .i64 f.b, .slice ia f.its.length ic, .slice ta f.t.length tc] 25)).alloc (.cells #[.int .i64 0, .int .i64 0, .int .i64 0, .slice none 0 0, .slice none 0 0] 25)).alloc (.cells #[.int .i64 f.k, .int .i64 f.a, .int .i64 f.b, .slice ia f.its.length ic, .slice ta f.t.length tc] 25)) = w2 at *
  clear hh0 hz hk0 hk1
  have hoA := own_alloc w2 5 [] 0 w2.heap.size (0, 0) (.inl rfl) rfl (Nat.le_refl _) (by unfold maxLen; omega)
  have hkA := (Kp.refl [] w2).alloc (.cells #[] 5)
  rw [hx2] at hoA
  refine wpList_app2 _ rfl _ _ 23 23 rfl (w.heap.size + 1 + 1 + 1) 5 i0 _ 1 1 Tryd.underlying23 hi0 hz0 hz1 hz2 rfl (by omega) (.slice (some ⟨w.heap.size + 1 + 1 + 1, 0, none⟩) 0 0) 0 [] rfl hoA (.slice ta f.t.length tc) f.t.length _ rfl (Src.of_sl Tryd.underlying23 (ht.kp0 (hk2.trans hkA)) bcells_one) (by omega) (by omega) (by simp; omega) ?_
  intro v1 w1 ho1 hg1
  rw [Nat.zero_add, List.nil_append] at ho1
  have hk3 : Kp [] w2 w1 := by
    rcases hg1 with ⟨-, hg1⟩ | ⟨hg1, -⟩
    · exact hkA.grown hg1 (fun k hk => .inr (by simp [Value.ownBlock] at hk; omega))
    · exact hkA.trans hg1
  have ho1' : OB w1 5 (w.heap.size + 1 + 1 + 1) v1 f.t := ho1
  obtain ⟨a1, c1, rfl⟩ := own_form ho1
  have h3A := hk3.heap h2A (by simp)
  have h3Z := hk3.heap h2Z (by simp)
  have h3C := hk3.heap h2C (by simp)
  clear hoA hkA hg1 ho1
  have hkw := hk2.trans hk3
  have hs1 : w.heap.size + 1 + 1 + 1 ≤ w1.heap.size := by have := hk3.size; omega
  obtain ⟨c0, c1', c2, c3, c4⟩ := cells5 h3C
  have f3 := free_heap h3C 3
  have f4 := free_heap h3C 4
  have hks := ((Kp.refl [w.heap.size + 1 + 1] w1).setCell (p := ⟨w.heap.size + 1 + 1, 4, none⟩) (.inl (by simp)) (.slice a1 f.t.length c1)).setCell (p := ⟨w.heap.size + 1 + 1, 3, none⟩) (.inl (by simp)) (.slice none 0 0)
  have h4C := heap_set (i := 3) (.slice none 0 0) (heap_set (i := 4) (.slice a1 f.t.length c1) h3C)
  simp only [List.setIfInBounds_toArray, List.set_cons_succ, List.set_cons_zero] at h4C
  have h4A := hks.heap h3A (by simp; omega)
  have h4Z := hks.heap h3Z (by simp)
  have ho4 : OB _ 5 (w.heap.size + 1 + 1 + 1) (.slice a1 f.t.length c1) f.t := own_kp ho1' hks (fun b hb hm => by have := (Own.lt ho1' b hb).1; simp at hm; omega)
  have hk4 := hkw.trans' hks (by simp; omega)
  have hs4 := hks.size
  clear h2A h2Z h2C h3A h3Z ho1' hk3 hk2
  go_wp2_with fail
  generalize (w1.setCell ⟨w.heap.size + 1 + 1, 4, none⟩ (.slice a1 f.t.length c1)).setCell ⟨w.heap.size + 1 + 1, 3, none⟩ (.slice none 0 0) = w4 at *
  clear c0 c1' c2 c3 c4 f3 f4
  go_loopw [4] (fun v4 wr => ∃ (n : Nat) (jv : Value) (us : List Value), n ≤ f.its.length ∧ v4 = .int .i64 n ∧ wr.heap[w.heap.size + 1 + 1]? = some (.cells #[.int .i64 f.k, .int .i64 f.a, .int .i64 f.b, jv, .slice a1 f.t.length c1] 25 (0, 0)) ∧ Own wr (w.heap.size + 1 + 1 + 1) 23 1 jv n us ∧ Its wr (w.heap.size + 1 + 1 + 1) us (f.its.take n) ∧ OB wr 5 (w.heap.size + 1 + 1 + 1) (.slice a1 f.t.length c1) f.t ∧ (∀ u ∈ us, Apart u (.slice a1 f.t.length c1)) ∧ Kp [] w wr ∧
      wr.heap[w.heap.size]? = some (.cells #[.int .i64 f.k, .int .i64 f.a, .int .i64 f.b, .slice ia f.its.length ic, .slice ta f.t.length tc] 25 (0, 0)) ∧ wr.heap[w.heap.size + 1]? = some (.cells #[.int .i64 0, .int .i64 0, .int .i64 0, .slice none 0 0, .slice none 0 0] 25 (0, 0))) (fun v4 _ => f.its.length - (intOf v4).toNat)
  case atStart => exact ⟨0, .slice none 0 0, [], by omega, rfl, h4C, Own.nil _ _ _ _, ⟨by simp, fun i h => by simp at h, fun i j u v _ h => by simp at h⟩, ho4, by simp, hk4, h4A, h4Z⟩
  case round =>
    clear h4A h4Z h4C ho4 hk4 hs4 hks hkw h3C hs1
    obtain ⟨n, jv, us, hnl', rfl, hC, hown, hits, hob, hap, hkr, hA, hZ⟩ := hrel
    obtain ⟨ja, jc, rfl⟩ := own_form hown
    obtain ⟨-, -, -, a3, -⟩ := cells5 hA
    obtain ⟨-, -, -, c3, -⟩ := cells5 hC
    have hcl := lt_of_heap hC
    by_cases hlt : n < f.its.length
    · obtain ⟨ib, io, xa, xc, rfl, hib, hxc, hbx⟩ := (hi.kp0 hkr).at n hlt
      have hxl := hnl _ (List.getElem_mem hlt)
      have hts := List.take_succ_eq_append_getElem hlt
      generalize f.its[n]'hlt = x at *
      have HTS := Lib.hid hts
      clear hts
      have hn1 : (0 : Int) ≤ n ∧ (n : Int) < f.its.length := by omega
      obtain ⟨hn1, hn2⟩ := hn1
      go_wp2_with fail
      have hS : Gr wr [w.heap.size + 1 + 1, w.heap.size, ib] wr.drew := Gr.of (fun _ _ => rfl)
      refine wp_plan (.H 0 (.H 1 (.H 3 (.H 4 (.H 5 (.H 6 (.H 7 (.E 2 true (.E 8 true (.E 9 true (.E 10 false (.E 11 false (.E 12 false .Z))))))))))))) (Gr wr [w.heap.size + 1 + 1, w.heap.size, ib]) (by as_aux_lemma => kernel_rfl) (by as_aux_lemma => kernel_rfl) ?_
      repeat (refine plan_H rfl hS (fun K hK => ?_); go_simp; refine hK _ ?_; clear hK K)
      refine plan_E rfl (fun K hK => ?_); go_simp
      have hk5 : Kp [] wr (wr.drew.alloc (.cells #[] 5)) := (Kp.refl [] wr).drew.alloc _
      have hS5 : Gr wr [w.heap.size + 1 + 1, w.heap.size, ib] (wr.drew.alloc (.cells #[] 5)) := Gr.of (fun q hq => hk5.block q (by simp at hq; omega) (by simp))
      refine hK _ _ (fun _ => hS5) ?_
      clear hK K
      have hoA := own_alloc wr.drew 5 [] 0 wr.heap.size (0, 0) (.inl rfl) rfl (Nat.le_refl _) (by unfold maxLen; omega)
      refine plan_E rfl (fun K hK => ?_)
      refine step_app2 _ rfl _ _ 23 23 rfl wr.heap.size 5 i0 _ 1 1 Tryd.underlying23 hi0 hz0 hz1 hz2 rfl (by omega) (.slice (some ⟨wr.heap.size, 0, none⟩) 0 0) 0 [] rfl hoA (.slice xa x.length xc) x.length _ rfl (Src.of_sl Tryd.underlying23 (hbx.kp0 hk5) bcells_one) (by omega) (by omega) (by simp) ?_
      intro v6 w6 ho6 hg6
      rw [Nat.zero_add, List.nil_append] at ho6
      have hk6 : Kp [] wr w6 := by
        rcases hg6 with ⟨-, hg6⟩ | ⟨hg6, -⟩
        · exact hk5.grown hg6 (fun k hk => .inr (by simp [Value.ownBlock] at hk; omega))
        · exact hk5.trans hg6
      have hxo : OB w6 5 wr.heap.size v6 x := ho6
      obtain ⟨ya, yc, rfl⟩ := own_form ho6
      have hS6 : Gr wr [w.heap.size + 1 + 1, w.heap.size, ib] w6 := Gr.of (fun q hq => hk6.block q (by simp at hq; omega) (by simp))
      refine hK _ _ (fun _ => hS6) ?_
      clear hK K hg6 hoA ho6
      refine plan_E rfl (fun K hK => ?_); go_simp
      have hk7 : Kp [] wr (w6.alloc (.cells #[.slice ya x.length yc] 23)) := hk6.alloc _
      have hS7 : Gr wr [w.heap.size + 1 + 1, w.heap.size, ib] (w6.alloc (.cells #[.slice ya x.length yc] 23)) := Gr.of (fun q hq => hk7.block q (by simp at hq; omega) (by simp))
      refine hK _ _ (fun _ => hS7) ?_
      clear hK K
      obtain ⟨i1, hi1, hy0, hy1, hy2⟩ := info_parts rowinfo
      have hown7 := own_kp hown hk7 (by simp)
      have hsz7 := hk7.size
      have hsz6 := hk6.size
      refine plan_E rfl (fun K hK => ?_)
      refine step_app _ rfl _ _ 22 22 rfl (w.heap.size + 1 + 1 + 1) 23 i1 _ 1 24 Tryd.underlying22 hi1 hy0 hy1 hy2 rfl (by omega) (.slice ja n jc) n us rfl hown7 (.slice (some ⟨w6.heap.size, 0, none⟩) 1 1) 1 [.slice ya x.length yc] rfl (Src.of_sl Tryd.underlying22 (sl_alloc w6 23 _ _ rfl 1 1 rfl) (by simp [Value.oneCell'])) (by omega) (by omega) (by omega) ?_
      intro v8 w8 ho8 hg8 hx8
      obtain ⟨a8, c8, rfl⟩ := own_form ho8
      have hk68 : Kp (Value.slice ja n jc).ownBlock.toList w6 w8 := ((Kp.refl _ w6).alloc _).grown hg8 (fun q hq => .inl (by simp [hq]))
      have hrow : ∀ q, q ∈ (Value.slice ja n jc).ownBlock.toList → w.heap.size + 1 + 1 + 1 ≤ q := fun q hq => (hown.lt q (by simpa using hq)).1
      have hC8 : w8.heap[w.heap.size + 1 + 1]? = _ := hk68.heap (hk6.heap hC (by simp)) (fun hm => by have := hrow _ hm; omega)
      have hA8 : w8.heap[w.heap.size]? = _ := hk68.heap (hk6.heap hA (by simp)) (fun hm => by have := hrow _ hm; omega)
      have hZ8 : w8.heap[w.heap.size + 1]? = _ := hk68.heap (hk6.heap hZ (by simp)) (fun hm => by have := hrow _ hm; omega)
      have f3 := free_heap hC8 3
      obtain ⟨_, _, _, e3, _⟩ := cells5 hC8
      have hC9 := heap_set (i := 3) (.slice a8 (n + 1) c8) hC8
      simp only [List.setIfInBounds_toArray, List.set_cons_succ, List.set_cons_zero] at hC9
      have hk89 : Kp [w.heap.size + 1 + 1] w8 (w8.setCell ⟨w.heap.size + 1 + 1, 3, none⟩ (.slice a8 (n + 1) c8)) := (Kp.refl _ w8).setCell (.inl (by simp)) _
      have hA9 := hk89.heap hA8 (by simp; omega)
      have hZ9 := hk89.heap hZ8 (by simp)
      have hits6 : Its w6 (w.heap.size + 1 + 1 + 1) us (f.its.take n) := hits.kp hk6 (by simp)
      have hown6 : Own w6 (w.heap.size + 1 + 1 + 1) 23 1 (.slice ja n jc) n us := own_kp hown hk6 (by simp)
      have hits8 : Its w8 (w.heap.size + 1 + 1 + 1) us (f.its.take n) := hits6.kp hk68 (fun u hu q hq hm => by
        obtain ⟨i, hi⟩ := List.mem_iff_getElem?.1 hu
        obtain ⟨u', h1, h2⟩ := hits6.2.1 i (by rw [← hits6.1]; exact (List.getElem?_eq_some_iff.1 hi).1)
        rw [hi] at h1; cases h1
        exact own_ne h2 hown6 (by decide) q hq (by simpa using hm))
      have hob6 : OB w6 5 (w.heap.size + 1 + 1 + 1) (.slice a1 f.t.length c1) f.t := own_kp hob hk6 (by simp)
      have hob8 : OB w8 5 (w.heap.size + 1 + 1 + 1) (.slice a1 f.t.length c1) f.t := own_kp hob6 hk68 (fun q hq hm => own_ne hob6 hown6 (by decide) q hq (by simpa using hm))
      have hxo6 : OB w6 5 (w.heap.size + 1 + 1 + 1) (.slice ya x.length yc) x := own_base hxo (fun q hq => by have := (Own.lt hxo q hq).1; omega)
      have hxo8 : OB w8 5 (w.heap.size + 1 + 1 + 1) (.slice ya x.length yc) x := own_kp hxo6 hk68 (fun q hq hm => own_ne hxo6 hown6 (by decide) q hq (by simpa using hm))
      have hap2 : ∀ u ∈ us, Apart u (.slice ya x.length yc) := fun u hu g h1 h2 => by
        have := (hits.lt u hu g h1).2
        have := (Own.lt hxo g h2).1
        omega
      have hap3 : ∀ u ∈ us ++ [.slice ya x.length yc], Apart u (.slice a1 f.t.length c1) := fun u hu => by
        rcases List.mem_append.1 hu with hu | hu
        · exact hap u hu
        · simp only [List.mem_singleton] at hu
          subst hu
          intro g h1 h2
          have := (Own.lt hob g h2).2
          have := (Own.lt hxo g h1).1
          omega
      have hits9 := (hits8.snoc hxo8 hap2).kp hk89 (fun u hu q hq hm => by have := ((hits8.snoc hxo8 hap2).lt u hu q hq).1; simp at hm; omega)
      have hown9 := own_kp ho8 hk89 (fun q hq hm => by have := (ho8.lt q hq).1; simp at hm; omega)
      have hob9 : OB _ 5 (w.heap.size + 1 + 1 + 1) (.slice a1 f.t.length c1) f.t := own_kp hob8 hk89 (fun q hq hm => by have := (Own.lt hob8 q hq).1; simp at hm; omega)
      have hkr9 : Kp [] w (w8.setCell ⟨w.heap.size + 1 + 1, 3, none⟩ (.slice a8 (n + 1) c8)) := ((hkr.trans hk6).trans' hk68 (fun q hq => .inr (by have := hrow q hq; omega))).trans' hk89 (fun q hq => .inr (by simp at hq; omega))
      have HOWN9 := Lib.hid hown9
      have HITS9 := Lib.hid hits9
      have HOB9 := Lib.hid hob9
      have HAP3 := Lib.hid hap3
      clear hown9 hits9 hits8 hits6 hown6 hown7 hown hits hob hob6 hob8 hob9 hap hap2 hap3 hxo hxo6 hxo8 hrow
      refine hK _ _ nofun ?_
      clear hK K
      refine plan_E rfl (fun K hK => ?_); go_simp
      refine hK _ _ nofun ?_
      clear hK K
      refine plan_E rfl (fun K hK => ?_); go_simp
      refine hK _ _ nofun ?_
      clear hK K
      refine plan_Z ?_
      have hn8 : (n : Int) ≤ 5864062014805 := by omega
      go_wp2
      go_roundw
      case measure => simp [intOf]; omega
      case rel => exact ⟨n + 1, _, _, by omega, by go_num, hC9, HOWN9.out, by rw [HTS.out]; exact HITS9.out, HOB9.out, HAP3.out, hkr9, hA9, hZ9⟩
    · have hd : decide ((n : Int) < (f.its.length : Int)) = false := by rw [decide_eq_false_iff_not]; omega
      obtain rfl : n = f.its.length := by omega
      rw [List.take_length] at hits
      have hzl := lt_of_heap hZ
      have g0 := free_heap hZ 0
      have g1 := free_heap hZ 1
      have g2 := free_heap hZ 2
      have g3 := free_heap hZ 3
      have g4 := free_heap hZ 4
      obtain ⟨z0, z1, z2, z3, z4⟩ := cells5 hZ
      obtain ⟨q0, q1, q2, q3, q4⟩ := cells5 hC
      go_wp2_with fail
      refine bodyPost_ret (results_one rfl _ _ _ _ _ _ _ (show Array.getD _ 2 _ = _ from rfl) (set5 _ _ _ _ _ hZ) Tryd.underlying25 rfl f5size) rfl ⟨_, rfl, ?_, hkr.trans' (set5_kp _ _ _ _ _ _ _) (fun q hq => .inr (by simp at hq; omega))⟩
      exact IsF.base (IsF.kp ⟨_, _, us, rfl, hown, hits, hob, hap⟩ (set5_kp _ _ _ _ _ _ _) (by simp)) (by omega)
end Go.Proofs.YtddpefbpiehgeaaDoor

/- The reference's digest: turns, what is put behind the bytes. -/
namespace Go.Proofs.YtddpefbpiehgeaaDoor
open Go Go.RowKit
set_option maxRecDepth 100000
set_option linter.unusedVariables false
set_option linter.unusedSectionVars false
set_option linter.unusedSimpArgs false

theorem rrot (x : UInt32) (s : Nat) (k : Int) (w : World) (hk : k = (s : Int)) (h1 : 1 ≤ s) (h31 : s ≤ 31) :
    Calls Tryd.prog 104 #[.int .u32 (x.toNat : Int), .int .u64 k] w fun e w' => e = .returned (.int .u32 ((rotr x s).toNat : Int)) ∧ w = w' := by
  subst hk
  have hlt := u32_lt x
  have hw : IntKind.u64.wrap (32 - (s : Int)) = 32 - (s : Int) := IntWalk.u64_in _ (by omega)
  go_enter Tryd.func104, Tryd.ntmps104
  go_wp2
  go_ret
  refine ⟨?_, rfl⟩
  have h := rot_v x s h1 h31
  have hc : bits BinOp.or IntKind.u32 ((x.toNat : Int) / 2 ^ s) ((x.toNat : Int) * 2 ^ (32 - s) % 4294967296) = ((rotr x s).toNat : Int) := by
    rw [← u32_shl x (32 - s) (by omega), ← u32_shr x s (by omega), u32_or_v, UInt32.or_comm]
    rfl
  simp_all

theorem rsh (x : UInt32) (s : Nat) (k d : Int) (w : World) (hk : k = (s : Int)) (hd : d = 2 ^ s) (h31 : s ≤ 31) :
    Calls Tryd.prog 105 #[.int .u32 (x.toNat : Int), .int .u64 k] w fun e w' => e = .returned (.int .u32 ((x.toNat : Int) / d)) ∧ w = w' := by
  subst hk hd
  have hlt := u32_lt x
  go_enter Tryd.func105, Tryd.ntmps105
  go_wp2
  go_ret
  refine ⟨?_, rfl⟩
  simp_all

set_option maxHeartbeats 1000000 in
theorem filled_calls (v : Value) (R : List UInt8) (w : World) (hr : Bs w v R) (hlen : R.length ≤ 140737488355000) :
    Calls Tryd.prog 99 #[v] w fun e w' => ∃ v, e = .returned v ∧ OB w' 5 w.heap.size v (R ++ padOf R.length) ∧ Kp [] w w' := by
  obtain ⟨i0, hi, hz0, hz1, hz2⟩ := info_parts u8info
  obtain ⟨a, cap, rfl, -⟩ := Sl.form hr
  obtain ⟨D, hD⟩ : ∃ D, D = R ++ padOf R.length := ⟨_, rfl⟩
  rw [← hD]
  have HD := Lib.hid hD
  clear hD
  go_enter Tryd.func99, Tryd.ntmps99
  go_wp2_with (first
    | (refine wpList_app _ rfl _ _ 23 23 rfl w.heap.size 5 i0 _ 1 1 Tryd.underlying23 hi hz0 hz1 hz2 rfl (by omega) (.slice none 0 0) 0 [] rfl (Own.nil _ _ _ _) (.slice a R.length cap) _ _ rfl (Src.of_sl Tryd.underlying23 hr bcells_one) (by omega) (by omega) (Nat.le_refl _) ?_; intro v1 w1 ho1 hg1 hx1; rw [Nat.zero_add, List.nil_append] at ho1; have hk1 := (Kp.refl [] w).grown hg1 nofun)
    | (refine wpList_app _ rfl _ _ 23 23 rfl w.heap.size 5 i0 _ 1 1 Tryd.underlying23 hi hz0 hz1 hz2 rfl (by omega) v1 R.length (bcells R) rfl (own_kp ho1 ((Kp.refl [] w1).alloc _) (by simp)) (.slice (some ⟨w1.heap.size, 0, none⟩) 1 1) 1 (bcells [128]) rfl (Src.of_sl Tryd.underlying23 (bs_alloc w1 _ [128] _ rfl 1 rfl) bcells_one) (by omega) (by omega) (by have := hk1.size; simp; omega) ?_; intro v2 w2 ho2 hg2 hx2))
  have hk2 : Kp [] w w2 := (hk1.alloc _).grown hg2 (fun k hk => .inr (ho1.lt k hk).1)
  rw [← bcells_append] at ho2
  obtain ⟨z, hz⟩ : ∃ z, z = (119 - R.length % 64) % 64 := ⟨_, rfl⟩
  have hz56 : (R.length + 1 + z) % 64 = 56 := by omega
  have hz63 : z ≤ 63 := by omega
  have hzl : ∀ i, i < z → (R.length + 1 + i) % 64 ≠ 56 := by intros; omega
  have HZ := Lib.hid hz
  clear hz
  obtain ⟨a2, c2, rfl⟩ := own_form ho2
  clear hx1 hx2 hg1 hg2 ho1 hk1
  have hrlen : (R.length : Int) ≤ 140737488355000 := by omega
  go_loopw [3] (fun v wr => ∃ (i : Nat) (av : Option Addr) (c : Nat), i ≤ z ∧ v = .slice av (R.length + 1 + i) c ∧ Own wr w.heap.size 5 1 (.slice av (R.length + 1 + i) c) (R.length + 1 + i) (bcells (R ++ 128 :: List.replicate i 0)) ∧ Kp [] w wr) (fun v _ => z + R.length + 1 - lenV v)
  case atStart => exact ⟨0, a2, c2, by omega, rfl, ho2, hk2⟩
  case round =>
    obtain ⟨i, av, c, hiz, rfl, ho, hk⟩ := hrel
    by_cases hlt : i < z
    · have hne := hzl i hlt
      have hneb : (((R.length : Int) + 1 + (i : Int)) % 64 != 56) = true := by simp; omega
      have hno := own_kp ho ((Kp.refl [] wr).alloc (.cells #[.int .u8 0] 5)) (by simp)
      go_wp2_with (with_reducible refine stop_app ?_)
      unfold Stop
      refine wpList_app _ rfl _ _ 23 23 rfl w.heap.size 5 i0 _ 1 1 Tryd.underlying23 hi hz0 hz1 hz2 rfl (by omega) (.slice av (R.length + 1 + i) c) _ _ rfl hno (.slice (some ⟨wr.heap.size, 0, none⟩) 1 1) 1 (bcells ([0])) rfl (Src.of_sl Tryd.underlying23 (bs_alloc wr _ [0] _ rfl 1 rfl) bcells_one) (by omega) (by omega) (by have := hk.size; simp; omega) ?_
      intro v3 w3 ho3 hg3 hx3
      have hk3 := (hk.alloc (.cells #[.int .u8 0] 5)).grown hg3 (fun k hk => .inr (ho.lt k hk).1)
      obtain ⟨a3, c3, rfl⟩ := own_form ho3
      rw [← bcells_append, show (R ++ 128 :: List.replicate i 0) ++ [0] = R ++ 128 :: List.replicate (i + 1) 0 by simp [List.replicate_succ']] at ho3
      go_wp2
      go_roundw
      case measure => simp [lenV]; omega
      case rel => exact ⟨i + 1, a3, c3, by omega, by simp; omega, by simpa [Nat.add_assoc] using ho3, hk3⟩
    · have hne : (R.length + 1 + i) % 64 = 56 := by rw [show i = z by omega]; exact hz56
      have hneb : (((R.length : Int) + 1 + (i : Int)) % 64 != 56) = false := by simp; omega
      have hw8 : IntKind.u64.wrap ((R.length : Int) * 8) = (R.length : Int) * 8 := IntWalk.u64_in _ (by omega)
      have hw1 : IntKind.u64.wrap (R.length : Int) = (R.length : Int) := IntWalk.u64_in _ (by omega)
      go_wp2
      obtain ⟨q, hq⟩ : ∃ q, q = R ++ 128 :: List.replicate i 0 := ⟨_, rfl⟩
      have hql : q.length = R.length + 1 + i := by simp [hq]; omega
      rw [← hq, ← hql] at ho
      have hqd : q ++ dig (8 * R.length) 8 = D := by rw [HD.out, hq, padOf, show i = (119 - R.length % 64) % 64 by rw [← HZ.out]; omega]; simp
      have HQ := Lib.hid hqd
      have hq64 : q.length ≤ R.length + 64 := by omega
      clear hw8 hw1
      simp only [← hql]
      clear hq hqd hql hneb hne hzl hz56
      obtain ⟨wo, rfl⟩ : ∃ wo : World, wo = wr := ⟨wr, rfl⟩
      go_loopw [3, 5] (fun v v4 wr => ∃ (k : Nat) (av : Option Addr) (c : Nat) (q' : List UInt8), k ≤ 8 ∧ v4 = .int .i64 ((k : Int) - 1) ∧ v = .slice av q'.length c ∧ OB wr 5 w.heap.size (.slice av q'.length c) q' ∧ q' ++ dig (8 * R.length) k = q ++ dig (8 * R.length) 8 ∧ q'.length + k = q.length + 8 ∧ Kp [] w wr) (fun _ v _ => (intOf v + 1).toNat)
      case atStart => exact ⟨8, av, c, q, by omega, by simp, rfl, ho, rfl, rfl, hk⟩
      case round =>
        obtain ⟨k, av', c', q', hk8, rfl, rfl, ho', hqq, hql', hk'⟩ := hrel
        obtain _ | k := k
        · have hq0 : q' = D := by rw [← HQ.out, ← hqq]; simp [dig]
          go_wp2
          go_ret
          exact ⟨_, rfl, hq0 ▸ ho', hk'⟩
        · have HQQ := Lib.hid hqq
          clear hqq
          have hbyte : (R.length : Int) * 8 / 2 ^ (8 * k) % 256 = ((UInt8.ofNat (8 * R.length / 256 ^ k)).toNat : Int) := by
            rw [byte_shr _ (by omega), show ((R.length : Int) * 8).toNat = 8 * R.length by omega]
          have hk8i : (k : Int) ≤ 7 := by omega
          go_wp2_with (with_reducible refine stop_app ?_)
          unfold Stop
          rw [hbyte]
          have hno := own_kp ho' ((Kp.refl [] wr).alloc (.cells #[.int .u8 ((UInt8.ofNat (8 * R.length / 256 ^ k)).toNat : Int)] 5)) (by simp)
          refine wpList_app _ rfl _ _ 23 23 rfl w.heap.size 5 i0 _ 1 1 Tryd.underlying23 hi hz0 hz1 hz2 rfl (by omega) (.slice av' q'.length c') _ _ rfl hno (.slice (some ⟨wr.heap.size, 0, none⟩) 1 1) 1 (bcells ([UInt8.ofNat (8 * R.length / 256 ^ k)])) rfl (Src.of_sl Tryd.underlying23 (bs_alloc wr _ [UInt8.ofNat (8 * R.length / 256 ^ k)] _ rfl 1 rfl) bcells_one) (by omega) (by omega) (by have := hk'.size; simp; omega) ?_
          intro v3 w3 ho3 hg3 hx3
          have hk3 := (hk'.alloc (.cells #[.int .u8 ((UInt8.ofNat (8 * R.length / 256 ^ k)).toNat : Int)] 5)).grown hg3 (fun k hk => .inr (ho'.lt k hk).1)
          obtain ⟨a3, c3, rfl⟩ := own_form ho3
          rw [← bcells_append] at ho3
          go_wp2
          go_roundw
          case measure => simp [intOf]
          case rel =>
            refine ⟨k, a3, c3, q' ++ [UInt8.ofNat (8 * R.length / 256 ^ k)], by omega, by simp, by simp, by simpa [OB] using ho3, ?_, by simp; omega, hk3⟩
            rw [List.append_assoc, List.singleton_append, ← dig_cons]
            exact HQQ.out
end Go.Proofs.YtddpefbpiehgeaaDoor

/- The reference's digest: a block's words. -/
namespace Go.Proofs.YtddpefbpiehgeaaDoor
open Go Go.RowKit
set_option maxRecDepth 100000
set_option linter.unusedVariables false
set_option linter.unusedSectionVars false
set_option linter.unusedSimpArgs false

theorem u32info : (Tryd.prog.info? 133).map (fun i => (i.zero, i.size, i.bytes)) = some (some (.int .u32 0), 1, 4) := by kernel_rfl
def wcells (l : List UInt32) : List Value := l.map w32
theorem wcells_one {l : List UInt32} : ∀ u ∈ wcells l, u.oneCell' = true := by
  intro u hu
  simp only [wcells, List.mem_map] at hu
  obtain ⟨_, _, rfl⟩ := hu
  rfl
theorem wcells_get (l : List UInt32) (i : Nat) (h : i < l.length) : (wcells l)[i]? = some (.int .u32 ((l.getD i 0).toNat : Int)) := by
  simp [wcells, h, w32]
theorem wcells_append (l m : List UInt32) : wcells (l ++ m) = wcells l ++ wcells m := by simp [wcells]
theorem sl_alloc1 (w : World) (T : TypeId) (cs : Array Value) (n : Nat) (hn : n = cs.size) :
    Sl (w.alloc (.cells cs T)) 1 (.slice (some ⟨w.heap.size, 0, none⟩) n n) n cs.toList := by
  subst hn
  refine ⟨by simp, .inr (.inr ⟨w.heap.size, 0, cs.size, rfl, Nat.le_refl _, by simp only [World.alloc, Array.size_push]; omega, fun j u hu => ?_⟩)⟩
  rw [Nat.zero_add, cell_heap (heap_alloc_new w _)]
  simpa using hu

theorem word_nat (x : UInt32) (c : UInt8) (h : x.toNat < 16777216) : (x <<< 8 ||| UInt32.ofNat c.toNat).toNat = x.toNat * 256 + c.toNat := by
  have hc := c.toNat_lt
  rw [UInt32.toNat_or, UInt32.toNat_shiftLeft, UInt32.toNat_ofNat']
  have h2 := Nat.shiftLeft_add_eq_or_of_lt (i := 8) (b := c.toNat) (by omega) x.toNat
  rw [Nat.shiftLeft_eq] at h2
  have h3 : (8 : UInt32).toNat % 32 = 8 := rfl
  rw [h3, Nat.shiftLeft_eq, Nat.mod_eq_of_lt (by omega : x.toNat * 2 ^ 8 < 2 ^ 32), Nat.mod_eq_of_lt (by omega : c.toNat < 2 ^ 32), ← h2]
theorem word4 (a b c d : UInt8) : (word [a, b, c, d]).toNat = a.toNat * 16777216 + b.toNat * 65536 + c.toNat * 256 + d.toNat := by
  have ha := a.toNat_lt
  have hb := b.toNat_lt
  have hc := c.toNat_lt
  have hd := d.toNat_lt
  have h1 : ((0 : UInt32) <<< 8 ||| UInt32.ofNat a.toNat).toNat = a.toNat := by rw [word_nat 0 a (by decide)]; simp
  have h2 := word_nat ((0 : UInt32) <<< 8 ||| UInt32.ofNat a.toNat) b (by omega)
  have h3 := word_nat _ c (show (((0 : UInt32) <<< 8 ||| UInt32.ofNat a.toNat) <<< 8 ||| UInt32.ofNat b.toNat : UInt32).toNat < 16777216 by omega)
  have h4 := word_nat _ d (show ((((0 : UInt32) <<< 8 ||| UInt32.ofNat a.toNat) <<< 8 ||| UInt32.ofNat b.toNat) <<< 8 ||| UInt32.ofNat c.toNat : UInt32).toNat < 16777216 by omega)
  simp only [word, List.foldl]
  omega

theorem word_v (x0 x1 x2 x3 : UInt8) : IntKind.u32.wrap (IntKind.u32.wrap (IntKind.u32.wrap (IntKind.u32.wrap (IntKind.u32.wrap (x0.toNat : Int) * 16777216) + IntKind.u32.wrap (IntKind.u32.wrap (x1.toNat : Int) * 65536)) + IntKind.u32.wrap (IntKind.u32.wrap (x2.toNat : Int) * 256)) + IntKind.u32.wrap (x3.toNat : Int)) = ((word [x0, x1, x2, x3]).toNat : Int) := by
  rw [word4]
  have u0 : (x0.toNat : Int) < 256 := by have := x0.toNat_lt; omega
  have u1 : (x1.toNat : Int) < 256 := by have := x1.toNat_lt; omega
  have u2 : (x2.toNat : Int) < 256 := by have := x2.toNat_lt; omega
  have u3 : (x3.toNat : Int) < 256 := by have := x3.toNat_lt; omega
  simp only [IntKind.wrap_u32]
  omega

set_option maxHeartbeats 1000000 in
theorem rspread_calls (v : Value) (b : List UInt8) (w : World) (hb : Bs w v b) (hl : b.length = 64) :
    Calls Tryd.prog 103 #[v] w fun e w' => ∃ a c, e = .returned (.slice a 64 c) ∧ Own w' w.heap.size 133 1 (.slice a 64 c) 64 (wcells (spr b 64)) ∧ Kp [] w w' := by
  obtain ⟨i0, hi, hz0, hz1, hz2⟩ := info_parts u32info
  have hb0 := hb
  obtain ⟨a, cap, rfl, hcap, hnone, hsome, hcells⟩ := Sl.form hb
  obtain ⟨g, off, rfl, hg⟩ := hsome (by omega)
  have hcells := (hcells g off rfl).2
  have HL : Hid (b.length = 64) := Lib.hid hl
  rw [hl] at hcap ⊢
  clear hl hb hnone hsome hb0
  go_enter Tryd.func103, Tryd.ntmps103
  go_wp2
  go_loopw [3, 4] (fun v3 v4 wr => ∃ (n : Nat) (av : Option Addr) (c : Nat), n ≤ 16 ∧ v4 = .int .i64 n ∧ v3 = .slice av n c ∧ Own wr w.heap.size 133 1 (.slice av n c) n (wcells (spr b n)) ∧ Kp [] w wr) (fun _ v _ => 16 - (intOf v).toNat)
  case atStart => exact ⟨0, none, 0, by omega, rfl, rfl, Own.nil _ _ _ _, Kp.refl [] w⟩
  case round =>
    obtain ⟨n, av, c, hn, rfl, rfl, ho, hkr⟩ := hrel
    have hsz := hkr.size
    by_cases hlt : n < 16
    · have hbyte : ∀ j, j < 4 → wr.cell? ⟨g, off + (4 * n + j), none⟩ = some (.int .u8 ((((b.drop (4 * n)).take 4).getD j 0).toNat : Int)) := fun j hj => by
        have hlen := HL.out
        rw [hkr.cells0.1 _ _ hg]
        have := hcells (4 * n + j) _ (bcells_get b (4 * n + j) (by omega))
        rw [this]
        have hlt2 : 4 * n + j < b.length := by omega
        simp [List.getElem?_take, List.getElem?_drop, hj, hlt2]
      have hnext : spr b (n + 1) = spr b n ++ [word ((b.drop (4 * n)).take 4)] := by rw [spr, if_pos hlt]
      have hq4 : (b.drop (4 * n)).take 4 = [((b.drop (4 * n)).take 4).getD 0 0, ((b.drop (4 * n)).take 4).getD 1 0, ((b.drop (4 * n)).take 4).getD 2 0, ((b.drop (4 * n)).take 4).getD 3 0] := by
        have hlb : ((b.drop (4 * n)).take 4).length = 4 := by have := HL.out; simp; omega
        generalize (b.drop (4 * n)).take 4 = q at *
        match q, hlb with
        | [_, _, _, _], _ => rfl
      have c0 := hbyte 0 (by omega)
      have c1 := hbyte 1 (by omega)
      have c2 := hbyte 2 (by omega)
      have c3 := hbyte 3 (by omega)
      generalize ((b.drop (4 * n)).take 4).getD 0 0 = x0 at *
      generalize ((b.drop (4 * n)).take 4).getD 1 0 = x1 at *
      generalize ((b.drop (4 * n)).take 4).getD 2 0 = x2 at *
      generalize ((b.drop (4 * n)).take 4).getD 3 0 = x3 at *
      rw [hq4] at hnext
      clear hq4 hbyte
      have HN := Lib.hid hnext
      clear hnext
      have u0 : (x0.toNat : Int) < 256 := by have := x0.toNat_lt; omega
      have u1 : (x1.toNat : Int) < 256 := by have := x1.toNat_lt; omega
      have u2 : (x2.toNat : Int) < 256 := by have := x2.toNat_lt; omega
      have u3 : (x3.toNat : Int) < 256 := by have := x3.toNat_lt; omega
      have hni : (n : Int) < 16 := by omega
      rw [Nat.add_zero] at c0
      have e0 : IntKind.i64.wrap (4 * (n : Int)) = 4 * n := IntWalk.i64_in _ (by omega)
      have e1 : IntKind.i64.wrap (4 * (n : Int) + 1) = 4 * n + 1 := IntWalk.i64_in _ (by omega)
      have e2 : IntKind.i64.wrap (4 * (n : Int) + 2) = 4 * n + 2 := IntWalk.i64_in _ (by omega)
      have e3 : IntKind.i64.wrap (4 * (n : Int) + 3) = 4 * n + 3 := IntWalk.i64_in _ (by omega)
      have t0 : (4 * (n : Int)).toNat = 4 * n := by omega
      have t1 : (4 * (n : Int) + 1).toNat = 4 * n + 1 := by omega
      have t2 : (4 * (n : Int) + 2).toNat = 4 * n + 2 := by omega
      have t3 : (4 * (n : Int) + 3).toNat = 4 * n + 3 := by omega
      have b0 : (0 : Int) ≤ 4 * (n : Int) ∧ 4 * (n : Int) < 64 := by omega
      have b1 : (0 : Int) ≤ 4 * (n : Int) + 1 ∧ 4 * (n : Int) + 1 < 64 := by omega
      have b2 : (0 : Int) ≤ 4 * (n : Int) + 2 ∧ 4 * (n : Int) + 2 < 64 := by omega
      have b3 : (0 : Int) ≤ 4 * (n : Int) + 3 ∧ 4 * (n : Int) + 3 < 64 := by omega
      go_wp2
      have hS : Gr wr [g] wr.drew := Gr.of (fun _ _ => rfl)
      refine wp_plan (.H 0 (.H 1 (.H 2 (.H 3 (.H 4 (.H 5 (.H 6 (.H 7 (.H 8 (.H 9 (.H 10 (.H 11 (.H 12 (.H 13 (.H 14 (.H 15 (.H 16 (.H 17 (.H 18 (.H 19 (.H 20 (.H 21 (.H 22 (.H 23 (.H 24 (.H 25 (.H 26 (.H 27 (.H 28 (.H 29 (.H 30 (.H 31 (.E 32 false (.E 33 false .Z)))))))))))))))))))))))))))))))))) (Gr wr [g]) (by kernel_rfl) (by kernel_rfl) ?_
      repeat (first | (refine plan_H rfl hS (fun K hK => ?_); go_simp; refine hK _ ?_; clear hK K) | (refine plan_E rfl (fun K hK => ?_); go_simp; (first | refine hK _ _ (fun _ => hS) ?_ | refine hK _ _ nofun ?_); clear hK K))
      refine plan_Z ?_
      rw [word_v]
      clear hS u0 u1 u2 u3 e0 e1 e2 e3 t0 t1 t2 t3 b0 b1 b2 b3 c0 c1 c2 c3
      generalize word [x0, x1, x2, x3] = W at *
      go_wp2_with (with_reducible refine stop_app ?_)
      unfold Stop
      have hno := own_kp ho (((Kp.refl [] wr).drew).alloc (.cells #[.int .u32 (W.toNat : Int)] 133)) (by simp)
      refine wpList_app _ rfl _ _ 143 143 rfl w.heap.size 133 i0 _ 1 4 Tryd.underlying143 hi hz0 hz1 hz2 rfl (by omega) (.slice av n c) _ _ rfl hno (.slice (some ⟨wr.drew.heap.size, 0, none⟩) 1 1) 1 (wcells ([W])) rfl (Src.of_sl Tryd.underlying143 (sl_alloc1 wr.drew _ #[.int .u32 (W.toNat : Int)] 1 rfl) wcells_one) (by omega) (by omega) (by simp; omega) ?_
      intro v3 w3 ho3 hg3 hx3
      have hk3 := (hkr.drew.alloc (.cells #[.int .u32 (W.toNat : Int)] 133)).grown hg3 (fun k hk => .inr (ho.lt k hk).1)
      obtain ⟨a3, c3, rfl⟩ := own_form ho3
      rw [← wcells_append, ← HN.out] at ho3
      go_wp2
      go_roundw
      case measure => simp [intOf]; omega
      case rel => exact ⟨n + 1, a3, c3, by omega, by go_num, by simp, ho3, hk3⟩
    · have h16 : n = 16 := by omega
      subst h16
      go_wp2
      obtain ⟨wo, rfl⟩ : ∃ wo : World, wo = wr := ⟨_, rfl⟩
      go_loopw [3, 6] (fun v3 v4 wr => ∃ (n : Nat) (av : Option Addr) (c : Nat), 16 ≤ n ∧ n ≤ 64 ∧ v4 = .int .i64 n ∧ v3 = .slice av n c ∧ Own wr w.heap.size 133 1 (.slice av n c) n (wcells (spr b n)) ∧ Kp [] w wr) (fun _ v _ => 64 - (intOf v).toNat)
      case atStart => exact ⟨16, av, c, by omega, by omega, rfl, rfl, ho, hkr⟩
      case round =>
        obtain ⟨n, av, c, hn16, hn64, rfl, rfl, ho, hkr⟩ := hrel
        have hsz := hkr.size
        by_cases hlt : n < 64
        · obtain ⟨bw, cw, hav, hcw, hbw, hbl⟩ := ob_some ho (by omega)
          cases hav
          have hcell : ∀ i, i < n → wr.cell? ⟨bw, i, none⟩ = some (.int .u32 (((spr b n).getD i 0).toNat : Int)) := fun i hi => by
            rw [ho.cellAt i (by omega), wcells_get _ _ (by simpa using hi)]
          have c15 := hcell (n - 15) (by omega)
          have c2 := hcell (n - 2) (by omega)
          have c16 := hcell (n - 16) (by omega)
          have c7 := hcell (n - 7) (by omega)
          clear hcell
          have hnext : spr b (n + 1) = spr b n ++ [(spr b n).getD (n - 16) 0 + sig0 ((spr b n).getD (n - 15) 0) + (spr b n).getD (n - 7) 0 + sig1 ((spr b n).getD (n - 2) 0)] := by rw [spr, if_neg (by omega)]
          generalize (spr b n).getD (n - 16) 0 = x16 at *
          generalize (spr b n).getD (n - 15) 0 = x15 at *
          generalize (spr b n).getD (n - 7) 0 = x7 at *
          generalize (spr b n).getD (n - 2) 0 = x2 at *
          have HN := Lib.hid hnext
          clear hnext
          have e15 : IntKind.i64.wrap ((n : Int) - 15) = n - 15 := IntWalk.i64_in _ (by omega)
          have e2 : IntKind.i64.wrap ((n : Int) - 2) = n - 2 := IntWalk.i64_in _ (by omega)
          have e16 : IntKind.i64.wrap ((n : Int) - 16) = n - 16 := IntWalk.i64_in _ (by omega)
          have e7 : IntKind.i64.wrap ((n : Int) - 7) = n - 7 := IntWalk.i64_in _ (by omega)
          have b15 : (0 : Int) ≤ (n : Int) - 15 ∧ (n : Int) - 15 < n := by omega
          have b2 : (0 : Int) ≤ (n : Int) - 2 ∧ (n : Int) - 2 < n := by omega
          have b16 : (0 : Int) ≤ (n : Int) - 16 ∧ (n : Int) - 16 < n := by omega
          have b7 : (0 : Int) ≤ (n : Int) - 7 ∧ (n : Int) - 7 < n := by omega
          have a15 : (15 : Int) ≤ (n : Int) := by omega
          have a2 : (2 : Int) ≤ (n : Int) := by omega
          have a16 : (16 : Int) ≤ (n : Int) := by omega
          have a7 : (7 : Int) ≤ (n : Int) := by omega
          have t15 : ((n : Int) - 15).toNat = n - 15 := by omega
          have t2 : ((n : Int) - 2).toNat = n - 2 := by omega
          have t16 : ((n : Int) - 16).toNat = n - 16 := by omega
          have t7 : ((n : Int) - 7).toNat = n - 7 := by omega
          go_wp2_with (first
            | (go_at_call 104; first | ((with_reducible refine (rrot x15 7 7 _ rfl (by omega) (by omega)).mono ?_); rintro e w' ⟨rfl, rfl⟩) | ((with_reducible refine (rrot x15 18 18 _ rfl (by omega) (by omega)).mono ?_); rintro e w' ⟨rfl, rfl⟩) | ((with_reducible refine (rrot x2 17 17 _ rfl (by omega) (by omega)).mono ?_); rintro e w' ⟨rfl, rfl⟩) | ((with_reducible refine (rrot x2 19 19 _ rfl (by omega) (by omega)).mono ?_); rintro e w' ⟨rfl, rfl⟩))
            | (go_at_call 105; first | ((with_reducible refine (rsh x15 3 3 8 _ rfl rfl (by omega)).mono ?_); rintro e w' ⟨rfl, rfl⟩) | ((with_reducible refine (rsh x2 10 10 1024 _ rfl rfl (by omega)).mono ?_); rintro e w' ⟨rfl, rfl⟩)))
          rw [sig0_v, sig1_v]
          have hS : Gr wr [bw] wr.drew := Gr.of (fun _ _ => rfl)
          refine wp_plan (.H 0 (.H 1 (.H 2 (.H 3 (.H 4 (.H 5 (.H 6 (.H 7 (.H 8 (.H 9 (.H 10 (.H 11 (.H 12 (.H 13 (.E 14 true (.E 15 true (.E 16 true (.E 17 false (.E 18 false .Z))))))))))))))))))) (Gr wr [bw]) (by kernel_rfl) (by kernel_rfl) ?_
          repeat (refine plan_H rfl hS (fun K hK => ?_); go_simp; refine hK _ ?_; clear hK K)
          refine plan_E rfl (fun K hK => ?_); go_simp
          refine hK _ _ (fun _ => hS) ?_
          clear hK K
          refine plan_E rfl (fun K hK => ?_); go_simp
          refine hK _ _ (fun _ => hS) ?_
          clear hK K
          rw [u32_add_v, u32_add_v, u32_add_v]
          have hA : x16 + x7 + sig0 x15 + sig1 x2 = x16 + sig0 x15 + x7 + sig1 x2 := by rw [UInt32.add_assoc x16 x7, UInt32.add_comm x7, ← UInt32.add_assoc]
          rw [hA]
          generalize x16 + sig0 x15 + x7 + sig1 x2 = W at *
          refine plan_E rfl (fun K hK => ?_); go_simp
          refine hK _ _ (fun _ => Gr.of (fun b hb => Below.heap_alloc _ _ _ (by simp at hb ⊢; omega))) ?_
          clear hK K
          have hkD : Kp [] wr (wr.alloc (.cells #[.int .u32 (W.toNat : Int)] 133)).drew := ((Kp.refl [] wr).alloc _).drew
          refine plan_E rfl (fun K hK => ?_)
          refine step_app _ rfl _ _ 143 143 rfl w.heap.size 133 i0 _ 1 4 Tryd.underlying143 hi hz0 hz1 hz2 rfl (by omega) (.slice (some ⟨bw, 0, none⟩) n c) n (wcells (spr b n)) rfl (own_kp ho hkD (by simp)) (.slice (some ⟨wr.heap.size, 0, none⟩) 1 1) 1 (wcells [W]) rfl (Src.of_sl Tryd.underlying143 ((sl_alloc1 wr 133 #[.int .u32 (W.toNat : Int)] 1 rfl).kp0 ((Kp.refl [] _).drew)) wcells_one) (by omega) (by omega) (by have := hkD.size; omega) ?_
          intro v3 w3 ho3 hg3 hx3
          have hk3 := (hkr.trans hkD).grown hg3 (fun k hk => .inr (ho.lt k hk).1)
          obtain ⟨a3, c3, rfl⟩ := own_form ho3
          rw [← wcells_append, ← HN.out] at ho3
          refine hK _ _ nofun ?_
          clear hK K
          refine plan_E rfl (fun K hK => ?_); go_simp
          refine hK _ _ nofun ?_
          clear hK K
          refine plan_Z ?_
          clear hS e15 e2 e16 e7 b15 b2 b16 b7 a15 a2 a16 a7 t15 t2 t16 t7 c15 c2 c16 c7
          go_wp2
          refine ⟨?_, ?measure⟩
          (repeat apply Exists.intro)
          refine ⟨?rel, rfl⟩
          case measure => simp [intOf]; omega
          case rel => exact ⟨n + 1, a3, c3, by omega, by omega, by go_num, by simp, ho3, hk3⟩
        · obtain rfl : n = 64 := by omega
          go_wp2
          go_ret
          exact ⟨_, _, rfl, ho, hkr⟩
end Go.Proofs.YtddpefbpiehgeaaDoor

/- The reference's digest: a block changes eight words. -/
namespace Go.Proofs.YtddpefbpiehgeaaDoor
open Go Go.RowKit
set_option maxRecDepth 100000
set_option linter.unusedVariables false
set_option linter.unusedSectionVars false
set_option linter.unusedSimpArgs false

/-- The reference's tables. -/
structure GR (w : World) : Prop where
  size : 4 ≤ w.heap.size
  start : ∀ i, i < 8 → w.cell? ⟨1, i, none⟩ = some (w32 (initW.getD i 0))
  rounds : ∀ i, i < 64 → w.cell? ⟨3, i, none⟩ = some (w32 (kW.getD i 0))
theorem GR.kp {S : List Nat} {w w' : World} (h : GR w) (hk : Kp S w w') (hS : ∀ s ∈ S, 4 ≤ s) : GR w' :=
  ⟨Nat.le_trans h.size hk.size, fun i hi => (hk.cells.1 _ _ (by have := h.size; omega) (fun hm => by have := hS _ hm; omega)).trans (h.start i hi),
    fun i hi => (hk.cells.1 _ _ (by have := h.size; omega) (fun hm => by have := hS _ hm; omega)).trans (h.rounds i hi)⟩
theorem GR.kp0 {w w' : World} (h : GR w) (hk : Kp [] w w') : GR w' := h.kp hk (by simp)

/-- The words behind place i have moved up. -/
def upW (x : W8) (i : Nat) : List UInt32 := x.list.take (i + 1) ++ (x.list.drop i).take (7 - i)
theorem upW_length (x : W8) (i : Nat) (h : i ≤ 7) : (upW x i).length = 8 := by
  match i, h with
  | 0, _ | 1, _ | 2, _ | 3, _ | 4, _ | 5, _ | 6, _ | 7, _ => rfl
theorem upW_7 (x : W8) : upW x 7 = x.list := rfl
theorem upW_0 (x : W8) : upW x 0 = [x.a, x.a, x.b, x.c, x.d, x.e, x.f, x.g] := rfl
theorem upW_get (x : W8) (i : Nat) (h : i < 7) (h2 : i < (upW x (i + 1)).length) : (upW x (i + 1))[i] = x.list.getD i 0 := by
  match i, h with
  | 0, _ | 1, _ | 2, _ | 3, _ | 4, _ | 5, _ | 6, _ => rfl
theorem upW_set (x : W8) (i : Nat) (h : i < 7) : (upW x (i + 1)).set (i + 1) (x.list.getD i 0) = upW x i := by
  match i, h with
  | 0, _ | 1, _ | 2, _ | 3, _ | 4, _ | 5, _ | 6, _ => rfl

theorem ch_v (e f g : UInt32) : bits BinOp.xor IntKind.u32 (bits BinOp.and IntKind.u32 (e.toNat : Int) (f.toNat : Int)) (bits BinOp.and IntKind.u32 (bits BinOp.xor IntKind.u32 4294967295 (e.toNat : Int)) (g.toNat : Int)) = (((e &&& f) ^^^ (~~~e &&& g)).toNat : Int) := by
  have := u32_not_v e
  rw [show (if IntKind.u32.signed = true then -1 else IntKind.u32.max) = 4294967295 from rfl] at this
  rw [this, u32_and_v, u32_and_v, u32_xor_v]
theorem maj_v (a b c : UInt32) : bits BinOp.xor IntKind.u32 (bits BinOp.xor IntKind.u32 (bits BinOp.and IntKind.u32 (a.toNat : Int) (b.toNat : Int)) (bits BinOp.and IntKind.u32 (a.toNat : Int) (c.toNat : Int))) (bits BinOp.and IntKind.u32 (b.toNat : Int) (c.toNat : Int)) = (((a &&& b) ^^^ (a &&& c) ^^^ (b &&& c)).toNat : Int) := by
  rw [u32_and_v, u32_and_v, u32_and_v, u32_xor_v, u32_xor_v]
theorem add3_v (a b c : UInt32) : ((a.toNat : Int) + (b.toNat : Int) + (c.toNat : Int)) % 4294967296 = ((a + (b + c)).toNat : Int) := by rw [← add_add_m, Int.add_assoc]
theorem rend (X : W8) (kn ln S1 CH T Z1 MJ : UInt32) (h1 : Hid (rotr X.e 6 ^^^ rotr X.e 11 ^^^ rotr X.e 25 = S1)) (h2 : Hid ((X.e &&& X.f) ^^^ (~~~X.e &&& X.g) = CH)) (h3 : Hid (X.h + S1 + CH + kn + ln = T))
    (h4 : Hid (rotr X.a 2 ^^^ rotr X.a 13 ^^^ rotr X.a 22 = Z1)) (h5 : Hid ((X.a &&& X.b) ^^^ (X.a &&& X.c) ^^^ (X.b &&& X.c) = MJ)) (T0 : TypeId) :
    some (Obj.cells ((#[Value.int IntKind.u32 (X.a.toNat : Int), .int .u32 (X.a.toNat : Int), .int .u32 (X.b.toNat : Int), .int .u32 (X.c.toNat : Int), .int .u32 (X.d.toNat : Int), .int .u32 (X.e.toNat : Int), .int .u32 (X.f.toNat : Int), .int .u32 (X.g.toNat : Int)].setIfInBounds 4 (.int .u32 ((X.d + T).toNat : Int))).setIfInBounds 0 (.int .u32 ((T + (Z1 + MJ)).toNat : Int))) T0) =
      some (.cells (rnd X kn ln).vals T0) := by
  have h1 := h1.out
  have h2 := h2.out
  have h3 := h3.out
  have h4 := h4.out
  have h5 := h5.out
  subst h1 h2 h3 h4 h5
  rfl
theorem rsize8 : (Tryd.prog.info? 134).map (·.size) = some 8 := by kernel_rfl

set_option maxHeartbeats 3000000 in
theorem rchange_aux (x Z : W8) (v : Value) (b : List UInt8) (L : List UInt32) (w : World) (hG : GR w) (hb : Bs w v b) (hl : b.length = 64) (HLe : Hid (spr b 64 = L)) (HZ : Hid (Z = add8 x (rounds kW L x 64))) :
    Calls Tryd.prog 100 #[.agg x.vals, v] w fun e w' => e = .returned (.agg Z.vals) ∧ Kp [] w w' := by
  have hv : x.vals = #[.int .u32 (x.a.toNat : Int), .int .u32 (x.b.toNat : Int), .int .u32 (x.c.toNat : Int), .int .u32 (x.d.toNat : Int), .int .u32 (x.e.toNat : Int), .int .u32 (x.f.toNat : Int), .int .u32 (x.g.toNat : Int), .int .u32 (x.h.toNat : Int)] := rfl
  have HL := Lib.hid hl
  clear hl
  have hspr : (spr b 64).length = 64 := spr_length b 64
  rw [HLe.out] at hspr
  have HS := Lib.hid hspr
  clear hspr
  rw [hv]
  go_enter Tryd.func100, Tryd.ntmps100
  go_wp2_with fail
  have hk0 : Kp [] w ((w.alloc (.cells x.vals 134)).alloc (.cells (W8.vals ⟨0, 0, 0, 0, 0, 0, 0, 0⟩) 134)) := ((Kp.refl [] w).alloc _).alloc _
  refine (rspread_calls v b _ (hb.kp0 hk0) HL.out).mono ?_
  rintro e w1 ⟨sa, sc, rfl, ho1, hk1⟩
  have HH : w1.heap[w.heap.size]? = some (.cells x.vals 134 (0, 0)) := hk1.heap (by simp only [halloc, World.size_alloc]; simp) (by simp)
  have HR : w1.heap[w.heap.size + 1]? = some (.cells (W8.vals ⟨0, 0, 0, 0, 0, 0, 0, 0⟩) 134 (0, 0)) := hk1.heap (by simp only [halloc, World.size_alloc]; simp) (by simp)
  have hkk := hk0.trans hk1
  have hsz1 : w.heap.size + 2 ≤ w1.heap.size := by have := hk1.size; simpa using this
  rw [HLe.out] at ho1
  obtain ⟨bw, cw, hav, -, hbw, hbl⟩ := ob_some ho1 (by omega)
  cases hav
  have hbw2 : w.heap.size + 2 ≤ bw := by simpa using hbw
  have hcell : ∀ i, i < 64 → w1.cell? ⟨bw, i, none⟩ = some (.int .u32 ((L.getD i 0).toNat : Int)) := fun i hi => by
    rw [ho1.cellAt i (by omega), wcells_get _ _ (by have := HS.out; omega)]
  rw [vals_eq] at HH
  have HH_0 := cell_heap (w := w1) (b := w.heap.size) HH 0
  have HH_1 := cell_heap (w := w1) (b := w.heap.size) HH 1
  have HH_2 := cell_heap (w := w1) (b := w.heap.size) HH 2
  have HH_3 := cell_heap (w := w1) (b := w.heap.size) HH 3
  have HH_4 := cell_heap (w := w1) (b := w.heap.size) HH 4
  have HH_5 := cell_heap (w := w1) (b := w.heap.size) HH 5
  have HH_6 := cell_heap (w := w1) (b := w.heap.size) HH 6
  have HH_7 := cell_heap (w := w1) (b := w.heap.size) HH 7
  simp only [List.getElem?_toArray, List.getElem?_cons_zero, List.getElem?_cons_succ] at HH_0 HH_1 HH_2 HH_3 HH_4 HH_5 HH_6 HH_7
  go_wp2_with fail
  obtain ⟨w2, hw2⟩ : ∃ w2, w2 = w1.alloc (.cells x.vals 134) := ⟨_, rfl⟩
  have h6 : w2.heap[w1.heap.size]? = some (.cells (rounds kW L x 0).vals 134 (0, 0)) := by rw [hw2]; exact heap_alloc_new _ _
  have hk12 : Kp [] w1 w2 := by rw [hw2]; exact (Kp.refl [] w1).alloc _
  have hs2 : w2.heap.size = w1.heap.size + 1 := by rw [hw2]; simp
  rw [vals_eq] at hw2
  rw [← hw2]
  have HW : ∀ i, i < 64 → w2.cell? ⟨bw, i, none⟩ = some (.int .u32 ((L.getD i 0).toNat : Int)) := fun i hi => (hk12.cells0.1 _ _ hbl).trans (hcell i hi)
  have HH2 := hk12.heap HH (by simp)
  rw [← vals_eq] at HH2
  have HR2 := hk12.heap HR (by simp)
  have hK2 := hkk.trans hk12
  have hG2 := hG.kp0 hK2
  have hg4 := hG.size
  obtain ⟨va, hva⟩ : ∃ va, va = Value.agg x.vals := ⟨_, rfl⟩
  rw [vals_eq] at hva
  simp only [← hva]
  clear hva
  generalize hp6 : w1.heap.size = p6 at *
  generalize hh0 : w.heap.size = h0 at *
  have HP6 := Lib.hid hp6
  have HH0 := Lib.hid hh0
  have hb6 : bw < p6 := hbl
  clear hw2 HH_0 HH_1 HH_2 HH_3 HH_4 HH_5 HH_6 HH_7 hcell ho1 HH HR hk0 hk1 hkk hk12 hp6 hh0 hbl hbw hG hb hv
  go_loopw [7] (fun v7 wr => ∃ n : Nat, n ≤ 64 ∧ v7 = .int .i64 n ∧ wr.heap[p6]? = some (.cells (rounds kW L x n).vals 134 (0, 0)) ∧ Kp [p6] w2 wr) (fun v7 _ => 64 - (intOf v7).toNat)
  case atStart => exact ⟨0, by omega, rfl, h6, Kp.refl _ _⟩
  case round =>
    as_aux_lemma =>
      obtain ⟨n, hn, rfl, H6, hkr⟩ := hrel
      have hsr := lt_of_heap H6
      by_cases hlt : n < 64
      · have cw : wr.cell? ⟨bw, n, none⟩ = some (.int .u32 ((L.getD n 0).toNat : Int)) := (hkr.cells.1 _ _ (by omega) (by simp; omega)).trans (HW n hlt)
        have hk : wr.cell? ⟨3, n, none⟩ = _ := (hkr.cells.1 _ _ (by have := hG2.size; omega) (by simp; omega)).trans (hG2.rounds n hlt)
        have hnext : rounds kW L x (n + 1) = rnd (rounds kW L x n) (kW.getD n 0) (L.getD n 0) := rfl
        generalize rounds kW L x n = X at *
        generalize kW.getD n 0 = kn at *
        generalize L.getD n 0 = ln at *
        have HY := Lib.hid hnext
        clear hnext
        rw [vals_eq X] at H6
        have H6_0 := cell_heap (w := wr) (b := p6) H6 0
        have H6_1 := cell_heap (w := wr) (b := p6) H6 1
        have H6_2 := cell_heap (w := wr) (b := p6) H6 2
        have H6_3 := cell_heap (w := wr) (b := p6) H6 3
        have H6_4 := cell_heap (w := wr) (b := p6) H6 4
        have H6_5 := cell_heap (w := wr) (b := p6) H6 5
        have H6_6 := cell_heap (w := wr) (b := p6) H6 6
        have H6_7 := cell_heap (w := wr) (b := p6) H6 7
        simp only [List.getElem?_toArray, List.getElem?_cons_zero, List.getElem?_cons_succ] at H6_0 H6_1 H6_2 H6_3 H6_4 H6_5 H6_6 H6_7
        unfold w32 at hk
        have i0 : (0 : Int) ≤ n := by omega
        have i64 : (n : Int) < 64 := by omega
        have sg : IntKind.u32.signed = false := rfl
        have mx : IntKind.u32.max = 4294967295 := rfl
        go_wp2_with (go_at_call 104; first | ((with_reducible refine (rrot X.e 6 6 _ rfl (by omega) (by omega)).mono ?_); rintro e w' ⟨rfl, rfl⟩) | ((with_reducible refine (rrot X.e 11 11 _ rfl (by omega) (by omega)).mono ?_); rintro e w' ⟨rfl, rfl⟩) | ((with_reducible refine (rrot X.e 25 25 _ rfl (by omega) (by omega)).mono ?_); rintro e w' ⟨rfl, rfl⟩))
        rw [big1_v, ch_v]
        have hS : Gr wr [p6, 3, bw] wr.drew := Gr.of (fun _ _ => rfl)
        generalize hs1 : rotr X.e 6 ^^^ rotr X.e 11 ^^^ rotr X.e 25 = S1
        have HS1 := Lib.hid hs1
        generalize hch : (X.e &&& X.f) ^^^ (~~~X.e &&& X.g) = CH
        have HCH := Lib.hid hch
        clear hs1 hch
        refine wp_plan (.H 0 (.H 1 (.H 2 (.H 3 (.H 4 (.H 5 (.H 6 (.H 7 (.H 8 (.H 9 (.H 10 (.H 11 (.H 12 (.H 13 (.E 14 false (.E 15 false .Z)))))))))))))))) (Gr wr [p6, 3, bw]) (by as_aux_lemma => kernel_rfl) (by as_aux_lemma => kernel_rfl) ?_
        repeat (first | (refine plan_H rfl hS (fun K hK => ?_); go_simp; refine hK _ ?_; clear hK K) | (refine plan_E rfl (fun K hK => ?_); go_simp; (first | refine hK _ _ (fun _ => hS) ?_ | refine hK _ _ nofun ?_); clear hK K))
        refine plan_Z ?_
        rw [u32_add_v, u32_add_v, u32_add_v, u32_add_v]
        generalize hT : X.h + S1 + CH + kn + ln = T
        have HT := Lib.hid hT
        clear hT hS hk cw
        go_wp2_with (go_at_call 104; first | ((with_reducible refine (rrot X.a 2 2 _ rfl (by omega) (by omega)).mono ?_); rintro e w' ⟨rfl, rfl⟩) | ((with_reducible refine (rrot X.a 13 13 _ rfl (by omega) (by omega)).mono ?_); rintro e w' ⟨rfl, rfl⟩) | ((with_reducible refine (rrot X.a 22 22 _ rfl (by omega) (by omega)).mono ?_); rintro e w' ⟨rfl, rfl⟩))
        rw [big0_v, maj_v]
        generalize hz1 : rotr X.a 2 ^^^ rotr X.a 13 ^^^ rotr X.a 22 = Z1
        have HZ1 := Lib.hid hz1
        generalize hmj : (X.a &&& X.b) ^^^ (X.a &&& X.c) ^^^ (X.b &&& X.c) = MJ
        have HMJ := Lib.hid hmj
        clear hz1 hmj sg mx H6_0 H6_1 H6_2 H6_3 H6_4 H6_5 H6_6 H6_7
        rw [← vals_eq X] at H6
        obtain ⟨wo, hwo⟩ : ∃ wo : World, wo = wr.drew := ⟨_, rfl⟩
        have H6o : wo.heap[p6]? = some (.cells (arr (upW X 7)) 134 (0, 0)) := by rw [hwo, hdrew, H6]; rfl
        have hko : Kp [p6] w2 wo := by rw [hwo]; exact hkr.drew
        rw [← hwo]
        clear hwo H6 hkr hsr
        go_loopw [15] (fun v15 wr => ∃ i : Nat, i ≤ 7 ∧ v15 = .int .i64 i ∧ wr.heap[p6]? = some (.cells (arr (upW X i)) 134 (0, 0)) ∧ Kp [p6] w2 wr) (fun v15 _ => (intOf v15).toNat)
        case atStart => exact ⟨7, by omega, rfl, H6o, hko⟩
        case round =>
          as_aux_lemma =>
            obtain ⟨i, hi, rfl, Hi, hki⟩ := hrel
            have hsr := lt_of_heap Hi
            obtain _ | i := i
            · rw [upW_0] at Hi
              have hHi : wr.heap[p6]? = some (.cells #[.int .u32 (X.a.toNat : Int), .int .u32 (X.a.toNat : Int), .int .u32 (X.b.toNat : Int), .int .u32 (X.c.toNat : Int), .int .u32 (X.d.toNat : Int), .int .u32 (X.e.toNat : Int), .int .u32 (X.f.toNat : Int), .int .u32 (X.g.toNat : Int)] 134 (0, 0)) := Hi
              clear Hi
              have hHi_0 := cell_heap (w := wr) (b := p6) hHi 0
              have hHi_1 := cell_heap (w := wr) (b := p6) hHi 1
              have hHi_2 := cell_heap (w := wr) (b := p6) hHi 2
              have hHi_3 := cell_heap (w := wr) (b := p6) hHi 3
              have hHi_4 := cell_heap (w := wr) (b := p6) hHi 4
              have hHi_5 := cell_heap (w := wr) (b := p6) hHi 5
              have hHi_6 := cell_heap (w := wr) (b := p6) hHi 6
              have hHi_7 := cell_heap (w := wr) (b := p6) hHi 7
              simp only [List.getElem?_toArray, List.getElem?_cons_zero, List.getElem?_cons_succ] at hHi_0 hHi_1 hHi_2 hHi_3 hHi_4 hHi_5 hHi_6 hHi_7
              have hf0 := free_heap hHi 0
              have hf4 := free_heap hHi 4
              go_wp2
              go_roundw
              case measure => simp [intOf]; omega
              case rel =>
                refine ⟨n + 1, by omega, by go_num, ?_, (hki.setCell (.inl (by simp)) _).setCell (.inl (by simp)) _⟩
                rw [heap_set _ (heap_set _ hHi), show rounds kW L x (n + 1) = rnd X kn ln from HY.out]
                have e1 : ((X.d.toNat : Int) + (T.toNat : Int)) % 4294967296 = ((X.d + T).toNat : Int) := u32_add_m _ _
                have e2 : ((T.toNat : Int) + (Z1.toNat : Int) + (MJ.toNat : Int)) % 4294967296 = ((T + (Z1 + MJ)).toNat : Int) := add3_v _ _ _
                rw [e1, e2]
                exact rend X kn ln S1 CH T Z1 MJ HS1 HCH HT HZ1 HMJ 134
            · have c1 : wr.cell? ⟨p6, i, none⟩ = some (w32 (X.list.getD i 0)) := by
                rw [cell_heap Hi, arr_get _ _ (by rw [upW_length _ _ hi]; omega), upW_get _ _ (by omega)]
              have f1 := free_heap Hi (i + 1)
              have hup : i + 1 < (upW X (i + 1)).length := by rw [upW_length _ _ hi]; omega
              obtain ⟨xo, c2⟩ : ∃ xo, wr.cell? ⟨p6, i + 1, none⟩ = some (w32 xo) := ⟨_, (cell_heap Hi _).trans (arr_get _ _ hup)⟩
              have hset := upW_set X i (by omega)
              generalize X.list.getD i 0 = xi at *
              have HS8 := Lib.hid hset
              clear hset
              unfold w32 at c1 c2
              have ei : IntKind.i64.wrap ((i : Int) + 1 - 1) = i := by rw [show (i : Int) + 1 - 1 = i by omega]; exact IntWalk.i64_in _ (by omega)
              have bi : (0 : Int) ≤ (i : Int) ∧ (i : Int) < 8 := by omega
              have bi1 : (0 : Int) ≤ (i : Int) + 1 ∧ (i : Int) + 1 < 8 := by omega
              have hp : (0 : Int) < (i : Int) + 1 := by omega
              have ti : ((i : Int) + 1).toNat = i + 1 := by omega
              go_wp2_with fail
              go_roundw
              case measure => simp [intOf]
              case rel =>
                refine ⟨i, by omega, by go_num, ?_, hki.setCell (.inl (by simp)) _⟩
                rw [heap_set _ Hi]
                have := arr_set (upW X (i + 1)) (i + 1) xi
                unfold w32 at this
                rw [this, HS8.out]
      · have h64 : n = 64 := by omega
        rw [h64] at H6
        generalize hXe : rounds kW L x 64 = X at H6
        have hZX : Z = add8 x X := by rw [HZ.out, ← hXe]
        have HZX := Lib.hid hZX
        have h60 : h0 ≠ p6 := by omega
        have h61 : h0 + 1 ≠ p6 := by omega
        have HHx := hkr.heap HH2 (by simpa using h60)
        have HRx := hkr.heap HR2 (by simpa using h61)
        have hd : decide ((n : Int) < 64) = false := by rw [decide_eq_false_iff_not]; omega
        clear hXe hZX h64
        go_wp2
        obtain ⟨wo, hwo⟩ : ∃ wo : World, wo = wr := ⟨_, rfl⟩
        have hkw : Kp [h0, p6] w2 wr := hkr.mono (by simp)
        clear hwo wo
        go_loopw [16] (fun v16 wr => ∃ i : Nat, i ≤ 8 ∧ v16 = .int .i64 i ∧ wr.heap[h0]? = some (.cells (arr (half8 x X i)) 134 (0, 0)) ∧ wr.heap[p6]? = some (.cells X.vals 134 (0, 0)) ∧
          wr.heap[h0 + 1]? = some (.cells (W8.vals ⟨0, 0, 0, 0, 0, 0, 0, 0⟩) 134 (0, 0)) ∧ Kp [h0, p6] w2 wr) (fun v16 _ => 8 - (intOf v16).toNat)
        case atStart => exact ⟨0, by omega, rfl, by rw [half8_zero]; exact HHx, H6, HRx, hkw⟩
        case round =>
          as_aux_lemma =>
            obtain ⟨i, hi, rfl, HHi, HXi, HRi, hki⟩ := hrel
            have hsi := lt_of_heap HXi
            by_cases hlt8 : i < 8
            · have c1 : wr.cell? ⟨h0, i, none⟩ = some (w32 (x.list.getD i 0)) := by
                rw [cell_heap HHi, arr_get _ _ (by rw [half8_length _ _ _ hi]; exact hlt8), half8_at _ _ _ hlt8]
              have c2 : wr.cell? ⟨p6, i, none⟩ = some (w32 (X.list.getD i 0)) := by
                rw [cell_heap HXi]
                have h8 : i < X.list.length := hlt8
                have := arr_get X.list i h8
                rw [W8.vals, this]
                simp [h8]
              have f1 := free_heap HHi i
              have hset8 := half8_set x X i hlt8
              generalize x.list.getD i 0 = xi at *
              generalize X.list.getD i 0 = yi at *
              have HS8 := Lib.hid hset8
              clear hset8
              unfold w32 at c1 c2
              have i0 : (0 : Int) ≤ i := by omega
              have i8 : (i : Int) < 8 := by omega
              go_wp2
              have hS : Gr wr [h0, p6] wr.drew := Gr.of (fun _ _ => rfl)
              refine wp_plan (.H 0 (.H 1 (.H 2 (.H 3 (.H 4 (.H 5 (.H 6 (.E 7 true (.E 8 false (.E 9 false .Z)))))))))) (Gr wr [h0, p6]) (by as_aux_lemma => kernel_rfl) (by as_aux_lemma => kernel_rfl) ?_
              repeat (first | (refine plan_H rfl hS (fun K hK => ?_); go_simp; refine hK _ ?_; clear hK K) | (refine plan_E rfl (fun K hK => ?_); go_simp; (first | refine hK _ _ (fun _ => hS) ?_ | refine hK _ _ nofun ?_); clear hK K))
              refine plan_Z ?_
              rw [u32_add_v]
              clear hS c1 c2 f1
              go_wp2
              go_roundw
              case measure => simp [intOf]; omega
              case rel =>
                refine ⟨i + 1, by omega, by go_num, ?_, ?_, ?_, (hki.setCell (.inl (by simp)) _).drew⟩
                · rw [u32_add_m, hdrew, heap_set _ HHi]
                  have := arr_set (half8 x X i) i (xi + yi)
                  unfold w32 at this
                  rw [this, HS8.out]
                · rw [hdrew, hset _ _ _ _ (by simpa using h60.symm)]; exact HXi
                · rw [hdrew, hset _ _ _ _ (by simp)]; exact HRi
            · obtain rfl : i = 8 := by omega
              rw [half8_full] at HHi
              have hsz8 : (Tryd.prog.info? 134).map (·.size) = some (arr (add8 x X).list).size := by rw [show (arr (add8 x X).list).size = 8 from rfl]; exact rsize8
              have hone : (arr (add8 x X).list).all (·.oneCell') = true := by simp [arr, W8.list, w32, Value.oneCell']
              have Hsz8 := Lib.hid hsz8
              have Hone := Lib.hid hone
              clear hsz8 hone
              have hrow := setRow_heap wr (h0 + 1) _ (arr (add8 x X).list) _ _ HRi
              have hkf : Kp [] w (wr.setRow (h0 + 1) (arr (add8 x X).list)) := by
                refine (hK2.trans' hki (by have := HH0.out; simp; omega)).trans' (T := [h0 + 1]) ⟨rfl, rfl, rfl, by simp only [World.setRow, Array.size_modify]; exact Nat.le_refl _, fun k hk hs => setRow_other wr (h0 + 1) k _ (by simpa using hs)⟩ (by have := HH0.out; simp; omega)
              go_wp2_with (first
                | (refine wpList_load_row rfl 134 _ rfl h0 rfl _ _ _ _ HHi Tryd.underlying134 rfl Hsz8.out ?_)
                | (refine wpList_store_row rfl 134 _ _ rfl (h0 + 1) _ rfl rfl _ _ HRi Hsz8.out ?_ Hone.out ?_))
              · rfl
              · go_wp2
                exact bodyPost_ret (v := .agg (arr (add8 x X).list)) (results_cell_row rfl _ _ (h0 + 1) _ _ _ _ (by simp [Act.put]) hrow Tryd.underlying134 rfl Hsz8.out) (by simp [Act.put]) ⟨by rw [HZX.out]; rfl, hkf⟩

theorem rchange_calls (x : W8) (v : Value) (b : List UInt8) (w : World) (hG : GR w) (hb : Bs w v b) (hl : b.length = 64) :
    Calls Tryd.prog 100 #[.agg x.vals, v] w fun e w' => e = .returned (.agg (chg kW x b).vals) ∧ Kp [] w w' :=
  rchange_aux x (chg kW x b) v b (spr b 64) w hG hb hl (Lib.hid rfl) (Lib.hid rfl)
end Go.Proofs.YtddpefbpiehgeaaDoor

