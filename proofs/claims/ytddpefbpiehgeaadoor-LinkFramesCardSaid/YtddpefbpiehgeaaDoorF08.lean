/- The laws' helper copied. -/
import Derived.Test.YtddpefbpiehgeaaDoorF07
import Derived.Laws.MakeOwn
import Derived.Laws.CopyOwn
namespace Go.Proofs.YtddpefbpiehgeaaDoor
open Go Go.RowKit
set_option maxRecDepth 100000
set_option linter.unusedVariables false
set_option linter.unusedSectionVars false
set_option linter.unusedSimpArgs false

theorem u8infoF : (Tryd.prog.info? 5).map (fun i => (i.zero, i.size, i.bytes)) = some (some (.int .u8 0), 1, 1) := by kernel_rfl

theorem results_one {P : Program} {fn : Func} {p : Tmp} {ty : TypeId} (h : fn.results = #[.cell p ty]) (tmps : Array Value) (w : World) (g : Nat) (t : TypeId) (cs : Array Value) (fr : Nat × Nat) (d : TypeDesc)
    (hp : tmps.getD p undef = .pointer (some ⟨g, 0, none⟩)) (hg : w.heap[g]? = some (.cells cs t fr))
    (hu : P.underlying ty = some d) (hd : (match d with | .struct _ | .array _ _ => true | _ => false) = true) (hi : (P.info? ty).map (·.size) = some cs.size) :
    (results fn tmps).run P w = .ok (.agg cs) w := by
  have hp' : tmps[p]?.getD undef = .pointer (some ⟨g, 0, none⟩) := by simpa using hp
  simp [results, h, hp', asAddr, run_loadVar_row w g t ty cs fr d hg hu hd hi]

def RetC (f : Fr) (w : World) (e : Ending) (w' : World) : Prop := ∃ v, e = .returned v ∧ IsF w' w.heap.size v f ∧ Kp [] w w'

set_option maxHeartbeats 1000000 in
theorem copied_calls (f : Fr) (iv tv : Value) (w : World) (hi : Rws w iv f.its) (ht : Bs w tv f.t) (hn : f.its.length ≤ 5864062014805) (hnt : f.t.length ≤ 140737488355328) (hnl : ∀ x ∈ f.its, x.length ≤ 140737488355328) :
    Calls Tryd.prog 10 #[.agg (fcells f iv tv)] w (RetC f w) := by
  obtain ⟨ia, ic, rfl, hic⟩ := hi.form
  obtain ⟨ta, tc, rfl, -⟩ := Sl.form ht
  unfold fcells
  obtain ⟨i0, hi0, hz0, hz1, hz2⟩ := info_parts u8infoF
  have hk0 := (Kp.refl [] w).alloc (.cells #[.int .i64 f.k, .int .i64 f.a, .int .i64 f.b, .slice ia f.its.length ic, .slice ta f.t.length tc] 25)
  have hh0 := heap_alloc_new w (.cells #[.int .i64 f.k, .int .i64 f.a, .int .i64 f.b, .slice ia f.its.length ic, .slice ta f.t.length tc] 25)
  have hk1 := hk0.alloc (.cells #[.int .i64 0, .int .i64 0, .int .i64 0, .slice none 0 0, .slice none 0 0] 25)
  have hk2 := hk1.alloc (.cells #[.int .i64 f.k, .int .i64 f.a, .int .i64 f.b, .slice ia f.its.length ic, .slice ta f.t.length tc] 25)
  have hz := alloc_lt w (.cells #[.int .i64 f.k, .int .i64 f.a, .int .i64 f.b, .slice ia f.its.length ic, .slice ta f.t.length tc] 25)
  have hx2 : (((w.alloc (.cells #[.int .i64 f.k, .int .i64 f.a, .int .i64 f.b, .slice ia f.its.length ic, .slice ta f.t.length tc] 25)).alloc (.cells #[.int .i64 0, .int .i64 0, .int .i64 0, .slice none 0 0, .slice none 0 0] 25)).alloc (.cells #[.int .i64 f.k, .int .i64 f.a, .int .i64 f.b, .slice ia f.its.length ic, .slice ta f.t.length tc] 25)).heap.size = w.heap.size + 1 + 1 + 1 := by simp
  have h2A := (((Kp.refl [] _).alloc (.cells #[.int .i64 0, .int .i64 0, .int .i64 0, .slice none 0 0, .slice none 0 0] 25)).alloc (.cells #[.int .i64 f.k, .int .i64 f.a, .int .i64 f.b, .slice ia f.its.length ic, .slice ta f.t.length tc] 25)).heap hh0 (by simp)
  have h2Z := ((Kp.refl [] _).alloc (.cells #[.int .i64 f.k, .int .i64 f.a, .int .i64 f.b, .slice ia f.its.length ic, .slice ta f.t.length tc] 25)).heap (heap_alloc_new (w.alloc (.cells #[.int .i64 f.k, .int .i64 f.a, .int .i64 f.b, .slice ia f.its.length ic, .slice ta f.t.length tc] 25)) (.cells #[.int .i64 0, .int .i64 0, .int .i64 0, .slice none 0 0, .slice none 0 0] 25)) (by simp)
  have h2C := heap_alloc_new ((w.alloc (.cells #[.int .i64 f.k, .int .i64 f.a, .int .i64 f.b, .slice ia f.its.length ic, .slice ta f.t.length tc] 25)).alloc (.cells #[.int .i64 0, .int .i64 0, .int .i64 0, .slice none 0 0, .slice none 0 0] 25)) (.cells #[.int .i64 f.k, .int .i64 f.a, .int .i64 f.b, .slice ia f.its.length ic, .slice ta f.t.length tc] 25)
  simp only [World.size_alloc] at h2Z h2C
  go_enter Tryd.func10, Tryd.ntmps10
  go_wp2_with (with_reducible refine stop_app ?_)
  unfold Stop
  generalize (((w.alloc (.cells #[.int .i64 f.k, .int .i64 f.a, .int .i64 f.b, .slice ia f.its.length ic, .slice ta f.t.length tc] 25)).alloc (.cells #[.int .i64 0, .int .i64 0, .int .i64 0, .slice none 0 0, .slice none 0 0] 25)).alloc (.cells #[.int .i64 f.k, .int .i64 f.a, .int .i64 f.b, .slice ia f.its.length ic, .slice ta f.t.length tc] 25)) = w2 at *
  clear hh0 hz hk0 hk1
  have hoA := own_alloc w2 5 [] 0 w2.heap.size (0, 0) (.inl rfl) rfl (Nat.le_refl _) (by unfold maxLen; omega)
  have hkA := (Kp.refl [] w2).alloc (.cells #[] 5)
  rw [hx2] at hoA
  refine wpList_app2 _ rfl _ _ 23 23 rfl (w.heap.size + 1 + 1 + 1) 5 i0 _ 1 1 Tryd.underlying23 hi0 hz0 hz1 hz2 rfl (by omega) (.slice (some ⟨w.heap.size + 1 + 1 + 1, 0, none⟩) 0 0) 0 [] rfl hoA (.slice ta f.t.length tc) f.t.length _ rfl (Src.of_sl Tryd.underlying23 (ht.kp0 (hk2.trans hkA)) bcells_one) (by omega) (by omega) (by simp; omega) ?_
  intro v1 w1 ho1 hg1
  rw [Nat.zero_add, List.nil_append] at ho1
  have hk3 : Kp [] w2 w1 := by
    rcases hg1 with ⟨-, hg1⟩ | ⟨hg1, -⟩
    · exact hkA.grown hg1 (fun k hk => .inr (by simp [Value.ownBlock] at hk; omega))
    · exact hkA.trans hg1
  have ho1' : OB w1 5 (w.heap.size + 1 + 1 + 1) v1 f.t := ho1
  obtain ⟨a1, c1, rfl⟩ := own_form ho1
  have h3A := hk3.heap h2A (by simp)
  have h3Z := hk3.heap h2Z (by simp)
  have h3C := hk3.heap h2C (by simp)
  clear hoA hkA hg1 ho1
  have hkw := hk2.trans hk3
  have hs1 : w.heap.size + 1 + 1 + 1 ≤ w1.heap.size := by have := hk3.size; omega
  obtain ⟨c0, c1', c2, c3, c4⟩ := cells5 h3C
  have f3 := free_heap h3C 3
  have f4 := free_heap h3C 4
  have hks := ((Kp.refl [w.heap.size + 1 + 1] w1).setCell (p := ⟨w.heap.size + 1 + 1, 4, none⟩) (.inl (by simp)) (.slice a1 f.t.length c1)).setCell (p := ⟨w.heap.size + 1 + 1, 3, none⟩) (.inl (by simp)) (.slice none 0 0)
  have h4C := heap_set (i := 3) (.slice none 0 0) (heap_set (i := 4) (.slice a1 f.t.length c1) h3C)
  simp only [List.setIfInBounds_toArray, List.set_cons_succ, List.set_cons_zero] at h4C
  have h4A := hks.heap h3A (by simp; omega)
  have h4Z := hks.heap h3Z (by simp)
  have ho4 : OB _ 5 (w.heap.size + 1 + 1 + 1) (.slice a1 f.t.length c1) f.t := own_kp ho1' hks (fun b hb hm => by have := (Own.lt ho1' b hb).1; simp at hm; omega)
  have hk4 := hkw.trans' hks (by simp; omega)
  have hs4 := hks.size
  clear h2A h2Z h2C h3A h3Z ho1' hk3 hk2
  go_wp2_with fail
  generalize (w1.setCell ⟨w.heap.size + 1 + 1, 4, none⟩ (.slice a1 f.t.length c1)).setCell ⟨w.heap.size + 1 + 1, 3, none⟩ (.slice none 0 0) = w4 at *
  clear c0 c1' c2 c3 c4 f3 f4
  go_loopw [4] (fun v4 wr => ∃ (n : Nat) (jv : Value) (us : List Value), n ≤ f.its.length ∧ v4 = .int .i64 n ∧ wr.heap[w.heap.size + 1 + 1]? = some (.cells #[.int .i64 f.k, .int .i64 f.a, .int .i64 f.b, jv, .slice a1 f.t.length c1] 25 (0, 0)) ∧ Own wr (w.heap.size + 1 + 1 + 1) 23 1 jv n us ∧ Its wr (w.heap.size + 1 + 1 + 1) us (f.its.take n) ∧ OB wr 5 (w.heap.size + 1 + 1 + 1) (.slice a1 f.t.length c1) f.t ∧ (∀ u ∈ us, Apart u (.slice a1 f.t.length c1)) ∧ Kp [] w wr ∧
      wr.heap[w.heap.size]? = some (.cells #[.int .i64 f.k, .int .i64 f.a, .int .i64 f.b, .slice ia f.its.length ic, .slice ta f.t.length tc] 25 (0, 0)) ∧ wr.heap[w.heap.size + 1]? = some (.cells #[.int .i64 0, .int .i64 0, .int .i64 0, .slice none 0 0, .slice none 0 0] 25 (0, 0))) (fun v4 _ => f.its.length - (intOf v4).toNat)
  case atStart => exact ⟨0, .slice none 0 0, [], by omega, rfl, h4C, Own.nil _ _ _ _, ⟨by simp, fun i h => by simp at h, fun i j u v _ h => by simp at h⟩, ho4, by simp, hk4, h4A, h4Z⟩
  case round =>
    clear h4A h4Z h4C ho4 hk4 hs4 hks hkw h3C hs1
    obtain ⟨n, jv, us, hnl', rfl, hC, hown, hits, hob, hap, hkr, hA, hZ⟩ := hrel
    obtain ⟨ja, jc, rfl⟩ := own_form hown
    obtain ⟨-, -, -, a3, -⟩ := cells5 hA
    obtain ⟨-, -, -, c3, -⟩ := cells5 hC
    have hcl := lt_of_heap hC
    by_cases hlt : n < f.its.length
    · obtain ⟨ib, io, xa, xc, rfl, hib, hxc, hbx⟩ := (hi.kp0 hkr).at n hlt
      have hxl := hnl _ (List.getElem_mem hlt)
      have hts := List.take_succ_eq_append_getElem hlt
      generalize f.its[n]'hlt = x at *
      have HTS := Lib.hid hts
      clear hts
      have hn1 : (0 : Int) ≤ n ∧ (n : Int) < f.its.length := by omega
      obtain ⟨hn1, hn2⟩ := hn1
      go_wp2_with fail
      have hS : Gr wr [w.heap.size + 1 + 1, w.heap.size, ib] wr.drew := Gr.of (fun _ _ => rfl)
      refine wp_plan (.H 0 (.H 1 (.H 3 (.H 4 (.H 5 (.H 6 (.H 7 (.E 2 true (.E 8 true (.E 9 true (.E 10 false (.E 11 false (.E 12 false .Z))))))))))))) (Gr wr [w.heap.size + 1 + 1, w.heap.size, ib]) (by as_aux_lemma => kernel_rfl) (by as_aux_lemma => kernel_rfl) ?_
      repeat (refine plan_H rfl hS (fun K hK => ?_); go_simp; refine hK _ ?_; clear hK K)
      refine plan_E rfl (fun K hK => ?_); go_simp
      have hk5 : Kp [] wr (wr.drew.alloc (.cells #[] 5)) := (Kp.refl [] wr).drew.alloc _
      have hS5 : Gr wr [w.heap.size + 1 + 1, w.heap.size, ib] (wr.drew.alloc (.cells #[] 5)) := Gr.of (fun q hq => hk5.block q (by simp at hq; omega) (by simp))
      refine hK _ _ (fun _ => hS5) ?_
      clear hK K
      have hoA := own_alloc wr.drew 5 [] 0 wr.heap.size (0, 0) (.inl rfl) rfl (Nat.le_refl _) (by unfold maxLen; omega)
      refine plan_E rfl (fun K hK => ?_)
      refine step_app2 _ rfl _ _ 23 23 rfl wr.heap.size 5 i0 _ 1 1 Tryd.underlying23 hi0 hz0 hz1 hz2 rfl (by omega) (.slice (some ⟨wr.heap.size, 0, none⟩) 0 0) 0 [] rfl hoA (.slice xa x.length xc) x.length _ rfl (Src.of_sl Tryd.underlying23 (hbx.kp0 hk5) bcells_one) (by omega) (by omega) (by simp) ?_
      intro v6 w6 ho6 hg6
      rw [Nat.zero_add, List.nil_append] at ho6
      have hk6 : Kp [] wr w6 := by
        rcases hg6 with ⟨-, hg6⟩ | ⟨hg6, -⟩
        · exact hk5.grown hg6 (fun k hk => .inr (by simp [Value.ownBlock] at hk; omega))
        · exact hk5.trans hg6
      have hxo : OB w6 5 wr.heap.size v6 x := ho6
      obtain ⟨ya, yc, rfl⟩ := own_form ho6
      have hS6 : Gr wr [w.heap.size + 1 + 1, w.heap.size, ib] w6 := Gr.of (fun q hq => hk6.block q (by simp at hq; omega) (by simp))
      refine hK _ _ (fun _ => hS6) ?_
      clear hK K hg6 hoA ho6
      refine plan_E rfl (fun K hK => ?_); go_simp
      have hk7 : Kp [] wr (w6.alloc (.cells #[.slice ya x.length yc] 23)) := hk6.alloc _
      have hS7 : Gr wr [w.heap.size + 1 + 1, w.heap.size, ib] (w6.alloc (.cells #[.slice ya x.length yc] 23)) := Gr.of (fun q hq => hk7.block q (by simp at hq; omega) (by simp))
      refine hK _ _ (fun _ => hS7) ?_
      clear hK K
      obtain ⟨i1, hi1, hy0, hy1, hy2⟩ := info_parts rowinfo
      have hown7 := own_kp hown hk7 (by simp)
      have hsz7 := hk7.size
      have hsz6 := hk6.size
      refine plan_E rfl (fun K hK => ?_)
      refine step_app _ rfl _ _ 22 22 rfl (w.heap.size + 1 + 1 + 1) 23 i1 _ 1 24 Tryd.underlying22 hi1 hy0 hy1 hy2 rfl (by omega) (.slice ja n jc) n us rfl hown7 (.slice (some ⟨w6.heap.size, 0, none⟩) 1 1) 1 [.slice ya x.length yc] rfl (Src.of_sl Tryd.underlying22 (sl_alloc w6 23 _ _ rfl 1 1 rfl) (by simp [Value.oneCell'])) (by omega) (by omega) (by omega) ?_
      intro v8 w8 ho8 hg8 hx8
      obtain ⟨a8, c8, rfl⟩ := own_form ho8
      have hk68 : Kp (Value.slice ja n jc).ownBlock.toList w6 w8 := ((Kp.refl _ w6).alloc _).grown hg8 (fun q hq => .inl (by simp [hq]))
      have hrow : ∀ q, q ∈ (Value.slice ja n jc).ownBlock.toList → w.heap.size + 1 + 1 + 1 ≤ q := fun q hq => (hown.lt q (by simpa using hq)).1
      have hC8 : w8.heap[w.heap.size + 1 + 1]? = _ := hk68.heap (hk6.heap hC (by simp)) (fun hm => by have := hrow _ hm; omega)
      have hA8 : w8.heap[w.heap.size]? = _ := hk68.heap (hk6.heap hA (by simp)) (fun hm => by have := hrow _ hm; omega)
      have hZ8 : w8.heap[w.heap.size + 1]? = _ := hk68.heap (hk6.heap hZ (by simp)) (fun hm => by have := hrow _ hm; omega)
      have f3 := free_heap hC8 3
      obtain ⟨_, _, _, e3, _⟩ := cells5 hC8
      have hC9 := heap_set (i := 3) (.slice a8 (n + 1) c8) hC8
      simp only [List.setIfInBounds_toArray, List.set_cons_succ, List.set_cons_zero] at hC9
      have hk89 : Kp [w.heap.size + 1 + 1] w8 (w8.setCell ⟨w.heap.size + 1 + 1, 3, none⟩ (.slice a8 (n + 1) c8)) := (Kp.refl _ w8).setCell (.inl (by simp)) _
      have hA9 := hk89.heap hA8 (by simp; omega)
      have hZ9 := hk89.heap hZ8 (by simp)
      have hits6 : Its w6 (w.heap.size + 1 + 1 + 1) us (f.its.take n) := hits.kp hk6 (by simp)
      have hown6 : Own w6 (w.heap.size + 1 + 1 + 1) 23 1 (.slice ja n jc) n us := own_kp hown hk6 (by simp)
      have hits8 : Its w8 (w.heap.size + 1 + 1 + 1) us (f.its.take n) := hits6.kp hk68 (fun u hu q hq hm => by
        obtain ⟨i, hi⟩ := List.mem_iff_getElem?.1 hu
        obtain ⟨u', h1, h2⟩ := hits6.2.1 i (by rw [← hits6.1]; exact (List.getElem?_eq_some_iff.1 hi).1)
        rw [hi] at h1; cases h1
        exact own_ne h2 hown6 (by decide) q hq (by simpa using hm))
      have hob6 : OB w6 5 (w.heap.size + 1 + 1 + 1) (.slice a1 f.t.length c1) f.t := own_kp hob hk6 (by simp)
      have hob8 : OB w8 5 (w.heap.size + 1 + 1 + 1) (.slice a1 f.t.length c1) f.t := own_kp hob6 hk68 (fun q hq hm => own_ne hob6 hown6 (by decide) q hq (by simpa using hm))
      have hxo6 : OB w6 5 (w.heap.size + 1 + 1 + 1) (.slice ya x.length yc) x := own_base hxo (fun q hq => by have := (Own.lt hxo q hq).1; omega)
      have hxo8 : OB w8 5 (w.heap.size + 1 + 1 + 1) (.slice ya x.length yc) x := own_kp hxo6 hk68 (fun q hq hm => own_ne hxo6 hown6 (by decide) q hq (by simpa using hm))
      have hap2 : ∀ u ∈ us, Apart u (.slice ya x.length yc) := fun u hu g h1 h2 => by
        have := (hits.lt u hu g h1).2
        have := (Own.lt hxo g h2).1
        omega
      have hap3 : ∀ u ∈ us ++ [.slice ya x.length yc], Apart u (.slice a1 f.t.length c1) := fun u hu => by
        rcases List.mem_append.1 hu with hu | hu
        · exact hap u hu
        · simp only [List.mem_singleton] at hu
          subst hu
          intro g h1 h2
          have := (Own.lt hob g h2).2
          have := (Own.lt hxo g h1).1
          omega
      have hits9 := (hits8.snoc hxo8 hap2).kp hk89 (fun u hu q hq hm => by have := ((hits8.snoc hxo8 hap2).lt u hu q hq).1; simp at hm; omega)
      have hown9 := own_kp ho8 hk89 (fun q hq hm => by have := (ho8.lt q hq).1; simp at hm; omega)
      have hob9 : OB _ 5 (w.heap.size + 1 + 1 + 1) (.slice a1 f.t.length c1) f.t := own_kp hob8 hk89 (fun q hq hm => by have := (Own.lt hob8 q hq).1; simp at hm; omega)
      have hkr9 : Kp [] w (w8.setCell ⟨w.heap.size + 1 + 1, 3, none⟩ (.slice a8 (n + 1) c8)) := ((hkr.trans hk6).trans' hk68 (fun q hq => .inr (by have := hrow q hq; omega))).trans' hk89 (fun q hq => .inr (by simp at hq; omega))
      have HOWN9 := Lib.hid hown9
      have HITS9 := Lib.hid hits9
      have HOB9 := Lib.hid hob9
      have HAP3 := Lib.hid hap3
      clear hown9 hits9 hits8 hits6 hown6 hown7 hown hits hob hob6 hob8 hob9 hap hap2 hap3 hxo hxo6 hxo8 hrow
      refine hK _ _ nofun ?_
      clear hK K
      refine plan_E rfl (fun K hK => ?_); go_simp
      refine hK _ _ nofun ?_
      clear hK K
      refine plan_E rfl (fun K hK => ?_); go_simp
      refine hK _ _ nofun ?_
      clear hK K
      refine plan_Z ?_
      have hn8 : (n : Int) ≤ 5864062014805 := by omega
      go_wp2
      go_roundw
      case measure => simp [intOf]; omega
      case rel => exact ⟨n + 1, _, _, by omega, by go_num, hC9, HOWN9.out, by rw [HTS.out]; exact HITS9.out, HOB9.out, HAP3.out, hkr9, hA9, hZ9⟩
    · have hd : decide ((n : Int) < (f.its.length : Int)) = false := by rw [decide_eq_false_iff_not]; omega
      obtain rfl : n = f.its.length := by omega
      rw [List.take_length] at hits
      have hzl := lt_of_heap hZ
      have g0 := free_heap hZ 0
      have g1 := free_heap hZ 1
      have g2 := free_heap hZ 2
      have g3 := free_heap hZ 3
      have g4 := free_heap hZ 4
      obtain ⟨z0, z1, z2, z3, z4⟩ := cells5 hZ
      obtain ⟨q0, q1, q2, q3, q4⟩ := cells5 hC
      go_wp2_with fail
      refine bodyPost_ret (results_one rfl _ _ _ _ _ _ _ (show Array.getD _ 2 _ = _ from rfl) (set5 _ _ _ _ _ hZ) Tryd.underlying25 rfl f5size) rfl ⟨_, rfl, ?_, hkr.trans' (set5_kp _ _ _ _ _ _ _) (fun q hq => .inr (by simp at hq; omega))⟩
      exact IsF.base (IsF.kp ⟨_, _, us, rfl, hown, hits, hob, hap⟩ (set5_kp _ _ _ _ _ _ _) (by simp)) (by omega)
end Go.Proofs.YtddpefbpiehgeaaDoor

/- The laws' helpers Lent and Back. -/
namespace Go.Proofs.YtddpefbpiehgeaaDoor
open Go Go.RowKit
set_option maxRecDepth 100000
set_option linter.unusedVariables false
set_option linter.unusedSectionVars false
set_option linter.unusedSimpArgs false

theorem stop_copy {P : Program} {ops : Array Oper} {rest : List Oper} {o d t p g : _} {x : _} {y : _} {a : Act} {w : World} {Q : Exit → Act → World → Prop} (h : Stop (wpList P ops Q ({ dst := d, op := .call { callee := .builtin .copy, args := x, argTypes := y }, type := t, pos := p, after := o, guard := g } :: rest) a w)) :
  wpList P ops Q ({ dst := d, op := .call { callee := .builtin .copy, args := x, argTypes := y }, type := t, pos := p, after := o, guard := g } :: rest) a w := h

theorem madeCells_u8 (n : Nat) : madeCells (Value.cells (.int .u8 0)) n = (bcells (List.replicate n 0)).toArray := by
  apply Array.ext_getElem?
  intro i
  simp only [madeCells, bcells, List.getElem?_toArray, List.getElem?_map, Array.getElem?_map, List.getElem?_replicate]
  by_cases h : i < n
  · simp [h, Value.cells, Nat.mod_one]
  · simp [h]

theorem lent_set (l : List UInt8) (a : Nat) (ha : a < 3) : (l ++ (List.replicate a 201 ++ List.replicate (3 - a) 0)).set (l.length + a) 201 = l ++ (List.replicate (a + 1) 201 ++ List.replicate (3 - (a + 1)) 0) := by
  rw [List.set_append_right _ _ (by omega), Nat.add_sub_cancel_left]
  match a, ha with
  | 0, _ => rfl
  | 1, _ => rfl
  | 2, _ => rfl

def RetL (l : List UInt8) (w : World) (e : Ending) (w' : World) : Prop := ∃ g, e = .returned (.slice (some ⟨g, 0, none⟩) l.length (l.length + 3)) ∧ OB w' 5 w.heap.size (.slice (some ⟨g, 0, none⟩) (l.length + 3) (l.length + 3)) (l ++ [201, 201, 201]) ∧ Kp [] w w'

/-- A row of bytes that is known whole. -/
theorem ob_whole {w : World} {T : TypeId} {base g : Nat} {l : List UInt8} (n : Nat) (hn : n = l.length) (hb : base ≤ g) (hm : n ≤ maxLen) (h : w.heap[g]? = some (.cells (bcells l).toArray T (0, 0))) : OB w T base (.slice (some ⟨g, 0, none⟩) n n) l := by
  subst hn
  refine ⟨by simp, .inr ⟨g, l.length, _, (0, 0), rfl, hb, h, .inl rfl, Nat.le_refl _, hm, by simp, ?_⟩⟩
  exact List.take_of_length_le (by simp)
theorem ob_stored {w : World} {T : TypeId} {base g n cap : Nat} {l : List UInt8} (h : OB w T base (.slice (some ⟨g, 0, none⟩) n cap) l) (hn : n = l.length) (j : Nat) (x : UInt8) : OB (w.setCell ⟨g, j, none⟩ (.int .u8 (x.toNat : Int))) T base (.slice (some ⟨g, 0, none⟩) n cap) (l.set j x) := by
  subst hn
  unfold OB
  rw [List.length_set, bcells_set]
  exact Own.stored h j _

theorem ob_cellAt {w : World} {T : TypeId} {base g n cap : Nat} {l : List UInt8} (h : OB w T base (.slice (some ⟨g, 0, none⟩) n cap) l) (hn : n = l.length) (j : Nat) (hj : j < l.length) : w.cell? ⟨g, j, none⟩ = some (.int .u8 ((l.getD j 0).toNat : Int)) := by
  subst hn
  rw [Own.cellAt h j (by omega), bcells_get _ _ hj]
  simp [List.getD, hj]
theorem ob_frozenAt {w : World} {T : TypeId} {base g n cap : Nat} {l : List UInt8} (h : OB w T base (.slice (some ⟨g, 0, none⟩) n cap) l) (hn : n = l.length) (j : Nat) (hj : j < cap) : w.frozen? ⟨g, j, none⟩ = false := by
  subst hn
  exact Own.frozenAt h j (by omega)

set_option maxHeartbeats 1000000 in
theorem lent_calls (v : Value) (l : List UInt8) (w : World) (hb : Bs w v l) (hl : l.length + 3 ≤ 140737488355328) :
    Calls Tryd.prog 14 #[v] w (RetL l w) := by
  obtain ⟨va, vc, rfl, hvc, -, h6, h7⟩ := Sl.form hb
  obtain ⟨i0, hi0, hz0, hz1, hz2⟩ := info_parts u8infoF
  have hmk : ∀ w : World, (Instr.makeSlice 23 (.int .i64 ((l.length : Int) + 3)) (.int .i64 ((l.length : Int) + 3))).run Tryd.prog w = .ok (.slice (some ⟨w.heap.size, 0, none⟩) (l.length + 3) (l.length + 3)) (w.alloc (.cells (bcells (List.replicate (l.length + 3) 0)).toArray 5)) := fun w => by
    have h := run_make (P := Tryd.prog) w 23 5 i0 (.int .u8 0) Tryd.underlying23 hi0 hz0 .i64 .i64 ((l.length : Int) + 3) ((l.length : Int) + 3) (by omega) (by omega) (by rw [hz2]; omega) (by omega)
    rw [h, hz1, madeCells_u8]
    have : ((l.length : Int) + 3).toNat = l.length + 3 := by omega
    rw [this, Nat.mul_one]
  have hb1 : (l.length : Int) + 3 ≤ 140737488355328 := by omega
  go_enter Tryd.func14, Tryd.ntmps14
  go_wp2_with (with_reducible refine stop_copy ?_)
  unfold Stop
  have hkA := (Kp.refl [] w).alloc (.cells (bcells (List.replicate (l.length + 3) 0)).toArray 5)
  have hA := heap_alloc_new w (.cells (bcells (List.replicate (l.length + 3) 0)).toArray 5)
  refine wpList_copy_splice rfl _ _ 23 23 rfl 5 Tryd.underlying23 (by kernel_rfl) (some ⟨w.heap.size, 0, none⟩) va (l.length + 3) (l.length + 3) l.length vc rfl rfl w.heap.size 0 (bcells (List.replicate (l.length + 3) 0)) 5 hA (bcells l) (by simp) (fun h0 => ?_) (by simp) bcells_one w.heap.size w (hkA.below (Nat.le_refl _) (by simp)) (Nat.le_refl _) ?_
  · obtain ⟨b, off, rfl, hlt⟩ := h6 (by simpa using h0)
    exact ⟨rfl, _, rfl, fun j u hu => by rw [Addr.add_lit, hkA.cells0.1 _ _ hlt]; exact (h7 b off rfl).2 j u hu⟩
  intro w2 hg2 hb2
  have hk2 : Kp [] w w2 := Kp.ofBelow hb2
  have hg2' := hg2.out
  have hsp : splice (bcells (List.replicate (l.length + 3) 0)) 0 (bcells l) = bcells (l ++ (List.replicate 0 201 ++ List.replicate (3 - 0) 0)) := by
    simp [splice, bcells]
  rw [hsp] at hg2'
  have ho2 := ob_whole (l.length + 3) (by simp) (Nat.le_refl _) (by unfold maxLen; omega) hg2'
  clear hg2 hg2' hsp hA hmk h6 h7 hb2 hkA
  go_wp2_with fail
  go_loopw [4] (fun v4 wr => ∃ (a : Nat), a ≤ 3 ∧ v4 = .int .i64 ((l.length : Int) + a) ∧ OB wr 5 w.heap.size (.slice (some ⟨w.heap.size, 0, none⟩) (l.length + 3) (l.length + 3)) (l ++ (List.replicate a 201 ++ List.replicate (3 - a) 0)) ∧ Kp [] w wr) (fun v4 _ => l.length + 3 - (intOf v4).toNat)
  case atStart => exact ⟨0, by omega, by simp, ho2, hk2⟩
  case round =>
    clear ho2 hk2
    obtain ⟨a, ha, rfl, ho, hk⟩ := hrel
    by_cases hlt : a < 3
    · have hst := ob_stored ho (by simp; omega) (l.length + a) 201
      rw [lent_set l a hlt] at hst
      have hln := (Own.lt ho w.heap.size rfl).2
      obtain ⟨y, hcell⟩ : ∃ y, wr.cell? ⟨w.heap.size, l.length + a, none⟩ = some y := ⟨_, ob_cellAt ho (by simp; omega) (l.length + a) (by simp; omega)⟩
      have hfrz := ob_frozenAt ho (by simp; omega) (l.length + a) (by omega)
      have hks := hk.setCell (p := ⟨w.heap.size, l.length + a, none⟩) (.inr (Nat.le_refl _)) (.int .u8 ((201 : UInt8).toNat : Int))
      have h201 : ((201 : UInt8).toNat : Int) = 201 := by decide
      rw [h201] at hst hks
      have hb2 : (0 : Int) ≤ (l.length : Int) + a ∧ (l.length : Int) + a < (l.length : Int) + 3 := by omega
      obtain ⟨hb2, hb3⟩ := hb2
      have ht1 : ((l.length : Int) + a).toNat = l.length + a := by omega
      have HST := Lib.hid hst
      have HO := Lib.hid ho
      clear h201 hst ho
      go_wp2_with fail
      go_roundw
      case measure => simp [intOf]; omega
      case rel => exact ⟨a + 1, by omega, by go_num, HST.out, hks⟩
    · obtain rfl : a = 3 := by omega
      have hd : decide ((l.length : Int) + (3 : Nat) < (l.length : Int) + 3) = false := by rw [decide_eq_false_iff_not]; omega
      have HO := Lib.hid ho
      clear ho
      go_wp2_with fail
      go_ret
      exact ⟨_, rfl, HO.out, hk⟩

theorem bcells_getD' (l : List UInt8) (i : Nat) (h : i < l.length) : (bcells l)[i]? = some (.int .u8 ((l.getD i 0).toNat : Int)) := by
  rw [bcells_get _ _ h]; simp [List.getD, h]

theorem u8_xor33 (x : UInt8) : bits .xor .u8 (x.toNat : Int) 33 = ((x ^^^ 33).toNat : Int) := by
  have h : ∀ n : Fin 256, bits .xor .u8 (n.val : Int) 33 = ((UInt8.ofNat n.val ^^^ 33).toNat : Int) := by decide +kernel
  have h2 := h ⟨x.toNat, x.toNat_lt⟩
  simpa using h2

set_option maxHeartbeats 1000000 in
theorem back_calls (g B : Nat) (rv : Value) (l : List UInt8) (w : World) (hl : l.length + 3 ≤ 140737488355328) (ho : OB w 5 B (.slice (some ⟨g, 0, none⟩) (l.length + 3) (l.length + 3)) (l ++ [201, 201, 201])) (hr : Bs w rv l) (hne : ∀ b, own1 rv = some b → b ≠ g) :
    Calls Tryd.prog 16 #[.slice (some ⟨g, 0, none⟩) l.length (l.length + 3), rv] w fun e w' => e = .returned (.bool true) ∧ Kp [g] w w' := by
  obtain ⟨va, vc, rfl, hvc, -, h6, -⟩ := Sl.form hr
  have hb1 : (l.length : Int) + 3 ≤ 140737488355328 := by omega
  have ht0 : ((l.length : Int) + 3).toNat = l.length + 3 := by omega
  go_enter Tryd.func16, Tryd.ntmps16
  go_wp2_with fail
  go_loopw [6, 7] (fun v6 v7 wr => ∃ (k : Nat) (xs : List UInt8), k ≤ l.length + 3 ∧ v7 = .int .i64 k ∧ v6 = .bool true ∧ xs.length = l.length + 3 ∧ xs.drop k = (l ++ [201, 201, 201]).drop k ∧ OB wr 5 B (.slice (some ⟨g, 0, none⟩) (l.length + 3) (l.length + 3)) xs ∧ Kp [g] w wr) (fun _ v7 _ => l.length + 3 - (intOf v7).toNat)
  case atStart => exact ⟨0, l ++ [201, 201, 201], by omega, rfl, rfl, by simp, rfl, ho, Kp.refl _ _⟩
  case round =>
    clear ho
    obtain ⟨k, xs, hk, rfl, rfl, hxl, hdr, ho, hkp⟩ := hrel
    by_cases hlt : k < l.length + 3
    · have hxk : xs.getD k 0 = (l ++ [201, 201, 201]).getD k 0 := by
        have := congrArg (fun q => q[0]?) hdr
        simp only [List.getElem?_drop, Nat.add_zero] at this
        simp [List.getD, this]
      have hnext : (xs.set k (xs.getD k 0 ^^^ 33)).drop (k + 1) = (l ++ [201, 201, 201]).drop (k + 1) := by
        rw [List.drop_set_of_lt (by omega)]
        have := congrArg (fun q => q.drop 1) hdr
        simpa [List.drop_drop] using this
      have hst := ob_stored ho hxl.symm k (xs.getD k 0 ^^^ 33)
      have hsl : (xs.set k (xs.getD k 0 ^^^ 33)).length = l.length + 3 := by simpa using hxl
      have hcell := ob_cellAt ho hxl.symm k (by omega)
      have hfrz := ob_frozenAt ho hxl.symm k (by omega)
      have hln := (Own.lt ho g rfl).2
      have hx := u8_xor33 (xs.getD k 0)
      have hks := hkp.setCell (p := ⟨g, k, none⟩) (.inl (by simp)) (.int .u8 ((xs.getD k 0 ^^^ 33).toNat : Int))
      have hb2 : (0 : Int) ≤ k ∧ (k : Int) < (l.length : Int) + 3 := by omega
      obtain ⟨hb2, hb3⟩ := hb2
      generalize xs.set k (xs.getD k 0 ^^^ 33) = ys at *
      generalize (xs.getD k 0 ^^^ 33) = z at *
      generalize xs.getD k 0 = x at *
      have HST := Lib.hid hst
      have HSL := Lib.hid hsl
      have HNX := Lib.hid hnext
      clear hst hsl hnext ho hdr hxl
      by_cases hlt2 : k < l.length
      · have hb4 : (k : Int) < (l.length : Int) := by omega
        obtain ⟨rb, ro, rfl, hrb⟩ := h6 (by omega)
        obtain ⟨_, _, he, _, _, _, h7⟩ := Sl.form (hr.kq hkp (fun b hb hm => hne b hb (by simpa using hm)))
        cases he
        have hrc := (h7 rb ro rfl).2 k _ (bcells_getD' l k hlt2)
        have hxe : x = l.getD k 0 := by
          rw [hxk]; simp [List.getD, List.getElem?_append_left hlt2]
        rw [← hxe] at hrc
        have hrl : rb < wr.heap.size := (h7 rb ro rfl).1 (by omega)
        clear h7 hxk hxe
        go_wp2_with fail
        go_roundw
        case measure => simp [intOf]; omega
        case rel => exact ⟨k + 1, ys, by omega, by go_num, rfl, HSL.out, HNX.out, HST.out, hks⟩
      · have hb4 : decide ((k : Int) < (l.length : Int)) = false := by rw [decide_eq_false_iff_not]; omega
        have hxe : x = 201 := by
          rw [hxk]
          obtain ⟨j, rfl⟩ : ∃ j, k = l.length + j := ⟨k - l.length, by omega⟩
          simp only [List.getD, List.getElem?_append_right (Nat.le_add_right _ _), Nat.add_sub_cancel_left]
          match j, (show j < 3 by omega) with
          | 0, _ => rfl
          | 1, _ => rfl
          | 2, _ => rfl
        have hxi : ((x.toNat : Nat) : Int) = 201 := by rw [hxe]; decide
        rw [hxi] at hcell hx
        clear hxk hxe hxi
        go_wp2_with fail
        go_roundw
        case measure => simp [intOf]; omega
        case rel => exact ⟨k + 1, ys, by omega, by go_num, rfl, HSL.out, HNX.out, HST.out, hks⟩
    · have hd : decide ((k : Int) < (l.length : Int) + 3) = false := by rw [decide_eq_false_iff_not]; omega
      have HO := Lib.hid ho
      have HD := Lib.hid hdr
      clear ho hdr hxl
      go_wp2_with fail
      go_ret
      exact ⟨rfl, hkp⟩
end Go.Proofs.YtddpefbpiehgeaaDoor

/- The laws' helper Owned. -/
namespace Go.Proofs.YtddpefbpiehgeaaDoor
open Go Go.RowKit
set_option maxRecDepth 100000
set_option linter.unusedVariables false
set_option linter.unusedSectionVars false
set_option linter.unusedSimpArgs false

def mkB (i : Nat) : UInt8 := UInt8.ofNat (1 + i % 250)
theorem mkB_nat (i : Nat) : (mkB i).toNat = 1 + i % 250 := by
  unfold mkB; rw [UInt8.toNat_ofNat']; omega
theorem mkB_wrap (i : Nat) : IntKind.u8.wrap (1 + (i : Int) % 250) = ((mkB i).toNat : Int) := by
  rw [mkB_nat, IntWalk.u8_in _ (by omega)]; omega

/-- A row of bytes in a block of its type; what lies behind it is not said. -/
def Rd (w : World) (u : Value) (l : List UInt8) : Prop :=
  (u = .slice none 0 0 ∧ l = []) ∨ ∃ g cap cur fr, u = .slice (some ⟨g, 0, none⟩) l.length cap ∧ w.heap[g]? = some (.cells cur 5 fr) ∧ cur.toList.take l.length = bcells l
theorem Rd.of {w : World} {B : Nat} {u : Value} {l : List UInt8} (h : OB w 5 B u l) : Rd w u l := by
  obtain ⟨hl, h⟩ := h
  rcases h with ⟨h, h0⟩ | ⟨g, cap, cur, fr, hv, _, hh, _, _, _, _, ht⟩
  · exact .inl ⟨by rw [h], List.eq_nil_of_length_eq_zero h0⟩
  · exact .inr ⟨g, cap, cur, fr, hv, hh, by simpa using ht⟩
theorem Rd.kp {S : List Nat} {w w' : World} {u : Value} {l : List UInt8} (h : Rd w u l) (hk : Kp S w w') (hS : ∀ b, u.ownBlock = some b → b ∉ S) : Rd w' u l := by
  rcases h with h | ⟨g, cap, cur, fr, hv, hh, r⟩
  · exact .inl h
  · exact .inr ⟨g, cap, cur, fr, hv, hk.heap hh (hS g (by rw [hv]; rfl)), r⟩
theorem Rd.lt {w : World} {u : Value} {l : List UInt8} (h : Rd w u l) : ∀ b, u.ownBlock = some b → b < w.heap.size := by
  intro b hb
  rcases h with ⟨h, _⟩ | ⟨g, cap, cur, fr, hv, hh, r⟩
  · rw [h] at hb; cases hb
  · rw [hv] at hb; cases hb; exact lt_of_heap hh
theorem Rd.ne {w : World} {u v : Value} {l : List UInt8} {B e sz n : Nat} {xs : List Value} (h : Rd w u l) (ho : Own w B e sz v n xs) (he : 5 ≠ e) : Apart u v := by
  intro b hb hb'
  rcases h with ⟨h, _⟩ | ⟨g, cap, cur, fr, hv, hh, r⟩
  · rw [h] at hb; cases hb
  rcases ho.2 with ⟨h', _⟩ | ⟨g2, _, _, _, hv', _, hh', _⟩
  · rw [h'] at hb'; cases hb'
  rw [hv] at hb; cases hb
  rw [hv'] at hb'; cases hb'
  rw [hh] at hh'
  cases hh'
  exact he rfl
/-- The beginning of a row that lies in the same block. -/
theorem Rd.cut {w : World} {u v : Value} {l : List UInt8} {k B : Nat} {w0 : World} (h0 : Rd w0 u (l.take k)) (ho : OB w 5 B v l) (hb : v.ownBlock = u.ownBlock) (hk : k ≤ l.length) : Rd w u (l.take k) := by
  rcases h0 with h | ⟨g, cap, cur, fr, hv, _, _⟩
  · exact .inl h
  · obtain ⟨hl, ho⟩ := ho
    rcases ho with ⟨h, _⟩ | ⟨g', cap', cur', fr', hv', _, hh', _, _, _, _, ht⟩
    · rw [h, hv] at hb; cases hb
    · rw [hv, hv'] at hb
      have hb' : g' = g := by simpa [Value.ownBlock] using hb
      subst hb'
      refine .inr ⟨g', cap, cur', fr', hv, hh', ?_⟩
      rw [Nat.mul_one] at ht
      have hkl : (l.take k).length = k := by simp; omega
      rw [hkl]
      have : bcells (l.take k) = (bcells l).take k := by simp [bcells, List.map_take]
      rw [this, ← ht, List.take_take, Nat.min_eq_left hk]

/-- A row that was written over and stands in the list. -/
def RowDone (w wr : World) (us : List Value) (its : List (List UInt8)) (ls : List Value) (q : Nat) : Prop :=
  ∃ u y x, ls[q]? = some u ∧ us[q / 2]? = some y ∧ its[q / 2]? = some x ∧ Rd wr u (List.replicate (x.length + if q % 2 = 0 then 9 else 0) (mkB (q / 2))) ∧ ∀ b, u.ownBlock = some b → y.ownBlock = some b ∨ w.heap.size ≤ b
theorem RowDone.kp {w wr wr' : World} {us : List Value} {its : List (List UInt8)} {ls : List Value} {q : Nat} {S : List Nat} (h : RowDone w wr us its ls q) (hk : Kp S wr wr') (hS : ∀ b ∈ S, b < w.heap.size ∧ ∀ y, us[q / 2]? = some y → y.ownBlock ≠ some b) : RowDone w wr' us its ls q := by
  obtain ⟨u, y, x, h1, h2, h3, h4, h5⟩ := h
  refine ⟨u, y, x, h1, h2, h3, h4.kp hk (fun b hb hm => ?_), h5⟩
  obtain ⟨hs1, hs2⟩ := hS b hm
  rcases h5 b hb with h | h
  · exact hs2 y h2 h
  · omega
theorem RowDone.kpT {w wr wr' : World} {us : List Value} {its : List (List UInt8)} {ls : List Value} {q : Nat} {v : Value} {B e sz n : Nat} {xs : List Value} (h : RowDone w wr us its ls q) (ho : Own wr B e sz v n xs) (he : 5 ≠ e) (hk : Kp v.ownBlock.toList wr wr') : RowDone w wr' us its ls q := by
  obtain ⟨u, y, x, h1, h2, h3, h4, h5⟩ := h
  exact ⟨u, y, x, h1, h2, h3, h4.kp hk (fun b hb hm => h4.ne ho he b hb (by simpa using hm)), h5⟩
theorem RowDone.more {w wr : World} {us : List Value} {its : List (List UInt8)} {ls ms : List Value} {q : Nat} (h : RowDone w wr us its ls q) : RowDone w wr us its (ls ++ ms) q := by
  obtain ⟨u, y, x, h1, r⟩ := h
  exact ⟨u, y, x, by rw [List.getElem?_append_left (List.getElem?_eq_some_iff.1 h1).1]; exact h1, r⟩

/-- The rows that are still to be written over. -/
def ToDo (w wr : World) (B : Nat) (us : List Value) (its : List (List UInt8)) (i : Nat) : Prop := ∀ j, i ≤ j → ∀ u x, us[j]? = some u → its[j]? = some x → OB wr 5 B u x
theorem ToDo.kp {w wr wr' : World} {B : Nat} {us : List Value} {its : List (List UInt8)} {i : Nat} {S : List Nat} (h : ToDo w wr B us its i) (hk : Kp S wr wr') (i' : Nat) (hi : i ≤ i') (hS : ∀ j, i' ≤ j → ∀ u, us[j]? = some u → ∀ b, u.ownBlock = some b → b ∉ S) : ToDo w wr' B us its i' :=
  fun j hj u x hu hx => own_kp (h j (by omega) u x hu hx) hk (hS j hj u hu)

theorem ob_shape {w : World} {T : TypeId} {B n c : Nat} {a : Option Addr} {l : List UInt8} (h : OB w T B (.slice a n c) l) : n ≤ c ∧ (0 < l.length → ∃ g, a = some ⟨g, 0, none⟩) ∧ n = l.length := by
  rcases h.2 with ⟨h, h0⟩ | ⟨g, cap, cur, fr, hv, _, _, _, hnc, _⟩
  · injection h with h1 h2 h3
    exact ⟨by omega, fun h => by omega, by omega⟩
  · injection hv with h1 h2 h3
    exact ⟨by omega, fun _ => ⟨g, h1⟩, h2⟩

theorem rep_set (k m : Nat) (x : List UInt8) (b : UInt8) (hk : k < x.length) : (List.replicate k b ++ x.drop k).set k b = List.replicate (k + 1) b ++ x.drop (k + 1) := by
  rw [List.set_append_right _ _ (by simp), List.length_replicate, Nat.sub_self, List.drop_eq_getElem_cons hk, List.set_cons_zero, List.replicate_succ', List.append_assoc]
  rfl

theorem Rd.form {w : World} {u : Value} {l : List UInt8} (h : Rd w u l) : ∃ a c, u = .slice a l.length c ∧ (0 < l.length → ∃ g, a = some ⟨g, 0, none⟩ ∧ g < w.heap.size ∧ ∀ k, k < l.length → w.cell? ⟨g, k, none⟩ = some (.int .u8 ((l.getD k 0).toNat : Int))) := by
  rcases h with ⟨h, h0⟩ | ⟨g, cap, cur, fr, hv, hh, ht⟩
  · subst h0; exact ⟨none, 0, h, fun h => by simp at h⟩
  · refine ⟨_, cap, hv, fun _ => ⟨g, rfl, lt_of_heap hh, fun k hk => ?_⟩⟩
    have h1 := congrArg (fun q => q[k]?) ht
    simp only [List.getElem?_take, if_pos hk] at h1
    rw [cell_heap hh, ← Array.getElem?_toList, h1, bcells_get _ _ hk]
    simp [List.getD, hk]

theorem ob_rep {w : World} {T : TypeId} {B n n' : Nat} {v : Value} {m : UInt8} {cs : List Value} (h : Own w B T 1 v n cs) (hn : n = n') (hc : cs = bcells (List.replicate n' m)) : OB w T B v (List.replicate n' m) := by
  subst hn; subst hc
  unfold OB
  rw [List.length_replicate]
  exact h
theorem ob_unrep {w : World} {T : TypeId} {B n : Nat} {v : Value} {m : UInt8} (h : OB w T B v (List.replicate n m)) : Own w B T 1 v n (bcells (List.replicate n m)) := by
  unfold OB at h
  rw [List.length_replicate] at h
  exact h
theorem bcells_rep (n : Nat) (m : UInt8) : bcells (List.replicate n m) ++ [.int .u8 (m.toNat : Int)] = bcells (List.replicate (n + 1) m) := by
  rw [List.replicate_succ']; simp [bcells]

/-- One byte more onto a row that began in u's block. -/
theorem grow_one {wu wr w1 w' : World} {B n k : Nat} {u gv v' : Value} {m : UInt8} (hkA : Kp [] wr w1) (hu : ∀ b, u.ownBlock = some b → b < wu.heap.size)
    (hrd : Rd wr u (List.replicate n m)) (hbl : gv.ownBlock = u.ownBlock ∨ ∀ b, gv.ownBlock = some b → wu.heap.size ≤ b) (hk : Kp u.ownBlock.toList wu wr)
    (ho : OB w' 5 B v' (List.replicate (n + (k + 1)) m)) (hg : (v'.ownBlock = gv.ownBlock ∧ w1.grownBy w' gv.ownBlock) ∨ (Kp [] w1 w' ∧ ∀ b, v'.ownBlock = some b → w1.heap.size ≤ b)) :
    Rd w' u (List.replicate n m) ∧ (v'.ownBlock = u.ownBlock ∨ ∀ b, v'.ownBlock = some b → wu.heap.size ≤ b) ∧ Kp u.ownBlock.toList wu w' := by
  have hs1 := hk.size
  have hs2 := hkA.size
  rcases hg with ⟨he, hg⟩ | ⟨hg, hf⟩
  · have hkg : Kp gv.ownBlock.toList w1 w' := (Kp.refl _ _).grown hg (fun q hq => .inl (by simp [hq]))
    rcases hbl with h | h
    · rw [h] at hkg he
      refine ⟨?_, .inl he, (hk.trans hkA.nil).trans hkg⟩
      have hc := Rd.cut (l := List.replicate (n + (k + 1)) m) (k := n) (w0 := wr) (by simpa [List.take_replicate] using hrd) ho he (by simp)
      simpa [List.take_replicate] using hc
    · refine ⟨(hrd.kp hkA (by simp)).kp hkg (fun b hb hm => by have := hu b hb; have := h b (by simpa using hm); omega), .inr (fun b hb => h b (by rw [← he]; exact hb)), (hk.trans hkA.nil).trans' hkg (fun b hb => .inr (h b (by simpa using hb)))⟩
  · exact ⟨(hrd.kp hkA (by simp)).kp hg (by simp), .inr (fun b hb => by have := hf b hb; omega), (hk.trans hkA.nil).trans hg.nil⟩
end Go.Proofs.YtddpefbpiehgeaaDoor

/- The laws' helper Owned: the walk. -/
namespace Go.Proofs.YtddpefbpiehgeaaDoor
open Go Go.RowKit
set_option maxRecDepth 100000
set_option linter.unusedVariables false
set_option linter.unusedSectionVars false
set_option linter.unusedSimpArgs false

set_option maxHeartbeats 2000000 in
theorem owned_calls (B : Nat) (v : Value) (us : List Value) (its : List (List UInt8)) (w : World) (hown : Own w B 23 1 v its.length us) (hits : Its w B us its) (hn : its.length ≤ 2000000000000) (hl : ∀ x ∈ its, x.length ≤ 140737488355000) :
    Calls Tryd.prog 18 #[v] w fun e w' => e = .returned (.bool true) ∧ Kp (us.filterMap Value.ownBlock) w w' := by
  obtain ⟨va, vc, rfl⟩ := own_form hown
  obtain ⟨i0, hi0, hz0, hz1, hz2⟩ := info_parts u8infoF
  obtain ⟨i1, hi1, hy0, hy1, hy2⟩ := info_parts rowinfo
  have hul := hits.1
  have hSu : ∀ b, b ∈ us.filterMap Value.ownBlock ↔ ∃ u ∈ us, u.ownBlock = some b := fun b => by simp [List.mem_filterMap]
  obtain ⟨S, hS⟩ : ∃ S, S = us.filterMap Value.ownBlock := ⟨_, rfl⟩
  rw [← hS] at hSu ⊢
  have hSlt : ∀ b ∈ S, b < w.heap.size := fun b hb => by
    obtain ⟨u, hu, he⟩ := (hSu b).1 hb
    exact (hits.lt u hu b he).2
  have hrowS : ∀ b, (Value.slice va its.length vc).ownBlock = some b → b ∉ S := fun b hb hm => by
    obtain ⟨u, hu, he⟩ := (hSu b).1 hm
    obtain ⟨i, hi⟩ := List.mem_iff_getElem?.1 hu
    obtain ⟨u', h1, h2⟩ := hits.2.1 i (by rw [← hul]; exact (List.getElem?_eq_some_iff.1 hi).1)
    rw [hi] at h1; cases h1
    exact own_ne h2 hown (by decide) b he hb
  have htodo : ToDo w w B us its 0 := fun j _ u x hu hx => by
    obtain ⟨hj, rfl⟩ := List.getElem?_eq_some_iff.1 hx
    obtain ⟨u', h1, h2⟩ := hits.2.1 j hj
    rw [hu] at h1; cases h1
    exact h2
  have hap := hits.2.2
  have HN := Lib.hid hn
  have HSU := Lib.hid hSu
  have HSLT := Lib.hid hSlt
  have HROW := Lib.hid hrowS
  have HAP := Lib.hid hap
  have HUL := Lib.hid hul
  have HL := Lib.hid hl
  clear hSu hSlt hrowS hap hul hl hS
  have hn' : (its.length : Int) ≤ 2000000000000 := by omega
  go_enter Tryd.func18, Tryd.ntmps18
  go_wp2_with fail
  go_loopw [3, 4] (fun v3 v4 wr => ∃ (i : Nat) (ls : List Value), i ≤ its.length ∧ v4 = .int .i64 i ∧ Own wr w.heap.size 23 1 v3 (2 * i) ls ∧ Kp S w wr ∧ ToDo w wr B us its i ∧ (∀ q, q < 2 * i → RowDone w wr us its ls q)) (fun _ v4 _ => its.length - (intOf v4).toNat)
  case atStart => exact ⟨0, [], by omega, rfl, Own.nil _ _ _ _, Kp.refl _ _, htodo, fun q hq => by omega⟩
  case round =>
    clear htodo hits
    obtain ⟨i, ls, hil, rfl, hlong, hkr, htd, hdone⟩ := hrel
    obtain ⟨la, lc, rfl⟩ := own_form hlong
    by_cases hlt : i < its.length
    · obtain ⟨u, hu⟩ : ∃ u, us[i]? = some u := ⟨us[i]'(by have := HUL.out; omega), by simp [HUL.out, hlt]⟩
      obtain ⟨x, hx⟩ : ∃ x, its[i]? = some x := ⟨its[i], by simp [hlt]⟩
      have hxl : x.length ≤ 140737488355000 := HL.out x (List.mem_of_getElem? hx)
      have huS : ∀ b, u.ownBlock = some b → b ∈ S := fun b hb => (HSU.out b).2 ⟨u, List.mem_of_getElem? hu, hb⟩
      have hob := htd i (Nat.le_refl _) u x hu hx
      obtain ⟨ua, uc, rfl⟩ := own_form hob
      have hrow := own_kp hown hkr HROW.out
      obtain ⟨rb, rfl⟩ : ∃ rb, va = some ⟨rb, 0, none⟩ := by
        rcases hown.2 with ⟨h, h0⟩ | ⟨g, cap, cur, fr, hv, _⟩
        · omega
        · cases hv; exact ⟨g, rfl⟩
      have hrc := Own.cellAt hrow i (by omega)
      rw [hu] at hrc
      have hrl := (Own.lt hrow rb rfl).2
      have hru : ∀ b, (Value.slice ua x.length uc).ownBlock = some b → b ≠ rb := fun b hb e => by subst e; exact HROW.out b rfl (huS b hb)
      have hm := mkB_wrap i
      have hi1' : (0 : Int) ≤ i ∧ (i : Int) < its.length := by omega
      obtain ⟨hi2, hi3⟩ := hi1'
      generalize hmk : mkB i = m at *
      have HMK := Lib.hid hmk
      clear hmk
      have hrow2 : ∀ wq, Kp (Value.slice ua x.length uc).ownBlock.toList wr wq → wq.cell? ⟨rb, i, none⟩ = some (.slice ua x.length uc) ∧ rb < wq.heap.size := fun wq hk => by
        refine ⟨by rw [hk.cells.1 rb i hrl (fun hm => hru rb (by simpa using hm) rfl)]; exact hrc, Nat.lt_of_lt_of_le hrl hk.size⟩
      have HROW2 := Lib.hid hrow2
      have HRU := Lib.hid hru
      have HUS := Lib.hid huS
      have HDONE := Lib.hid hdone
      have HTD := Lib.hid htd
      have HU := Lib.hid hu
      have HX := Lib.hid hx
      clear hrow2 hru huS hdone htd hu hx
      go_wp2_with fail
      have hd0 : decide ((0 : Int) ≤ (i : Int)) = true := by simp
      clear hrc
      obtain ⟨wo, rfl⟩ : ∃ wo : World, wo = wr := ⟨_, rfl⟩
      go_loopw [6] (fun v6 wq => ∃ k : Nat, k ≤ x.length ∧ v6 = .int .i64 k ∧ OB wq 5 B (.slice ua x.length uc) (List.replicate k m ++ x.drop k) ∧ Kp (Value.slice ua x.length uc).ownBlock.toList wo wq) (fun v6 _ => x.length - (intOf v6).toNat)
      case atStart => exact ⟨0, by omega, rfl, by simpa using hob, Kp.refl _ _⟩
      case round =>
        clear hob
        obtain ⟨k, hk, rfl, hob, hkq⟩ := hrel
        obtain ⟨hrc, hrl'⟩ := HROW2.out wr hkq
        by_cases hkx : k < x.length
        · obtain ⟨g, hg⟩ : ∃ g, ua = some ⟨g, 0, none⟩ := by
            exact (ob_shape hob).2.1 (by simp; omega)
          subst hg
          have hxl2 : x.length = (List.replicate k m ++ x.drop k).length := by simp; omega
          have hst := ob_stored hob hxl2 k m
          rw [rep_set k 0 x m hkx] at hst
          obtain ⟨y, hcell⟩ : ∃ y, wr.cell? ⟨g, k, none⟩ = some y := ⟨_, ob_cellAt hob hxl2 k (by omega)⟩
          have hfrz := ob_frozenAt hob hxl2 k (by have := (ob_shape hob).1; omega)
          have hgl := (Own.lt hob g rfl).2
          have hks := hkq.setCell (p := ⟨g, k, none⟩) (.inl (by simp [Value.ownBlock])) (.int .u8 (m.toNat : Int))
          have hb1 : (0 : Int) ≤ k ∧ (k : Int) < x.length := by omega
          obtain ⟨hb1, hb2⟩ := hb1
          have HST := Lib.hid hst
          clear hst hob hxl2
          go_wp2_with fail
          go_roundw
          case measure => simp [intOf]; omega
          case rel => exact ⟨k + 1, by omega, by go_num, HST.out, hks⟩
        · obtain rfl : k = x.length := by omega
          have hd : decide ((x.length : Int) < (x.length : Int)) = false := by simp
          have hob2 : OB wr 5 B (.slice ua x.length uc) (List.replicate x.length m) := by simpa using hob
          clear hob
          go_wp2_with fail
          obtain ⟨wu, rfl⟩ : ∃ wu : World, wu = wr := ⟨_, rfl⟩
          have hrd0 := Rd.of hob2
          go_loopw [7, 8] (fun v7 v8 wq => ∃ k : Nat, k ≤ 9 ∧ v8 = .int .i64 k ∧ OB wq 5 B v7 (List.replicate (x.length + k) m) ∧ Rd wq (.slice ua x.length uc) (List.replicate x.length m) ∧ (v7.ownBlock = (Value.slice ua x.length uc).ownBlock ∨ ∀ b, v7.ownBlock = some b → wu.heap.size ≤ b) ∧ Kp (Value.slice ua x.length uc).ownBlock.toList wu wq) (fun _ v8 _ => 9 - (intOf v8).toNat)
          case atStart => exact ⟨0, by omega, rfl, hob2, hrd0, .inl rfl, Kp.refl _ _⟩
          case round =>
            clear hrd0 hob2
            obtain ⟨k, hk, rfl, hob, hrd, hbl, hkq2⟩ := hrel
            obtain ⟨ga, gc, hform⟩ := own_form hob
            rw [List.length_replicate] at hform
            subst hform
            have huw : ∀ b, (Value.slice ua x.length uc).ownBlock = some b → b < wu.heap.size := fun b hb => by
              have := HSLT.out b (HUS.out b hb); have := hkr.size; have := hkq.size; omega
            have hBr : B ≤ wr.heap.size := by have := (hown.lt rb rfl).1; have := hkq2.size; omega
            by_cases hk9 : k < 9
            · go_wp2_with (with_reducible refine stop_app ?_)
              unfold Stop
              have hkA := (Kp.refl [] wr).alloc (.cells #[.int .u8 (m.toNat : Int)] 5)
              have hobA := ob_unrep (own_kp hob hkA (by simp))
              refine wpList_app2 _ rfl _ _ 23 23 rfl B 5 i0 _ 1 1 Tryd.underlying23 hi0 hz0 hz1 hz2 rfl (by omega) (.slice ga (x.length + k) gc) (x.length + k) _ rfl hobA (.slice (some ⟨wr.heap.size, 0, none⟩) 1 1) 1 [.int .u8 (m.toNat : Int)] rfl (Src.of_sl Tryd.underlying23 (sl_alloc wr 5 _ _ rfl 1 1 rfl) (by simp [Value.oneCell'])) (by omega) (by omega) (by simp; omega) ?_
              intro v6 w6 ho6 hg6
              rw [bcells_rep] at ho6
              have ho7 := ob_rep (n' := x.length + (k + 1)) ho6 (by omega) (by rw [Nat.add_assoc])
              obtain ⟨g1, g2, g3⟩ := grow_one (k := k) hkA huw hrd hbl hkq2 ho7 hg6
              have HO7 := Lib.hid ho7
              have HG2 := Lib.hid g2
              clear ho6 hg6 hobA hob hbl ho7 g2 hrd
              go_wp2_with fail
              go_roundw
              case measure => simp [intOf]; omega
              case rel => exact ⟨k + 1, by omega, by go_num, HO7.out, g1, HG2.out, g3⟩
            · obtain rfl : k = 9 := by omega
              obtain ⟨hrc3, hrl3⟩ := HROW2.out wr (hkq.trans hkq2)
              go_wp2_with (with_reducible refine stop_app ?_)
              unfold Stop
              have hkA := (Kp.refl [] wr).alloc (.cells #[.slice ga (x.length + 9) gc, .slice ua x.length uc] 23)
              have hkoA : Kp (Value.slice ua x.length uc).ownBlock.toList wo (wr.alloc (.cells #[.slice ga (x.length + 9) gc, .slice ua x.length uc] 23)) := (hkq.trans hkq2).trans hkA.nil
              have hlongA := own_kp hlong hkoA (fun b hb hm => by have := (hlong.lt b hb).1; have := HSLT.out b (HUS.out b (by simpa using hm)); omega)
              have hin := HN.out
              refine wpList_app _ rfl _ _ 22 22 rfl w.heap.size 23 i1 _ 1 24 Tryd.underlying22 hi1 hy0 hy1 hy2 rfl (by omega) (.slice la (2 * i) lc) (2 * i) ls rfl hlongA (.slice (some ⟨wr.heap.size, 0, none⟩) 2 2) 2 [.slice ga (x.length + 9) gc, .slice ua x.length uc] rfl (Src.of_sl Tryd.underlying22 (sl_alloc wr 23 _ _ rfl 1 2 rfl) (by simp [Value.oneCell'])) (by omega) (by omega) (by have := hkr.size; have := hkoA.size; omega) ?_
              intro v8 w8 ho8 hg8 hx8
              have hk8 : Kp (Value.slice la (2 * i) lc).ownBlock.toList (wr.alloc (.cells #[.slice ga (x.length + 9) gc, .slice ua x.length uc] 23)) w8 := (Kp.refl _ _).grown hg8 (fun q hq => .inl (by simp [hq]))
              have hlsl : ls.length = 2 * i := by have := hlong.1; omega
              have hKP : Kp S w w8 := (hkr.trans (hkoA.mono (fun b hb => .inl (HUS.out b (by simpa using hb))))).trans' hk8 (fun b hb => .inr ((hlong.lt b (by simpa using hb)).1))
              have hTD : ToDo w w8 B us its (i + 1) := fun j hj u' x' hu' hx' => by
                have h1 := HTD.out j (by omega) u' x' hu' hx'
                have h2 := own_kp h1 hkoA (fun b hb hm => HAP.out j i u' _ (by omega) hu' HU.out b hb (by simpa using hm))
                exact own_kp h2 hk8 (fun b hb hm => own_ne h2 hlongA (by decide) b hb (by simpa using hm))
              have hobA : OB _ 5 B (.slice ga (x.length + 9) gc) (List.replicate (x.length + 9) m) := own_kp hob hkA (by simp)
              have hrdA := hrd.kp hkA (by simp)
              have hDN : ∀ q, q < 2 * (i + 1) → RowDone w w8 us its (ls ++ [.slice ga (x.length + 9) gc, .slice ua x.length uc]) q := fun q hq => by
                by_cases hq1 : q < 2 * i
                · have h1 := (HDONE.out q hq1).kp hkoA (fun b hb => ⟨HSLT.out b (HUS.out b (by simpa using hb)), fun y hy he => HAP.out (q / 2) i y _ (by omega) hy HU.out b he (by simpa using hb)⟩)
                  exact (h1.kpT hlongA (by decide) hk8).more
                · by_cases hq2 : q = 2 * i
                  · subst hq2
                    have e1 : 2 * i / 2 = i := by omega
                    have e2 : 2 * i % 2 = 0 := by omega
                    refine ⟨.slice ga (x.length + 9) gc, .slice ua x.length uc, x, ?_, by rw [e1]; exact HU.out, by rw [e1]; exact HX.out, ?_, fun b hb => ?_⟩
                    · rw [List.getElem?_append_right (by omega), hlsl, Nat.sub_self]; rfl
                    · rw [e1, e2, if_pos rfl, HMK.out]
                      exact (Rd.of hobA).kp hk8 (fun b hb hm => (Rd.of hobA).ne hlongA (by decide) b hb (by simpa using hm))
                    · rcases hbl with h | h
                      · exact .inl (by rw [← h]; exact hb)
                      · have := h b hb; have := hkr.size; have := hkq.size; exact .inr (by omega)
                  · obtain rfl : q = 2 * i + 1 := by omega
                    have e1 : (2 * i + 1) / 2 = i := by omega
                    have e2 : ¬ (2 * i + 1) % 2 = 0 := by omega
                    refine ⟨.slice ua x.length uc, .slice ua x.length uc, x, ?_, by rw [e1]; exact HU.out, by rw [e1]; exact HX.out, ?_, fun b hb => .inl hb⟩
                    · rw [List.getElem?_append_right (by omega), hlsl, Nat.add_sub_cancel_left]; rfl
                    · rw [e1, if_neg e2, HMK.out, Nat.add_zero]
                      exact hrdA.kp hk8 (fun b hb hm => hrdA.ne hlongA (by decide) b hb (by simpa using hm))
              have HTD8 := Lib.hid hTD
              have HDN := Lib.hid hDN
              have HO8 := Lib.hid ho8
              clear hTD hDN ho8 hob hobA hrd hrdA hbl hlong hlongA hrow huw hlsl hrc3 hrc hx8 hg8 hown
              go_wp2_with fail
              go_roundw
              case measure => simp [intOf]; omega
              case rel => exact ⟨i + 1, _, by omega, by go_num, HO8.out, hKP, HTD8.out, HDN.out⟩
    · obtain rfl : i = its.length := by omega
      have hd : decide ((its.length : Int) < (its.length : Int)) = false := by simp
      have HDONE := Lib.hid hdone
      have HTD := Lib.hid htd
      have hnn : (2 * its.length : Nat) ≤ 4000000000000 := by omega
      clear hdone htd
      generalize hN : 2 * its.length = N at *
      have HNN := Lib.hid hN
      clear hN
      go_wp2_with fail
      go_loop [9] (fun v9 => ∃ q : Nat, q ≤ N ∧ v9 = .int .i64 q) (fun v9 => N - (intOf v9).toNat)
      case atStart => exact ⟨0, by omega, rfl⟩
      case round =>
        obtain ⟨q, hq, rfl⟩ := hrel
        by_cases hqn : q < N
        · obtain ⟨u, y, x, h1, h2, h3, h4, -⟩ := HDONE.out q hqn
          have hL : (x.length + if q % 2 = 0 then 9 else 0) ≤ 140737488355100 := by
            have := HL.out x (List.mem_of_getElem? h3)
            split <;> omega
          generalize (x.length + if q % 2 = 0 then 9 else 0) = L at *
          obtain ⟨lb, rfl⟩ : ∃ lb, la = some ⟨lb, 0, none⟩ := by
            rcases hlong.2 with ⟨h, h0⟩ | ⟨g, cap, cur, fr, hv, _⟩
            · omega
            · cases hv; exact ⟨g, rfl⟩
          have hlc := Own.cellAt hlong q (by omega)
          rw [h1] at hlc
          have hll := (Own.lt hlong lb rfl).2
          have hm := mkB_wrap (q / 2)
          generalize mkB (q / 2) = m at *
          obtain ⟨ua, uc, hu, hcell⟩ := Rd.form h4
          rw [List.length_replicate] at hu hcell
          subst hu
          have hq2 : ((q / 2 : Nat) : Int) = (q : Int) / 2 := by omega
          rw [hq2] at hm
          have hq3 : (0 : Int) ≤ q ∧ (q : Int) < N ∧ 0 ≤ (q : Int) / 2 := by omega
          obtain ⟨hq3, hq4, hq5⟩ := hq3
          have HCELL := Lib.hid hcell
          clear h1 h2 h3 h4 hcell hq2
          go_wp2_with fail
          go_loop [10] (fun v10 => ∃ k : Nat, k ≤ L ∧ v10 = .int .i64 k) (fun v10 => L - (intOf v10).toNat)
          case atStart => exact ⟨0, by omega, rfl⟩
          case round =>
            obtain ⟨k, hk, rfl⟩ := hrel
            by_cases hkl : k < L
            · obtain ⟨g, rfl, hg, hc⟩ := HCELL.out (by omega)
              have hck := hc k hkl
              have hkm : (List.replicate L m).getD k 0 = m := by simp [List.getD, hkl]
              rw [hkm] at hck
              have hk2 : (0 : Int) ≤ k ∧ (k : Int) < L := by omega
              obtain ⟨hk2, hk3⟩ := hk2
              clear hc hkm
              go_wp2_with fail
              go_round
              case measure => simp [intOf]; omega
              case rel => exact ⟨k + 1, by omega, by go_num⟩
            · obtain rfl : k = L := by omega
              have hd : decide ((k : Int) < (k : Int)) = false := by simp
              go_wp2_with fail
              go_round
              case measure => simp [intOf]; omega
              case rel => exact ⟨q + 1, by omega, by go_num⟩
        · obtain rfl : q = N := by omega
          have hd : decide ((q : Int) < (q : Int)) = false := by simp
          go_wp2_with fail
          go_ret
          exact ⟨rfl, hkr⟩
end Go.Proofs.YtddpefbpiehgeaaDoor

