/- LinkBack, the walk. -/
import Derived.Test.YtddpefbpiehgeaaDoorRowK
namespace Go.Proofs.YtddpefbpiehgeaaDoor
open Go Go.RowKit
set_option maxRecDepth 100000
set_option linter.unusedVariables false
set_option linter.unusedSectionVars false
set_option linter.unusedSimpArgs false

set_option maxHeartbeats 2000000 in
theorem back_walk (s : ByteArray) (f : Fr) (iv tv rv : Value) (l : List UInt8) (w : World) (hG : GH w) (hi : Rws w iv f.its) (ht : Bs w tv f.t) (hr : Bs w rv l) (hn : f.its.length ≤ 10000000000000) (hnt : f.t.length ≤ 140737488352000) (hb : f.b ≤ 9223372036854775807) (hl : l.length ≤ 140737488352000) :
    Calls Tryd.prog 5 #[.string s, .agg (fcells f iv tv), rv] w fun e w' => e = .returned (.bool true) ∧ Kp [] w w' := by
  obtain ⟨ia, ic, rfl, hic⟩ := hi.form
  obtain ⟨ta, tc, rfl, -⟩ := Sl.form ht
  obtain ⟨ra, rc, rfl, -⟩ := Sl.form hr
  unfold fcells
  have hk0 := (Kp.refl [] w).alloc (.cells #[.int .i64 f.k, .int .i64 f.a, .int .i64 f.b, .slice ia f.its.length ic, .slice ta f.t.length tc] 25)
  have hh0 := heap_alloc_new w (.cells #[.int .i64 f.k, .int .i64 f.a, .int .i64 f.b, .slice ia f.its.length ic, .slice ta f.t.length tc] 25)
  obtain ⟨pf, pe, hpo⟩ : ∃ pf pe, parsedOf s l = (pf, pe) := ⟨_, _, rfl⟩
  obtain ⟨bl, g, hmk⟩ : ∃ bl g, madeOf s f = (bl, g) := ⟨_, _, rfl⟩
  have hblen : bl.length ≤ 20000 := by
    have : bl = (madeOf s f).1 := by rw [hmk]
    rw [this]
    unfold madeOf
    split
    · simp
    · rename_i hm
      split
      · simp
      · have := frameBytes_le f (by simpa using hm)
        simp only [sealed_length]; omega
  have HPO := Lib.hid hpo
  have HMK := Lib.hid hmk
  clear hpo hmk
  go_enter Tryd.func5, Tryd.ntmps5
  go_wp2_with fail
  have hsz0 := alloc_lt w (.cells #[.int .i64 f.k, .int .i64 f.a, .int .i64 f.b, .slice ia f.its.length ic, .slice ta f.t.length tc] 25)
  generalize w.alloc (.cells #[.int .i64 f.k, .int .i64 f.a, .int .i64 f.b, .slice ia f.its.length ic, .slice ta f.t.length tc] 25) = w0 at *
  generalize hbb : w.heap.size = bb at *
  have HBB := Lib.hid hbb
  clear hbb
  refine (awake_calls w0 (hG.kp0 hk0)).mono ?_
  rintro e w1 ⟨rfl, hk1⟩
  have K1 := hk0.trans hk1
  go_wp2_with fail
  have hpc := parse_calls s _ l w1 (hG.kp0 K1) (hr.kp0 K1) hl
  rw [HPO.out] at hpc
  refine hpc.mono ?_
  rintro e w2 ⟨v2, rfl, hF2, hk2⟩
  obtain ⟨xa, xc, ya, yc, rfl, hxR, hxT⟩ := hF2.lit
  have K2 := K1.trans hk2
  have hk3 := (Kp.refl [] w2).alloc (.cells #[.int .i64 pf.k, .int .i64 pf.a, .int .i64 pf.b, .slice xa pf.its.length xc, .slice ya pf.t.length yc] 25)
  have hh3 := heap_alloc_new w2 (.cells #[.int .i64 pf.k, .int .i64 pf.a, .int .i64 pf.b, .slice xa pf.its.length xc, .slice ya pf.t.length yc] 25)
  have hlt2 : bb < w2.heap.size := by have := (hk1.trans hk2).size; omega
  clear hpc
  by_cases he : pe = 0
  · subst he
    have hmade := madeOf_parsed HPO.out
    have hpb : pf.its.length ≤ 100000000000000 ∧ pf.t.length ≤ 140737488352000 ∧ pf.b ≤ 9223372036854775807 := by
      have hm : mayB pf = true := by
        have := hmade
        unfold madeOf at this
        split at this
        · cases this
        · rename_i h; simpa using h
      rcases may_k hm with hk | ⟨_, _, h2, h3, _, _⟩ | ⟨_, _, h2, h3, _⟩
      · obtain ⟨h1, _, _, _, _, _, _⟩ := may_1 hm hk
        rw [h1]; simp; omega
      · rw [h2, h3]; simp; omega
      · rw [h2]; simp; omega
    have HM := Lib.hid hmade
    clear hmade
    go_wp2_with fail
    generalize w2.alloc (.cells #[.int .i64 pf.k, .int .i64 pf.a, .int .i64 pf.b, .slice xa pf.its.length xc, .slice ya pf.t.length yc] 25) = w3 at *
    have K3 := K2.trans hk3
    have hmc := make_all s pf (.slice xa pf.its.length xc) (.slice ya pf.t.length yc) w3 (hG.kp0 K3) (hxR.rws.kp0 hk3) (hxT.kp0 hk3) hpb.1 hpb.2.1 hpb.2.2
    rw [HM.out] at hmc
    unfold fcells at hmc
    refine hmc.mono ?_
    rintro e w4 ⟨v4, rfl, ho4, hk4⟩
    have K4 := K3.trans hk4
    have ho4' : OB w4 5 w3.heap.size v4 l := ho4
    obtain ⟨za, zc, rfl⟩ := own_form ho4'
    have hc1 := b2sc (OB.bs ho4')
    have hc2 := b2sc (hr.kp0 K4)
    clear hmc hpb hxR hxT hF2 hh3
    have hh4 := (((hk1.trans hk2).trans hk3).trans hk4).heap hh0 (by simp)
    obtain ⟨c0, c1, c2, c3, c4⟩ := cells5 hh4
    go_wp2_with fail
    have hmd := make_all s f (.slice ia f.its.length ic) (.slice ta f.t.length tc) w4 (hG.kp0 K4) (hi.kp0 K4) (ht.kp0 K4) (by omega) hnt hb
    rw [HMK.out] at hmd
    unfold fcells at hmd
    refine hmd.mono ?_
    rintro e w5 ⟨v5, rfl, ho5, hk5⟩
    have K5 := (K4).trans hk5
    obtain ⟨pa, pc, rfl⟩ := own_form ho5
    have ho5' : OB w5 5 (w4).heap.size (.slice pa bl.length pc) bl := ho5
    clear hmd
    by_cases hg0 : g = 0
    · subst hg0
      have hpc := parse_calls s _ bl w5 (hG.kp0 K5) (OB.bs ho5') (by omega)
      rw [parsedOf_made HMK.out] at hpc
      go_wp2_with fail
      refine hpc.mono ?_
      rintro e w6 ⟨v6, rfl, hF6, hk6⟩
      obtain ⟨qa, qc, sa, sc, rfl, hqR, hqT⟩ := hF6.lit
      have K6 := K5.trans hk6
      have hk7 := hk6.alloc (.cells #[.int .i64 f.k, .int .i64 f.a, .int .i64 f.b, .slice qa f.its.length qc, .slice sa f.t.length sc] 25)
      have hk67 := (Kp.refl [] w6).alloc (.cells #[.int .i64 f.k, .int .i64 f.a, .int .i64 f.b, .slice qa f.its.length qc, .slice sa f.t.length sc] 25)
      have hh7 := heap_alloc_new w6 (.cells #[.int .i64 f.k, .int .i64 f.a, .int .i64 f.b, .slice qa f.its.length qc, .slice sa f.t.length sc] 25)
      have K7 := K5.trans hk7
      have hh4' := (hk5.trans hk7).heap hh4 (by simp)
      obtain ⟨d0, d1, d2, d3, d4⟩ := cells5 hh4'
      have hsm := fsame_calls f f (.slice qa f.its.length qc) (.slice sa f.t.length sc) (.slice ia f.its.length ic) (.slice ta f.t.length tc) _ (hqR.rws.kp0 hk67) (hqT.kp0 hk67) (hi.kp0 K7) (ht.kp0 K7) (by omega) (by omega)
      rw [sameF_self] at hsm
      unfold fcells at hsm
      clear hpc c0 c1 c2 c3 c4
      go_wp2_with fail
      refine hsm.mono ?_
      rintro e w8 ⟨rfl, hk8⟩
      go_wp2
      go_ret
      exact ⟨rfl, K7.trans hk8⟩
    · have hge : (g != 0) = true := by simpa using hg0
      have hbl : bl = [] := by have := madeOf_err (s := s) (f := f) (by rw [HMK.out]; exact hg0); rw [HMK.out] at this; exact this
      subst hbl
      go_wp2
      go_ret
      exact ⟨rfl, K5⟩
  · have hde : (pe == 0) = false := by simpa using he
    have hh4 := ((hk1.trans hk2).trans hk3).heap hh0 (by simp)
    obtain ⟨c0, c1, c2, c3, c4⟩ := cells5 hh4
    go_wp2_with fail
    generalize w2.alloc (.cells #[.int .i64 pf.k, .int .i64 pf.a, .int .i64 pf.b, .slice xa pf.its.length xc, .slice ya pf.t.length yc] 25) = w3 at *
    have K3 := K2.trans hk3
    clear hxR hxT hF2 hh3
    have hmd := make_all s f (.slice ia f.its.length ic) (.slice ta f.t.length tc) w3 (hG.kp0 K3) (hi.kp0 K3) (ht.kp0 K3) (by omega) hnt hb
    rw [HMK.out] at hmd
    unfold fcells at hmd
    refine hmd.mono ?_
    rintro e w5 ⟨v5, rfl, ho5, hk5⟩
    have K5 := (K3).trans hk5
    obtain ⟨pa, pc, rfl⟩ := own_form ho5
    have ho5' : OB w5 5 (w3).heap.size (.slice pa bl.length pc) bl := ho5
    clear hmd
    by_cases hg0 : g = 0
    · subst hg0
      have hpc := parse_calls s _ bl w5 (hG.kp0 K5) (OB.bs ho5') (by omega)
      rw [parsedOf_made HMK.out] at hpc
      go_wp2_with fail
      refine hpc.mono ?_
      rintro e w6 ⟨v6, rfl, hF6, hk6⟩
      obtain ⟨qa, qc, sa, sc, rfl, hqR, hqT⟩ := hF6.lit
      have K6 := K5.trans hk6
      have hk7 := hk6.alloc (.cells #[.int .i64 f.k, .int .i64 f.a, .int .i64 f.b, .slice qa f.its.length qc, .slice sa f.t.length sc] 25)
      have hk67 := (Kp.refl [] w6).alloc (.cells #[.int .i64 f.k, .int .i64 f.a, .int .i64 f.b, .slice qa f.its.length qc, .slice sa f.t.length sc] 25)
      have hh7 := heap_alloc_new w6 (.cells #[.int .i64 f.k, .int .i64 f.a, .int .i64 f.b, .slice qa f.its.length qc, .slice sa f.t.length sc] 25)
      have K7 := K5.trans hk7
      have hh4' := (hk5.trans hk7).heap hh4 (by simp)
      obtain ⟨d0, d1, d2, d3, d4⟩ := cells5 hh4'
      have hsm := fsame_calls f f (.slice qa f.its.length qc) (.slice sa f.t.length sc) (.slice ia f.its.length ic) (.slice ta f.t.length tc) _ (hqR.rws.kp0 hk67) (hqT.kp0 hk67) (hi.kp0 K7) (ht.kp0 K7) (by omega) (by omega)
      rw [sameF_self] at hsm
      unfold fcells at hsm
      clear hpc c0 c1 c2 c3 c4
      go_wp2_with fail
      refine hsm.mono ?_
      rintro e w8 ⟨rfl, hk8⟩
      go_wp2
      go_ret
      exact ⟨rfl, K7.trans hk8⟩
    · have hge : (g != 0) = true := by simpa using hg0
      have hbl : bl = [] := by have := madeOf_err (s := s) (f := f) (by rw [HMK.out]; exact hg0); rw [HMK.out] at this; exact this
      subst hbl
      go_wp2
      go_ret
      exact ⟨rfl, K5⟩
end Go.Proofs.YtddpefbpiehgeaaDoor
