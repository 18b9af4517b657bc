/- The reference's Parse: frames of one number, and of unknown kinds. -/
import Derived.Test.YtddpefbpiehgeaaDoorF12
import Derived.Test.YtddpefbpiehgeaaDoorF07
namespace Go.Proofs.YtddpefbpiehgeaaDoor
open Go Go.RowKit
set_option maxRecDepth 100000
set_option linter.unusedVariables false
set_option linter.unusedSectionVars false
set_option linter.unusedSimpArgs false

/-- What Parse hands back of an open body. -/
def RdQ (d : List UInt8) (w : World) (e : Ending) (w' : World) : Prop :=
  match parsed d with
  | none => RdP (zeroF, 120) w e w'
  | some f => RdP (f, 0) w e w'

set_option maxHeartbeats 1000000 in
theorem rparse_num (s : ByteArray) (v : Value) (l d : List UInt8) (k b : Nat) (s1 s2 s3 : RS) (w : World) (hG : GR w) (hs : s.size ≤ 200) (hv : Bs w v l) (hl : 16 ≤ l.length) (hl1 : l.length ≤ 140737488352000) (ho : opened s l = some d)
    (h1 : rdNum d 1 ⟨0, 0, 0, 0⟩ = (k, s1)) (h2 : rdNum d 8 s1 = (b, s2)) (h3 : rdEnd d s2 = s3) (hk1 : k = 2 ∨ k = 3) (hb : b ≤ 9223372036854775807) :
    Calls Tryd.prog 17 #[.string s, v] w (RdQ d w) := by
  have hdl := opened_len ho
  have hP : parsed d = if s3.code = 0 && mayB ⟨k, 0, b, [], []⟩ then some ⟨k, 0, b, [], []⟩ else none := by
    unfold parsed rdFrame
    simp only [h1, h2, h3, if_neg (show k ≠ 1 by omega), if_neg (show k ≠ 4 by omega)]
  have HP := Lib.hid hP
  have hk0 := (Kp.refl [] w).alloc (.cells #[.int .i64 0, .int .i64 0, .int .i64 0, .slice none 0 0, .slice none 0 0] 25)
  have hh0 := heap_alloc_new w (.cells #[.int .i64 0, .int .i64 0, .int .i64 0, .slice none 0 0, .slice none 0 0] 25)
  have hsz0 := alloc_lt w (.cells #[.int .i64 0, .int .i64 0, .int .i64 0, .slice none 0 0, .slice none 0 0] 25)
  have hop := ropen_calls s v l _ (hG.kp0 hk0) hs (hv.kp0 hk0) hl hl1
  unfold RetO at hop
  rw [ho] at hop
  simp only at hop
  have HOP := Lib.hid hop
  have H1 := Lib.hid h1
  have H2 := Lib.hid h2
  have H3 := Lib.hid h3
  have b1 : ((k : Int) == 1) = false := by simp; omega
  have HK := Lib.hid hk1
  clear hop hP h1 h2 h3 hk1
  go_enter Tryd.func17, Tryd.ntmps17
  go_wp2_with fail
  generalize w.alloc (.cells #[.int .i64 0, .int .i64 0, .int .i64 0, .slice none 0 0, .slice none 0 0] 25) = w0 at *
  refine HOP.out.mono ?_
  rintro e w1 ⟨v1, rfl, ho1, hkw1⟩
  obtain ⟨a1, c1, rfl⟩ := own_form ho1
  have hr2 : RRd w0 w1.heap.size w1.heap.size d ⟨0, 0, 0, 0⟩ (w1.alloc (.cells #[.slice a1 d.length c1, .int .i64 0, .int .i64 0, .int .i64 0, .int .i64 0] 82)) := by
    refine ⟨⟨by simp, Nat.zero_le _, a1, c1, heap_alloc_new _ _, (OB.bs ho1).kp0 ((Kp.refl [] w1).alloc _), fun b hb => ?_⟩, hkw1.trans ((Kp.refl [] w1).alloc _), hkw1.size, by omega⟩
    have := (ho1.lt b hb).2
    omega
  go_wp2_with fail
  generalize w1.alloc (.cells #[.slice a1 d.length c1, .int .i64 0, .int .i64 0, .int .i64 0, .int .i64 0] 82) = w2 at *
  obtain ⟨p, hp⟩ : ∃ p, p = w1.heap.size := ⟨_, rfl⟩
  simp only [← hp] at hr2 ⊢
  clear hp
  rcases HK.out with rfl | rfl
  · go_wp2_with (first
      | (go_at_call 44; (with_reducible refine (rrd_num (ki := 1) (k := 1) rfl H1.out w2 hr2 (by omega) (by omega)).mono ?_); rintro e w3 ⟨rfl, hr3, hk3⟩))
    have hr3' := hr3.kp ((Kp.refl [] w3).alloc (.cells #[.int .i64 2, .int .i64 0, .int .i64 0, .slice none 0 0, .slice none 0 0] 25)) (by simp) (by simp)
    have h9 := heap_alloc_new w3 (.cells #[.int .i64 2, .int .i64 0, .int .i64 0, .slice none 0 0, .slice none 0 0] 25)
    have hlt9 := alloc_lt w3 (.cells #[.int .i64 2, .int .i64 0, .int .i64 0, .slice none 0 0, .slice none 0 0] 25)
    have hp3 : p < w3.heap.size := by obtain ⟨⟨_, _, _, _, hh, _⟩, _⟩ := hr3; exact lt_of_heap hh
    generalize w3.alloc (.cells #[.int .i64 2, .int .i64 0, .int .i64 0, .slice none 0 0, .slice none 0 0] 25) = w3' at *
    go_wp2_with (first
      | (go_at_call 44; (with_reducible refine (rrd_num (ki := 8) (k := 8) rfl H2.out w3' hr3' (by omega) (by omega)).mono ?_); rintro e w4 ⟨rfl, hr4, hk4⟩; have h94 := hk4.heap h9 (by simp; omega); obtain ⟨c90, c91, c92, c93, c94⟩ := cells5 h94; have f92 := free_heap h94 2))
    have hw3 := hr3.2.1.size
    have hr5 := hr4.kp ((Kp.refl [w3.heap.size] w4).setCell (p := ⟨w3.heap.size, 2, none⟩) (.inl (by simp)) (.int .i64 b)) (by simp; omega) (by simp; omega)
    have h95 := heap_setCell_same _ _ 2 _ _ (.int .i64 (b : Int)) h94
    simp only [List.setIfInBounds_toArray, List.set_cons_succ, List.set_cons_zero] at h95
    clear c90 c91 c92 c93 c94 f92
    refine (rrd_end H3.out _ hr5).mono ?_
    rintro e w6 ⟨rfl, hr6, hk6⟩
    have h96 := hk6.heap h95 (by simp; omega)
    obtain ⟨c90, c91, c92, c93, c94⟩ := cells5 h96
    have hb6 := lt_of_heap h96
    unfold faultV
    go_wp2_with fail
    have hw06 : Kp [] w0 w6 := hr6.2.1
    have hrb := hw06.heap hh0 (by simp)
    have hrb7 := ((Kp.refl [] w6).alloc (.cells #[.int .i64 s3.code, .int .i64 s3.fat] 78)).heap hrb (by simp)
    have hk7 := hw06.trans ((Kp.refl [] w6).alloc (.cells #[.int .i64 s3.code, .int .i64 s3.fat] 78))
    have h97 := ((Kp.refl [] w6).alloc (.cells #[.int .i64 s3.code, .int .i64 s3.fat] 78)).heap h96 (by simp)
    have hfa := heap_alloc_new w6 (.cells #[.int .i64 s3.code, .int .i64 s3.fat] 78)
    have hfl := alloc_lt w6 (.cells #[.int .i64 s3.code, .int .i64 s3.fat] 78)
    generalize w6.alloc (.cells #[.int .i64 s3.code, .int .i64 s3.fat] 78) = w7 at *
    have hmay := rmay_calls ⟨2, 0, b, [], []⟩ (.slice none 0 0) (.slice none 0 0) w7 ⟨[], Sl.of_own (Own.nil w7 0 0 1), rfl, fun i h => by simp at h⟩ (Sl.of_own (Own.nil w7 0 0 1)) (by simp) (by simp) (by simp; omega)
    refine hmay.mono ?_
    rintro e w8 ⟨rfl, hk8⟩
    have hrb8 := hk8.heap hrb7 (by simp)
    have hf8 := hk8.heap hfa (by simp)
    obtain ⟨e90, e91, e92, e93, e94⟩ := cells5 (hk8.heap h97 (by simp))
    have e80 := cell_heap hf8 0
    simp only [List.getElem?_toArray, List.getElem?_cons_zero] at e80
    have g0 := free_heap hrb8 0
    have g1 := free_heap hrb8 1
    have g2 := free_heap hrb8 2
    have g3 := free_heap hrb8 3
    have g4 := free_heap hrb8 4
    obtain ⟨q0, q1, q2, q3, q4⟩ := cells5 hrb8
    have hkz := (hk0.trans (hk7.trans hk8))
    have hP := HP.out
    generalize hm : mayB ⟨((2 : Nat) : Int), 0, b, [], []⟩ = m at *
    by_cases hc : s3.code = 0
    · have bc : (s3.code != 0) = false := by simp [hc]
      cases m with
      | false =>
        have hP2 : parsed d = none := by rw [hP]; simp
        have HP2 := Lib.hid hP2
        clear hP hP2 hc hm
        go_wp2
        refine rparse_ret rfl rfl (set5 _ _ _ _ _ hrb8) rfl ?_
        unfold RdQ
        rw [HP2.out]
        exact RdP.zero rfl (hkz.trans' (set5_kp _ _ _ _ _ _ _) (by simp))
      | true =>
        have hP2 : parsed d = some ⟨((2 : Nat) : Int), 0, b, [], []⟩ := by rw [hP]; simp [hc]
        have HP2 := Lib.hid hP2
        clear hP hP2 hc hm
        go_wp2
        refine rparse_ret rfl rfl (set5 _ _ _ _ _ hrb8) rfl ?_
        unfold RdQ
        rw [HP2.out]
        exact ⟨_, _, rfl, ⟨[], Sl.of_own (Own.nil _ 0 0 1), rfl, fun i h => by simp at h⟩, Sl.of_own (Own.nil _ 0 0 1), hkz.trans' (set5_kp _ _ _ _ _ _ _) (by simp)⟩
    · have bc : (s3.code != 0) = true := by simpa using hc
      have hP2 : parsed d = none := by rw [hP]; simp [hc]
      have HP2 := Lib.hid hP2
      clear hP hP2 hc hm
      go_wp2
      refine rparse_ret rfl rfl (set5 _ _ _ _ _ hrb8) rfl ?_
      unfold RdQ
      rw [HP2.out]
      exact RdP.zero rfl (hkz.trans' (set5_kp _ _ _ _ _ _ _) (by simp))
  · go_wp2_with (first
      | (go_at_call 44; (with_reducible refine (rrd_num (ki := 1) (k := 1) rfl H1.out w2 hr2 (by omega) (by omega)).mono ?_); rintro e w3 ⟨rfl, hr3, hk3⟩))
    have hr3' := hr3.kp ((Kp.refl [] w3).alloc (.cells #[.int .i64 3, .int .i64 0, .int .i64 0, .slice none 0 0, .slice none 0 0] 25)) (by simp) (by simp)
    have h9 := heap_alloc_new w3 (.cells #[.int .i64 3, .int .i64 0, .int .i64 0, .slice none 0 0, .slice none 0 0] 25)
    have hlt9 := alloc_lt w3 (.cells #[.int .i64 3, .int .i64 0, .int .i64 0, .slice none 0 0, .slice none 0 0] 25)
    have hp3 : p < w3.heap.size := by obtain ⟨⟨_, _, _, _, hh, _⟩, _⟩ := hr3; exact lt_of_heap hh
    generalize w3.alloc (.cells #[.int .i64 3, .int .i64 0, .int .i64 0, .slice none 0 0, .slice none 0 0] 25) = w3' at *
    go_wp2_with (first
      | (go_at_call 44; (with_reducible refine (rrd_num (ki := 8) (k := 8) rfl H2.out w3' hr3' (by omega) (by omega)).mono ?_); rintro e w4 ⟨rfl, hr4, hk4⟩; have h94 := hk4.heap h9 (by simp; omega); obtain ⟨c90, c91, c92, c93, c94⟩ := cells5 h94; have f92 := free_heap h94 2))
    have hw3 := hr3.2.1.size
    have hr5 := hr4.kp ((Kp.refl [w3.heap.size] w4).setCell (p := ⟨w3.heap.size, 2, none⟩) (.inl (by simp)) (.int .i64 b)) (by simp; omega) (by simp; omega)
    have h95 := heap_setCell_same _ _ 2 _ _ (.int .i64 (b : Int)) h94
    simp only [List.setIfInBounds_toArray, List.set_cons_succ, List.set_cons_zero] at h95
    clear c90 c91 c92 c93 c94 f92
    refine (rrd_end H3.out _ hr5).mono ?_
    rintro e w6 ⟨rfl, hr6, hk6⟩
    have h96 := hk6.heap h95 (by simp; omega)
    obtain ⟨c90, c91, c92, c93, c94⟩ := cells5 h96
    have hb6 := lt_of_heap h96
    unfold faultV
    go_wp2_with fail
    have hw06 : Kp [] w0 w6 := hr6.2.1
    have hrb := hw06.heap hh0 (by simp)
    have hrb7 := ((Kp.refl [] w6).alloc (.cells #[.int .i64 s3.code, .int .i64 s3.fat] 78)).heap hrb (by simp)
    have hk7 := hw06.trans ((Kp.refl [] w6).alloc (.cells #[.int .i64 s3.code, .int .i64 s3.fat] 78))
    have h97 := ((Kp.refl [] w6).alloc (.cells #[.int .i64 s3.code, .int .i64 s3.fat] 78)).heap h96 (by simp)
    have hfa := heap_alloc_new w6 (.cells #[.int .i64 s3.code, .int .i64 s3.fat] 78)
    have hfl := alloc_lt w6 (.cells #[.int .i64 s3.code, .int .i64 s3.fat] 78)
    generalize w6.alloc (.cells #[.int .i64 s3.code, .int .i64 s3.fat] 78) = w7 at *
    have hmay := rmay_calls ⟨3, 0, b, [], []⟩ (.slice none 0 0) (.slice none 0 0) w7 ⟨[], Sl.of_own (Own.nil w7 0 0 1), rfl, fun i h => by simp at h⟩ (Sl.of_own (Own.nil w7 0 0 1)) (by simp) (by simp) (by simp; omega)
    refine hmay.mono ?_
    rintro e w8 ⟨rfl, hk8⟩
    have hrb8 := hk8.heap hrb7 (by simp)
    have hf8 := hk8.heap hfa (by simp)
    obtain ⟨e90, e91, e92, e93, e94⟩ := cells5 (hk8.heap h97 (by simp))
    have e80 := cell_heap hf8 0
    simp only [List.getElem?_toArray, List.getElem?_cons_zero] at e80
    have g0 := free_heap hrb8 0
    have g1 := free_heap hrb8 1
    have g2 := free_heap hrb8 2
    have g3 := free_heap hrb8 3
    have g4 := free_heap hrb8 4
    obtain ⟨q0, q1, q2, q3, q4⟩ := cells5 hrb8
    have hkz := (hk0.trans (hk7.trans hk8))
    have hP := HP.out
    generalize hm : mayB ⟨((3 : Nat) : Int), 0, b, [], []⟩ = m at *
    by_cases hc : s3.code = 0
    · have bc : (s3.code != 0) = false := by simp [hc]
      cases m with
      | false =>
        have hP2 : parsed d = none := by rw [hP]; simp
        have HP2 := Lib.hid hP2
        clear hP hP2 hc hm
        go_wp2
        refine rparse_ret rfl rfl (set5 _ _ _ _ _ hrb8) rfl ?_
        unfold RdQ
        rw [HP2.out]
        exact RdP.zero rfl (hkz.trans' (set5_kp _ _ _ _ _ _ _) (by simp))
      | true =>
        have hP2 : parsed d = some ⟨((3 : Nat) : Int), 0, b, [], []⟩ := by rw [hP]; simp [hc]
        have HP2 := Lib.hid hP2
        clear hP hP2 hc hm
        go_wp2
        refine rparse_ret rfl rfl (set5 _ _ _ _ _ hrb8) rfl ?_
        unfold RdQ
        rw [HP2.out]
        exact ⟨_, _, rfl, ⟨[], Sl.of_own (Own.nil _ 0 0 1), rfl, fun i h => by simp at h⟩, Sl.of_own (Own.nil _ 0 0 1), hkz.trans' (set5_kp _ _ _ _ _ _ _) (by simp)⟩
    · have bc : (s3.code != 0) = true := by simpa using hc
      have hP2 : parsed d = none := by rw [hP]; simp [hc]
      have HP2 := Lib.hid hP2
      clear hP hP2 hc hm
      go_wp2
      refine rparse_ret rfl rfl (set5 _ _ _ _ _ hrb8) rfl ?_
      unfold RdQ
      rw [HP2.out]
      exact RdP.zero rfl (hkz.trans' (set5_kp _ _ _ _ _ _ _) (by simp))
end Go.Proofs.YtddpefbpiehgeaaDoor

/- The reference's Parse: frames of bytes. -/
namespace Go.Proofs.YtddpefbpiehgeaaDoor
open Go Go.RowKit
set_option maxRecDepth 100000
set_option linter.unusedVariables false
set_option linter.unusedSectionVars false
set_option linter.unusedSimpArgs false

set_option maxHeartbeats 1000000 in
theorem rparse_text (s : ByteArray) (v : Value) (l d : List UInt8) (k : Nat) (tt : List UInt8) (s1 s2 s3 : RS) (w : World) (hG : GR w) (hs : s.size ≤ 200) (hv : Bs w v l) (hl : 16 ≤ l.length) (hl1 : l.length ≤ 140737488352000) (ho : opened s l = some d)
    (h1 : rdNum d 1 ⟨0, 0, 0, 0⟩ = (k, s1)) (h2 : rdText d 16100 s1 = (tt, s2)) (h3 : rdEnd d s2 = s3) (hk1 : k = 4) (hb : tt.length ≤ 16100) :
    Calls Tryd.prog 17 #[.string s, v] w (RdQ d w) := by
  have hdl := opened_len ho
  have hP : parsed d = if s3.code = 0 && mayB ⟨k, 0, 0, [], tt⟩ then some ⟨k, 0, 0, [], tt⟩ else none := by
    unfold parsed rdFrame
    simp only [h1, h2, h3, if_neg (show k ≠ 1 by omega), if_pos hk1]
  have HP := Lib.hid hP
  have hk0 := (Kp.refl [] w).alloc (.cells #[.int .i64 0, .int .i64 0, .int .i64 0, .slice none 0 0, .slice none 0 0] 25)
  have hh0 := heap_alloc_new w (.cells #[.int .i64 0, .int .i64 0, .int .i64 0, .slice none 0 0, .slice none 0 0] 25)
  have hsz0 := alloc_lt w (.cells #[.int .i64 0, .int .i64 0, .int .i64 0, .slice none 0 0, .slice none 0 0] 25)
  have hop := ropen_calls s v l _ (hG.kp0 hk0) hs (hv.kp0 hk0) hl hl1
  unfold RetO at hop
  rw [ho] at hop
  simp only at hop
  have HOP := Lib.hid hop
  have H1 := Lib.hid h1
  have H2 := Lib.hid h2
  have H3 := Lib.hid h3
  have b1 : ((k : Int) == 1) = false := by simp; omega
  have HK := Lib.hid hk1
  clear hop hP h1 h2 h3 hk1
  go_enter Tryd.func17, Tryd.ntmps17
  go_wp2_with fail
  generalize w.alloc (.cells #[.int .i64 0, .int .i64 0, .int .i64 0, .slice none 0 0, .slice none 0 0] 25) = w0 at *
  refine HOP.out.mono ?_
  rintro e w1 ⟨v1, rfl, ho1, hkw1⟩
  obtain ⟨a1, c1, rfl⟩ := own_form ho1
  have hr2 : RRd w0 w1.heap.size w1.heap.size d ⟨0, 0, 0, 0⟩ (w1.alloc (.cells #[.slice a1 d.length c1, .int .i64 0, .int .i64 0, .int .i64 0, .int .i64 0] 82)) := by
    refine ⟨⟨by simp, Nat.zero_le _, a1, c1, heap_alloc_new _ _, (OB.bs ho1).kp0 ((Kp.refl [] w1).alloc _), fun b hb => ?_⟩, hkw1.trans ((Kp.refl [] w1).alloc _), hkw1.size, by omega⟩
    have := (ho1.lt b hb).2
    omega
  go_wp2_with fail
  generalize w1.alloc (.cells #[.slice a1 d.length c1, .int .i64 0, .int .i64 0, .int .i64 0, .int .i64 0] 82) = w2 at *
  obtain ⟨p, hp⟩ : ∃ p, p = w1.heap.size := ⟨_, rfl⟩
  simp only [← hp] at hr2 ⊢
  clear hp
  obtain rfl := HK.out
  go_wp2_with (first
    | (go_at_call 44; (with_reducible refine (rrd_num (ki := 1) (k := 1) rfl H1.out w2 hr2 (by omega) (by omega)).mono ?_); rintro e w3 ⟨rfl, hr3, hk3⟩))
  have hr3' := hr3.kp ((Kp.refl [] w3).alloc (.cells #[.int .i64 4, .int .i64 0, .int .i64 0, .slice none 0 0, .slice none 0 0] 25)) (by simp) (by simp)
  have h9 := heap_alloc_new w3 (.cells #[.int .i64 4, .int .i64 0, .int .i64 0, .slice none 0 0, .slice none 0 0] 25)
  have hlt9 := alloc_lt w3 (.cells #[.int .i64 4, .int .i64 0, .int .i64 0, .slice none 0 0, .slice none 0 0] 25)
  have hp3 : p < w3.heap.size := by obtain ⟨⟨_, _, _, _, hh, _⟩, _⟩ := hr3; exact lt_of_heap hh
  generalize w3.alloc (.cells #[.int .i64 4, .int .i64 0, .int .i64 0, .slice none 0 0, .slice none 0 0] 25) = w3' at *
  go_wp2_with (first
    | (go_at_call 46; (with_reducible refine (rrd_text (mi := 16100) (m := 16100) rfl H2.out w3' hr3').mono ?_); rintro e w4 ⟨rfl, hr4, hk4⟩; have h94 := hk4.heap h9 (by simp; omega))
    | (refine wpList_s2b rfl _ 9 23 5 rfl ⟨tt.toArray⟩ rfl Tryd.underlying9 Tryd.underlying23 Tryd.underlying5 (by show tt.toArray.size ≤ _; simp; omega) ?_; intro v5 w5 ho5 hk5; obtain ⟨a5, c5, rfl⟩ := own_form ho5; have h95 := hk5.heap h94 (by simp); obtain ⟨c90, c91, c92, c93, c94⟩ := cells5 h95; have f92 := free_heap h95 4))
  have ho5b : OB w5 5 w4.heap.size (.slice a5 tt.length c5) tt := by simpa using ho5
  have h34 : w3.heap.size < w4.heap.size := Nat.lt_of_lt_of_le hlt9 hk4.size
  have hw3 := hr3.2.1.size
  have hks := (Kp.refl [w3.heap.size] w5).setCell (p := ⟨w3.heap.size, 4, none⟩) (.inl (by simp)) (.slice a5 tt.length c5)
  have hbt := (OB.bs ho5b).kp hks (fun b hb => by have := (Own.lt ho5b b hb).1; simp; omega)
  have hr5 := (hr4.kp hk5 (by simp) (by simp)).kp hks (by simp; omega) (by simp; omega)
  have h96a := heap_setCell_same _ _ 4 _ _ (.slice a5 tt.length c5) h95
  simp only [List.setIfInBounds_toArray, List.set_cons_succ, List.set_cons_zero] at h96a
  clear c90 c91 c92 c93 c94 f92
  refine (rrd_end H3.out _ hr5).mono ?_
  rintro e w6 ⟨rfl, hr6, hk6⟩
  have h96 := hk6.heap h96a (by simp; omega)
  obtain ⟨c90, c91, c92, c93, c94⟩ := cells5 h96
  have hbt6 := hbt.kp hk6 (fun b hb => by have := (Own.lt ho5b b hb).1; simp; omega)
  have hb6 := lt_of_heap h96
  unfold faultV
  go_wp2_with fail
  have hw06 : Kp [] w0 w6 := hr6.2.1
  have hrb := hw06.heap hh0 (by simp)
  have hrb7 := ((Kp.refl [] w6).alloc (.cells #[.int .i64 s3.code, .int .i64 s3.fat] 78)).heap hrb (by simp)
  have hk7 := hw06.trans ((Kp.refl [] w6).alloc (.cells #[.int .i64 s3.code, .int .i64 s3.fat] 78))
  have h97 := ((Kp.refl [] w6).alloc (.cells #[.int .i64 s3.code, .int .i64 s3.fat] 78)).heap h96 (by simp)
  have hfa := heap_alloc_new w6 (.cells #[.int .i64 s3.code, .int .i64 s3.fat] 78)
  have hfl := alloc_lt w6 (.cells #[.int .i64 s3.code, .int .i64 s3.fat] 78)
  have hbt7 := hbt6.kp0 ((Kp.refl [] w6).alloc (.cells #[.int .i64 s3.code, .int .i64 s3.fat] 78))
  generalize w6.alloc (.cells #[.int .i64 s3.code, .int .i64 s3.fat] 78) = w7 at *
  have hmay := rmay_calls ⟨4, 0, 0, [], tt⟩ (.slice none 0 0) (.slice a5 tt.length c5) w7 ⟨[], Sl.of_own (Own.nil w7 0 0 1), rfl, fun i h => by simp at h⟩ hbt7 (by simp) (by simp only []; omega) (by simp)
  refine hmay.mono ?_
  rintro e w8 ⟨rfl, hk8⟩
  have hrb8 := hk8.heap hrb7 (by simp)
  have hf8 := hk8.heap hfa (by simp)
  obtain ⟨e90, e91, e92, e93, e94⟩ := cells5 (hk8.heap h97 (by simp))
  have e80 := cell_heap hf8 0
  simp only [List.getElem?_toArray, List.getElem?_cons_zero] at e80
  have g0 := free_heap hrb8 0
  have g1 := free_heap hrb8 1
  have g2 := free_heap hrb8 2
  have g3 := free_heap hrb8 3
  have g4 := free_heap hrb8 4
  obtain ⟨q0, q1, q2, q3, q4⟩ := cells5 hrb8
  have hkz := (hk0.trans (hk7.trans hk8))
  have hP := HP.out
  generalize hm : mayB ⟨((4 : Nat) : Int), 0, 0, [], tt⟩ = m at *
  by_cases hc : s3.code = 0
  · have bc : (s3.code != 0) = false := by simp [hc]
    cases m with
    | false =>
      have hP2 : parsed d = none := by rw [hP]; simp
      have HP2 := Lib.hid hP2
      clear hP hP2 hc hm
      go_wp2
      refine rparse_ret rfl rfl (set5 _ _ _ _ _ hrb8) rfl ?_
      unfold RdQ
      rw [HP2.out]
      exact RdP.zero rfl (hkz.trans' (set5_kp _ _ _ _ _ _ _) (by simp))
    | true =>
      have hP2 : parsed d = some ⟨((4 : Nat) : Int), 0, 0, [], tt⟩ := by rw [hP]; simp [hc]
      have HP2 := Lib.hid hP2
      clear hP hP2 hc hm
      go_wp2
      refine rparse_ret rfl rfl (set5 _ _ _ _ _ hrb8) rfl ?_
      unfold RdQ
      rw [HP2.out]
      exact ⟨_, _, rfl, ⟨[], Sl.of_own (Own.nil _ 0 0 1), rfl, fun i h => by simp at h⟩, (hbt7.kp0 hk8).kp (set5_kp _ _ _ _ _ _ _) (fun b hb => by have := (Own.lt ho5b b hb).1; have := hr3.2.1.size; simp; omega), hkz.trans' (set5_kp _ _ _ _ _ _ _) (by simp)⟩
  · have bc : (s3.code != 0) = true := by simpa using hc
    have hP2 : parsed d = none := by rw [hP]; simp [hc]
    have HP2 := Lib.hid hP2
    clear hP hP2 hc hm
    go_wp2
    refine rparse_ret rfl rfl (set5 _ _ _ _ _ hrb8) rfl ?_
    unfold RdQ
    rw [HP2.out]
    exact RdP.zero rfl (hkz.trans' (set5_kp _ _ _ _ _ _ _) (by simp))

set_option maxHeartbeats 1000000 in
theorem rparse_none (s : ByteArray) (v : Value) (l d : List UInt8) (k : Nat) (s1 s3 : RS) (w : World) (hG : GR w) (hs : s.size ≤ 200) (hv : Bs w v l) (hl : 16 ≤ l.length) (hl1 : l.length ≤ 140737488352000) (ho : opened s l = some d)
    (h1 : rdNum d 1 ⟨0, 0, 0, 0⟩ = (k, s1)) (h3 : rdEnd d s1 = s3) (hk1 : k ≠ 1 ∧ k ≠ 2 ∧ k ≠ 3 ∧ k ≠ 4) :
    Calls Tryd.prog 17 #[.string s, v] w (RdQ d w) := by
  have hdl := opened_len ho
  have hno : ∀ (fa fb : Int) (its : List (List UInt8)) (t : List UInt8), mayB ⟨(k : Int), fa, fb, its, t⟩ = false := fun fa fb its t => by
    cases hm : mayB ⟨(k : Int), fa, fb, its, t⟩
    · rfl
    · exact ((may_io fa fb its t k (by omega)).1 hm).elim
  have hP : parsed d = none := by
    unfold parsed rdFrame
    simp only [h1, if_neg hk1.1, if_neg hk1.2.2.2]
    simp [hno]
  have HP := Lib.hid hP
  have hk0 := (Kp.refl [] w).alloc (.cells #[.int .i64 0, .int .i64 0, .int .i64 0, .slice none 0 0, .slice none 0 0] 25)
  have hh0 := heap_alloc_new w (.cells #[.int .i64 0, .int .i64 0, .int .i64 0, .slice none 0 0, .slice none 0 0] 25)
  have hsz0 := alloc_lt w (.cells #[.int .i64 0, .int .i64 0, .int .i64 0, .slice none 0 0, .slice none 0 0] 25)
  have hop := ropen_calls s v l _ (hG.kp0 hk0) hs (hv.kp0 hk0) hl hl1
  unfold RetO at hop
  rw [ho] at hop
  simp only at hop
  have HOP := Lib.hid hop
  have H1 := Lib.hid h1
  have H3 := Lib.hid h3
  have b1 : ((k : Int) == 1) = false := by simp; omega
  have b2 : ((k : Int) == 2) = false := by simp; omega
  have b3 : ((k : Int) == 3) = false := by simp; omega
  have b4 : ((k : Int) == 4) = false := by simp; omega
  have hm := hno 0 0 [] []
  have HNO := Lib.hid hno
  clear hno
  have HK := Lib.hid hk1
  clear hop hP h1 h3 hk1
  go_enter Tryd.func17, Tryd.ntmps17
  go_wp2_with fail
  generalize w.alloc (.cells #[.int .i64 0, .int .i64 0, .int .i64 0, .slice none 0 0, .slice none 0 0] 25) = w0 at *
  refine HOP.out.mono ?_
  rintro e w1 ⟨v1, rfl, ho1, hkw1⟩
  obtain ⟨a1, c1, rfl⟩ := own_form ho1
  have hr2 : RRd w0 w1.heap.size w1.heap.size d ⟨0, 0, 0, 0⟩ (w1.alloc (.cells #[.slice a1 d.length c1, .int .i64 0, .int .i64 0, .int .i64 0, .int .i64 0] 82)) := by
    refine ⟨⟨by simp, Nat.zero_le _, a1, c1, heap_alloc_new _ _, (OB.bs ho1).kp0 ((Kp.refl [] w1).alloc _), fun b hb => ?_⟩, hkw1.trans ((Kp.refl [] w1).alloc _), hkw1.size, by omega⟩
    have := (ho1.lt b hb).2
    omega
  go_wp2_with fail
  generalize w1.alloc (.cells #[.slice a1 d.length c1, .int .i64 0, .int .i64 0, .int .i64 0, .int .i64 0] 82) = w2 at *
  obtain ⟨p, hp⟩ : ∃ p, p = w1.heap.size := ⟨_, rfl⟩
  simp only [← hp] at hr2 ⊢
  clear hp
  go_wp2_with (first
    | (go_at_call 44; (with_reducible refine (rrd_num (ki := 1) (k := 1) rfl H1.out w2 hr2 (by omega) (by omega)).mono ?_); rintro e w3 ⟨rfl, hr3, hk3⟩))
  have hr3' := hr3.kp ((Kp.refl [] w3).alloc (.cells #[.int .i64 k, .int .i64 0, .int .i64 0, .slice none 0 0, .slice none 0 0] 25)) (by simp) (by simp)
  have h9 := heap_alloc_new w3 (.cells #[.int .i64 k, .int .i64 0, .int .i64 0, .slice none 0 0, .slice none 0 0] 25)
  have hlt9 := alloc_lt w3 (.cells #[.int .i64 k, .int .i64 0, .int .i64 0, .slice none 0 0, .slice none 0 0] 25)
  have hp3 : p < w3.heap.size := by obtain ⟨⟨_, _, _, _, hh, _⟩, _⟩ := hr3; exact lt_of_heap hh
  generalize w3.alloc (.cells #[.int .i64 k, .int .i64 0, .int .i64 0, .slice none 0 0, .slice none 0 0] 25) = w3' at *
  refine (rrd_end H3.out _ hr3').mono ?_
  rintro e w6 ⟨rfl, hr6, hk6⟩
  have h96 := hk6.heap h9 (by simp; omega)
  obtain ⟨c90, c91, c92, c93, c94⟩ := cells5 h96
  have hb6 := lt_of_heap h96
  unfold faultV
  go_wp2_with fail
  have hw06 : Kp [] w0 w6 := hr6.2.1
  have hrb := hw06.heap hh0 (by simp)
  have hrb7 := ((Kp.refl [] w6).alloc (.cells #[.int .i64 s3.code, .int .i64 s3.fat] 78)).heap hrb (by simp)
  have hk7 := hw06.trans ((Kp.refl [] w6).alloc (.cells #[.int .i64 s3.code, .int .i64 s3.fat] 78))
  have h97 := ((Kp.refl [] w6).alloc (.cells #[.int .i64 s3.code, .int .i64 s3.fat] 78)).heap h96 (by simp)
  have hfa := heap_alloc_new w6 (.cells #[.int .i64 s3.code, .int .i64 s3.fat] 78)
  have hfl := alloc_lt w6 (.cells #[.int .i64 s3.code, .int .i64 s3.fat] 78)
  generalize w6.alloc (.cells #[.int .i64 s3.code, .int .i64 s3.fat] 78) = w7 at *
  have hmay := rmay_calls ⟨k, 0, 0, [], []⟩ (.slice none 0 0) (.slice none 0 0) w7 ⟨[], Sl.of_own (Own.nil w7 0 0 1), rfl, fun i h => by simp at h⟩ (Sl.of_own (Own.nil w7 0 0 1)) (by simp) (by simp) (by simp)
  refine hmay.mono ?_
  rintro e w8 ⟨rfl, hk8⟩
  have hrb8 := hk8.heap hrb7 (by simp)
  have hf8 := hk8.heap hfa (by simp)
  obtain ⟨e90, e91, e92, e93, e94⟩ := cells5 (hk8.heap h97 (by simp))
  have e80 := cell_heap hf8 0
  simp only [List.getElem?_toArray, List.getElem?_cons_zero] at e80
  have g0 := free_heap hrb8 0
  have g1 := free_heap hrb8 1
  have g2 := free_heap hrb8 2
  have g3 := free_heap hrb8 3
  have g4 := free_heap hrb8 4
  obtain ⟨q0, q1, q2, q3, q4⟩ := cells5 hrb8
  have hkz := (hk0.trans (hk7.trans hk8))
  rw [hm]
  go_wp2
  all_goals (
    refine rparse_ret rfl rfl (set5 _ _ _ _ _ hrb8) rfl ?_
    unfold RdQ
    rw [HP.out]
    exact RdP.zero rfl (hkz.trans' (set5_kp _ _ _ _ _ _ _) (by simp)))
end Go.Proofs.YtddpefbpiehgeaaDoor

/- The reference's Parse: frames of items, and whatever comes in. -/
namespace Go.Proofs.YtddpefbpiehgeaaDoor
open Go Go.RowKit
set_option maxRecDepth 100000
set_option linter.unusedVariables false
set_option linter.unusedSectionVars false
set_option linter.unusedSimpArgs false

theorem RRd.low {w0 w : World} {B p : Nat} {d : List UInt8} {s : RS} (h : RRd w0 B p d s w) : p < w.heap.size := by
  obtain ⟨⟨_, _, _, _, hh, _⟩, _⟩ := h; exact lt_of_heap hh

set_option maxHeartbeats 1000000 in
theorem rparse_items (s : ByteArray) (v : Value) (l d : List UInt8) (k fa b N : Nat) (its : List (List UInt8)) (s1 sa s2 s4 s5 s3 : RS) (w : World) (hG : GR w) (hs : s.size ≤ 200) (hv : Bs w v l) (hl : 16 ≤ l.length) (hl1 : l.length ≤ 140737488352000) (ho : opened s l = some d)
    (h1 : rdNum d 1 ⟨0, 0, 0, 0⟩ = (k, s1)) (ha : rdNum d 8 s1 = (fa, sa)) (h2 : rdNum d 8 sa = (b, s2)) (h4 : rdCount d 8 s2 = (N, s4)) (h5 : rdIts d N [] s4 = (its, s5)) (h3 : rdEnd d s5 = s3) (hk1 : k = 1) (hfa : fa ≤ 9223372036854775807) (hb : b ≤ 9223372036854775807) (hN : N ≤ 8) :
    Calls Tryd.prog 17 #[.string s, v] w (RdQ d w) := by
  have hdl := opened_len ho
  have hP : parsed d = if s3.code = 0 && mayB ⟨k, fa, b, its, []⟩ then some ⟨k, fa, b, its, []⟩ else none := by
    unfold parsed rdFrame
    simp only [h1, ha, h2, h4, h5, h3, if_pos (show k = 1 from hk1)]
  have HP := Lib.hid hP
  have hk0 := (Kp.refl [] w).alloc (.cells #[.int .i64 0, .int .i64 0, .int .i64 0, .slice none 0 0, .slice none 0 0] 25)
  have hh0 := heap_alloc_new w (.cells #[.int .i64 0, .int .i64 0, .int .i64 0, .slice none 0 0, .slice none 0 0] 25)
  have hsz0 := alloc_lt w (.cells #[.int .i64 0, .int .i64 0, .int .i64 0, .slice none 0 0, .slice none 0 0] 25)
  have hop := ropen_calls s v l _ (hG.kp0 hk0) hs (hv.kp0 hk0) hl hl1
  unfold RetO at hop
  rw [ho] at hop
  simp only at hop
  have HOP := Lib.hid hop
  have H1 := Lib.hid h1
  have H2 := Lib.hid h2
  have H3 := Lib.hid h3
  have b1 : ((k : Int) == 1) = true := by simp; omega
  have HA := Lib.hid ha
  have H4 := Lib.hid h4
  have H5 := Lib.hid h5
  have hkn : 0 ≤ (k : Int) ∧ (k : Int) ≤ 1 := by omega
  clear hop hP h1 h2 h3 ha h4 h5 hk1
  go_enter Tryd.func17, Tryd.ntmps17
  go_wp2_with fail
  generalize w.alloc (.cells #[.int .i64 0, .int .i64 0, .int .i64 0, .slice none 0 0, .slice none 0 0] 25) = w0 at *
  refine HOP.out.mono ?_
  rintro e w1 ⟨v1, rfl, ho1, hkw1⟩
  obtain ⟨a1, c1, rfl⟩ := own_form ho1
  have hr2 : RRd w0 w1.heap.size w1.heap.size d ⟨0, 0, 0, 0⟩ (w1.alloc (.cells #[.slice a1 d.length c1, .int .i64 0, .int .i64 0, .int .i64 0, .int .i64 0] 82)) := by
    refine ⟨⟨by simp, Nat.zero_le _, a1, c1, heap_alloc_new _ _, (OB.bs ho1).kp0 ((Kp.refl [] w1).alloc _), fun b hb => ?_⟩, hkw1.trans ((Kp.refl [] w1).alloc _), hkw1.size, by omega⟩
    have := (ho1.lt b hb).2
    omega
  go_wp2_with fail
  generalize w1.alloc (.cells #[.slice a1 d.length c1, .int .i64 0, .int .i64 0, .int .i64 0, .int .i64 0] 82) = w2 at *
  obtain ⟨p, hp⟩ : ∃ p, p = w1.heap.size := ⟨_, rfl⟩
  simp only [← hp] at hr2 ⊢
  clear hp
  go_wp2_with (first
    | (go_at_call 44; (with_reducible refine (rrd_num (ki := 1) (k := 1) rfl H1.out w2 hr2 (by omega) (by omega)).mono ?_); rintro e w3 ⟨rfl, hr3, hk3⟩))
  have hr3' := hr3.kp ((Kp.refl [] w3).alloc (.cells #[.int .i64 k, .int .i64 0, .int .i64 0, .slice none 0 0, .slice none 0 0] 25)) (by simp) (by simp)
  have h9 := heap_alloc_new w3 (.cells #[.int .i64 k, .int .i64 0, .int .i64 0, .slice none 0 0, .slice none 0 0] 25)
  have hp3 : p < w3.heap.size := hr3.low
  have hne9 : w3.heap.size ∉ [p] := by simp; omega
  generalize w3.alloc (.cells #[.int .i64 k, .int .i64 0, .int .i64 0, .slice none 0 0, .slice none 0 0] 25) = w3' at *
  go_wp2_with (first
    | (go_at_call 44; (with_reducible refine (rrd_num (ki := 8) (k := 8) rfl HA.out w3' hr3' (by omega) (by omega)).mono ?_); rintro e w4 ⟨rfl, hr4, hk4⟩; have h94 := hk4.heap h9 hne9; obtain ⟨c90, c91, c92, c93, c94⟩ := cells5 h94; have f91 := free_heap h94 1))
  have hw3 := hr3.2.1.size
  have hr4' := hr4.kp ((Kp.refl [w3.heap.size] w4).setCell (p := ⟨w3.heap.size, 1, none⟩) (.inl (by simp)) (.int .i64 fa)) (by simp; omega) (by simp; omega)
  have h94' := heap_setCell_same _ _ 1 _ _ (.int .i64 (fa : Int)) h94
  simp only [List.setIfInBounds_toArray, List.set_cons_succ, List.set_cons_zero] at h94'
  clear c90 c91 c92 c93 c94 f91
  generalize w4.setCell ⟨w3.heap.size, 1, none⟩ (.int .i64 (fa : Int)) = w4' at *
  go_wp2_with (first
    | (go_at_call 44; (with_reducible refine (rrd_num (ki := 8) (k := 8) rfl H2.out w4' hr4' (by omega) (by omega)).mono ?_); rintro e w5 ⟨rfl, hr5, hk5⟩; have h95 := hk5.heap h94' hne9; obtain ⟨c90, c91, c92, c93, c94⟩ := cells5 h95; have f92 := free_heap h95 2))
  have hr6 := hr5.kp ((Kp.refl [w3.heap.size] w5).setCell (p := ⟨w3.heap.size, 2, none⟩) (.inl (by simp)) (.int .i64 b)) (by simp; omega) (by simp; omega)
  have h96 := heap_setCell_same _ _ 2 _ _ (.int .i64 (b : Int)) h95
  simp only [List.setIfInBounds_toArray, List.set_cons_succ, List.set_cons_zero] at h96
  clear c90 c91 c92 c93 c94 f92
  generalize w5.setCell ⟨w3.heap.size, 2, none⟩ (.int .i64 (b : Int)) = w6 at *
  go_wp2_with (first
    | (go_at_call 45; (with_reducible refine (rrd_count (mi := 8) (m := 8) rfl H4.out w6 hr6).mono ?_); rintro e w7 ⟨rfl, hr7, hkw7⟩; have h97 := hkw7.heap h96 hne9))
  generalize w3.heap.size = fb at *
  obtain ⟨B, hB⟩ : ∃ B, B = p := ⟨_, rfl⟩
  have hpB : B ≤ p := by omega
  clear hr3' h9 h94 h95 h96 hk4 hk5 hkw7 hr3 hk3 hr2 hr4 hr5 hr6 hr4' h94'
  go_loopw [11] (fun v45 wr => ∃ (n : Nat) (l : List (List UInt8)) (s : RS) (iv : Value) (us : List Value), n ≤ N ∧ v45 = .int .i64 n ∧ rdIts d n [] s4 = (l, s) ∧ l.length = n ∧ wr.heap[fb]? = some (.cells #[.int .i64 k, .int .i64 fa, .int .i64 b, iv, .slice none 0 0] 25 (0, 0)) ∧ Own wr (fb + 1) 23 1 iv n us ∧ Its wr (fb + 1) us l ∧ RRd w0 p p d s wr) (fun v45 _ => N - (intOf v45).toNat)
  case atStart => exact ⟨0, [], s4, .slice none 0 0, [], by omega, rfl, rfl, rfl, h97, Own.nil _ _ _ _, ⟨rfl, fun i h => by simp at h, fun i j u v _ h => by simp at h⟩, hr7⟩
  case round =>
    clear h97 hr7
    obtain ⟨n, lr, sr, iv, us, hnN, rfl, hit, hln, hfr, hown, hits, hrd⟩ := hrel
    obtain ⟨ia, ic, rfl⟩ := own_form hown
    obtain ⟨c0, c1', c2, c3, c4⟩ := cells5 hfr
    by_cases hlt : n < N
    · obtain ⟨x, s', hx⟩ : ∃ x s', rdText d 256 sr = (x, s') := ⟨_, _, rfl⟩
      have hsuc := rdIts_succ d n [] s4
      rw [hit] at hsuc
      simp only [hx] at hsuc
      have hxl : x.length ≤ 256 := by have := rdText_len d 256 sr; rw [hx] at this; exact this
      have HX := Lib.hid hx
      have HSUC := Lib.hid hsuc
      have HIT := Lib.hid hit
      have HLN := Lib.hid hln
      clear hx hsuc hit hln
      have hrfb := lt_of_heap hfr
      go_wp2_with fail
      have hS : Gr wr [fb] wr.drew := Gr.of (fun _ _ => rfl)
      refine wp_plan (.H 0 (.H 1 (.E 2 true (.E 3 true (.E 4 true (.E 5 true (.E 6 false (.E 7 false (.E 8 false .Z))))))))) (Gr wr [fb]) (by as_aux_lemma => kernel_rfl) (by as_aux_lemma => kernel_rfl) ?_
      repeat (first | (refine plan_H rfl hS (fun K hK => ?_); go_simp; refine hK _ ?_; clear hK K) | (refine plan_E rfl (fun K hK => ?_); go_simp; (first | refine hK _ _ (fun _ => hS) ?_ | refine hK _ _ nofun ?_); clear hK K))
      refine plan_E rfl (fun K hK => ?_); go_simp
      refine (rrd_text (mi := 256) (m := 256) rfl HX.out _ (hrd.kp ((Kp.refl [] wr).drew) (by simp) (by simp))).mono ?_
      rintro e w5 ⟨rfl, hr5, hkw5⟩
      have hk5 : Kp [p] wr w5 := ((Kp.refl [p] wr).drew).trans hkw5
      have hS5 : Gr wr [fb] w5 := Gr.of (fun q hq => by rw [List.mem_singleton] at hq; subst hq; exact hk5.block _ hrfb hne9)
      refine hK _ _ (fun _ => hS5) ?_
      clear hK K
      refine plan_E rfl (fun K hK => ?_)
      refine step_s2b rfl _ _ _ 5 rfl _ rfl Tryd.underlying9 Tryd.underlying23 Tryd.underlying5 (by show x.toArray.size ≤ _; simp; omega) ?_
      intro xv w6 hxo hkw6
      have hk6 : Kp [p] wr w6 := hk5.trans hkw6.nil
      have hS6 : Gr wr [fb] w6 := Gr.of (fun q hq => by rw [List.mem_singleton] at hq; subst hq; exact hk6.block _ hrfb hne9)
      obtain ⟨xa, xc, rfl⟩ := own_form hxo
      refine hK _ _ (fun _ => hS6) ?_
      clear hK K
      refine plan_E rfl (fun K hK => ?_); go_simp
      have hk7 : Kp [p] wr (w6.alloc (.cells #[.slice xa x.length xc] 23)) := hk6.alloc _
      have hS7 : Gr wr [fb] (w6.alloc (.cells #[.slice xa x.length xc] 23)) := Gr.of (fun q hq => by rw [List.mem_singleton] at hq; subst hq; exact hk7.block _ hrfb hne9)
      refine hK _ _ (fun _ => hS7) ?_
      clear hK K
      obtain ⟨i0, hi, hz0, hz1, hz2⟩ := info_parts rowinfo
      have hown7 := own_kp hown hk7 (fun q hq hm => by have := (hown.lt q hq).1; simp at hm; omega)
      have hsz7 := hk7.size
      refine plan_E rfl (fun K hK => ?_)
      refine step_app _ rfl _ _ 22 22 rfl (fb + 1) 23 i0 _ 1 24 Tryd.underlying22 hi hz0 hz1 hz2 rfl (by omega) (.slice ia n ic) n us rfl hown7 (.slice (some ⟨w6.heap.size, 0, none⟩) 1 1) 1 [.slice xa x.length xc] rfl (Src.of_sl Tryd.underlying22 (sl_alloc w6 23 _ _ rfl 1 1 rfl) (by simp [Value.oneCell'])) (by omega) (by omega) (by omega) ?_
      intro v8 w8 ho8 hg8 hx8
      obtain ⟨a8, c8, rfl⟩ := own_form ho8
      have hk68 : Kp (Value.slice ia n ic).ownBlock.toList w6 w8 := ((Kp.refl _ w6).alloc _).grown hg8 (fun q hq => .inl (by simp [hq]))
      have hfr6 : w6.heap[fb]? = _ := hk6.heap hfr hne9
      have hfr8 : w8.heap[fb]? = _ := hk68.heap hfr6 (fun hm => by have := (hown.lt fb (by simpa using hm)).1; omega)
      have f3 := free_heap hfr8 3
      obtain ⟨_, _, _, e3, _⟩ := cells5 hfr8
      have hfr9 := heap_set (i := 3) (.slice a8 (n + 1) c8) hfr8
      simp only [List.setIfInBounds_toArray, List.set_cons_succ, List.set_cons_zero] at hfr9
      have hk89 : Kp [fb] w8 (w8.setCell ⟨fb, 3, none⟩ (.slice a8 (n + 1) c8)) := (Kp.refl [fb] w8).setCell (.inl (by simp)) _
      have hits6 : Its w6 (fb + 1) us lr := hits.kp hk6 (fun u hu q hq hm => by have := (hits.lt u hu q hq).1; simp at hm; omega)
      have hown6 : Own w6 (fb + 1) 23 1 (.slice ia n ic) n us := own_kp hown hk6 (fun q hq hm => by have := (hown.lt q hq).1; simp at hm; omega)
      have hits8 : Its w8 (fb + 1) us lr := hits6.kp hk68 (fun u hu q hq hm => by
        obtain ⟨i, hi⟩ := List.mem_iff_getElem?.1 hu
        obtain ⟨u', h1, h2⟩ := hits6.2.1 i (by rw [← hits6.1]; exact (List.getElem?_eq_some_iff.1 hi).1)
        rw [hi] at h1; cases h1
        exact own_ne h2 hown6 (by decide) q hq (by simpa using hm))
      have hxo6 : OB w6 5 (fb + 1) (.slice xa x.length xc) x := own_base hxo (fun q hq => by have := (Own.lt hxo q hq).1; have := hk5.size; omega)
      have hxo8 : OB w8 5 (fb + 1) (.slice xa x.length xc) x := own_kp hxo6 hk68 (fun q hq hm => own_ne hxo6 hown6 (by decide) q hq (by simpa using hm))
      have hap : ∀ u ∈ us, Apart u (.slice xa x.length xc) := fun u hu g h1 h2 => by
        have := (hits.lt u hu g h1).2
        have := (Own.lt hxo g h2).1
        have := hk5.size
        omega
      have hits9 := (hits8.snoc hxo8 hap).kp hk89 (fun u hu q hq hm => by have := ((hits8.snoc hxo8 hap).lt u hu q hq).1; simp at hm; omega)
      have hown9 := own_kp ho8 hk89 (fun q hq hm => by have := (ho8.lt q hq).1; simp at hm; omega)
      have hk69 : Kp (fb :: (Value.slice ia n ic).ownBlock.toList) w5 (w8.setCell ⟨fb, 3, none⟩ (.slice a8 (n + 1) c8)) := hkw6.nil.trans ((hk68.mono (by simp +contextual)).trans (hk89.mono (by simp)))
      have hge : ∀ q ∈ fb :: (Value.slice ia n ic).ownBlock.toList, fb ≤ q := fun q hq => by
        rcases List.mem_cons.1 hq with rfl | hq
        · omega
        · have := (hown.lt q (by simpa using hq)).1; omega
      have hr9 := hr5.kp hk69 (fun q hq => by have := hge q hq; constructor <;> omega) (fun q hq => by have := hge q hq; omega)
      have HOWN9 := Lib.hid hown9
      have HITS9 := Lib.hid hits9
      clear hown9 hits9 hits8 hits6 hown6 hown7 hown hits
      refine hK _ _ nofun ?_
      clear hK K
      refine plan_E rfl (fun K hK => ?_); go_simp
      refine hK _ _ nofun ?_
      clear hK K
      refine plan_E rfl (fun K hK => ?_); go_simp
      refine hK _ _ nofun ?_
      clear hK K
      refine plan_Z ?_
      have hn8 : (n : Int) ≤ 8 := by omega
      go_wp2
      go_roundw
      case measure => simp [intOf]; omega
      case rel => exact ⟨n + 1, lr ++ [x], s', _, _, by omega, by go_num, HSUC.out, by simp [HLN.out], hfr9, HOWN9.out, HITS9.out, hr9⟩
    · obtain rfl : N = n := by omega
      have hit2 := hit.symm.trans H5.out
      simp only [Prod.mk.injEq] at hit2
      obtain ⟨rfl, rfl⟩ := hit2
      have hd : decide ((N : Int) < (N : Int)) = false := by rw [decide_eq_false_iff_not]; omega
      have HIT := Lib.hid hit
      have HLN := Lib.hid hln
      clear hit hln
      go_wp2_with fail
      refine (rrd_end H3.out _ hrd).mono ?_
      rintro e w6 ⟨rfl, hr6, hk6⟩
      have h96 := hk6.heap hfr hne9
      clear c0 c1' c2 c3 c4
      obtain ⟨c90, c91, c92, c93, c94⟩ := cells5 h96
      have hb6 := lt_of_heap h96
      have hown6 := own_kp hown hk6 (fun q hq hm => by have := (hown.lt q hq).1; simp at hm; omega)
      have hits6 := hits.kp hk6 (fun u hu q hq hm => by have := (hits.lt u hu q hq).1; simp at hm; omega)
      have hiv : OR w6 (fb + 1) (.slice ia N ic) lr := ⟨us, (by rw [HLN.out]; exact hown6), hits6⟩
      clear hown6 hits6 hown hits
      unfold faultV
      go_wp2_with fail
      have hw06 : Kp [] w0 w6 := hr6.2.1
      have hrb := hw06.heap hh0 (by simp)
      have hrb7 := ((Kp.refl [] w6).alloc (.cells #[.int .i64 s3.code, .int .i64 s3.fat] 78)).heap hrb (by simp)
      have hk7 := hw06.trans ((Kp.refl [] w6).alloc (.cells #[.int .i64 s3.code, .int .i64 s3.fat] 78))
      have h97 := ((Kp.refl [] w6).alloc (.cells #[.int .i64 s3.code, .int .i64 s3.fat] 78)).heap h96 (by simp)
      have hiv7 : OR _ (fb + 1) (.slice ia N ic) lr := hiv.kp ((Kp.refl [] w6).alloc (.cells #[.int .i64 s3.code, .int .i64 s3.fat] 78)) (by simp)
      have hfa7 := heap_alloc_new w6 (.cells #[.int .i64 s3.code, .int .i64 s3.fat] 78)
      have hfl := alloc_lt w6 (.cells #[.int .i64 s3.code, .int .i64 s3.fat] 78)
      generalize w6.alloc (.cells #[.int .i64 s3.code, .int .i64 s3.fat] 78) = w7 at *
      have hmay := rmay_calls ⟨k, fa, b, lr, []⟩ (.slice ia N ic) (.slice none 0 0) w7 hiv7.rws (Sl.of_own (Own.nil w7 0 0 1)) (by simp only; rw [HLN.out]; omega) (by simp) (by simp only; omega)
      unfold fcells at hmay
      simp only at hmay
      have HM := Lib.hid hmay
      clear hmay
      refine HM.out.mono ?_
      rintro e w8 ⟨rfl, hk8⟩
      have hrb8 := hk8.heap hrb7 (by simp)
      have hf8 := hk8.heap hfa7 (by simp)
      have hiv8 := hiv7.kp hk8 (by simp)
      obtain ⟨e90, e91, e92, e93, e94⟩ := cells5 (hk8.heap h97 (by simp))
      have e80 := cell_heap hf8 0
      simp only [List.getElem?_toArray, List.getElem?_cons_zero] at e80
      have g0 := free_heap hrb8 0
      have g1 := free_heap hrb8 1
      have g2 := free_heap hrb8 2
      have g3 := free_heap hrb8 3
      have g4 := free_heap hrb8 4
      obtain ⟨q0, q1, q2, q3, q4⟩ := cells5 hrb8
      have hkz := (hk0.trans (hk7.trans hk8))
      have hP := HP.out
      generalize hm : mayB ⟨(k : Int), fa, b, lr, []⟩ = m at *
      by_cases hc : s3.code = 0
      · have bc : (s3.code != 0) = false := by simp [hc]
        cases m with
        | false =>
          have hP2 : parsed d = none := by rw [hP]; simp
          have HP2 := Lib.hid hP2
          clear hP hP2 hc hm
          go_wp2
          refine rparse_ret rfl rfl (set5 _ _ _ _ _ hrb8) rfl ?_
          unfold RdQ
          rw [HP2.out]
          exact RdP.zero rfl (hkz.trans' (set5_kp _ _ _ _ _ _ _) (by simp))
        | true =>
          have hP2 : parsed d = some ⟨(k : Int), fa, b, lr, []⟩ := by rw [hP]; simp [hc]
          have HP2 := Lib.hid hP2
          clear hP hP2 hc hm
          go_wp2
          refine rparse_ret rfl rfl (set5 _ _ _ _ _ hrb8) rfl ?_
          unfold RdQ
          rw [HP2.out]
          exact ⟨_, _, rfl, (hiv8.kp (set5_kp _ _ _ _ _ _ _) (by simp; omega)).rws, Sl.of_own (Own.nil _ 0 0 1), hkz.trans' (set5_kp _ _ _ _ _ _ _) (by simp)⟩
      · have bc : (s3.code != 0) = true := by simpa using hc
        have hP2 : parsed d = none := by rw [hP]; simp [hc]
        have HP2 := Lib.hid hP2
        clear hP hP2 hc hm
        go_wp2
        refine rparse_ret rfl rfl (set5 _ _ _ _ _ hrb8) rfl ?_
        unfold RdQ
        rw [HP2.out]
        exact RdP.zero rfl (hkz.trans' (set5_kp _ _ _ _ _ _ _) (by simp))

theorem rparse_open (s : ByteArray) (v : Value) (l d : List UInt8) (w : World) (hG : GR w) (hs : s.size ≤ 200) (hv : Bs w v l) (hl : 16 ≤ l.length) (hl1 : l.length ≤ 140737488352000) (ho : opened s l = some d) :
    Calls Tryd.prog 17 #[.string s, v] w (RdQ d w) := by
  obtain ⟨k, s1, h1⟩ : ∃ k s1, rdNum d 1 ⟨0, 0, 0, 0⟩ = (k, s1) := ⟨_, _, rfl⟩
  by_cases hk1 : k = 1
  · obtain ⟨fa, sa, ha⟩ : ∃ k s1', rdNum d 8 s1 = (k, s1') := ⟨_, _, rfl⟩
    obtain ⟨b, s2, h2⟩ : ∃ k s1', rdNum d 8 sa = (k, s1') := ⟨_, _, rfl⟩
    obtain ⟨N, s4, h4⟩ : ∃ k s1', rdCount d 8 s2 = (k, s1') := ⟨_, _, rfl⟩
    obtain ⟨its, s5, h5⟩ : ∃ k s1', rdIts d N [] s4 = (k, s1') := ⟨_, _, rfl⟩
    exact rparse_items s v l d k fa b N its s1 sa s2 s4 s5 _ w hG hs hv hl hl1 ho h1 ha h2 h4 h5 rfl hk1 (by have := rdNum_le d 8 s1; rw [ha] at this; exact this) (by have := rdNum_le d 8 sa; rw [h2] at this; exact this) (by have := rdCount_le d 8 s2; rw [h4] at this; exact this)
  · by_cases hk4 : k = 4
    · obtain ⟨t, s2, h2⟩ : ∃ k s1', rdText d 16100 s1 = (k, s1') := ⟨_, _, rfl⟩
      exact rparse_text s v l d k t s1 s2 _ w hG hs hv hl hl1 ho h1 h2 rfl hk4 (by have := rdText_len d 16100 s1; rw [h2] at this; exact this)
    · by_cases hk23 : k = 2 ∨ k = 3
      · obtain ⟨b, s2, h2⟩ : ∃ k s1', rdNum d 8 s1 = (k, s1') := ⟨_, _, rfl⟩
        exact rparse_num s v l d k b s1 s2 _ w hG hs hv hl hl1 ho h1 h2 rfl hk23 (by have := rdNum_le d 8 s1; rw [h2] at this; exact this)
      · exact rparse_none s v l d k s1 _ w hG hs hv hl hl1 ho h1 rfl (by omega)

theorem rparse_calls (s : ByteArray) (v : Value) (l : List UInt8) (w : World) (hG : GR w) (hv : Bs w v l) (hl1 : l.length ≤ 140737488352000) :
    Calls Tryd.prog 17 #[.string s, v] w (RdP (parsedOf s l) w) := by
  unfold parsedOf
  by_cases hs : 200 < s.size
  · rw [if_pos hs]
    exact (rparse_long s v w hs).mono fun e w' ⟨he, hk⟩ => RdP.zero he hk
  · rw [if_neg hs]
    by_cases hl : l.length < 16
    · rw [if_pos hl]
      exact (rparse_short s v l w (by omega) hv hl).mono fun e w' ⟨he, hk⟩ => RdP.zero he hk
    · rw [if_neg hl]
      cases ho : opened s l with
      | none => exact (rparse_shut s v l w hG (by omega) hv (by omega) hl1 ho).mono fun e w' ⟨he, hk⟩ => RdP.zero he hk
      | some d =>
        have h := rparse_open s v l d w hG (by omega) hv (by omega) hl1 ho
        unfold RdQ at h
        simp only
        cases hp : parsed d with
        | none => rw [hp] at h; exact h
        | some f => rw [hp] at h; exact h
end Go.Proofs.YtddpefbpiehgeaaDoor

/- The link: a receiver. -/
namespace Go.Proofs.YtddpefbpiehgeaaDoor
open Go Go.RowKit
set_option maxRecDepth 100000
set_option linter.unusedVariables false
set_option linter.unusedSectionVars false
set_option linter.unusedSimpArgs false

/-- A receiver. -/
def IsR (w : World) (p : Nat) (nx : Int) : Prop := w.heap[p]? = some (.cells #[.int .i64 nx] 84 (0, 0)) ∧ 0 ≤ nx ∧ nx ≤ 4294967296
theorem IsR.kp {S : List Nat} {w w' : World} {p : Nat} {nx : Int} (h : IsR w p nx) (hk : Kp S w w') (hS : p ∉ S) : IsR w' p nx := ⟨hk.heap h.1 hS, h.2⟩

theorem newReceiver_calls (w : World) : Calls Tryd.prog 19 #[] w fun e w' => ∃ p, e = .returned (.pointer (some ⟨p, 0, none⟩)) ∧ IsR w' p 0 ∧ w.heap.size ≤ p ∧ Kp [] w w' := by
  go_enter Tryd.func19, Tryd.ntmps19
  go_wp2
  go_ret
  exact ⟨w.heap.size, rfl, ⟨heap_alloc_new w _, by omega, by omega⟩, Nat.le_refl _, (Kp.refl [] w).alloc _⟩

theorem take_calls (p : Nat) (nx q : Int) (w : World) (hr : IsR w p nx) (hq0 : -9223372036854775808 ≤ q) (hq : q ≤ 9223372036854775807) :
    Calls Tryd.prog 23 #[.pointer (some ⟨p, 0, none⟩), .int .i64 q] w fun e w' => e = .returned (.tuple #[]) ∧ IsR w' p (takeN nx q) ∧ Kp [p] w w' := by
  obtain ⟨hh, h0, h9⟩ := hr
  have hc := cell_heap hh 0
  have hf := free_heap hh 0
  simp only [List.getElem?_toArray, List.getElem?_cons_zero, List.getElem?_cons_succ] at hc
  by_cases h : 0 < nx ∧ nx ≤ q ∧ q ≤ 4294967295
  · have ht : takeN nx q = q + 1 := if_pos h
    have HT := Lib.hid ht
    obtain ⟨h1, h2, h3⟩ := h
    have hs := heap_set (i := 0) (.int .i64 (q + 1)) hh
    clear ht
    go_enter Tryd.func23, Tryd.ntmps23
    go_wp2
    go_end0
    refine ⟨rfl, ?_, (Kp.refl [p] w).setCell (.inl (by simp)) _⟩
    rw [HT.out]
    exact ⟨hs, by omega, by omega⟩
  · have ht : takeN nx q = nx := if_neg h
    have HT := Lib.hid ht
    have hd : decide (0 < nx) = false ∨ decide (0 < nx) = true ∧ decide (nx ≤ q) = false ∨ decide (0 < nx) = true ∧ decide (nx ≤ q) = true ∧ decide (q ≤ 4294967295) = false := by
      simp only [decide_eq_false_iff_not, decide_eq_true_eq]; omega
    clear ht h
    rcases hd with h1 | ⟨h1, h2⟩ | ⟨h1, h2, h3⟩
    all_goals
      go_enter Tryd.func23, Tryd.ntmps23
      go_wp2
      go_end0
      refine ⟨rfl, ?_, Kp.refl _ w⟩
      rw [HT.out]
      exact ⟨hh, h0, h9⟩

theorem ack_ret {Q : Ending → World → Prop} {a : Act} {w : World} {rb : Nat} {cs : Array Value} {fr : Nat × Nat} (h4 : a.tmps.getD 2 undef = .pointer (some ⟨rb, 0, none⟩)) (hd : a.defers = []) (hh : w.heap[rb]? = some (.cells cs 25 fr)) (h5 : cs.size = 5)
    (hQ : Q (.returned (.tuple #[.agg cs, a.tmps.getD 3 undef])) w) : bodyPost Tryd.prog Tryd.f25 Q Exit.ret a w :=
  bodyPost_ret (results_pair rfl _ _ rb _ cs fr _ h4 hh Tryd.underlying25 rfl (by rw [h5]; exact f5size)) hd hQ

theorem ack_calls (p : Nat) (nx : Int) (w : World) (hr : IsR w p nx) :
    Calls Tryd.prog 25 #[.pointer (some ⟨p, 0, none⟩)] w fun e w' => e = .returned (.tuple #[.agg (fcells (ackF nx) (.slice none 0 0) (.slice none 0 0)), .bool (!(nx == 0))]) ∧ Kp [] w w' := by
  obtain ⟨hh, h0, h9⟩ := hr
  have hlt := lt_of_heap hh
  have hk0 := (Kp.refl [] w).alloc (.cells #[.int .i64 0, .int .i64 0, .int .i64 0, .slice none 0 0, .slice none 0 0] 25)
  have hh0 := heap_alloc_new w (.cells #[.int .i64 0, .int .i64 0, .int .i64 0, .slice none 0 0, .slice none 0 0] 25)
  have hc := cell_heap (hk0.heap hh (by simp)) 0
  simp only [List.getElem?_toArray, List.getElem?_cons_zero, List.getElem?_cons_succ] at hc
  have hsz := alloc_lt w (.cells #[.int .i64 0, .int .i64 0, .int .i64 0, .slice none 0 0, .slice none 0 0] 25)
  by_cases h : nx = 0
  · have ha : ackF nx = zeroF := if_pos h
    have HA := Lib.hid ha
    have hb : (nx == 0) = true := by simpa using h
    have hcc : Ending.returned (Value.tuple #[.agg (fcells (ackF nx) (.slice none 0 0) (.slice none 0 0)), .bool (!(nx == 0))]) = .returned (.tuple #[zeroV, .bool false]) := by rw [ha, hb]; rfl
    have HC := Lib.hid hcc
    clear ha h hcc
    go_enter Tryd.func25, Tryd.ntmps25
    go_wp2_with fail
    exact ack_ret rfl rfl (heap_alloc_new w _) rfl ⟨HC.out.symm, (Kp.refl [] w).alloc _⟩
  · have ha : ackF nx = ⟨2, 0, nx - 1, [], []⟩ := if_neg h
    have hb : (nx == 0) = false := by simpa using h
    have hcc : Ending.returned (Value.tuple #[.agg (fcells (ackF nx) (.slice none 0 0) (.slice none 0 0)), .bool (!(nx == 0))]) = .returned (.tuple #[.agg #[.int .i64 2, .int .i64 0, .int .i64 (nx - 1), .slice none 0 0, .slice none 0 0], .bool true]) := by rw [ha, hb]; rfl
    have HC := Lib.hid hcc
    have h1 : 1 ≤ nx := by omega
    clear ha h hcc
    go_enter Tryd.func25, Tryd.ntmps25
    go_wp2_with fail
    exact ack_ret rfl rfl (heap_alloc_new w _) rfl ⟨HC.out.symm, (Kp.refl [] w).alloc _⟩
end Go.Proofs.YtddpefbpiehgeaaDoor

