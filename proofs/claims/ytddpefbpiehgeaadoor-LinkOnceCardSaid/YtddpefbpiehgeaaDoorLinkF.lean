/- The link: Parse, a frame of one number. -/
import Derived.Test.YtddpefbpiehgeaaDoorLinkE
namespace Go.Proofs.YtddpefbpiehgeaaDoor
open Go Go.RowKit
set_option maxRecDepth 100000
set_option linter.unusedVariables false
set_option linter.unusedSectionVars false
set_option linter.unusedSimpArgs false

theorem opened_len {s : ByteArray} {l d : List UInt8} (h : opened s l = some d) : d.length ≤ l.length := by
  unfold opened at h
  split at h
  · cases h; simp
  · cases h

/-- What Parse hands back of an open body. -/
def RetP (d : List UInt8) (w : World) (e : Ending) (w' : World) : Prop :=
  match parsed d with
  | none => e = .returned (.tuple #[zeroV, .int .i64 120]) ∧ Kp [] w w'
  | some f => ∃ v, e = .returned (.tuple #[v, .int .i64 0]) ∧ IsF w' w.heap.size v f ∧ Kp [] w w'

set_option maxHeartbeats 1000000 in
theorem parse_else (s : ByteArray) (v : Value) (l d : List UInt8) (k b : Nat) (s1 s2 s3 : RS) (w : World) (hG : GH w) (hs : s.size ≤ 200) (hv : Bs w v l) (hl : 16 ≤ l.length) (hl1 : l.length ≤ 140737488352000) (ho : opened s l = some d)
    (h1 : rdNum d 1 ⟨0, 0, 0, 0⟩ = (k, s1)) (h2 : rdNum d 8 s1 = (b, s2)) (h3 : rdEnd d s2 = s3) (hk1 : k ≠ 1) (hk4 : k ≠ 4) (hb : b ≤ 9223372036854775807) :
    Calls Tryd.prog 15 #[.string s, v] w (RetP d w) := by
  have hdl := opened_len ho
  have hP : parsed d = if s3.code = 0 && mayB ⟨k, 0, b, [], []⟩ then some ⟨k, 0, b, [], []⟩ else none := by
    unfold parsed rdFrame
    simp only [h1, h2, h3, if_neg hk1, if_neg hk4]
  have HP := Lib.hid hP
  have hk0 := (Kp.refl [] w).alloc (.cells #[.int .i64 0, .int .i64 0, .int .i64 0, .slice none 0 0, .slice none 0 0] 25)
  have hh0 := heap_alloc_new w (.cells #[.int .i64 0, .int .i64 0, .int .i64 0, .slice none 0 0, .slice none 0 0] 25)
  have hsz0 := alloc_lt w (.cells #[.int .i64 0, .int .i64 0, .int .i64 0, .slice none 0 0, .slice none 0 0] 25)
  have hop := open_calls s v l _ (hG.kp0 hk0) hs (hv.kp0 hk0) hl hl1
  unfold RetO at hop
  rw [ho] at hop
  simp only at hop
  have HOP := Lib.hid hop
  have H1 := Lib.hid h1
  have H2 := Lib.hid h2
  have H3 := Lib.hid h3
  have b1 : ((k : Int) == 1) = false := by simp; omega
  have b4 : ((k : Int) == 4) = false := by simp; omega
  clear hop hP h1 h2 h3 hk1 hk4
  go_enter Tryd.func15, Tryd.ntmps15
  go_wp2_with fail
  generalize w.alloc (.cells #[.int .i64 0, .int .i64 0, .int .i64 0, .slice none 0 0, .slice none 0 0] 25) = w0 at *
  go_wp2_with (first
    | (go_at_call 37; (with_reducible refine HOP.out.mono ?_); rintro e w1 ⟨v1, rfl, ho1, hkw1⟩; obtain ⟨a1, c1, rfl⟩ := own_form ho1)
    | (go_at_call 38; (with_reducible refine (rd_new _ d w0 _ hkw1 (OB.bs ho1) (by omega)).mono ?_); rintro e w2 ⟨p, rfl, hr2, hkw2⟩)
    | (go_at_call 39; (with_reducible refine (rd_numE w0 _ p d _ s1 1 k 1 rfl H1.out _ hr2 (by omega) (by omega) (by omega)).mono ?_); rintro e w3 ⟨rfl, hr3, hkw3⟩; have hr3' := hr3.kp ((Kp.refl [] w3).alloc (.cells #[.int .i64 k, .int .i64 0, .int .i64 0, .slice none 0 0, .slice none 0 0] 25)) nofun nofun; have h9 := heap_alloc_new w3 (.cells #[.int .i64 k, .int .i64 0, .int .i64 0, .slice none 0 0, .slice none 0 0] 25))
    | (go_at_call 39; (with_reducible refine (rd_numE w0 _ p d _ s2 8 b 8 rfl H2.out _ hr3' (by omega) (by omega) (by omega)).mono ?_); rintro e w4 ⟨rfl, hr4, hkw4⟩; have hne9 : w3.heap.size ∉ [p] := (by have := hr3.2.2.2.2; simp; omega); have h94 := hkw4.heap h9 hne9; obtain ⟨c90, c91, c92, c93, c94⟩ := cells5 h94; have f92 := free_heap h94 2; have h95 := heap_set (i := 2) (.int .i64 b) h94))
  have hB3 := hr3.1.1
  have hw3 := hr3.2.1.size
  have hr5 := hr4.kp ((Kp.refl [w3.heap.size] w4).setCell (p := ⟨w3.heap.size, 2, none⟩) (.inl (by simp)) (.int .i64 b)) (by simpa using hB3) (by simpa using hw3)
  refine (rd_end w0 _ p d s2 _ hr5 (by omega)).mono ?_
  rintro e w6 ⟨rfl, hr6, hkw6⟩
  rw [H3.out]
  rw [H3.out] at hr6
  have h96 := hkw6.heap h95 hne9
  simp only [List.setIfInBounds_toArray, List.set_cons_succ, List.set_cons_zero] at h96
  clear c90 c91 c92 c93 c94
  obtain ⟨c90, c91, c92, c93, c94⟩ := cells5 h96
  have hkw := hk0.trans hr6.2.1
  have hiv : Rws w6 (.slice none 0 0) [] := (OR.nil w6 w.heap.size).rws
  have htv : Bs w6 (.slice none 0 0) [] := OB.bs (e := 5) (base := 0) (Own.nil w6 0 5 1)
  have hF : IsF w6 (w.heap.size + 1) (.agg #[.int .i64 (k : Int), .int .i64 0, .int .i64 b, .slice none 0 0, .slice none 0 0]) ⟨k, 0, b, [], []⟩ := ⟨_, _, [], rfl, Own.nil _ _ _ _, ⟨rfl, fun i h => by simp at h, fun i j u v _ h => by simp at h⟩, Own.nil _ _ _ _, by simp⟩
  have hmy := may_calls ⟨k, 0, b, [], []⟩ _ _ w6 hiv htv (by simp) (by simp) (by simp only; omega)
  unfold fcells at hmy
  simp only at hmy
  have HF := Lib.hid hF
  have HM := Lib.hid hmy
  clear hF hmy hiv htv
  generalize hFR : (⟨k, 0, b, [], []⟩ : Fr) = FRAME at *
  have hrb := hr6.2.1.heap hh0 (by simp)
  have hfd := fault_code s3.code s3.fat
  have hf0 := free_heap hrb 0
  have hf1 := free_heap hrb 1
  have hf2 := free_heap hrb 2
  have hf3 := free_heap hrb 3
  have hf4 := free_heap hrb 4
  obtain ⟨r0, r1, r2, r3, r4⟩ := cells5 hrb
  have hrlt := Nat.lt_of_lt_of_le hsz0 hr6.2.1.size
  by_cases hc : s3.code = 0
  · have bc : (s3.code != 0) = false := by simp [hc]
    rw [hc] at HP
    clear hc
    cases hm : mayB FRAME with
    | false =>
      rw [hm] at HM HP
      go_wp2_with (go_at_call 31; (with_reducible refine HM.out.mono ?_); rintro e w7 ⟨rfl, hkw7⟩; have hrb7 := hkw7.heap hrb (by simp); have hg0 := free_heap hrb7 0; have hg1 := free_heap hrb7 1; have hg2 := free_heap hrb7 2; have hg3 := free_heap hrb7 3; have hg4 := free_heap hrb7 4; obtain ⟨q0, q1, q2, q3, q4⟩ := cells5 hrb7)
      refine parse_ret rfl rfl (set5 _ _ _ _ _ hrb7) rfl ?_
      unfold RetP
      rw [HP.out]
      exact ⟨rfl, (hkw.trans hkw7).trans' (set5_kp _ _ _ _ _ _ _) (by simp)⟩
    | true =>
      rw [hm] at HM HP
      go_wp2_with (go_at_call 31; (with_reducible refine HM.out.mono ?_); rintro e w7 ⟨rfl, hkw7⟩; have hrb7 := hkw7.heap hrb (by simp); have hg0 := free_heap hrb7 0; have hg1 := free_heap hrb7 1; have hg2 := free_heap hrb7 2; have hg3 := free_heap hrb7 3; have hg4 := free_heap hrb7 4; obtain ⟨q0, q1, q2, q3, q4⟩ := cells5 hrb7; obtain ⟨p0, p1, p2, p3, p4⟩ := cells5 (hkw7.heap h96 (by simp)))
      refine parse_ret rfl rfl (set5 _ _ _ _ _ hrb7) rfl ?_
      unfold RetP
      rw [HP.out]
      exact ⟨_, rfl, ((HF.out.kp hkw7 (by simp)).kp (set5_kp _ _ _ _ _ _ _) (by simp)).base (by omega), (hkw.trans hkw7).trans' (set5_kp _ _ _ _ _ _ _) (by simp)⟩
  · have bc : (s3.code != 0) = true := by simpa using hc
    have hP2 : parsed d = none := by rw [HP.out]; simp [hc]
    have HP2 := Lib.hid hP2
    clear hc hP2
    go_wp2
    refine parse_ret rfl rfl (set5 _ _ _ _ _ hrb) rfl ?_
    unfold RetP
    rw [HP2.out]
    exact ⟨rfl, hkw.trans' (set5_kp _ _ _ _ _ _ _) (by simp)⟩
end Go.Proofs.YtddpefbpiehgeaaDoor
