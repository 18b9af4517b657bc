/- The reference's frame's bytes. -/
import Derived.Test.YtddpefbpiehgeaaDoorT09
import Derived.Test.YtddpefbpiehgeaaDoorT07
namespace Go.Proofs.YtddpefbpiehgeaaDoor
open Go Go.RowKit
set_option maxRecDepth 100000
set_option linter.unusedVariables false
set_option linter.unusedSectionVars false
set_option linter.unusedSimpArgs false

/-- A writer of the reference that came about after w0, and holds l. -/
def WRR (w0 : World) (p : Nat) (l : List UInt8) (w : World) : Prop := IsWR w w0.heap.size p l ∧ Below w0.heap.size w0 w ∧ w0.heap.size ≤ w.heap.size
theorem WRR.kp {w0 w : World} {p : Nat} {l : List UInt8} (h : WRR w0 p l w) : Kp [] w0 w := Kp.ofBelow h.2.1
theorem wrr_new (w0 : World) : WRR w0 w0.heap.size [] (w0.alloc (.cells #[.slice none 0 0, .bool false] 100)) :=
  ⟨⟨Nat.le_refl _, _, heap_alloc_new _ _, Own.nil _ _ _ _, nofun⟩, ((Kp.refl [] w0).alloc _).below (Nat.le_refl _) (by simp), by simp⟩
theorem WRR.get {w0 w : World} {p : Nat} {l : List UInt8} (h : WRR w0 p l w) : ∃ a c, w.cell? ⟨p, 0, none⟩ = some (.slice a l.length c) ∧ OB w 5 w0.heap.size (.slice a l.length c) l ∧ p < w.heap.size := by
  obtain ⟨⟨_, bv, hh, ho, _⟩, _, _⟩ := h
  obtain ⟨a, c, rfl⟩ := own_form ho
  exact ⟨a, c, cell_heap hh 0, ho, lt_of_heap hh⟩
theorem wrr_num (w0 : World) (p : Nat) (l : List UInt8) (n s : Int) (w : World) (hw : WRR w0 p l w) (hlen : l.length ≤ 100000000000000) (h0 : 0 ≤ n) (h9 : n ≤ 9223372036854775807) (h1 : 1 ≤ s) (h8 : s ≤ 8) (hf : n.toNat < 256 ^ s.toNat) :
    Calls Tryd.prog 61 #[.pointer (some ⟨p, 0, none⟩), .int .i64 n, .int .i64 s] w fun e w' => e = .returned (.tuple #[]) ∧ WRR w0 p (l ++ dig n.toNat s.toNat) w' :=
  (rnumber _ p l n s w hw.1 hw.2.2 hlen h0 h9 h1 h8 hf).mono fun e w' ⟨he, hw', hb⟩ => ⟨he, hw', hw.2.1.trans hb, (Kp.ofBelow (hw.2.1.trans hb)).size⟩
theorem wrr_count (w0 : World) (p : Nat) (l : List UInt8) (n : Int) (w : World) (hw : WRR w0 p l w) (hlen : l.length ≤ 100000000000000) (h0 : 0 ≤ n) (hf : n ≤ 65535) :
    Calls Tryd.prog 62 #[.pointer (some ⟨p, 0, none⟩), .int .i64 n] w fun e w' => e = .returned (.tuple #[]) ∧ WRR w0 p (l ++ dig n.toNat 2) w' :=
  (rcount _ p l n w hw.1 hw.2.2 hlen h0 hf).mono fun e w' ⟨he, hw', hb⟩ => ⟨he, hw', hw.2.1.trans hb, (Kp.ofBelow (hw.2.1.trans hb)).size⟩
theorem wrr_text (w0 : World) (p : Nat) (l x : List UInt8) (w : World) (hw : WRR w0 p l w) (hlen : l.length ≤ 100000000000000) (hx : x.length ≤ 65535) :
    Calls Tryd.prog 63 #[.pointer (some ⟨p, 0, none⟩), .string ⟨x.toArray⟩] w fun e w' => e = .returned (.tuple #[]) ∧ WRR w0 p (l ++ txt x) w' :=
  (rtext _ p l ⟨x.toArray⟩ w hw.1 hw.2.2 hlen (by simpa [ByteArray.size] using hx)).mono fun e w' ⟨he, hw', hb⟩ => ⟨he, by simpa [txt, ByteArray.size] using hw', hw.2.1.trans hb, (Kp.ofBelow (hw.2.1.trans hb)).size⟩

set_option maxHeartbeats 1000000 in
theorem rfbytes_2 (f : Fr) (iv tv : Value) (w : World) (hk : f.k = 2) (h0 : 0 ≤ f.b) (h9 : f.b ≤ 4294967295) (hi : Rws w iv f.its) (ht : Bs w tv f.t) :
    Calls Tryd.prog 36 #[.agg (fcells f iv tv)] w fun e w' => ∃ v, e = .returned v ∧ OB w' 5 w.heap.size v (frameBytes f) ∧ Kp [] w w' := by
  obtain ⟨ia, ic, rfl, hic⟩ := hi.form
  obtain ⟨ta, tc, rfl, -⟩ := Sl.form ht
  obtain ⟨k, fa, fb, its, t⟩ := f
  simp only at *
  have hfb : frameBytes ⟨k, fa, fb, its, t⟩ = dig k.toNat 1 ++ dig fb.toNat 8 := by
    subst hk; rfl
  have HF := Lib.hid hfb
  clear hfb
  subst hk
  unfold fcells
  go_enter Tryd.func36, Tryd.ntmps36
  go_wp2_with fail
  have hka := (Kp.refl [] w).alloc (.cells #[.int .i64 2, .int .i64 fa, .int .i64 fb, .slice ia its.length ic, .slice ta t.length tc] 25)
  have hh0 := heap_alloc_new w (.cells #[.int .i64 2, .int .i64 fa, .int .i64 fb, .slice ia its.length ic, .slice ta t.length tc] 25)
  have hsz := World.size_alloc w (.cells #[.int .i64 2, .int .i64 fa, .int .i64 fb, .slice ia its.length ic, .slice ta t.length tc] 25)
  generalize w.alloc (.cells #[.int .i64 2, .int .i64 fa, .int .i64 fb, .slice ia its.length ic, .slice ta t.length tc] 25) = w0 at *
  have hw1 := wrr_new w0
  have hs1 := World.size_alloc w0 (.cells #[.slice none 0 0, .bool false] 100)
  generalize w0.alloc (.cells #[.slice none 0 0, .bool false] 100) = w1 at *
  obtain ⟨p, hp⟩ : ∃ p, p = w0.heap.size := ⟨_, rfl⟩
  rw [← hp] at hw1
  simp only [hsz] at hp
  simp only [← hp]
  clear hp hs1
  obtain ⟨c1_0, c1_1, c1_2, c1_3, c1_4⟩ := cells5 (hw1.kp.heap hh0 (by simp))
  go_wp2_with (first
    | (go_at_call 61; (with_reducible refine (wrr_num w0 p [] 2 1 _ hw1 (by simp) (by omega) (by omega) (by omega) (by omega) (by simp <;> omega)).mono ?_); rintro e w2 ⟨rfl, hw2⟩; obtain ⟨c2_0, c2_1, c2_2, c2_3, c2_4⟩ := cells5 (hw2.kp.heap hh0 (by simp)))
    | (go_at_call 61; (with_reducible refine (wrr_num w0 p _ fb 8 _ hw2 (by simp) (by omega) (by omega) (by omega) (by omega) (by simp <;> omega)).mono ?_); rintro e w3 ⟨rfl, hw3⟩; obtain ⟨a4, c4, hc4, ho4, hp4⟩ := hw3.get))
  go_ret
  refine ⟨_, rfl, ?_, hka.trans hw3.kp⟩
  rw [HF.out]
  exact own_base ho4 (fun b hb => Nat.le_trans hka.size (ho4.lt b hb).1)

set_option maxHeartbeats 1000000 in
theorem rfbytes_3 (f : Fr) (iv tv : Value) (w : World) (hk : f.k = 3) (h0 : 0 ≤ f.b) (h9 : f.b ≤ 4294967295) (hi : Rws w iv f.its) (ht : Bs w tv f.t) :
    Calls Tryd.prog 36 #[.agg (fcells f iv tv)] w fun e w' => ∃ v, e = .returned v ∧ OB w' 5 w.heap.size v (frameBytes f) ∧ Kp [] w w' := by
  obtain ⟨ia, ic, rfl, hic⟩ := hi.form
  obtain ⟨ta, tc, rfl, -⟩ := Sl.form ht
  obtain ⟨k, fa, fb, its, t⟩ := f
  simp only at *
  have hfb : frameBytes ⟨k, fa, fb, its, t⟩ = dig k.toNat 1 ++ dig fb.toNat 8 := by
    subst hk; rfl
  have HF := Lib.hid hfb
  clear hfb
  subst hk
  unfold fcells
  go_enter Tryd.func36, Tryd.ntmps36
  go_wp2_with fail
  have hka := (Kp.refl [] w).alloc (.cells #[.int .i64 3, .int .i64 fa, .int .i64 fb, .slice ia its.length ic, .slice ta t.length tc] 25)
  have hh0 := heap_alloc_new w (.cells #[.int .i64 3, .int .i64 fa, .int .i64 fb, .slice ia its.length ic, .slice ta t.length tc] 25)
  have hsz := World.size_alloc w (.cells #[.int .i64 3, .int .i64 fa, .int .i64 fb, .slice ia its.length ic, .slice ta t.length tc] 25)
  generalize w.alloc (.cells #[.int .i64 3, .int .i64 fa, .int .i64 fb, .slice ia its.length ic, .slice ta t.length tc] 25) = w0 at *
  have hw1 := wrr_new w0
  have hs1 := World.size_alloc w0 (.cells #[.slice none 0 0, .bool false] 100)
  generalize w0.alloc (.cells #[.slice none 0 0, .bool false] 100) = w1 at *
  obtain ⟨p, hp⟩ : ∃ p, p = w0.heap.size := ⟨_, rfl⟩
  rw [← hp] at hw1
  simp only [hsz] at hp
  simp only [← hp]
  clear hp hs1
  obtain ⟨c1_0, c1_1, c1_2, c1_3, c1_4⟩ := cells5 (hw1.kp.heap hh0 (by simp))
  go_wp2_with (first
    | (go_at_call 61; (with_reducible refine (wrr_num w0 p [] 3 1 _ hw1 (by simp) (by omega) (by omega) (by omega) (by omega) (by simp <;> omega)).mono ?_); rintro e w2 ⟨rfl, hw2⟩; obtain ⟨c2_0, c2_1, c2_2, c2_3, c2_4⟩ := cells5 (hw2.kp.heap hh0 (by simp)))
    | (go_at_call 61; (with_reducible refine (wrr_num w0 p _ fb 8 _ hw2 (by simp) (by omega) (by omega) (by omega) (by omega) (by simp <;> omega)).mono ?_); rintro e w3 ⟨rfl, hw3⟩; obtain ⟨a4, c4, hc4, ho4, hp4⟩ := hw3.get))
  go_ret
  refine ⟨_, rfl, ?_, hka.trans hw3.kp⟩
  rw [HF.out]
  exact own_base ho4 (fun b hb => Nat.le_trans hka.size (ho4.lt b hb).1)

set_option maxHeartbeats 1000000 in
theorem rfbytes_4 (f : Fr) (iv tv : Value) (w : World) (hk : f.k = 4) (ht9 : f.t.length ≤ 65535) (hi : Rws w iv f.its) (ht : Bs w tv f.t) :
    Calls Tryd.prog 36 #[.agg (fcells f iv tv)] w fun e w' => ∃ v, e = .returned v ∧ OB w' 5 w.heap.size v (frameBytes f) ∧ Kp [] w w' := by
  obtain ⟨ia, ic, rfl, hic⟩ := hi.form
  obtain ⟨ta, tc, rfl, -⟩ := Sl.form ht
  obtain ⟨k, fa, fb, its, t⟩ := f
  simp only at *
  have hfb : frameBytes ⟨k, fa, fb, its, t⟩ = dig k.toNat 1 ++ txt t := by subst hk; rfl
  have HF := Lib.hid hfb
  clear hfb
  subst hk
  unfold fcells
  go_enter Tryd.func36, Tryd.ntmps36
  go_wp2_with fail
  have hka := (Kp.refl [] w).alloc (.cells #[.int .i64 4, .int .i64 fa, .int .i64 fb, .slice ia its.length ic, .slice ta t.length tc] 25)
  have hh0 := heap_alloc_new w (.cells #[.int .i64 4, .int .i64 fa, .int .i64 fb, .slice ia its.length ic, .slice ta t.length tc] 25)
  have hsz := World.size_alloc w (.cells #[.int .i64 4, .int .i64 fa, .int .i64 fb, .slice ia its.length ic, .slice ta t.length tc] 25)
  generalize w.alloc (.cells #[.int .i64 4, .int .i64 fa, .int .i64 fb, .slice ia its.length ic, .slice ta t.length tc] 25) = w0 at *
  have hw1 := wrr_new w0
  have hs1 := World.size_alloc w0 (.cells #[.slice none 0 0, .bool false] 100)
  generalize w0.alloc (.cells #[.slice none 0 0, .bool false] 100) = w1 at *
  obtain ⟨p, hp⟩ : ∃ p, p = w0.heap.size := ⟨_, rfl⟩
  rw [← hp] at hw1
  simp only [hsz] at hp
  simp only [← hp]
  clear hp hs1
  obtain ⟨c1_0, c1_1, c1_2, c1_3, c1_4⟩ := cells5 (hw1.kp.heap hh0 (by simp))
  go_wp2_with (first
    | (go_at_call 61; (with_reducible refine (wrr_num w0 p [] 4 1 _ hw1 (by simp) (by omega) (by omega) (by omega) (by omega) (by simp <;> omega)).mono ?_); rintro e w2 ⟨rfl, hw2⟩; obtain ⟨c2_0, c2_1, c2_2, c2_3, c2_4⟩ := cells5 (hw2.kp.heap hh0 (by simp)); have hcv := b2sc (ht.kp0 (hka.trans hw2.kp)))
    | (go_at_call 63; (with_reducible refine (wrr_text w0 p _ t _ hw2 (by simp) ht9).mono ?_); rintro e w3 ⟨rfl, hw3⟩; obtain ⟨l3, hl3⟩ : ∃ l3, l3 = [] ++ dig (Int.toNat 4) (Int.toNat 1) ++ txt t := ⟨_, rfl⟩; rw [← hl3] at hw3; have HL3 := Lib.hid hl3; have hl3n : l3.length ≤ 100000000 := (by rw [hl3]; simp [txt]; omega); clear hl3; obtain ⟨a4, c4, hc4, ho4, hp4⟩ := hw3.get))
  go_ret
  refine ⟨_, rfl, ?_, hka.trans hw3.kp⟩
  rw [HF.out, show dig (Int.toNat 4) 1 ++ txt t = l3 from HL3.out.symm]
  exact own_base ho4 (fun b hb => Nat.le_trans hka.size (ho4.lt b hb).1)

set_option maxHeartbeats 1000000 in
theorem rfbytes_1 (f : Fr) (iv tv : Value) (w : World) (hk : f.k = 1) (h1 : ∀ x ∈ f.its, x.length ≤ 256) (hn : f.its.length ≤ 8) (ha0 : 1 ≤ f.a) (ha : f.a ≤ 4294967296) (hb0 : 0 ≤ f.b) (hb9 : f.b ≤ 4294967296) (hi : Rws w iv f.its) (ht : Bs w tv f.t) :
    Calls Tryd.prog 36 #[.agg (fcells f iv tv)] w fun e w' => ∃ v, e = .returned v ∧ OB w' 5 w.heap.size v (frameBytes f) ∧ Kp [] w w' := by
  obtain ⟨ia, ic, rfl, hic⟩ := hi.form
  obtain ⟨ta, tc, rfl, -⟩ := Sl.form ht
  obtain ⟨k, fa, fb, its, t⟩ := f
  simp only at *
  have hfb : frameBytes ⟨k, fa, fb, its, t⟩ = dig k.toNat 1 ++ (dig fa.toNat 8 ++ (dig fb.toNat 8 ++ (dig its.length 2 ++ itsBytes its))) := by subst hk; rfl
  have HF := Lib.hid hfb
  have hk1 : (k == 1) = true := by simp; omega
  have hkb : 0 ≤ k ∧ k ≤ 4 := by omega
  clear hfb hk
  unfold fcells
  go_enter Tryd.func36, Tryd.ntmps36
  go_wp2_with fail
  have hka := (Kp.refl [] w).alloc (.cells #[.int .i64 k, .int .i64 fa, .int .i64 fb, .slice ia its.length ic, .slice ta t.length tc] 25)
  have hh0 := heap_alloc_new w (.cells #[.int .i64 k, .int .i64 fa, .int .i64 fb, .slice ia its.length ic, .slice ta t.length tc] 25)
  have hsz := World.size_alloc w (.cells #[.int .i64 k, .int .i64 fa, .int .i64 fb, .slice ia its.length ic, .slice ta t.length tc] 25)
  generalize w.alloc (.cells #[.int .i64 k, .int .i64 fa, .int .i64 fb, .slice ia its.length ic, .slice ta t.length tc] 25) = w0 at *
  have hw1 := wrr_new w0
  have hs1 := World.size_alloc w0 (.cells #[.slice none 0 0, .bool false] 100)
  generalize w0.alloc (.cells #[.slice none 0 0, .bool false] 100) = w1 at *
  obtain ⟨p, hp⟩ : ∃ p, p = w0.heap.size := ⟨_, rfl⟩
  rw [← hp] at hw1
  simp only [hsz] at hp
  simp only [← hp]
  clear hp hs1
  obtain ⟨c1_0, c1_1, c1_2, c1_3, c1_4⟩ := cells5 (hw1.kp.heap hh0 (by simp))
  go_wp2_with (first
    | (go_at_call 61; (with_reducible refine (wrr_num w0 p [] k 1 _ hw1 (by simp) (by omega) (by omega) (by omega) (by omega) (by simp <;> omega)).mono ?_); rintro e w2 ⟨rfl, hw2⟩; obtain ⟨c2_0, c2_1, c2_2, c2_3, c2_4⟩ := cells5 (hw2.kp.heap hh0 (by simp)))
    | (go_at_call 61; (with_reducible refine (wrr_num w0 p _ fa 8 _ hw2 (by simp) (by omega) (by omega) (by omega) (by omega) (by simp <;> omega)).mono ?_); rintro e w3 ⟨rfl, hw3⟩; obtain ⟨c3_0, c3_1, c3_2, c3_3, c3_4⟩ := cells5 (hw3.kp.heap hh0 (by simp)))
    | (go_at_call 61; (with_reducible refine (wrr_num w0 p _ fb 8 _ hw3 (by simp) (by omega) (by omega) (by omega) (by omega) (by simp <;> omega)).mono ?_); rintro e w4 ⟨rfl, hw4⟩; obtain ⟨c4_0, c4_1, c4_2, c4_3, c4_4⟩ := cells5 (hw4.kp.heap hh0 (by simp)))
    | (go_at_call 62; (with_reducible refine (wrr_count w0 p _ its.length _ hw4 (by simp) (by omega) (by omega)).mono ?_); rintro e w5 ⟨rfl, hw5⟩; obtain ⟨c5_0, c5_1, c5_2, c5_3, c5_4⟩ := cells5 (hw5.kp.heap hh0 (by simp))))
  obtain ⟨pre, hpre⟩ : ∃ l, l = [] ++ dig k.toNat (Int.toNat 1) ++ dig fa.toNat (Int.toNat 8) ++ dig fb.toNat (Int.toNat 8) ++ dig ((its.length : Int)).toNat 2 := ⟨_, rfl⟩
  rw [← hpre] at hw5
  have hprl : pre.length = 19 := by rw [hpre]; simp
  have HPRE := Lib.hid hpre
  clear hpre
  have hsum : ∀ n, n ≤ its.length → (itsBytes (its.take n)).length ≤ 300 * n := by
    intro n hnl
    induction n with
    | zero => simp [itsBytes]
    | succ n ih =>
      have h2 := ih (by omega)
      have h3 : itsBytes (its.take (n + 1)) = itsBytes (its.take n) ++ txt its[n] := itsBytes_snoc its n (by omega)
      have h4 := h1 its[n] (List.getElem_mem _)
      rw [h3, List.length_append]
      simp [txt]; omega
  have HS := Lib.hid hsum
  clear hsum
  go_loopw [4] (fun v37 wr => ∃ n : Nat, n ≤ its.length ∧ v37 = .int .i64 n ∧ WRR w0 p (pre ++ itsBytes (its.take n)) wr) (fun v37 _ => its.length - (intOf v37).toNat)
  case atStart => exact ⟨0, by omega, rfl, by simpa [itsBytes] using hw5⟩
  case round =>
    obtain ⟨n, hnl, rfl, hw⟩ := hrel
    obtain ⟨d_0, d_1, d_2, d_3, d_4⟩ := cells5 (hw.kp.heap hh0 (by simp))
    have hls := HS.out n hnl
    have hlq : (pre ++ itsBytes (its.take n)).length ≤ 3000 := by rw [List.length_append]; omega
    by_cases hlt : n < its.length
    · obtain ⟨ib, io, ua, uc, rfl, hib, hcell, hbx⟩ := (hi.kp0 (hka.trans hw.kp)).at n hlt
      have h3 : itsBytes (its.take (n + 1)) = itsBytes (its.take n) ++ txt its[n] := itsBytes_snoc its n hlt
      have h4 := h1 its[n] (List.getElem_mem hlt)
      generalize its[n] = x at *
      have hcv := b2sc hbx
      have i0 : (0 : Int) ≤ n ∧ (n : Int) < its.length := by omega
      have H3 := Lib.hid h3
      clear h3 hls
      generalize hq : pre ++ itsBytes (its.take n) = q at *
      have HQ := Lib.hid hq
      clear hq
      have hn8 : (n : Int) ≤ 8 := by omega
      go_wp2_with (first
        | (go_at_call 63; (with_reducible refine (wrr_text w0 p q x _ hw (by omega) (by omega)).mono ?_); rintro e w6 ⟨rfl, hw6⟩))
      go_roundw
      case measure => simp [intOf]; omega
      case rel => exact ⟨n + 1, by omega, by go_num, by rw [H3.out, ← List.append_assoc, HQ.out]; exact hw6⟩
    · have hd : decide ((n : Int) < (its.length : Int)) = false := by rw [decide_eq_false_iff_not]; omega
      have hq : its.take n = its := List.take_of_length_le (by omega)
      rw [hq] at hw hlq
      obtain ⟨l5, hl5⟩ : ∃ l5, l5 = pre ++ itsBytes its := ⟨_, rfl⟩
      rw [← hl5] at hw hlq
      have HL5 := Lib.hid hl5
      clear hl5 hq hls
      obtain ⟨a4, c4, hc4, ho4, hp4⟩ := hw.get
      go_wp2
      go_ret
      refine ⟨_, rfl, ?_, hka.trans hw.kp⟩
      have he : frameBytes ⟨k, fa, fb, its, t⟩ = l5 := by rw [HF.out, HL5.out, HPRE.out]; simp
      rw [he]
      exact own_base ho4 (fun b hb => Nat.le_trans hka.size (ho4.lt b hb).1)
end Go.Proofs.YtddpefbpiehgeaaDoor

/- The reference's frames: what may be, Make. -/
namespace Go.Proofs.YtddpefbpiehgeaaDoor
open Go Go.RowKit
set_option maxRecDepth 100000
set_option linter.unusedVariables false
set_option linter.unusedSectionVars false
set_option linter.unusedSimpArgs false

theorem rmay_no {f : Fr} (hk : f.k = 1) (h : f.its.length < 1 ∨ 8 < f.its.length ∨ f.a < 1 ∨ f.b < f.a ∨ 4294967295 < f.b + f.its.length - 1 ∨ 0 < f.t.length ∨ ∃ x ∈ f.its, 256 < x.length) : mayB f = false := by
  cases hm : mayB f
  · rfl
  · obtain ⟨h1, h2, h3, h4, h5, h6, h7⟩ := may_1 hm hk
    rw [h1] at h
    simp only [List.length_nil] at h
    rcases h with h | h | h | h | h | h | ⟨x, hx, h⟩
    · omega
    · omega
    · omega
    · omega
    · omega
    · omega
    · have := h2 x hx; omega

set_option maxHeartbeats 2000000 in
theorem rmay_1 (f : Fr) (iv tv : Value) (w : World) (hk : f.k = 1) (hi : Rws w iv f.its) (ht : Bs w tv f.t) (hn : f.its.length ≤ 100000000000000) (hnt : f.t.length ≤ 140737488352000) (hb : f.b ≤ 9223372036854775807) :
    Calls Tryd.prog 34 #[.agg (fcells f iv tv)] w fun e w' => e = .returned (.bool (mayB f)) ∧ Kp [] w w' := by
  obtain ⟨ia, ic, rfl, hic⟩ := hi.form
  obtain ⟨ta, tc, rfl, -⟩ := Sl.form ht
  have hk0 := (Kp.refl [] w).alloc (.cells (fcells f (.slice ia f.its.length ic) (.slice ta f.t.length tc)) 25)
  have hh0 := heap_alloc_new w (.cells (fcells f (.slice ia f.its.length ic) (.slice ta f.t.length tc)) 25)
  have hsz := World.size_alloc w (.cells (fcells f (.slice ia f.its.length ic) (.slice ta f.t.length tc)) 25)
  have hno := rmay_no hk
  have hyes : ¬ (f.its.length < 1) → ¬ (8 < f.its.length) → ¬ (f.a < 1) → ¬ (f.b < f.a) → ¬ (4294967295 < f.b + f.its.length - 1) → ¬ (0 < f.t.length) → (∀ x ∈ f.its, x.length ≤ 256) → mayB f = true := by
    intro a1 a2 a3 a4 a5 a6 a7
    have h8 : (f.its.all fun x => decide (x.length ≤ 256)) = true := by
      rw [List.all_eq_true]
      intro x hx
      have := a7 x hx
      simpa using this
    have h9 : f.t = [] := List.eq_nil_of_length_eq_zero (by omega)
    simp only [mayB, hk, itemsMayB, h8, h9]
    simp
    omega
  generalize hm : mayB f = m at *
  clear hm
  obtain ⟨k, fa, fb, its, t⟩ := f
  simp only at *
  subst hk
  unfold fcells at hk0 hh0 hsz ⊢
  simp only at hk0 hh0 hsz ⊢
  have HNO := Lib.hid hno
  have HYES := Lib.hid hyes
  clear hno hyes
  go_enter Tryd.func34, Tryd.ntmps34
  by_cases c1 : its.length < 1
  · have hm : m = false := HNO.out (.inl c1)
    have d1 : decide ((its.length : Int) < 1) = true := by rw [decide_eq_true_eq]; omega
    clear c1
    go_wp2
    go_ret
    exact ⟨rfl, hk0⟩
  have d1 : decide ((its.length : Int) < 1) = false := by rw [decide_eq_false_iff_not]; omega
  by_cases c2 : 8 < its.length
  · have hm : m = false := HNO.out (.inr (.inl c2))
    have d2 : decide (8 < (its.length : Int)) = true := by rw [decide_eq_true_eq]; omega
    clear c1 c2
    go_wp2
    go_ret
    exact ⟨rfl, hk0⟩
  have d2 : decide (8 < (its.length : Int)) = false := by rw [decide_eq_false_iff_not]; omega
  by_cases c3 : fa < 1
  · have hm : m = false := HNO.out (.inr (.inr (.inl c3)))
    have d3 : decide (fa < 1) = true := by rw [decide_eq_true_eq]; omega
    clear c1 c2 c3
    go_wp2
    go_ret
    exact ⟨rfl, hk0⟩
  have d3 : decide (fa < 1) = false := by rw [decide_eq_false_iff_not]; omega
  by_cases c4 : fb < fa
  · have hm : m = false := HNO.out (.inr (.inr (.inr (.inl c4))))
    have d4 : decide (fb < fa) = true := by rw [decide_eq_true_eq]; omega
    clear c1 c2 c3 c4
    go_wp2
    go_ret
    exact ⟨rfl, hk0⟩
  have d4 : decide (fb < fa) = false := by rw [decide_eq_false_iff_not]; omega
  by_cases c5 : 4294967295 < fb
  · have hm : m = false := HNO.out (.inr (.inr (.inr (.inr (.inl (by omega))))))
    have d5 : decide (4294967295 < fb) = true := by rw [decide_eq_true_eq]; omega
    clear c1 c2 c3 c4 c5
    go_wp2
    go_ret
    exact ⟨rfl, hk0⟩
  have d5 : decide (4294967295 < fb) = false := by rw [decide_eq_false_iff_not]; omega
  have e1 : IntKind.i64.wrap (fb + (its.length : Int)) = fb + its.length := IntWalk.i64_in _ (by omega)
  have e2 : IntKind.i64.wrap (fb + (its.length : Int) - 1) = fb + its.length - 1 := IntWalk.i64_in _ (by omega)
  by_cases c6 : 4294967295 < fb + its.length - 1
  · have hm : m = false := HNO.out (.inr (.inr (.inr (.inr (.inl c6)))))
    have d6 : decide (4294967295 < fb + (its.length : Int) - 1) = true := by rw [decide_eq_true_eq]; omega
    clear c1 c2 c3 c4 c5 c6
    go_wp2
    go_ret
    exact ⟨rfl, hk0⟩
  have d6 : decide (4294967295 < fb + (its.length : Int) - 1) = false := by rw [decide_eq_false_iff_not]; omega
  by_cases c7 : 0 < t.length
  · have hm : m = false := HNO.out (.inr (.inr (.inr (.inr (.inr (.inl c7))))))
    have d7 : decide (0 < t.length) = true := by rw [decide_eq_true_eq]; omega
    clear c1 c2 c3 c4 c5 c6 c7
    go_wp2
    go_ret
    exact ⟨rfl, hk0⟩
  have d7 : decide (0 < t.length) = false := by rw [decide_eq_false_iff_not]; omega
  have HC := Lib.hid (show (¬ (its.length < 1) ∧ ¬ (8 < its.length)) ∧ ¬ (fa < 1) ∧ ¬ (fb < fa) ∧ ¬ (4294967295 < fb + its.length - 1) ∧ ¬ (0 < t.length) from ⟨⟨c1, c2⟩, c3, c4, c6, c7⟩)
  clear c1 c2 c3 c4 c5 c6 c7
  go_wp2
  clear d1 d2 d3 d4 d5 d6 d7 e1 e2
  generalize w.alloc (.cells #[.int .i64 1, .int .i64 fa, .int .i64 fb, .slice ia its.length ic, .slice ta t.length tc] 25) = w0 at *
  go_loopw [4] (fun v4 wr => ∃ n : Nat, n ≤ its.length ∧ v4 = .int .i64 n ∧ (∀ x ∈ its.take n, x.length ≤ 256) ∧ wr = w0) (fun v4 _ => its.length - (intOf v4).toNat)
  case atStart => exact ⟨0, by omega, rfl, by simp, rfl⟩
  case round =>
    as_aux_lemma =>
    obtain ⟨n, hnl, rfl, hall, rfl⟩ := hrel
    have HALL := Lib.hid hall
    clear hall
    have hh0_3 := cell_heap (w := wr) (b := w.heap.size) hh0 3
    simp only [List.getElem?_toArray, List.getElem?_cons_zero, List.getElem?_cons_succ] at hh0_3
    by_cases hlt : n < its.length
    · obtain ⟨ib, io, ua, uc, rfl, hib, hcell, hbx⟩ := (hi.kp0 hk0).at n hlt
      have hmem : its[n] ∈ its := List.getElem_mem hlt
      have htk : its.take (n + 1) = its.take n ++ [its[n]] := List.take_succ_eq_append_getElem hlt
      generalize its[n] = x at *
      have i0 : (0 : Int) ≤ n ∧ (n : Int) < its.length := by omega
      by_cases hx : x.length ≤ 256
      · have hd : decide (256 < (x.length : Int)) = false := by rw [decide_eq_false_iff_not]; omega
        have HT := Lib.hid htk
        clear htk hmem
        go_wp2
        go_roundw
        case measure => simp [intOf]; omega
        case rel => exact ⟨n + 1, by omega, by go_num, by rw [HT.out]; intro y hy; rw [List.mem_append] at hy; rcases hy with hy | hy; exact HALL.out y hy; simp at hy; subst hy; exact hx, by trivial⟩
      · have hd : decide (256 < (x.length : Int)) = true := by rw [decide_eq_true_eq]; omega
        have hm : m = false := HNO.out (.inr (.inr (.inr (.inr (.inr (.inr ⟨x, hmem, by omega⟩))))))
        clear hmem htk hx
        go_wp2
        go_ret
        exact ⟨by rw [hm]; rfl, hk0⟩
    · have hd : decide ((n : Int) < (its.length : Int)) = false := by rw [decide_eq_false_iff_not]; omega
      obtain ⟨⟨c1, c2⟩, c3, c4, c6, c7⟩ := HC.out
      have hm : m = true := HYES.out c1 c2 c3 c4 c6 c7 (fun x hx => HALL.out x (by rw [List.take_of_length_le (by omega)]; exact hx))
      clear c1 c2 c3 c4 c6 c7
      go_wp2
      go_ret
      exact ⟨by rw [hm]; rfl, hk0⟩
theorem may_i2 (fa fb : Int) (its : List (List UInt8)) (t : List UInt8) : mayB ⟨2, fa, fb, its, t⟩ = true ↔ fa = 0 ∧ its.length = 0 ∧ t.length = 0 ∧ 0 ≤ fb ∧ fb ≤ 4294967295 := by
  simp [mayB, bareB, and_assoc]
theorem may_i3 (fa fb : Int) (its : List (List UInt8)) (t : List UInt8) : mayB ⟨3, fa, fb, its, t⟩ = true ↔ fa = 0 ∧ its.length = 0 ∧ t.length = 0 ∧ 0 ≤ fb ∧ fb ≤ 2147483648 := by
  simp [mayB, bareB, and_assoc]
theorem may_i4 (fa fb : Int) (its : List (List UInt8)) (t : List UInt8) : mayB ⟨4, fa, fb, its, t⟩ = true ↔ fa = 0 ∧ its.length = 0 ∧ fb = 0 ∧ t.length ≤ 16100 := by
  simp [mayB, bareB, and_assoc]
  omega
theorem may_io (fa fb : Int) (its : List (List UInt8)) (t : List UInt8) (k : Int) (hk : k ≠ 1 ∧ k ≠ 2 ∧ k ≠ 3 ∧ k ≠ 4) : mayB ⟨k, fa, fb, its, t⟩ = true ↔ False := by
  simp [mayB, hk]
set_option maxHeartbeats 1000000 in
theorem rmay_2 (f : Fr) (iv tv : Value) (w : World) (hk : f.k = 2) (hi : Rws w iv f.its) (ht : Bs w tv f.t) (hn : f.its.length ≤ 100000000000000) (hnt : f.t.length ≤ 140737488352000) (hb : f.b ≤ 9223372036854775807) :
    Calls Tryd.prog 34 #[.agg (fcells f iv tv)] w fun e w' => e = .returned (.bool (mayB f)) ∧ Kp [] w w' := by
  obtain ⟨ia, ic, rfl, hic⟩ := hi.form
  obtain ⟨ta, tc, rfl, -⟩ := Sl.form ht
  have hk0 := (Kp.refl [] w).alloc (.cells (fcells f (.slice ia f.its.length ic) (.slice ta f.t.length tc)) 25)
  obtain ⟨k, fa, fb, its, t⟩ := f
  simp only at *
  subst hk
  unfold fcells at hk0 ⊢
  simp only at hk0 ⊢
  generalize hm : mayB _ = m at *
  have HM := Lib.hid hm
  clear hm
  go_enter Tryd.func34, Tryd.ntmps34
  by_cases c1 : fa ≠ 0
  · have hm : m = false := by
      cases m with
      | false => rfl
      | true => have := (may_i2 _ _ _ _).1 HM.out; omega
    have d1 : (fa != 0) = true := by simpa using c1
    clear c1
    go_wp2
    go_ret
    exact ⟨by first | rfl | (rw [hm]; rfl), hk0⟩
  have d1 : (fa != 0) = false := by simpa using c1
  by_cases c2 : 0 < its.length
  · have hm : m = false := by
      cases m with
      | false => rfl
      | true => have := (may_i2 _ _ _ _).1 HM.out; omega
    have d2 : decide (0 < its.length) = true := by rw [decide_eq_true_eq]; omega
    clear c1 c2
    go_wp2
    go_ret
    exact ⟨by first | rfl | (rw [hm]; rfl), hk0⟩
  have d2 : decide (0 < its.length) = false := by rw [decide_eq_false_iff_not]; omega
  by_cases c3 : t.length = 0
  rotate_left
  · have hm : m = false := by
      cases m with
      | false => rfl
      | true => have := (may_i2 _ _ _ _).1 HM.out; omega
    have d3 : ((t.length : Int) == 0) = false := by simpa using c3
    clear c1 c2 c3
    go_wp2
    go_ret
    exact ⟨by first | rfl | (rw [hm]; rfl), hk0⟩
  have d3 : ((t.length : Int) == 0) = true := by simpa using c3
  by_cases c4 : 0 ≤ fb
  rotate_left
  · have hm : m = false := by
      cases m with
      | false => rfl
      | true => have := (may_i2 _ _ _ _).1 HM.out; omega
    have d4 : decide (0 ≤ fb) = false := by rw [decide_eq_false_iff_not]; omega
    clear c1 c2 c3 c4
    go_wp2
    go_ret
    exact ⟨by first | rfl | (rw [hm]; rfl), hk0⟩
  have d4 : decide (0 ≤ fb) = true := by rw [decide_eq_true_eq]; omega
  by_cases c5 : fb ≤ 4294967295
  rotate_left
  · have hm : m = false := by
      cases m with
      | false => rfl
      | true => have := (may_i2 _ _ _ _).1 HM.out; omega
    have d5 : decide (fb ≤ 4294967295) = false := by rw [decide_eq_false_iff_not]; omega
    clear c1 c2 c3 c4 c5
    go_wp2
    go_ret
    exact ⟨by first | rfl | (rw [hm]; rfl), hk0⟩
  have d5 : decide (fb ≤ 4294967295) = true := by rw [decide_eq_true_eq]; omega
  have hm : m = true := by rw [← HM.out]; exact (may_i2 _ _ _ _).2 (by omega)
  clear c1 c2 c3 c4 c5
  go_wp2
  go_ret
  exact ⟨by first | rfl | (rw [hm]; rfl), hk0⟩

set_option maxHeartbeats 1000000 in
theorem rmay_3 (f : Fr) (iv tv : Value) (w : World) (hk : f.k = 3) (hi : Rws w iv f.its) (ht : Bs w tv f.t) (hn : f.its.length ≤ 100000000000000) (hnt : f.t.length ≤ 140737488352000) (hb : f.b ≤ 9223372036854775807) :
    Calls Tryd.prog 34 #[.agg (fcells f iv tv)] w fun e w' => e = .returned (.bool (mayB f)) ∧ Kp [] w w' := by
  obtain ⟨ia, ic, rfl, hic⟩ := hi.form
  obtain ⟨ta, tc, rfl, -⟩ := Sl.form ht
  have hk0 := (Kp.refl [] w).alloc (.cells (fcells f (.slice ia f.its.length ic) (.slice ta f.t.length tc)) 25)
  obtain ⟨k, fa, fb, its, t⟩ := f
  simp only at *
  subst hk
  unfold fcells at hk0 ⊢
  simp only at hk0 ⊢
  generalize hm : mayB _ = m at *
  have HM := Lib.hid hm
  clear hm
  go_enter Tryd.func34, Tryd.ntmps34
  by_cases c1 : fa ≠ 0
  · have hm : m = false := by
      cases m with
      | false => rfl
      | true => have := (may_i3 _ _ _ _).1 HM.out; omega
    have d1 : (fa != 0) = true := by simpa using c1
    clear c1
    go_wp2
    go_ret
    exact ⟨by first | rfl | (rw [hm]; rfl), hk0⟩
  have d1 : (fa != 0) = false := by simpa using c1
  by_cases c2 : 0 < its.length
  · have hm : m = false := by
      cases m with
      | false => rfl
      | true => have := (may_i3 _ _ _ _).1 HM.out; omega
    have d2 : decide (0 < its.length) = true := by rw [decide_eq_true_eq]; omega
    clear c1 c2
    go_wp2
    go_ret
    exact ⟨by first | rfl | (rw [hm]; rfl), hk0⟩
  have d2 : decide (0 < its.length) = false := by rw [decide_eq_false_iff_not]; omega
  by_cases c3 : t.length = 0
  rotate_left
  · have hm : m = false := by
      cases m with
      | false => rfl
      | true => have := (may_i3 _ _ _ _).1 HM.out; omega
    have d3 : ((t.length : Int) == 0) = false := by simpa using c3
    clear c1 c2 c3
    go_wp2
    go_ret
    exact ⟨by first | rfl | (rw [hm]; rfl), hk0⟩
  have d3 : ((t.length : Int) == 0) = true := by simpa using c3
  by_cases c4 : 0 ≤ fb
  rotate_left
  · have hm : m = false := by
      cases m with
      | false => rfl
      | true => have := (may_i3 _ _ _ _).1 HM.out; omega
    have d4 : decide (0 ≤ fb) = false := by rw [decide_eq_false_iff_not]; omega
    clear c1 c2 c3 c4
    go_wp2
    go_ret
    exact ⟨by first | rfl | (rw [hm]; rfl), hk0⟩
  have d4 : decide (0 ≤ fb) = true := by rw [decide_eq_true_eq]; omega
  by_cases c5 : fb ≤ 2147483648
  rotate_left
  · have hm : m = false := by
      cases m with
      | false => rfl
      | true => have := (may_i3 _ _ _ _).1 HM.out; omega
    have d5 : decide (fb ≤ 2147483648) = false := by rw [decide_eq_false_iff_not]; omega
    clear c1 c2 c3 c4 c5
    go_wp2
    go_ret
    exact ⟨by first | rfl | (rw [hm]; rfl), hk0⟩
  have d5 : decide (fb ≤ 2147483648) = true := by rw [decide_eq_true_eq]; omega
  have hm : m = true := by rw [← HM.out]; exact (may_i3 _ _ _ _).2 (by omega)
  clear c1 c2 c3 c4 c5
  go_wp2
  go_ret
  exact ⟨by first | rfl | (rw [hm]; rfl), hk0⟩

set_option maxHeartbeats 1000000 in
theorem rmay_4 (f : Fr) (iv tv : Value) (w : World) (hk : f.k = 4) (hi : Rws w iv f.its) (ht : Bs w tv f.t) (hn : f.its.length ≤ 100000000000000) (hnt : f.t.length ≤ 140737488352000) (hb : f.b ≤ 9223372036854775807) :
    Calls Tryd.prog 34 #[.agg (fcells f iv tv)] w fun e w' => e = .returned (.bool (mayB f)) ∧ Kp [] w w' := by
  obtain ⟨ia, ic, rfl, hic⟩ := hi.form
  obtain ⟨ta, tc, rfl, -⟩ := Sl.form ht
  have hk0 := (Kp.refl [] w).alloc (.cells (fcells f (.slice ia f.its.length ic) (.slice ta f.t.length tc)) 25)
  obtain ⟨k, fa, fb, its, t⟩ := f
  simp only at *
  subst hk
  unfold fcells at hk0 ⊢
  simp only at hk0 ⊢
  generalize hm : mayB _ = m at *
  have HM := Lib.hid hm
  clear hm
  go_enter Tryd.func34, Tryd.ntmps34
  by_cases c1 : fa ≠ 0
  · have hm : m = false := by
      cases m with
      | false => rfl
      | true => have := (may_i4 _ _ _ _).1 HM.out; omega
    have d1 : (fa != 0) = true := by simpa using c1
    clear c1
    go_wp2
    go_ret
    exact ⟨by first | rfl | (rw [hm]; rfl), hk0⟩
  have d1 : (fa != 0) = false := by simpa using c1
  by_cases c2 : 0 < its.length
  · have hm : m = false := by
      cases m with
      | false => rfl
      | true => have := (may_i4 _ _ _ _).1 HM.out; omega
    have d2 : decide (0 < its.length) = true := by rw [decide_eq_true_eq]; omega
    clear c1 c2
    go_wp2
    go_ret
    exact ⟨by first | rfl | (rw [hm]; rfl), hk0⟩
  have d2 : decide (0 < its.length) = false := by rw [decide_eq_false_iff_not]; omega
  by_cases c3 : fb = 0
  rotate_left
  · have hm : m = false := by
      cases m with
      | false => rfl
      | true => have := (may_i4 _ _ _ _).1 HM.out; omega
    have d3 : (fb == 0) = false := by simpa using c3
    clear c1 c2 c3
    go_wp2
    go_ret
    exact ⟨by first | rfl | (rw [hm]; rfl), hk0⟩
  have d3 : (fb == 0) = true := by simpa using c3
  by_cases c4 : t.length ≤ 16100
  rotate_left
  · have hm : m = false := by
      cases m with
      | false => rfl
      | true => have := (may_i4 _ _ _ _).1 HM.out; omega
    have d4 : decide ((t.length : Int) ≤ 16100) = false := by rw [decide_eq_false_iff_not]; omega
    clear c1 c2 c3 c4
    go_wp2
    go_ret
    exact ⟨by first | rfl | (rw [hm]; rfl), hk0⟩
  have d4 : decide ((t.length : Int) ≤ 16100) = true := by rw [decide_eq_true_eq]; omega
  have hm : m = true := by rw [← HM.out]; exact (may_i4 _ _ _ _).2 (by omega)
  clear c1 c2 c3 c4
  go_wp2
  go_ret
  exact ⟨by first | rfl | (rw [hm]; rfl), hk0⟩

set_option maxHeartbeats 1000000 in
theorem rmay_o (f : Fr) (iv tv : Value) (w : World) (hk : f.k ≠ 1 ∧ f.k ≠ 2 ∧ f.k ≠ 3 ∧ f.k ≠ 4) (hi : Rws w iv f.its) (ht : Bs w tv f.t) (hn : f.its.length ≤ 100000000000000) (hnt : f.t.length ≤ 140737488352000) (hb : f.b ≤ 9223372036854775807) :
    Calls Tryd.prog 34 #[.agg (fcells f iv tv)] w fun e w' => e = .returned (.bool (mayB f)) ∧ Kp [] w w' := by
  obtain ⟨ia, ic, rfl, hic⟩ := hi.form
  obtain ⟨ta, tc, rfl, -⟩ := Sl.form ht
  have hk0 := (Kp.refl [] w).alloc (.cells (fcells f (.slice ia f.its.length ic) (.slice ta f.t.length tc)) 25)
  obtain ⟨k, fa, fb, its, t⟩ := f
  simp only at *
  have k1 : (k == 1) = false := by simp; omega
  have k2 : (k == 2) = false := by simp; omega
  have k3 : (k == 3) = false := by simp; omega
  have k4 : (k == 4) = false := by simp; omega
  have HK := Lib.hid hk
  clear hk
  unfold fcells at hk0 ⊢
  simp only at hk0 ⊢
  generalize hm : mayB _ = m at *
  have HM := Lib.hid hm
  clear hm
  go_enter Tryd.func34, Tryd.ntmps34
  by_cases c1 : fa ≠ 0
  · have hm : m = false := by
      cases m with
      | false => rfl
      | true => have := (may_io _ _ _ _ _ HK.out).1 HM.out; exact this.elim
    have d1 : (fa != 0) = true := by simpa using c1
    clear c1
    go_wp2
    go_ret
    exact ⟨by first | rfl | (rw [hm]; rfl), hk0⟩
  have d1 : (fa != 0) = false := by simpa using c1
  by_cases c2 : 0 < its.length
  · have hm : m = false := by
      cases m with
      | false => rfl
      | true => have := (may_io _ _ _ _ _ HK.out).1 HM.out; exact this.elim
    have d2 : decide (0 < its.length) = true := by rw [decide_eq_true_eq]; omega
    clear c1 c2
    go_wp2
    go_ret
    exact ⟨by first | rfl | (rw [hm]; rfl), hk0⟩
  have d2 : decide (0 < its.length) = false := by rw [decide_eq_false_iff_not]; omega
  have hm : m = false := by
    cases m with
    | false => rfl
    | true => exact ((may_io _ _ _ _ _ HK.out).1 HM.out).elim
  clear c1 c2
  go_wp2
  go_ret
  exact ⟨by first | rfl | (rw [hm]; rfl), hk0⟩

theorem rmay_calls (f : Fr) (iv tv : Value) (w : World) (hi : Rws w iv f.its) (ht : Bs w tv f.t) (hn : f.its.length ≤ 100000000000000) (hnt : f.t.length ≤ 140737488352000) (hb : f.b ≤ 9223372036854775807) :
    Calls Tryd.prog 34 #[.agg (fcells f iv tv)] w fun e w' => e = .returned (.bool (mayB f)) ∧ Kp [] w w' := by
  by_cases h1 : f.k = 1
  · exact rmay_1 f iv tv w h1 hi ht hn hnt hb
  by_cases h2 : f.k = 2
  · exact rmay_2 f iv tv w h2 hi ht hn hnt hb
  by_cases h3 : f.k = 3
  · exact rmay_3 f iv tv w h3 hi ht hn hnt hb
  by_cases h4 : f.k = 4
  · exact rmay_4 f iv tv w h4 hi ht hn hnt hb
  · exact rmay_o f iv tv w ⟨h1, h2, h3, h4⟩ hi ht hn hnt hb
end Go.Proofs.YtddpefbpiehgeaaDoor

/- The link: a receiver. -/
namespace Go.Proofs.YtddpefbpiehgeaaDoor
open Go Go.RowKit
set_option maxRecDepth 100000
set_option linter.unusedVariables false
set_option linter.unusedSectionVars false
set_option linter.unusedSimpArgs false

/-- A receiver. -/
def IsR (w : World) (p : Nat) (nx : Int) : Prop := w.heap[p]? = some (.cells #[.int .i64 nx] 84 (0, 0)) ∧ 0 ≤ nx ∧ nx ≤ 4294967296
theorem IsR.kp {S : List Nat} {w w' : World} {p : Nat} {nx : Int} (h : IsR w p nx) (hk : Kp S w w') (hS : p ∉ S) : IsR w' p nx := ⟨hk.heap h.1 hS, h.2⟩

theorem newReceiver_calls (w : World) : Calls Tryd.prog 19 #[] w fun e w' => ∃ p, e = .returned (.pointer (some ⟨p, 0, none⟩)) ∧ IsR w' p 0 ∧ w.heap.size ≤ p ∧ Kp [] w w' := by
  go_enter Tryd.func19, Tryd.ntmps19
  go_wp2
  go_ret
  exact ⟨w.heap.size, rfl, ⟨heap_alloc_new w _, by omega, by omega⟩, Nat.le_refl _, (Kp.refl [] w).alloc _⟩

theorem take_calls (p : Nat) (nx q : Int) (w : World) (hr : IsR w p nx) (hq0 : -9223372036854775808 ≤ q) (hq : q ≤ 9223372036854775807) :
    Calls Tryd.prog 23 #[.pointer (some ⟨p, 0, none⟩), .int .i64 q] w fun e w' => e = .returned (.tuple #[]) ∧ IsR w' p (takeN nx q) ∧ Kp [p] w w' := by
  obtain ⟨hh, h0, h9⟩ := hr
  have hc := cell_heap hh 0
  have hf := free_heap hh 0
  simp only [List.getElem?_toArray, List.getElem?_cons_zero, List.getElem?_cons_succ] at hc
  by_cases h : 0 < nx ∧ nx ≤ q ∧ q ≤ 4294967295
  · have ht : takeN nx q = q + 1 := if_pos h
    have HT := Lib.hid ht
    obtain ⟨h1, h2, h3⟩ := h
    have hs := heap_set (i := 0) (.int .i64 (q + 1)) hh
    clear ht
    go_enter Tryd.func23, Tryd.ntmps23
    go_wp2
    go_end0
    refine ⟨rfl, ?_, (Kp.refl [p] w).setCell (.inl (by simp)) _⟩
    rw [HT.out]
    exact ⟨hs, by omega, by omega⟩
  · have ht : takeN nx q = nx := if_neg h
    have HT := Lib.hid ht
    have hd : decide (0 < nx) = false ∨ decide (0 < nx) = true ∧ decide (nx ≤ q) = false ∨ decide (0 < nx) = true ∧ decide (nx ≤ q) = true ∧ decide (q ≤ 4294967295) = false := by
      simp only [decide_eq_false_iff_not, decide_eq_true_eq]; omega
    clear ht h
    rcases hd with h1 | ⟨h1, h2⟩ | ⟨h1, h2, h3⟩
    all_goals
      go_enter Tryd.func23, Tryd.ntmps23
      go_wp2
      go_end0
      refine ⟨rfl, ?_, Kp.refl _ w⟩
      rw [HT.out]
      exact ⟨hh, h0, h9⟩

theorem ack_ret {Q : Ending → World → Prop} {a : Act} {w : World} {rb : Nat} {cs : Array Value} {fr : Nat × Nat} (h4 : a.tmps.getD 2 undef = .pointer (some ⟨rb, 0, none⟩)) (hd : a.defers = []) (hh : w.heap[rb]? = some (.cells cs 25 fr)) (h5 : cs.size = 5)
    (hQ : Q (.returned (.tuple #[.agg cs, a.tmps.getD 3 undef])) w) : bodyPost Tryd.prog Tryd.f25 Q Exit.ret a w :=
  bodyPost_ret (results_pair rfl _ _ rb _ cs fr _ h4 hh Tryd.underlying25 rfl (by rw [h5]; exact f5size)) hd hQ

theorem ack_calls (p : Nat) (nx : Int) (w : World) (hr : IsR w p nx) :
    Calls Tryd.prog 25 #[.pointer (some ⟨p, 0, none⟩)] w fun e w' => e = .returned (.tuple #[.agg (fcells (ackF nx) (.slice none 0 0) (.slice none 0 0)), .bool (!(nx == 0))]) ∧ Kp [] w w' := by
  obtain ⟨hh, h0, h9⟩ := hr
  have hlt := lt_of_heap hh
  have hk0 := (Kp.refl [] w).alloc (.cells #[.int .i64 0, .int .i64 0, .int .i64 0, .slice none 0 0, .slice none 0 0] 25)
  have hh0 := heap_alloc_new w (.cells #[.int .i64 0, .int .i64 0, .int .i64 0, .slice none 0 0, .slice none 0 0] 25)
  have hc := cell_heap (hk0.heap hh (by simp)) 0
  simp only [List.getElem?_toArray, List.getElem?_cons_zero, List.getElem?_cons_succ] at hc
  have hsz := alloc_lt w (.cells #[.int .i64 0, .int .i64 0, .int .i64 0, .slice none 0 0, .slice none 0 0] 25)
  by_cases h : nx = 0
  · have ha : ackF nx = zeroF := if_pos h
    have HA := Lib.hid ha
    have hb : (nx == 0) = true := by simpa using h
    have hcc : Ending.returned (Value.tuple #[.agg (fcells (ackF nx) (.slice none 0 0) (.slice none 0 0)), .bool (!(nx == 0))]) = .returned (.tuple #[zeroV, .bool false]) := by rw [ha, hb]; rfl
    have HC := Lib.hid hcc
    clear ha h hcc
    go_enter Tryd.func25, Tryd.ntmps25
    go_wp2_with fail
    exact ack_ret rfl rfl (heap_alloc_new w _) rfl ⟨HC.out.symm, (Kp.refl [] w).alloc _⟩
  · have ha : ackF nx = ⟨2, 0, nx - 1, [], []⟩ := if_neg h
    have hb : (nx == 0) = false := by simpa using h
    have hcc : Ending.returned (Value.tuple #[.agg (fcells (ackF nx) (.slice none 0 0) (.slice none 0 0)), .bool (!(nx == 0))]) = .returned (.tuple #[.agg #[.int .i64 2, .int .i64 0, .int .i64 (nx - 1), .slice none 0 0, .slice none 0 0], .bool true]) := by rw [ha, hb]; rfl
    have HC := Lib.hid hcc
    have h1 : 1 ≤ nx := by omega
    clear ha h hcc
    go_enter Tryd.func25, Tryd.ntmps25
    go_wp2_with fail
    exact ack_ret rfl rfl (heap_alloc_new w _) rfl ⟨HC.out.symm, (Kp.refl [] w).alloc _⟩
end Go.Proofs.YtddpefbpiehgeaaDoor

/- The link: a receiver's answer. -/
namespace Go.Proofs.YtddpefbpiehgeaaDoor
open Go Go.RowKit
set_option maxRecDepth 100000
set_option linter.unusedVariables false
set_option linter.unusedSectionVars false
set_option linter.unusedSimpArgs false

theorem iteminfo : (Tryd.prog.info? 51).map (fun i => (i.zero, i.size, i.bytes)) = some (some (.agg #[.int .i64 0, .slice none 0 0]), 2, 32) := by kernel_rfl

theorem gotItems_snoc (nx : Int) (f : Fr) (b : List UInt8) : ∀ (l : List (List UInt8)) (i : Nat), gotItems nx f i (l ++ [b]) = gotItems nx f i l ++ (if nx ≤ f.b + ((i + l.length : Nat) : Int) then [⟨f.b + ((i + l.length : Nat) : Int), b⟩] else [])
  | [], i => by simp [gotItems]
  | x :: l, i => by
    rw [List.cons_append, gotItems, gotItems, gotItems_snoc nx f b l (i + 1), List.append_assoc, List.length_cons, show i + 1 + l.length = i + (l.length + 1) by omega]
theorem gotItems_len (nx : Int) (f : Fr) : ∀ (l : List (List UInt8)) (i : Nat), (gotItems nx f i l).length ≤ l.length
  | [], i => by simp [gotItems]
  | x :: l, i => by
    have := gotItems_len nx f l (i + 1)
    rw [gotItems, List.length_append, List.length_cons]
    split <;> simp <;> omega

/-- What Got hands back. -/
def RetG (r : Int × List It) (p : Nat) (w : World) (e : Ending) (w' : World) : Prop :=
  ∃ v cs, e = .returned v ∧ Own w' w.heap.size 51 2 v r.2.length cs ∧ ItC (w.heap.size ≤ ·) w' cs r.2 ∧ IsR w' p r.1 ∧ Kp [p] w w'

theorem got_not (p : Nat) (nx : Int) (f : Fr) (iv tv : Value) (w : World) (hr : IsR w p nx) (hi : Rws w iv f.its) (ht : Bs w tv f.t) (hn : f.its.length ≤ 100000000000000) (hnt : f.t.length ≤ 140737488352000) (hb : f.b ≤ 9223372036854775807) (hno : ¬ (f.k = 1 ∧ mayB f = true)) :
    Calls Tryd.prog 20 #[.pointer (some ⟨p, 0, none⟩), .agg (fcells f iv tv)] w (RetG (got nx f) p w) := by
  have hg : got nx f = (nx, []) := by unfold got; rw [if_neg hno]
  rw [hg]
  obtain ⟨ia, ic, rfl, hic⟩ := hi.form
  obtain ⟨ta, tc, rfl, -⟩ := Sl.form ht
  have him := may_calls f _ _ (w.alloc (.cells (fcells f (.slice ia f.its.length ic) (.slice ta f.t.length tc)) 25)) (hi.kp0 ((Kp.refl [] w).alloc _)) (ht.kp0 ((Kp.refl [] w).alloc _)) hn hnt hb
  have hk0 := (Kp.refl [] w).alloc (.cells (fcells f (.slice ia f.its.length ic) (.slice ta f.t.length tc)) 25)
  have hp : p < w.heap.size := lt_of_heap hr.1
  unfold fcells at him hk0 ⊢
  have HIM := Lib.hid him
  clear him hg
  by_cases hk : f.k = 1
  · have hm : mayB f = false := by
      cases h : mayB f with
      | false => rfl
      | true => exact absurd ⟨hk, h⟩ hno
    rw [hm] at HIM
    have hb1 : (f.k != 1) = false := by simp [hk]
    clear hk hm hno
    go_enter Tryd.func20, Tryd.ntmps20
    go_wp2_with (go_at_call 31; (with_reducible refine HIM.out.mono ?_); rintro e w1 ⟨rfl, hk1⟩)
    go_ret
    exact ⟨_, [], rfl, Own.nil _ _ _ _, ItC.nil _ _, hr.kp (hk0.trans hk1) (by simp), (hk0.trans hk1).nil⟩
  · have hb1 : (f.k != 1) = true := by simpa using hk
    clear hk hno
    go_enter Tryd.func20, Tryd.ntmps20
    go_wp2_with fail
    go_ret
    exact ⟨_, [], rfl, Own.nil _ _ _ _, ItC.nil _ _, hr.kp hk0 (by simp), hk0.nil⟩

set_option maxHeartbeats 1000000 in
theorem got_is (p : Nat) (nx NX : Int) (f : Fr) (iv tv : Value) (w : World) (P : Nat → Prop) (hP : ¬ P p) (hr : IsR w p nx) (hi : RwP P w iv f.its) (ht : Bs w tv f.t) (hk : f.k = 1) (hm : mayB f = true) (hNX : (if nx < f.a then f.a else nx) = NX) :
    Calls Tryd.prog 20 #[.pointer (some ⟨p, 0, none⟩), .agg (fcells f iv tv)] w (RetG (got nx f) p w) := by
  obtain ⟨ht0, hx, hn1, hn8, ha1, hab, hb9⟩ := may_1 hm hk
  have hg : got nx f = (NX, if NX < f.b then [] else gotItems NX f 0 f.its) := by unfold got nextOf; rw [if_pos ⟨hk, hm⟩, hNX]
  have HG := Lib.hid hg
  have hN0 : 0 ≤ NX ∧ NX ≤ 4294967296 ∧ 1 ≤ NX := by have := hr.2; omega
  obtain ⟨ia, ic, rfl, hic⟩ := hi.rws.form
  obtain ⟨ta, tc, rfl, -⟩ := Sl.form ht
  have him := may_calls f _ _ (w.alloc (.cells (fcells f (.slice ia f.its.length ic) (.slice ta f.t.length tc)) 25)) (hi.rws.kp0 ((Kp.refl [] w).alloc _)) (ht.kp0 ((Kp.refl [] w).alloc _)) (by omega) (by rw [ht0]; simp) (by omega)
  have hk0 := (Kp.refl [] w).alloc (.cells (fcells f (.slice ia f.its.length ic) (.slice ta f.t.length tc)) 25)
  have hh0 := heap_alloc_new w (.cells (fcells f (.slice ia f.its.length ic) (.slice ta f.t.length tc)) 25)
  have hsz0 := alloc_lt w (.cells (fcells f (.slice ia f.its.length ic) (.slice ta f.t.length tc)) 25)
  have hp : p < w.heap.size := lt_of_heap hr.1
  rw [hm] at him
  unfold fcells at him hk0 hh0 hsz0 ⊢
  have HIM := Lib.hid him
  have HT0 := Lib.hid ht0
  have HX := Lib.hid hx
  have HNX := Lib.hid hNX
  have hb1 : (f.k != 1) = false := by simp [hk]
  have hk9 : f.k ≤ 1 := by omega
  clear him hg ht0 hx hm hk hNX
  obtain ⟨hrh, hr0, hr9⟩ := hr
  go_enter Tryd.func20, Tryd.ntmps20
  go_wp2_with (go_at_call 31; (with_reducible refine HIM.out.mono ?_); rintro e w1 ⟨rfl, hk1⟩; generalize w.alloc (.cells #[.int .i64 f.k, .int .i64 f.a, .int .i64 f.b, .slice ia f.its.length ic, .slice ta f.t.length tc] 25) = w0 at *; have hkw1 := hk0.trans hk1; have hh1 := hk1.heap hh0 (by simp); have hr1 := hkw1.heap hrh (by simp); obtain ⟨c0, c1, c2, c3, c4⟩ := cells5 hh1; have cp := cell_heap hr1 0; have fp := free_heap hr1 0; simp only [List.getElem?_toArray, List.getElem?_cons_zero] at cp)
  have hlt1 := lt_of_heap hh1
  have hS : Gr w1 [p, w.heap.size] w1.drew := Gr.of (fun _ _ => rfl)
  refine wp_plan (.H 0 (.H 1 (.H 2 (.H 3 (.H 4 (.H 5 (.H 6 (.H 7 (.E 8 false (.E 9 false (.E 10 false .Z))))))))))) (Gr w1 [p, w.heap.size]) (by as_aux_lemma => kernel_rfl) (by as_aux_lemma => kernel_rfl) ?_
  repeat (first | (refine plan_H rfl hS (fun K hK => ?_); go_simp; refine hK _ ?_; clear hK K) | (refine plan_E rfl (fun K hK => ?_); go_simp; (first | refine hK _ _ (fun _ => hS) ?_ | refine hK _ _ nofun ?_); clear hK K))
  refine plan_Z ?_
  rw [HNX.out]
  have hh2 : (w1.setCell ⟨p, 0, none⟩ (.int .i64 NX)).heap[w.heap.size]? = _ := (hset _ _ _ _ (by simp; omega)).trans hh1
  have hr2 := heap_set (i := 0) (.int .i64 NX) hr1
  simp only [List.setIfInBounds_toArray, List.set_cons_succ, List.set_cons_zero] at hr2
  have hk2 : Kp [p] w (w1.setCell ⟨p, 0, none⟩ (.int .i64 NX)) := hkw1.nil.setCell (.inl (by simp)) _
  clear c0 c1 c2 c3 c4 cp fp hS
  generalize w1.setCell ⟨p, 0, none⟩ (.int .i64 NX) = w2 at *
  obtain ⟨c0, c1, c2, c3, c4⟩ := cells5 hh2
  have cp := cell_heap hr2 0
  simp only [List.getElem?_toArray, List.getElem?_cons_zero] at cp
  have hS : Gr w2 [p, w.heap.size] w2.drew.drew := Gr.of (fun _ _ => rfl)
  by_cases hlt : NX < f.b
  · have hd : decide (NX < f.b) = true := by simpa using hlt
    rw [if_pos hlt] at HG
    clear hlt
    go_wp2_with fail
    refine wp_plan (.H 0 (.H 1 (.H 2 (.H 3 (.H 4 (.H 5 (.E 6 false .Z))))))) (Gr w2 [p, w.heap.size]) (by as_aux_lemma => kernel_rfl) (by as_aux_lemma => kernel_rfl) ?_
    repeat (first | (refine plan_H rfl hS (fun K hK => ?_); go_simp; refine hK _ ?_; clear hK K) | (refine plan_E rfl (fun K hK => ?_); go_simp; (first | refine hK _ _ (fun _ => hS) ?_ | refine hK _ _ nofun ?_); clear hK K))
    refine plan_Z ?_
    go_wp2
    go_ret
    rw [HG.out]
    exact ⟨_, [], rfl, Own.nil _ _ _ _, ItC.nil _ _, ⟨hr2, by omega, by omega⟩, (hk2.drew).drew⟩
  · have hd : decide (NX < f.b) = false := by simpa using hlt
    rw [if_neg hlt] at HG
    have hge : f.b ≤ NX := by omega
    clear hlt
    go_wp2_with fail
    refine wp_plan (.H 0 (.H 1 (.H 2 (.H 3 (.H 4 (.H 5 (.E 6 false .Z))))))) (Gr w2 [p, w.heap.size]) (by as_aux_lemma => kernel_rfl) (by as_aux_lemma => kernel_rfl) ?_
    repeat (first | (refine plan_H rfl hS (fun K hK => ?_); go_simp; refine hK _ ?_; clear hK K) | (refine plan_E rfl (fun K hK => ?_); go_simp; (first | refine hK _ _ (fun _ => hS) ?_ | refine hK _ _ nofun ?_); clear hK K))
    refine plan_Z ?_
    go_wp2_with fail
    have hi2 : RwP P w2 (.slice ia f.its.length ic) f.its := hi.kp hk2 (fun g hg hm => hP (by simp at hm; rw [← hm]; exact hg))
    have hs2 := hk2.size
    have hlt2 := lt_of_heap hh2
    have hltp := lt_of_heap hr2
    clear c0 c1 c2 c3 c4 cp hS hi hd
    go_loopw [5, 37] (fun v5 v37 wr => ∃ (n : Nat) (cs : List Value), n ≤ f.its.length ∧ v37 = .int .i64 n ∧ Own wr w2.heap.size 51 2 v5 (gotItems NX f 0 (f.its.take n)).length cs ∧ ItO wr w2.heap.size cs (gotItems NX f 0 (f.its.take n)) ∧ Kp [] w2 wr) (fun _ v37 _ => f.its.length - (intOf v37).toNat)
    case atStart => exact ⟨0, [], by omega, rfl, Own.nil _ _ _ _, ItO.nil _ _, ((Kp.refl [] w2).drew).drew⟩
    case round =>
      obtain ⟨n, cs, hnl, rfl, hown, hitc, hkr⟩ := hrel
      have hhr := hkr.heap hh2 (by simp)
      have hrr := hkr.heap hr2 (by simp)
      obtain ⟨c0, c1, c2, c3, c4⟩ := cells5 hhr
      have cp := cell_heap hrr 0
      simp only [List.getElem?_toArray, List.getElem?_cons_zero] at cp
      by_cases hlt : n < f.its.length
      · obtain ⟨oa, oc, rfl⟩ := own_form hown
        obtain ⟨ib, io, ua, uc, rfl, hib, hcell, hbx⟩ := (hi2.kp hkr (by simp)).rws.at n hlt
        have hx := HX.out f.its[n] (List.getElem_mem hlt)
        have hsn := gotItems_snoc NX f f.its[n] (f.its.take n) 0
        rw [← List.take_succ_eq_append_getElem hlt, List.length_take, Nat.min_eq_left (by omega), Nat.zero_add] at hsn
        have hgl := gotItems_len NX f (f.its.take n) 0
        rw [List.length_take] at hgl
        generalize f.its[n] = x at *
        have i0 : (0 : Int) ≤ n ∧ (n : Int) < f.its.length := by omega
        have hn8' : (n : Int) ≤ 8 := by omega
        by_cases hc : NX ≤ f.b + n
        · rw [if_pos hc] at hsn
          have hd : decide (NX ≤ f.b + (n : Int)) = true := by simpa using hc
          have HSN := Lib.hid hsn
          have hgl8 : (gotItems NX f 0 (f.its.take n)).length ≤ 8 := by omega
          clear hsn hc hgl
          generalize gotItems NX f 0 (f.its.take n) = G at *
          obtain ⟨i0, hi, hz0, hz1, hz2⟩ := info_parts u8info
          go_wp2_with (with_reducible refine stop_app ?_)
          unfold Stop
          refine wpList_app _ rfl _ _ 23 23 rfl wr.heap.size 5 i0 _ 1 1 Tryd.underlying23 hi hz0 hz1 hz2 rfl (by omega) (.slice none 0 0) 0 [] rfl (Own.nil _ _ _ _) (.slice ua x.length uc) _ _ rfl (Src.of_sl Tryd.underlying23 hbx bcells_one) (by omega) (by omega) (Nat.le_refl _) ?_
          intro v3 w3 ho3 hg3 hx3
          rw [Nat.zero_add, List.nil_append] at ho3
          obtain ⟨xa, xc, rfl⟩ := own_form ho3
          have hk3 : Kp [] wr w3 := (Kp.refl [] wr).grown hg3 nofun
          obtain ⟨i0, hi, hz0, hz1, hz2⟩ := info_parts iteminfo
          go_wp2_with (with_reducible refine stop_app ?_)
          unfold Stop
          have hk4 : Kp [] wr (w3.alloc (.cells #[.int .i64 (f.b + n), .slice xa x.length xc] 51)) := hk3.alloc _
          have hown4 := own_kp hown hk4 (by simp)
          refine wpList_app _ rfl _ _ 46 46 rfl w2.heap.size 51 i0 _ 2 32 Tryd.underlying46 hi hz0 hz1 hz2 rfl (by omega) (.slice oa G.length oc) G.length cs rfl hown4 (.slice (some ⟨w3.heap.size, 0, none⟩) 1 1) 1 [.int .i64 (f.b + n), .slice xa x.length xc] rfl (Src.of_sl Tryd.underlying46 (sl_alloc w3 51 _ _ rfl 2 1 rfl) (by simp [Value.oneCell'])) (by omega) (by omega) (by have := hkr.size; have := hk4.size; omega) ?_
          intro v5 w5 ho5 hg5 hx5
          obtain ⟨a5, c5, rfl⟩ := own_form ho5
          have hk5 : Kp (Value.slice oa G.length oc).ownBlock.toList w3 w5 := ((Kp.refl _ w3).alloc _).grown hg5 (fun q hq => .inl (by simp [hq]))
          have hown3 := own_kp hown hk3 (by simp)
          have hob3 : OB w5 5 w2.heap.size (.slice xa x.length xc) x := own_base (own_kp ho3 hk5 (fun q hq hm => own_ne ho3 hown3 (by decide) q hq (by simpa using hm))) (fun q hq => by have := (Own.lt ho3 q hq).1; have := hkr.size; omega)
          have hit5 := ((hitc.kp hk3 (by simp)).row hown3 (by decide) hk5).snoc (x := ⟨f.b + n, x⟩) hob3
          have hkr5 : Kp [] w2 w5 := (hkr.trans hk3).trans' hk5 (fun q hq => .inr (hown.lt q (by simpa using hq)).1)
          have HO5 := Lib.hid ho5
          have HI5 := Lib.hid hit5
          have HK5 := Lib.hid hkr5
          clear ho5 hit5 hkr5 hob3 hown3 hk5 hown4 hk4 hk3 ho3
          go_wp2
          go_roundw
          case measure => simp [intOf]; omega
          case rel => exact ⟨n + 1, _, by omega, by go_num, by rw [HSN.out, List.length_append]; exact HO5.out, by rw [HSN.out]; exact HI5.out, HK5.out⟩
        · rw [if_neg hc, List.append_nil] at hsn
          have hd : decide (NX ≤ f.b + (n : Int)) = false := by simpa using hc
          have HSN := Lib.hid hsn
          clear hsn hc hgl
          generalize gotItems NX f 0 (f.its.take n) = G at *
          go_wp2_with fail
          go_roundw
          case measure => simp [intOf]; omega
          case rel => exact ⟨n + 1, cs, by omega, by go_num, by rw [HSN.out]; exact hown, by rw [HSN.out]; exact hitc, hkr⟩
      · have hd : decide ((n : Int) < (f.its.length : Int)) = false := by rw [decide_eq_false_iff_not]; omega
        rw [List.take_of_length_le (by omega)] at hown hitc
        obtain ⟨oa, oc, rfl⟩ := own_form hown
        have hown' := own_base (base' := w.heap.size) hown (fun q hq => by have := (hown.lt q hq).1; omega)
        go_wp2_with fail
        go_ret
        rw [HG.out]
        exact ⟨_, cs, rfl, hown', hitc.itc.mono (fun g (hg : w2.heap.size ≤ g) => (by omega : w.heap.size ≤ g)), ⟨hrr, by omega, by omega⟩, hk2.trans hkr.nil⟩
end Go.Proofs.YtddpefbpiehgeaaDoor

