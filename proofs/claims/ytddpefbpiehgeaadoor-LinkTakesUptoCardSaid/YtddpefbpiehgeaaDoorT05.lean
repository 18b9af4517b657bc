/- The link: a frame's bytes, Make. -/
import Derived.Test.YtddpefbpiehgeaaDoorT04
namespace Go.Proofs.YtddpefbpiehgeaaDoor
open Go Go.RowKit
set_option maxRecDepth 100000
set_option linter.unusedVariables false
set_option linter.unusedSectionVars false
set_option linter.unusedSimpArgs false

/-- A writer that came about after w0, and holds l. -/
def WR (w0 : World) (p : Nat) (l : List UInt8) (w : World) : Prop := IsWr w w0.heap.size p l ∧ Below w0.heap.size w0 w ∧ w0.heap.size ≤ w.heap.size

theorem WR.kp {w0 w : World} {p : Nat} {l : List UInt8} (h : WR w0 p l w) : Kp [] w0 w := Kp.ofBelow h.2.1

theorem wr_new (w0 : World) : Calls Tryd.prog 55 #[] w0 fun e w' => ∃ p, e = .returned (.pointer (some ⟨p, 0, none⟩)) ∧ WR w0 p [] w' :=
  (newWriter_calls w0).mono fun e w' ⟨p, he, hw, hk⟩ => ⟨p, he, hw, hk.below (Nat.le_refl _) (by simp), hk.size⟩

theorem wr_num (w0 : World) (p : Nat) (l : List UInt8) (n s : Int) (w : World) (hw : WR w0 p l w) (hlen : l.length ≤ 100000000000000) (h0 : 0 ≤ n) (h9 : n ≤ 9223372036854775807) (h1 : 1 ≤ s) (h8 : s ≤ 8) (hf : n.toNat < 256 ^ s.toNat) :
    Calls Tryd.prog 56 #[.pointer (some ⟨p, 0, none⟩), .int .i64 n, .int .i64 s] w fun e w' => e = .returned (.tuple #[]) ∧ WR w0 p (l ++ dig n.toNat s.toNat) w' :=
  (number_calls _ p l n s w hw.1 hw.2.2 hlen h0 h9 h1 h8 hf).mono fun e w' ⟨he, hw', hb⟩ => ⟨he, hw', hw.2.1.trans hb, (Kp.ofBelow (hw.2.1.trans hb)).size⟩

theorem wr_count (w0 : World) (p : Nat) (l : List UInt8) (n : Int) (w : World) (hw : WR w0 p l w) (hlen : l.length ≤ 100000000000000) (h0 : 0 ≤ n) (hf : n ≤ 65535) :
    Calls Tryd.prog 57 #[.pointer (some ⟨p, 0, none⟩), .int .i64 n] w fun e w' => e = .returned (.tuple #[]) ∧ WR w0 p (l ++ dig n.toNat 2) w' :=
  (count_calls _ p l n w hw.1 hw.2.2 hlen h0 hf).mono fun e w' ⟨he, hw', hb⟩ => ⟨he, hw', hw.2.1.trans hb, (Kp.ofBelow (hw.2.1.trans hb)).size⟩

/-- A text: its length, its bytes. -/
def txt (l : List UInt8) : List UInt8 := dig l.length 2 ++ l
theorem wr_text (w0 : World) (p : Nat) (l x : List UInt8) (w : World) (hw : WR w0 p l w) (hlen : l.length ≤ 100000000000000) (hx : x.length ≤ 65535) :
    Calls Tryd.prog 58 #[.pointer (some ⟨p, 0, none⟩), .string ⟨x.toArray⟩] w fun e w' => e = .returned (.tuple #[]) ∧ WR w0 p (l ++ txt x) w' :=
  (text_calls _ p l ⟨x.toArray⟩ w hw.1 hw.2.2 hlen (by simpa [ByteArray.size] using hx)).mono fun e w' ⟨he, hw', hb⟩ => ⟨he, by simpa [txt, ByteArray.size] using hw', hw.2.1.trans hb, (Kp.ofBelow (hw.2.1.trans hb)).size⟩

theorem wr_bytes (w0 : World) (p : Nat) (l : List UInt8) (w : World) (hw : WR w0 p l w) (hlen : l.length ≤ 100000000000000) :
    Calls Tryd.prog 59 #[.pointer (some ⟨p, 0, none⟩)] w (RetB w.heap.size l 0 w) := bytes_calls _ p l w hw.1 hlen

theorem b2sc {w : World} {v : Value} {l : List UInt8} (h : Bs w v l) : (convert 23 9 v).run Tryd.prog w = .ok (.string ⟨l.toArray⟩) w :=
  b2s h 23 9 5 Tryd.underlying23 Tryd.underlying5 Tryd.underlying9

/-- A frame's bytes. -/
def itsBytes (its : List (List UInt8)) : List UInt8 := its.flatMap txt
theorem itsBytes_snoc (its : List (List UInt8)) (n : Nat) (h : n < its.length) : itsBytes (its.take (n + 1)) = itsBytes (its.take n) ++ txt its[n] := by
  unfold itsBytes
  rw [List.take_succ_eq_append_getElem h, List.flatMap_append, List.flatMap_singleton]
def frameBytes (f : Fr) : List UInt8 :=
  dig f.k.toNat 1 ++ (if f.k = 1 then dig f.a.toNat 8 ++ (dig f.b.toNat 8 ++ (dig f.its.length 2 ++ itsBytes f.its))
    else if f.k = 4 then txt f.t else dig f.b.toNat 8)

/-- What holds of a frame that may be. -/
theorem may_1 {f : Fr} (h : mayB f = true) (hk : f.k = 1) : f.t = [] ∧ (∀ x ∈ f.its, x.length ≤ 256) ∧ 1 ≤ f.its.length ∧ f.its.length ≤ 8 ∧ 1 ≤ f.a ∧ f.a ≤ f.b ∧ f.b ≤ 4294967295 - f.its.length + 1 := by
  simp [mayB, hk, itemsMayB] at h
  obtain ⟨h1, h2, h3, h4, h5, h6, h7⟩ := h
  exact ⟨h1, h2, by omega, h4, h5, h6, h7⟩
theorem may_k {f : Fr} (h : mayB f = true) : f.k = 1 ∨ (f.k = 2 ∨ f.k = 3) ∧ f.a = 0 ∧ f.its = [] ∧ f.t = [] ∧ 0 ≤ f.b ∧ f.b ≤ 4294967295 ∨ f.k = 4 ∧ f.a = 0 ∧ f.its = [] ∧ f.b = 0 ∧ f.t.length ≤ 16100 := by
  unfold mayB at h
  split at h
  · exact .inl (by assumption)
  · split at h
    · simp [bareB] at h
      obtain ⟨⟨h1, h2⟩, h3, h4, h5⟩ := h
      exact .inr (.inl ⟨.inl (by assumption), h1, h2, h3, h4, h5⟩)
    · split at h
      · simp [bareB] at h
        obtain ⟨⟨h1, h2⟩, h3, h4, h5⟩ := h
        exact .inr (.inl ⟨.inr (by assumption), h1, h2, h3, h4, by omega⟩)
      · split at h
        · simp [bareB] at h
          obtain ⟨⟨h1, h2⟩, h3, h4⟩ := h
          exact .inr (.inr ⟨by assumption, h1, h2, h3, by omega⟩)
        · cases h

theorem cells5 {w : World} {b : Nat} {a0 a1 a2 a3 a4 : Value} {T : TypeId} {fr : Nat × Nat} (h : w.heap[b]? = some (.cells #[a0, a1, a2, a3, a4] T fr)) :
    w.cell? ⟨b, 0, none⟩ = some a0 ∧ w.cell? ⟨b, 1, none⟩ = some a1 ∧ w.cell? ⟨b, 2, none⟩ = some a2 ∧ w.cell? ⟨b, 3, none⟩ = some a3 ∧ w.cell? ⟨b, 4, none⟩ = some a4 :=
  ⟨cell_heap h 0, cell_heap h 1, cell_heap h 2, cell_heap h 3, cell_heap h 4⟩

set_option maxHeartbeats 1000000 in
theorem fbytes_23 (f : Fr) (iv tv : Value) (w : World) (hk : f.k = 2 ∨ f.k = 3) (h0 : 0 ≤ f.b) (h9 : f.b ≤ 4294967295) (hi : Rws w iv f.its) (ht : Bs w tv f.t) :
    Calls Tryd.prog 33 #[.agg (fcells f iv tv)] w fun e w' => ∃ v, e = .returned v ∧ OB w' 5 w.heap.size v (frameBytes f) ∧ Kp [] w w' := by
  obtain ⟨ia, ic, rfl, hic⟩ := hi.form
  obtain ⟨ta, tc, rfl, -⟩ := Sl.form ht
  obtain ⟨k, fa, fb, its, t⟩ := f
  simp only at *
  have hfb : frameBytes ⟨k, fa, fb, its, t⟩ = dig k.toNat 1 ++ dig fb.toNat 8 := by
    rcases hk with rfl | rfl <;> rfl
  have HF := Lib.hid hfb
  have hk1 : (k == 1) = false := by simp; omega
  have hk4 : (k == 4) = false := by simp; omega
  have hkb : 0 ≤ k ∧ k ≤ 3 := by omega
  clear hfb hk
  unfold fcells
  go_enter Tryd.func33, Tryd.ntmps33
  go_wp2_with fail
  have hka := (Kp.refl [] w).alloc (.cells #[.int .i64 k, .int .i64 fa, .int .i64 fb, .slice ia its.length ic, .slice ta t.length tc] 25)
  have hh0 := heap_alloc_new w (.cells #[.int .i64 k, .int .i64 fa, .int .i64 fb, .slice ia its.length ic, .slice ta t.length tc] 25)
  have hsz := World.size_alloc w (.cells #[.int .i64 k, .int .i64 fa, .int .i64 fb, .slice ia its.length ic, .slice ta t.length tc] 25)
  generalize w.alloc (.cells #[.int .i64 k, .int .i64 fa, .int .i64 fb, .slice ia its.length ic, .slice ta t.length tc] 25) = w0 at *
  refine (wr_new w0).mono ?_
  rintro e w1 ⟨p, rfl, hw1⟩
  obtain ⟨c1_0, c1_1, c1_2, c1_3, c1_4⟩ := cells5 (hw1.kp.heap hh0 (by simp))
  go_wp2_with (first
    | (go_at_call 56; (with_reducible refine (wr_num w0 p [] k 1 _ hw1 (by simp) (by omega) (by omega) (by omega) (by omega) (by simp; omega)).mono ?_); rintro e w2 ⟨rfl, hw2⟩; obtain ⟨c2_0, c2_1, c2_2, c2_3, c2_4⟩ := cells5 (hw2.kp.heap hh0 (by simp)))
    | (go_at_call 56; (with_reducible refine (wr_num w0 p _ fb 8 _ hw2 (by simp) (by omega) (by omega) (by omega) (by omega) (by simp; omega)).mono ?_); rintro e w3 ⟨rfl, hw3⟩)
    | (go_at_call 59; (with_reducible refine (wr_bytes w0 p _ _ hw3 (by simp)).mono ?_); rintro e w4 ⟨v4, rfl, ho4, hk4⟩; obtain ⟨a4, c4, rfl⟩ := own_form ho4))
  go_ret
  refine ⟨_, rfl, ?_, hka.trans (hw3.kp.trans hk4)⟩
  rw [HF.out]
  exact own_base ho4 (fun b hb => Nat.le_trans (hka.trans hw3.kp).size (ho4.lt b hb).1)

set_option maxHeartbeats 1000000 in
theorem fbytes_4 (f : Fr) (iv tv : Value) (w : World) (hk : f.k = 4) (ht9 : f.t.length ≤ 65535) (hi : Rws w iv f.its) (ht : Bs w tv f.t) :
    Calls Tryd.prog 33 #[.agg (fcells f iv tv)] w fun e w' => ∃ v, e = .returned v ∧ OB w' 5 w.heap.size v (frameBytes f) ∧ Kp [] w w' := by
  obtain ⟨ia, ic, rfl, hic⟩ := hi.form
  obtain ⟨ta, tc, rfl, -⟩ := Sl.form ht
  obtain ⟨k, fa, fb, its, t⟩ := f
  simp only at *
  have hfb : frameBytes ⟨k, fa, fb, its, t⟩ = dig k.toNat 1 ++ txt t := by subst hk; rfl
  have HF := Lib.hid hfb
  have hk1 : (k == 1) = false := by simp; omega
  have hk4 : (k == 4) = true := by simp; omega
  have hkb : 0 ≤ k ∧ k ≤ 4 := by omega
  clear hfb hk
  unfold fcells
  go_enter Tryd.func33, Tryd.ntmps33
  go_wp2_with fail
  have hka := (Kp.refl [] w).alloc (.cells #[.int .i64 k, .int .i64 fa, .int .i64 fb, .slice ia its.length ic, .slice ta t.length tc] 25)
  have hh0 := heap_alloc_new w (.cells #[.int .i64 k, .int .i64 fa, .int .i64 fb, .slice ia its.length ic, .slice ta t.length tc] 25)
  have hsz := World.size_alloc w (.cells #[.int .i64 k, .int .i64 fa, .int .i64 fb, .slice ia its.length ic, .slice ta t.length tc] 25)
  generalize w.alloc (.cells #[.int .i64 k, .int .i64 fa, .int .i64 fb, .slice ia its.length ic, .slice ta t.length tc] 25) = w0 at *
  refine (wr_new w0).mono ?_
  rintro e w1 ⟨p, rfl, hw1⟩
  obtain ⟨c1_0, c1_1, c1_2, c1_3, c1_4⟩ := cells5 (hw1.kp.heap hh0 (by simp))
  go_wp2_with (first
    | (go_at_call 56; (with_reducible refine (wr_num w0 p [] k 1 _ hw1 (by simp) (by omega) (by omega) (by omega) (by omega) (by simp; omega)).mono ?_); rintro e w2 ⟨rfl, hw2⟩; obtain ⟨c2_0, c2_1, c2_2, c2_3, c2_4⟩ := cells5 (hw2.kp.heap hh0 (by simp)); have hcv := b2sc (ht.kp0 (hka.trans hw2.kp)))
    | (go_at_call 58; (with_reducible refine (wr_text w0 p _ t _ hw2 (by simp) ht9).mono ?_); rintro e w3 ⟨rfl, hw3⟩; obtain ⟨l3, hl3⟩ : ∃ l3, l3 = [] ++ dig k.toNat (Int.toNat 1) ++ txt t := ⟨_, rfl⟩; rw [← hl3] at hw3; have HL3 := Lib.hid hl3; have hl3n : l3.length ≤ 100000000 := (by rw [hl3]; simp [txt]; omega); clear hl3)
    | (go_at_call 59; (with_reducible refine (wr_bytes w0 p _ _ hw3 (by omega)).mono ?_); rintro e w4 ⟨v4, rfl, ho4, hk4⟩; obtain ⟨a4, c4, rfl⟩ := own_form ho4))
  go_ret
  refine ⟨_, rfl, ?_, hka.trans (hw3.kp.trans hk4)⟩
  rw [HF.out, show dig k.toNat 1 ++ txt t = l3 from HL3.out.symm]
  exact own_base ho4 (fun b hb => Nat.le_trans (hka.trans hw3.kp).size (ho4.lt b hb).1)

set_option maxHeartbeats 1000000 in
theorem fbytes_1 (f : Fr) (iv tv : Value) (w : World) (hk : f.k = 1) (h1 : ∀ x ∈ f.its, x.length ≤ 256) (hn : f.its.length ≤ 8) (ha0 : 1 ≤ f.a) (ha : f.a ≤ 4294967296) (hb0 : 0 ≤ f.b) (hb9 : f.b ≤ 4294967296) (hi : Rws w iv f.its) (ht : Bs w tv f.t) :
    Calls Tryd.prog 33 #[.agg (fcells f iv tv)] w fun e w' => ∃ v, e = .returned v ∧ OB w' 5 w.heap.size v (frameBytes f) ∧ Kp [] w w' := by
  obtain ⟨ia, ic, rfl, hic⟩ := hi.form
  obtain ⟨ta, tc, rfl, -⟩ := Sl.form ht
  obtain ⟨k, fa, fb, its, t⟩ := f
  simp only at *
  have hfb : frameBytes ⟨k, fa, fb, its, t⟩ = dig k.toNat 1 ++ (dig fa.toNat 8 ++ (dig fb.toNat 8 ++ (dig its.length 2 ++ itsBytes its))) := by subst hk; rfl
  have HF := Lib.hid hfb
  have hk1 : (k == 1) = true := by simp; omega
  have hkb : 0 ≤ k ∧ k ≤ 4 := by omega
  clear hfb hk
  unfold fcells
  go_enter Tryd.func33, Tryd.ntmps33
  go_wp2_with fail
  have hka := (Kp.refl [] w).alloc (.cells #[.int .i64 k, .int .i64 fa, .int .i64 fb, .slice ia its.length ic, .slice ta t.length tc] 25)
  have hh0 := heap_alloc_new w (.cells #[.int .i64 k, .int .i64 fa, .int .i64 fb, .slice ia its.length ic, .slice ta t.length tc] 25)
  have hsz := World.size_alloc w (.cells #[.int .i64 k, .int .i64 fa, .int .i64 fb, .slice ia its.length ic, .slice ta t.length tc] 25)
  generalize w.alloc (.cells #[.int .i64 k, .int .i64 fa, .int .i64 fb, .slice ia its.length ic, .slice ta t.length tc] 25) = w0 at *
  refine (wr_new w0).mono ?_
  rintro e w1 ⟨p, rfl, hw1⟩
  obtain ⟨c1_0, c1_1, c1_2, c1_3, c1_4⟩ := cells5 (hw1.kp.heap hh0 (by simp))
  go_wp2_with (first
    | (go_at_call 56; (with_reducible refine (wr_num w0 p [] k 1 _ hw1 (by simp) (by omega) (by omega) (by omega) (by omega) (by simp; omega)).mono ?_); rintro e w2 ⟨rfl, hw2⟩; obtain ⟨c2_0, c2_1, c2_2, c2_3, c2_4⟩ := cells5 (hw2.kp.heap hh0 (by simp)))
    | (go_at_call 56; (with_reducible refine (wr_num w0 p _ fa 8 _ hw2 (by simp) (by omega) (by omega) (by omega) (by omega) (by simp; omega)).mono ?_); rintro e w3 ⟨rfl, hw3⟩; obtain ⟨c3_0, c3_1, c3_2, c3_3, c3_4⟩ := cells5 (hw3.kp.heap hh0 (by simp)))
    | (go_at_call 56; (with_reducible refine (wr_num w0 p _ fb 8 _ hw3 (by simp) (by omega) (by omega) (by omega) (by omega) (by simp; omega)).mono ?_); rintro e w4 ⟨rfl, hw4⟩; obtain ⟨c4_0, c4_1, c4_2, c4_3, c4_4⟩ := cells5 (hw4.kp.heap hh0 (by simp)))
    | (go_at_call 57; (with_reducible refine (wr_count w0 p _ its.length _ hw4 (by simp) (by omega) (by omega)).mono ?_); rintro e w5 ⟨rfl, hw5⟩; obtain ⟨c5_0, c5_1, c5_2, c5_3, c5_4⟩ := cells5 (hw5.kp.heap hh0 (by simp))))
  obtain ⟨pre, hpre⟩ : ∃ l, l = [] ++ dig k.toNat (Int.toNat 1) ++ dig fa.toNat (Int.toNat 8) ++ dig fb.toNat (Int.toNat 8) ++ dig ((its.length : Int)).toNat 2 := ⟨_, rfl⟩
  rw [← hpre] at hw5
  have hprl : pre.length = 19 := by rw [hpre]; simp
  have HPRE := Lib.hid hpre
  clear hpre
  have hsum : ∀ n, n ≤ its.length → (itsBytes (its.take n)).length ≤ 300 * n := by
    intro n hnl
    induction n with
    | zero => simp [itsBytes]
    | succ n ih =>
      have h2 := ih (by omega)
      have h3 : itsBytes (its.take (n + 1)) = itsBytes (its.take n) ++ txt its[n] := itsBytes_snoc its n (by omega)
      have h4 := h1 its[n] (List.getElem_mem _)
      rw [h3, List.length_append]
      simp [txt]; omega
  have HS := Lib.hid hsum
  clear hsum
  go_loopw [37] (fun v37 wr => ∃ n : Nat, n ≤ its.length ∧ v37 = .int .i64 n ∧ WR w0 p (pre ++ itsBytes (its.take n)) wr) (fun v37 _ => its.length - (intOf v37).toNat)
  case atStart => exact ⟨0, by omega, rfl, by simpa [itsBytes] using hw5⟩
  case round =>
    obtain ⟨n, hnl, rfl, hw⟩ := hrel
    have hls := HS.out n hnl
    have hlq : (pre ++ itsBytes (its.take n)).length ≤ 3000 := by rw [List.length_append]; omega
    by_cases hlt : n < its.length
    · obtain ⟨ib, io, ua, uc, rfl, hib, hcell, hbx⟩ := (hi.kp0 (hka.trans hw.kp)).at n hlt
      have h3 : itsBytes (its.take (n + 1)) = itsBytes (its.take n) ++ txt its[n] := itsBytes_snoc its n hlt
      have h4 := h1 its[n] (List.getElem_mem hlt)
      generalize its[n] = x at *
      have hcv := b2sc hbx
      have i0 : (0 : Int) ≤ n ∧ (n : Int) < its.length := by omega
      have H3 := Lib.hid h3
      clear h3 hls
      generalize hq : pre ++ itsBytes (its.take n) = q at *
      have HQ := Lib.hid hq
      clear hq
      have hn8 : (n : Int) ≤ 8 := by omega
      go_wp2_with (first
        | (go_at_call 58; (with_reducible refine (wr_text w0 p q x _ hw (by omega) (by omega)).mono ?_); rintro e w6 ⟨rfl, hw6⟩))
      go_roundw
      case measure => simp [intOf]; omega
      case rel => exact ⟨n + 1, by omega, by go_num, by rw [H3.out, ← List.append_assoc, HQ.out]; exact hw6⟩
    · have hd : decide ((n : Int) < (its.length : Int)) = false := by rw [decide_eq_false_iff_not]; omega
      have hq : its.take n = its := List.take_of_length_le (by omega)
      rw [hq] at hw hlq
      obtain ⟨l5, hl5⟩ : ∃ l5, l5 = pre ++ itsBytes its := ⟨_, rfl⟩
      rw [← hl5] at hw hlq
      have HL5 := Lib.hid hl5
      clear hl5 hq hls
      go_wp2_with (first
        | (go_at_call 59; (with_reducible refine (wr_bytes w0 p _ _ hw (by omega)).mono ?_); rintro e w4 ⟨v4, rfl, ho4, hk4⟩; obtain ⟨a4, c4, rfl⟩ := own_form ho4))
      go_ret
      refine ⟨_, rfl, ?_, hka.trans (hw.kp.trans hk4)⟩
      have he : frameBytes ⟨k, fa, fb, its, t⟩ = l5 := by rw [HF.out, HL5.out, HPRE.out]; simp
      rw [he]
      exact own_base ho4 (fun b hb => Nat.le_trans (hka.trans hw.kp).size (ho4.lt b hb).1)
end Go.Proofs.YtddpefbpiehgeaaDoor

/- The link: Make, Secret. -/
namespace Go.Proofs.YtddpefbpiehgeaaDoor
open Go Go.RowKit
set_option maxRecDepth 100000
set_option linter.unusedVariables false
set_option linter.unusedSectionVars false
set_option linter.unusedSimpArgs false

theorem fbytes_calls (f : Fr) (iv tv : Value) (w : World) (hm : mayB f = true) (hi : Rws w iv f.its) (ht : Bs w tv f.t) :
    Calls Tryd.prog 33 #[.agg (fcells f iv tv)] w fun e w' => ∃ v, e = .returned v ∧ OB w' 5 w.heap.size v (frameBytes f) ∧ Kp [] w w' := by
  rcases may_k hm with hk | ⟨hk, _, _, _, h0, h9⟩ | ⟨hk, _, _, _, h9⟩
  · obtain ⟨_, h1, h2, h3, h4, h5, h6⟩ := may_1 hm hk
    exact fbytes_1 f iv tv w hk h1 h3 h4 (by omega) (by omega) (by omega) hi ht
  · exact fbytes_23 f iv tv w hk h0 h9 hi ht
  · exact fbytes_4 f iv tv w hk (by omega) hi ht

theorem itsBytes_le (its : List (List UInt8)) (h : ∀ x ∈ its, x.length ≤ 256) : (itsBytes its).length ≤ 258 * its.length := by
  induction its with
  | nil => simp [itsBytes]
  | cons x l ih =>
    have h1 := ih (fun y hy => h y (by simp [hy]))
    have h2 := h x (by simp)
    have : itsBytes (x :: l) = txt x ++ itsBytes l := rfl
    rw [this, List.length_append, List.length_cons]
    simp [txt]; omega
theorem frameBytes_le (f : Fr) (hm : mayB f = true) : (frameBytes f).length ≤ 17000 := by
  rcases may_k hm with hk | ⟨hk, _, _, _, h0, h9⟩ | ⟨hk, _, _, _, h9⟩
  · obtain ⟨_, h1, h2, h3, h4, h5, h6⟩ := may_1 hm hk
    have := itsBytes_le f.its h1
    unfold frameBytes
    rw [if_pos hk]
    simp; omega
  · unfold frameBytes
    rw [if_neg (by omega), if_neg (by omega)]
    simp
  · unfold frameBytes
    rw [if_neg (by omega), if_pos hk]
    simp [txt]; omega

theorem make_bad (s : ByteArray) (f : Fr) (iv tv : Value) (w : World) (hm : mayB f = false) (hi : Rws w iv f.its) (ht : Bs w tv f.t) (hn : f.its.length ≤ 100000000000000) (hnt : f.t.length ≤ 140737488352000) (hb : f.b ≤ 9223372036854775807) :
    Calls Tryd.prog 11 #[.string s, .agg (fcells f iv tv)] w fun e w' => e = .returned (.tuple #[.slice none 0 0, .int .i64 1]) ∧ Kp [] w w' := by
  obtain ⟨ia, ic, rfl, hic⟩ := hi.form
  obtain ⟨ta, tc, rfl, -⟩ := Sl.form ht
  have hka := (Kp.refl [] w).alloc (.cells (fcells f (.slice ia f.its.length ic) (.slice ta f.t.length tc)) 25)
  have him := may_calls f _ _ _ (hi.kp0 hka) (ht.kp0 hka) hn hnt hb
  rw [hm] at him
  unfold fcells at him hka ⊢
  have HIM := Lib.hid him
  clear him
  go_enter Tryd.func11, Tryd.ntmps11
  go_wp2_with (go_at_call 31; (with_reducible refine HIM.out.mono ?_); rintro e w1 ⟨rfl, hk1⟩)
  go_ret2
  exact ⟨rfl, hka.trans hk1⟩

theorem make_calls (s : ByteArray) (f : Fr) (iv tv : Value) (w : World) (hG : GH w) (hs : s.size ≤ 200) (hm : mayB f = true) (hi : Rws w iv f.its) (ht : Bs w tv f.t) (hn : f.its.length ≤ 100000000000000) (hnt : f.t.length ≤ 140737488352000) (hb : f.b ≤ 9223372036854775807) :
    Calls Tryd.prog 11 #[.string s, .agg (fcells f iv tv)] w (RetB w.heap.size (sealed s (frameBytes f)) 0 w) := by
  obtain ⟨ia, ic, rfl, hic⟩ := hi.form
  obtain ⟨ta, tc, rfl, -⟩ := Sl.form ht
  have hka := (Kp.refl [] w).alloc (.cells (fcells f (.slice ia f.its.length ic) (.slice ta f.t.length tc)) 25)
  have hh0 := heap_alloc_new w (.cells (fcells f (.slice ia f.its.length ic) (.slice ta f.t.length tc)) 25)
  have him := may_calls f _ _ _ (hi.kp0 hka) (ht.kp0 hka) hn hnt hb
  have hfb : ∀ w1, Kp [] w w1 → Calls Tryd.prog 33 #[.agg (fcells f (.slice ia f.its.length ic) (.slice ta f.t.length tc))] w1 fun e w' => ∃ v, e = .returned v ∧ OB w' 5 w1.heap.size v (frameBytes f) ∧ Kp [] w1 w' :=
    fun w1 hk => fbytes_calls f _ _ w1 hm (hi.kp0 hk) (ht.kp0 hk)
  have hle := frameBytes_le f hm
  rw [hm] at him
  unfold fcells at him hka hfb hh0 ⊢
  have HIM := Lib.hid him
  have HFB := Lib.hid hfb
  clear him hfb
  go_enter Tryd.func11, Tryd.ntmps11
  go_wp2_with (first
    | (go_at_call 31; (with_reducible refine HIM.out.mono ?_); rintro e w1 ⟨rfl, hk1⟩; obtain ⟨c1_0, c1_1, c1_2, c1_3, c1_4⟩ := cells5 (hk1.heap hh0 (by simp)); have hkw1 := hka.trans hk1)
    | (go_at_call 33; (with_reducible refine (HFB.out _ hkw1).mono ?_); rintro e w2 ⟨v2, rfl, ho2, hk2⟩; have hkw2 := hkw1.trans hk2)
    | (go_at_call 32; (with_reducible refine (seal_ok s _ _ _ (hG.kp0 hkw2) hs (OB.bs ho2) (by omega)).mono ?_); rintro e w3 ⟨v3, rfl, ho3, hk3⟩))
  go_ret2
  exact ⟨_, rfl, own_base ho3 (fun b hb => Nat.le_trans hkw2.size (ho3.lt b hb).1), hkw2.trans hk3⟩

theorem make_long (s : ByteArray) (f : Fr) (iv tv : Value) (w : World) (hG : GH w) (hs : 200 < s.size) (hm : mayB f = true) (hi : Rws w iv f.its) (ht : Bs w tv f.t) (hn : f.its.length ≤ 100000000000000) (hnt : f.t.length ≤ 140737488352000) (hb : f.b ≤ 9223372036854775807) :
    Calls Tryd.prog 11 #[.string s, .agg (fcells f iv tv)] w fun e w' => e = .returned (.tuple #[.slice none 0 0, .int .i64 2]) ∧ Kp [] w w' := by
  obtain ⟨ia, ic, rfl, hic⟩ := hi.form
  obtain ⟨ta, tc, rfl, -⟩ := Sl.form ht
  have hka := (Kp.refl [] w).alloc (.cells (fcells f (.slice ia f.its.length ic) (.slice ta f.t.length tc)) 25)
  have hh0 := heap_alloc_new w (.cells (fcells f (.slice ia f.its.length ic) (.slice ta f.t.length tc)) 25)
  have him := may_calls f _ _ _ (hi.kp0 hka) (ht.kp0 hka) hn hnt hb
  have hfb : ∀ w1, Kp [] w w1 → Calls Tryd.prog 33 #[.agg (fcells f (.slice ia f.its.length ic) (.slice ta f.t.length tc))] w1 fun e w' => ∃ v, e = .returned v ∧ OB w' 5 w1.heap.size v (frameBytes f) ∧ Kp [] w1 w' :=
    fun w1 hk => fbytes_calls f _ _ w1 hm (hi.kp0 hk) (ht.kp0 hk)
  rw [hm] at him
  unfold fcells at him hka hfb hh0 ⊢
  have HIM := Lib.hid him
  have HFB := Lib.hid hfb
  clear him hfb
  go_enter Tryd.func11, Tryd.ntmps11
  go_wp2_with (first
    | (go_at_call 31; (with_reducible refine HIM.out.mono ?_); rintro e w1 ⟨rfl, hk1⟩; obtain ⟨c1_0, c1_1, c1_2, c1_3, c1_4⟩ := cells5 (hk1.heap hh0 (by simp)); have hkw1 := hka.trans hk1)
    | (go_at_call 33; (with_reducible refine (HFB.out _ hkw1).mono ?_); rintro e w2 ⟨v2, rfl, ho2, hk2⟩; have hkw2 := hkw1.trans hk2)
    | (go_at_call 32; (with_reducible refine (seal_long s _ _ hs).mono ?_); rintro e w3 ⟨rfl, rfl⟩))
  go_ret2
  exact ⟨rfl, hkw2⟩

theorem secret_long (s : ByteArray) (n : Int) (w : World) (hs : 200 < s.size) :
    Calls Tryd.prog 29 #[.string s, .int .i64 n] w fun e w' => e = .returned (.tuple #[.string ⟨#[]⟩, .int .i64 2]) ∧ w = w' := by
  go_enter Tryd.func29, Tryd.ntmps29
  go_wp2_with (first
    | (go_at_call 50; (with_reducible refine (key_long s n _ hs).mono ?_); rintro e w3 ⟨rfl, rfl⟩))
  go_ret2
  exact ⟨rfl, rfl⟩
theorem secret_wide (s : ByteArray) (n : Int) (w : World) (hs : s.size ≤ 200) (hn : n < 0 ∨ 65535 < n) :
    Calls Tryd.prog 29 #[.string s, .int .i64 n] w fun e w' => e = .returned (.tuple #[.string ⟨#[]⟩, .int .i64 1]) ∧ w = w' := by
  go_enter Tryd.func29, Tryd.ntmps29
  go_wp2_with (first
    | (go_at_call 50; (with_reducible refine (key_wide s n _ hs hn).mono ?_); rintro e w3 ⟨rfl, rfl⟩))
  go_ret2
  exact ⟨rfl, rfl⟩
theorem secret_calls (s : ByteArray) (n : Nat) (w : World) (hG : GH w) (hs : s.size ≤ 200) (hn : n ≤ 65535) :
    Calls Tryd.prog 29 #[.string s, .int .i64 n] w fun e w' => e = .returned (.tuple #[.string (keyOf (keyOf s n) 0), .int .i64 0]) ∧ Kp [] w w' := by
  have h32 := keyOf_size s n
  go_enter Tryd.func29, Tryd.ntmps29
  go_wp2_with (first
    | (go_at_call 50; (with_reducible refine (key_calls s n _ hG hs hn).mono ?_); rintro e w1 ⟨rfl, hk1⟩)
    | (go_at_call 50; (refine (key_calls (keyOf s n) 0 _ (hG.kp0 hk1) (by omega) (by omega)).mono ?_); rintro e w2 ⟨rfl, hk2⟩))
  go_ret2
  exact ⟨rfl, hk1.trans hk2⟩
end Go.Proofs.YtddpefbpiehgeaaDoor

/- Plain: what Parse reads. -/
namespace Go.Proofs.YtddpefbpiehgeaaDoor
open Go Go.RowKit

/-- n texts are read. -/
def rdIts (d : List UInt8) : Nat → List (List UInt8) → RS → List (List UInt8) × RS
  | 0, l, s => (l, s)
  | n + 1, l, s => rdIts d n (l ++ [(rdText d 256 s).1]) (rdText d 256 s).2

theorem rdIts_succ (d : List UInt8) : ∀ n l s, rdIts d (n + 1) l s = ((rdIts d n l s).1 ++ [(rdText d 256 (rdIts d n l s).2).1], (rdText d 256 (rdIts d n l s).2).2)
  | 0, l, s => rfl
  | n + 1, l, s => by rw [rdIts, rdIts_succ d n]; rfl

/-- A frame is read. -/
def rdFrame (d : List UInt8) : Fr × RS :=
  let (k, s1) := rdNum d 1 ⟨0, 0, 0, 0⟩
  if k = 1 then
    let (a, s2) := rdNum d 8 s1
    let (b, s3) := rdNum d 8 s2
    let (n, s4) := rdCount d 8 s3
    let (l, s5) := rdIts d n [] s4
    (⟨k, a, b, l, []⟩, rdEnd d s5)
  else if k = 4 then
    let (t, s2) := rdText d 16100 s1
    (⟨k, 0, 0, [], t⟩, rdEnd d s2)
  else
    let (b, s2) := rdNum d 8 s1
    (⟨k, 0, b, [], []⟩, rdEnd d s2)

def parsed (d : List UInt8) : Option Fr := if (rdFrame d).2.code = 0 && mayB (rdFrame d).1 then some (rdFrame d).1 else none
end Go.Proofs.YtddpefbpiehgeaaDoor

/- The link: Parse. -/
namespace Go.Proofs.YtddpefbpiehgeaaDoor
open Go Go.RowKit
set_option maxRecDepth 100000
set_option linter.unusedVariables false
set_option linter.unusedSectionVars false
set_option linter.unusedSimpArgs false

/-- A reader that came about after w0. -/
def RD (w0 : World) (B p : Nat) (d : List UInt8) (s : RS) (w : World) : Prop := IsRd w B p d s ∧ Kp [] w0 w ∧ w0.heap.size ≤ p ∧ p < B ∧ p < w.heap.size

theorem RD.read {w0 w w' : World} {B p : Nat} {d : List UInt8} {s s' : RS} {v : Value} {e : Ending} (h : RD w0 B p d s w) (hr : Read B p d v s' w e w') : e = .returned v ∧ RD w0 B p d s' w' ∧ Kp [p] w w' :=
  ⟨hr.1, ⟨hr.2.1, h.2.1.trans' hr.2.2 (by simpa using h.2.2.1), h.2.2.1, h.2.2.2.1, Nat.lt_of_lt_of_le h.2.2.2.2 hr.2.2.size⟩, hr.2.2⟩
theorem RD.kp {S : List Nat} {w0 w w' : World} {B p : Nat} {d : List UInt8} {s : RS} (h : RD w0 B p d s w) (hk : Kp S w w') (hS : ∀ x ∈ S, B ≤ x) (hS0 : ∀ x ∈ S, w0.heap.size ≤ x) : RD w0 B p d s w' :=
  ⟨h.1.kp hk (fun x hx => ⟨by have := hS x hx; have := h.2.2.2.1; omega, hS x hx⟩), h.2.1.trans' hk (fun x hx => .inr (hS0 x hx)), h.2.2.1, h.2.2.2.1, Nat.lt_of_lt_of_le h.2.2.2.2 hk.size⟩

theorem rd_new (v : Value) (d : List UInt8) (w0 w : World) (hk : Kp [] w0 w) (hb : Bs w v d) (hlen : d.length ≤ 140737488355328) :
    Calls Tryd.prog 38 #[v] w fun e w' => ∃ p, e = .returned (.pointer (some ⟨p, 0, none⟩)) ∧ RD w0 w'.heap.size p d ⟨0, 0, 0, 0⟩ w' ∧ Kp [] w w' :=
  (newReader_calls v d w hb hlen).mono fun e w' ⟨p, he, hp, hr, hk'⟩ => ⟨p, he, ⟨hr, hk.trans hk', Nat.le_trans hk.size hp, by obtain ⟨_, _, a, cap, hh, _⟩ := hr; exact lt_of_heap hh, by obtain ⟨_, _, a, cap, hh, _⟩ := hr; exact lt_of_heap hh⟩, hk'⟩
theorem rd_num (w0 : World) (B p : Nat) (d : List UInt8) (s : RS) (k : Nat) (ki : Int) (hki : ki = k) (w : World) (hr : RD w0 B p d s w) (hk1 : 1 ≤ k) (hk8 : k ≤ 8) (hlen : d.length ≤ 140737488355328) :
    Calls Tryd.prog 39 #[.pointer (some ⟨p, 0, none⟩), .int .i64 ki] w fun e w' => e = .returned (.int .i64 (rdNum d k s).1) ∧ RD w0 B p d (rdNum d k s).2 w' ∧ Kp [p] w w' := by
  subst hki
  exact (rnumber_calls B p d s k w hr.1 hk1 hk8 hlen).mono fun e w' h => hr.read h
theorem rd_count (w0 : World) (B p : Nat) (d : List UInt8) (s : RS) (m : Nat) (mi : Int) (hmi : mi = m) (w : World) (hr : RD w0 B p d s w) (hlen : d.length ≤ 140737488355328) :
    Calls Tryd.prog 40 #[.pointer (some ⟨p, 0, none⟩), .int .i64 mi] w fun e w' => e = .returned (.int .i64 (rdCount d m s).1) ∧ RD w0 B p d (rdCount d m s).2 w' ∧ Kp [p] w w' := by
  subst hmi
  exact (rcount_calls B p d s m w hr.1 hlen).mono fun e w' h => hr.read h
theorem rd_text (w0 : World) (B p : Nat) (d : List UInt8) (s : RS) (m : Nat) (mi : Int) (hmi : mi = m) (w : World) (hr : RD w0 B p d s w) (hlen : d.length ≤ 140737488355328) :
    Calls Tryd.prog 41 #[.pointer (some ⟨p, 0, none⟩), .int .i64 mi] w fun e w' => e = .returned (.string ⟨(rdText d m s).1.toArray⟩) ∧ RD w0 B p d (rdText d m s).2 w' ∧ Kp [p] w w' := by
  subst hmi
  exact (rtext_calls B p d s m w hr.1 hlen).mono fun e w' h => hr.read h
theorem rd_end (w0 : World) (B p : Nat) (d : List UInt8) (s : RS) (w : World) (hr : RD w0 B p d s w) (hlen : d.length ≤ 140737488355328) :
    Calls Tryd.prog 42 #[.pointer (some ⟨p, 0, none⟩)] w fun e w' => e = .returned (.agg #[.int .i64 (rdEnd d s).code, .int .i64 (rdEnd d s).fat]) ∧ RD w0 B p d (rdEnd d s) w' ∧ Kp [p] w w' :=
  (end_calls B p d s w hr.1 hlen).mono fun e w' h => hr.read h

theorem rd_numE (w0 : World) (B p : Nat) (d : List UInt8) (s s' : RS) (k n : Nat) (ki : Int) (hki : ki = k) (hn : rdNum d k s = (n, s')) (w : World) (hr : RD w0 B p d s w) (hk1 : 1 ≤ k) (hk8 : k ≤ 8) (hlen : d.length ≤ 140737488355328) :
    Calls Tryd.prog 39 #[.pointer (some ⟨p, 0, none⟩), .int .i64 ki] w fun e w' => e = .returned (.int .i64 n) ∧ RD w0 B p d s' w' ∧ Kp [p] w w' := by
  have h := rd_num w0 B p d s k ki hki w hr hk1 hk8 hlen
  rw [hn] at h
  exact h
theorem rd_countE (w0 : World) (B p : Nat) (d : List UInt8) (s s' : RS) (m n : Nat) (mi : Int) (hmi : mi = m) (hn : rdCount d m s = (n, s')) (w : World) (hr : RD w0 B p d s w) (hlen : d.length ≤ 140737488355328) :
    Calls Tryd.prog 40 #[.pointer (some ⟨p, 0, none⟩), .int .i64 mi] w fun e w' => e = .returned (.int .i64 n) ∧ RD w0 B p d s' w' ∧ Kp [p] w w' := by
  have h := rd_count w0 B p d s m mi hmi w hr hlen
  rw [hn] at h
  exact h
theorem rd_textE (w0 : World) (B p : Nat) (d : List UInt8) (s s' : RS) (m : Nat) (x : List UInt8) (mi : Int) (hmi : mi = m) (hn : rdText d m s = (x, s')) (w : World) (hr : RD w0 B p d s w) (hlen : d.length ≤ 140737488355328) :
    Calls Tryd.prog 41 #[.pointer (some ⟨p, 0, none⟩), .int .i64 mi] w fun e w' => e = .returned (.string ⟨x.toArray⟩) ∧ RD w0 B p d s' w' ∧ Kp [p] w w' := by
  have h := rd_text w0 B p d s m mi hmi w hr hlen
  rw [hn] at h
  exact h

/-- Values whose blocks are apart. -/
def Apart (a b : Value) : Prop := ∀ g, a.ownBlock = some g → b.ownBlock ≠ some g

/-- Items: rows of bytes, each its own. -/
def Its (w : World) (B : Nat) (us : List Value) (its : List (List UInt8)) : Prop :=
  us.length = its.length ∧ (∀ i (h : i < its.length), ∃ u, us[i]? = some u ∧ OB w 5 B u its[i]) ∧ (∀ (i j : Nat) (u v : Value), i ≠ j → us[i]? = some u → us[j]? = some v → Apart u v)

/-- A row of items. -/
def OR (w : World) (B : Nat) (v : Value) (its : List (List UInt8)) : Prop := ∃ us, Own w B 23 1 v its.length us ∧ Its w B us its

theorem Its.kp {S : List Nat} {w w' : World} {B : Nat} {us : List Value} {its : List (List UInt8)} (h : Its w B us its) (hk : Kp S w w') (hS : ∀ u ∈ us, ∀ b, u.ownBlock = some b → b ∉ S) : Its w' B us its :=
  ⟨h.1, fun i hi => by obtain ⟨u, h1, h2⟩ := h.2.1 i hi; exact ⟨u, h1, own_kp h2 hk (hS u (List.mem_of_getElem? h1))⟩, h.2.2⟩
theorem Its.base {w : World} {B B' : Nat} {us : List Value} {its : List (List UInt8)} (h : Its w B us its) (hB : B' ≤ B) : Its w B' us its :=
  ⟨h.1, fun i hi => by obtain ⟨u, h1, h2⟩ := h.2.1 i hi; exact ⟨u, h1, own_base h2 (fun b hb => Nat.le_trans hB (Own.lt h2 b hb).1)⟩, h.2.2⟩
theorem Its.lt {w : World} {B : Nat} {us : List Value} {its : List (List UInt8)} (h : Its w B us its) : ∀ u ∈ us, ∀ b, u.ownBlock = some b → B ≤ b ∧ b < w.heap.size := by
  intro u hu b hb
  obtain ⟨i, hi⟩ := List.mem_iff_getElem?.1 hu
  have hl : i < its.length := by rw [← h.1]; exact (List.getElem?_eq_some_iff.1 hi).1
  obtain ⟨u', h1, h2⟩ := h.2.1 i hl
  rw [hi] at h1
  cases h1
  exact Own.lt h2 b hb
theorem OR.kp {S : List Nat} {w w' : World} {B : Nat} {v : Value} {its : List (List UInt8)} (h : OR w B v its) (hk : Kp S w w') (hS : ∀ s ∈ S, s < B) : OR w' B v its := by
  obtain ⟨us, ho, hi⟩ := h
  exact ⟨us, own_kp ho hk (fun b hb hm => by have := (ho.lt b hb).1; have := hS b hm; omega), hi.kp hk (fun u hu b hb hm => by have := (hi.lt u hu b hb).1; have := hS b hm; omega)⟩
theorem OR.base {w : World} {B B' : Nat} {v : Value} {its : List (List UInt8)} (h : OR w B v its) (hB : B' ≤ B) : OR w B' v its := by
  obtain ⟨us, ho, hi⟩ := h
  exact ⟨us, own_base ho (fun b hb => Nat.le_trans hB (ho.lt b hb).1), hi.base hB⟩
theorem OR.rws {w : World} {B : Nat} {v : Value} {its : List (List UInt8)} (h : OR w B v its) : Rws w v its := by
  obtain ⟨us, ho, hi⟩ := h
  exact ⟨us, Sl.of_own ho, hi.1, fun i h => by obtain ⟨u, h1, h2⟩ := hi.2.1 i h; exact ⟨u, h1, OB.bs h2⟩⟩
theorem OR.nil (w : World) (B : Nat) : OR w B (.slice none 0 0) [] := ⟨[], Own.nil _ _ _ _, rfl, fun i h => by simp at h, fun i j u v _ h => by simp at h⟩
theorem OR.form {w : World} {B : Nat} {v : Value} {its : List (List UInt8)} (h : OR w B v its) : ∃ a c, v = .slice a its.length c := by
  obtain ⟨us, ho, _⟩ := h; exact own_form ho

/-- A frame's value whose rows are all its own. -/
def IsF (w : World) (B : Nat) (v : Value) (f : Fr) : Prop := ∃ iv tv us, v = .agg (fcells f iv tv) ∧ Own w B 23 1 iv f.its.length us ∧ Its w B us f.its ∧ OB w 5 B tv f.t ∧ (∀ u ∈ us, Apart u tv)
theorem IsF.kp {S : List Nat} {w w' : World} {B : Nat} {v : Value} {f : Fr} (h : IsF w B v f) (hk : Kp S w w') (hS : ∀ s ∈ S, s < B) : IsF w' B v f := by
  obtain ⟨iv, tv, us, he, ho, hi, ht, ha⟩ := h
  exact ⟨iv, tv, us, he, own_kp ho hk (fun b hb hm => by have := (ho.lt b hb).1; have := hS b hm; omega), hi.kp hk (fun u hu b hb hm => by have := (hi.lt u hu b hb).1; have := hS b hm; omega),
    own_kp ht hk (fun b hb hm => by have := (Own.lt ht b hb).1; have := hS b hm; omega), ha⟩
theorem IsF.base {w : World} {B B' : Nat} {v : Value} {f : Fr} (h : IsF w B v f) (hB : B' ≤ B) : IsF w B' v f := by
  obtain ⟨iv, tv, us, he, ho, hi, ht, ha⟩ := h
  exact ⟨iv, tv, us, he, own_base ho (fun b hb => Nat.le_trans hB (ho.lt b hb).1), hi.base hB, own_base ht (fun b hb => Nat.le_trans hB (Own.lt ht b hb).1), ha⟩
end Go.Proofs.YtddpefbpiehgeaaDoor

