/- The link: a frame's bytes, Make. -/
import Derived.Test.YtddpefbpiehgeaaDoorLinkA
namespace Go.Proofs.YtddpefbpiehgeaaDoor
open Go Go.RowKit
set_option maxRecDepth 100000
set_option linter.unusedVariables false
set_option linter.unusedSectionVars false
set_option linter.unusedSimpArgs false

/-- A writer that came about after w0, and holds l. -/
def WR (w0 : World) (p : Nat) (l : List UInt8) (w : World) : Prop := IsWr w w0.heap.size p l ∧ Below w0.heap.size w0 w ∧ w0.heap.size ≤ w.heap.size

theorem WR.kp {w0 w : World} {p : Nat} {l : List UInt8} (h : WR w0 p l w) : Kp [] w0 w := Kp.ofBelow h.2.1

theorem wr_new (w0 : World) : Calls Tryd.prog 55 #[] w0 fun e w' => ∃ p, e = .returned (.pointer (some ⟨p, 0, none⟩)) ∧ WR w0 p [] w' :=
  (newWriter_calls w0).mono fun e w' ⟨p, he, hw, hk⟩ => ⟨p, he, hw, hk.below (Nat.le_refl _) (by simp), hk.size⟩

theorem wr_num (w0 : World) (p : Nat) (l : List UInt8) (n s : Int) (w : World) (hw : WR w0 p l w) (hlen : l.length ≤ 100000000000000) (h0 : 0 ≤ n) (h9 : n ≤ 9223372036854775807) (h1 : 1 ≤ s) (h8 : s ≤ 8) (hf : n.toNat < 256 ^ s.toNat) :
    Calls Tryd.prog 56 #[.pointer (some ⟨p, 0, none⟩), .int .i64 n, .int .i64 s] w fun e w' => e = .returned (.tuple #[]) ∧ WR w0 p (l ++ dig n.toNat s.toNat) w' :=
  (number_calls _ p l n s w hw.1 hw.2.2 hlen h0 h9 h1 h8 hf).mono fun e w' ⟨he, hw', hb⟩ => ⟨he, hw', hw.2.1.trans hb, (Kp.ofBelow (hw.2.1.trans hb)).size⟩

theorem wr_count (w0 : World) (p : Nat) (l : List UInt8) (n : Int) (w : World) (hw : WR w0 p l w) (hlen : l.length ≤ 100000000000000) (h0 : 0 ≤ n) (hf : n ≤ 65535) :
    Calls Tryd.prog 57 #[.pointer (some ⟨p, 0, none⟩), .int .i64 n] w fun e w' => e = .returned (.tuple #[]) ∧ WR w0 p (l ++ dig n.toNat 2) w' :=
  (count_calls _ p l n w hw.1 hw.2.2 hlen h0 hf).mono fun e w' ⟨he, hw', hb⟩ => ⟨he, hw', hw.2.1.trans hb, (Kp.ofBelow (hw.2.1.trans hb)).size⟩

/-- A text: its length, its bytes. -/
def txt (l : List UInt8) : List UInt8 := dig l.length 2 ++ l
theorem wr_text (w0 : World) (p : Nat) (l x : List UInt8) (w : World) (hw : WR w0 p l w) (hlen : l.length ≤ 100000000000000) (hx : x.length ≤ 65535) :
    Calls Tryd.prog 58 #[.pointer (some ⟨p, 0, none⟩), .string ⟨x.toArray⟩] w fun e w' => e = .returned (.tuple #[]) ∧ WR w0 p (l ++ txt x) w' :=
  (text_calls _ p l ⟨x.toArray⟩ w hw.1 hw.2.2 hlen (by simpa [ByteArray.size] using hx)).mono fun e w' ⟨he, hw', hb⟩ => ⟨he, by simpa [txt, ByteArray.size] using hw', hw.2.1.trans hb, (Kp.ofBelow (hw.2.1.trans hb)).size⟩

theorem wr_bytes (w0 : World) (p : Nat) (l : List UInt8) (w : World) (hw : WR w0 p l w) (hlen : l.length ≤ 100000000000000) :
    Calls Tryd.prog 59 #[.pointer (some ⟨p, 0, none⟩)] w (RetB w.heap.size l 0 w) := bytes_calls _ p l w hw.1 hlen

theorem b2sc {w : World} {v : Value} {l : List UInt8} (h : Bs w v l) : (convert 23 9 v).run Tryd.prog w = .ok (.string ⟨l.toArray⟩) w :=
  b2s h 23 9 5 Tryd.underlying23 Tryd.underlying5 Tryd.underlying9

/-- A frame's bytes. -/
def itsBytes (its : List (List UInt8)) : List UInt8 := its.flatMap txt
theorem itsBytes_snoc (its : List (List UInt8)) (n : Nat) (h : n < its.length) : itsBytes (its.take (n + 1)) = itsBytes (its.take n) ++ txt its[n] := by
  unfold itsBytes
  rw [List.take_succ_eq_append_getElem h, List.flatMap_append, List.flatMap_singleton]
def frameBytes (f : Fr) : List UInt8 :=
  dig f.k.toNat 1 ++ (if f.k = 1 then dig f.a.toNat 8 ++ (dig f.b.toNat 8 ++ (dig f.its.length 2 ++ itsBytes f.its))
    else if f.k = 4 then txt f.t else dig f.b.toNat 8)

/-- What holds of a frame that may be. -/
theorem may_1 {f : Fr} (h : mayB f = true) (hk : f.k = 1) : f.t = [] ∧ (∀ x ∈ f.its, x.length ≤ 256) ∧ 1 ≤ f.its.length ∧ f.its.length ≤ 8 ∧ 1 ≤ f.a ∧ f.a ≤ f.b ∧ f.b ≤ 4294967295 - f.its.length + 1 := by
  simp [mayB, hk, itemsMayB] at h
  obtain ⟨h1, h2, h3, h4, h5, h6, h7⟩ := h
  exact ⟨h1, h2, by omega, h4, h5, h6, h7⟩
theorem may_k {f : Fr} (h : mayB f = true) : f.k = 1 ∨ (f.k = 2 ∨ f.k = 3) ∧ f.a = 0 ∧ f.its = [] ∧ f.t = [] ∧ 0 ≤ f.b ∧ f.b ≤ 4294967295 ∨ f.k = 4 ∧ f.a = 0 ∧ f.its = [] ∧ f.b = 0 ∧ f.t.length ≤ 16100 := by
  unfold mayB at h
  split at h
  · exact .inl (by assumption)
  · split at h
    · simp [bareB] at h
      obtain ⟨⟨h1, h2⟩, h3, h4, h5⟩ := h
      exact .inr (.inl ⟨.inl (by assumption), h1, h2, h3, h4, h5⟩)
    · split at h
      · simp [bareB] at h
        obtain ⟨⟨h1, h2⟩, h3, h4, h5⟩ := h
        exact .inr (.inl ⟨.inr (by assumption), h1, h2, h3, h4, by omega⟩)
      · split at h
        · simp [bareB] at h
          obtain ⟨⟨h1, h2⟩, h3, h4⟩ := h
          exact .inr (.inr ⟨by assumption, h1, h2, h3, by omega⟩)
        · cases h

theorem cells5 {w : World} {b : Nat} {a0 a1 a2 a3 a4 : Value} {T : TypeId} {fr : Nat × Nat} (h : w.heap[b]? = some (.cells #[a0, a1, a2, a3, a4] T fr)) :
    w.cell? ⟨b, 0, none⟩ = some a0 ∧ w.cell? ⟨b, 1, none⟩ = some a1 ∧ w.cell? ⟨b, 2, none⟩ = some a2 ∧ w.cell? ⟨b, 3, none⟩ = some a3 ∧ w.cell? ⟨b, 4, none⟩ = some a4 :=
  ⟨cell_heap h 0, cell_heap h 1, cell_heap h 2, cell_heap h 3, cell_heap h 4⟩

set_option maxHeartbeats 1000000 in
theorem fbytes_23 (f : Fr) (iv tv : Value) (w : World) (hk : f.k = 2 ∨ f.k = 3) (h0 : 0 ≤ f.b) (h9 : f.b ≤ 4294967295) (hi : Rws w iv f.its) (ht : Bs w tv f.t) :
    Calls Tryd.prog 33 #[.agg (fcells f iv tv)] w fun e w' => ∃ v, e = .returned v ∧ OB w' 5 w.heap.size v (frameBytes f) ∧ Kp [] w w' := by
  obtain ⟨ia, ic, rfl, hic⟩ := hi.form
  obtain ⟨ta, tc, rfl, -⟩ := Sl.form ht
  obtain ⟨k, fa, fb, its, t⟩ := f
  simp only at *
  have hfb : frameBytes ⟨k, fa, fb, its, t⟩ = dig k.toNat 1 ++ dig fb.toNat 8 := by
    rcases hk with rfl | rfl <;> rfl
  have HF := Lib.hid hfb
  have hk1 : (k == 1) = false := by simp; omega
  have hk4 : (k == 4) = false := by simp; omega
  have hkb : 0 ≤ k ∧ k ≤ 3 := by omega
  clear hfb hk
  unfold fcells
  go_enter Tryd.func33, Tryd.ntmps33
  go_wp2_with fail
  have hka := (Kp.refl [] w).alloc (.cells #[.int .i64 k, .int .i64 fa, .int .i64 fb, .slice ia its.length ic, .slice ta t.length tc] 25)
  have hh0 := heap_alloc_new w (.cells #[.int .i64 k, .int .i64 fa, .int .i64 fb, .slice ia its.length ic, .slice ta t.length tc] 25)
  have hsz := World.size_alloc w (.cells #[.int .i64 k, .int .i64 fa, .int .i64 fb, .slice ia its.length ic, .slice ta t.length tc] 25)
  generalize w.alloc (.cells #[.int .i64 k, .int .i64 fa, .int .i64 fb, .slice ia its.length ic, .slice ta t.length tc] 25) = w0 at *
  refine (wr_new w0).mono ?_
  rintro e w1 ⟨p, rfl, hw1⟩
  obtain ⟨c1_0, c1_1, c1_2, c1_3, c1_4⟩ := cells5 (hw1.kp.heap hh0 (by simp))
  go_wp2_with (first
    | (go_at_call 56; (with_reducible refine (wr_num w0 p [] k 1 _ hw1 (by simp) (by omega) (by omega) (by omega) (by omega) (by simp; omega)).mono ?_); rintro e w2 ⟨rfl, hw2⟩; obtain ⟨c2_0, c2_1, c2_2, c2_3, c2_4⟩ := cells5 (hw2.kp.heap hh0 (by simp)))
    | (go_at_call 56; (with_reducible refine (wr_num w0 p _ fb 8 _ hw2 (by simp) (by omega) (by omega) (by omega) (by omega) (by simp; omega)).mono ?_); rintro e w3 ⟨rfl, hw3⟩)
    | (go_at_call 59; (with_reducible refine (wr_bytes w0 p _ _ hw3 (by simp)).mono ?_); rintro e w4 ⟨v4, rfl, ho4, hk4⟩; obtain ⟨a4, c4, rfl⟩ := own_form ho4))
  go_ret
  refine ⟨_, rfl, ?_, hka.trans (hw3.kp.trans hk4)⟩
  rw [HF.out]
  exact own_base ho4 (fun b hb => Nat.le_trans (hka.trans hw3.kp).size (ho4.lt b hb).1)

set_option maxHeartbeats 1000000 in
theorem fbytes_4 (f : Fr) (iv tv : Value) (w : World) (hk : f.k = 4) (ht9 : f.t.length ≤ 65535) (hi : Rws w iv f.its) (ht : Bs w tv f.t) :
    Calls Tryd.prog 33 #[.agg (fcells f iv tv)] w fun e w' => ∃ v, e = .returned v ∧ OB w' 5 w.heap.size v (frameBytes f) ∧ Kp [] w w' := by
  obtain ⟨ia, ic, rfl, hic⟩ := hi.form
  obtain ⟨ta, tc, rfl, -⟩ := Sl.form ht
  obtain ⟨k, fa, fb, its, t⟩ := f
  simp only at *
  have hfb : frameBytes ⟨k, fa, fb, its, t⟩ = dig k.toNat 1 ++ txt t := by subst hk; rfl
  have HF := Lib.hid hfb
  have hk1 : (k == 1) = false := by simp; omega
  have hk4 : (k == 4) = true := by simp; omega
  have hkb : 0 ≤ k ∧ k ≤ 4 := by omega
  clear hfb hk
  unfold fcells
  go_enter Tryd.func33, Tryd.ntmps33
  go_wp2_with fail
  have hka := (Kp.refl [] w).alloc (.cells #[.int .i64 k, .int .i64 fa, .int .i64 fb, .slice ia its.length ic, .slice ta t.length tc] 25)
  have hh0 := heap_alloc_new w (.cells #[.int .i64 k, .int .i64 fa, .int .i64 fb, .slice ia its.length ic, .slice ta t.length tc] 25)
  have hsz := World.size_alloc w (.cells #[.int .i64 k, .int .i64 fa, .int .i64 fb, .slice ia its.length ic, .slice ta t.length tc] 25)
  generalize w.alloc (.cells #[.int .i64 k, .int .i64 fa, .int .i64 fb, .slice ia its.length ic, .slice ta t.length tc] 25) = w0 at *
  refine (wr_new w0).mono ?_
  rintro e w1 ⟨p, rfl, hw1⟩
  obtain ⟨c1_0, c1_1, c1_2, c1_3, c1_4⟩ := cells5 (hw1.kp.heap hh0 (by simp))
  go_wp2_with (first
    | (go_at_call 56; (with_reducible refine (wr_num w0 p [] k 1 _ hw1 (by simp) (by omega) (by omega) (by omega) (by omega) (by simp; omega)).mono ?_); rintro e w2 ⟨rfl, hw2⟩; obtain ⟨c2_0, c2_1, c2_2, c2_3, c2_4⟩ := cells5 (hw2.kp.heap hh0 (by simp)); have hcv := b2sc (ht.kp0 (hka.trans hw2.kp)))
    | (go_at_call 58; (with_reducible refine (wr_text w0 p _ t _ hw2 (by simp) ht9).mono ?_); rintro e w3 ⟨rfl, hw3⟩; obtain ⟨l3, hl3⟩ : ∃ l3, l3 = [] ++ dig k.toNat (Int.toNat 1) ++ txt t := ⟨_, rfl⟩; rw [← hl3] at hw3; have HL3 := Lib.hid hl3; have hl3n : l3.length ≤ 100000000 := (by rw [hl3]; simp [txt]; omega); clear hl3)
    | (go_at_call 59; (with_reducible refine (wr_bytes w0 p _ _ hw3 (by omega)).mono ?_); rintro e w4 ⟨v4, rfl, ho4, hk4⟩; obtain ⟨a4, c4, rfl⟩ := own_form ho4))
  go_ret
  refine ⟨_, rfl, ?_, hka.trans (hw3.kp.trans hk4)⟩
  rw [HF.out, show dig k.toNat 1 ++ txt t = l3 from HL3.out.symm]
  exact own_base ho4 (fun b hb => Nat.le_trans (hka.trans hw3.kp).size (ho4.lt b hb).1)

set_option maxHeartbeats 1000000 in
theorem fbytes_1 (f : Fr) (iv tv : Value) (w : World) (hk : f.k = 1) (h1 : ∀ x ∈ f.its, x.length ≤ 256) (hn : f.its.length ≤ 8) (ha0 : 1 ≤ f.a) (ha : f.a ≤ 4294967296) (hb0 : 0 ≤ f.b) (hb9 : f.b ≤ 4294967296) (hi : Rws w iv f.its) (ht : Bs w tv f.t) :
    Calls Tryd.prog 33 #[.agg (fcells f iv tv)] w fun e w' => ∃ v, e = .returned v ∧ OB w' 5 w.heap.size v (frameBytes f) ∧ Kp [] w w' := by
  obtain ⟨ia, ic, rfl, hic⟩ := hi.form
  obtain ⟨ta, tc, rfl, -⟩ := Sl.form ht
  obtain ⟨k, fa, fb, its, t⟩ := f
  simp only at *
  have hfb : frameBytes ⟨k, fa, fb, its, t⟩ = dig k.toNat 1 ++ (dig fa.toNat 8 ++ (dig fb.toNat 8 ++ (dig its.length 2 ++ itsBytes its))) := by subst hk; rfl
  have HF := Lib.hid hfb
  have hk1 : (k == 1) = true := by simp; omega
  have hkb : 0 ≤ k ∧ k ≤ 4 := by omega
  clear hfb hk
  unfold fcells
  go_enter Tryd.func33, Tryd.ntmps33
  go_wp2_with fail
  have hka := (Kp.refl [] w).alloc (.cells #[.int .i64 k, .int .i64 fa, .int .i64 fb, .slice ia its.length ic, .slice ta t.length tc] 25)
  have hh0 := heap_alloc_new w (.cells #[.int .i64 k, .int .i64 fa, .int .i64 fb, .slice ia its.length ic, .slice ta t.length tc] 25)
  have hsz := World.size_alloc w (.cells #[.int .i64 k, .int .i64 fa, .int .i64 fb, .slice ia its.length ic, .slice ta t.length tc] 25)
  generalize w.alloc (.cells #[.int .i64 k, .int .i64 fa, .int .i64 fb, .slice ia its.length ic, .slice ta t.length tc] 25) = w0 at *
  refine (wr_new w0).mono ?_
  rintro e w1 ⟨p, rfl, hw1⟩
  obtain ⟨c1_0, c1_1, c1_2, c1_3, c1_4⟩ := cells5 (hw1.kp.heap hh0 (by simp))
  go_wp2_with (first
    | (go_at_call 56; (with_reducible refine (wr_num w0 p [] k 1 _ hw1 (by simp) (by omega) (by omega) (by omega) (by omega) (by simp; omega)).mono ?_); rintro e w2 ⟨rfl, hw2⟩; obtain ⟨c2_0, c2_1, c2_2, c2_3, c2_4⟩ := cells5 (hw2.kp.heap hh0 (by simp)))
    | (go_at_call 56; (with_reducible refine (wr_num w0 p _ fa 8 _ hw2 (by simp) (by omega) (by omega) (by omega) (by omega) (by simp; omega)).mono ?_); rintro e w3 ⟨rfl, hw3⟩; obtain ⟨c3_0, c3_1, c3_2, c3_3, c3_4⟩ := cells5 (hw3.kp.heap hh0 (by simp)))
    | (go_at_call 56; (with_reducible refine (wr_num w0 p _ fb 8 _ hw3 (by simp) (by omega) (by omega) (by omega) (by omega) (by simp; omega)).mono ?_); rintro e w4 ⟨rfl, hw4⟩; obtain ⟨c4_0, c4_1, c4_2, c4_3, c4_4⟩ := cells5 (hw4.kp.heap hh0 (by simp)))
    | (go_at_call 57; (with_reducible refine (wr_count w0 p _ its.length _ hw4 (by simp) (by omega) (by omega)).mono ?_); rintro e w5 ⟨rfl, hw5⟩; obtain ⟨c5_0, c5_1, c5_2, c5_3, c5_4⟩ := cells5 (hw5.kp.heap hh0 (by simp))))
  obtain ⟨pre, hpre⟩ : ∃ l, l = [] ++ dig k.toNat (Int.toNat 1) ++ dig fa.toNat (Int.toNat 8) ++ dig fb.toNat (Int.toNat 8) ++ dig ((its.length : Int)).toNat 2 := ⟨_, rfl⟩
  rw [← hpre] at hw5
  have hprl : pre.length = 19 := by rw [hpre]; simp
  have HPRE := Lib.hid hpre
  clear hpre
  have hsum : ∀ n, n ≤ its.length → (itsBytes (its.take n)).length ≤ 300 * n := by
    intro n hnl
    induction n with
    | zero => simp [itsBytes]
    | succ n ih =>
      have h2 := ih (by omega)
      have h3 : itsBytes (its.take (n + 1)) = itsBytes (its.take n) ++ txt its[n] := itsBytes_snoc its n (by omega)
      have h4 := h1 its[n] (List.getElem_mem _)
      rw [h3, List.length_append]
      simp [txt]; omega
  have HS := Lib.hid hsum
  clear hsum
  go_loopw [37] (fun v37 wr => ∃ n : Nat, n ≤ its.length ∧ v37 = .int .i64 n ∧ WR w0 p (pre ++ itsBytes (its.take n)) wr) (fun v37 _ => its.length - (intOf v37).toNat)
  case atStart => exact ⟨0, by omega, rfl, by simpa [itsBytes] using hw5⟩
  case round =>
    obtain ⟨n, hnl, rfl, hw⟩ := hrel
    have hls := HS.out n hnl
    have hlq : (pre ++ itsBytes (its.take n)).length ≤ 3000 := by rw [List.length_append]; omega
    by_cases hlt : n < its.length
    · obtain ⟨ib, io, ua, uc, rfl, hib, hcell, hbx⟩ := (hi.kp0 (hka.trans hw.kp)).at n hlt
      have h3 : itsBytes (its.take (n + 1)) = itsBytes (its.take n) ++ txt its[n] := itsBytes_snoc its n hlt
      have h4 := h1 its[n] (List.getElem_mem hlt)
      generalize its[n] = x at *
      have hcv := b2sc hbx
      have i0 : (0 : Int) ≤ n ∧ (n : Int) < its.length := by omega
      have H3 := Lib.hid h3
      clear h3 hls
      generalize hq : pre ++ itsBytes (its.take n) = q at *
      have HQ := Lib.hid hq
      clear hq
      have hn8 : (n : Int) ≤ 8 := by omega
      go_wp2_with (first
        | (go_at_call 58; (with_reducible refine (wr_text w0 p q x _ hw (by omega) (by omega)).mono ?_); rintro e w6 ⟨rfl, hw6⟩))
      go_roundw
      case measure => simp [intOf]; omega
      case rel => exact ⟨n + 1, by omega, by go_num, by rw [H3.out, ← List.append_assoc, HQ.out]; exact hw6⟩
    · have hd : decide ((n : Int) < (its.length : Int)) = false := by rw [decide_eq_false_iff_not]; omega
      have hq : its.take n = its := List.take_of_length_le (by omega)
      rw [hq] at hw hlq
      obtain ⟨l5, hl5⟩ : ∃ l5, l5 = pre ++ itsBytes its := ⟨_, rfl⟩
      rw [← hl5] at hw hlq
      have HL5 := Lib.hid hl5
      clear hl5 hq hls
      go_wp2_with (first
        | (go_at_call 59; (with_reducible refine (wr_bytes w0 p _ _ hw (by omega)).mono ?_); rintro e w4 ⟨v4, rfl, ho4, hk4⟩; obtain ⟨a4, c4, rfl⟩ := own_form ho4))
      go_ret
      refine ⟨_, rfl, ?_, hka.trans (hw.kp.trans hk4)⟩
      have he : frameBytes ⟨k, fa, fb, its, t⟩ = l5 := by rw [HF.out, HL5.out, HPRE.out]; simp
      rw [he]
      exact own_base ho4 (fun b hb => Nat.le_trans (hka.trans hw.kp).size (ho4.lt b hb).1)
end Go.Proofs.YtddpefbpiehgeaaDoor
