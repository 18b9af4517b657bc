/- The link: Make, Secret. -/
import Derived.Test.YtddpefbpiehgeaaDoorLinkB
namespace Go.Proofs.YtddpefbpiehgeaaDoor
open Go Go.RowKit
set_option maxRecDepth 100000
set_option linter.unusedVariables false
set_option linter.unusedSectionVars false
set_option linter.unusedSimpArgs false

theorem fbytes_calls (f : Fr) (iv tv : Value) (w : World) (hm : mayB f = true) (hi : Rws w iv f.its) (ht : Bs w tv f.t) :
    Calls Tryd.prog 33 #[.agg (fcells f iv tv)] w fun e w' => ∃ v, e = .returned v ∧ OB w' 5 w.heap.size v (frameBytes f) ∧ Kp [] w w' := by
  rcases may_k hm with hk | ⟨hk, _, _, _, h0, h9⟩ | ⟨hk, _, _, _, h9⟩
  · obtain ⟨_, h1, h2, h3, h4, h5, h6⟩ := may_1 hm hk
    exact fbytes_1 f iv tv w hk h1 h3 h4 (by omega) (by omega) (by omega) hi ht
  · exact fbytes_23 f iv tv w hk h0 h9 hi ht
  · exact fbytes_4 f iv tv w hk (by omega) hi ht

theorem itsBytes_le (its : List (List UInt8)) (h : ∀ x ∈ its, x.length ≤ 256) : (itsBytes its).length ≤ 258 * its.length := by
  induction its with
  | nil => simp [itsBytes]
  | cons x l ih =>
    have h1 := ih (fun y hy => h y (by simp [hy]))
    have h2 := h x (by simp)
    have : itsBytes (x :: l) = txt x ++ itsBytes l := rfl
    rw [this, List.length_append, List.length_cons]
    simp [txt]; omega
theorem frameBytes_le (f : Fr) (hm : mayB f = true) : (frameBytes f).length ≤ 17000 := by
  rcases may_k hm with hk | ⟨hk, _, _, _, h0, h9⟩ | ⟨hk, _, _, _, h9⟩
  · obtain ⟨_, h1, h2, h3, h4, h5, h6⟩ := may_1 hm hk
    have := itsBytes_le f.its h1
    unfold frameBytes
    rw [if_pos hk]
    simp; omega
  · unfold frameBytes
    rw [if_neg (by omega), if_neg (by omega)]
    simp
  · unfold frameBytes
    rw [if_neg (by omega), if_pos hk]
    simp [txt]; omega

theorem make_bad (s : ByteArray) (f : Fr) (iv tv : Value) (w : World) (hm : mayB f = false) (hi : Rws w iv f.its) (ht : Bs w tv f.t) (hn : f.its.length ≤ 100000000000000) (hnt : f.t.length ≤ 140737488352000) (hb : f.b ≤ 9223372036854775807) :
    Calls Tryd.prog 11 #[.string s, .agg (fcells f iv tv)] w fun e w' => e = .returned (.tuple #[.slice none 0 0, .int .i64 1]) ∧ Kp [] w w' := by
  obtain ⟨ia, ic, rfl, hic⟩ := hi.form
  obtain ⟨ta, tc, rfl, -⟩ := Sl.form ht
  have hka := (Kp.refl [] w).alloc (.cells (fcells f (.slice ia f.its.length ic) (.slice ta f.t.length tc)) 25)
  have him := may_calls f _ _ _ (hi.kp0 hka) (ht.kp0 hka) hn hnt hb
  rw [hm] at him
  unfold fcells at him hka ⊢
  have HIM := Lib.hid him
  clear him
  go_enter Tryd.func11, Tryd.ntmps11
  go_wp2_with (go_at_call 31; (with_reducible refine HIM.out.mono ?_); rintro e w1 ⟨rfl, hk1⟩)
  go_ret2
  exact ⟨rfl, hka.trans hk1⟩

theorem make_calls (s : ByteArray) (f : Fr) (iv tv : Value) (w : World) (hG : GH w) (hs : s.size ≤ 200) (hm : mayB f = true) (hi : Rws w iv f.its) (ht : Bs w tv f.t) (hn : f.its.length ≤ 100000000000000) (hnt : f.t.length ≤ 140737488352000) (hb : f.b ≤ 9223372036854775807) :
    Calls Tryd.prog 11 #[.string s, .agg (fcells f iv tv)] w (RetB w.heap.size (sealed s (frameBytes f)) 0 w) := by
  obtain ⟨ia, ic, rfl, hic⟩ := hi.form
  obtain ⟨ta, tc, rfl, -⟩ := Sl.form ht
  have hka := (Kp.refl [] w).alloc (.cells (fcells f (.slice ia f.its.length ic) (.slice ta f.t.length tc)) 25)
  have hh0 := heap_alloc_new w (.cells (fcells f (.slice ia f.its.length ic) (.slice ta f.t.length tc)) 25)
  have him := may_calls f _ _ _ (hi.kp0 hka) (ht.kp0 hka) hn hnt hb
  have hfb : ∀ w1, Kp [] w w1 → Calls Tryd.prog 33 #[.agg (fcells f (.slice ia f.its.length ic) (.slice ta f.t.length tc))] w1 fun e w' => ∃ v, e = .returned v ∧ OB w' 5 w1.heap.size v (frameBytes f) ∧ Kp [] w1 w' :=
    fun w1 hk => fbytes_calls f _ _ w1 hm (hi.kp0 hk) (ht.kp0 hk)
  have hle := frameBytes_le f hm
  rw [hm] at him
  unfold fcells at him hka hfb hh0 ⊢
  have HIM := Lib.hid him
  have HFB := Lib.hid hfb
  clear him hfb
  go_enter Tryd.func11, Tryd.ntmps11
  go_wp2_with (first
    | (go_at_call 31; (with_reducible refine HIM.out.mono ?_); rintro e w1 ⟨rfl, hk1⟩; obtain ⟨c1_0, c1_1, c1_2, c1_3, c1_4⟩ := cells5 (hk1.heap hh0 (by simp)); have hkw1 := hka.trans hk1)
    | (go_at_call 33; (with_reducible refine (HFB.out _ hkw1).mono ?_); rintro e w2 ⟨v2, rfl, ho2, hk2⟩; have hkw2 := hkw1.trans hk2)
    | (go_at_call 32; (with_reducible refine (seal_ok s _ _ _ (hG.kp0 hkw2) hs (OB.bs ho2) (by omega)).mono ?_); rintro e w3 ⟨v3, rfl, ho3, hk3⟩))
  go_ret2
  exact ⟨_, rfl, own_base ho3 (fun b hb => Nat.le_trans hkw2.size (ho3.lt b hb).1), hkw2.trans hk3⟩

theorem make_long (s : ByteArray) (f : Fr) (iv tv : Value) (w : World) (hG : GH w) (hs : 200 < s.size) (hm : mayB f = true) (hi : Rws w iv f.its) (ht : Bs w tv f.t) (hn : f.its.length ≤ 100000000000000) (hnt : f.t.length ≤ 140737488352000) (hb : f.b ≤ 9223372036854775807) :
    Calls Tryd.prog 11 #[.string s, .agg (fcells f iv tv)] w fun e w' => e = .returned (.tuple #[.slice none 0 0, .int .i64 2]) ∧ Kp [] w w' := by
  obtain ⟨ia, ic, rfl, hic⟩ := hi.form
  obtain ⟨ta, tc, rfl, -⟩ := Sl.form ht
  have hka := (Kp.refl [] w).alloc (.cells (fcells f (.slice ia f.its.length ic) (.slice ta f.t.length tc)) 25)
  have hh0 := heap_alloc_new w (.cells (fcells f (.slice ia f.its.length ic) (.slice ta f.t.length tc)) 25)
  have him := may_calls f _ _ _ (hi.kp0 hka) (ht.kp0 hka) hn hnt hb
  have hfb : ∀ w1, Kp [] w w1 → Calls Tryd.prog 33 #[.agg (fcells f (.slice ia f.its.length ic) (.slice ta f.t.length tc))] w1 fun e w' => ∃ v, e = .returned v ∧ OB w' 5 w1.heap.size v (frameBytes f) ∧ Kp [] w1 w' :=
    fun w1 hk => fbytes_calls f _ _ w1 hm (hi.kp0 hk) (ht.kp0 hk)
  rw [hm] at him
  unfold fcells at him hka hfb hh0 ⊢
  have HIM := Lib.hid him
  have HFB := Lib.hid hfb
  clear him hfb
  go_enter Tryd.func11, Tryd.ntmps11
  go_wp2_with (first
    | (go_at_call 31; (with_reducible refine HIM.out.mono ?_); rintro e w1 ⟨rfl, hk1⟩; obtain ⟨c1_0, c1_1, c1_2, c1_3, c1_4⟩ := cells5 (hk1.heap hh0 (by simp)); have hkw1 := hka.trans hk1)
    | (go_at_call 33; (with_reducible refine (HFB.out _ hkw1).mono ?_); rintro e w2 ⟨v2, rfl, ho2, hk2⟩; have hkw2 := hkw1.trans hk2)
    | (go_at_call 32; (with_reducible refine (seal_long s _ _ hs).mono ?_); rintro e w3 ⟨rfl, rfl⟩))
  go_ret2
  exact ⟨rfl, hkw2⟩

theorem secret_long (s : ByteArray) (n : Int) (w : World) (hs : 200 < s.size) :
    Calls Tryd.prog 29 #[.string s, .int .i64 n] w fun e w' => e = .returned (.tuple #[.string ⟨#[]⟩, .int .i64 2]) ∧ w = w' := by
  go_enter Tryd.func29, Tryd.ntmps29
  go_wp2_with (first
    | (go_at_call 50; (with_reducible refine (key_long s n _ hs).mono ?_); rintro e w3 ⟨rfl, rfl⟩))
  go_ret2
  exact ⟨rfl, rfl⟩
theorem secret_wide (s : ByteArray) (n : Int) (w : World) (hs : s.size ≤ 200) (hn : n < 0 ∨ 65535 < n) :
    Calls Tryd.prog 29 #[.string s, .int .i64 n] w fun e w' => e = .returned (.tuple #[.string ⟨#[]⟩, .int .i64 1]) ∧ w = w' := by
  go_enter Tryd.func29, Tryd.ntmps29
  go_wp2_with (first
    | (go_at_call 50; (with_reducible refine (key_wide s n _ hs hn).mono ?_); rintro e w3 ⟨rfl, rfl⟩))
  go_ret2
  exact ⟨rfl, rfl⟩
theorem secret_calls (s : ByteArray) (n : Nat) (w : World) (hG : GH w) (hs : s.size ≤ 200) (hn : n ≤ 65535) :
    Calls Tryd.prog 29 #[.string s, .int .i64 n] w fun e w' => e = .returned (.tuple #[.string (keyOf (keyOf s n) 0), .int .i64 0]) ∧ Kp [] w w' := by
  have h32 := keyOf_size s n
  go_enter Tryd.func29, Tryd.ntmps29
  go_wp2_with (first
    | (go_at_call 50; (with_reducible refine (key_calls s n _ hG hs hn).mono ?_); rintro e w1 ⟨rfl, hk1⟩)
    | (go_at_call 50; (refine (key_calls (keyOf s n) 0 _ (hG.kp0 hk1) (by omega) (by omega)).mono ?_); rintro e w2 ⟨rfl, hk2⟩))
  go_ret2
  exact ⟨rfl, hk1.trans hk2⟩
end Go.Proofs.YtddpefbpiehgeaaDoor
