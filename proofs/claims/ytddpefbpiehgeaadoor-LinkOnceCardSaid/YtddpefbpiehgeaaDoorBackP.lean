/- Plain: what is made is parsed as it was, what is parsed is made as it stood. -/
import Derived.Test.YtddpefbpiehgeaaDoorLinkI
namespace Go.Proofs.YtddpefbpiehgeaaDoor
open Go Go.RowKit
set_option maxRecDepth 100000
set_option linter.unusedVariables false
set_option linter.unusedSectionVars false
set_option linter.unusedSimpArgs false

theorem opened_sealed (s : ByteArray) (d : List UInt8) : opened s (sealed s d) = some d := by
  have h := hmac_length s d
  unfold opened sealed
  have hl : (d ++ (hmac s d).take 16).length - 16 = d.length := by rw [List.length_append, List.length_take, h]; omega
  rw [hl, List.take_left, List.drop_left, if_pos rfl]
theorem sealed_length (s : ByteArray) (d : List UInt8) : (sealed s d).length = d.length + 16 := by
  have h := hmac_length s d
  unfold sealed
  rw [List.length_append, List.length_take, h]; rfl
theorem sealed_opened {s : ByteArray} {l d : List UInt8} (h : opened s l = some d) : sealed s d = l := by
  unfold opened at h
  split at h
  · rename_i hc
    cases h
    unfold sealed
    rw [hc, List.take_append_drop]
  · cases h

/-! Reading what stands there -/
def ok0 (s : RS) : Prop := s.code = 0
theorem rdNum_at {d pre post : List UInt8} {n k : Nat} {s : RS} (hc : s.code = 0) (hd : d = pre ++ (dig n k ++ post)) (ha : s.at_ = pre.length) (hn : n < 256 ^ k) (h9 : n ≤ 9223372036854775807) : rdNum d k s = (n, s.move k) := by
  have ht : (d.drop s.at_).take k = dig n k := by
    rw [hd, ha, List.drop_left, List.take_left' (dig_length k n)]
  unfold rdNum
  rw [if_neg (by simpa using hc), if_neg (by rw [hd, ha, List.length_append, List.length_append, dig_length]; omega), ht, num_dig k n hn, if_neg (by omega)]
theorem rdCount_at {d pre post : List UInt8} {n m : Nat} {s : RS} (hc : s.code = 0) (hd : d = pre ++ (dig n 2 ++ post)) (ha : s.at_ = pre.length) (hn : n ≤ m) (hm : m < 65536) : rdCount d m s = (n, s.move 2) := by
  have ht : (d.drop s.at_).take 2 = dig n 2 := by
    rw [hd, ha, List.drop_left, List.take_left' (dig_length 2 n)]
  unfold rdCount
  rw [if_neg (by simpa using hc), if_neg (by rw [hd, ha, List.length_append, List.length_append, dig_length]; omega), ht, num_dig 2 n (by omega), if_neg (by omega)]
theorem rdText_at {d pre post x : List UInt8} {m : Nat} {s : RS} (hc : s.code = 0) (hd : d = pre ++ (txt x ++ post)) (ha : s.at_ = pre.length) (hn : x.length ≤ m) (hm : m < 65536) : rdText d m s = (x, s.move (2 + x.length)) := by
  have hd2 : d = pre ++ (dig x.length 2 ++ (x ++ post)) := by rw [hd, txt, List.append_assoc]
  have ht : (d.drop s.at_).take 2 = dig x.length 2 := by
    rw [hd2, ha, List.drop_left, List.take_left' (dig_length 2 _)]
  have hx : (d.drop (s.at_ + 2)).take x.length = x := by
    rw [← List.drop_drop, hd2, ha, List.drop_left, List.drop_left' (dig_length 2 _), List.take_left]
  unfold rdText
  rw [if_neg (by simpa using hc), if_neg (by rw [hd2, ha, List.length_append, List.length_append, dig_length]; omega), ht, num_dig 2 _ (by omega), if_neg (by omega), if_neg (by rw [hd2, ha, List.length_append, List.length_append, List.length_append, dig_length]; omega), hx]
theorem rdIts_at {d : List UInt8} : ∀ (its pre' : List (List UInt8)) (pre post : List UInt8) (s : RS), s.code = 0 → d = pre ++ (itsBytes its ++ post) → s.at_ = pre.length → (∀ x ∈ its, x.length ≤ 256) →
    ∃ s', rdIts d its.length pre' s = (pre' ++ its, s') ∧ s'.code = 0 ∧ s'.at_ = pre.length + (itsBytes its).length
  | [], pre', pre, post, s, hc, hd, ha, h => ⟨s, by simp [rdIts], hc, by simp [itsBytes, ha]⟩
  | x :: its, pre', pre, post, s, hc, hd, ha, h => by
    have e : itsBytes (x :: its) = txt x ++ itsBytes its := rfl
    rw [e, List.append_assoc] at hd
    have hr := rdText_at (m := 256) hc hd ha (h x (by simp)) (by omega)
    obtain ⟨s', h1, h2, h3⟩ := rdIts_at (d := d) its (pre' ++ [x]) (pre ++ txt x) post (s.move (2 + x.length)) hc (by rw [hd]; simp) (by simp [RS.move, ha, txt]) (fun y hy => h y (by simp [hy]))
    refine ⟨s', ?_, h2, ?_⟩
    · rw [List.length_cons, rdIts, hr, h1]; simp
    · rw [h3, e]; simp; omega
theorem rdEnd_at {d : List UInt8} {s : RS} (ha : s.at_ = d.length) : rdEnd d s = s := by
  unfold rdEnd
  rw [if_neg (by omega)]

theorem parsed_frame {f : Fr} (hm : mayB f = true) : parsed (frameBytes f) = some f := by
  obtain ⟨fk, fa, fb, its, t⟩ := f
  rcases may_k hm with hk | ⟨hk, ha, hi, ht, h0, h9⟩ | ⟨hk, ha, hi, hb, h9⟩
  · obtain ⟨ht, hx, hn1, hn8, ha1, hab, hb9⟩ := may_1 hm hk
    simp only at *
    subst hk ht
    have hd : frameBytes ⟨1, fa, fb, its, []⟩ = dig 1 1 ++ (dig fa.toNat 8 ++ (dig fb.toNat 8 ++ (dig its.length 2 ++ itsBytes its))) := rfl
    have h1 := rdNum_at (d := frameBytes ⟨1, fa, fb, its, []⟩) (pre := []) (n := 1) (k := 1) (s := ⟨0, 0, 0, 0⟩) rfl hd rfl (by decide) (by omega : 1 ≤ 9223372036854775807)
    have h2 := rdNum_at (d := frameBytes ⟨1, fa, fb, its, []⟩) (pre := dig 1 1) (k := 8) (s := RS.move ⟨0, 0, 0, 0⟩ 1) rfl hd (by simp [RS.move]) (by simp; omega) (by omega : fa.toNat ≤ 9223372036854775807)
    have h3 := rdNum_at (d := frameBytes ⟨1, fa, fb, its, []⟩) (pre := dig 1 1 ++ dig fa.toNat 8) (k := 8) (post := dig its.length 2 ++ itsBytes its) (s := RS.move (RS.move ⟨0, 0, 0, 0⟩ 1) 8) rfl (by rw [hd]; simp) (by simp [RS.move]) (by simp; omega) (by omega : fb.toNat ≤ 9223372036854775807)
    have h4 := rdCount_at (d := frameBytes ⟨1, fa, fb, its, []⟩) (pre := dig 1 1 ++ (dig fa.toNat 8 ++ dig fb.toNat 8)) (post := itsBytes its) (s := RS.move (RS.move (RS.move ⟨0, 0, 0, 0⟩ 1) 8) 8) rfl (by rw [hd]; simp) (by simp [RS.move]) hn8 (by omega)
    obtain ⟨s', h5, h6, h7⟩ := rdIts_at (d := frameBytes ⟨1, fa, fb, its, []⟩) its [] (dig 1 1 ++ (dig fa.toNat 8 ++ (dig fb.toNat 8 ++ dig its.length 2))) [] (RS.move (RS.move (RS.move (RS.move ⟨0, 0, 0, 0⟩ 1) 8) 8) 2) rfl (by rw [hd]; simp) (by simp [RS.move]) hx
    have h8 : rdEnd (frameBytes ⟨1, fa, fb, its, []⟩) s' = s' := rdEnd_at (by rw [h7, hd]; simp; omega)
    have hr : rdFrame (frameBytes ⟨1, fa, fb, its, []⟩) = (⟨1, fa, fb, its, []⟩, s') := by
      unfold rdFrame
      simp only [h1, h2, h3, h4, h5, h8, if_true, List.nil_append]
      rw [show ((fa.toNat : Nat) : Int) = fa by omega, show ((fb.toNat : Nat) : Int) = fb by omega]
      rfl
    unfold parsed
    rw [hr]
    simp only [h6, hm]
    rfl
  · simp only at *
    subst ha hi ht
    have hk' : fk.toNat = 2 ∨ fk.toNat = 3 := by omega
    have hd : frameBytes ⟨fk, 0, fb, [], []⟩ = dig fk.toNat 1 ++ dig fb.toNat 8 := by
      unfold frameBytes; rw [if_neg (by simp only; omega), if_neg (by simp only; omega)]
    have h1 := rdNum_at (d := frameBytes ⟨fk, 0, fb, [], []⟩) (pre := []) (k := 1) (s := ⟨0, 0, 0, 0⟩) rfl hd rfl (by simp; omega) (by omega : fk.toNat ≤ 9223372036854775807)
    have h2 := rdNum_at (d := frameBytes ⟨fk, 0, fb, [], []⟩) (pre := dig fk.toNat 1) (post := []) (k := 8) (s := RS.move ⟨0, 0, 0, 0⟩ 1) rfl (by rw [hd]; simp) (by simp [RS.move]) (by simp; omega) (by omega : fb.toNat ≤ 9223372036854775807)
    have h8 : rdEnd (frameBytes ⟨fk, 0, fb, [], []⟩) (RS.move (RS.move ⟨0, 0, 0, 0⟩ 1) 8) = (RS.move (RS.move ⟨0, 0, 0, 0⟩ 1) 8) := rdEnd_at (by rw [hd]; simp [RS.move])
    have hr : rdFrame (frameBytes ⟨fk, 0, fb, [], []⟩) = (⟨fk, 0, fb, [], []⟩, RS.move (RS.move ⟨0, 0, 0, 0⟩ 1) 8) := by
      unfold rdFrame
      simp only [h1, h2, h8]
      rw [if_neg (by omega), if_neg (by omega), show ((fk.toNat : Nat) : Int) = fk by omega, show ((fb.toNat : Nat) : Int) = fb by omega]
    unfold parsed
    rw [hr]
    simp only [hm]
    rfl
  · simp only at *
    subst hk ha hi hb
    have hd : frameBytes ⟨4, 0, 0, [], t⟩ = dig 4 1 ++ txt t := rfl
    have h1 := rdNum_at (d := frameBytes ⟨4, 0, 0, [], t⟩) (pre := []) (n := 4) (k := 1) (s := ⟨0, 0, 0, 0⟩) rfl hd rfl (by decide) (by omega : 4 ≤ 9223372036854775807)
    have h2 := rdText_at (d := frameBytes ⟨4, 0, 0, [], t⟩) (pre := dig 4 1) (post := []) (m := 16100) (s := RS.move ⟨0, 0, 0, 0⟩ 1) rfl (by rw [hd]; simp) (by simp [RS.move]) h9 (by omega)
    have h8 : rdEnd (frameBytes ⟨4, 0, 0, [], t⟩) (RS.move (RS.move ⟨0, 0, 0, 0⟩ 1) (2 + t.length)) = (RS.move (RS.move ⟨0, 0, 0, 0⟩ 1) (2 + t.length)) := rdEnd_at (by rw [hd]; simp [RS.move, txt])
    have hr : rdFrame (frameBytes ⟨4, 0, 0, [], t⟩) = (⟨4, 0, 0, [], t⟩, RS.move (RS.move ⟨0, 0, 0, 0⟩ 1) (2 + t.length)) := by
      unfold rdFrame
      simp only [h1, h2, h8]
      rfl
    unfold parsed
    rw [hr]
    simp only [hm]
    rfl

/-! What stood there, when something was read -/
theorem rdNum_ok {d : List UInt8} {k n : Nat} {s s' : RS} (h : rdNum d k s = (n, s')) (hc : s'.code = 0) : s.code = 0 ∧ s' = s.move k ∧ d.drop s.at_ = dig n k ++ d.drop (s.at_ + k) ∧ s.at_ + k ≤ d.length := by
  unfold rdNum at h
  split at h
  · cases h; exact absurd hc (by assumption)
  · rename_i h0
    split at h
    · cases h; simp [RS.fault] at hc
    · split at h
      · cases h; simp [RS.fault] at hc
      · cases h
        have hl : ((d.drop s.at_).take k).length = k := by simp; omega
        refine ⟨by simpa using h0, rfl, ?_, by omega⟩
        have := dig_num ((d.drop s.at_).take k)
        rw [hl] at this
        rw [this, ← List.drop_drop, List.take_append_drop]
theorem rdCount_ok {d : List UInt8} {m n : Nat} {s s' : RS} (h : rdCount d m s = (n, s')) (hc : s'.code = 0) : s.code = 0 ∧ s' = s.move 2 ∧ d.drop s.at_ = dig n 2 ++ d.drop (s.at_ + 2) ∧ s.at_ + 2 ≤ d.length := by
  unfold rdCount at h
  split at h
  · cases h; exact absurd hc (by assumption)
  · rename_i h0
    split at h
    · cases h; simp [RS.fault] at hc
    · split at h
      · cases h; simp [RS.fault] at hc
      · cases h
        have hl : ((d.drop s.at_).take 2).length = 2 := by simp; omega
        refine ⟨by simpa using h0, rfl, ?_, by omega⟩
        have := dig_num ((d.drop s.at_).take 2)
        rw [hl] at this
        rw [this, ← List.drop_drop, List.take_append_drop]
theorem rdText_ok {d x : List UInt8} {m : Nat} {s s' : RS} (h : rdText d m s = (x, s')) (hc : s'.code = 0) : s.code = 0 ∧ d.drop s.at_ = txt x ++ d.drop s'.at_ ∧ s'.at_ ≤ d.length := by
  unfold rdText at h
  split at h
  · cases h; exact absurd hc (by assumption)
  · rename_i h0
    split at h
    · cases h; simp [RS.fault] at hc
    · split at h
      · cases h; simp [RS.fault] at hc
      · split at h
        · cases h; simp [RS.fault] at hc
        · cases h
          have hl : ((d.drop s.at_).take 2).length = 2 := by simp; omega
          have hn := dig_num ((d.drop s.at_).take 2)
          rw [hl] at hn
          have hx : ((d.drop (s.at_ + 2)).take (num ((d.drop s.at_).take 2))).length = num ((d.drop s.at_).take 2) := by simp; omega
          refine ⟨by simpa using h0, ?_, by simp only [RS.move]; omega⟩
          unfold txt
          rw [hx, hn, List.append_assoc]
          simp only [RS.move]
          rw [show s.at_ + (2 + num ((d.drop s.at_).take 2)) = s.at_ + 2 + num ((d.drop s.at_).take 2) by omega, ← List.drop_drop (j := s.at_ + 2), List.take_append_drop, ← List.drop_drop, List.take_append_drop]
theorem rdIts_ok {d : List UInt8} : ∀ (n : Nat) (pre its : List (List UInt8)) (s s' : RS), rdIts d n pre s = (its, s') → s'.code = 0 → s.code = 0 ∧ ∃ l, its = pre ++ l ∧ l.length = n ∧ d.drop s.at_ = itsBytes l ++ d.drop s'.at_
  | 0, pre, its, s, s', h, hc => by
    cases h
    exact ⟨hc, [], by simp, rfl, rfl⟩
  | n + 1, pre, its, s, s', h, hc => by
    rw [rdIts] at h
    obtain ⟨x, s1, hx⟩ : ∃ x s1, rdText d 256 s = (x, s1) := ⟨_, _, rfl⟩
    rw [hx] at h
    obtain ⟨h1, l, h2, h3, h4⟩ := rdIts_ok n _ _ _ _ h hc
    obtain ⟨h5, h6, _⟩ := rdText_ok hx h1
    refine ⟨h5, x :: l, by rw [h2]; simp, by simp [h3], ?_⟩
    rw [h6, h4, ← List.append_assoc]; rfl
theorem rdEnd_ok {d : List UInt8} {s : RS} (hc : (rdEnd d s).code = 0) : s.code = 0 ∧ d.length ≤ s.at_ := by
  unfold rdEnd at hc
  split at hc
  · simp [RS.fault] at hc
  · rename_i h
    exact ⟨hc, by omega⟩

theorem frame_parsed {d : List UInt8} {f : Fr} (h : parsed d = some f) : frameBytes f = d ∧ mayB f = true := by
  unfold parsed at h
  split at h
  · rename_i hc
    simp only [Bool.and_eq_true, decide_eq_true_eq] at hc
    obtain ⟨hc, hm⟩ := hc
    cases h
    refine ⟨?_, hm⟩
    unfold rdFrame at hc hm ⊢
    obtain ⟨k, s1, h1⟩ : ∃ k s1, rdNum d 1 ⟨0, 0, 0, 0⟩ = (k, s1) := ⟨_, _, rfl⟩
    simp only [h1] at hc hm ⊢
    by_cases hk1 : k = 1
    · simp only [if_pos hk1] at hc hm ⊢
      obtain ⟨fa, sa, ha⟩ : ∃ k s1', rdNum d 8 s1 = (k, s1') := ⟨_, _, rfl⟩
      obtain ⟨b, s2, h2⟩ : ∃ k s1', rdNum d 8 sa = (k, s1') := ⟨_, _, rfl⟩
      obtain ⟨N, s4, h4⟩ : ∃ k s1', rdCount d 8 s2 = (k, s1') := ⟨_, _, rfl⟩
      obtain ⟨its, s5, h5⟩ : ∃ k s1', rdIts d N [] s4 = (k, s1') := ⟨_, _, rfl⟩
      simp only [ha, h2, h4, h5] at hc hm ⊢
      obtain ⟨c5, e5⟩ := rdEnd_ok hc
      obtain ⟨c4, l, hl, hN, d5⟩ := rdIts_ok _ _ _ _ _ h5 c5
      obtain ⟨c2, e4, d4, _⟩ := rdCount_ok h4 c4
      obtain ⟨ca, e2, d2, _⟩ := rdNum_ok h2 c2
      obtain ⟨c1, ea, da, _⟩ := rdNum_ok ha ca
      obtain ⟨_, e1, d1, _⟩ := rdNum_ok h1 c1
      rw [List.nil_append] at hl
      subst hl
      subst e1 ea e2 e4
      simp only [RS.move, List.drop_zero] at d1 da d2 d4 d5
      rw [List.drop_of_length_le e5, List.append_nil] at d5
      rw [d5] at d4
      rw [d4] at d2
      rw [d2] at da
      rw [da] at d1
      subst hk1
      unfold frameBytes
      rw [if_pos (show ((1 : Nat) : Int) = 1 from rfl)]
      simp only [Int.toNat_natCast]
      rw [hN]
      exact d1.symm
    · simp only [if_neg hk1] at hc hm ⊢
      by_cases hk4 : k = 4
      · simp only [if_pos hk4] at hc hm ⊢
        obtain ⟨t, s2, h2⟩ : ∃ k s1', rdText d 16100 s1 = (k, s1') := ⟨_, _, rfl⟩
        simp only [h2] at hc hm ⊢
        obtain ⟨c2, e2⟩ := rdEnd_ok hc
        obtain ⟨c1, d2, _⟩ := rdText_ok h2 c2
        obtain ⟨_, e1, d1, _⟩ := rdNum_ok h1 c1
        subst e1
        simp only [RS.move, List.drop_zero] at d1 d2
        rw [List.drop_of_length_le e2, List.append_nil] at d2
        rw [d2] at d1
        subst hk4
        unfold frameBytes
        rw [if_neg (by simp), if_pos (show ((4 : Nat) : Int) = 4 from rfl)]
        exact d1.symm
      · simp only [if_neg hk4] at hc hm ⊢
        obtain ⟨b, s2, h2⟩ : ∃ k s1', rdNum d 8 s1 = (k, s1') := ⟨_, _, rfl⟩
        simp only [h2] at hc hm ⊢
        obtain ⟨c2, e2⟩ := rdEnd_ok hc
        obtain ⟨c1, e2', d2, _⟩ := rdNum_ok h2 c2
        obtain ⟨_, e1, d1, _⟩ := rdNum_ok h1 c1
        subst e1 e2'
        simp only [RS.move, List.drop_zero] at d1 d2 e2
        rw [List.drop_of_length_le e2, List.append_nil] at d2
        rw [d2] at d1
        unfold frameBytes
        rw [if_neg (by simp only; omega), if_neg (by simp only; omega)]
        exact d1.symm
  · cases h

theorem parsedOf_made {s : ByteArray} {f : Fr} {l : List UInt8} (h : madeOf s f = (l, 0)) : parsedOf s l = (f, 0) := by
  unfold madeOf at h
  split at h
  · cases h
  · rename_i hm
    split at h
    · cases h
    · rename_i hs
      cases h
      have hl := sealed_length s (frameBytes f)
      unfold parsedOf
      rw [if_neg hs, if_neg (by omega), opened_sealed]
      simp only
      rw [parsed_frame (by simpa using hm)]
theorem madeOf_parsed {s : ByteArray} {f : Fr} {l : List UInt8} (h : parsedOf s l = (f, 0)) : madeOf s f = (l, 0) := by
  unfold parsedOf at h
  split at h
  · cases h
  · rename_i hs
    split at h
    · cases h
    · split at h
      · cases h
      · rename_i d ho
        split at h
        · cases h
        · rename_i f' hp
          cases h
          obtain ⟨h1, h2⟩ := frame_parsed hp
          unfold madeOf
          rw [h2, if_neg (by simp), if_neg hs, h1, sealed_opened ho]
theorem madeOf_err {s : ByteArray} {f : Fr} (h : (madeOf s f).2 ≠ 0) : (madeOf s f).1 = [] := by
  unfold madeOf at h ⊢
  split
  · rfl
  · split
    · rfl
    · rename_i h1 h2
      rw [if_neg h1, if_neg h2] at h
      exact absurd rfl h
end Go.Proofs.YtddpefbpiehgeaaDoor
