/- The link: a tick, whatever comes in. -/
import Derived.Test.YtddpefbpiehgeaaDoorT14
import Derived.Test.YtddpefbpiehgeaaDoorT07
import Derived.Test.YtddpefbpiehgeaaDoorT11
import Derived.Test.YtddpefbpiehgeaaDoorT12
namespace Go.Proofs.YtddpefbpiehgeaaDoor
open Go Go.RowKit
set_option maxRecDepth 100000
set_option linter.unusedVariables false
set_option linter.unusedSectionVars false
set_option linter.unusedSimpArgs false

theorem tick_calls (P : Nat → Prop) (p mb n win bat : Nat) (ev clk : Int) (f : Sent) (v : Value) (cs : List Value) (xs : List It) (w : World) (hP : ¬ P p) (hP2 : ¬ P mb) (hs : IsS w p mb n win bat ev clk f) (hclk : clk ≤ 100000000000000) (hnn : n ≤ 10000000000000) (hsl : Sl w 2 v xs.length cs) (hv : BlkP P v) (hi : ItC P w cs xs) (hn : xs.length ≤ 100000000000000) (hl : ∀ x ∈ xs, x.b.length ≤ 140737488355328) :
    Calls Tryd.prog 28 #[.pointer (some ⟨p, 0, none⟩), v] w (RetT (tick win bat (clk + 1) ev f xs) p mb n win bat ev (clk + 1) w) := by
  cases hr : rowB xs with
  | false => exact tick_bad P p mb n win bat ev clk f v cs xs w hP hP2 hs hclk hsl hv hi hn hl hr
  | true =>
    rcases Nat.lt_or_ge win xs.length with h | h
    · exact tick_okA P p mb n win bat ev clk f v cs xs w hP hP2 hs hclk hnn hsl hv hi hn hr h
    · exact tick_okB P p mb n win bat ev clk f v cs xs w hP hP2 hs hclk hnn hsl hv hi hn hr h

/-- The frame at a place of a row of frames. -/
theorem frame_at {P : Nat → Prop} {w : World} {a : Option Addr} {n cap : Nat} {cs : List Value} {fs : List Fr} (hs : Sl w 5 (.slice a n cap) n cs) (hf : FrC P w cs fs) (hn : n = fs.length) (i : Nat) (h : i < fs.length) :
    ∃ b off iv tv, a = some ⟨b, off, none⟩ ∧ b < w.heap.size ∧
      w.cell? ⟨b, off + i * 5, none⟩ = some (.int .i64 fs[i].k) ∧ w.cell? ⟨b, off + i * 5 + 1, none⟩ = some (.int .i64 fs[i].a) ∧ w.cell? ⟨b, off + i * 5 + 2, none⟩ = some (.int .i64 fs[i].b) ∧ w.cell? ⟨b, off + i * 5 + 3, none⟩ = some iv ∧ w.cell? ⟨b, off + i * 5 + 4, none⟩ = some tv ∧
      RwP P w iv fs[i].its ∧ Bs w tv fs[i].t ∧ BlkP P tv := by
  obtain ⟨a', cap', he, hc, _, h6, h7⟩ := Sl.form hs
  cases he
  obtain ⟨b, off, rfl, hlt⟩ := h6 (by omega)
  obtain ⟨iv, tv, h1, h2, h3, h4⟩ := hf.2 i h
  have hcell : ∀ j u, j < 5 → (fcells fs[i] iv tv).toList[j]? = some u → w.cell? ⟨b, off + (i * 5 + j), none⟩ = some u := fun j u hj hu => by
    refine (h7 b off rfl).2 _ _ ?_
    rw [← h1, List.getElem?_take, if_pos hj, List.getElem?_drop] at hu
    exact hu
  exact ⟨b, off, iv, tv, rfl, hlt, hcell 0 _ (by omega) rfl, hcell 1 _ (by omega) rfl, hcell 2 _ (by omega) rfl, hcell 3 _ (by omega) rfl, hcell 4 _ (by omega) rfl, h2, h3, h4⟩
end Go.Proofs.YtddpefbpiehgeaaDoor

/- Plain: what is made is parsed as it was, what is parsed is made as it stood. -/
namespace Go.Proofs.YtddpefbpiehgeaaDoor
open Go Go.RowKit
set_option maxRecDepth 100000
set_option linter.unusedVariables false
set_option linter.unusedSectionVars false
set_option linter.unusedSimpArgs false

theorem opened_sealed (s : ByteArray) (d : List UInt8) : opened s (sealed s d) = some d := by
  have h := hmac_length s d
  unfold opened sealed
  have hl : (d ++ (hmac s d).take 16).length - 16 = d.length := by rw [List.length_append, List.length_take, h]; omega
  rw [hl, List.take_left, List.drop_left, if_pos rfl]
theorem sealed_length (s : ByteArray) (d : List UInt8) : (sealed s d).length = d.length + 16 := by
  have h := hmac_length s d
  unfold sealed
  rw [List.length_append, List.length_take, h]; rfl
theorem sealed_opened {s : ByteArray} {l d : List UInt8} (h : opened s l = some d) : sealed s d = l := by
  unfold opened at h
  split at h
  · rename_i hc
    cases h
    unfold sealed
    rw [hc, List.take_append_drop]
  · cases h

/-! Reading what stands there -/
def ok0 (s : RS) : Prop := s.code = 0
theorem rdNum_at {d pre post : List UInt8} {n k : Nat} {s : RS} (hc : s.code = 0) (hd : d = pre ++ (dig n k ++ post)) (ha : s.at_ = pre.length) (hn : n < 256 ^ k) (h9 : n ≤ 9223372036854775807) : rdNum d k s = (n, s.move k) := by
  have ht : (d.drop s.at_).take k = dig n k := by
    rw [hd, ha, List.drop_left, List.take_left' (dig_length k n)]
  unfold rdNum
  rw [if_neg (by simpa using hc), if_neg (by rw [hd, ha, List.length_append, List.length_append, dig_length]; omega), ht, num_dig k n hn, if_neg (by omega)]
theorem rdCount_at {d pre post : List UInt8} {n m : Nat} {s : RS} (hc : s.code = 0) (hd : d = pre ++ (dig n 2 ++ post)) (ha : s.at_ = pre.length) (hn : n ≤ m) (hm : m < 65536) : rdCount d m s = (n, s.move 2) := by
  have ht : (d.drop s.at_).take 2 = dig n 2 := by
    rw [hd, ha, List.drop_left, List.take_left' (dig_length 2 n)]
  unfold rdCount
  rw [if_neg (by simpa using hc), if_neg (by rw [hd, ha, List.length_append, List.length_append, dig_length]; omega), ht, num_dig 2 n (by omega), if_neg (by omega)]
theorem rdText_at {d pre post x : List UInt8} {m : Nat} {s : RS} (hc : s.code = 0) (hd : d = pre ++ (txt x ++ post)) (ha : s.at_ = pre.length) (hn : x.length ≤ m) (hm : m < 65536) : rdText d m s = (x, s.move (2 + x.length)) := by
  have hd2 : d = pre ++ (dig x.length 2 ++ (x ++ post)) := by rw [hd, txt, List.append_assoc]
  have ht : (d.drop s.at_).take 2 = dig x.length 2 := by
    rw [hd2, ha, List.drop_left, List.take_left' (dig_length 2 _)]
  have hx : (d.drop (s.at_ + 2)).take x.length = x := by
    rw [← List.drop_drop, hd2, ha, List.drop_left, List.drop_left' (dig_length 2 _), List.take_left]
  unfold rdText
  rw [if_neg (by simpa using hc), if_neg (by rw [hd2, ha, List.length_append, List.length_append, dig_length]; omega), ht, num_dig 2 _ (by omega), if_neg (by omega), if_neg (by rw [hd2, ha, List.length_append, List.length_append, List.length_append, dig_length]; omega), hx]
theorem rdIts_at {d : List UInt8} : ∀ (its pre' : List (List UInt8)) (pre post : List UInt8) (s : RS), s.code = 0 → d = pre ++ (itsBytes its ++ post) → s.at_ = pre.length → (∀ x ∈ its, x.length ≤ 256) →
    ∃ s', rdIts d its.length pre' s = (pre' ++ its, s') ∧ s'.code = 0 ∧ s'.at_ = pre.length + (itsBytes its).length
  | [], pre', pre, post, s, hc, hd, ha, h => ⟨s, by simp [rdIts], hc, by simp [itsBytes, ha]⟩
  | x :: its, pre', pre, post, s, hc, hd, ha, h => by
    have e : itsBytes (x :: its) = txt x ++ itsBytes its := rfl
    rw [e, List.append_assoc] at hd
    have hr := rdText_at (m := 256) hc hd ha (h x (by simp)) (by omega)
    obtain ⟨s', h1, h2, h3⟩ := rdIts_at (d := d) its (pre' ++ [x]) (pre ++ txt x) post (s.move (2 + x.length)) hc (by rw [hd]; simp) (by simp [RS.move, ha, txt]) (fun y hy => h y (by simp [hy]))
    refine ⟨s', ?_, h2, ?_⟩
    · rw [List.length_cons, rdIts, hr, h1]; simp
    · rw [h3, e]; simp; omega
theorem rdEnd_at {d : List UInt8} {s : RS} (ha : s.at_ = d.length) : rdEnd d s = s := by
  unfold rdEnd
  rw [if_neg (by omega)]

theorem parsed_frame {f : Fr} (hm : mayB f = true) : parsed (frameBytes f) = some f := by
  obtain ⟨fk, fa, fb, its, t⟩ := f
  rcases may_k hm with hk | ⟨hk, ha, hi, ht, h0, h9⟩ | ⟨hk, ha, hi, hb, h9⟩
  · obtain ⟨ht, hx, hn1, hn8, ha1, hab, hb9⟩ := may_1 hm hk
    simp only at *
    subst hk ht
    have hd : frameBytes ⟨1, fa, fb, its, []⟩ = dig 1 1 ++ (dig fa.toNat 8 ++ (dig fb.toNat 8 ++ (dig its.length 2 ++ itsBytes its))) := rfl
    have h1 := rdNum_at (d := frameBytes ⟨1, fa, fb, its, []⟩) (pre := []) (n := 1) (k := 1) (s := ⟨0, 0, 0, 0⟩) rfl hd rfl (by decide) (by omega : 1 ≤ 9223372036854775807)
    have h2 := rdNum_at (d := frameBytes ⟨1, fa, fb, its, []⟩) (pre := dig 1 1) (k := 8) (s := RS.move ⟨0, 0, 0, 0⟩ 1) rfl hd (by simp [RS.move]) (by simp; omega) (by omega : fa.toNat ≤ 9223372036854775807)
    have h3 := rdNum_at (d := frameBytes ⟨1, fa, fb, its, []⟩) (pre := dig 1 1 ++ dig fa.toNat 8) (k := 8) (post := dig its.length 2 ++ itsBytes its) (s := RS.move (RS.move ⟨0, 0, 0, 0⟩ 1) 8) rfl (by rw [hd]; simp) (by simp [RS.move]) (by simp; omega) (by omega : fb.toNat ≤ 9223372036854775807)
    have h4 := rdCount_at (d := frameBytes ⟨1, fa, fb, its, []⟩) (pre := dig 1 1 ++ (dig fa.toNat 8 ++ dig fb.toNat 8)) (post := itsBytes its) (s := RS.move (RS.move (RS.move ⟨0, 0, 0, 0⟩ 1) 8) 8) rfl (by rw [hd]; simp) (by simp [RS.move]) hn8 (by omega)
    obtain ⟨s', h5, h6, h7⟩ := rdIts_at (d := frameBytes ⟨1, fa, fb, its, []⟩) its [] (dig 1 1 ++ (dig fa.toNat 8 ++ (dig fb.toNat 8 ++ dig its.length 2))) [] (RS.move (RS.move (RS.move (RS.move ⟨0, 0, 0, 0⟩ 1) 8) 8) 2) rfl (by rw [hd]; simp) (by simp [RS.move]) hx
    have h8 : rdEnd (frameBytes ⟨1, fa, fb, its, []⟩) s' = s' := rdEnd_at (by rw [h7, hd]; simp; omega)
    have hr : rdFrame (frameBytes ⟨1, fa, fb, its, []⟩) = (⟨1, fa, fb, its, []⟩, s') := by
      unfold rdFrame
      simp only [h1, h2, h3, h4, h5, h8, if_true, List.nil_append]
      rw [show ((fa.toNat : Nat) : Int) = fa by omega, show ((fb.toNat : Nat) : Int) = fb by omega]
      rfl
    unfold parsed
    rw [hr]
    simp only [h6, hm]
    rfl
  · simp only at *
    subst ha hi ht
    have hk' : fk.toNat = 2 ∨ fk.toNat = 3 := by omega
    have hd : frameBytes ⟨fk, 0, fb, [], []⟩ = dig fk.toNat 1 ++ dig fb.toNat 8 := by
      unfold frameBytes; rw [if_neg (by simp only; omega), if_neg (by simp only; omega)]
    have h1 := rdNum_at (d := frameBytes ⟨fk, 0, fb, [], []⟩) (pre := []) (k := 1) (s := ⟨0, 0, 0, 0⟩) rfl hd rfl (by simp; omega) (by omega : fk.toNat ≤ 9223372036854775807)
    have h2 := rdNum_at (d := frameBytes ⟨fk, 0, fb, [], []⟩) (pre := dig fk.toNat 1) (post := []) (k := 8) (s := RS.move ⟨0, 0, 0, 0⟩ 1) rfl (by rw [hd]; simp) (by simp [RS.move]) (by simp; omega) (by omega : fb.toNat ≤ 9223372036854775807)
    have h8 : rdEnd (frameBytes ⟨fk, 0, fb, [], []⟩) (RS.move (RS.move ⟨0, 0, 0, 0⟩ 1) 8) = (RS.move (RS.move ⟨0, 0, 0, 0⟩ 1) 8) := rdEnd_at (by rw [hd]; simp [RS.move])
    have hr : rdFrame (frameBytes ⟨fk, 0, fb, [], []⟩) = (⟨fk, 0, fb, [], []⟩, RS.move (RS.move ⟨0, 0, 0, 0⟩ 1) 8) := by
      unfold rdFrame
      simp only [h1, h2, h8]
      rw [if_neg (by omega), if_neg (by omega), show ((fk.toNat : Nat) : Int) = fk by omega, show ((fb.toNat : Nat) : Int) = fb by omega]
    unfold parsed
    rw [hr]
    simp only [hm]
    rfl
  · simp only at *
    subst hk ha hi hb
    have hd : frameBytes ⟨4, 0, 0, [], t⟩ = dig 4 1 ++ txt t := rfl
    have h1 := rdNum_at (d := frameBytes ⟨4, 0, 0, [], t⟩) (pre := []) (n := 4) (k := 1) (s := ⟨0, 0, 0, 0⟩) rfl hd rfl (by decide) (by omega : 4 ≤ 9223372036854775807)
    have h2 := rdText_at (d := frameBytes ⟨4, 0, 0, [], t⟩) (pre := dig 4 1) (post := []) (m := 16100) (s := RS.move ⟨0, 0, 0, 0⟩ 1) rfl (by rw [hd]; simp) (by simp [RS.move]) h9 (by omega)
    have h8 : rdEnd (frameBytes ⟨4, 0, 0, [], t⟩) (RS.move (RS.move ⟨0, 0, 0, 0⟩ 1) (2 + t.length)) = (RS.move (RS.move ⟨0, 0, 0, 0⟩ 1) (2 + t.length)) := rdEnd_at (by rw [hd]; simp [RS.move, txt])
    have hr : rdFrame (frameBytes ⟨4, 0, 0, [], t⟩) = (⟨4, 0, 0, [], t⟩, RS.move (RS.move ⟨0, 0, 0, 0⟩ 1) (2 + t.length)) := by
      unfold rdFrame
      simp only [h1, h2, h8]
      rfl
    unfold parsed
    rw [hr]
    simp only [hm]
    rfl

/-! What stood there, when something was read -/
theorem rdNum_ok {d : List UInt8} {k n : Nat} {s s' : RS} (h : rdNum d k s = (n, s')) (hc : s'.code = 0) : s.code = 0 ∧ s' = s.move k ∧ d.drop s.at_ = dig n k ++ d.drop (s.at_ + k) ∧ s.at_ + k ≤ d.length := by
  unfold rdNum at h
  split at h
  · cases h; exact absurd hc (by assumption)
  · rename_i h0
    split at h
    · cases h; simp [RS.fault] at hc
    · split at h
      · cases h; simp [RS.fault] at hc
      · cases h
        have hl : ((d.drop s.at_).take k).length = k := by simp; omega
        refine ⟨by simpa using h0, rfl, ?_, by omega⟩
        have := dig_num ((d.drop s.at_).take k)
        rw [hl] at this
        rw [this, ← List.drop_drop, List.take_append_drop]
theorem rdCount_ok {d : List UInt8} {m n : Nat} {s s' : RS} (h : rdCount d m s = (n, s')) (hc : s'.code = 0) : s.code = 0 ∧ s' = s.move 2 ∧ d.drop s.at_ = dig n 2 ++ d.drop (s.at_ + 2) ∧ s.at_ + 2 ≤ d.length := by
  unfold rdCount at h
  split at h
  · cases h; exact absurd hc (by assumption)
  · rename_i h0
    split at h
    · cases h; simp [RS.fault] at hc
    · split at h
      · cases h; simp [RS.fault] at hc
      · cases h
        have hl : ((d.drop s.at_).take 2).length = 2 := by simp; omega
        refine ⟨by simpa using h0, rfl, ?_, by omega⟩
        have := dig_num ((d.drop s.at_).take 2)
        rw [hl] at this
        rw [this, ← List.drop_drop, List.take_append_drop]
theorem rdText_ok {d x : List UInt8} {m : Nat} {s s' : RS} (h : rdText d m s = (x, s')) (hc : s'.code = 0) : s.code = 0 ∧ d.drop s.at_ = txt x ++ d.drop s'.at_ ∧ s'.at_ ≤ d.length := by
  unfold rdText at h
  split at h
  · cases h; exact absurd hc (by assumption)
  · rename_i h0
    split at h
    · cases h; simp [RS.fault] at hc
    · split at h
      · cases h; simp [RS.fault] at hc
      · split at h
        · cases h; simp [RS.fault] at hc
        · cases h
          have hl : ((d.drop s.at_).take 2).length = 2 := by simp; omega
          have hn := dig_num ((d.drop s.at_).take 2)
          rw [hl] at hn
          have hx : ((d.drop (s.at_ + 2)).take (num ((d.drop s.at_).take 2))).length = num ((d.drop s.at_).take 2) := by simp; omega
          refine ⟨by simpa using h0, ?_, by simp only [RS.move]; omega⟩
          unfold txt
          rw [hx, hn, List.append_assoc]
          simp only [RS.move]
          rw [show s.at_ + (2 + num ((d.drop s.at_).take 2)) = s.at_ + 2 + num ((d.drop s.at_).take 2) by omega, ← List.drop_drop (j := s.at_ + 2), List.take_append_drop, ← List.drop_drop, List.take_append_drop]
theorem rdIts_ok {d : List UInt8} : ∀ (n : Nat) (pre its : List (List UInt8)) (s s' : RS), rdIts d n pre s = (its, s') → s'.code = 0 → s.code = 0 ∧ ∃ l, its = pre ++ l ∧ l.length = n ∧ d.drop s.at_ = itsBytes l ++ d.drop s'.at_
  | 0, pre, its, s, s', h, hc => by
    cases h
    exact ⟨hc, [], by simp, rfl, rfl⟩
  | n + 1, pre, its, s, s', h, hc => by
    rw [rdIts] at h
    obtain ⟨x, s1, hx⟩ : ∃ x s1, rdText d 256 s = (x, s1) := ⟨_, _, rfl⟩
    rw [hx] at h
    obtain ⟨h1, l, h2, h3, h4⟩ := rdIts_ok n _ _ _ _ h hc
    obtain ⟨h5, h6, _⟩ := rdText_ok hx h1
    refine ⟨h5, x :: l, by rw [h2]; simp, by simp [h3], ?_⟩
    rw [h6, h4, ← List.append_assoc]; rfl
theorem rdEnd_ok {d : List UInt8} {s : RS} (hc : (rdEnd d s).code = 0) : s.code = 0 ∧ d.length ≤ s.at_ := by
  unfold rdEnd at hc
  split at hc
  · simp [RS.fault] at hc
  · rename_i h
    exact ⟨hc, by omega⟩

theorem frame_parsed {d : List UInt8} {f : Fr} (h : parsed d = some f) : frameBytes f = d ∧ mayB f = true := by
  unfold parsed at h
  split at h
  · rename_i hc
    simp only [Bool.and_eq_true, decide_eq_true_eq] at hc
    obtain ⟨hc, hm⟩ := hc
    cases h
    refine ⟨?_, hm⟩
    unfold rdFrame at hc hm ⊢
    obtain ⟨k, s1, h1⟩ : ∃ k s1, rdNum d 1 ⟨0, 0, 0, 0⟩ = (k, s1) := ⟨_, _, rfl⟩
    simp only [h1] at hc hm ⊢
    by_cases hk1 : k = 1
    · simp only [if_pos hk1] at hc hm ⊢
      obtain ⟨fa, sa, ha⟩ : ∃ k s1', rdNum d 8 s1 = (k, s1') := ⟨_, _, rfl⟩
      obtain ⟨b, s2, h2⟩ : ∃ k s1', rdNum d 8 sa = (k, s1') := ⟨_, _, rfl⟩
      obtain ⟨N, s4, h4⟩ : ∃ k s1', rdCount d 8 s2 = (k, s1') := ⟨_, _, rfl⟩
      obtain ⟨its, s5, h5⟩ : ∃ k s1', rdIts d N [] s4 = (k, s1') := ⟨_, _, rfl⟩
      simp only [ha, h2, h4, h5] at hc hm ⊢
      obtain ⟨c5, e5⟩ := rdEnd_ok hc
      obtain ⟨c4, l, hl, hN, d5⟩ := rdIts_ok _ _ _ _ _ h5 c5
      obtain ⟨c2, e4, d4, _⟩ := rdCount_ok h4 c4
      obtain ⟨ca, e2, d2, _⟩ := rdNum_ok h2 c2
      obtain ⟨c1, ea, da, _⟩ := rdNum_ok ha ca
      obtain ⟨_, e1, d1, _⟩ := rdNum_ok h1 c1
      rw [List.nil_append] at hl
      subst hl
      subst e1 ea e2 e4
      simp only [RS.move, List.drop_zero] at d1 da d2 d4 d5
      rw [List.drop_of_length_le e5, List.append_nil] at d5
      rw [d5] at d4
      rw [d4] at d2
      rw [d2] at da
      rw [da] at d1
      subst hk1
      unfold frameBytes
      rw [if_pos (show ((1 : Nat) : Int) = 1 from rfl)]
      simp only [Int.toNat_natCast]
      rw [hN]
      exact d1.symm
    · simp only [if_neg hk1] at hc hm ⊢
      by_cases hk4 : k = 4
      · simp only [if_pos hk4] at hc hm ⊢
        obtain ⟨t, s2, h2⟩ : ∃ k s1', rdText d 16100 s1 = (k, s1') := ⟨_, _, rfl⟩
        simp only [h2] at hc hm ⊢
        obtain ⟨c2, e2⟩ := rdEnd_ok hc
        obtain ⟨c1, d2, _⟩ := rdText_ok h2 c2
        obtain ⟨_, e1, d1, _⟩ := rdNum_ok h1 c1
        subst e1
        simp only [RS.move, List.drop_zero] at d1 d2
        rw [List.drop_of_length_le e2, List.append_nil] at d2
        rw [d2] at d1
        subst hk4
        unfold frameBytes
        rw [if_neg (by simp), if_pos (show ((4 : Nat) : Int) = 4 from rfl)]
        exact d1.symm
      · simp only [if_neg hk4] at hc hm ⊢
        obtain ⟨b, s2, h2⟩ : ∃ k s1', rdNum d 8 s1 = (k, s1') := ⟨_, _, rfl⟩
        simp only [h2] at hc hm ⊢
        obtain ⟨c2, e2⟩ := rdEnd_ok hc
        obtain ⟨c1, e2', d2, _⟩ := rdNum_ok h2 c2
        obtain ⟨_, e1, d1, _⟩ := rdNum_ok h1 c1
        subst e1 e2'
        simp only [RS.move, List.drop_zero] at d1 d2 e2
        rw [List.drop_of_length_le e2, List.append_nil] at d2
        rw [d2] at d1
        unfold frameBytes
        rw [if_neg (by simp only; omega), if_neg (by simp only; omega)]
        exact d1.symm
  · cases h

theorem parsedOf_made {s : ByteArray} {f : Fr} {l : List UInt8} (h : madeOf s f = (l, 0)) : parsedOf s l = (f, 0) := by
  unfold madeOf at h
  split at h
  · cases h
  · rename_i hm
    split at h
    · cases h
    · rename_i hs
      cases h
      have hl := sealed_length s (frameBytes f)
      unfold parsedOf
      rw [if_neg hs, if_neg (by omega), opened_sealed]
      simp only
      rw [parsed_frame (by simpa using hm)]
theorem madeOf_parsed {s : ByteArray} {f : Fr} {l : List UInt8} (h : parsedOf s l = (f, 0)) : madeOf s f = (l, 0) := by
  unfold parsedOf at h
  split at h
  · cases h
  · rename_i hs
    split at h
    · cases h
    · split at h
      · cases h
      · rename_i d ho
        split at h
        · cases h
        · rename_i f' hp
          cases h
          obtain ⟨h1, h2⟩ := frame_parsed hp
          unfold madeOf
          rw [h2, if_neg (by simp), if_neg hs, h1, sealed_opened ho]
theorem madeOf_err {s : ByteArray} {f : Fr} (h : (madeOf s f).2 ≠ 0) : (madeOf s f).1 = [] := by
  unfold madeOf at h ⊢
  split
  · rfl
  · split
    · rfl
    · rename_i h1 h2
      rw [if_neg h1, if_neg h2] at h
      exact absurd rfl h
end Go.Proofs.YtddpefbpiehgeaaDoor

/- The laws' small case. -/
namespace Go.Proofs.YtddpefbpiehgeaaDoor
open Go Go.RowKit
set_option maxRecDepth 100000
set_option linter.unusedVariables false
set_option linter.unusedSectionVars false
set_option linter.unusedSimpArgs false

def it5 : It := ⟨5, [97]⟩
def it6 : It := ⟨6, [98]⟩
def it7 : It := ⟨7, [99]⟩
def it8 : It := ⟨8, [100]⟩
def its4 : List It := [it5, it6, it7, it8]
def fr5 : Fr := ⟨1, 5, 5, [[97], [98]], []⟩
def fr7 : Fr := ⟨1, 5, 7, [[99]], []⟩
theorem tick1 : (tick 3 2 1 2 (fun _ => none) its4).2 = [fr5, fr7] := by rfl
theorem tick2 : (tick 3 2 2 2 (tick 3 2 1 2 (fun _ => none) its4).1 its4).2 = [] := by rfl
theorem got7 : got 0 fr7 = (5, []) := by rfl
theorem got5 : got 5 fr5 = (5, [it5, it6]) := by rfl
theorem may5 : mayB fr5 = true := by rfl

theorem newSender_322 (w : World) : Calls Tryd.prog 27 #[.int .i64 3, .int .i64 2, .int .i64 2] w fun e w' => ∃ p mb, e = .returned (.tuple #[.pointer (some ⟨p, 0, none⟩), .int .i64 0]) ∧ IsS w' p mb 0 3 2 2 0 (fun _ => none) ∧ w.heap.size ≤ p ∧ w.heap.size ≤ mb ∧ Kp [] w w' :=
  newSender_calls 3 2 2 w (by omega) (by omega) (by omega) (by omega) (by omega) (by omega)


theorem conv_lit (w : World) (x : Int) (g : Nat) (hg : g = w.heap.size) : (convert 23 23 (.slice (some ⟨g, 0, none⟩) 1 1)).run Tryd.prog (w.alloc (.cells #[.int .u8 x] 5)) = .ok (.slice (some ⟨g, 0, none⟩) 1 1) (w.alloc (.cells #[.int .u8 x] 5 (1, 2))) := by
  subst hg
  exact Lib.run_convert_bytes_const (P := Tryd.prog) w 23 5 #[.int .u8 x] 1 1 Tryd.underlying23 Tryd.underlying5

theorem bs_of {w : World} {g : Nat} {x : UInt8} {xi : Int} {T : TypeId} {fr : Nat × Nat} (hx : xi = (x.toNat : Int)) (h : w.heap[g]? = some (.cells #[.int .u8 xi] T fr)) : Bs w (.slice (some ⟨g, 0, none⟩) 1 1) [x] := by
  subst hx
  refine ⟨rfl, .inr (.inr ⟨g, 0, 1, rfl, Nat.le_refl _, lt_of_heap h, fun j u hu => ?_⟩)⟩
  rw [Nat.zero_add, cell_heap h, ← Array.getElem?_toList]
  exact hu

theorem two_frames {l : FL} {x y : Fr} (h : l.map Prod.fst = [x, y]) : ∃ a b, l = [(x, a), (y, b)] := by
  match l, h with
  | [(x', a), (y', b)], h => simp at h; obtain ⟨rfl, rfl⟩ := h; exact ⟨a, b, rfl⟩
theorem cells10 {w : World} {B T ob oc : Nat} {v0 v1 v2 v3 v4 v5 v6 v7 v8 v9 : Value} (h : Own w B T 5 (.slice (some ⟨ob, 0, none⟩) 2 oc) 2 [v0, v1, v2, v3, v4, v5, v6, v7, v8, v9]) :
    w.cell? ⟨ob, 0, none⟩ = some v0 ∧ w.cell? ⟨ob, 1, none⟩ = some v1 ∧ w.cell? ⟨ob, 2, none⟩ = some v2 ∧ w.cell? ⟨ob, 3, none⟩ = some v3 ∧ w.cell? ⟨ob, 4, none⟩ = some v4 ∧ w.cell? ⟨ob, 5, none⟩ = some v5 ∧ w.cell? ⟨ob, 6, none⟩ = some v6 ∧ w.cell? ⟨ob, 7, none⟩ = some v7 ∧ w.cell? ⟨ob, 8, none⟩ = some v8 ∧ w.cell? ⟨ob, 9, none⟩ = some v9 :=
  ⟨h.cellAt 0 (by omega), h.cellAt 1 (by omega), h.cellAt 2 (by omega), h.cellAt 3 (by omega), h.cellAt 4 (by omega), h.cellAt 5 (by omega), h.cellAt 6 (by omega), h.cellAt 7 (by omega), h.cellAt 8 (by omega), h.cellAt 9 (by omega)⟩

/-- The items of the small case. -/
theorem four_items (w2 : World) : ∃ cs w3, w3 = (((((w2.alloc (.cells #[.int .u8 97] 5 (1, 2))).alloc (.cells #[.int .u8 98] 5 (1, 2))).alloc (.cells #[.int .u8 99] 5 (1, 2))).alloc (.cells #[.int .u8 100] 5 (1, 2))).alloc (.cells #[.int .i64 5, .slice (some ⟨w2.heap.size, 0, none⟩) 1 1, .int .i64 6, .slice (some ⟨w2.heap.size + 1, 0, none⟩) 1 1, .int .i64 7, .slice (some ⟨w2.heap.size + 1 + 1, 0, none⟩) 1 1, .int .i64 8, .slice (some ⟨w2.heap.size + 1 + 1 + 1, 0, none⟩) 1 1] 51)) ∧
    Kp [] w2 w3 ∧ w2.heap.size < w3.heap.size ∧ Sl w3 2 (.slice (some ⟨w2.heap.size + 1 + 1 + 1 + 1, 0, none⟩) 4 4) 4 cs ∧ ItC (w2.heap.size ≤ ·) w3 cs its4 := by
  refine ⟨[.int .i64 5, .slice (some ⟨w2.heap.size, 0, none⟩) 1 1, .int .i64 6, .slice (some ⟨w2.heap.size + 1, 0, none⟩) 1 1, .int .i64 7, .slice (some ⟨w2.heap.size + 1 + 1, 0, none⟩) 1 1, .int .i64 8, .slice (some ⟨w2.heap.size + 1 + 1 + 1, 0, none⟩) 1 1], _, rfl, (((((Kp.refl [] w2).alloc _).alloc _).alloc _).alloc _).alloc _, by simp only [World.size_alloc]; omega, ?_, rfl, ?_⟩
  · have h := sl_alloc ((((w2.alloc (.cells #[.int .u8 97] 5 (1, 2))).alloc (.cells #[.int .u8 98] 5 (1, 2))).alloc (.cells #[.int .u8 99] 5 (1, 2))).alloc (.cells #[.int .u8 100] 5 (1, 2))) 51 #[.int .i64 5, .slice (some ⟨w2.heap.size, 0, none⟩) 1 1, .int .i64 6, .slice (some ⟨w2.heap.size + 1, 0, none⟩) 1 1, .int .i64 7, .slice (some ⟨w2.heap.size + 1 + 1, 0, none⟩) 1 1, .int .i64 8, .slice (some ⟨w2.heap.size + 1 + 1 + 1, 0, none⟩) 1 1] _ rfl 2 4 rfl
    simp only [World.size_alloc] at h
    exact h
  · intro i hi
    have hi' : i < 4 := hi
    rcases (show i = 0 ∨ i = 1 ∨ i = 2 ∨ i = 3 by omega) with rfl | rfl | rfl | rfl
    · exact ⟨_, rfl, rfl, bs_of (x := 97) (xi := 97) (T := 5) (fr := (1, 2)) rfl ((((((Kp.refl [] (w2.alloc (.cells #[.int .u8 97] 5 (1, 2)))).alloc _).alloc _).alloc _).alloc _).heap (by have h := heap_alloc_new w2 (.cells #[.int .u8 97] 5 (1, 2)); first | exact h | (simp only [World.size_alloc] at h; exact h)) (by simp)), fun g hg => by cases hg; exact Nat.le_refl _⟩
    · exact ⟨_, rfl, rfl, bs_of (x := 98) (xi := 98) (T := 5) (fr := (1, 2)) rfl (((((Kp.refl [] ((w2.alloc (.cells #[.int .u8 97] 5 (1, 2))).alloc (.cells #[.int .u8 98] 5 (1, 2)))).alloc _).alloc _).alloc _).heap (by have h := heap_alloc_new (w2.alloc (.cells #[.int .u8 97] 5 (1, 2))) (.cells #[.int .u8 98] 5 (1, 2)); first | exact h | (simp only [World.size_alloc] at h; exact h)) (by simp)), fun g hg => by cases hg; dsimp only; omega⟩
    · exact ⟨_, rfl, rfl, bs_of (x := 99) (xi := 99) (T := 5) (fr := (1, 2)) rfl ((((Kp.refl [] (((w2.alloc (.cells #[.int .u8 97] 5 (1, 2))).alloc (.cells #[.int .u8 98] 5 (1, 2))).alloc (.cells #[.int .u8 99] 5 (1, 2)))).alloc _).alloc _).heap (by have h := heap_alloc_new ((w2.alloc (.cells #[.int .u8 97] 5 (1, 2))).alloc (.cells #[.int .u8 98] 5 (1, 2))) (.cells #[.int .u8 99] 5 (1, 2)); first | exact h | (simp only [World.size_alloc] at h; exact h)) (by simp)), fun g hg => by cases hg; dsimp only; omega⟩
    · exact ⟨_, rfl, rfl, bs_of (x := 100) (xi := 100) (T := 5) (fr := (1, 2)) rfl (((Kp.refl [] ((((w2.alloc (.cells #[.int .u8 97] 5 (1, 2))).alloc (.cells #[.int .u8 98] 5 (1, 2))).alloc (.cells #[.int .u8 99] 5 (1, 2))).alloc (.cells #[.int .u8 100] 5 (1, 2)))).alloc _).heap (by have h := heap_alloc_new (((w2.alloc (.cells #[.int .u8 97] 5 (1, 2))).alloc (.cells #[.int .u8 98] 5 (1, 2))).alloc (.cells #[.int .u8 99] 5 (1, 2))) (.cells #[.int .u8 100] 5 (1, 2)); first | exact h | (simp only [World.size_alloc] at h; exact h)) (by simp)), fun g hg => by cases hg; dsimp only; omega⟩

theorem IsF.lit {w : World} {B : Nat} {v : Value} {f : Fr} (h : IsF w B v f) : ∃ ia ic ta tc, v = .agg #[.int .i64 f.k, .int .i64 f.a, .int .i64 f.b, .slice ia f.its.length ic, .slice ta f.t.length tc] ∧ RwP (B ≤ ·) w (.slice ia f.its.length ic) f.its ∧ Bs w (.slice ta f.t.length tc) f.t := by
  obtain ⟨iv, tv, us, he, ho, hi, ht, _⟩ := h
  obtain ⟨ia, ic, rfl⟩ := own_form ho
  obtain ⟨ta, tc, rfl⟩ := own_form ht
  exact ⟨ia, ic, ta, tc, he, RwP.of ho hi, OB.bs ht⟩
theorem IsF.lit5 {w : World} {B : Nat} {v : Value} (h : IsF w B v fr5) : ∃ ia ic ta tc, v = .agg #[.int .i64 1, .int .i64 5, .int .i64 5, .slice ia 2 ic, .slice ta 0 tc] ∧ RwP (B ≤ ·) w (.slice ia 2 ic) fr5.its ∧ Bs w (.slice ta 0 tc) fr5.t := h.lit
theorem IsF.lit0 {w : World} {B : Nat} {v : Value} (h : IsF w B v zeroF) : ∃ ia ic ta tc, v = .agg #[.int .i64 0, .int .i64 0, .int .i64 0, .slice ia 0 ic, .slice ta 0 tc] ∧ RwP (B ≤ ·) w (.slice ia 0 ic) [] ∧ Bs w (.slice ta 0 tc) [] := h.lit

def kS : ByteArray := ⟨#[107]⟩
theorem madeK : madeOf kS fr5 = (sealed kS (frameBytes fr5), 0) := by
  unfold madeOf
  rw [may5, if_neg (by simp), if_neg (by decide)]
theorem parsedNil : parsedOf ⟨#[111, 116, 104, 101, 114]⟩ [] = (zeroF, 121) := by
  unfold parsedOf
  rw [if_neg (by decide), if_pos (by decide)]

set_option maxHeartbeats 2000000 in
theorem awake_calls (w : World) (hG : GH w) : Calls Tryd.prog 9 #[] w fun e w' => e = .returned (.bool true) ∧ Kp [] w w' := by
  go_enter Tryd.func9, Tryd.ntmps9
  go_wp2_with (first
    | (go_at_call 27; (with_reducible refine (newSender_322 _).mono ?_); rintro e w1 ⟨p, mb, rfl, hs1, hp1, hm1, hk1⟩)
    | (go_at_call 19; (with_reducible refine (newReceiver_calls _).mono ?_); rintro e w2 ⟨r, rfl, hr2, hr1, hk2⟩; have hc1 := conv_lit w2 97 _ rfl; have hc2 := conv_lit (w2.alloc (.cells #[.int .u8 97] 5 (1, 2))) 98 (w2.heap.size + 1) (by simp); have hc3 := conv_lit ((w2.alloc (.cells #[.int .u8 97] 5 (1, 2))).alloc (.cells #[.int .u8 98] 5 (1, 2))) 99 (w2.heap.size + 1 + 1) (by simp); have hc4 := conv_lit (((w2.alloc (.cells #[.int .u8 97] 5 (1, 2))).alloc (.cells #[.int .u8 98] 5 (1, 2))).alloc (.cells #[.int .u8 99] 5 (1, 2))) 100 (w2.heap.size + 1 + 1 + 1) (by simp)))
  obtain ⟨cs, w3, hw3, hk3, hsz3, hsl3, hit3⟩ := four_items w2
  clear hc1 hc2 hc3 hc4
  rw [← hw3]
  clear hw3
  have hp2 : p < w2.heap.size ∧ mb < w2.heap.size := by have := hs1.lt; have := hk2.size; omega
  have hr2' : r < w2.heap.size := lt_of_heap hr2.1
  have hs3 := (hs1.kp hk2 (by simp) (by simp)).kp hk3 (by simp) (by simp)
  refine (tick_calls (w2.heap.size ≤ ·) p mb 0 3 2 2 0 (fun _ => none) _ cs its4 w3 (by omega) (by omega) hs3 (by omega) (by omega) hsl3 (fun g hg => by cases hg; dsimp only; omega) hit3 (by simp [its4]) (fun x hx => by simp [its4] at hx; rcases hx with rfl | rfl | rfl | rfl <;> simp [it5, it6, it7, it8])).mono ?_
  rintro e w4 ⟨v4, l4, n4, rfl, ho4, hl4, hn4, hs4, hk4⟩
  obtain ⟨va, vb, rfl⟩ := two_frames (hl4.trans tick1)
  obtain ⟨ob, oc, rfl, hoc, hob, hobl⟩ := own_some ho4.row (by simp)
  have hsz24 : w2.heap.size < w4.heap.size := by have := hk4.size; omega
  obtain ⟨-, -, ua, hua, hia⟩ := ho4.its (fr5, va) (by simp)
  obtain ⟨-, -, ub, hub, hib⟩ := ho4.its (fr7, vb) (by simp)
  simp only at hua hia hub hib
  obtain ⟨aa, ac, rfl⟩ := own_form hua
  obtain ⟨ba, bc, rfl⟩ := own_form hub
  have hRa := RwP.of hua hia
  have hRb := RwP.of hub hib
  have hrow4 : Own w4 w3.heap.size 25 5 (.slice (some ⟨ob, 0, none⟩) 2 oc) 2 [.int .i64 1, .int .i64 5, .int .i64 5, .slice aa 2 ac, .slice none 0 0, .int .i64 1, .int .i64 5, .int .i64 7, .slice ba 1 bc, .slice none 0 0] := ho4.row
  have hsl4 := hsl3.kp hk4 (fun g hg hm => by cases hg; simp at hm; omega)
  have hit4 := hit3.kp hk4 (fun g hg hm => by simp at hm; omega)
  have hs4' : IsS w4 p mb n4 3 2 2 1 (tick 3 2 1 2 (fun _ => none) its4).1 := hs4
  clear ho4 hua hia hub hib hs4 hl4 hsl3 hit3
  go_wp2_with fail
  refine (tick_calls (w2.heap.size ≤ ·) p mb n4 3 2 2 1 _ _ cs its4 w4 (by omega) (by omega) hs4' (by omega) (by omega) hsl4 (fun g hg => by cases hg; dsimp only; omega) hit4 (by simp [its4]) (fun x hx => by simp [its4] at hx; rcases hx with rfl | rfl | rfl | rfl <;> simp [it5, it6, it7, it8])).mono ?_
  rintro e w5 ⟨v5, l5, n5, rfl, ho5, hl5, -, -, hk5⟩
  obtain rfl : l5 = [] := by have := hl5.trans tick2; simpa using this
  obtain ⟨oa5, oc5, rfl⟩ := own_form ho5.row
  have hrow5 := own_kp hrow4 hk5 (fun g hg hm => by cases hg; simp at hm; omega)
  have hRa5 := hRa.kp hk5 (fun g hg hm => by simp at hm; omega)
  have hRb5 := hRb.kp hk5 (fun g hg hm => by simp at hm; omega)
  have hr5 := ((hr2.kp hk3 (by simp)).kp hk4 (by have := hs1.lt; simp; omega)).kp hk5 (by have := hs1.lt; simp; omega)
  obtain ⟨c0, c1, c2, c3, c4, c5, c6, c7, c8, c9⟩ := cells10 hrow5
  have hoc1 : 2 ≤ oc := hoc
  have hoc2 : (2 : Int) ≤ oc := by omega
  go_wp2_with fail
  have hnil : ∀ w' : World, Bs w' (.slice none 0 0) [] := fun w' => OB.bs (e := 5) (base := 0) (Own.nil w' 0 5 1)
  refine (got_calls r 0 fr7 _ _ _ (w3.heap.size ≤ ·) (by omega) hr5 hRb5 (hnil _) (by simp [fr7]) (by simp [fr7]) (by simp [fr7])).mono ?_
  rw [got7]
  rintro e w6 ⟨v6, cs6, rfl, ho6, hi6, hr6, hk6⟩
  obtain ⟨oa6, oc6, rfl⟩ := own_form ho6
  have hw56 : ∀ g ∈ [r], g < w3.heap.size := by simp; omega
  have hrow6 := own_kp hrow5 hk6 (fun g hg hm => by have h1 := hw56 g hm; have h2 : ob = g := (by simpa [Value.ownBlock] using hg); omega)
  have hRa6 := hRa5.kp hk6 (fun g hg hm => by have := hw56 g hm; omega)
  obtain ⟨d0, d1, d2, d3, d4, d5, d6, d7, d8, d9⟩ := cells10 hrow6
  clear c0 c1 c2 c3 c4 c5 c6 c7 c8 c9 hrow5 hRa5 hRb5 hRa hRb hrow4
  go_wp2_with fail
  refine (got_calls r 5 fr5 _ _ _ (w3.heap.size ≤ ·) (by omega) hr6 hRa6 (hnil _) (by simp [fr5]) (by simp [fr5]) (by simp [fr5])).mono ?_
  rw [got5]
  rintro e w7 ⟨v7, cs7, rfl, ho7, hi7, hr7, hk7⟩
  obtain ⟨oa7, oc7, rfl⟩ := own_form ho7
  have hrow7 := own_kp hrow6 hk7 (fun g hg hm => by have h1 := hw56 g hm; have h2 : ob = g := (by simpa [Value.ownBlock] using hg); omega)
  have hRa7 := hRa6.kp hk7 (fun g hg hm => by have := hw56 g hm; omega)
  clear d0 d1 d2 d3 d4 d5 d6 d7 d8 d9 hrow6 hRa6
  go_wp2_with fail
  refine (take_calls r 5 5 _ hr7 (by omega) (by omega)).mono ?_
  rintro e w8 ⟨rfl, hr8, hk8⟩
  have hrow8 := own_kp hrow7 hk8 (fun g hg hm => by have h1 := hw56 g hm; have h2 : ob = g := (by simpa [Value.ownBlock] using hg); omega)
  have hRa8 := hRa7.kp hk8 (fun g hg hm => by have := hw56 g hm; omega)
  rw [show takeN 5 5 = 6 from rfl] at hr8
  go_wp2_with fail
  refine (ack_calls r 6 _ hr8).mono ?_
  rw [show ackF 6 = ⟨2, 0, 5, [], []⟩ from rfl, show (!((6 : Int) == 0)) = true from rfl]
  unfold fcells
  rintro e w9 ⟨rfl, hk9⟩
  have hrow9 := own_kp hrow8 hk9 (by simp)
  have hRa9 := hRa8.kp hk9 (by simp)
  obtain ⟨d0, d1, d2, d3, d4, d5, d6, d7, d8, d9⟩ := cells10 hrow9
  have hob9 : ob < w9.heap.size := (hrow9.lt ob rfl).2
  clear hrow8 hRa8 hrow7 hRa7
  go_wp2_with fail
  have hpw := hs1.lt
  have K3 : Kp [] w w3 := (hk1.trans hk2).trans hk3
  have K4 := K3.trans' hk4 (by simp; omega)
  have K5 := K4.trans' hk5 (by simp; omega)
  have hrw : ∀ t ∈ [r], t ∈ ([] : List Nat) ∨ w.heap.size ≤ t := by simp; have := hk1.size; omega
  have K9 := (((K5.trans' hk6 hrw).trans' hk7 hrw).trans' hk8 hrw).trans hk9
  clear hs1 hk4 hk5 hk6 hk7 hk8 hk9 hsl4 hit4 hs4' ho5 hr5 hr6 hr7 hr8 ho6 hi6 ho7 hi7 hl5
  have hkA := (Kp.refl [] w9).alloc (.cells #[.int .i64 2, .int .i64 0, .int .i64 5, .slice none 0 0, .slice none 0 0] 25)
  have hhA := heap_alloc_new w9 (.cells #[.int .i64 2, .int .i64 0, .int .i64 5, .slice none 0 0, .slice none 0 0] 25)
  have hrowA := own_kp hrow9 hkA (by simp)
  have hRaA := hRa9.kp hkA (by simp)
  have KA := K9.trans hkA
  generalize w9.alloc (.cells #[.int .i64 2, .int .i64 0, .int .i64 5, .slice none 0 0, .slice none 0 0] 25) = wA at *
  generalize w9.heap.size = xb at *
  have hmk := make_all kS fr5 _ _ wA (hG.kp0 KA) hRaA.rws (hnil wA) (by simp [fr5]) (by simp [fr5]) (by simp [fr5])
  rw [madeK] at hmk
  refine hmk.mono ?_
  rintro e w10 ⟨v10, rfl, ho10, hk10⟩
  obtain ⟨sa, sc, rfl⟩ := own_form ho10
  have K10 := KA.trans hk10
  have hSl : (sealed kS (frameBytes fr5)).length ≤ 20000 := by rw [sealed_length]; have := frameBytes_le fr5 may5; omega
  have hpc := parse_calls kS _ (sealed kS (frameBytes fr5)) w10 (hG.kp0 K10) (OB.bs ho10) (by omega)
  rw [parsedOf_made madeK] at hpc
  clear hmk d0 d1 d2 d3 d4 d5 d6 d7 d8 d9
  go_wp2_with fail
  refine hpc.mono ?_
  rintro e w11 ⟨v11, rfl, hF11, hk11⟩
  obtain ⟨ga, gc, ta, tc, rfl, hgR, hgT⟩ := hF11.lit5
  have K11 := K10.trans hk11
  have hkB := (Kp.refl [] w11).alloc (.cells #[.int .i64 1, .int .i64 5, .int .i64 5, .slice ga 2 gc, .slice ta 0 tc] 25)
  have hhB := heap_alloc_new w11 (.cells #[.int .i64 1, .int .i64 5, .int .i64 5, .slice ga 2 gc, .slice ta 0 tc] 25)
  have hgRB := hgR.kp hkB (by simp)
  have hgTB := hgT.kp0 hkB
  have KB := K11.trans hkB
  have hrowB := own_kp hrowA ((hk10.trans hk11).trans hkB) (by simp)
  have hRaB := hRaA.kp ((hk10.trans hk11).trans hkB) (by simp)
  have hhAB := ((hk10.trans hk11).trans hkB).heap hhA (by simp)
  clear hpc hrowA hRaA hgR hgT
  have hpn := parse_calls ⟨#[111, 116, 104, 101, 114]⟩ (.slice none 0 0) [] (w11.alloc (.cells #[.int .i64 1, .int .i64 5, .int .i64 5, .slice ga 2 gc, .slice ta 0 tc] 25)) (hG.kp0 KB) (hnil _) (by simp)
  rw [parsedNil] at hpn
  go_wp2_with fail
  refine hpn.mono ?_
  rintro e w12 ⟨v12, rfl, hF12, hk12⟩
  obtain ⟨za, zc, zta, ztc, rfl, -, -⟩ := hF12.lit0
  clear hpn hF12 hF11
  have hkC := hk12.alloc (.cells #[.int .i64 0, .int .i64 0, .int .i64 0, .slice za 0 zc, .slice zta 0 ztc] 25)
  have KC := KB.trans hkC
  have hrowC := own_kp hrowB hkC (by simp)
  have hRaC := hRaB.kp hkC (by simp)
  have hgRC := hgRB.kp hkC (by simp)
  have hgTC := hgTB.kp0 hkC
  have hhAC := hkC.heap hhAB (by simp)
  have hhBC := hkC.heap hhB (by simp)
  clear hrowB hRaB hgRB hgTB hhAB hhB
  go_wp2_with fail
  generalize w12.alloc (.cells #[.int .i64 0, .int .i64 0, .int .i64 0, .slice za 0 zc, .slice zta 0 ztc] 25) = wC at *
  generalize w11.heap.size = yb at *
  obtain ⟨d0, d1, d2, d3, d4, -⟩ := cells10 hrowC
  obtain ⟨x0, x1, x2, x3, x4⟩ := cells5 hhAC
  obtain ⟨y0, y1, y2, y3, y4⟩ := cells5 hhBC
  have hobC := (hrowC.lt ob rfl).2
  have hxbC := lt_of_heap hhAC
  have hybC := lt_of_heap hhBC
  have hS : Gr wC [xb, yb, ob] wC.drew := Gr.of (fun _ _ => rfl)
  have hsame := fsame_calls fr5 fr5 (.slice ga 2 gc) (.slice ta 0 tc) (.slice aa 2 ac) (.slice none 0 0) wC.drew (hgRC.rws.kp0 ((Kp.refl [] wC).drew)) (hgTC.kp0 ((Kp.refl [] wC).drew)) (hRaC.rws.kp0 ((Kp.refl [] wC).drew)) (hnil _) (by simp [fr5]) (by simp [fr5])
  rw [sameF_self] at hsame
  have HSAME := Lib.hid hsame
  clear hsame
  refine wp_plan (.H 0 (.H 1 (.H 2 (.H 3 (.H 4 (.H 5 (.H 6 (.H 7 (.H 8 (.H 9 (.H 10 (.H 11 (.H 12 (.H 13 (.H 14 (.H 15 (.H 16 (.H 17 (.H 18 (.H 19 (.H 20 (.H 21 (.H 22 (.H 23 (.H 24 (.H 25 (.H 26 (.H 27 (.H 28 (.E 29 false (.E 30 false (.E 31 false (.E 32 false (.E 33 false (.E 34 false (.E 35 false .Z)))))))))))))))))))))))))))))))))))) (Gr wC [xb, yb, ob]) (by as_aux_lemma => kernel_rfl) (by as_aux_lemma => kernel_rfl) ?_
  iterate 29 (refine plan_H rfl hS (fun K hK => ?_); go_simp; refine hK _ ?_; clear hK K)
  refine plan_E rfl (fun K hK => ?_)
  go_simp
  refine HSAME.out.mono ?_
  rintro e w13 ⟨rfl, hk13⟩
  refine hK _ _ nofun ?_
  clear hK K
  iterate 6 (refine plan_E rfl (fun K hK => ?_); go_simp; refine hK _ _ nofun ?_; clear hK K)
  refine plan_Z ?_
  go_wp2_with fail
  go_ret
  exact ⟨rfl, (KC.drew).trans hk13⟩
end Go.Proofs.YtddpefbpiehgeaaDoor

/- A receiver takes just what the document says: the walk of LinkTakes. -/
namespace Go.Proofs.YtddpefbpiehgeaaDoor
open Go Go.RowKit
set_option maxRecDepth 100000
set_option linter.unusedVariables false
set_option linter.unusedSectionVars false
set_option linter.unusedSimpArgs false

/-- A call of the script. -/
structure OpT where
  d : Int
  q : Int
  f : Fr

/-- Cells that read as calls. -/
def OpC (B : Nat) (w : World) (cs : List Value) (os : List OpT) : Prop :=
  cs.length = os.length * 7 ∧ ∀ i (h : i < os.length), ∃ iv tv, (cs.drop (i * 7)).take 7 = .int .i64 os[i].d :: .int .i64 os[i].q :: (fcells os[i].f iv tv).toList ∧ RwP (· < B) w iv os[i].f.its ∧ Bs w tv os[i].f.t ∧ BlkP (· < B) tv ∧ isInt os[i].q ∧ isInt os[i].f.b ∧ os[i].f.its.length ≤ 1048576 ∧ os[i].f.t.length ≤ 1048576 ∧ (∀ x ∈ os[i].f.its, x.length ≤ 1048576)

theorem part7 {cs : List Value} {i : Nat} {a0 a1 a2 a3 a4 a5 a6 : Value} (h : (cs.drop (i * 7)).take 7 = [a0, a1, a2, a3, a4, a5, a6]) :
    cs[i * 7]? = some a0 ∧ cs[i * 7 + 1]? = some a1 ∧ cs[i * 7 + 2]? = some a2 ∧ cs[i * 7 + 3]? = some a3 ∧ cs[i * 7 + 4]? = some a4 ∧ cs[i * 7 + 5]? = some a5 ∧ cs[i * 7 + 6]? = some a6 := by
  have key : ∀ j, j < 7 → cs[i * 7 + j]? = [a0, a1, a2, a3, a4, a5, a6][j]? := fun j hj => by
    rw [← h, List.getElem?_take, if_pos hj, List.getElem?_drop]
  exact ⟨key 0 (by omega), key 1 (by omega), key 2 (by omega), key 3 (by omega), key 4 (by omega), key 5 (by omega), key 6 (by omega)⟩

theorem op_at {B : Nat} {w : World} {a : Option Addr} {n cap : Nat} {cs : List Value} {os : List OpT} (hs : Sl w 7 (.slice a n cap) n cs) (ho : OpC B w cs os) (hn : n = os.length) (i : Nat) (h : i < os.length) :
    ∃ b off ia ic ta tc, a = some ⟨b, off, none⟩ ∧ b < w.heap.size ∧ w.cell? ⟨b, off + i * 7, none⟩ = some (.int .i64 os[i].d) ∧ w.cell? ⟨b, off + i * 7 + 1, none⟩ = some (.int .i64 os[i].q) ∧ w.cell? ⟨b, off + i * 7 + 2, none⟩ = some (.int .i64 os[i].f.k) ∧
      w.cell? ⟨b, off + i * 7 + 3, none⟩ = some (.int .i64 os[i].f.a) ∧ w.cell? ⟨b, off + i * 7 + 4, none⟩ = some (.int .i64 os[i].f.b) ∧ w.cell? ⟨b, off + i * 7 + 5, none⟩ = some (.slice ia os[i].f.its.length ic) ∧ w.cell? ⟨b, off + i * 7 + 6, none⟩ = some (.slice ta os[i].f.t.length tc) ∧
      RwP (· < B) w (.slice ia os[i].f.its.length ic) os[i].f.its ∧ Bs w (.slice ta os[i].f.t.length tc) os[i].f.t ∧ BlkP (· < B) (.slice ta os[i].f.t.length tc) := by
  obtain ⟨a', cap', he, hc, _, h6, h7⟩ := Sl.form hs
  cases he
  obtain ⟨b, off, rfl, hlt⟩ := h6 (by omega)
  obtain ⟨iv, tv, hp, hr, hb, hbp, _⟩ := ho.2 i h
  obtain ⟨ia, ic, rfl, _⟩ := hr.rws.form
  obtain ⟨ta, tc, rfl, _⟩ := Sl.form hb
  obtain ⟨p0, p1, p2, p3, p4, p5, p6⟩ := part7 hp
  have k := (h7 b off rfl).2
  exact ⟨b, off, ia, ic, ta, tc, rfl, hlt, k _ _ p0, k _ _ p1, k _ _ p2, k _ _ p3, k _ _ p4, k _ _ p5, k _ _ p6, hr, hb, hbp⟩
theorem OpC.kp {B : Nat} {S : List Nat} {w w' : World} {cs : List Value} {os : List OpT} (h : OpC B w cs os) (hk : Kp S w w') (hS : ∀ s ∈ S, B ≤ s) : OpC B w' cs os :=
  ⟨h.1, fun i hi => by
    obtain ⟨iv, tv, h1, h2, h3, h4, r⟩ := h.2 i hi
    exact ⟨iv, tv, h1, h2.kp hk (fun g hg hm => by have := hS g hm; omega), h3.kq hk (fun b hb hm => by have := hS b hm; have := h4 b hb; omega), h4, r⟩⟩

theorem cells7 {w : World} {b : Nat} {a0 a1 a2 a3 a4 a5 a6 : Value} {T : TypeId} {fr : Nat × Nat} (h : w.heap[b]? = some (.cells #[a0, a1, a2, a3, a4, a5, a6] T fr)) :
    w.cell? ⟨b, 0, none⟩ = some a0 ∧ w.cell? ⟨b, 1, none⟩ = some a1 ∧ w.cell? ⟨b, 2, none⟩ = some a2 ∧ w.cell? ⟨b, 3, none⟩ = some a3 ∧ w.cell? ⟨b, 4, none⟩ = some a4 ∧ w.cell? ⟨b, 5, none⟩ = some a5 ∧ w.cell? ⟨b, 6, none⟩ = some a6 :=
  ⟨cell_heap h 0, cell_heap h 1, cell_heap h 2, cell_heap h 3, cell_heap h 4, cell_heap h 5, cell_heap h 6⟩

theorem gotItems_q (nx : Int) (f : Fr) : ∀ (l : List (List UInt8)) (i : Nat), ∀ x ∈ gotItems nx f i l, f.b + i ≤ x.q ∧ x.q < f.b + i + l.length
  | [], i, x, hx => by simp [gotItems] at hx
  | b :: l, i, x, hx => by
    rw [gotItems, List.mem_append] at hx
    rcases hx with hx | hx
    · split at hx
      · rw [List.mem_singleton] at hx; subst hx; simp only [List.length_cons]; omega
      · cases hx
    · have := gotItems_q nx f l (i + 1) x hx
      simp only [List.length_cons]; omega
theorem got_q (nx : Int) (f : Fr) : ∀ x ∈ (got nx f).2, 1 ≤ x.q ∧ x.q ≤ 4294967303 := by
  intro x hx
  unfold got at hx
  split at hx
  · rename_i h
    obtain ⟨_, _, h3, h4, h5, h6, h7⟩ := may_1 h.2 h.1
    simp only at hx
    split at hx
    · cases hx
    · have := gotItems_q _ f f.its 0 x hx
      omega
  · cases hx
theorem got_few (nx : Int) (f : Fr) : (got nx f).2.length ≤ 8 := by
  unfold got
  split
  · rename_i h
    obtain ⟨_, _, h3, h4, h5, h6, h7⟩ := may_1 h.2 h.1
    simp only
    split
    · simp
    · have := gotItems_len (nextOf nx f) f f.its 0
      omega
  · simp
theorem ackF_form (nx : Int) : ∃ k b, ackF nx = ⟨k, 0, b, [], []⟩ := by
  unfold ackF
  split
  · exact ⟨0, 0, rfl⟩
  · exact ⟨_, _, rfl⟩

set_option maxHeartbeats 4000000 in
theorem takes_walk (os : List OpT) (sv : Value) (cs : List Value) (w : World) (hG : GH w) (hs : Sl w 7 sv os.length cs) (ho : OpC w.heap.size w cs os) (hsb : ∀ b, own1 sv = some b → b < w.heap.size) (hn : os.length ≤ 1048576) :
    Calls Tryd.prog 4 #[sv] w fun e w' => e = .returned (.bool true) ∧ Kp [] w w' := by
  obtain ⟨sa, sc, rfl, hsc, -⟩ := Sl.form hs
  go_enter Tryd.func4, Tryd.ntmps4
  go_wp2_with fail
  refine (awake_calls w hG).mono ?_
  rintro e w1 ⟨rfl, hk1⟩
  go_wp2_with fail
  refine (newReceiver_calls w1).mono ?_
  rintro e w2 ⟨rp, rfl, hr2, hrp, hk2⟩
  have hx3 : IsX (w2.alloc (.cells #[.int .i64 0] 43)) w2.heap.size 0 := ⟨heap_alloc_new w2 _, by omega, by omega⟩
  have hk3 := (Kp.refl [] w2).alloc (.cells #[.int .i64 0] 43)
  have hr3 := hr2.kp hk3 (by simp)
  have K3 := (hk1.trans hk2).trans hk3
  have hrlt : rp < w2.heap.size := lt_of_heap hr2.1
  have hz3 := alloc_lt w2 (.cells #[.int .i64 0] 43)
  go_wp2_with fail
  generalize w2.alloc (.cells #[.int .i64 0] 43) = w3 at *
  have hxp : w.heap.size ≤ w2.heap.size := (hk1.trans hk2).size
  have hrpw : w.heap.size ≤ rp := Nat.le_trans hk1.size hrp
  generalize w2.heap.size = xp at *
  have HO := Lib.hid ho
  clear ho
  go_loopw [6] (fun v6 wr => ∃ (i : Nat) (nx : Int), i ≤ os.length ∧ v6 = .int .i64 i ∧ IsR wr rp nx ∧ IsX wr xp nx ∧ Kp [] w wr) (fun v6 _ => os.length - (intOf v6).toNat)
  case atStart => exact ⟨0, 0, by omega, rfl, hr3, hx3, K3⟩
  case round =>
    clear hr3 hx3 K3 hr2 hk3 hk2 hk1 hz3
    obtain ⟨i, nx, hil, rfl, hr, hx, hkr⟩ := hrel
    by_cases hlt : i < os.length
    · obtain ⟨b, off, ia, ic, ta, tc, rfl, hb, q0, q1, q2, q3, q4, q5, q6, hiR, htB, htP'⟩ := op_at (hs.kp0 hkr) (HO.out.kp hkr (by simp)) rfl i hlt
      obtain ⟨_, _, _, _, _, _, hqi, hbi, hl1, hl2, hl3⟩ := HO.out.2 i hlt
      generalize os[i]'hlt = o at *
      obtain ⟨d, q, f⟩ := o
      simp only at q0 q1 q2 q3 q4 q5 q6 hiR htB htP' hqi hbi hl1 hl2 hl3
      have hrl := lt_of_heap hr.1
      have hxl := lt_of_heap hx.1
      have hi1 : (0 : Int) ≤ i ∧ (i : Int) < os.length := by omega
      obtain ⟨hi1, hi2⟩ := hi1
      have hni : (os.length : Int) ≤ 1048576 := by omega
      have HL3 := Lib.hid hl3
      clear hl3
      obtain ⟨hq9, hq8⟩ := hqi
      obtain ⟨hb9, hb8⟩ := hbi
      have hkA := (Kp.refl [] wr).alloc (.cells #[.int .i64 d, .int .i64 q, .int .i64 f.k, .int .i64 f.a, .int .i64 f.b, .slice ia f.its.length ic, .slice ta f.t.length tc] 45)
      have hhA := heap_alloc_new wr (.cells #[.int .i64 d, .int .i64 q, .int .i64 f.k, .int .i64 f.a, .int .i64 f.b, .slice ia f.its.length ic, .slice ta f.t.length tc] 45)
      have hlA := alloc_lt wr (.cells #[.int .i64 d, .int .i64 q, .int .i64 f.k, .int .i64 f.a, .int .i64 f.b, .slice ia f.its.length ic, .slice ta f.t.length tc] 45)
      have KA := hkr.trans hkA
      have hrA := hr.kp hkA (by simp)
      have hxA := hx.kp hkA (by simp)
      by_cases hd0 : d = 0
      · have e0 : (d == 0) = true := by simpa using hd0
        have e2 : (d == 2) = false := by subst hd0; rfl
        have e1 : (d == 1) = false := by subst hd0; rfl
        clear hd0
        go_wp2_with fail

        generalize wr.alloc (.cells #[.int .i64 d, .int .i64 q, .int .i64 f.k, .int .i64 f.a, .int .i64 f.b, .slice ia f.its.length ic, .slice ta f.t.length tc] 45) = wA at *
        clear q0 q1 q2 q3 q4 q5 q6
        obtain ⟨hcA0, hcA1, hcA2, hcA3, hcA4, hcA5, hcA6⟩ := cells7 hhA
        have hcp := copied_calls f (.slice ia f.its.length ic) (.slice ta f.t.length tc) wA (hiR.rws.kp0 hkA) (htB.kp0 hkA) (by omega) (by omega) (fun x hx => by have := HL3.out x hx; omega)
        unfold fcells at hcp
        refine hcp.mono ?_
        rintro e w1 ⟨v1, rfl, hF1, hk1⟩
        clear hcp
        obtain ⟨jv, tv, us, rfl, hjo, hji, hjt, hja⟩ := hF1
        obtain ⟨ja, jc, rfl⟩ := own_form hjo
        obtain ⟨ya, yc, rfl⟩ := own_form hjt
        unfold fcells
        have hkB := (Kp.refl [] w1).alloc (.cells #[.int .i64 f.k, .int .i64 f.a, .int .i64 f.b, .slice ja f.its.length jc, .slice ya f.t.length yc] 25)
        have hhB := heap_alloc_new w1 (.cells #[.int .i64 f.k, .int .i64 f.a, .int .i64 f.b, .slice ja f.its.length jc, .slice ya f.t.length yc] 25)
        have hlB := alloc_lt w1 (.cells #[.int .i64 f.k, .int .i64 f.a, .int .i64 f.b, .slice ja f.its.length jc, .slice ya f.t.length yc] 25)
        have hjRw : RwP (wA.heap.size ≤ ·) w1 (.slice ja f.its.length jc) f.its := RwP.of hjo hji
        have hkAB := hk1.trans hkB
        have hrB := hrA.kp hkAB (by simp)
        have hxB := hxA.kp hkAB (by simp)
        have hhAB := hkAB.heap hhA (by simp)
        have hAA : wr.heap.size < wA.heap.size := hlA
        go_wp2_with fail
        have hsz1 := hk1.size
        generalize w1.alloc (.cells #[.int .i64 f.k, .int .i64 f.a, .int .i64 f.b, .slice ja f.its.length jc, .slice ya f.t.length yc] 25) = wB at *
        have hgt := got_calls rp nx f (.slice ja f.its.length jc) (.slice ya f.t.length yc) wB (wA.heap.size ≤ ·) (by omega) hrB (hjRw.kp hkB (by simp)) ((OB.bs hjt).kp0 hkB) (by omega) (by omega) (by omega)
        unfold fcells at hgt
        refine hgt.mono ?_
        rintro e w2 ⟨lv, lcs, rfl, ho2, hit2, hr2, hk2⟩
        clear hgt
        obtain ⟨la, lcap, rfl⟩ := own_form ho2
        have hx2 := hxB.kp hk2 (by simp; omega)
        have hB2 := hk2.heap hhB (by simp; omega)
        have hA2 := hk2.heap hhAB (by simp; omega)
        obtain ⟨m0, m1, m2, m3, m4⟩ := cells5 hB2
        obtain ⟨o0, o1, o2, o3, o4, o5, o6⟩ := cells7 hA2
        have hkB2 : Kp [rp] w1 w2 := hkB.nil.trans hk2
        have hjo2 := own_kp hjo hkB2 (fun b hb hm => by have := (hjo.lt b hb).1; simp at hm; omega)
        have hji2 := hji.kp hkB2 (fun u hu b hb hm => by have := (hji.lt u hu b hb).1; simp at hm; omega)
        have hjt2 : OB w2 5 wA.heap.size (.slice ya f.t.length yc) f.t := own_kp hjt hkB2 (fun b hb hm => by have := (Own.lt hjt b hb).1; simp at hm; omega)
        have hkA2 : Kp [rp] wr w2 := (hkA.trans hkAB).nil.trans hk2
        have hiR2 := hiR.kp hkA2 (fun g hg hm => by simp at hm; omega)
        have htB2 := htB.kq hkA2 (fun b hb hm => by have := htP' b hb; simp at hm; omega)
        have hfew := got_few nx f
        have hgen : (got nx f).2.length ≤ 8 := hfew
        go_wp2_with fail
        have hsm := fsame_calls f f (.slice ja f.its.length jc) (.slice ya f.t.length yc) (.slice ia f.its.length ic) (.slice ta f.t.length tc) w2 (OR.rws ⟨us, hjo2, hji2⟩) (OB.bs hjt2) hiR2.rws htB2 (by omega) (by omega)
        rw [sameF_self] at hsm
        unfold fcells at hsm
        refine hsm.mono ?_
        rintro e w3 ⟨rfl, hk3⟩
        clear hsm m0 m1 m2 m3 m4 o0 o1 o2 o3 o4 o5 o6
        obtain ⟨m0, m1, m2, m3, m4⟩ := cells5 (hk3.heap hB2 (by simp))
        go_wp2_with fail
        refine (owned_calls wA.heap.size (.slice ja f.its.length jc) us f.its w3 (own_kp hjo2 hk3 (by simp)) (hji2.kp hk3 (by simp)) (by omega) (fun x hx => by have := HL3.out x hx; omega)).mono ?_
        rintro e w4 ⟨rfl, hk4⟩
        have hus : ∀ b ∈ us.filterMap Value.ownBlock, wA.heap.size ≤ b ∧ b < w1.heap.size := fun b hb => by
          simp only [List.mem_filterMap] at hb
          obtain ⟨u, hu, he⟩ := hb
          exact hji.lt u hu b he
        generalize us.filterMap Value.ownBlock = SU at *
        have hsz2 := hk2.size
        have hr4 := (hr2.kp hk3 (by simp)).kp hk4 (fun hm => by have := hus _ hm; omega)
        have hx4 := (hx2.kp hk3 (by simp)).kp hk4 (fun hm => by have := hus _ hm; omega)
        have hA4 := hk4.heap (hk3.heap hA2 (by simp)) (fun hm => by have := hus _ hm; omega)
        have ho4 := own_kp (own_kp ho2 hk3 (by simp)) hk4 (fun b hb hm => by have := (ho2.lt b hb).1; have := hus b hm; omega)
        have hit4 := (hit2.kp hk3 (by simp)).kp hk4 (fun g hg hm => by have := hus g hm; omega)
        have hiR4 := (hiR2.kp hk3 (by simp)).kp hk4 (fun g hg hm => by have := hus g hm; omega)
        have htB4 := (htB2.kp0 hk3).kq hk4 (fun b hb hm => by have := htP' b hb; have := hus b hm; omega)
        have K4 : Kp [] w w4 := ((hkr.trans' hkA2 (by simp; omega)).trans hk3).trans' hk4 (fun b hb => .inr (by have := hus b hb; omega))
        clear m0 m1 m2 m3 m4
        obtain ⟨o0, o1, o2, o3, o4, o5, o6⟩ := cells7 hA4
        go_wp2_with fail
        have hgx := rgot_calls xp nx f (.slice ia f.its.length ic) (.slice ta f.t.length tc) w4 (· < w.heap.size) (by omega) hx4 hiR4 htB4 (by omega) (by omega) (by omega)
        unfold fcells at hgx
        refine hgx.mono ?_
        rintro e w5 ⟨zv, zcs, rfl, ho5, hit5, hx5, hk5⟩
        clear hgx o0 o1 o2 o3 o4 o5 o6
        obtain ⟨za, zcap, rfl⟩ := own_form ho5
        have hwB4 : wB.heap.size ≤ w4.heap.size := by have := hk3.size; have := hk4.size; omega
        have ho5l := own_kp ho4 hk5 (fun b hb hm => by have := (ho4.lt b hb).1; simp at hm; omega)
        have hit5l := hit4.kp hk5 (fun g hg hm => by simp at hm; omega)
        go_wp2_with fail
        refine (sameItems_calls (got nx f).2 (.slice la (got nx f).2.length lcap) (.slice za (got nx f).2.length zcap) lcs zcs w5 (Sl.of_own ho5l) hit5l (Sl.of_own ho5) hit5 (by omega)).mono ?_
        rintro e w6 ⟨rfl, hk6⟩
        have hr6 := (hr4.kp hk5 (by simp; omega)).kp hk6 (by simp)
        have hx6 := hx5.kp hk6 (by simp)
        have h6A := hk6.heap (hk5.heap hA4 (by simp; omega)) (by simp)
        have ho6 := own_kp ho5l hk6 (by simp)
        have hit6 := hit5l.kp hk6 (by simp)
        have K6 : Kp [] w w6 := (K4.trans' hk5 (by simp; omega)).trans hk6
        obtain ⟨o0, o1, o2, o3, o4, o5, o6⟩ := cells7 h6A
        have hA6 := lt_of_heap h6A
        have hsz6 : wB.heap.size ≤ w6.heap.size := by have := hk5.size; have := hk6.size; omega
        clear hus hx4 hr4 hit4 ho4 hiR4 htB4 hiR2 htB2 hjo hji hjt hja hjo2 hji2 hjt2 hjRw hit5 ho5 hit2 ho2 hit5l ho5l
        go_wp2_with fail
        generalize (got nx f).1 = ny at *
        refine (ack_calls rp ny w6 hr6).mono ?_
        rintro e w10 ⟨rfl, hk10⟩
        have hxt := hx6.kp hk10 (by simp)
        obtain ⟨ak, ab, hak⟩ := ackF_form ny
        rw [hak]
        unfold fcells
        simp only
        have hkC := hk10.alloc (.cells #[.int .i64 ak, .int .i64 0, .int .i64 ab, .slice none 0 0, .slice none 0 0] 25)
        have hhC := heap_alloc_new w10 (.cells #[.int .i64 ak, .int .i64 0, .int .i64 ab, .slice none 0 0, .slice none 0 0] 25)
        have hxC := hxt.kp ((Kp.refl [] w10).alloc (.cells #[.int .i64 ak, .int .i64 0, .int .i64 ab, .slice none 0 0, .slice none 0 0] 25)) (by simp)
        have hrack := rack_calls xp ny
        rw [hak] at hrack
        unfold fcells at hrack
        simp only at hrack
        have hbz : ∃ bz, (!(ny == 0)) = bz := ⟨_, rfl⟩
        obtain ⟨bz, hbz⟩ := hbz
        rw [hbz] at hrack ⊢
        have HR := Lib.hid hrack
        clear hrack hak hbz
        go_wp2_with fail
        generalize w10.alloc (.cells #[.int .i64 ak, .int .i64 0, .int .i64 ab, .slice none 0 0, .slice none 0 0] 25) = wC at *
        refine (HR.out wC hxC).mono ?_
        rintro e w11 ⟨rfl, hk11⟩
        have hhC2 := hk11.heap hhC (by simp)
        have hlC2 := lt_of_heap hhC2
        obtain ⟨m0, m1, m2, m3, m4⟩ := cells5 hhC2
        have hkD := hk11.alloc (.cells #[.int .i64 ak, .int .i64 0, .int .i64 ab, .slice none 0 0, .slice none 0 0] 25)
        go_wp2_with fail
        generalize w11.alloc (.cells #[.int .i64 ak, .int .i64 0, .int .i64 ab, .slice none 0 0, .slice none 0 0] 25) = wD at *
        have hsme := fsame_calls ⟨ak, 0, ab, [], []⟩ ⟨ak, 0, ab, [], []⟩ (.slice none 0 0) (.slice none 0 0) (.slice none 0 0) (.slice none 0 0) wD (OR.nil wD 0).rws (Sl.of_own (Own.nil wD 0 0 1)) (OR.nil wD 0).rws (Sl.of_own (Own.nil wD 0 0 1)) (by simp) (by simp)
        rw [sameF_self] at hsme
        unfold fcells at hsme
        simp only at hsme
        refine hsme.mono ?_
        rintro e w12 ⟨rfl, hk12⟩
        have hkE := (hkC.trans hkD).trans hk12
        have hbb : (bz != bz) = false := by simp
        have hr12 := hr6.kp hkE (by simp)
        have hx12 := hx6.kp hkE (by simp)
        have K12 := K6.trans hkE
        clear m0 m1 m2 m3 m4 hsme
        go_wp2_with fail
        go_roundw
        case measure => simp [intOf]; omega
        case rel => exact ⟨i + 1, ny, by omega, by go_num, hr12, hx12, K12⟩
      · by_cases hd2 : d = 2
        · have e0 : (d == 0) = false := by subst hd2; rfl
          have e2 : (d == 2) = true := by simpa using hd2
          have e1 : (d == 1) = false := by subst hd2; rfl
          clear hd0 hd2
          clear e0
          have e0 : (d == 0) = false := by simp only [beq_iff_eq, beq_eq_false_iff_ne] at e2 ⊢; omega
          go_wp2_with fail

          generalize wr.alloc (.cells #[.int .i64 d, .int .i64 q, .int .i64 f.k, .int .i64 f.a, .int .i64 f.b, .slice ia f.its.length ic, .slice ta f.t.length tc] 45) = wA at *
          clear q0 q1 q2 q3 q4 q5 q6
          obtain ⟨hcA0, hcA1, hcA2, hcA3, hcA4, hcA5, hcA6⟩ := cells7 hhA
          have hcp := copied_calls f (.slice ia f.its.length ic) (.slice ta f.t.length tc) wA (hiR.rws.kp0 hkA) (htB.kp0 hkA) (by omega) (by omega) (fun x hx => by have := HL3.out x hx; omega)
          unfold fcells at hcp
          refine hcp.mono ?_
          rintro e w1 ⟨v1, rfl, hF1, hk1⟩
          clear hcp
          obtain ⟨jv, tv, us, rfl, hjo, hji, hjt, hja⟩ := hF1
          obtain ⟨ja, jc, rfl⟩ := own_form hjo
          obtain ⟨ya, yc, rfl⟩ := own_form hjt
          unfold fcells
          have hkB := (Kp.refl [] w1).alloc (.cells #[.int .i64 f.k, .int .i64 f.a, .int .i64 f.b, .slice ja f.its.length jc, .slice ya f.t.length yc] 25)
          have hhB := heap_alloc_new w1 (.cells #[.int .i64 f.k, .int .i64 f.a, .int .i64 f.b, .slice ja f.its.length jc, .slice ya f.t.length yc] 25)
          have hlB := alloc_lt w1 (.cells #[.int .i64 f.k, .int .i64 f.a, .int .i64 f.b, .slice ja f.its.length jc, .slice ya f.t.length yc] 25)
          have hjRw : RwP (wA.heap.size ≤ ·) w1 (.slice ja f.its.length jc) f.its := RwP.of hjo hji
          have hkAB := hk1.trans hkB
          have hrB := hrA.kp hkAB (by simp)
          have hxB := hxA.kp hkAB (by simp)
          have hhAB := hkAB.heap hhA (by simp)
          have hAA : wr.heap.size < wA.heap.size := hlA
          go_wp2_with fail
          have hsz1 := hk1.size
          generalize w1.alloc (.cells #[.int .i64 f.k, .int .i64 f.a, .int .i64 f.b, .slice ja f.its.length jc, .slice ya f.t.length yc] 25) = wB at *
          have hgt := got_calls rp nx f (.slice ja f.its.length jc) (.slice ya f.t.length yc) wB (wA.heap.size ≤ ·) (by omega) hrB (hjRw.kp hkB (by simp)) ((OB.bs hjt).kp0 hkB) (by omega) (by omega) (by omega)
          unfold fcells at hgt
          refine hgt.mono ?_
          rintro e w2 ⟨lv, lcs, rfl, ho2, hit2, hr2, hk2⟩
          clear hgt
          obtain ⟨la, lcap, rfl⟩ := own_form ho2
          have hx2 := hxB.kp hk2 (by simp; omega)
          have hB2 := hk2.heap hhB (by simp; omega)
          have hA2 := hk2.heap hhAB (by simp; omega)
          obtain ⟨m0, m1, m2, m3, m4⟩ := cells5 hB2
          obtain ⟨o0, o1, o2, o3, o4, o5, o6⟩ := cells7 hA2
          have hkB2 : Kp [rp] w1 w2 := hkB.nil.trans hk2
          have hjo2 := own_kp hjo hkB2 (fun b hb hm => by have := (hjo.lt b hb).1; simp at hm; omega)
          have hji2 := hji.kp hkB2 (fun u hu b hb hm => by have := (hji.lt u hu b hb).1; simp at hm; omega)
          have hjt2 : OB w2 5 wA.heap.size (.slice ya f.t.length yc) f.t := own_kp hjt hkB2 (fun b hb hm => by have := (Own.lt hjt b hb).1; simp at hm; omega)
          have hkA2 : Kp [rp] wr w2 := (hkA.trans hkAB).nil.trans hk2
          have hiR2 := hiR.kp hkA2 (fun g hg hm => by simp at hm; omega)
          have htB2 := htB.kq hkA2 (fun b hb hm => by have := htP' b hb; simp at hm; omega)
          have hfew := got_few nx f
          have hgen : (got nx f).2.length ≤ 8 := hfew
          go_wp2_with fail
          have hsm := fsame_calls f f (.slice ja f.its.length jc) (.slice ya f.t.length yc) (.slice ia f.its.length ic) (.slice ta f.t.length tc) w2 (OR.rws ⟨us, hjo2, hji2⟩) (OB.bs hjt2) hiR2.rws htB2 (by omega) (by omega)
          rw [sameF_self] at hsm
          unfold fcells at hsm
          refine hsm.mono ?_
          rintro e w3 ⟨rfl, hk3⟩
          clear hsm m0 m1 m2 m3 m4 o0 o1 o2 o3 o4 o5 o6
          obtain ⟨m0, m1, m2, m3, m4⟩ := cells5 (hk3.heap hB2 (by simp))
          go_wp2_with fail
          refine (owned_calls wA.heap.size (.slice ja f.its.length jc) us f.its w3 (own_kp hjo2 hk3 (by simp)) (hji2.kp hk3 (by simp)) (by omega) (fun x hx => by have := HL3.out x hx; omega)).mono ?_
          rintro e w4 ⟨rfl, hk4⟩
          have hus : ∀ b ∈ us.filterMap Value.ownBlock, wA.heap.size ≤ b ∧ b < w1.heap.size := fun b hb => by
            simp only [List.mem_filterMap] at hb
            obtain ⟨u, hu, he⟩ := hb
            exact hji.lt u hu b he
          generalize us.filterMap Value.ownBlock = SU at *
          have hsz2 := hk2.size
          have hr4 := (hr2.kp hk3 (by simp)).kp hk4 (fun hm => by have := hus _ hm; omega)
          have hx4 := (hx2.kp hk3 (by simp)).kp hk4 (fun hm => by have := hus _ hm; omega)
          have hA4 := hk4.heap (hk3.heap hA2 (by simp)) (fun hm => by have := hus _ hm; omega)
          have ho4 := own_kp (own_kp ho2 hk3 (by simp)) hk4 (fun b hb hm => by have := (ho2.lt b hb).1; have := hus b hm; omega)
          have hit4 := (hit2.kp hk3 (by simp)).kp hk4 (fun g hg hm => by have := hus g hm; omega)
          have hiR4 := (hiR2.kp hk3 (by simp)).kp hk4 (fun g hg hm => by have := hus g hm; omega)
          have htB4 := (htB2.kp0 hk3).kq hk4 (fun b hb hm => by have := htP' b hb; have := hus b hm; omega)
          have K4 : Kp [] w w4 := ((hkr.trans' hkA2 (by simp; omega)).trans hk3).trans' hk4 (fun b hb => .inr (by have := hus b hb; omega))
          clear m0 m1 m2 m3 m4
          obtain ⟨o0, o1, o2, o3, o4, o5, o6⟩ := cells7 hA4
          go_wp2_with fail
          have hgx := rgot_calls xp nx f (.slice ia f.its.length ic) (.slice ta f.t.length tc) w4 (· < w.heap.size) (by omega) hx4 hiR4 htB4 (by omega) (by omega) (by omega)
          unfold fcells at hgx
          refine hgx.mono ?_
          rintro e w5 ⟨zv, zcs, rfl, ho5, hit5, hx5, hk5⟩
          clear hgx o0 o1 o2 o3 o4 o5 o6
          obtain ⟨za, zcap, rfl⟩ := own_form ho5
          have hwB4 : wB.heap.size ≤ w4.heap.size := by have := hk3.size; have := hk4.size; omega
          have ho5l := own_kp ho4 hk5 (fun b hb hm => by have := (ho4.lt b hb).1; simp at hm; omega)
          have hit5l := hit4.kp hk5 (fun g hg hm => by simp at hm; omega)
          go_wp2_with fail
          refine (sameItems_calls (got nx f).2 (.slice la (got nx f).2.length lcap) (.slice za (got nx f).2.length zcap) lcs zcs w5 (Sl.of_own ho5l) hit5l (Sl.of_own ho5) hit5 (by omega)).mono ?_
          rintro e w6 ⟨rfl, hk6⟩
          have hr6 := (hr4.kp hk5 (by simp; omega)).kp hk6 (by simp)
          have hx6 := hx5.kp hk6 (by simp)
          have h6A := hk6.heap (hk5.heap hA4 (by simp; omega)) (by simp)
          have ho6 := own_kp ho5l hk6 (by simp)
          have hit6 := hit5l.kp hk6 (by simp)
          have K6 : Kp [] w w6 := (K4.trans' hk5 (by simp; omega)).trans hk6
          obtain ⟨o0, o1, o2, o3, o4, o5, o6⟩ := cells7 h6A
          have hA6 := lt_of_heap h6A
          have hsz6 : wB.heap.size ≤ w6.heap.size := by have := hk5.size; have := hk6.size; omega
          clear hus hx4 hr4 hit4 ho4 hiR4 htB4 hiR2 htB2 hjo hji hjt hja hjo2 hji2 hjt2 hjRw hit5 ho5 hit2 ho2 hit5l ho5l
          by_cases hg0 : (got nx f).2.length = 0
          · clear ho6 hit6
            generalize (got nx f).2.length = N at *
            subst hg0
            go_wp2_with fail
            generalize (got nx f).1 = ny at *
            refine (ack_calls rp ny w6 hr6).mono ?_
            rintro e w10 ⟨rfl, hk10⟩
            have hxt := hx6.kp hk10 (by simp)
            obtain ⟨ak, ab, hak⟩ := ackF_form ny
            rw [hak]
            unfold fcells
            simp only
            have hkC := hk10.alloc (.cells #[.int .i64 ak, .int .i64 0, .int .i64 ab, .slice none 0 0, .slice none 0 0] 25)
            have hhC := heap_alloc_new w10 (.cells #[.int .i64 ak, .int .i64 0, .int .i64 ab, .slice none 0 0, .slice none 0 0] 25)
            have hxC := hxt.kp ((Kp.refl [] w10).alloc (.cells #[.int .i64 ak, .int .i64 0, .int .i64 ab, .slice none 0 0, .slice none 0 0] 25)) (by simp)
            have hrack := rack_calls xp ny
            rw [hak] at hrack
            unfold fcells at hrack
            simp only at hrack
            have hbz : ∃ bz, (!(ny == 0)) = bz := ⟨_, rfl⟩
            obtain ⟨bz, hbz⟩ := hbz
            rw [hbz] at hrack ⊢
            have HR := Lib.hid hrack
            clear hrack hak hbz
            go_wp2_with fail
            generalize w10.alloc (.cells #[.int .i64 ak, .int .i64 0, .int .i64 ab, .slice none 0 0, .slice none 0 0] 25) = wC at *
            refine (HR.out wC hxC).mono ?_
            rintro e w11 ⟨rfl, hk11⟩
            have hhC2 := hk11.heap hhC (by simp)
            have hlC2 := lt_of_heap hhC2
            obtain ⟨m0, m1, m2, m3, m4⟩ := cells5 hhC2
            have hkD := hk11.alloc (.cells #[.int .i64 ak, .int .i64 0, .int .i64 ab, .slice none 0 0, .slice none 0 0] 25)
            go_wp2_with fail
            generalize w11.alloc (.cells #[.int .i64 ak, .int .i64 0, .int .i64 ab, .slice none 0 0, .slice none 0 0] 25) = wD at *
            have hsme := fsame_calls ⟨ak, 0, ab, [], []⟩ ⟨ak, 0, ab, [], []⟩ (.slice none 0 0) (.slice none 0 0) (.slice none 0 0) (.slice none 0 0) wD (OR.nil wD 0).rws (Sl.of_own (Own.nil wD 0 0 1)) (OR.nil wD 0).rws (Sl.of_own (Own.nil wD 0 0 1)) (by simp) (by simp)
            rw [sameF_self] at hsme
            unfold fcells at hsme
            simp only at hsme
            refine hsme.mono ?_
            rintro e w12 ⟨rfl, hk12⟩
            have hkE := (hkC.trans hkD).trans hk12
            have hbb : (bz != bz) = false := by simp
            have hr12 := hr6.kp hkE (by simp)
            have hx12 := hx6.kp hkE (by simp)
            have K12 := K6.trans hkE
            clear m0 m1 m2 m3 m4 hsme
            go_wp2_with fail
            go_roundw
            case measure => simp [intOf]; omega
            case rel => exact ⟨i + 1, ny, by omega, by go_num, hr12, hx12, K12⟩
          · have hgp : 0 < (got nx f).2.length := by omega
            obtain ⟨lb, lo, lu, lc, hle, hlb, hlq, -, -, -⟩ := item_at (Sl.of_own ho6) hit6 rfl ((got nx f).2.length - 1) (by omega)
            have hqq := got_q nx f _ (List.getElem_mem (show (got nx f).2.length - 1 < (got nx f).2.length by omega))
            generalize ((got nx f).2[(got nx f).2.length - 1]'(by omega)).q = qq at *
            have hlb0 : wB.heap.size ≤ lb := (ho6.lt lb (by rw [hle]; rfl)).1
            clear ho6 hit6
            obtain rfl : la = some ⟨lb, lo, none⟩ := hle
            generalize (got nx f).2.length = N at *
            have hgl : decide (0 < (N : Int)) = true := by rw [decide_eq_true_eq]; omega
            have hg1 : (0 : Int) ≤ (N : Int) - 1 ∧ ((N : Int) - 1).toNat = N - 1 ∧ (1 : Int) ≤ N := by omega
            obtain ⟨hg1, hg2, hg4⟩ := hg1
            have hg3 : (N : Int) - 1 < N := by omega
            clear hg0
            go_wp2_with fail
            refine (take_calls rp (got nx f).1 qq w6 hr6 (by omega) (by omega)).mono ?_
            rintro e w7 ⟨rfl, hr7, hk7⟩
            have hx7 := hx6.kp hk7 (by simp; omega)
            have hlq7 : w7.cell? ⟨lb, lo + (N - 1) * 2, none⟩ = some (.int .i64 qq) := by
              rw [hk7.cells.1 _ _ hlb (by simp; omega)]; exact hlq
            have hlb7 : lb < w7.heap.size := Nat.lt_of_lt_of_le hlb hk7.size
            have h7A := hk7.heap h6A (by simp; omega)
            obtain ⟨o0, o1, o2, o3, o4, o5, o6⟩ := cells7 h7A
            clear hlq
            go_wp2_with fail
            refine (rtake_calls xp (got nx f).1 qq w7 hx7 (by omega) (by omega)).mono ?_
            rintro e w8 ⟨rfl, hx8, hk8⟩
            have hr8 := hr7.kp hk8 (by simp; omega)
            have K8 := (K6.trans' hk7 (by simp; omega)).trans' hk8 (by simp; omega)
            have h8A := hk8.heap h7A (by simp; omega)
            clear o0 o1 o2 o3 o4 o5 o6
            obtain ⟨o0, o1, o2, o3, o4, o5, o6⟩ := cells7 h8A
            clear hr6 hx6 hlq7 hg1 hg2 hg3 hg4 hgl
            generalize takeN (got nx f).1 qq = ny at *
            have hr6 := hr8
            have hx6 := hx8
            have K6 := K8
            generalize w8 = w6 at *
            go_wp2_with fail
            refine (ack_calls rp ny w6 hr6).mono ?_
            rintro e w10 ⟨rfl, hk10⟩
            have hxt := hx6.kp hk10 (by simp)
            obtain ⟨ak, ab, hak⟩ := ackF_form ny
            rw [hak]
            unfold fcells
            simp only
            have hkC := hk10.alloc (.cells #[.int .i64 ak, .int .i64 0, .int .i64 ab, .slice none 0 0, .slice none 0 0] 25)
            have hhC := heap_alloc_new w10 (.cells #[.int .i64 ak, .int .i64 0, .int .i64 ab, .slice none 0 0, .slice none 0 0] 25)
            have hxC := hxt.kp ((Kp.refl [] w10).alloc (.cells #[.int .i64 ak, .int .i64 0, .int .i64 ab, .slice none 0 0, .slice none 0 0] 25)) (by simp)
            have hrack := rack_calls xp ny
            rw [hak] at hrack
            unfold fcells at hrack
            simp only at hrack
            have hbz : ∃ bz, (!(ny == 0)) = bz := ⟨_, rfl⟩
            obtain ⟨bz, hbz⟩ := hbz
            rw [hbz] at hrack ⊢
            have HR := Lib.hid hrack
            clear hrack hak hbz
            go_wp2_with fail
            generalize w10.alloc (.cells #[.int .i64 ak, .int .i64 0, .int .i64 ab, .slice none 0 0, .slice none 0 0] 25) = wC at *
            refine (HR.out wC hxC).mono ?_
            rintro e w11 ⟨rfl, hk11⟩
            have hhC2 := hk11.heap hhC (by simp)
            have hlC2 := lt_of_heap hhC2
            obtain ⟨m0, m1, m2, m3, m4⟩ := cells5 hhC2
            have hkD := hk11.alloc (.cells #[.int .i64 ak, .int .i64 0, .int .i64 ab, .slice none 0 0, .slice none 0 0] 25)
            go_wp2_with fail
            generalize w11.alloc (.cells #[.int .i64 ak, .int .i64 0, .int .i64 ab, .slice none 0 0, .slice none 0 0] 25) = wD at *
            have hsme := fsame_calls ⟨ak, 0, ab, [], []⟩ ⟨ak, 0, ab, [], []⟩ (.slice none 0 0) (.slice none 0 0) (.slice none 0 0) (.slice none 0 0) wD (OR.nil wD 0).rws (Sl.of_own (Own.nil wD 0 0 1)) (OR.nil wD 0).rws (Sl.of_own (Own.nil wD 0 0 1)) (by simp) (by simp)
            rw [sameF_self] at hsme
            unfold fcells at hsme
            simp only at hsme
            refine hsme.mono ?_
            rintro e w12 ⟨rfl, hk12⟩
            have hkE := (hkC.trans hkD).trans hk12
            have hbb : (bz != bz) = false := by simp
            have hr12 := hr6.kp hkE (by simp)
            have hx12 := hx6.kp hkE (by simp)
            have K12 := K6.trans hkE
            clear m0 m1 m2 m3 m4 hsme
            go_wp2_with fail
            go_roundw
            case measure => simp [intOf]; omega
            case rel => exact ⟨i + 1, ny, by omega, by go_num, hr12, hx12, K12⟩
        · have e0 : (d == 0) = false := by simpa using hd0
          have e2 : (d == 2) = false := by simpa using hd2
          clear hd0 hd2
          by_cases hd1 : d = 1
          · have e1 : (d == 1) = true := by simpa using hd1
            clear hd1
            go_wp2_with fail
            generalize wr.alloc (.cells #[.int .i64 d, .int .i64 q, .int .i64 f.k, .int .i64 f.a, .int .i64 f.b, .slice ia f.its.length ic, .slice ta f.t.length tc] 45) = wA at *
            clear q0 q1 q2 q3 q4 q5 q6
            obtain ⟨hcA0, hcA1, hcA2, hcA3, hcA4, hcA5, hcA6⟩ := cells7 hhA
            refine (take_calls rp nx q wA hrA (by omega) (by omega)).mono ?_
            rintro e w5 ⟨rfl, hr5, hk5⟩
            have hx5 := hxA.kp hk5 (by simp; omega)
            obtain ⟨o0, o1, o2, o3, o4, o5, o6⟩ := cells7 (hk5.heap hhA (by simp; omega))
            go_wp2_with fail
            refine (rtake_calls xp nx q w5 hx5 (by omega) (by omega)).mono ?_
            rintro e w6 ⟨rfl, hx6, hk6⟩
            have hr6 := hr5.kp hk6 (by simp; omega)
            have K6 := (KA.trans' hk5 (by simp; omega)).trans' hk6 (by simp; omega)
            generalize takeN nx q = ny at *
            go_wp2_with fail
            refine (ack_calls rp ny w6 hr6).mono ?_
            rintro e w10 ⟨rfl, hk10⟩
            have hxt := hx6.kp hk10 (by simp)
            obtain ⟨ak, ab, hak⟩ := ackF_form ny
            rw [hak]
            unfold fcells
            simp only
            have hkC := hk10.alloc (.cells #[.int .i64 ak, .int .i64 0, .int .i64 ab, .slice none 0 0, .slice none 0 0] 25)
            have hhC := heap_alloc_new w10 (.cells #[.int .i64 ak, .int .i64 0, .int .i64 ab, .slice none 0 0, .slice none 0 0] 25)
            have hxC := hxt.kp ((Kp.refl [] w10).alloc (.cells #[.int .i64 ak, .int .i64 0, .int .i64 ab, .slice none 0 0, .slice none 0 0] 25)) (by simp)
            have hrack := rack_calls xp ny
            rw [hak] at hrack
            unfold fcells at hrack
            simp only at hrack
            have hbz : ∃ bz, (!(ny == 0)) = bz := ⟨_, rfl⟩
            obtain ⟨bz, hbz⟩ := hbz
            rw [hbz] at hrack ⊢
            have HR := Lib.hid hrack
            clear hrack hak hbz
            go_wp2_with fail
            generalize w10.alloc (.cells #[.int .i64 ak, .int .i64 0, .int .i64 ab, .slice none 0 0, .slice none 0 0] 25) = wC at *
            refine (HR.out wC hxC).mono ?_
            rintro e w11 ⟨rfl, hk11⟩
            have hhC2 := hk11.heap hhC (by simp)
            have hlC2 := lt_of_heap hhC2
            obtain ⟨m0, m1, m2, m3, m4⟩ := cells5 hhC2
            have hkD := hk11.alloc (.cells #[.int .i64 ak, .int .i64 0, .int .i64 ab, .slice none 0 0, .slice none 0 0] 25)
            go_wp2_with fail
            generalize w11.alloc (.cells #[.int .i64 ak, .int .i64 0, .int .i64 ab, .slice none 0 0, .slice none 0 0] 25) = wD at *
            have hsme := fsame_calls ⟨ak, 0, ab, [], []⟩ ⟨ak, 0, ab, [], []⟩ (.slice none 0 0) (.slice none 0 0) (.slice none 0 0) (.slice none 0 0) wD (OR.nil wD 0).rws (Sl.of_own (Own.nil wD 0 0 1)) (OR.nil wD 0).rws (Sl.of_own (Own.nil wD 0 0 1)) (by simp) (by simp)
            rw [sameF_self] at hsme
            unfold fcells at hsme
            simp only at hsme
            refine hsme.mono ?_
            rintro e w12 ⟨rfl, hk12⟩
            have hkE := (hkC.trans hkD).trans hk12
            have hbb : (bz != bz) = false := by simp
            have hr12 := hr6.kp hkE (by simp)
            have hx12 := hx6.kp hkE (by simp)
            have K12 := K6.trans hkE
            clear m0 m1 m2 m3 m4 hsme
            go_wp2_with fail
            go_roundw
            case measure => simp [intOf]; omega
            case rel => exact ⟨i + 1, ny, by omega, by go_num, hr12, hx12, K12⟩
          · have e1 : (d == 1) = false := by simpa using hd1
            clear hd1
            go_wp2_with fail
            generalize wr.alloc (.cells #[.int .i64 d, .int .i64 q, .int .i64 f.k, .int .i64 f.a, .int .i64 f.b, .slice ia f.its.length ic, .slice ta f.t.length tc] 45) = wA at *
            clear q0 q1 q2 q3 q4 q5 q6
            obtain ⟨hcA0, hcA1, hcA2, hcA3, hcA4, hcA5, hcA6⟩ := cells7 hhA
            have hr6 := hrA
            have hx6 := hxA
            have K6 := KA
            generalize hny : nx = ny at hr6 hx6
            clear hny
            generalize wA = w6 at *
            refine (ack_calls rp ny w6 hr6).mono ?_
            rintro e w10 ⟨rfl, hk10⟩
            have hxt := hx6.kp hk10 (by simp)
            obtain ⟨ak, ab, hak⟩ := ackF_form ny
            rw [hak]
            unfold fcells
            simp only
            have hkC := hk10.alloc (.cells #[.int .i64 ak, .int .i64 0, .int .i64 ab, .slice none 0 0, .slice none 0 0] 25)
            have hhC := heap_alloc_new w10 (.cells #[.int .i64 ak, .int .i64 0, .int .i64 ab, .slice none 0 0, .slice none 0 0] 25)
            have hxC := hxt.kp ((Kp.refl [] w10).alloc (.cells #[.int .i64 ak, .int .i64 0, .int .i64 ab, .slice none 0 0, .slice none 0 0] 25)) (by simp)
            have hrack := rack_calls xp ny
            rw [hak] at hrack
            unfold fcells at hrack
            simp only at hrack
            have hbz : ∃ bz, (!(ny == 0)) = bz := ⟨_, rfl⟩
            obtain ⟨bz, hbz⟩ := hbz
            rw [hbz] at hrack ⊢
            have HR := Lib.hid hrack
            clear hrack hak hbz
            go_wp2_with fail
            generalize w10.alloc (.cells #[.int .i64 ak, .int .i64 0, .int .i64 ab, .slice none 0 0, .slice none 0 0] 25) = wC at *
            refine (HR.out wC hxC).mono ?_
            rintro e w11 ⟨rfl, hk11⟩
            have hhC2 := hk11.heap hhC (by simp)
            have hlC2 := lt_of_heap hhC2
            obtain ⟨m0, m1, m2, m3, m4⟩ := cells5 hhC2
            have hkD := hk11.alloc (.cells #[.int .i64 ak, .int .i64 0, .int .i64 ab, .slice none 0 0, .slice none 0 0] 25)
            go_wp2_with fail
            generalize w11.alloc (.cells #[.int .i64 ak, .int .i64 0, .int .i64 ab, .slice none 0 0, .slice none 0 0] 25) = wD at *
            have hsme := fsame_calls ⟨ak, 0, ab, [], []⟩ ⟨ak, 0, ab, [], []⟩ (.slice none 0 0) (.slice none 0 0) (.slice none 0 0) (.slice none 0 0) wD (OR.nil wD 0).rws (Sl.of_own (Own.nil wD 0 0 1)) (OR.nil wD 0).rws (Sl.of_own (Own.nil wD 0 0 1)) (by simp) (by simp)
            rw [sameF_self] at hsme
            unfold fcells at hsme
            simp only at hsme
            refine hsme.mono ?_
            rintro e w12 ⟨rfl, hk12⟩
            have hkE := (hkC.trans hkD).trans hk12
            have hbb : (bz != bz) = false := by simp
            have hr12 := hr6.kp hkE (by simp)
            have hx12 := hx6.kp hkE (by simp)
            have K12 := K6.trans hkE
            clear m0 m1 m2 m3 m4 hsme
            go_wp2_with fail
            go_roundw
            case measure => simp [intOf]; omega
            case rel => exact ⟨i + 1, ny, by omega, by go_num, hr12, hx12, K12⟩
    · have hd : decide ((i : Int) < (os.length : Int)) = false := by rw [decide_eq_false_iff_not]; omega
      go_wp2_with fail
      go_ret
      exact ⟨rfl, hkr⟩
end Go.Proofs.YtddpefbpiehgeaaDoor

