/- The link: a tick, whatever comes in. -/
import Derived.Test.YtddpefbpiehgeaaDoorF16
import Derived.Test.YtddpefbpiehgeaaDoorF07
import Derived.ProofKit
import Derived.OpenShut
namespace Go.Proofs.YtddpefbpiehgeaaDoor
open Go Go.RowKit
set_option maxRecDepth 100000
set_option linter.unusedVariables false
set_option linter.unusedSectionVars false
set_option linter.unusedSimpArgs false

theorem tick_calls (P : Nat → Prop) (p mb n win bat : Nat) (ev clk : Int) (f : Sent) (v : Value) (cs : List Value) (xs : List It) (w : World) (hP : ¬ P p) (hP2 : ¬ P mb) (hs : IsS w p mb n win bat ev clk f) (hclk : clk ≤ 100000000000000) (hnn : n ≤ 10000000000000) (hsl : Sl w 2 v xs.length cs) (hv : BlkP P v) (hi : ItC P w cs xs) (hn : xs.length ≤ 100000000000000) (hl : ∀ x ∈ xs, x.b.length ≤ 140737488355328) :
    Calls Tryd.prog 28 #[.pointer (some ⟨p, 0, none⟩), v] w (RetT (tick win bat (clk + 1) ev f xs) p mb n win bat ev (clk + 1) w) := by
  cases hr : rowB xs with
  | false => exact tick_bad P p mb n win bat ev clk f v cs xs w hP hP2 hs hclk hsl hv hi hn hl hr
  | true =>
    rcases Nat.lt_or_ge win xs.length with h | h
    · exact tick_okA P p mb n win bat ev clk f v cs xs w hP hP2 hs hclk hnn hsl hv hi hn hr h
    · exact tick_okB P p mb n win bat ev clk f v cs xs w hP hP2 hs hclk hnn hsl hv hi hn hr h

/-- The frame at a place of a row of frames. -/
theorem frame_at {P : Nat → Prop} {w : World} {a : Option Addr} {n cap : Nat} {cs : List Value} {fs : List Fr} (hs : Sl w 5 (.slice a n cap) n cs) (hf : FrC P w cs fs) (hn : n = fs.length) (i : Nat) (h : i < fs.length) :
    ∃ b off iv tv, a = some ⟨b, off, none⟩ ∧ b < w.heap.size ∧
      w.cell? ⟨b, off + i * 5, none⟩ = some (.int .i64 fs[i].k) ∧ w.cell? ⟨b, off + i * 5 + 1, none⟩ = some (.int .i64 fs[i].a) ∧ w.cell? ⟨b, off + i * 5 + 2, none⟩ = some (.int .i64 fs[i].b) ∧ w.cell? ⟨b, off + i * 5 + 3, none⟩ = some iv ∧ w.cell? ⟨b, off + i * 5 + 4, none⟩ = some tv ∧
      RwP P w iv fs[i].its ∧ Bs w tv fs[i].t ∧ BlkP P tv := by
  obtain ⟨a', cap', he, hc, _, h6, h7⟩ := Sl.form hs
  cases he
  obtain ⟨b, off, rfl, hlt⟩ := h6 (by omega)
  obtain ⟨iv, tv, h1, h2, h3, h4⟩ := hf.2 i h
  have hcell : ∀ j u, j < 5 → (fcells fs[i] iv tv).toList[j]? = some u → w.cell? ⟨b, off + (i * 5 + j), none⟩ = some u := fun j u hj hu => by
    refine (h7 b off rfl).2 _ _ ?_
    rw [← h1, List.getElem?_take, if_pos hj, List.getElem?_drop] at hu
    exact hu
  exact ⟨b, off, iv, tv, rfl, hlt, hcell 0 _ (by omega) rfl, hcell 1 _ (by omega) rfl, hcell 2 _ (by omega) rfl, hcell 3 _ (by omega) rfl, hcell 4 _ (by omega) rfl, h2, h3, h4⟩
end Go.Proofs.YtddpefbpiehgeaaDoor

/- Plain: what is made is parsed as it was, what is parsed is made as it stood. -/
namespace Go.Proofs.YtddpefbpiehgeaaDoor
open Go Go.RowKit
set_option maxRecDepth 100000
set_option linter.unusedVariables false
set_option linter.unusedSectionVars false
set_option linter.unusedSimpArgs false

theorem opened_sealed (s : ByteArray) (d : List UInt8) : opened s (sealed s d) = some d := by
  have h := hmac_length s d
  unfold opened sealed
  have hl : (d ++ (hmac s d).take 16).length - 16 = d.length := by rw [List.length_append, List.length_take, h]; omega
  rw [hl, List.take_left, List.drop_left, if_pos rfl]
theorem sealed_length (s : ByteArray) (d : List UInt8) : (sealed s d).length = d.length + 16 := by
  have h := hmac_length s d
  unfold sealed
  rw [List.length_append, List.length_take, h]; rfl
theorem sealed_opened {s : ByteArray} {l d : List UInt8} (h : opened s l = some d) : sealed s d = l := by
  unfold opened at h
  split at h
  · rename_i hc
    cases h
    unfold sealed
    rw [hc, List.take_append_drop]
  · cases h

/-! Reading what stands there -/
def ok0 (s : RS) : Prop := s.code = 0
theorem rdNum_at {d pre post : List UInt8} {n k : Nat} {s : RS} (hc : s.code = 0) (hd : d = pre ++ (dig n k ++ post)) (ha : s.at_ = pre.length) (hn : n < 256 ^ k) (h9 : n ≤ 9223372036854775807) : rdNum d k s = (n, s.move k) := by
  have ht : (d.drop s.at_).take k = dig n k := by
    rw [hd, ha, List.drop_left, List.take_left' (dig_length k n)]
  unfold rdNum
  rw [if_neg (by simpa using hc), if_neg (by rw [hd, ha, List.length_append, List.length_append, dig_length]; omega), ht, num_dig k n hn, if_neg (by omega)]
theorem rdCount_at {d pre post : List UInt8} {n m : Nat} {s : RS} (hc : s.code = 0) (hd : d = pre ++ (dig n 2 ++ post)) (ha : s.at_ = pre.length) (hn : n ≤ m) (hm : m < 65536) : rdCount d m s = (n, s.move 2) := by
  have ht : (d.drop s.at_).take 2 = dig n 2 := by
    rw [hd, ha, List.drop_left, List.take_left' (dig_length 2 n)]
  unfold rdCount
  rw [if_neg (by simpa using hc), if_neg (by rw [hd, ha, List.length_append, List.length_append, dig_length]; omega), ht, num_dig 2 n (by omega), if_neg (by omega)]
theorem rdText_at {d pre post x : List UInt8} {m : Nat} {s : RS} (hc : s.code = 0) (hd : d = pre ++ (txt x ++ post)) (ha : s.at_ = pre.length) (hn : x.length ≤ m) (hm : m < 65536) : rdText d m s = (x, s.move (2 + x.length)) := by
  have hd2 : d = pre ++ (dig x.length 2 ++ (x ++ post)) := by rw [hd, txt, List.append_assoc]
  have ht : (d.drop s.at_).take 2 = dig x.length 2 := by
    rw [hd2, ha, List.drop_left, List.take_left' (dig_length 2 _)]
  have hx : (d.drop (s.at_ + 2)).take x.length = x := by
    rw [← List.drop_drop, hd2, ha, List.drop_left, List.drop_left' (dig_length 2 _), List.take_left]
  unfold rdText
  rw [if_neg (by simpa using hc), if_neg (by rw [hd2, ha, List.length_append, List.length_append, dig_length]; omega), ht, num_dig 2 _ (by omega), if_neg (by omega), if_neg (by rw [hd2, ha, List.length_append, List.length_append, List.length_append, dig_length]; omega), hx]
theorem rdIts_at {d : List UInt8} : ∀ (its pre' : List (List UInt8)) (pre post : List UInt8) (s : RS), s.code = 0 → d = pre ++ (itsBytes its ++ post) → s.at_ = pre.length → (∀ x ∈ its, x.length ≤ 256) →
    ∃ s', rdIts d its.length pre' s = (pre' ++ its, s') ∧ s'.code = 0 ∧ s'.at_ = pre.length + (itsBytes its).length
  | [], pre', pre, post, s, hc, hd, ha, h => ⟨s, by simp [rdIts], hc, by simp [itsBytes, ha]⟩
  | x :: its, pre', pre, post, s, hc, hd, ha, h => by
    have e : itsBytes (x :: its) = txt x ++ itsBytes its := rfl
    rw [e, List.append_assoc] at hd
    have hr := rdText_at (m := 256) hc hd ha (h x (by simp)) (by omega)
    obtain ⟨s', h1, h2, h3⟩ := rdIts_at (d := d) its (pre' ++ [x]) (pre ++ txt x) post (s.move (2 + x.length)) hc (by rw [hd]; simp) (by simp [RS.move, ha, txt]) (fun y hy => h y (by simp [hy]))
    refine ⟨s', ?_, h2, ?_⟩
    · rw [List.length_cons, rdIts, hr, h1]; simp
    · rw [h3, e]; simp; omega
theorem rdEnd_at {d : List UInt8} {s : RS} (ha : s.at_ = d.length) : rdEnd d s = s := by
  unfold rdEnd
  rw [if_neg (by omega)]

theorem parsed_frame {f : Fr} (hm : mayB f = true) : parsed (frameBytes f) = some f := by
  obtain ⟨fk, fa, fb, its, t⟩ := f
  rcases may_k hm with hk | ⟨hk, ha, hi, ht, h0, h9⟩ | ⟨hk, ha, hi, hb, h9⟩
  · obtain ⟨ht, hx, hn1, hn8, ha1, hab, hb9⟩ := may_1 hm hk
    simp only at *
    subst hk ht
    have hd : frameBytes ⟨1, fa, fb, its, []⟩ = dig 1 1 ++ (dig fa.toNat 8 ++ (dig fb.toNat 8 ++ (dig its.length 2 ++ itsBytes its))) := rfl
    have h1 := rdNum_at (d := frameBytes ⟨1, fa, fb, its, []⟩) (pre := []) (n := 1) (k := 1) (s := ⟨0, 0, 0, 0⟩) rfl hd rfl (by decide) (by omega : 1 ≤ 9223372036854775807)
    have h2 := rdNum_at (d := frameBytes ⟨1, fa, fb, its, []⟩) (pre := dig 1 1) (k := 8) (s := RS.move ⟨0, 0, 0, 0⟩ 1) rfl hd (by simp [RS.move]) (by simp; omega) (by omega : fa.toNat ≤ 9223372036854775807)
    have h3 := rdNum_at (d := frameBytes ⟨1, fa, fb, its, []⟩) (pre := dig 1 1 ++ dig fa.toNat 8) (k := 8) (post := dig its.length 2 ++ itsBytes its) (s := RS.move (RS.move ⟨0, 0, 0, 0⟩ 1) 8) rfl (by rw [hd]; simp) (by simp [RS.move]) (by simp; omega) (by omega : fb.toNat ≤ 9223372036854775807)
    have h4 := rdCount_at (d := frameBytes ⟨1, fa, fb, its, []⟩) (pre := dig 1 1 ++ (dig fa.toNat 8 ++ dig fb.toNat 8)) (post := itsBytes its) (s := RS.move (RS.move (RS.move ⟨0, 0, 0, 0⟩ 1) 8) 8) rfl (by rw [hd]; simp) (by simp [RS.move]) hn8 (by omega)
    obtain ⟨s', h5, h6, h7⟩ := rdIts_at (d := frameBytes ⟨1, fa, fb, its, []⟩) its [] (dig 1 1 ++ (dig fa.toNat 8 ++ (dig fb.toNat 8 ++ dig its.length 2))) [] (RS.move (RS.move (RS.move (RS.move ⟨0, 0, 0, 0⟩ 1) 8) 8) 2) rfl (by rw [hd]; simp) (by simp [RS.move]) hx
    have h8 : rdEnd (frameBytes ⟨1, fa, fb, its, []⟩) s' = s' := rdEnd_at (by rw [h7, hd]; simp; omega)
    have hr : rdFrame (frameBytes ⟨1, fa, fb, its, []⟩) = (⟨1, fa, fb, its, []⟩, s') := by
      unfold rdFrame
      simp only [h1, h2, h3, h4, h5, h8, if_true, List.nil_append]
      rw [show ((fa.toNat : Nat) : Int) = fa by omega, show ((fb.toNat : Nat) : Int) = fb by omega]
      rfl
    unfold parsed
    rw [hr]
    simp only [h6, hm]
    rfl
  · simp only at *
    subst ha hi ht
    have hk' : fk.toNat = 2 ∨ fk.toNat = 3 := by omega
    have hd : frameBytes ⟨fk, 0, fb, [], []⟩ = dig fk.toNat 1 ++ dig fb.toNat 8 := by
      unfold frameBytes; rw [if_neg (by simp only; omega), if_neg (by simp only; omega)]
    have h1 := rdNum_at (d := frameBytes ⟨fk, 0, fb, [], []⟩) (pre := []) (k := 1) (s := ⟨0, 0, 0, 0⟩) rfl hd rfl (by simp; omega) (by omega : fk.toNat ≤ 9223372036854775807)
    have h2 := rdNum_at (d := frameBytes ⟨fk, 0, fb, [], []⟩) (pre := dig fk.toNat 1) (post := []) (k := 8) (s := RS.move ⟨0, 0, 0, 0⟩ 1) rfl (by rw [hd]; simp) (by simp [RS.move]) (by simp; omega) (by omega : fb.toNat ≤ 9223372036854775807)
    have h8 : rdEnd (frameBytes ⟨fk, 0, fb, [], []⟩) (RS.move (RS.move ⟨0, 0, 0, 0⟩ 1) 8) = (RS.move (RS.move ⟨0, 0, 0, 0⟩ 1) 8) := rdEnd_at (by rw [hd]; simp [RS.move])
    have hr : rdFrame (frameBytes ⟨fk, 0, fb, [], []⟩) = (⟨fk, 0, fb, [], []⟩, RS.move (RS.move ⟨0, 0, 0, 0⟩ 1) 8) := by
      unfold rdFrame
      simp only [h1, h2, h8]
      rw [if_neg (by omega), if_neg (by omega), show ((fk.toNat : Nat) : Int) = fk by omega, show ((fb.toNat : Nat) : Int) = fb by omega]
    unfold parsed
    rw [hr]
    simp only [hm]
    rfl
  · simp only at *
    subst hk ha hi hb
    have hd : frameBytes ⟨4, 0, 0, [], t⟩ = dig 4 1 ++ txt t := rfl
    have h1 := rdNum_at (d := frameBytes ⟨4, 0, 0, [], t⟩) (pre := []) (n := 4) (k := 1) (s := ⟨0, 0, 0, 0⟩) rfl hd rfl (by decide) (by omega : 4 ≤ 9223372036854775807)
    have h2 := rdText_at (d := frameBytes ⟨4, 0, 0, [], t⟩) (pre := dig 4 1) (post := []) (m := 16100) (s := RS.move ⟨0, 0, 0, 0⟩ 1) rfl (by rw [hd]; simp) (by simp [RS.move]) h9 (by omega)
    have h8 : rdEnd (frameBytes ⟨4, 0, 0, [], t⟩) (RS.move (RS.move ⟨0, 0, 0, 0⟩ 1) (2 + t.length)) = (RS.move (RS.move ⟨0, 0, 0, 0⟩ 1) (2 + t.length)) := rdEnd_at (by rw [hd]; simp [RS.move, txt])
    have hr : rdFrame (frameBytes ⟨4, 0, 0, [], t⟩) = (⟨4, 0, 0, [], t⟩, RS.move (RS.move ⟨0, 0, 0, 0⟩ 1) (2 + t.length)) := by
      unfold rdFrame
      simp only [h1, h2, h8]
      rfl
    unfold parsed
    rw [hr]
    simp only [hm]
    rfl

/-! What stood there, when something was read -/
theorem rdNum_ok {d : List UInt8} {k n : Nat} {s s' : RS} (h : rdNum d k s = (n, s')) (hc : s'.code = 0) : s.code = 0 ∧ s' = s.move k ∧ d.drop s.at_ = dig n k ++ d.drop (s.at_ + k) ∧ s.at_ + k ≤ d.length := by
  unfold rdNum at h
  split at h
  · cases h; exact absurd hc (by assumption)
  · rename_i h0
    split at h
    · cases h; simp [RS.fault] at hc
    · split at h
      · cases h; simp [RS.fault] at hc
      · cases h
        have hl : ((d.drop s.at_).take k).length = k := by simp; omega
        refine ⟨by simpa using h0, rfl, ?_, by omega⟩
        have := dig_num ((d.drop s.at_).take k)
        rw [hl] at this
        rw [this, ← List.drop_drop, List.take_append_drop]
theorem rdCount_ok {d : List UInt8} {m n : Nat} {s s' : RS} (h : rdCount d m s = (n, s')) (hc : s'.code = 0) : s.code = 0 ∧ s' = s.move 2 ∧ d.drop s.at_ = dig n 2 ++ d.drop (s.at_ + 2) ∧ s.at_ + 2 ≤ d.length := by
  unfold rdCount at h
  split at h
  · cases h; exact absurd hc (by assumption)
  · rename_i h0
    split at h
    · cases h; simp [RS.fault] at hc
    · split at h
      · cases h; simp [RS.fault] at hc
      · cases h
        have hl : ((d.drop s.at_).take 2).length = 2 := by simp; omega
        refine ⟨by simpa using h0, rfl, ?_, by omega⟩
        have := dig_num ((d.drop s.at_).take 2)
        rw [hl] at this
        rw [this, ← List.drop_drop, List.take_append_drop]
theorem rdText_ok {d x : List UInt8} {m : Nat} {s s' : RS} (h : rdText d m s = (x, s')) (hc : s'.code = 0) : s.code = 0 ∧ d.drop s.at_ = txt x ++ d.drop s'.at_ ∧ s'.at_ ≤ d.length := by
  unfold rdText at h
  split at h
  · cases h; exact absurd hc (by assumption)
  · rename_i h0
    split at h
    · cases h; simp [RS.fault] at hc
    · split at h
      · cases h; simp [RS.fault] at hc
      · split at h
        · cases h; simp [RS.fault] at hc
        · cases h
          have hl : ((d.drop s.at_).take 2).length = 2 := by simp; omega
          have hn := dig_num ((d.drop s.at_).take 2)
          rw [hl] at hn
          have hx : ((d.drop (s.at_ + 2)).take (num ((d.drop s.at_).take 2))).length = num ((d.drop s.at_).take 2) := by simp; omega
          refine ⟨by simpa using h0, ?_, by simp only [RS.move]; omega⟩
          unfold txt
          rw [hx, hn, List.append_assoc]
          simp only [RS.move]
          rw [show s.at_ + (2 + num ((d.drop s.at_).take 2)) = s.at_ + 2 + num ((d.drop s.at_).take 2) by omega, ← List.drop_drop (j := s.at_ + 2), List.take_append_drop, ← List.drop_drop, List.take_append_drop]
theorem rdIts_ok {d : List UInt8} : ∀ (n : Nat) (pre its : List (List UInt8)) (s s' : RS), rdIts d n pre s = (its, s') → s'.code = 0 → s.code = 0 ∧ ∃ l, its = pre ++ l ∧ l.length = n ∧ d.drop s.at_ = itsBytes l ++ d.drop s'.at_
  | 0, pre, its, s, s', h, hc => by
    cases h
    exact ⟨hc, [], by simp, rfl, rfl⟩
  | n + 1, pre, its, s, s', h, hc => by
    rw [rdIts] at h
    obtain ⟨x, s1, hx⟩ : ∃ x s1, rdText d 256 s = (x, s1) := ⟨_, _, rfl⟩
    rw [hx] at h
    obtain ⟨h1, l, h2, h3, h4⟩ := rdIts_ok n _ _ _ _ h hc
    obtain ⟨h5, h6, _⟩ := rdText_ok hx h1
    refine ⟨h5, x :: l, by rw [h2]; simp, by simp [h3], ?_⟩
    rw [h6, h4, ← List.append_assoc]; rfl
theorem rdEnd_ok {d : List UInt8} {s : RS} (hc : (rdEnd d s).code = 0) : s.code = 0 ∧ d.length ≤ s.at_ := by
  unfold rdEnd at hc
  split at hc
  · simp [RS.fault] at hc
  · rename_i h
    exact ⟨hc, by omega⟩

theorem frame_parsed {d : List UInt8} {f : Fr} (h : parsed d = some f) : frameBytes f = d ∧ mayB f = true := by
  unfold parsed at h
  split at h
  · rename_i hc
    simp only [Bool.and_eq_true, decide_eq_true_eq] at hc
    obtain ⟨hc, hm⟩ := hc
    cases h
    refine ⟨?_, hm⟩
    unfold rdFrame at hc hm ⊢
    obtain ⟨k, s1, h1⟩ : ∃ k s1, rdNum d 1 ⟨0, 0, 0, 0⟩ = (k, s1) := ⟨_, _, rfl⟩
    simp only [h1] at hc hm ⊢
    by_cases hk1 : k = 1
    · simp only [if_pos hk1] at hc hm ⊢
      obtain ⟨fa, sa, ha⟩ : ∃ k s1', rdNum d 8 s1 = (k, s1') := ⟨_, _, rfl⟩
      obtain ⟨b, s2, h2⟩ : ∃ k s1', rdNum d 8 sa = (k, s1') := ⟨_, _, rfl⟩
      obtain ⟨N, s4, h4⟩ : ∃ k s1', rdCount d 8 s2 = (k, s1') := ⟨_, _, rfl⟩
      obtain ⟨its, s5, h5⟩ : ∃ k s1', rdIts d N [] s4 = (k, s1') := ⟨_, _, rfl⟩
      simp only [ha, h2, h4, h5] at hc hm ⊢
      obtain ⟨c5, e5⟩ := rdEnd_ok hc
      obtain ⟨c4, l, hl, hN, d5⟩ := rdIts_ok _ _ _ _ _ h5 c5
      obtain ⟨c2, e4, d4, _⟩ := rdCount_ok h4 c4
      obtain ⟨ca, e2, d2, _⟩ := rdNum_ok h2 c2
      obtain ⟨c1, ea, da, _⟩ := rdNum_ok ha ca
      obtain ⟨_, e1, d1, _⟩ := rdNum_ok h1 c1
      rw [List.nil_append] at hl
      subst hl
      subst e1 ea e2 e4
      simp only [RS.move, List.drop_zero] at d1 da d2 d4 d5
      rw [List.drop_of_length_le e5, List.append_nil] at d5
      rw [d5] at d4
      rw [d4] at d2
      rw [d2] at da
      rw [da] at d1
      subst hk1
      unfold frameBytes
      rw [if_pos (show ((1 : Nat) : Int) = 1 from rfl)]
      simp only [Int.toNat_natCast]
      rw [hN]
      exact d1.symm
    · simp only [if_neg hk1] at hc hm ⊢
      by_cases hk4 : k = 4
      · simp only [if_pos hk4] at hc hm ⊢
        obtain ⟨t, s2, h2⟩ : ∃ k s1', rdText d 16100 s1 = (k, s1') := ⟨_, _, rfl⟩
        simp only [h2] at hc hm ⊢
        obtain ⟨c2, e2⟩ := rdEnd_ok hc
        obtain ⟨c1, d2, _⟩ := rdText_ok h2 c2
        obtain ⟨_, e1, d1, _⟩ := rdNum_ok h1 c1
        subst e1
        simp only [RS.move, List.drop_zero] at d1 d2
        rw [List.drop_of_length_le e2, List.append_nil] at d2
        rw [d2] at d1
        subst hk4
        unfold frameBytes
        rw [if_neg (by simp), if_pos (show ((4 : Nat) : Int) = 4 from rfl)]
        exact d1.symm
      · simp only [if_neg hk4] at hc hm ⊢
        obtain ⟨b, s2, h2⟩ : ∃ k s1', rdNum d 8 s1 = (k, s1') := ⟨_, _, rfl⟩
        simp only [h2] at hc hm ⊢
        obtain ⟨c2, e2⟩ := rdEnd_ok hc
        obtain ⟨c1, e2', d2, _⟩ := rdNum_ok h2 c2
        obtain ⟨_, e1, d1, _⟩ := rdNum_ok h1 c1
        subst e1 e2'
        simp only [RS.move, List.drop_zero] at d1 d2 e2
        rw [List.drop_of_length_le e2, List.append_nil] at d2
        rw [d2] at d1
        unfold frameBytes
        rw [if_neg (by simp only; omega), if_neg (by simp only; omega)]
        exact d1.symm
  · cases h

theorem parsedOf_made {s : ByteArray} {f : Fr} {l : List UInt8} (h : madeOf s f = (l, 0)) : parsedOf s l = (f, 0) := by
  unfold madeOf at h
  split at h
  · cases h
  · rename_i hm
    split at h
    · cases h
    · rename_i hs
      cases h
      have hl := sealed_length s (frameBytes f)
      unfold parsedOf
      rw [if_neg hs, if_neg (by omega), opened_sealed]
      simp only
      rw [parsed_frame (by simpa using hm)]
theorem madeOf_parsed {s : ByteArray} {f : Fr} {l : List UInt8} (h : parsedOf s l = (f, 0)) : madeOf s f = (l, 0) := by
  unfold parsedOf at h
  split at h
  · cases h
  · rename_i hs
    split at h
    · cases h
    · split at h
      · cases h
      · rename_i d ho
        split at h
        · cases h
        · rename_i f' hp
          cases h
          obtain ⟨h1, h2⟩ := frame_parsed hp
          unfold madeOf
          rw [h2, if_neg (by simp), if_neg hs, h1, sealed_opened ho]
theorem madeOf_err {s : ByteArray} {f : Fr} (h : (madeOf s f).2 ≠ 0) : (madeOf s f).1 = [] := by
  unfold madeOf at h ⊢
  split
  · rfl
  · split
    · rfl
    · rename_i h1 h2
      rw [if_neg h1, if_neg h2] at h
      exact absurd rfl h
end Go.Proofs.YtddpefbpiehgeaaDoor

/- The laws' small case. -/
namespace Go.Proofs.YtddpefbpiehgeaaDoor
open Go Go.RowKit
set_option maxRecDepth 100000
set_option linter.unusedVariables false
set_option linter.unusedSectionVars false
set_option linter.unusedSimpArgs false

def it5 : It := ⟨5, [97]⟩
def it6 : It := ⟨6, [98]⟩
def it7 : It := ⟨7, [99]⟩
def it8 : It := ⟨8, [100]⟩
def its4 : List It := [it5, it6, it7, it8]
def fr5 : Fr := ⟨1, 5, 5, [[97], [98]], []⟩
def fr7 : Fr := ⟨1, 5, 7, [[99]], []⟩
theorem tick1 : (tick 3 2 1 2 (fun _ => none) its4).2 = [fr5, fr7] := by rfl
theorem tick2 : (tick 3 2 2 2 (tick 3 2 1 2 (fun _ => none) its4).1 its4).2 = [] := by rfl
theorem got7 : got 0 fr7 = (5, []) := by rfl
theorem got5 : got 5 fr5 = (5, [it5, it6]) := by rfl
theorem may5 : mayB fr5 = true := by rfl

theorem newSender_322 (w : World) : Calls Tryd.prog 27 #[.int .i64 3, .int .i64 2, .int .i64 2] w fun e w' => ∃ p mb, e = .returned (.tuple #[.pointer (some ⟨p, 0, none⟩), .int .i64 0]) ∧ IsS w' p mb 0 3 2 2 0 (fun _ => none) ∧ w.heap.size ≤ p ∧ w.heap.size ≤ mb ∧ Kp [] w w' :=
  newSender_calls 3 2 2 w (by omega) (by omega) (by omega) (by omega) (by omega) (by omega)


theorem conv_lit (w : World) (x : Int) (g : Nat) (hg : g = w.heap.size) : (convert 23 23 (.slice (some ⟨g, 0, none⟩) 1 1)).run Tryd.prog (w.alloc (.cells #[.int .u8 x] 5)) = .ok (.slice (some ⟨g, 0, none⟩) 1 1) (w.alloc (.cells #[.int .u8 x] 5 (1, 2))) := by
  subst hg
  exact Lib.run_convert_bytes_const (P := Tryd.prog) w 23 5 #[.int .u8 x] 1 1 Tryd.underlying23 Tryd.underlying5

theorem bs_of {w : World} {g : Nat} {x : UInt8} {xi : Int} {T : TypeId} {fr : Nat × Nat} (hx : xi = (x.toNat : Int)) (h : w.heap[g]? = some (.cells #[.int .u8 xi] T fr)) : Bs w (.slice (some ⟨g, 0, none⟩) 1 1) [x] := by
  subst hx
  refine ⟨rfl, .inr (.inr ⟨g, 0, 1, rfl, Nat.le_refl _, lt_of_heap h, fun j u hu => ?_⟩)⟩
  rw [Nat.zero_add, cell_heap h, ← Array.getElem?_toList]
  exact hu

theorem two_frames {l : FL} {x y : Fr} (h : l.map Prod.fst = [x, y]) : ∃ a b, l = [(x, a), (y, b)] := by
  match l, h with
  | [(x', a), (y', b)], h => simp at h; obtain ⟨rfl, rfl⟩ := h; exact ⟨a, b, rfl⟩
theorem cells10 {w : World} {B T ob oc : Nat} {v0 v1 v2 v3 v4 v5 v6 v7 v8 v9 : Value} (h : Own w B T 5 (.slice (some ⟨ob, 0, none⟩) 2 oc) 2 [v0, v1, v2, v3, v4, v5, v6, v7, v8, v9]) :
    w.cell? ⟨ob, 0, none⟩ = some v0 ∧ w.cell? ⟨ob, 1, none⟩ = some v1 ∧ w.cell? ⟨ob, 2, none⟩ = some v2 ∧ w.cell? ⟨ob, 3, none⟩ = some v3 ∧ w.cell? ⟨ob, 4, none⟩ = some v4 ∧ w.cell? ⟨ob, 5, none⟩ = some v5 ∧ w.cell? ⟨ob, 6, none⟩ = some v6 ∧ w.cell? ⟨ob, 7, none⟩ = some v7 ∧ w.cell? ⟨ob, 8, none⟩ = some v8 ∧ w.cell? ⟨ob, 9, none⟩ = some v9 :=
  ⟨h.cellAt 0 (by omega), h.cellAt 1 (by omega), h.cellAt 2 (by omega), h.cellAt 3 (by omega), h.cellAt 4 (by omega), h.cellAt 5 (by omega), h.cellAt 6 (by omega), h.cellAt 7 (by omega), h.cellAt 8 (by omega), h.cellAt 9 (by omega)⟩

/-- The items of the small case. -/
theorem four_items (w2 : World) : ∃ cs w3, w3 = (((((w2.alloc (.cells #[.int .u8 97] 5 (1, 2))).alloc (.cells #[.int .u8 98] 5 (1, 2))).alloc (.cells #[.int .u8 99] 5 (1, 2))).alloc (.cells #[.int .u8 100] 5 (1, 2))).alloc (.cells #[.int .i64 5, .slice (some ⟨w2.heap.size, 0, none⟩) 1 1, .int .i64 6, .slice (some ⟨w2.heap.size + 1, 0, none⟩) 1 1, .int .i64 7, .slice (some ⟨w2.heap.size + 1 + 1, 0, none⟩) 1 1, .int .i64 8, .slice (some ⟨w2.heap.size + 1 + 1 + 1, 0, none⟩) 1 1] 51)) ∧
    Kp [] w2 w3 ∧ w2.heap.size < w3.heap.size ∧ Sl w3 2 (.slice (some ⟨w2.heap.size + 1 + 1 + 1 + 1, 0, none⟩) 4 4) 4 cs ∧ ItC (w2.heap.size ≤ ·) w3 cs its4 := by
  refine ⟨[.int .i64 5, .slice (some ⟨w2.heap.size, 0, none⟩) 1 1, .int .i64 6, .slice (some ⟨w2.heap.size + 1, 0, none⟩) 1 1, .int .i64 7, .slice (some ⟨w2.heap.size + 1 + 1, 0, none⟩) 1 1, .int .i64 8, .slice (some ⟨w2.heap.size + 1 + 1 + 1, 0, none⟩) 1 1], _, rfl, (((((Kp.refl [] w2).alloc _).alloc _).alloc _).alloc _).alloc _, by simp only [World.size_alloc]; omega, ?_, rfl, ?_⟩
  · have h := sl_alloc ((((w2.alloc (.cells #[.int .u8 97] 5 (1, 2))).alloc (.cells #[.int .u8 98] 5 (1, 2))).alloc (.cells #[.int .u8 99] 5 (1, 2))).alloc (.cells #[.int .u8 100] 5 (1, 2))) 51 #[.int .i64 5, .slice (some ⟨w2.heap.size, 0, none⟩) 1 1, .int .i64 6, .slice (some ⟨w2.heap.size + 1, 0, none⟩) 1 1, .int .i64 7, .slice (some ⟨w2.heap.size + 1 + 1, 0, none⟩) 1 1, .int .i64 8, .slice (some ⟨w2.heap.size + 1 + 1 + 1, 0, none⟩) 1 1] _ rfl 2 4 rfl
    simp only [World.size_alloc] at h
    exact h
  · intro i hi
    have hi' : i < 4 := hi
    rcases (show i = 0 ∨ i = 1 ∨ i = 2 ∨ i = 3 by omega) with rfl | rfl | rfl | rfl
    · exact ⟨_, rfl, rfl, bs_of (x := 97) (xi := 97) (T := 5) (fr := (1, 2)) rfl ((((((Kp.refl [] (w2.alloc (.cells #[.int .u8 97] 5 (1, 2)))).alloc _).alloc _).alloc _).alloc _).heap (by have h := heap_alloc_new w2 (.cells #[.int .u8 97] 5 (1, 2)); first | exact h | (simp only [World.size_alloc] at h; exact h)) (by simp)), fun g hg => by cases hg; exact Nat.le_refl _⟩
    · exact ⟨_, rfl, rfl, bs_of (x := 98) (xi := 98) (T := 5) (fr := (1, 2)) rfl (((((Kp.refl [] ((w2.alloc (.cells #[.int .u8 97] 5 (1, 2))).alloc (.cells #[.int .u8 98] 5 (1, 2)))).alloc _).alloc _).alloc _).heap (by have h := heap_alloc_new (w2.alloc (.cells #[.int .u8 97] 5 (1, 2))) (.cells #[.int .u8 98] 5 (1, 2)); first | exact h | (simp only [World.size_alloc] at h; exact h)) (by simp)), fun g hg => by cases hg; dsimp only; omega⟩
    · exact ⟨_, rfl, rfl, bs_of (x := 99) (xi := 99) (T := 5) (fr := (1, 2)) rfl ((((Kp.refl [] (((w2.alloc (.cells #[.int .u8 97] 5 (1, 2))).alloc (.cells #[.int .u8 98] 5 (1, 2))).alloc (.cells #[.int .u8 99] 5 (1, 2)))).alloc _).alloc _).heap (by have h := heap_alloc_new ((w2.alloc (.cells #[.int .u8 97] 5 (1, 2))).alloc (.cells #[.int .u8 98] 5 (1, 2))) (.cells #[.int .u8 99] 5 (1, 2)); first | exact h | (simp only [World.size_alloc] at h; exact h)) (by simp)), fun g hg => by cases hg; dsimp only; omega⟩
    · exact ⟨_, rfl, rfl, bs_of (x := 100) (xi := 100) (T := 5) (fr := (1, 2)) rfl (((Kp.refl [] ((((w2.alloc (.cells #[.int .u8 97] 5 (1, 2))).alloc (.cells #[.int .u8 98] 5 (1, 2))).alloc (.cells #[.int .u8 99] 5 (1, 2))).alloc (.cells #[.int .u8 100] 5 (1, 2)))).alloc _).heap (by have h := heap_alloc_new (((w2.alloc (.cells #[.int .u8 97] 5 (1, 2))).alloc (.cells #[.int .u8 98] 5 (1, 2))).alloc (.cells #[.int .u8 99] 5 (1, 2))) (.cells #[.int .u8 100] 5 (1, 2)); first | exact h | (simp only [World.size_alloc] at h; exact h)) (by simp)), fun g hg => by cases hg; dsimp only; omega⟩

theorem IsF.lit {w : World} {B : Nat} {v : Value} {f : Fr} (h : IsF w B v f) : ∃ ia ic ta tc, v = .agg #[.int .i64 f.k, .int .i64 f.a, .int .i64 f.b, .slice ia f.its.length ic, .slice ta f.t.length tc] ∧ RwP (B ≤ ·) w (.slice ia f.its.length ic) f.its ∧ Bs w (.slice ta f.t.length tc) f.t := by
  obtain ⟨iv, tv, us, he, ho, hi, ht, _⟩ := h
  obtain ⟨ia, ic, rfl⟩ := own_form ho
  obtain ⟨ta, tc, rfl⟩ := own_form ht
  exact ⟨ia, ic, ta, tc, he, RwP.of ho hi, OB.bs ht⟩
theorem IsF.lit5 {w : World} {B : Nat} {v : Value} (h : IsF w B v fr5) : ∃ ia ic ta tc, v = .agg #[.int .i64 1, .int .i64 5, .int .i64 5, .slice ia 2 ic, .slice ta 0 tc] ∧ RwP (B ≤ ·) w (.slice ia 2 ic) fr5.its ∧ Bs w (.slice ta 0 tc) fr5.t := h.lit
theorem IsF.lit0 {w : World} {B : Nat} {v : Value} (h : IsF w B v zeroF) : ∃ ia ic ta tc, v = .agg #[.int .i64 0, .int .i64 0, .int .i64 0, .slice ia 0 ic, .slice ta 0 tc] ∧ RwP (B ≤ ·) w (.slice ia 0 ic) [] ∧ Bs w (.slice ta 0 tc) [] := h.lit

def kS : ByteArray := ⟨#[107]⟩
theorem madeK : madeOf kS fr5 = (sealed kS (frameBytes fr5), 0) := by
  unfold madeOf
  rw [may5, if_neg (by simp), if_neg (by decide)]
theorem parsedNil : parsedOf ⟨#[111, 116, 104, 101, 114]⟩ [] = (zeroF, 121) := by
  unfold parsedOf
  rw [if_neg (by decide), if_pos (by decide)]

set_option maxHeartbeats 2000000 in
theorem awake_calls (w : World) (hG : GH w) : Calls Tryd.prog 9 #[] w fun e w' => e = .returned (.bool true) ∧ Kp [] w w' := by
  go_enter Tryd.func9, Tryd.ntmps9
  go_wp2_with (first
    | (go_at_call 27; (with_reducible refine (newSender_322 _).mono ?_); rintro e w1 ⟨p, mb, rfl, hs1, hp1, hm1, hk1⟩)
    | (go_at_call 19; (with_reducible refine (newReceiver_calls _).mono ?_); rintro e w2 ⟨r, rfl, hr2, hr1, hk2⟩; have hc1 := conv_lit w2 97 _ rfl; have hc2 := conv_lit (w2.alloc (.cells #[.int .u8 97] 5 (1, 2))) 98 (w2.heap.size + 1) (by simp); have hc3 := conv_lit ((w2.alloc (.cells #[.int .u8 97] 5 (1, 2))).alloc (.cells #[.int .u8 98] 5 (1, 2))) 99 (w2.heap.size + 1 + 1) (by simp); have hc4 := conv_lit (((w2.alloc (.cells #[.int .u8 97] 5 (1, 2))).alloc (.cells #[.int .u8 98] 5 (1, 2))).alloc (.cells #[.int .u8 99] 5 (1, 2))) 100 (w2.heap.size + 1 + 1 + 1) (by simp)))
  obtain ⟨cs, w3, hw3, hk3, hsz3, hsl3, hit3⟩ := four_items w2
  clear hc1 hc2 hc3 hc4
  rw [← hw3]
  clear hw3
  have hp2 : p < w2.heap.size ∧ mb < w2.heap.size := by have := hs1.lt; have := hk2.size; omega
  have hr2' : r < w2.heap.size := lt_of_heap hr2.1
  have hs3 := (hs1.kp hk2 (by simp) (by simp)).kp hk3 (by simp) (by simp)
  refine (tick_calls (w2.heap.size ≤ ·) p mb 0 3 2 2 0 (fun _ => none) _ cs its4 w3 (by omega) (by omega) hs3 (by omega) (by omega) hsl3 (fun g hg => by cases hg; dsimp only; omega) hit3 (by simp [its4]) (fun x hx => by simp [its4] at hx; rcases hx with rfl | rfl | rfl | rfl <;> simp [it5, it6, it7, it8])).mono ?_
  rintro e w4 ⟨v4, l4, n4, rfl, ho4, hl4, hn4, hs4, hk4⟩
  obtain ⟨va, vb, rfl⟩ := two_frames (hl4.trans tick1)
  obtain ⟨ob, oc, rfl, hoc, hob, hobl⟩ := own_some ho4.row (by simp)
  have hsz24 : w2.heap.size < w4.heap.size := by have := hk4.size; omega
  obtain ⟨-, -, ua, hua, hia⟩ := ho4.its (fr5, va) (by simp)
  obtain ⟨-, -, ub, hub, hib⟩ := ho4.its (fr7, vb) (by simp)
  simp only at hua hia hub hib
  obtain ⟨aa, ac, rfl⟩ := own_form hua
  obtain ⟨ba, bc, rfl⟩ := own_form hub
  have hRa := RwP.of hua hia
  have hRb := RwP.of hub hib
  have hrow4 : Own w4 w3.heap.size 25 5 (.slice (some ⟨ob, 0, none⟩) 2 oc) 2 [.int .i64 1, .int .i64 5, .int .i64 5, .slice aa 2 ac, .slice none 0 0, .int .i64 1, .int .i64 5, .int .i64 7, .slice ba 1 bc, .slice none 0 0] := ho4.row
  have hsl4 := hsl3.kp hk4 (fun g hg hm => by cases hg; simp at hm; omega)
  have hit4 := hit3.kp hk4 (fun g hg hm => by simp at hm; omega)
  have hs4' : IsS w4 p mb n4 3 2 2 1 (tick 3 2 1 2 (fun _ => none) its4).1 := hs4
  clear ho4 hua hia hub hib hs4 hl4 hsl3 hit3
  go_wp2_with fail
  refine (tick_calls (w2.heap.size ≤ ·) p mb n4 3 2 2 1 _ _ cs its4 w4 (by omega) (by omega) hs4' (by omega) (by omega) hsl4 (fun g hg => by cases hg; dsimp only; omega) hit4 (by simp [its4]) (fun x hx => by simp [its4] at hx; rcases hx with rfl | rfl | rfl | rfl <;> simp [it5, it6, it7, it8])).mono ?_
  rintro e w5 ⟨v5, l5, n5, rfl, ho5, hl5, -, -, hk5⟩
  obtain rfl : l5 = [] := by have := hl5.trans tick2; simpa using this
  obtain ⟨oa5, oc5, rfl⟩ := own_form ho5.row
  have hrow5 := own_kp hrow4 hk5 (fun g hg hm => by cases hg; simp at hm; omega)
  have hRa5 := hRa.kp hk5 (fun g hg hm => by simp at hm; omega)
  have hRb5 := hRb.kp hk5 (fun g hg hm => by simp at hm; omega)
  have hr5 := ((hr2.kp hk3 (by simp)).kp hk4 (by have := hs1.lt; simp; omega)).kp hk5 (by have := hs1.lt; simp; omega)
  obtain ⟨c0, c1, c2, c3, c4, c5, c6, c7, c8, c9⟩ := cells10 hrow5
  have hoc1 : 2 ≤ oc := hoc
  have hoc2 : (2 : Int) ≤ oc := by omega
  go_wp2_with fail
  have hnil : ∀ w' : World, Bs w' (.slice none 0 0) [] := fun w' => OB.bs (e := 5) (base := 0) (Own.nil w' 0 5 1)
  refine (got_calls r 0 fr7 _ _ _ (w3.heap.size ≤ ·) (by omega) hr5 hRb5 (hnil _) (by simp [fr7]) (by simp [fr7]) (by simp [fr7])).mono ?_
  rw [got7]
  rintro e w6 ⟨v6, cs6, rfl, ho6, hi6, hr6, hk6⟩
  obtain ⟨oa6, oc6, rfl⟩ := own_form ho6
  have hw56 : ∀ g ∈ [r], g < w3.heap.size := by simp; omega
  have hrow6 := own_kp hrow5 hk6 (fun g hg hm => by have h1 := hw56 g hm; have h2 : ob = g := (by simpa [Value.ownBlock] using hg); omega)
  have hRa6 := hRa5.kp hk6 (fun g hg hm => by have := hw56 g hm; omega)
  obtain ⟨d0, d1, d2, d3, d4, d5, d6, d7, d8, d9⟩ := cells10 hrow6
  clear c0 c1 c2 c3 c4 c5 c6 c7 c8 c9 hrow5 hRa5 hRb5 hRa hRb hrow4
  go_wp2_with fail
  refine (got_calls r 5 fr5 _ _ _ (w3.heap.size ≤ ·) (by omega) hr6 hRa6 (hnil _) (by simp [fr5]) (by simp [fr5]) (by simp [fr5])).mono ?_
  rw [got5]
  rintro e w7 ⟨v7, cs7, rfl, ho7, hi7, hr7, hk7⟩
  obtain ⟨oa7, oc7, rfl⟩ := own_form ho7
  have hrow7 := own_kp hrow6 hk7 (fun g hg hm => by have h1 := hw56 g hm; have h2 : ob = g := (by simpa [Value.ownBlock] using hg); omega)
  have hRa7 := hRa6.kp hk7 (fun g hg hm => by have := hw56 g hm; omega)
  clear d0 d1 d2 d3 d4 d5 d6 d7 d8 d9 hrow6 hRa6
  go_wp2_with fail
  refine (take_calls r 5 5 _ hr7 (by omega) (by omega)).mono ?_
  rintro e w8 ⟨rfl, hr8, hk8⟩
  have hrow8 := own_kp hrow7 hk8 (fun g hg hm => by have h1 := hw56 g hm; have h2 : ob = g := (by simpa [Value.ownBlock] using hg); omega)
  have hRa8 := hRa7.kp hk8 (fun g hg hm => by have := hw56 g hm; omega)
  rw [show takeN 5 5 = 6 from rfl] at hr8
  go_wp2_with fail
  refine (ack_calls r 6 _ hr8).mono ?_
  rw [show ackF 6 = ⟨2, 0, 5, [], []⟩ from rfl, show (!((6 : Int) == 0)) = true from rfl]
  unfold fcells
  rintro e w9 ⟨rfl, hk9⟩
  have hrow9 := own_kp hrow8 hk9 (by simp)
  have hRa9 := hRa8.kp hk9 (by simp)
  obtain ⟨d0, d1, d2, d3, d4, d5, d6, d7, d8, d9⟩ := cells10 hrow9
  have hob9 : ob < w9.heap.size := (hrow9.lt ob rfl).2
  clear hrow8 hRa8 hrow7 hRa7
  go_wp2_with fail
  have hpw := hs1.lt
  have K3 : Kp [] w w3 := (hk1.trans hk2).trans hk3
  have K4 := K3.trans' hk4 (by simp; omega)
  have K5 := K4.trans' hk5 (by simp; omega)
  have hrw : ∀ t ∈ [r], t ∈ ([] : List Nat) ∨ w.heap.size ≤ t := by simp; have := hk1.size; omega
  have K9 := (((K5.trans' hk6 hrw).trans' hk7 hrw).trans' hk8 hrw).trans hk9
  clear hs1 hk4 hk5 hk6 hk7 hk8 hk9 hsl4 hit4 hs4' ho5 hr5 hr6 hr7 hr8 ho6 hi6 ho7 hi7 hl5
  have hkA := (Kp.refl [] w9).alloc (.cells #[.int .i64 2, .int .i64 0, .int .i64 5, .slice none 0 0, .slice none 0 0] 25)
  have hhA := heap_alloc_new w9 (.cells #[.int .i64 2, .int .i64 0, .int .i64 5, .slice none 0 0, .slice none 0 0] 25)
  have hrowA := own_kp hrow9 hkA (by simp)
  have hRaA := hRa9.kp hkA (by simp)
  have KA := K9.trans hkA
  generalize w9.alloc (.cells #[.int .i64 2, .int .i64 0, .int .i64 5, .slice none 0 0, .slice none 0 0] 25) = wA at *
  generalize w9.heap.size = xb at *
  have hmk := make_all kS fr5 _ _ wA (hG.kp0 KA) hRaA.rws (hnil wA) (by simp [fr5]) (by simp [fr5]) (by simp [fr5])
  rw [madeK] at hmk
  refine hmk.mono ?_
  rintro e w10 ⟨v10, rfl, ho10, hk10⟩
  obtain ⟨sa, sc, rfl⟩ := own_form ho10
  have K10 := KA.trans hk10
  have hSl : (sealed kS (frameBytes fr5)).length ≤ 20000 := by rw [sealed_length]; have := frameBytes_le fr5 may5; omega
  have hpc := parse_calls kS _ (sealed kS (frameBytes fr5)) w10 (hG.kp0 K10) (OB.bs ho10) (by omega)
  rw [parsedOf_made madeK] at hpc
  clear hmk d0 d1 d2 d3 d4 d5 d6 d7 d8 d9
  go_wp2_with fail
  refine hpc.mono ?_
  rintro e w11 ⟨v11, rfl, hF11, hk11⟩
  obtain ⟨ga, gc, ta, tc, rfl, hgR, hgT⟩ := hF11.lit5
  have K11 := K10.trans hk11
  have hkB := (Kp.refl [] w11).alloc (.cells #[.int .i64 1, .int .i64 5, .int .i64 5, .slice ga 2 gc, .slice ta 0 tc] 25)
  have hhB := heap_alloc_new w11 (.cells #[.int .i64 1, .int .i64 5, .int .i64 5, .slice ga 2 gc, .slice ta 0 tc] 25)
  have hgRB := hgR.kp hkB (by simp)
  have hgTB := hgT.kp0 hkB
  have KB := K11.trans hkB
  have hrowB := own_kp hrowA ((hk10.trans hk11).trans hkB) (by simp)
  have hRaB := hRaA.kp ((hk10.trans hk11).trans hkB) (by simp)
  have hhAB := ((hk10.trans hk11).trans hkB).heap hhA (by simp)
  clear hpc hrowA hRaA hgR hgT
  have hpn := parse_calls ⟨#[111, 116, 104, 101, 114]⟩ (.slice none 0 0) [] (w11.alloc (.cells #[.int .i64 1, .int .i64 5, .int .i64 5, .slice ga 2 gc, .slice ta 0 tc] 25)) (hG.kp0 KB) (hnil _) (by simp)
  rw [parsedNil] at hpn
  go_wp2_with fail
  refine hpn.mono ?_
  rintro e w12 ⟨v12, rfl, hF12, hk12⟩
  obtain ⟨za, zc, zta, ztc, rfl, -, -⟩ := hF12.lit0
  clear hpn hF12 hF11
  have hkC := hk12.alloc (.cells #[.int .i64 0, .int .i64 0, .int .i64 0, .slice za 0 zc, .slice zta 0 ztc] 25)
  have KC := KB.trans hkC
  have hrowC := own_kp hrowB hkC (by simp)
  have hRaC := hRaB.kp hkC (by simp)
  have hgRC := hgRB.kp hkC (by simp)
  have hgTC := hgTB.kp0 hkC
  have hhAC := hkC.heap hhAB (by simp)
  have hhBC := hkC.heap hhB (by simp)
  clear hrowB hRaB hgRB hgTB hhAB hhB
  go_wp2_with fail
  generalize w12.alloc (.cells #[.int .i64 0, .int .i64 0, .int .i64 0, .slice za 0 zc, .slice zta 0 ztc] 25) = wC at *
  generalize w11.heap.size = yb at *
  obtain ⟨d0, d1, d2, d3, d4, -⟩ := cells10 hrowC
  obtain ⟨x0, x1, x2, x3, x4⟩ := cells5 hhAC
  obtain ⟨y0, y1, y2, y3, y4⟩ := cells5 hhBC
  have hobC := (hrowC.lt ob rfl).2
  have hxbC := lt_of_heap hhAC
  have hybC := lt_of_heap hhBC
  have hS : Gr wC [xb, yb, ob] wC.drew := Gr.of (fun _ _ => rfl)
  have hsame := fsame_calls fr5 fr5 (.slice ga 2 gc) (.slice ta 0 tc) (.slice aa 2 ac) (.slice none 0 0) wC.drew (hgRC.rws.kp0 ((Kp.refl [] wC).drew)) (hgTC.kp0 ((Kp.refl [] wC).drew)) (hRaC.rws.kp0 ((Kp.refl [] wC).drew)) (hnil _) (by simp [fr5]) (by simp [fr5])
  rw [sameF_self] at hsame
  have HSAME := Lib.hid hsame
  clear hsame
  refine wp_plan (.H 0 (.H 1 (.H 2 (.H 3 (.H 4 (.H 5 (.H 6 (.H 7 (.H 8 (.H 9 (.H 10 (.H 11 (.H 12 (.H 13 (.H 14 (.H 15 (.H 16 (.H 17 (.H 18 (.H 19 (.H 20 (.H 21 (.H 22 (.H 23 (.H 24 (.H 25 (.H 26 (.H 27 (.H 28 (.E 29 false (.E 30 false (.E 31 false (.E 32 false (.E 33 false (.E 34 false (.E 35 false .Z)))))))))))))))))))))))))))))))))))) (Gr wC [xb, yb, ob]) (by as_aux_lemma => kernel_rfl) (by as_aux_lemma => kernel_rfl) ?_
  iterate 29 (refine plan_H rfl hS (fun K hK => ?_); go_simp; refine hK _ ?_; clear hK K)
  refine plan_E rfl (fun K hK => ?_)
  go_simp
  refine HSAME.out.mono ?_
  rintro e w13 ⟨rfl, hk13⟩
  refine hK _ _ nofun ?_
  clear hK K
  iterate 6 (refine plan_E rfl (fun K hK => ?_); go_simp; refine hK _ _ nofun ?_; clear hK K)
  refine plan_Z ?_
  go_wp2_with fail
  go_ret
  exact ⟨rfl, (KC.drew).trans hk13⟩
end Go.Proofs.YtddpefbpiehgeaaDoor

/- What comes in: bytes, rows of bytes, frames. -/
namespace Go.Proofs.YtddpefbpiehgeaaDoor
open Go Go.RowKit Go.ChangeShapes Go.WideShapes
set_option maxRecDepth 100000
set_option linter.unusedVariables false
set_option linter.unusedSectionVars false
set_option linter.unusedSimpArgs false

section
variable {H : Type} {enc : TypeId × Value → H} {w : World} {base : Nat} {held : Bool} {fuel : Nat} {cs : List Value} {x : DataW H × List MemPlace}

theorem addr_none {w : World} {a : Addr} {v : Value} (h : w.cell? (a.add 0) = some v) : a = ⟨a.block, a.off, none⟩ := by
  have h' : w.cell? a = some v := by simpa [Addr.add] using h
  have := World.cell?_spot h'
  cases a
  simp only at this
  rw [this]
theorem addr_lt {w : World} {b o : Nat} {v : Value} (h : w.cell? ⟨b, o, none⟩ = some v) : b < w.heap.size := by
  unfold World.cell? at h
  rcases Nat.lt_or_ge b w.heap.size with h1 | h1
  · exact h1
  · rw [Array.getElem?_eq_none h1] at h; cases h

/-- The list of all values of a function up to n. -/
def upto {α : Type} (n : Nat) (f : Nat → α) : List α := (List.range n).map f
theorem upto_length {α : Type} (n : Nat) (f : Nat → α) : (upto n f).length = n := by simp [upto]
theorem upto_get {α : Type} (n : Nat) (f : Nat → α) (i : Nat) (h : i < n) : (upto n f)[i]? = some (f i) := by simp [upto, h]

/-- A slice of cells, out of what is read: each element's cell with its reading. -/
theorem sl_of_trodE {t e : TypeId} {sz : Nat} (ht : Tryd.prog.underlying t = some (.slice e)) (hc : Tryd.prog.cellsOf e = sz) (hsz : 0 < sz) (h : DataW.trod enc Tryd.prog w base (fun _ => true) held fuel t cs = some x) :
    ∃ v n cells ds, cs = [v] ∧ Sl w sz v n cells ∧ n ≤ maxLen ∧ ds.length = n ∧ (∃ m, ∀ i, i < n → ∃ y, DataW.trod enc Tryd.prog w base (fun _ => true) held m e ((cells.drop (i * sz)).take sz) = some y ∧ ds[i]? = some y.1) ∧
      ((x.1 = .nil ∧ n = 0) ∨ ∃ rest, x.1 = .slice ds rest) := by
  rcases DataW.trod_slice ht h with ⟨rfl, rfl⟩ | ⟨a, len, cap, elems, rest, m, _, rfl, rfl, hb, hl, hm, hlen, hel, hsp, _⟩
  · exact ⟨_, 0, [], [], rfl, ⟨by simp, .inl ⟨rfl, rfl⟩⟩, by omega, rfl, ⟨0, fun i hi => by omega⟩, .inl ⟨rfl, rfl⟩⟩
  · rw [hc] at hel hsp
    obtain ⟨hrl, hsp⟩ := hsp rfl
    have hall : ∀ i, i < cap → ∃ c y, w.cells? base (a.add (i * sz)) sz = some c ∧ DataW.trod enc Tryd.prog w base (fun _ => true) held m e c = some y ∧ (i < len → (elems.map (·.1))[i]? = some y.1) := fun i hi => by
      by_cases hlt : i < len
      · have h1 := hel i hlt
        rw [List.getElem?_eq_getElem (by omega)] at h1
        rw [Option.bind_eq_some_iff] at h1
        obtain ⟨c, h2, h3⟩ := h1
        exact ⟨c, _, h2, h3, fun _ => by simp [List.getElem?_map, List.getElem?_eq_getElem (show i < elems.length by omega)]⟩
      · have h1 := hsp (i - len) (by omega)
        rw [List.getElem?_eq_getElem (by omega), show len + (i - len) = i by omega] at h1
        rw [Option.bind_eq_some_iff] at h1
        obtain ⟨c, h2, h3⟩ := h1
        exact ⟨c, _, h2, h3, fun h => absurd h hlt⟩
    have hmax : len ≤ maxLen := Nat.le_trans hl hm
    have hx : ((DataW.slice (elems.map (·.1)) (rest.map (·.1)) : DataW H) = .nil ∧ len = 0) ∨ ∃ rest', (DataW.slice (elems.map (·.1)) (rest.map (·.1)) : DataW H) = .slice (elems.map (·.1)) rest' := .inr ⟨_, rfl⟩
    have hdl : (elems.map (·.1)).length = len := by simpa using hlen
    by_cases h0 : cap = 0
    · obtain rfl : len = 0 := by omega
      subst h0
      exact ⟨_, 0, [], _, rfl, ⟨by simp, .inr (.inl ⟨a, rfl, rfl⟩)⟩, by omega, hdl, ⟨0, fun i hi => by omega⟩, hx⟩
    · obtain ⟨c0, _, hc0, _, _⟩ := hall 0 (by omega)
      obtain ⟨_, hcl, hcc⟩ := World.cells?_some hc0
      have hv0 := hcc 0 hsz
      rw [Nat.zero_mul, List.getElem?_eq_getElem (by omega)] at hv0
      have e0 : a.add 0 = a := by simp [Addr.add]
      rw [e0] at hv0
      have ha := addr_none hv0
      have hlt : a.block < w.heap.size := by
        rw [e0] at hv0
        rw [ha] at hv0
        exact addr_lt hv0
      have hcell : ∀ i j, i < cap → j < sz → ∃ v, w.cell? ⟨a.block, a.off + (i * sz + j), none⟩ = some v := fun i j hi hj => by
        obtain ⟨c, _, h2, _, _⟩ := hall i hi
        obtain ⟨_, h3, h4⟩ := World.cells?_some h2
        have h5 := h4 j hj
        rw [List.getElem?_eq_getElem (by omega), ha, Addr.add_lit, Addr.add_lit, Nat.add_assoc] at h5
        exact ⟨_, h5⟩
      let g : Nat → Value := fun k => (w.cell? ⟨a.block, a.off + k, none⟩).getD undef
      have hg : ∀ i j, i < cap → j < sz → w.cell? ⟨a.block, a.off + (i * sz + j), none⟩ = some (g (i * sz + j)) := fun i j hi hj => by
        obtain ⟨v, hv⟩ := hcell i j hi hj
        simp only [g, hv, Option.getD_some]
      refine ⟨_, len, upto (len * sz) g, _, rfl, ⟨by rw [upto_length], .inr (.inr ⟨a.block, a.off, cap, by rw [← ha], hl, hlt, fun k u hu => ?_⟩)⟩, hmax, hdl, ⟨m, fun i hi => ?_⟩, hx⟩
      · have hk : k < len * sz := by have := (List.getElem?_eq_some_iff.1 hu).1; rwa [upto_length] at this
        rw [upto_get _ _ _ hk] at hu
        cases hu
        have h1 : k / sz < len := Nat.div_lt_of_lt_mul (by rwa [Nat.mul_comm] at hk)
        have h2 := hg (k / sz) (k % sz) (by omega) (Nat.mod_lt _ hsz)
        rwa [Nat.mul_comm, Nat.div_add_mod] at h2
      · obtain ⟨c, y, h2, h3, h7⟩ := hall i (by omega)
        obtain ⟨_, h4, h5⟩ := World.cells?_some h2
        have hle : i * sz + sz ≤ len * sz := by
          have := Nat.mul_le_mul_right sz (show i + 1 ≤ len by omega)
          rwa [Nat.add_mul, Nat.one_mul] at this
        have e : ((upto (len * sz) g).drop (i * sz)).take sz = c := by
          apply List.ext_getElem?
          intro j
          by_cases hj : j < sz
          · rw [List.getElem?_take, if_pos hj, List.getElem?_drop, upto_get _ _ _ (by omega)]
            have h6 := h5 j hj
            rw [ha, Addr.add_lit, Addr.add_lit, Nat.add_assoc, hg i j (by omega) hj] at h6
            exact h6
          · rw [List.getElem?_eq_none (by simp; omega), List.getElem?_eq_none (by omega)]
        rw [e]
        exact ⟨y, h3, h7 hi⟩

/-- A slice of cells, out of what is read: each element's cell with its reading. -/
theorem sl_of_trod {t e : TypeId} {sz : Nat} (ht : Tryd.prog.underlying t = some (.slice e)) (hc : Tryd.prog.cellsOf e = sz) (hsz : 0 < sz) (h : DataW.trod enc Tryd.prog w base (fun _ => true) held fuel t cs = some x) :
    ∃ v n cells, cs = [v] ∧ Sl w sz v n cells ∧ n ≤ maxLen ∧ (∃ m, ∀ i, i < n → ∃ y, DataW.trod enc Tryd.prog w base (fun _ => true) held m e ((cells.drop (i * sz)).take sz) = some y) ∧
      ((x.1 = .nil ∧ n = 0) ∨ ∃ ds rest, x.1 = .slice ds rest ∧ ds.length = n) := by
  obtain ⟨v, n, cells, ds, h1, h2, h3, h4, ⟨m, h5⟩, h6⟩ := sl_of_trodE ht hc hsz h
  refine ⟨v, n, cells, h1, h2, h3, ⟨m, fun i hi => ?_⟩, ?_⟩
  · obtain ⟨y, h7, _⟩ := h5 i hi
    exact ⟨y, h7⟩
  · rcases h6 with h6 | ⟨rest, h6⟩
    · exact .inl h6
    · exact .inr ⟨ds, rest, h6, h4⟩

/-- Bytes. -/
theorem bs_of_trod (h : DataW.trod enc Tryd.prog w base (fun _ => true) held fuel 23 cs = some x) : ∃ v l, cs = [v] ∧ Bs w v l ∧ l.length ≤ maxLen ∧ ((x.1 = .nil ∧ l.length = 0) ∨ ∃ ds rest, x.1 = .slice ds rest ∧ ds.length = l.length) := by
  obtain ⟨v, n, cells, rfl, hs, hn, ⟨m, hm⟩, hx⟩ := sl_of_trod (sz := 1) Tryd.underlying23 (by kernel_rfl) (by omega) h
  have hb : ∀ i, i < n → ∃ b : UInt8, cells[i]? = some (.int .u8 (b.toNat : Int)) := fun i hi => by
    obtain ⟨y, hy⟩ := hm i hi
    obtain ⟨k, hk, _, hw⟩ := DataW.trod_int Tryd.underlying5 hy
    have hw' : 0 ≤ k ∧ k ≤ 255 := by
      simp [Lit.wf, IntKind.min, IntKind.max, IntKind.signed, IntKind.bits] at hw
      exact ⟨by omega, by omega⟩
    refine ⟨UInt8.ofNat k.toNat, ?_⟩
    have h2 : ((UInt8.ofNat k.toNat).toNat : Int) = k := by
      rw [UInt8.toNat_ofNat']
      omega
    rw [h2]
    have := congrArg (·[0]?) hk
    simp only [List.getElem?_take, List.getElem?_drop] at this
    simpa using this
  let f : Nat → UInt8 := fun i => if h : i < n then Classical.choose (hb i h) else 0
  have hf : ∀ i, i < n → cells[i]? = some (.int .u8 ((f i).toNat : Int)) := fun i hi => by
    simp only [f, dif_pos hi]
    exact Classical.choose_spec (hb i hi)
  have e : cells = bcells (upto n f) := by
    apply List.ext_getElem?
    intro i
    by_cases hi : i < n
    · rw [hf i hi, bcells_get _ _ (by rw [upto_length]; exact hi)]
      simp [upto]
    · rw [List.getElem?_eq_none (by have := hs.1; omega), List.getElem?_eq_none (by rw [bcells_length, upto_length]; omega)]
  refine ⟨v, upto n f, rfl, ?_, by rw [upto_length]; exact hn, by rw [upto_length]; exact hx⟩
  unfold Bs
  rw [upto_length, ← e]
  exact hs

/-- Rows of bytes. -/
theorem rws_of_trod (h : DataW.trod enc Tryd.prog w base (fun _ => true) held fuel 22 cs = some x) : ∃ v its, cs = [v] ∧ Rws w v its ∧ its.length ≤ maxLen ∧ (∀ l ∈ its, l.length ≤ maxLen) ∧ ((x.1 = .nil ∧ its.length = 0) ∨ ∃ ds rest, x.1 = .slice ds rest ∧ ds.length = its.length ∧ ∀ l ∈ its, ∃ d ∈ ds, (d = .nil ∧ l.length = 0) ∨ ∃ ds2 rest2, d = .slice ds2 rest2 ∧ ds2.length = l.length) := by
  obtain ⟨v, n, cells, ds, rfl, hs, hn, hdn, ⟨m, hm⟩, hx⟩ := sl_of_trodE (sz := 1) Tryd.underlying22 (by kernel_rfl) (by omega) h
  have hb : ∀ i, i < n → ∃ l : List UInt8, (l.length ≤ maxLen ∧ ∃ d ∈ ds, (d = .nil ∧ l.length = 0) ∨ ∃ ds2 rest2, d = .slice ds2 rest2 ∧ ds2.length = l.length) ∧ ∃ u, cells[i]? = some u ∧ Bs w u l := fun i hi => by
    obtain ⟨y, hy, hyd⟩ := hm i hi
    obtain ⟨u, l, hk, hb, hl, hz⟩ := bs_of_trod hy
    have := congrArg (·[0]?) hk
    simp only [List.getElem?_take, List.getElem?_drop] at this
    exact ⟨l, ⟨hl, y.1, List.mem_of_getElem? hyd, hz⟩, u, by simpa using this, hb⟩
  let f : Nat → List UInt8 := fun i => if h : i < n then Classical.choose (hb i h) else []
  have hf : ∀ i, i < n → ((f i).length ≤ maxLen ∧ ∃ d ∈ ds, (d = .nil ∧ (f i).length = 0) ∨ ∃ ds2 rest2, d = .slice ds2 rest2 ∧ ds2.length = (f i).length) ∧ ∃ u, cells[i]? = some u ∧ Bs w u (f i) := fun i hi => by
    simp only [f, dif_pos hi]
    exact Classical.choose_spec (hb i hi)
  refine ⟨v, upto n f, rfl, ⟨cells, by rw [upto_length]; exact hs, by rw [upto_length]; have := hs.1; omega, fun i hi => ?_⟩, by rw [upto_length]; exact hn, fun l hl => ?_, ?_⟩
  · rw [upto_length] at hi
    obtain ⟨_, u, h1, h2⟩ := hf i hi
    exact ⟨u, h1, by simpa [upto] using h2⟩
  · simp only [upto, List.mem_map, List.mem_range] at hl
    obtain ⟨i, hi, rfl⟩ := hl
    exact (hf i hi).1.1
  · rcases hx with hx | ⟨rest, hx⟩
    · exact .inl (by rw [upto_length]; exact hx)
    · refine .inr ⟨ds, rest, hx, by rw [upto_length]; exact hdn, fun l hl => ?_⟩
      simp only [upto, List.mem_map, List.mem_range] at hl
      obtain ⟨i, hi, rfl⟩ := hl
      exact (hf i hi).1.2

/-- How much a reading takes at most. -/
def Light (t : TypeId) (d : DataW H) : Prop := ∀ n ∈ d.weights Tryd.prog t, n ≤ reachBytes
theorem Light.slice {t e : TypeId} {d : DataW H} (h : Light t d) (ht : Tryd.prog.underlying t = some (.slice e)) {n : Nat} (hd : (d = .nil ∧ n = 0) ∨ ∃ ds rest, d = .slice ds rest ∧ ds.length = n) : n * Tryd.prog.bytesOf e ≤ reachBytes := by
  rcases hd with ⟨rfl, rfl⟩ | ⟨ds, rest, rfl, rfl⟩
  · rw [Nat.zero_mul]; exact Nat.zero_le _
  · have := h ((ds.length + rest.length) * Tryd.prog.bytesOf e) (by simp [DataW.weights, ht])
    exact Nat.le_trans (Nat.mul_le_mul_right _ (by omega)) this

theorem weightsAll_mem {e : TypeId} {d : DataW H} : ∀ {ds : List (DataW H)}, d ∈ ds → ∀ n ∈ d.weights Tryd.prog e, n ∈ DataW.weightsAll Tryd.prog e ds
  | d0 :: ds, hd, n, hn => by
    simp only [DataW.weightsAll, List.mem_append]
    rcases List.mem_cons.1 hd with rfl | hd
    · exact .inl hn
    · exact .inr (weightsAll_mem hd n hn)
theorem Light.elem {t e : TypeId} {ds rest : List (DataW H)} {d : DataW H} (h : Light t (.slice ds rest)) (ht : Tryd.prog.underlying t = some (.slice e)) (hd : d ∈ ds) : Light e d := fun n hn => h n (by
  simp only [DataW.weights, ht, List.mem_cons, List.mem_append]
  exact .inr (.inl (weightsAll_mem hd n hn)))

/-- A frame. -/
theorem fr_of_trod (h : DataW.trod enc Tryd.prog w base (fun _ => true) held fuel 25 cs = some x) (hw : Light 25 x.1) :
    ∃ f iv tv, cs = (fcells f iv tv).toList ∧ Rws w iv f.its ∧ Bs w tv f.t ∧ f.its.length ≤ 5864062014805 ∧ f.t.length ≤ 140737488351232 ∧ (∀ l ∈ f.its, l.length ≤ 140737488351232) ∧ isInt f.k ∧ isInt f.a ∧ isInt f.b := by
  obtain ⟨xs, m, rfl, hx, hl, hxl, hf⟩ := DataW.trod_struct Tryd.underlying25 h
  have hl5 : cs.length = 5 := hl.trans (by kernel_rfl)
  obtain ⟨c0, c1, c2, c3, c4, rfl⟩ : ∃ c0 c1 c2 c3 c4, cs = [c0, c1, c2, c3, c4] := by
    match cs, hl5 with
    | [c0, c1, c2, c3, c4], _ => exact ⟨c0, c1, c2, c3, c4, rfl⟩
  have hxl5 : xs.length = 5 := hxl
  obtain ⟨x0, x1, x2, x3, x4, rfl⟩ : ∃ c0 c1 c2 c3 c4, xs = [c0, c1, c2, c3, c4] := by
    match xs, hxl5 with
    | [c0, c1, c2, c3, c4], _ => exact ⟨c0, c1, c2, c3, c4, rfl⟩
  have k3 : Tryd.prog.cellsOf 3 = 1 := by kernel_rfl
  have k22 : Tryd.prog.cellsOf 22 = 1 := by kernel_rfl
  have k23 : Tryd.prog.cellsOf 23 = 1 := by kernel_rfl
  have h0 := hf 0 _ rfl
  have h1 := hf 1 _ rfl
  have h2 := hf 2 _ rfl
  have h3 := hf 3 _ rfl
  have h4 := hf 4 _ rfl
  simp only [k3, k22, k23, List.drop_zero, List.drop_succ_cons, List.take_succ_cons, List.take_zero, List.getElem?_cons_zero, List.getElem?_cons_succ] at h0 h1 h2 h3 h4
  obtain ⟨a0, e0, _, w0⟩ := DataW.trod_int Tryd.underlying3 h0
  obtain ⟨a1, e1, _, w1⟩ := DataW.trod_int Tryd.underlying3 h1
  obtain ⟨a2, e2, _, w2⟩ := DataW.trod_int Tryd.underlying3 h2
  obtain ⟨iv, its, e3, hI, _, hIl, hIx⟩ := rws_of_trod h3
  obtain ⟨tv, l, e4, hB, _, hBx⟩ := bs_of_trod h4
  cases e0; cases e1; cases e2; cases e3; cases e4
  subst hx
  have hwI : Light 22 x3.1 := fun n hn => hw n (by
    unfold DataW.weights
    rw [Tryd.underlying25]
    exact DataW.weights_mem_each (ts := [3, 3, 3, 22, 23]) (j := 3) rfl rfl n hn)
  have hwB : Light 23 x4.1 := fun n hn => hw n (by
    unfold DataW.weights
    rw [Tryd.underlying25]
    exact DataW.weights_mem_each (ts := [3, 3, 3, 22, 23]) (j := 4) rfl rfl n hn)
  have hbI : Tryd.prog.bytesOf 23 = 24 := by kernel_rfl
  have hbB : Tryd.prog.bytesOf 5 = 1 := by kernel_rfl
  have hIx2 : (x3.1 = .nil ∧ its.length = 0) ∨ ∃ ds rest, x3.1 = .slice ds rest ∧ ds.length = its.length := by
    rcases hIx with h | ⟨ds, rest, h, hl, _⟩
    · exact .inl h
    · exact .inr ⟨ds, rest, h, hl⟩
  have hIl2 : ∀ l ∈ its, l.length ≤ 140737488351232 := fun l hl => by
    rcases hIx with ⟨_, h⟩ | ⟨ds, rest, h, hdl, hall⟩
    · rw [List.eq_nil_of_length_eq_zero h] at hl; cases hl
    · obtain ⟨d, hd, hz⟩ := hall l hl
      rw [h] at hwI
      have hld : Light 23 d := hwI.elem Tryd.underlying22 hd
      have := hld.slice Tryd.underlying23 hz
      rw [hbB] at this
      unfold reachBytes at this
      omega
  refine ⟨⟨a0, a1, a2, its, l⟩, _, _, rfl, hI, hB, ?_, ?_, hIl2, isInt.of w0, isInt.of w1, isInt.of w2⟩
  · have := hwI.slice Tryd.underlying22 hIx2
    rw [hbI] at this
    unfold reachBytes at this
    simp only; omega
  · have := hwB.slice Tryd.underlying23 hBx
    rw [hbB] at this
    unfold reachBytes at this
    simp only; omega
end
end Go.Proofs.YtddpefbpiehgeaaDoor

