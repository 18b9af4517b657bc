/- The seal: Same, Open, Key. -/
import Derived.Test.YtddpefbpiehgeaaDoorSealC
namespace Go.Proofs.YtddpefbpiehgeaaDoor
open Go Go.RowKit
set_option maxRecDepth 100000
set_option linter.unusedVariables false
set_option linter.unusedSectionVars false
set_option linter.unusedSimpArgs false

theorem u8_or_v (x y : UInt8) : bits .or .u8 (x.toNat : Int) (y.toNat : Int) = ((x ||| y).toNat : Int) := by
  rw [u8_or_nat _ _ x.toNat_lt y.toNat_lt, UInt8.toNat_or]
theorem u8_acc (x a b : UInt8) : x ||| (a ^^^ b) = 0 ↔ x = 0 ∧ a = b := by
  rw [UInt8.or_eq_zero_iff, UInt8.xor_eq_zero_iff]

theorem take_step (l m : List UInt8) (n : Nat) (h1 : n < l.length) (h2 : n < m.length) : l.take (n + 1) = m.take (n + 1) ↔ l.take n = m.take n ∧ l[n] = m[n] := by
  rw [List.take_succ_eq_append_getElem h1, List.take_succ_eq_append_getElem h2]
  constructor
  · intro h
    have := List.append_inj h (by simp; omega)
    exact ⟨this.1, by simpa using this.2⟩
  · rintro ⟨h, h3⟩; rw [h, h3]

theorem same_len (v u : Value) (l m : List UInt8) (w : World) (hv : Bs w v l) (hu : Bs w u m) (hl : l.length ≠ m.length) (hl1 : l.length ≤ 140737488352000) (hl2 : m.length ≤ 140737488352000) :
    Calls Tryd.prog 64 #[v, u] w fun e w' => e = .returned (.bool false) ∧ w = w' := by
  obtain ⟨va, vc, rfl, -⟩ := Sl.form hv
  obtain ⟨ua, uc, rfl, -⟩ := Sl.form hu
  have hd : (((l.length : Int)) != (m.length : Int)) = true := by simp; omega
  go_enter Tryd.func64, Tryd.ntmps64
  go_wp2
  go_ret
  exact ⟨rfl, rfl⟩

set_option maxHeartbeats 1000000 in
theorem same_calls (v u : Value) (l m : List UInt8) (w : World) (hv : Bs w v l) (hu : Bs w u m) (hl : l.length = m.length) (hl1 : l.length ≤ 140737488352000) :
    Calls Tryd.prog 64 #[v, u] w fun e w' => e = .returned (.bool (decide (l = m))) ∧ Kp [] w w' := by
  obtain ⟨va, vc, rfl, -⟩ := Sl.form hv
  obtain ⟨ua, uc, rfl, -⟩ := Sl.form hu
  have hu0 := hu
  rw [← hl] at hu0
  have HL := Lib.hid hl
  have hneq : (((l.length : Int)) != (m.length : Int)) = false := by simp; omega
  clear hl
  go_enter Tryd.func64, Tryd.ntmps64
  go_wp2
  go_loopw [5, 14] (fun v5 v14 wr => ∃ (n : Nat) (x : UInt8), n ≤ l.length ∧ v14 = .int .i64 n ∧ v5 = .int .u8 (x.toNat : Int) ∧ (x = 0 ↔ l.take n = m.take n) ∧ Kp [] w wr) (fun _ v14 _ => l.length - (intOf v14).toNat)
  case atStart => exact ⟨0, 0, by omega, rfl, rfl, by simp, Kp.refl _ _⟩
  case round =>
    obtain ⟨n, x, hn, rfl, rfl, hx, hk⟩ := hrel
    by_cases hlt : n < l.length
    · have hlm : n < m.length := by have := HL.out; omega
      obtain ⟨va', vc', he, hvc, _, h6, h7⟩ := Sl.form (hv.kp0 hk)
      cases he
      obtain ⟨vb, vo, rfl, hvb⟩ := h6 (by omega)
      have hcv := (h7 vb vo rfl).2 n _ (bcells_get l n hlt)
      clear h6 h7
      obtain ⟨va', vc', he, huc, _, h6, h7⟩ := Sl.form (hu.kp0 hk)
      cases he
      obtain ⟨ub, uo, rfl, hub⟩ := h6 (by omega)
      have hcu := (h7 ub uo rfl).2 n _ (bcells_get m n hlm)
      have hst := take_step l m n hlt hlm
      rw [← hx] at hst
      generalize l[n] = a at *
      generalize m[n] = b at *
      have HST := Lib.hid hst
      have i0 : (0 : Int) ≤ n ∧ (n : Int) < l.length ∧ (n : Int) < m.length := by omega
      clear hst hx h6 h7
      go_wp2
      have hS : Gr wr [vb, ub] wr.drew := Gr.of (fun _ _ => rfl)
      refine wp_plan (.H 0 (.H 1 (.H 2 (.H 3 (.H 4 (.H 5 (.H 6 (.H 7 (.H 8 (.E 9 true (.E 10 false (.E 11 false .Z)))))))))))) (Gr wr [vb, ub]) (by as_aux_lemma => kernel_rfl) (by as_aux_lemma => kernel_rfl) ?_
      repeat (first | (refine plan_H rfl hS (fun K hK => ?_); go_simp; refine hK _ ?_; clear hK K) | (refine plan_E rfl (fun K hK => ?_); go_simp; (first | refine hK _ _ (fun _ => hS) ?_ | refine hK _ _ nofun ?_); clear hK K))
      refine plan_Z ?_
      rw [u8_xor_v, u8_or_v]
      go_wp2
      go_roundw
      case measure => simp [intOf]; omega
      case rel => exact ⟨n + 1, x ||| (a ^^^ b), by omega, by go_num, rfl, (u8_acc x a b).trans HST.out.symm, hk.drew⟩
    · have hnl : n = l.length := by omega
      have hxx : (((x.toNat : Int)) == 0) = decide (l = m) := by
        have h2 : l.take n = l := by rw [hnl, List.take_length]
        have h3 : m.take n = m := by rw [hnl, HL.out, List.take_length]
        rw [h2, h3] at hx
        rw [Bool.eq_iff_iff, decide_eq_true_eq, ← hx, beq_iff_eq]
        constructor
        · intro h; exact UInt8.toNat_inj.1 (by simpa using h)
        · rintro rfl; rfl
      have HXX := Lib.hid hxx
      clear hxx hx hnl
      go_wp2
      go_ret
      exact ⟨by rw [HXX.out]; rfl, hk⟩

theorem open_long (s : ByteArray) (v : Value) (w : World) (hs : 200 < s.size) :
    Calls Tryd.prog 37 #[.string s, v] w fun e w' => e = .returned (.tuple #[.slice none 0 0, .int .i64 2]) ∧ w = w' := by
  have hd : decide (s.size ≤ 200) = false := by rw [decide_eq_false_iff_not]; omega
  go_enter Tryd.func37, Tryd.ntmps37
  go_wp2_with (first
    | (go_at_call 53; refine (smay_calls s _).mono ?_; rintro e w1 ⟨rfl, rfl⟩; rw [hd]))
  go_ret2
  exact ⟨rfl, rfl⟩

theorem open_short (s : ByteArray) (v : Value) (l : List UInt8) (w : World) (hs : s.size ≤ 200) (hv : Bs w v l) (hl : l.length < 16) :
    Calls Tryd.prog 37 #[.string s, v] w fun e w' => e = .returned (.tuple #[.slice none 0 0, .int .i64 40]) ∧ w = w' := by
  have hd : decide (s.size ≤ 200) = true := by rw [decide_eq_true_eq]; omega
  obtain ⟨va, vc, rfl, -⟩ := Sl.form hv
  have hd2 : decide ((l.length : Int) < 16) = true := by rw [decide_eq_true_eq]; omega
  go_enter Tryd.func37, Tryd.ntmps37
  go_wp2_with (first
    | (go_at_call 53; refine (smay_calls s _).mono ?_; rintro e w1 ⟨rfl, rfl⟩; rw [hd]))
  go_ret2
  exact ⟨rfl, rfl⟩

/-- What is open: the bytes ahead of the code, or none. -/
def opened (s : ByteArray) (l : List UInt8) : Option (List UInt8) :=
  if (hmac s (l.take (l.length - 16))).take 16 = l.drop (l.length - 16) then some (l.take (l.length - 16)) else none

def RetO (s : ByteArray) (l : List UInt8) (w : World) (e : Ending) (w' : World) : Prop :=
  match opened s l with
  | some b => RetB w.heap.size b 0 w e w'
  | none => e = .returned (.tuple #[.slice none 0 0, .int .i64 41]) ∧ Kp [] w w'

set_option maxHeartbeats 1000000 in
theorem open_calls (s : ByteArray) (v : Value) (l : List UInt8) (w : World) (hG : GH w) (hs : s.size ≤ 200) (hv : Bs w v l) (hl : 16 ≤ l.length) (hl1 : l.length ≤ 140737488352000) :
    Calls Tryd.prog 37 #[.string s, v] w (RetO s l w) := by
  obtain ⟨i0, hi, hz0, hz1, hz2⟩ := info_parts u8info
  have hd : decide (s.size ≤ 200) = true := by rw [decide_eq_true_eq]; omega
  obtain ⟨va, vc, rfl, hvc, -, h6, -⟩ := Sl.form hv
  obtain ⟨vb, vo, rfl, hvb⟩ := h6 (by omega)
  clear h6
  have hd2 : decide ((l.length : Int) < 16) = false := by rw [decide_eq_false_iff_not]; omega
  have h16 : (16 : Int) ≤ (l.length : Int) ∧ ((l.length : Int) - 16).toNat = l.length - 16 ∧ ((l.length : Int) - 16) ≤ (vc : Int) ∧ ((l.length - 16 : Nat) : Int) = (l.length : Int) - 16 ∧ (l.length : Int) ≤ (vc : Int) := by omega
  obtain ⟨h16a, h16b, h16c, h16d, h16e⟩ := h16
  have hvc0 : vc ≠ 0 := by omega
  have hml := hmac_length s (l.take (l.length - 16))
  have hbody : Sl w 1 (.slice (some ⟨vb, vo, none⟩) (l.length - 16) vc) (l.length - 16) (bcells (l.take (l.length - 16))) := by
    have h := Sl.part hv 0 (l.length - 16) (by omega)
    simpa [bcells, List.map_take, hvc0, Addr.add] using h
  have hbl : (bcells (l.take (l.length - 16))).length = l.length - 16 := by simp
  go_enter Tryd.func37, Tryd.ntmps37
  go_wp2_with (first
    | (go_at_call 53; refine (smay_calls s _).mono ?_; rintro e w1 ⟨rfl, rfl⟩; rw [hd])
    | (with_reducible refine stop_app ?_))
  unfold Stop
  refine wpList_app _ rfl _ _ 23 23 rfl w.heap.size 5 i0 _ 1 1 Tryd.underlying23 hi hz0 hz1 hz2 rfl (by omega) (.slice none 0 0) 0 [] rfl (Own.nil _ _ _ _) (.slice (some ⟨vb, vo, none⟩) (l.length - 16) vc) (l.length - 16) _ rfl (Src.of_sl Tryd.underlying23 hbody bcells_one) (by omega) (by omega) (Nat.le_refl _) ?_
  intro v1 w1 ho1 hg1 hx1
  rw [Nat.zero_add, List.nil_append] at ho1
  have hk1 := (Kp.refl [] w).grown hg1 nofun
  have ho1' : OB w1 5 w.heap.size v1 (l.take (l.length - 16)) := by unfold OB; rw [show (l.take (l.length - 16)).length = l.length - 16 by simp]; exact ho1
  have hop : opened s l = if (hmac s (l.take (l.length - 16))).take 16 = l.drop (l.length - 16) then some (l.take (l.length - 16)) else none := rfl
  have hne1 : vc ≠ l.length - 16 := by omega
  have hne2 : l.length - 16 ≠ vc := by omega
  have hne3 : ((l.length : Int) - 16 = (vc : Int)) = False := by simp; omega
  have hne5 : (l.length : Int) - 16 ≤ (l.length : Int) := by omega
  have hne4 : l.length - (l.length - 16) = 16 := by omega
  have hvl : Sl w 1 (.slice (some ⟨vb, vo + (l.length - 16), none⟩) 16 (vc - (l.length - 16))) 16 (bcells (l.drop (l.length - 16))) := by
    have h := Sl.part hv (l.length - 16) 16 (by omega)
    have h4 : ((bcells l).drop (l.length - 16)).take 16 = bcells (l.drop (l.length - 16)) := by
      rw [List.take_of_length_le (by simp; omega)]; simp [bcells, List.map_drop]
    rw [h4] at h
    simpa [Addr.add_lit, hne1] using h
  have hdl : (l.drop (l.length - 16)).length = 16 := by simp; omega
  have htl : (l.take (l.length - 16)).length = l.length - 16 := by simp
  generalize l.take (l.length - 16) = body at *
  generalize l.drop (l.length - 16) = tag at *
  obtain ⟨a1, c1, rfl⟩ := own_form ho1
  clear hbody
  go_wp2
  have hS : Gr w1 [vb] w1.drew := Gr.of (fun _ _ => rfl)
  refine wp_plan (.H 0 (.H 1 (.H 4 (.H 5 (.H 6 (.H 7 (.E 2 true (.E 3 true (.E 8 false (.E 9 false .Z)))))))))) (Gr w1 [vb]) (by as_aux_lemma => kernel_rfl) (by as_aux_lemma => kernel_rfl) ?_
  repeat (first | (refine plan_H rfl hS (fun K hK => ?_); go_simp; refine hK _ ?_; clear hK K) | (refine plan_E rfl (fun K hK => ?_); go_simp; (first | refine hK _ _ (fun _ => hS) ?_ | refine hK _ _ nofun ?_); clear hK K))
  refine plan_E rfl (fun K hK => ?_); go_simp
  refine (mac_calls s _ body _ (hG.kp0 hk1.drew) (by omega) ((OB.bs ho1').kp0 ((Kp.refl [] w1).drew)) (by omega)).mono ?_
  rintro e w2 ⟨v2, rfl, ho2, hk2⟩
  obtain ⟨g2, c2, rfl, hc2, hg2, hl2⟩ := ob_some ho2 (by omega)
  have hkd : Kp [] w1 w2 := ((Kp.refl [] w1).drew).trans hk2
  have hS2 : Gr w1 [vb] w2 := Gr.of (fun b hb => hkd.block b (by simp at hb; subst hb; exact Nat.lt_of_lt_of_le hvb hk1.size) (by simp))
  refine hK _ _ (fun _ => hS2) ?_
  clear hK K
  have h216 : (16 : Int) ≤ (c2 : Int) := by omega
  refine plan_E rfl (fun K hK => ?_); go_simp
  refine hK _ _ (fun _ => hS2) ?_
  clear hK K
  have hB16 : Bs w2 (.slice (some ⟨g2, 0, none⟩) 16 c2) ((hmac s body).take 16) := by
    have h := Sl.part (OB.bs ho2) 0 16 (by omega)
    unfold Bs
    rw [List.length_take, Nat.min_eq_left (by omega)]
    simpa [bcells, List.map_take, show c2 ≠ 0 by omega, Addr.add] using h
  have hT : Bs w2 (.slice (some ⟨vb, vo + (l.length - 16), none⟩) 16 (vc - (l.length - 16))) tag := by
    unfold Bs
    rw [hdl]
    exact hvl.kp0 (hk1.trans hkd)
  refine plan_E rfl (fun K hK => ?_); go_simp
  refine (same_calls _ _ _ tag _ hB16 hT (by simp; omega) (by simp; omega)).mono ?_
  rintro e w3 ⟨rfl, hk3⟩
  refine hK _ _ nofun ?_
  clear hK K
  have hk13 : Kp [] w1 w3 := hkd.trans hk3
  have hw3 := hk1.trans hk13
  by_cases heq : (hmac s body).take 16 = tag
  · rw [if_pos heq] at hop
    have hd3 : decide ((hmac s body).take 16 = tag) = true := by rw [decide_eq_true_eq]; exact heq
    rw [hd3]
    refine plan_E rfl (fun K hK => ?_); go_simp
    refine hK _ _ nofun ?_
    clear hK K
    refine plan_Z ?_
    go_wp2
    go_ret2
    unfold RetO
    rw [hop]
    refine ⟨_, rfl, ?_, hw3⟩
    unfold OB
    rw [htl]
    exact own_kp ho1 hk13 (by simp)
  · rw [if_neg heq] at hop
    have hd3 : decide ((hmac s body).take 16 = tag) = false := by rw [decide_eq_false_iff_not]; exact heq
    rw [hd3]
    refine plan_E rfl (fun K hK => ?_); go_simp
    refine hK _ _ nofun ?_
    clear hK K
    refine plan_Z ?_
    go_wp2
    go_ret2
    unfold RetO
    rw [hop]
    exact ⟨rfl, hw3⟩
end Go.Proofs.YtddpefbpiehgeaaDoor
