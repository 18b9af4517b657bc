/- The seal: mac, Seal, Same, Open, Key. -/
import Derived.Test.YtddpefbpiehgeaaDoorT02
import Derived.Lib.SlBytesConst
import Derived.Test.YtddpefbpiehgeaaDoorT01
namespace Go.Proofs.YtddpefbpiehgeaaDoor
open Go Go.RowKit
set_option maxRecDepth 100000
set_option linter.unusedVariables false
set_option linter.unusedSectionVars false
set_option linter.unusedSimpArgs false

theorem mac1_length (b : UInt8) (k l : List UInt8) : (mac1 b k l).length = 32 := sha_length _
theorem mac1_calls' (b : UInt8) (bi : Int) (hbi : bi = (b.toNat : Int)) (k l : List UInt8) (kv v : Value) (c : Nat) (w : World) (hG : GH w) (hc : w.cell? ⟨c, 0, none⟩ = some kv) (hcl : c < w.heap.size) (hkv : Bs w kv k) (hkl : k.length = 64) (hv : Bs w v l) (hl : l.length ≤ 140737488352000) :
    Calls Tryd.prog 80 #[.int .u8 bi, v, .pointer (some ⟨c, 0, none⟩)] w fun e w' => ∃ u, e = .returned u ∧ OB w' 5 w.heap.size u (mac1 b k l) ∧ Kp [] w w' := by
  subst hbi
  exact mac1_calls b k l kv v c w hG hc hcl hkv hkl hv hl

/-- The code of bytes under a key. -/
def hmac (s : ByteArray) (l : List UInt8) : List UInt8 := mac1 92 (padded s) (mac1 54 (padded s) l)
theorem hmac_length (s : ByteArray) (l : List UInt8) : (hmac s l).length = 32 := mac1_length _ _ _

theorem alloc_lt (w : World) (o : Obj) : w.heap.size < (w.alloc o).heap.size := by simp only [World.size_alloc]; omega

theorem mac_calls (s : ByteArray) (v : Value) (l : List UInt8) (w : World) (hG : GH w) (hs : s.size ≤ 1000000) (hv : Bs w v l) (hl : l.length ≤ 140737488352000) :
    Calls Tryd.prog 54 #[.string s, v] w fun e w' => ∃ u, e = .returned u ∧ OB w' 5 w.heap.size u (hmac s l) ∧ Kp [] w w' := by
  have hpl := padded_length s
  have hml := mac1_length 54 (padded s) l
  have HPL := Lib.hid hpl
  have e54 : Hid ((54 : Int) = ((54 : UInt8).toNat : Int)) := Lib.hid rfl
  have e92 : Hid ((92 : Int) = ((92 : UInt8).toNat : Int)) := Lib.hid rfl
  clear hpl
  have hmf : ∀ (fn : Fn) (first cap : Array Value) (w : World), (Instr.makeFunc fn first cap).run Tryd.prog w = .ok (.func fn first cap) w := fun _ _ _ _ => rfl
  go_enter Tryd.func54, Tryd.ntmps54
  go_wp2_with (first
    | (go_at_call 79; refine (pad_calls s _ hG hs).mono ?_; rintro e w1 ⟨v1, rfl, hb1, hge1, hk1⟩; obtain ⟨a1, c1, rfl, _⟩ := Sl.form hb1; have hk2 := hk1.alloc (.cells #[.slice a1 (padded s).length c1] 23); have hc2 : (w1.alloc (.cells #[.slice a1 (padded s).length c1] 23)).cell? ⟨w1.heap.size, 0, none⟩ = some (.slice a1 (padded s).length c1) := cell_heap (heap_alloc_new w1 (.cells #[.slice a1 (padded s).length c1] 23)) 0; have hb2 := hb1.kp0 ((Kp.refl [] w1).alloc (.cells #[.slice a1 (padded s).length c1] 23)); have hlt2 := alloc_lt w1 (.cells #[.slice a1 (padded s).length c1] 23)))
  refine (mac1_calls' 54 54 e54.out (padded s) l _ _ w1.heap.size _ (hG.kp0 hk2) hc2 hlt2 hb2 HPL.out (hv.kp0 hk2) hl).mono ?_
  rintro e w3 ⟨u3, rfl, ho3, hk3⟩
  have hk13 := hk2.trans hk3
  have hc3 := (hk3.cells0.1 w1.heap.size 0 hlt2).trans hc2
  have hb3 := hb2.kp0 hk3
  have hlt3 := Nat.lt_of_lt_of_le hlt2 hk3.size
  go_wp2_with fail
  refine (mac1_calls' 92 92 e92.out (padded s) _ _ _ w1.heap.size _ (hG.kp0 hk13) hc3 hlt3 hb3 HPL.out (OB.bs ho3) (by omega)).mono ?_
  rintro e w4 ⟨u4, rfl, ho4, hk4⟩
  go_wp2_with fail
  go_ret
  exact ⟨_, rfl, own_base ho4 (fun b hb => Nat.le_trans hk13.size (ho4.lt b hb).1), hk13.trans hk4⟩

theorem ob_some {w : World} {B e n : Nat} {v : Value} {xs : List Value} (h : Own w B e 1 v n xs) (hn : 0 < n) : ∃ g c, v = .slice (some ⟨g, 0, none⟩) n c ∧ n ≤ c ∧ B ≤ g ∧ g < w.heap.size := by
  obtain ⟨_, ⟨_, h0⟩ | ⟨g, cap, cur, fr, hv, hg, hh, _, hc, _⟩⟩ := h
  · omega
  · exact ⟨g, cap, hv, hc, hg, lt_of_heap hh⟩

/-- What is sealed. -/
def sealed (s : ByteArray) (l : List UInt8) : List UInt8 := l ++ (hmac s l).take 16

theorem seal_ok (s : ByteArray) (v : Value) (l : List UInt8) (w : World) (hG : GH w) (hs : s.size ≤ 200) (hv : Bs w v l) (hl : l.length ≤ 140737488352000) :
    Calls Tryd.prog 32 #[.string s, v] w (RetB w.heap.size (sealed s l) 0 w) := by
  obtain ⟨i0, hi, hz0, hz1, hz2⟩ := info_parts u8info
  have hd : decide (s.size ≤ 200) = true := by rw [decide_eq_true_eq]; omega
  have hml := hmac_length s l
  obtain ⟨va, vc, rfl, _⟩ := Sl.form hv
  go_enter Tryd.func32, Tryd.ntmps32
  go_wp2_with (first
    | (go_at_call 53; refine (smay_calls s _).mono ?_; rintro e w1 ⟨rfl, rfl⟩; rw [hd])
    | (refine wpList_app _ rfl _ _ 23 23 rfl w.heap.size 5 i0 _ 1 1 Tryd.underlying23 hi hz0 hz1 hz2 rfl (by omega) (.slice none 0 0) 0 [] rfl (Own.nil _ _ _ _) (.slice va l.length vc) _ _ rfl (Src.of_sl Tryd.underlying23 hv bcells_one) (by omega) (by omega) (Nat.le_refl _) ?_; intro v1 w1 ho1 hg1 hx1; rw [Nat.zero_add, List.nil_append] at ho1; have hk1 := (Kp.refl [] w).grown hg1 nofun; have hv1 := hv.kp0 hk1)
    | (go_at_call 54; refine (mac_calls s _ l _ (hG.kp0 hk1) (by omega) hv1 (by omega)).mono ?_; rintro e w2 ⟨v2, rfl, ho2, hk2⟩; obtain ⟨g2, c2, rfl, hc2, hg2, hl2⟩ := ob_some ho2 (by omega); have h16 : (16 : Int) ≤ (c2 : Int) := by omega)
    | (with_reducible refine stop_app ?_))
  unfold Stop
  have hk12 := hk1.trans hk2
  have hB16 : Bs w2 (.slice (some ⟨g2, 0, none⟩) 16 c2) ((hmac s l).take 16) := by
    have h := Sl.part (OB.bs ho2) 0 16 (by omega)
    unfold Bs
    rw [List.length_take, Nat.min_eq_left (by omega)]
    simpa [bcells, List.map_take, show c2 ≠ 0 by omega, Addr.add] using h
  have ho1' := own_kp ho1 hk2 (by simp)
  refine wpList_app _ rfl _ _ 23 23 rfl w.heap.size 5 i0 _ 1 1 Tryd.underlying23 hi hz0 hz1 hz2 rfl (by omega) v1 _ _ rfl ho1' (.slice (some ⟨g2, 0, none⟩) 16 c2) 16 (bcells ((hmac s l).take 16)) rfl (Src.of_sl Tryd.underlying23 (by have h := hB16; unfold Bs at h; rw [List.length_take, Nat.min_eq_left (by omega)] at h; exact h) bcells_one) (by omega) (by omega) hk12.size ?_
  intro v3 w3 ho3 hg3 hx3
  rw [← bcells_append] at ho3
  have hk3 : Kp [] w w3 := hk12.grown hg3 (fun k hk => .inr (ho1.lt k hk).1)
  go_wp2
  go_ret2
  refine ⟨v3, rfl, ?_, hk3⟩
  unfold OB sealed
  rw [List.length_append, List.length_take, Nat.min_eq_left (by omega)]
  exact ho3

theorem seal_long (s : ByteArray) (v : Value) (w : World) (hs : 200 < s.size) :
    Calls Tryd.prog 32 #[.string s, v] w fun e w' => e = .returned (.tuple #[.slice none 0 0, .int .i64 2]) ∧ w = w' := by
  have hd : decide (s.size ≤ 200) = false := by rw [decide_eq_false_iff_not]; omega
  go_enter Tryd.func32, Tryd.ntmps32
  go_wp2_with (first
    | (go_at_call 53; refine (smay_calls s _).mono ?_; rintro e w1 ⟨rfl, rfl⟩; rw [hd]))
  go_ret2
  exact ⟨rfl, rfl⟩
end Go.Proofs.YtddpefbpiehgeaaDoor

/- The seal: Same, Open, Key. -/
namespace Go.Proofs.YtddpefbpiehgeaaDoor
open Go Go.RowKit
set_option maxRecDepth 100000
set_option linter.unusedVariables false
set_option linter.unusedSectionVars false
set_option linter.unusedSimpArgs false

theorem u8_or_v (x y : UInt8) : bits .or .u8 (x.toNat : Int) (y.toNat : Int) = ((x ||| y).toNat : Int) := by
  rw [u8_or_nat _ _ x.toNat_lt y.toNat_lt, UInt8.toNat_or]
theorem u8_acc (x a b : UInt8) : x ||| (a ^^^ b) = 0 ↔ x = 0 ∧ a = b := by
  rw [UInt8.or_eq_zero_iff, UInt8.xor_eq_zero_iff]

theorem take_step (l m : List UInt8) (n : Nat) (h1 : n < l.length) (h2 : n < m.length) : l.take (n + 1) = m.take (n + 1) ↔ l.take n = m.take n ∧ l[n] = m[n] := by
  rw [List.take_succ_eq_append_getElem h1, List.take_succ_eq_append_getElem h2]
  constructor
  · intro h
    have := List.append_inj h (by simp; omega)
    exact ⟨this.1, by simpa using this.2⟩
  · rintro ⟨h, h3⟩; rw [h, h3]

theorem same_len (v u : Value) (l m : List UInt8) (w : World) (hv : Bs w v l) (hu : Bs w u m) (hl : l.length ≠ m.length) (hl1 : l.length ≤ 140737488352000) (hl2 : m.length ≤ 140737488352000) :
    Calls Tryd.prog 64 #[v, u] w fun e w' => e = .returned (.bool false) ∧ w = w' := by
  obtain ⟨va, vc, rfl, -⟩ := Sl.form hv
  obtain ⟨ua, uc, rfl, -⟩ := Sl.form hu
  have hd : (((l.length : Int)) != (m.length : Int)) = true := by simp; omega
  go_enter Tryd.func64, Tryd.ntmps64
  go_wp2
  go_ret
  exact ⟨rfl, rfl⟩

set_option maxHeartbeats 1000000 in
theorem same_calls (v u : Value) (l m : List UInt8) (w : World) (hv : Bs w v l) (hu : Bs w u m) (hl : l.length = m.length) (hl1 : l.length ≤ 140737488352000) :
    Calls Tryd.prog 64 #[v, u] w fun e w' => e = .returned (.bool (decide (l = m))) ∧ Kp [] w w' := by
  obtain ⟨va, vc, rfl, -⟩ := Sl.form hv
  obtain ⟨ua, uc, rfl, -⟩ := Sl.form hu
  have hu0 := hu
  rw [← hl] at hu0
  have HL := Lib.hid hl
  have hneq : (((l.length : Int)) != (m.length : Int)) = false := by simp; omega
  clear hl
  go_enter Tryd.func64, Tryd.ntmps64
  go_wp2
  go_loopw [5, 14] (fun v5 v14 wr => ∃ (n : Nat) (x : UInt8), n ≤ l.length ∧ v14 = .int .i64 n ∧ v5 = .int .u8 (x.toNat : Int) ∧ (x = 0 ↔ l.take n = m.take n) ∧ Kp [] w wr) (fun _ v14 _ => l.length - (intOf v14).toNat)
  case atStart => exact ⟨0, 0, by omega, rfl, rfl, by simp, Kp.refl _ _⟩
  case round =>
    obtain ⟨n, x, hn, rfl, rfl, hx, hk⟩ := hrel
    by_cases hlt : n < l.length
    · have hlm : n < m.length := by have := HL.out; omega
      obtain ⟨va', vc', he, hvc, _, h6, h7⟩ := Sl.form (hv.kp0 hk)
      cases he
      obtain ⟨vb, vo, rfl, hvb⟩ := h6 (by omega)
      have hcv := (h7 vb vo rfl).2 n _ (bcells_get l n hlt)
      clear h6 h7
      obtain ⟨va', vc', he, huc, _, h6, h7⟩ := Sl.form (hu.kp0 hk)
      cases he
      obtain ⟨ub, uo, rfl, hub⟩ := h6 (by omega)
      have hcu := (h7 ub uo rfl).2 n _ (bcells_get m n hlm)
      have hst := take_step l m n hlt hlm
      rw [← hx] at hst
      generalize l[n] = a at *
      generalize m[n] = b at *
      have HST := Lib.hid hst
      have i0 : (0 : Int) ≤ n ∧ (n : Int) < l.length ∧ (n : Int) < m.length := by omega
      clear hst hx h6 h7
      go_wp2
      have hS : Gr wr [vb, ub] wr.drew := Gr.of (fun _ _ => rfl)
      refine wp_plan (.H 0 (.H 1 (.H 2 (.H 3 (.H 4 (.H 5 (.H 6 (.H 7 (.H 8 (.E 9 true (.E 10 false (.E 11 false .Z)))))))))))) (Gr wr [vb, ub]) (by as_aux_lemma => kernel_rfl) (by as_aux_lemma => kernel_rfl) ?_
      repeat (first | (refine plan_H rfl hS (fun K hK => ?_); go_simp; refine hK _ ?_; clear hK K) | (refine plan_E rfl (fun K hK => ?_); go_simp; (first | refine hK _ _ (fun _ => hS) ?_ | refine hK _ _ nofun ?_); clear hK K))
      refine plan_Z ?_
      rw [u8_xor_v, u8_or_v]
      go_wp2
      go_roundw
      case measure => simp [intOf]; omega
      case rel => exact ⟨n + 1, x ||| (a ^^^ b), by omega, by go_num, rfl, (u8_acc x a b).trans HST.out.symm, hk.drew⟩
    · have hnl : n = l.length := by omega
      have hxx : (((x.toNat : Int)) == 0) = decide (l = m) := by
        have h2 : l.take n = l := by rw [hnl, List.take_length]
        have h3 : m.take n = m := by rw [hnl, HL.out, List.take_length]
        rw [h2, h3] at hx
        rw [Bool.eq_iff_iff, decide_eq_true_eq, ← hx, beq_iff_eq]
        constructor
        · intro h; exact UInt8.toNat_inj.1 (by simpa using h)
        · rintro rfl; rfl
      have HXX := Lib.hid hxx
      clear hxx hx hnl
      go_wp2
      go_ret
      exact ⟨by rw [HXX.out]; rfl, hk⟩

theorem open_long (s : ByteArray) (v : Value) (w : World) (hs : 200 < s.size) :
    Calls Tryd.prog 37 #[.string s, v] w fun e w' => e = .returned (.tuple #[.slice none 0 0, .int .i64 2]) ∧ w = w' := by
  have hd : decide (s.size ≤ 200) = false := by rw [decide_eq_false_iff_not]; omega
  go_enter Tryd.func37, Tryd.ntmps37
  go_wp2_with (first
    | (go_at_call 53; refine (smay_calls s _).mono ?_; rintro e w1 ⟨rfl, rfl⟩; rw [hd]))
  go_ret2
  exact ⟨rfl, rfl⟩

theorem open_short (s : ByteArray) (v : Value) (l : List UInt8) (w : World) (hs : s.size ≤ 200) (hv : Bs w v l) (hl : l.length < 16) :
    Calls Tryd.prog 37 #[.string s, v] w fun e w' => e = .returned (.tuple #[.slice none 0 0, .int .i64 40]) ∧ w = w' := by
  have hd : decide (s.size ≤ 200) = true := by rw [decide_eq_true_eq]; omega
  obtain ⟨va, vc, rfl, -⟩ := Sl.form hv
  have hd2 : decide ((l.length : Int) < 16) = true := by rw [decide_eq_true_eq]; omega
  go_enter Tryd.func37, Tryd.ntmps37
  go_wp2_with (first
    | (go_at_call 53; refine (smay_calls s _).mono ?_; rintro e w1 ⟨rfl, rfl⟩; rw [hd]))
  go_ret2
  exact ⟨rfl, rfl⟩

/-- What is open: the bytes ahead of the code, or none. -/
def opened (s : ByteArray) (l : List UInt8) : Option (List UInt8) :=
  if (hmac s (l.take (l.length - 16))).take 16 = l.drop (l.length - 16) then some (l.take (l.length - 16)) else none

def RetO (s : ByteArray) (l : List UInt8) (w : World) (e : Ending) (w' : World) : Prop :=
  match opened s l with
  | some b => RetB w.heap.size b 0 w e w'
  | none => e = .returned (.tuple #[.slice none 0 0, .int .i64 41]) ∧ Kp [] w w'

set_option maxHeartbeats 1000000 in
theorem open_calls (s : ByteArray) (v : Value) (l : List UInt8) (w : World) (hG : GH w) (hs : s.size ≤ 200) (hv : Bs w v l) (hl : 16 ≤ l.length) (hl1 : l.length ≤ 140737488352000) :
    Calls Tryd.prog 37 #[.string s, v] w (RetO s l w) := by
  obtain ⟨i0, hi, hz0, hz1, hz2⟩ := info_parts u8info
  have hd : decide (s.size ≤ 200) = true := by rw [decide_eq_true_eq]; omega
  obtain ⟨va, vc, rfl, hvc, -, h6, -⟩ := Sl.form hv
  obtain ⟨vb, vo, rfl, hvb⟩ := h6 (by omega)
  clear h6
  have hd2 : decide ((l.length : Int) < 16) = false := by rw [decide_eq_false_iff_not]; omega
  have h16 : (16 : Int) ≤ (l.length : Int) ∧ ((l.length : Int) - 16).toNat = l.length - 16 ∧ ((l.length : Int) - 16) ≤ (vc : Int) ∧ ((l.length - 16 : Nat) : Int) = (l.length : Int) - 16 ∧ (l.length : Int) ≤ (vc : Int) := by omega
  obtain ⟨h16a, h16b, h16c, h16d, h16e⟩ := h16
  have hvc0 : vc ≠ 0 := by omega
  have hml := hmac_length s (l.take (l.length - 16))
  have hbody : Sl w 1 (.slice (some ⟨vb, vo, none⟩) (l.length - 16) vc) (l.length - 16) (bcells (l.take (l.length - 16))) := by
    have h := Sl.part hv 0 (l.length - 16) (by omega)
    simpa [bcells, List.map_take, hvc0, Addr.add] using h
  have hbl : (bcells (l.take (l.length - 16))).length = l.length - 16 := by simp
  go_enter Tryd.func37, Tryd.ntmps37
  go_wp2_with (first
    | (go_at_call 53; refine (smay_calls s _).mono ?_; rintro e w1 ⟨rfl, rfl⟩; rw [hd])
    | (with_reducible refine stop_app ?_))
  unfold Stop
  refine wpList_app _ rfl _ _ 23 23 rfl w.heap.size 5 i0 _ 1 1 Tryd.underlying23 hi hz0 hz1 hz2 rfl (by omega) (.slice none 0 0) 0 [] rfl (Own.nil _ _ _ _) (.slice (some ⟨vb, vo, none⟩) (l.length - 16) vc) (l.length - 16) _ rfl (Src.of_sl Tryd.underlying23 hbody bcells_one) (by omega) (by omega) (Nat.le_refl _) ?_
  intro v1 w1 ho1 hg1 hx1
  rw [Nat.zero_add, List.nil_append] at ho1
  have hk1 := (Kp.refl [] w).grown hg1 nofun
  have ho1' : OB w1 5 w.heap.size v1 (l.take (l.length - 16)) := by unfold OB; rw [show (l.take (l.length - 16)).length = l.length - 16 by simp]; exact ho1
  have hop : opened s l = if (hmac s (l.take (l.length - 16))).take 16 = l.drop (l.length - 16) then some (l.take (l.length - 16)) else none := rfl
  have hne1 : vc ≠ l.length - 16 := by omega
  have hne2 : l.length - 16 ≠ vc := by omega
  have hne3 : ((l.length : Int) - 16 = (vc : Int)) = False := by simp; omega
  have hne5 : (l.length : Int) - 16 ≤ (l.length : Int) := by omega
  have hne4 : l.length - (l.length - 16) = 16 := by omega
  have hvl : Sl w 1 (.slice (some ⟨vb, vo + (l.length - 16), none⟩) 16 (vc - (l.length - 16))) 16 (bcells (l.drop (l.length - 16))) := by
    have h := Sl.part hv (l.length - 16) 16 (by omega)
    have h4 : ((bcells l).drop (l.length - 16)).take 16 = bcells (l.drop (l.length - 16)) := by
      rw [List.take_of_length_le (by simp; omega)]; simp [bcells, List.map_drop]
    rw [h4] at h
    simpa [Addr.add_lit, hne1] using h
  have hdl : (l.drop (l.length - 16)).length = 16 := by simp; omega
  have htl : (l.take (l.length - 16)).length = l.length - 16 := by simp
  generalize l.take (l.length - 16) = body at *
  generalize l.drop (l.length - 16) = tag at *
  obtain ⟨a1, c1, rfl⟩ := own_form ho1
  clear hbody
  go_wp2
  have hS : Gr w1 [vb] w1.drew := Gr.of (fun _ _ => rfl)
  refine wp_plan (.H 0 (.H 1 (.H 4 (.H 5 (.H 6 (.H 7 (.E 2 true (.E 3 true (.E 8 false (.E 9 false .Z)))))))))) (Gr w1 [vb]) (by as_aux_lemma => kernel_rfl) (by as_aux_lemma => kernel_rfl) ?_
  repeat (first | (refine plan_H rfl hS (fun K hK => ?_); go_simp; refine hK _ ?_; clear hK K) | (refine plan_E rfl (fun K hK => ?_); go_simp; (first | refine hK _ _ (fun _ => hS) ?_ | refine hK _ _ nofun ?_); clear hK K))
  refine plan_E rfl (fun K hK => ?_); go_simp
  refine (mac_calls s _ body _ (hG.kp0 hk1.drew) (by omega) ((OB.bs ho1').kp0 ((Kp.refl [] w1).drew)) (by omega)).mono ?_
  rintro e w2 ⟨v2, rfl, ho2, hk2⟩
  obtain ⟨g2, c2, rfl, hc2, hg2, hl2⟩ := ob_some ho2 (by omega)
  have hkd : Kp [] w1 w2 := ((Kp.refl [] w1).drew).trans hk2
  have hS2 : Gr w1 [vb] w2 := Gr.of (fun b hb => hkd.block b (by simp at hb; subst hb; exact Nat.lt_of_lt_of_le hvb hk1.size) (by simp))
  refine hK _ _ (fun _ => hS2) ?_
  clear hK K
  have h216 : (16 : Int) ≤ (c2 : Int) := by omega
  refine plan_E rfl (fun K hK => ?_); go_simp
  refine hK _ _ (fun _ => hS2) ?_
  clear hK K
  have hB16 : Bs w2 (.slice (some ⟨g2, 0, none⟩) 16 c2) ((hmac s body).take 16) := by
    have h := Sl.part (OB.bs ho2) 0 16 (by omega)
    unfold Bs
    rw [List.length_take, Nat.min_eq_left (by omega)]
    simpa [bcells, List.map_take, show c2 ≠ 0 by omega, Addr.add] using h
  have hT : Bs w2 (.slice (some ⟨vb, vo + (l.length - 16), none⟩) 16 (vc - (l.length - 16))) tag := by
    unfold Bs
    rw [hdl]
    exact hvl.kp0 (hk1.trans hkd)
  refine plan_E rfl (fun K hK => ?_); go_simp
  refine (same_calls _ _ _ tag _ hB16 hT (by simp; omega) (by simp; omega)).mono ?_
  rintro e w3 ⟨rfl, hk3⟩
  refine hK _ _ nofun ?_
  clear hK K
  have hk13 : Kp [] w1 w3 := hkd.trans hk3
  have hw3 := hk1.trans hk13
  by_cases heq : (hmac s body).take 16 = tag
  · rw [if_pos heq] at hop
    have hd3 : decide ((hmac s body).take 16 = tag) = true := by rw [decide_eq_true_eq]; exact heq
    rw [hd3]
    refine plan_E rfl (fun K hK => ?_); go_simp
    refine hK _ _ nofun ?_
    clear hK K
    refine plan_Z ?_
    go_wp2
    go_ret2
    unfold RetO
    rw [hop]
    refine ⟨_, rfl, ?_, hw3⟩
    unfold OB
    rw [htl]
    exact own_kp ho1 hk13 (by simp)
  · rw [if_neg heq] at hop
    have hd3 : decide ((hmac s body).take 16 = tag) = false := by rw [decide_eq_false_iff_not]; exact heq
    rw [hd3]
    refine plan_E rfl (fun K hK => ?_); go_simp
    refine hK _ _ nofun ?_
    clear hK K
    refine plan_Z ?_
    go_wp2
    go_ret2
    unfold RetO
    rw [hop]
    exact ⟨rfl, hw3⟩
end Go.Proofs.YtddpefbpiehgeaaDoor

/- The seal: Key. -/
namespace Go.Proofs.YtddpefbpiehgeaaDoor
open Go Go.RowKit
set_option maxRecDepth 100000
set_option linter.unusedVariables false
set_option linter.unusedSectionVars false
set_option linter.unusedSimpArgs false

theorem own_alloc (w : World) (T : TypeId) (l : List UInt8) (n base : Nat) (fr : Nat × Nat) (hf : fr = (0, 0) ∨ l.length ≤ fr.1) (hn : n = l.length) (hb : base ≤ w.heap.size) (hm : n ≤ maxLen) :
    Own (w.alloc (.cells (bcells l).toArray T fr)) base T 1 (.slice (some ⟨w.heap.size, 0, none⟩) n n) n (bcells l) := by
  subst hn
  refine ⟨by simp only [bcells_length, Nat.mul_one], .inr ⟨w.heap.size, l.length, _, fr, rfl, hb, heap_alloc_new w _, (by simpa using hf), Nat.le_refl _, hm, by simp only [List.size_toArray, bcells_length, Nat.mul_one], ?_⟩⟩
  exact List.take_of_length_le (by simp only [bcells_length, Nat.mul_one]; exact Nat.le_refl _)

theorem key_long (s : ByteArray) (n : Int) (w : World) (hs : 200 < s.size) :
    Calls Tryd.prog 50 #[.string s, .int .i64 n] w fun e w' => e = .returned (.tuple #[.string ⟨#[]⟩, .int .i64 2]) ∧ w = w' := by
  have hd : decide (s.size ≤ 200) = false := by rw [decide_eq_false_iff_not]; omega
  go_enter Tryd.func50, Tryd.ntmps50
  go_wp2_with (first
    | (go_at_call 53; refine (smay_calls s _).mono ?_; rintro e w1 ⟨rfl, rfl⟩; rw [hd]))
  go_ret2
  exact ⟨rfl, rfl⟩

theorem key_wide (s : ByteArray) (n : Int) (w : World) (hs : s.size ≤ 200) (hn : n < 0 ∨ 65535 < n) :
    Calls Tryd.prog 50 #[.string s, .int .i64 n] w fun e w' => e = .returned (.tuple #[.string ⟨#[]⟩, .int .i64 1]) ∧ w = w' := by
  have hd : decide (s.size ≤ 200) = true := by rw [decide_eq_true_eq]; omega
  rcases Int.lt_or_le n 0 with h | h
  · have hd2 : decide (n < 0) = true := by rw [decide_eq_true_eq]; exact h
    clear hn
    go_enter Tryd.func50, Tryd.ntmps50
    go_wp2_with (first
      | (go_at_call 53; refine (smay_calls s _).mono ?_; rintro e w1 ⟨rfl, rfl⟩; rw [hd]))
    go_ret2
    exact ⟨rfl, rfl⟩
  · have hd2 : decide (n < 0) = false := by rw [decide_eq_false_iff_not]; omega
    have hd3 : decide (65535 < n) = true := by rw [decide_eq_true_eq]; omega
    clear hn
    go_enter Tryd.func50, Tryd.ntmps50
    go_wp2_with (first
      | (go_at_call 53; refine (smay_calls s _).mono ?_; rintro e w1 ⟨rfl, rfl⟩; rw [hd]))
    go_ret2
    exact ⟨rfl, rfl⟩

/-- The key of a device out of a key. -/
def devOf (n : Nat) : List UInt8 := [100, 101, 118, 105, 99, 101] ++ dig n 2
def keyOf (s : ByteArray) (n : Nat) : ByteArray := ⟨(hmac s (devOf n)).toArray⟩
theorem keyOf_size (s : ByteArray) (n : Nat) : (keyOf s n).size = 32 := by
  show (hmac s (devOf n)).toArray.size = 32
  rw [List.size_toArray, hmac_length]

theorem dig2 (n : Nat) (h : n ≤ 65535) : (#[.int .u8 ((n : Int) / 256), .int .u8 ((n : Int) % 256)] : Array Value) = (bcells (dig n 2)).toArray := by
  simp [dig_cons, bcells, dig]
  omega
theorem dev6 : (#[.int .u8 100, .int .u8 101, .int .u8 118, .int .u8 105, .int .u8 99, .int .u8 101] : Array Value) = (bcells [100, 101, 118, 105, 99, 101]).toArray := rfl

theorem key_calls (s : ByteArray) (n : Nat) (w : World) (hG : GH w) (hs : s.size ≤ 200) (hn : n ≤ 65535) :
    Calls Tryd.prog 50 #[.string s, .int .i64 n] w fun e w' => e = .returned (.tuple #[.string (keyOf s n), .int .i64 0]) ∧ Kp [] w w' := by
  obtain ⟨i0, hi, hz0, hz1, hz2⟩ := info_parts u8info
  have hd : decide (s.size ≤ 200) = true := by rw [decide_eq_true_eq]; omega
  have hn0 : (0 : Int) ≤ n ∧ (n : Int) ≤ 65535 := by omega
  obtain ⟨hn1, hn2⟩ := hn0
  have hd2 : decide ((n : Int) < 0) = false := by rw [decide_eq_false_iff_not]; omega
  have hd3 : decide (65535 < (n : Int)) = false := by rw [decide_eq_false_iff_not]; omega
  have hcs := Lib.run_convert_bytes_const (P := Tryd.prog) w 23 5 #[.int .u8 100, .int .u8 101, .int .u8 118, .int .u8 105, .int .u8 99, .int .u8 101] 6 6 Tryd.underlying23 Tryd.underlying5
  simp only [List.size_toArray, List.length_cons, List.length_nil, Nat.zero_add, Nat.reduceAdd] at hcs
  go_enter Tryd.func50, Tryd.ntmps50
  go_wp2_with (first
    | (go_at_call 53; refine (smay_calls s _).mono ?_; rintro e w1 ⟨rfl, rfl⟩; rw [hd])
    | (with_reducible refine stop_app ?_))
  unfold Stop
  rw [dig2 n hn, dev6]
  have hoA := own_alloc w 5 [100, 101, 118, 105, 99, 101] 6 w.heap.size (6, 7) (.inr (by simp)) rfl (Nat.le_refl _) (by unfold maxLen; omega)
  have hkA := (Kp.refl [] w).alloc (.cells (bcells [100, 101, 118, 105, 99, 101]).toArray 5 (6, 7))
  have hoB := own_kp hoA ((Kp.refl [] _).alloc (.cells (bcells (dig n 2)).toArray 5)) (by simp)
  have hkB := hkA.alloc (.cells (bcells (dig n 2)).toArray 5)
  have hsB := bs_alloc (w.alloc (.cells (bcells [100, 101, 118, 105, 99, 101]).toArray 5 (6, 7))) 5 (dig n 2) _ rfl 2 (dig_length 2 n).symm
  rw [World.size_alloc] at hsB
  generalize w.alloc (.cells (bcells [100, 101, 118, 105, 99, 101]).toArray 5 (6, 7)) = wA at *
  generalize wA.alloc (.cells (bcells (dig n 2)).toArray 5) = wB at *
  refine wpList_app _ rfl _ _ 23 23 rfl w.heap.size 5 i0 _ 1 1 Tryd.underlying23 hi hz0 hz1 hz2 rfl (by omega) (.slice (some ⟨w.heap.size, 0, none⟩) 6 6) _ _ rfl hoB (.slice (some ⟨w.heap.size + 1, 0, none⟩) 2 2) 2 (bcells (dig n 2)) rfl (Src.of_sl Tryd.underlying23 hsB bcells_one) (by omega) (by omega) hkB.size ?_
  intro v1 w1 ho1 hg1 hx1
  rw [← bcells_append] at ho1
  have hk1 : Kp [] w w1 := hkB.grown hg1 (fun k hk => .inr (hoB.lt k hk).1)
  have hb1 : Bs w1 v1 (devOf n) := OB.bs ho1
  have hml := hmac_length s (devOf n)
  obtain ⟨a1, c1, rfl⟩ := own_form ho1
  go_wp2_with (first
    | (go_at_call 54; refine (mac_calls s _ _ _ (hG.kp0 hk1) (by omega) hb1 (by simp [devOf])).mono ?_; rintro e w2 ⟨v2, rfl, ho2, hk2⟩; have hcv := b2s (OB.bs ho2) 23 9 5 Tryd.underlying23 Tryd.underlying5 Tryd.underlying9))
  go_ret2
  exact ⟨rfl, hk1.trans hk2⟩
end Go.Proofs.YtddpefbpiehgeaaDoor

/- The reader of pieces: the cursor, what is taken, End. -/
namespace Go.Proofs.YtddpefbpiehgeaaDoor
open Go Go.RowKit
set_option maxRecDepth 100000
set_option linter.unusedVariables false
set_option linter.unusedSectionVars false
set_option linter.unusedSimpArgs false

/-- A cursor at block c: its bytes d, where it stands. -/
def IsCur (w : World) (B c : Nat) (d : List UInt8) (at_ : Nat) : Prop :=
  B ≤ c ∧ ∃ a cap, w.heap[c]? = some (.cells #[.slice a d.length cap, .int .i64 at_] 131 (0, 0)) ∧ Bs w (.slice a d.length cap) d ∧ (∀ b, Value.ownBlock (.slice a d.length cap) = some b → b < B)

theorem check_no (c : Int) (w : World) : Calls Tryd.prog 67 #[.bool false, .int .i64 c] w fun e w' => e = .panicked [{ v := .iface 28 (.int .i64 c), recovered := false }] ∧ w = w' := by
  go_enter Tryd.func67, Tryd.ntmps67
  go_wp2
  exact ⟨rfl, rfl, rfl⟩

theorem cbytes_ok (B c : Nat) (d : List UInt8) (at_ n : Nat) (w : World) (hc : IsCur w B c d at_) (hn : n + at_ ≤ d.length) (hlen : d.length ≤ 140737488355328) :
    Calls Tryd.prog 72 #[.pointer (some ⟨c, 0, none⟩), .int .i64 n] w fun e w' => ∃ v, e = .returned v ∧ Bs w' v ((d.drop at_).take n) ∧ IsCur w' B c d (at_ + n) ∧ Kp [c] w w' := by
  obtain ⟨hBc, a, cap, hh, hb, hBd⟩ := hc
  have hne : ∀ b, Value.ownBlock (.slice a d.length cap) = some b → b ≠ c := fun b e => by have := hBd b e; omega
  have hclt := lt_of_heap hh
  have h0 := cell_heap hh 0
  have h1 := cell_heap hh 1
  have hf1 := free_heap hh 1
  simp only [List.getElem?_toArray, List.getElem?_cons_zero, List.getElem?_cons_succ] at h0 h1
  have hle : decide ((n : Int) ≤ (d.length : Int) - at_) = true := by rw [decide_eq_true_eq]; omega
  have hw1 : IntKind.i64.wrap ((d.length : Int) - at_) = d.length - at_ := IntWalk.i64_in _ (by omega)
  go_enter Tryd.func72, Tryd.ntmps72
  go_wp2
  have hS : Gr w [c] w.drew := Gr.of (fun _ _ => rfl)
  refine wp_plan (.H 0 (.H 1 (.H 2 (.H 3 (.H 4 (.H 5 (.H 6 (.H 7 (.H 8 (.H 9 (.H 10 (.H 11 (.E 12 false .Z))))))))))))) (Gr w [c]) (by kernel_rfl) (by kernel_rfl) ?_
  repeat (refine plan_H rfl hS (fun K hK => ?_); go_simp; refine hK _ ?_; clear hK K)
  refine plan_E rfl (fun K hK => ?_)
  go_simp
  refine (check_yes _ _).mono ?_
  rintro e w' ⟨rfl, rfl⟩
  refine hK _ _ nofun ?_
  clear hK K
  refine plan_Z ?_
  have hw2 : IntKind.i64.wrap ((at_ : Int) + n) = at_ + n := IntWalk.i64_in _ (by omega)
  have hw3 : IntKind.i64.wrap ((at_ : Int) + n - n) = at_ := by rw [Int.add_sub_cancel]; exact IntWalk.i64_in _ (by omega)
  go_wp2
  have hfm := Sl.form hb
  obtain ⟨a', cap', he, hcap, hnone, hsome, hcells⟩ := hfm
  cases he
  have c0 : (w.setCell ⟨c, 1, none⟩ (.int .i64 (at_ + n))).cell? ⟨c, 0, none⟩ = some (.slice a d.length cap) := by rw [World.cell?_setCell_other _ _ _ _ (by simp)]; exact h0
  have c1 : (w.setCell ⟨c, 1, none⟩ (.int .i64 (at_ + n))).cell? ⟨c, 1, none⟩ = some (.int .i64 (at_ + n)) := World.cell?_setCell_same _ _ _ h1
  have hS2 : Gr (w.setCell ⟨c, 1, none⟩ (.int .i64 (at_ + n))) [c] (w.setCell ⟨c, 1, none⟩ (.int .i64 (at_ + n))).drew.drew := Gr.of (fun _ _ => rfl)
  refine wp_plan (.H 0 (.H 1 (.H 2 (.H 3 (.H 4 (.H 5 (.H 6 (.H 7 (.H 8 (.H 9 (.H 10 (.H 11 (.H 12 (.H 13 (.H 14 (.H 15 .Z)))))))))))))))) (Gr (w.setCell ⟨c, 1, none⟩ (.int .i64 (at_ + n))) [c]) (by kernel_rfl) (by kernel_rfl) ?_
  have hw4 : IntKind.i64.wrap (at_ : Int) = at_ := IntWalk.i64_in _ (by omega)
  have b1 : (0 : Int) ≤ (at_ : Int) + n ∧ (at_ : Int) + n ≤ cap := ⟨by omega, by omega⟩
  have b2 : (0 : Int) ≤ (at_ : Int) ∧ (at_ : Int) ≤ max ((at_ : Int) + n) 0 := ⟨by omega, by omega⟩
  have b4 : (at_ : Int) ≤ (at_ : Int) + n := by omega
  have b3 : ((at_ : Int) + n).toNat - at_ = n := by omega
  repeat (refine plan_H rfl hS2 (fun K hK => ?_); go_simp; refine hK _ ?_; clear hK K)
  refine plan_Z ?_
  have hpart := (Sl.part hb at_ n (by omega))
  generalize hA : (if cap = at_ then a else Option.map (fun x => x.add at_) a) = A at hpart ⊢
  have HA := Lib.hid hA
  clear hA
  clear b1 b2 b3 b4 hw1 hw2 hw3 hw4 c0 c1
  go_wp2
  go_ret
  have hkk : Kp [c] w (w.setCell ⟨c, 1, none⟩ (.int .i64 (at_ + n))).drew.drew := (((Kp.refl [c] w).setCell (.inl (by simp)) _).drew).drew
  refine ⟨_, rfl, ?_, ⟨hBc, a, cap, ?_, hb.kp hkk (fun b e hm => hne b e (by simpa using hm)), hBd⟩, hkk⟩
  · have h3 := hpart.kp hkk (fun b e hm => ?_)
    · unfold Bs
      rw [bcells_part]
      have : ((d.drop at_).take n).length = n := by simp; omega
      rw [this]
      exact h3
    · simp only [List.mem_singleton] at hm
      subst hm
      have hA := HA.out
      cases a with
      | none => simp at hA; rw [← hA] at e; cases e
      | some x =>
        refine hne b ?_ rfl
        rw [← hA] at e
        by_cases hq : cap = at_
        · simpa [hq, Value.ownBlock] using e
        · simpa [hq, Value.ownBlock, add_block] using e
  · have := heap_setCell_same w c 1 _ _ (.int .i64 ((at_ : Int) + n)) hh
    simpa [World.drew] using this

theorem cbytes_bad (B c : Nat) (d : List UInt8) (at_ n : Nat) (w : World) (hc : IsCur w B c d at_) (hn : d.length < n + at_) (ha : at_ ≤ d.length) (hlen : d.length ≤ 140737488355328) :
    Calls Tryd.prog 72 #[.pointer (some ⟨c, 0, none⟩), .int .i64 n] w fun e w' => e = .panicked [{ v := .iface 28 (.int .i64 10), recovered := false }] ∧ Kp [] w w' := by
  obtain ⟨hBc, a, cap, hh, hb, hBd⟩ := hc
  have hne : ∀ b, Value.ownBlock (.slice a d.length cap) = some b → b ≠ c := fun b e => by have := hBd b e; omega
  have hclt := lt_of_heap hh
  have h0 := cell_heap hh 0
  have h1 := cell_heap hh 1
  simp only [List.getElem?_toArray, List.getElem?_cons_zero, List.getElem?_cons_succ] at h0 h1
  have hle : decide ((n : Int) ≤ (d.length : Int) - at_) = false := by rw [decide_eq_false_iff_not]; omega
  have hw1 : IntKind.i64.wrap ((d.length : Int) - at_) = d.length - at_ := IntWalk.i64_in _ (by omega)
  go_enter Tryd.func72, Tryd.ntmps72
  go_wp2
  have hS : Gr w [c] w.drew := Gr.of (fun _ _ => rfl)
  refine wp_plan_p (.H 0 (.H 1 (.H 2 (.H 3 (.H 4 (.H 5 (.H 6 (.H 7 (.H 8 (.H 9 (.H 10 (.H 11 (.E 12 false .Z))))))))))))) (Gr w [c]) (by kernel_rfl) (by kernel_rfl) (fun c a x v w h => by cases x <;> exact h) ?_
  repeat (refine plan_H rfl hS (fun K hK => ?_); go_simp; refine hK _ ?_; clear hK K)
  refine plan_E rfl (fun K hK => ?_)
  go_simp
  refine (check_no _ _).mono ?_
  rintro e w' ⟨rfl, rfl⟩
  exact ⟨rfl, rfl, ((Kp.refl [] w).drew)⟩

theorem bits_ok (B c : Nat) (d : List UInt8) (at_ k : Nat) (w : World) (hc : IsCur w B c d at_) (hn : k + at_ ≤ d.length) (hk8 : k ≤ 8) (hlen : d.length ≤ 140737488355328) :
    Calls Tryd.prog 69 #[.pointer (some ⟨c, 0, none⟩), .int .i64 k] w fun e w' => e = .returned (.int .u64 (num ((d.drop at_).take k))) ∧ IsCur w' B c d (at_ + k) ∧ Kp [c] w w' := by
  generalize hl : (d.drop at_).take k = l
  have hll : l.length = k := by rw [← hl]; simp; omega
  go_enter Tryd.func69, Tryd.ntmps69
  go_wp2_with fail
  refine (cbytes_ok B c d at_ k w hc hn hlen).mono ?_
  rintro e w1 ⟨v, rfl, hb, hc1, hk1⟩
  rw [hl] at hb
  obtain ⟨a, cap, rfl, hcap, hnone, hsome, hcells⟩ := Sl.form hb
  have HL := Lib.hid hl
  have HLL := Lib.hid hll
  have hl8 : l.length ≤ 8 := by omega
  clear hl hll
  go_wp2
  go_loop [5, 12] (fun n i => ∃ j : Nat, j ≤ l.length ∧ i = .int .i64 j ∧ n = .int .u64 (num (l.take j))) (fun _ i => l.length - (intOf i).toNat)
  case atStart => exact ⟨0, Nat.zero_le _, rfl, rfl⟩
  case round =>
    obtain ⟨j, hj, rfl, rfl⟩ := hrel
    by_cases hlt : j < l.length
    · obtain ⟨b, off, rfl, hbl⟩ := hsome (by omega)
      have hcell := (hcells b off rfl).2 j _ (bcells_get l j hlt)
      have hi0 : (0 : Int) ≤ (j : Int) := by omega
      have hi1 : (j : Int) < (l.length : Int) := by omega
      clear hcells hnone hsome
      go_wp2
      have hnum := num_lt (l.take j)
      rw [List.length_take, Nat.min_eq_left (by omega)] at hnum
      have hpow : 256 ^ j ≤ 256 ^ 7 := Nat.pow_le_pow_right (by omega) (by omega)
      refine ⟨⟨j + 1, by omega, by go_num, ?_⟩, by simp [intOf]; omega⟩
      rw [byte_or _ _ (by omega) (l[j].toNat_lt), ← num_snoc, List.take_succ_eq_append_getElem hlt]
    · obtain rfl : j = l.length := by omega
      go_wp2
      go_ret
      exact ⟨rfl, hc1, hk1⟩

theorem bits_bad (B c : Nat) (d : List UInt8) (at_ k : Nat) (w : World) (hc : IsCur w B c d at_) (hn : d.length < k + at_) (ha : at_ ≤ d.length) (hlen : d.length ≤ 140737488355328) :
    Calls Tryd.prog 69 #[.pointer (some ⟨c, 0, none⟩), .int .i64 k] w fun e w' => e = .panicked [{ v := .iface 28 (.int .i64 10), recovered := false }] ∧ Kp [] w w' := by
  go_enter Tryd.func69, Tryd.ntmps69
  go_wp2_with fail
  refine (cbytes_bad B c d at_ k w hc hn ha hlen).mono ?_
  rintro e w1 ⟨rfl, hk1⟩
  exact ⟨rfl, rfl, hk1⟩

/-- What a piece comes to: it is taken, the cursor stands at at2, and the block q holds v; or it is at fault. -/
def Took (B c q : Nat) (d : List UInt8) (at2 : Nat) (v : Value) (T : TypeId) (w : World) (e : Ending) (w' : World) : Prop :=
  e = .returned (.tuple #[]) ∧ IsCur w' B c d at2 ∧ w'.heap[q]? = some (.cells #[v] T (0, 0)) ∧ Kp [c, q] w w'
def Bad (c : Nat) (code : Int) (w : World) (e : Ending) (w' : World) : Prop :=
  e = .panicked [{ v := .iface 28 (.int .i64 code), recovered := false }] ∧ Kp [c] w w'

theorem IsCur.kp {S : List Nat} {w w' : World} {B c : Nat} {d : List UInt8} {at_ : Nat} (h : IsCur w B c d at_) (hk : Kp S w w') (hS : ∀ s ∈ S, s ≠ c ∧ B ≤ s) : IsCur w' B c d at_ := by
  obtain ⟨hB, a, cap, hh, hb, hne⟩ := h
  exact ⟨hB, a, cap, hk.heap hh (fun hm => (hS c hm).1 rfl), hb.kp hk (fun b e hm => by have := (hS b hm).2; have := hne b e; omega), hne⟩

/-- A block of one cell. -/
def One (w : World) (q : Nat) (v : Value) (T : TypeId) : Prop := w.heap[q]? = some (.cells #[v] T (0, 0))
theorem One.cell {w : World} {q : Nat} {v : Value} {T : TypeId} (h : One w q v T) : w.cell? ⟨q, 0, none⟩ = some v := by simpa using cell_heap h 0
theorem One.free {w : World} {q : Nat} {v : Value} {T : TypeId} (h : One w q v T) : w.frozen? ⟨q, 0, none⟩ = false := free_heap h 0
theorem One.kp {S : List Nat} {w w' : World} {q : Nat} {v : Value} {T : TypeId} (h : One w q v T) (hk : Kp S w w') (hS : q ∉ S) : One w' q v T := hk.heap h hS
theorem One.set {w : World} {q : Nat} {v u : Value} {T : TypeId} (h : One w q v T) : One (w.setCell ⟨q, 0, none⟩ u) q u T := by
  have := heap_setCell_same w q 0 _ _ u h
  unfold One
  simpa using this

/-- The out block is written, behind the cursor's move. -/
theorem Took.mk {B c q : Nat} {d : List UInt8} {at2 : Nat} {v x0 : Value} {T : TypeId} {w w1 : World} (hc : IsCur w1 B c d at2) (hk : Kp [c] w w1) (hq : One w1 q x0 T) (hcq : c ≠ q) (hB : B ≤ q) :
    Took B c q d at2 v T w (.returned (.tuple #[])) (w1.setCell ⟨q, 0, none⟩ v) := by
  have hs : Kp [q] w1 (w1.setCell ⟨q, 0, none⟩ v) := (Kp.refl [q] w1).setCell (.inl (by simp)) v
  exact ⟨rfl, hc.kp hs (by simp; omega), hq.set, (hk.mono (by simp)).trans (hs.mono (by simp))⟩

section
variable (B c bs q : Nat) (d : List UInt8) (at_ : Nat) (x0 : Value) (w : World) (hc : IsCur w B c d at_) (hcs : c ≠ bs) (hcq : c ≠ q) (hBq : B ≤ q) (hlen : d.length ≤ 140737488355328)
include hc hcs hcq hBq hlen

theorem pnum_ok (k : Nat) (hs : One w bs (.int .i64 k) 3) (hq : One w q x0 103)
    (hn : k + at_ ≤ d.length) (hk1 : 1 ≤ k) (hk8 : k ≤ 8) (hx : num ((d.drop at_).take k) ≤ 9223372036854775807) :
    Calls Tryd.prog 66 #[.pointer (some ⟨c, 0, none⟩), .pointer (some ⟨bs, 0, none⟩), .pointer (some ⟨q, 0, none⟩)] w (Took B c q d (at_ + k) (.int .u64 (num ((d.drop at_).take k))) 103 w) := by
  have hz : sizedB (k : Int) = true := by simp [sizedB]; omega
  have Hz := Lib.hid hz
  clear hz
  generalize hX : num ((d.drop at_).take k) = X at *
  have HX := Lib.hid hX
  clear hX
  have hd1 : decide ((X : Int) ≤ 9223372036854775807) = true := by rw [decide_eq_true_eq]; omega
  have hslt := lt_of_heap hs
  have hqlt := lt_of_heap hq
  have s0 := hs.cell
  go_enter Tryd.func66, Tryd.ntmps66
  go_wp2_with (first
    | (go_at_call 68; refine (sized_calls _ _).mono ?_; rintro e w' ⟨rfl, rfl⟩; rw [Hz.out])
    | (go_at_call 67; refine (check_yes _ _).mono ?_; rintro e w' ⟨rfl, rfl⟩)
    | (go_at_call 69; refine (bits_ok B c d at_ k w hc hn hk8 hlen).mono ?_; rintro e w1 ⟨rfl, hc1, hk1'⟩; rw [HX.out]; have hq1 := hq.kp hk1' (by simpa using hcq.symm); have q0 := hq1.cell; have qf := hq1.free))
  go_end0
  exact Took.mk hc1 hk1' hq1 hcq hBq

theorem pnum_short (k : Nat) (hs : One w bs (.int .i64 k) 3) (ha : at_ ≤ d.length) (hn : d.length < k + at_) (hk1 : 1 ≤ k) (hk8 : k ≤ 8) :
    Calls Tryd.prog 66 #[.pointer (some ⟨c, 0, none⟩), .pointer (some ⟨bs, 0, none⟩), .pointer (some ⟨q, 0, none⟩)] w (Bad c 10 w) := by
  have hz : sizedB (k : Int) = true := by simp [sizedB]; omega
  have Hz := Lib.hid hz
  clear hz
  have hslt := lt_of_heap hs
  have s0 := hs.cell
  go_enter Tryd.func66, Tryd.ntmps66
  go_wp2_with (first
    | (go_at_call 68; refine (sized_calls _ _).mono ?_; rintro e w' ⟨rfl, rfl⟩; rw [Hz.out])
    | (go_at_call 67; refine (check_yes _ _).mono ?_; rintro e w' ⟨rfl, rfl⟩)
    | (go_at_call 69; refine (bits_bad B c d at_ k w hc hn ha hlen).mono ?_; rintro e w1 ⟨rfl, hk1'⟩))
  exact ⟨rfl, rfl, hk1'.nil⟩

theorem pnum_form (k : Nat) (hs : One w bs (.int .i64 k) 3) (hn : k + at_ ≤ d.length) (hk1 : 1 ≤ k) (hk8 : k ≤ 8) (hx : 9223372036854775807 < num ((d.drop at_).take k)) :
    Calls Tryd.prog 66 #[.pointer (some ⟨c, 0, none⟩), .pointer (some ⟨bs, 0, none⟩), .pointer (some ⟨q, 0, none⟩)] w (Bad c 11 w) := by
  have hz : sizedB (k : Int) = true := by simp [sizedB]; omega
  have Hz := Lib.hid hz
  clear hz
  generalize hX : num ((d.drop at_).take k) = X at *
  have HX := Lib.hid hX
  clear hX
  have hd1 : decide ((X : Int) ≤ 9223372036854775807) = false := by rw [decide_eq_false_iff_not]; omega
  have hslt := lt_of_heap hs
  have s0 := hs.cell
  go_enter Tryd.func66, Tryd.ntmps66
  go_wp2_with (first
    | (go_at_call 68; refine (sized_calls _ _).mono ?_; rintro e w' ⟨rfl, rfl⟩; rw [Hz.out])
    | (go_at_call 67; first | ((with_reducible refine (check_yes _ _).mono ?_); rintro e w' ⟨rfl, rfl⟩) | ((with_reducible refine (check_no _ _).mono ?_); rintro e w' ⟨rfl, rfl⟩))
    | (go_at_call 69; refine (bits_ok B c d at_ k w hc hn hk8 hlen).mono ?_; rintro e w1 ⟨rfl, hc1, hk1'⟩; rw [HX.out]))
  exact ⟨rfl, rfl, hk1'⟩
end
end Go.Proofs.YtddpefbpiehgeaaDoor

