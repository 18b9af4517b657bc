/- The seal: mac, Seal, Same, Open, Key. -/
import Derived.Test.YtddpefbpiehgeaaDoorSealB
namespace Go.Proofs.YtddpefbpiehgeaaDoor
open Go Go.RowKit
set_option maxRecDepth 100000
set_option linter.unusedVariables false
set_option linter.unusedSectionVars false
set_option linter.unusedSimpArgs false

theorem mac1_length (b : UInt8) (k l : List UInt8) : (mac1 b k l).length = 32 := sha_length _
theorem mac1_calls' (b : UInt8) (bi : Int) (hbi : bi = (b.toNat : Int)) (k l : List UInt8) (kv v : Value) (c : Nat) (w : World) (hG : GH w) (hc : w.cell? ⟨c, 0, none⟩ = some kv) (hcl : c < w.heap.size) (hkv : Bs w kv k) (hkl : k.length = 64) (hv : Bs w v l) (hl : l.length ≤ 140737488352000) :
    Calls Tryd.prog 80 #[.int .u8 bi, v, .pointer (some ⟨c, 0, none⟩)] w fun e w' => ∃ u, e = .returned u ∧ OB w' 5 w.heap.size u (mac1 b k l) ∧ Kp [] w w' := by
  subst hbi
  exact mac1_calls b k l kv v c w hG hc hcl hkv hkl hv hl

/-- The code of bytes under a key. -/
def hmac (s : ByteArray) (l : List UInt8) : List UInt8 := mac1 92 (padded s) (mac1 54 (padded s) l)
theorem hmac_length (s : ByteArray) (l : List UInt8) : (hmac s l).length = 32 := mac1_length _ _ _

theorem alloc_lt (w : World) (o : Obj) : w.heap.size < (w.alloc o).heap.size := by simp only [World.size_alloc]; omega

theorem mac_calls (s : ByteArray) (v : Value) (l : List UInt8) (w : World) (hG : GH w) (hs : s.size ≤ 1000000) (hv : Bs w v l) (hl : l.length ≤ 140737488352000) :
    Calls Tryd.prog 54 #[.string s, v] w fun e w' => ∃ u, e = .returned u ∧ OB w' 5 w.heap.size u (hmac s l) ∧ Kp [] w w' := by
  have hpl := padded_length s
  have hml := mac1_length 54 (padded s) l
  have HPL := Lib.hid hpl
  have e54 : Hid ((54 : Int) = ((54 : UInt8).toNat : Int)) := Lib.hid rfl
  have e92 : Hid ((92 : Int) = ((92 : UInt8).toNat : Int)) := Lib.hid rfl
  clear hpl
  have hmf : ∀ (fn : Fn) (first cap : Array Value) (w : World), (Instr.makeFunc fn first cap).run Tryd.prog w = .ok (.func fn first cap) w := fun _ _ _ _ => rfl
  go_enter Tryd.func54, Tryd.ntmps54
  go_wp2_with (first
    | (go_at_call 79; refine (pad_calls s _ hG hs).mono ?_; rintro e w1 ⟨v1, rfl, hb1, hge1, hk1⟩; obtain ⟨a1, c1, rfl, _⟩ := Sl.form hb1; have hk2 := hk1.alloc (.cells #[.slice a1 (padded s).length c1] 23); have hc2 : (w1.alloc (.cells #[.slice a1 (padded s).length c1] 23)).cell? ⟨w1.heap.size, 0, none⟩ = some (.slice a1 (padded s).length c1) := cell_heap (heap_alloc_new w1 (.cells #[.slice a1 (padded s).length c1] 23)) 0; have hb2 := hb1.kp0 ((Kp.refl [] w1).alloc (.cells #[.slice a1 (padded s).length c1] 23)); have hlt2 := alloc_lt w1 (.cells #[.slice a1 (padded s).length c1] 23)))
  refine (mac1_calls' 54 54 e54.out (padded s) l _ _ w1.heap.size _ (hG.kp0 hk2) hc2 hlt2 hb2 HPL.out (hv.kp0 hk2) hl).mono ?_
  rintro e w3 ⟨u3, rfl, ho3, hk3⟩
  have hk13 := hk2.trans hk3
  have hc3 := (hk3.cells0.1 w1.heap.size 0 hlt2).trans hc2
  have hb3 := hb2.kp0 hk3
  have hlt3 := Nat.lt_of_lt_of_le hlt2 hk3.size
  go_wp2_with fail
  refine (mac1_calls' 92 92 e92.out (padded s) _ _ _ w1.heap.size _ (hG.kp0 hk13) hc3 hlt3 hb3 HPL.out (OB.bs ho3) (by omega)).mono ?_
  rintro e w4 ⟨u4, rfl, ho4, hk4⟩
  go_wp2_with fail
  go_ret
  exact ⟨_, rfl, own_base ho4 (fun b hb => Nat.le_trans hk13.size (ho4.lt b hb).1), hk13.trans hk4⟩

theorem ob_some {w : World} {B e n : Nat} {v : Value} {xs : List Value} (h : Own w B e 1 v n xs) (hn : 0 < n) : ∃ g c, v = .slice (some ⟨g, 0, none⟩) n c ∧ n ≤ c ∧ B ≤ g ∧ g < w.heap.size := by
  obtain ⟨_, ⟨_, h0⟩ | ⟨g, cap, cur, fr, hv, hg, hh, _, hc, _⟩⟩ := h
  · omega
  · exact ⟨g, cap, hv, hc, hg, lt_of_heap hh⟩

/-- What is sealed. -/
def sealed (s : ByteArray) (l : List UInt8) : List UInt8 := l ++ (hmac s l).take 16

theorem seal_ok (s : ByteArray) (v : Value) (l : List UInt8) (w : World) (hG : GH w) (hs : s.size ≤ 200) (hv : Bs w v l) (hl : l.length ≤ 140737488352000) :
    Calls Tryd.prog 32 #[.string s, v] w (RetB w.heap.size (sealed s l) 0 w) := by
  obtain ⟨i0, hi, hz0, hz1, hz2⟩ := info_parts u8info
  have hd : decide (s.size ≤ 200) = true := by rw [decide_eq_true_eq]; omega
  have hml := hmac_length s l
  obtain ⟨va, vc, rfl, _⟩ := Sl.form hv
  go_enter Tryd.func32, Tryd.ntmps32
  go_wp2_with (first
    | (go_at_call 53; refine (smay_calls s _).mono ?_; rintro e w1 ⟨rfl, rfl⟩; rw [hd])
    | (refine wpList_app _ rfl _ _ 23 23 rfl w.heap.size 5 i0 _ 1 1 Tryd.underlying23 hi hz0 hz1 hz2 rfl (by omega) (.slice none 0 0) 0 [] rfl (Own.nil _ _ _ _) (.slice va l.length vc) _ _ rfl (Src.of_sl Tryd.underlying23 hv bcells_one) (by omega) (by omega) (Nat.le_refl _) ?_; intro v1 w1 ho1 hg1 hx1; rw [Nat.zero_add, List.nil_append] at ho1; have hk1 := (Kp.refl [] w).grown hg1 nofun; have hv1 := hv.kp0 hk1)
    | (go_at_call 54; refine (mac_calls s _ l _ (hG.kp0 hk1) (by omega) hv1 (by omega)).mono ?_; rintro e w2 ⟨v2, rfl, ho2, hk2⟩; obtain ⟨g2, c2, rfl, hc2, hg2, hl2⟩ := ob_some ho2 (by omega); have h16 : (16 : Int) ≤ (c2 : Int) := by omega)
    | (with_reducible refine stop_app ?_))
  unfold Stop
  have hk12 := hk1.trans hk2
  have hB16 : Bs w2 (.slice (some ⟨g2, 0, none⟩) 16 c2) ((hmac s l).take 16) := by
    have h := Sl.part (OB.bs ho2) 0 16 (by omega)
    unfold Bs
    rw [List.length_take, Nat.min_eq_left (by omega)]
    simpa [bcells, List.map_take, show c2 ≠ 0 by omega, Addr.add] using h
  have ho1' := own_kp ho1 hk2 (by simp)
  refine wpList_app _ rfl _ _ 23 23 rfl w.heap.size 5 i0 _ 1 1 Tryd.underlying23 hi hz0 hz1 hz2 rfl (by omega) v1 _ _ rfl ho1' (.slice (some ⟨g2, 0, none⟩) 16 c2) 16 (bcells ((hmac s l).take 16)) rfl (Src.of_sl Tryd.underlying23 (by have h := hB16; unfold Bs at h; rw [List.length_take, Nat.min_eq_left (by omega)] at h; exact h) bcells_one) (by omega) (by omega) hk12.size ?_
  intro v3 w3 ho3 hg3 hx3
  rw [← bcells_append] at ho3
  have hk3 : Kp [] w w3 := hk12.grown hg3 (fun k hk => .inr (ho1.lt k hk).1)
  go_wp2
  go_ret2
  refine ⟨v3, rfl, ?_, hk3⟩
  unfold OB sealed
  rw [List.length_append, List.length_take, Nat.min_eq_left (by omega)]
  exact ho3

theorem seal_long (s : ByteArray) (v : Value) (w : World) (hs : 200 < s.size) :
    Calls Tryd.prog 32 #[.string s, v] w fun e w' => e = .returned (.tuple #[.slice none 0 0, .int .i64 2]) ∧ w = w' := by
  have hd : decide (s.size ≤ 200) = false := by rw [decide_eq_false_iff_not]; omega
  go_enter Tryd.func32, Tryd.ntmps32
  go_wp2_with (first
    | (go_at_call 53; refine (smay_calls s _).mono ?_; rintro e w1 ⟨rfl, rfl⟩; rw [hd]))
  go_ret2
  exact ⟨rfl, rfl⟩
end Go.Proofs.YtddpefbpiehgeaaDoor
