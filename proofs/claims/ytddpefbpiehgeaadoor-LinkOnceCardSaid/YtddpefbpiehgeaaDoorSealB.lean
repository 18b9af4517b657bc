/- The seal: the code of bytes under a key. -/
import Derived.Test.YtddpefbpiehgeaaDoorSealA
namespace Go.Proofs.YtddpefbpiehgeaaDoor
open Go Go.RowKit
set_option maxRecDepth 100000
set_option linter.unusedVariables false
set_option linter.unusedSectionVars false
set_option linter.unusedSimpArgs false

theorem IsH.kp0 {w w' : World} {p : Nat} {l : List UInt8} (h : IsH w p l) (hk : Kp [] w w') : IsH w' p l := by
  obtain ⟨h4, a, cap, hh, hb, hne⟩ := h
  exact ⟨h4, a, cap, hk.heap hh (by simp), hb.kp0 hk, hne⟩

theorem IsH.lt {w : World} {p : Nat} {l : List UInt8} (h : IsH w p l) : p < w.heap.size := by
  obtain ⟨_, a, cap, hh, _⟩ := h
  exact lt_of_heap hh

theorem u8_xor_v (x y : UInt8) : bits .xor .u8 (x.toNat : Int) (y.toNat : Int) = ((x ^^^ y).toNat : Int) := by
  rw [u8_xor_nat _ _ x.toNat_lt y.toNat_lt, UInt8.toNat_xor]

/-- The code: a hash of the key's bytes, each with b, and what follows. -/
def mac1 (b : UInt8) (k l : List UInt8) : List UInt8 := sha (k.map (· ^^^ b) ++ l)

set_option maxHeartbeats 1000000 in
theorem mac1_calls (b : UInt8) (k l : List UInt8) (kv v : Value) (c : Nat) (w : World) (hG : GH w) (hc : w.cell? ⟨c, 0, none⟩ = some kv) (hcl : c < w.heap.size) (hkv : Bs w kv k) (hkl : k.length = 64) (hv : Bs w v l) (hl : l.length ≤ 140737488352000) :
    Calls Tryd.prog 80 #[.int .u8 (b.toNat : Int), v, .pointer (some ⟨c, 0, none⟩)] w fun e w' => ∃ u, e = .returned u ∧ OB w' 5 w.heap.size u (mac1 b k l) ∧ Kp [] w w' := by
  obtain ⟨ka, kc, rfl, hkc, _, hks, _⟩ := Sl.form hkv
  obtain ⟨kb, ko, rfl, hkb⟩ := hks (by omega)
  have hvl := hv.lt
  have hkk : (64 : Int) = (k.length : Int) := by omega
  have HKL := Lib.hid hkl
  clear hkl hkk
  go_enter Tryd.func80, Tryd.ntmps80
  go_wp2_with (first
    | (go_at_call 81; refine (hnew_calls _ hG).mono ?_; rintro e w1 ⟨p, rfl, hp, hH, hk1⟩; have hc1 := (hk1.cells0.1 c 0 hcl).trans hc))
  have hb1 : Bs w1 (.slice (some ⟨kb, ko, none⟩) k.length kc) k := hkv.kp0 hk1
  obtain ⟨wo, rfl⟩ : ∃ wo : World, wo = w1 := ⟨w1, rfl⟩
  go_loopw [12] (fun v12 wr => ∃ n : Nat, n ≤ k.length ∧ v12 = .int .i64 n ∧ IsH wr p ((k.take n).map (· ^^^ b)) ∧ Kp [] w wr ∧ wr.cell? ⟨c, 0, none⟩ = some (.slice (some ⟨kb, ko, none⟩) k.length kc)) (fun v12 _ => k.length - (intOf v12).toNat)
  case atStart => exact ⟨0, by omega, rfl, hH, hk1, hc1⟩
  case round =>
    obtain ⟨n, hn, rfl, hHr, hkr, hcr⟩ := hrel
    by_cases hlt : n < k.length
    · have hcell : wr.cell? ⟨kb, ko + n, none⟩ = some (.int .u8 (k[n].toNat : Int)) := by
        obtain ⟨_, _, he, _, _, _, h7⟩ := Sl.form (hkv.kp0 hkr)
        cases he
        exact (h7 kb ko rfl).2 n _ (bcells_get k n hlt)
      have hn63 : (n : Int) ≤ 63 := by have := HKL.out; omega
      have hkt : (k.take (n + 1)).map (· ^^^ b) = (k.take n).map (· ^^^ b) ++ [k[n] ^^^ b] := by
        rw [List.take_add_one, List.map_append, List.getElem?_eq_getElem hlt]; rfl
      have hi0 : (0 : Int) ≤ n ∧ (n : Int) < k.length := by omega
      generalize k[n] = x at *
      have hlen : ((k.take n).map (· ^^^ b)).length ≤ 64 := by have := HKL.out; simp; omega
      generalize (k.take n).map (· ^^^ b) = q at *
      have HKT := Lib.hid hkt
      clear hkt
      go_wp2_with (first
        | (go_at_call 82; rw [u8_xor_v]; refine (hwrite_calls p q [x ^^^ b] _ _ (hG.kp0 (hkr.alloc _)) (hHr.kp0 ((Kp.refl [] wr).alloc _)) (bs_alloc wr _ [x ^^^ b] _ rfl 1 rfl) (fun e => by have := hHr.lt; have := own1_some e; simp only at this; omega) (by simp; omega)).mono ?_; rintro e w2 ⟨rfl, hH2, hk2⟩))
      have hplt := hHr.lt
      go_roundw
      case measure => simp [intOf]; omega
      case rel =>
        refine ⟨n + 1, by omega, by go_num, ?_, ?_, ?_⟩
        · rw [HKT.out]; exact hH2
        · exact ((hkr.alloc _).trans' hk2 (by simpa using hp))
        · rw [hk2.cells.1 c 0 (by have := hkr.size; simp; omega) (by simp; omega)]
          rw [((Kp.refl [] wr).alloc _).cells0.1 c 0 (by have := hkr.size; omega)]
          exact hcr
    · have hnk : n = k.length := by omega
      have hd : decide ((n : Int) < (k.length : Int)) = false := by rw [decide_eq_false_iff_not]; omega
      have hq : (k.take n).map (· ^^^ b) = k.map (· ^^^ b) := by rw [hnk, List.take_length]
      rw [hq] at hHr
      have hql : (k.map (· ^^^ b)).length ≤ 64 := by have := HKL.out; simp; omega
      clear hnk
      go_wp2_with (first
        | (go_at_call 82; refine (hwrite_calls p (k.map (· ^^^ b)) l _ _ (hG.kp0 hkr) hHr (hv.kp0 hkr) (fun e => by have := hvl _ e; omega) (by omega)).mono ?_; rintro e w2 ⟨rfl, hH2, hk2⟩; have hk12 : Kp [] w w2 := hkr.trans' hk2 (by simpa using hp))
        | (go_at_call 83; refine (hsum_calls p _ _ (hG.kp0 hk12) hH2 (by simp at hql ⊢; omega)).mono ?_; rintro e w3 ⟨u, rfl, ho3, hk3⟩))
      go_ret
      exact ⟨_, rfl, own_base ho3 (fun b hb => Nat.le_trans hk12.size (ho3.lt b hb).1), hk12.trans hk3⟩
end Go.Proofs.YtddpefbpiehgeaaDoor
