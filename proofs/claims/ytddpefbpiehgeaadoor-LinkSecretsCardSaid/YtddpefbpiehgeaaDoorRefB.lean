/- The reference's digest: a block's words. -/
import Derived.Test.YtddpefbpiehgeaaDoorRefA
namespace Go.Proofs.YtddpefbpiehgeaaDoor
open Go Go.RowKit
set_option maxRecDepth 100000
set_option linter.unusedVariables false
set_option linter.unusedSectionVars false
set_option linter.unusedSimpArgs false

theorem u32info : (Tryd.prog.info? 133).map (fun i => (i.zero, i.size, i.bytes)) = some (some (.int .u32 0), 1, 4) := by kernel_rfl
def wcells (l : List UInt32) : List Value := l.map w32
theorem wcells_one {l : List UInt32} : ∀ u ∈ wcells l, u.oneCell' = true := by
  intro u hu
  simp only [wcells, List.mem_map] at hu
  obtain ⟨_, _, rfl⟩ := hu
  rfl
theorem wcells_get (l : List UInt32) (i : Nat) (h : i < l.length) : (wcells l)[i]? = some (.int .u32 ((l.getD i 0).toNat : Int)) := by
  simp [wcells, h, w32]
theorem wcells_append (l m : List UInt32) : wcells (l ++ m) = wcells l ++ wcells m := by simp [wcells]
theorem sl_alloc1 (w : World) (T : TypeId) (cs : Array Value) (n : Nat) (hn : n = cs.size) :
    Sl (w.alloc (.cells cs T)) 1 (.slice (some ⟨w.heap.size, 0, none⟩) n n) n cs.toList := by
  subst hn
  refine ⟨by simp, .inr (.inr ⟨w.heap.size, 0, cs.size, rfl, Nat.le_refl _, by simp only [World.alloc, Array.size_push]; omega, fun j u hu => ?_⟩)⟩
  rw [Nat.zero_add, cell_heap (heap_alloc_new w _)]
  simpa using hu

theorem word_nat (x : UInt32) (c : UInt8) (h : x.toNat < 16777216) : (x <<< 8 ||| UInt32.ofNat c.toNat).toNat = x.toNat * 256 + c.toNat := by
  have hc := c.toNat_lt
  rw [UInt32.toNat_or, UInt32.toNat_shiftLeft, UInt32.toNat_ofNat']
  have h2 := Nat.shiftLeft_add_eq_or_of_lt (i := 8) (b := c.toNat) (by omega) x.toNat
  rw [Nat.shiftLeft_eq] at h2
  have h3 : (8 : UInt32).toNat % 32 = 8 := rfl
  rw [h3, Nat.shiftLeft_eq, Nat.mod_eq_of_lt (by omega : x.toNat * 2 ^ 8 < 2 ^ 32), Nat.mod_eq_of_lt (by omega : c.toNat < 2 ^ 32), ← h2]
theorem word4 (a b c d : UInt8) : (word [a, b, c, d]).toNat = a.toNat * 16777216 + b.toNat * 65536 + c.toNat * 256 + d.toNat := by
  have ha := a.toNat_lt
  have hb := b.toNat_lt
  have hc := c.toNat_lt
  have hd := d.toNat_lt
  have h1 : ((0 : UInt32) <<< 8 ||| UInt32.ofNat a.toNat).toNat = a.toNat := by rw [word_nat 0 a (by decide)]; simp
  have h2 := word_nat ((0 : UInt32) <<< 8 ||| UInt32.ofNat a.toNat) b (by omega)
  have h3 := word_nat _ c (show (((0 : UInt32) <<< 8 ||| UInt32.ofNat a.toNat) <<< 8 ||| UInt32.ofNat b.toNat : UInt32).toNat < 16777216 by omega)
  have h4 := word_nat _ d (show ((((0 : UInt32) <<< 8 ||| UInt32.ofNat a.toNat) <<< 8 ||| UInt32.ofNat b.toNat) <<< 8 ||| UInt32.ofNat c.toNat : UInt32).toNat < 16777216 by omega)
  simp only [word, List.foldl]
  omega

theorem word_v (x0 x1 x2 x3 : UInt8) : IntKind.u32.wrap (IntKind.u32.wrap (IntKind.u32.wrap (IntKind.u32.wrap (IntKind.u32.wrap (x0.toNat : Int) * 16777216) + IntKind.u32.wrap (IntKind.u32.wrap (x1.toNat : Int) * 65536)) + IntKind.u32.wrap (IntKind.u32.wrap (x2.toNat : Int) * 256)) + IntKind.u32.wrap (x3.toNat : Int)) = ((word [x0, x1, x2, x3]).toNat : Int) := by
  rw [word4]
  have u0 : (x0.toNat : Int) < 256 := by have := x0.toNat_lt; omega
  have u1 : (x1.toNat : Int) < 256 := by have := x1.toNat_lt; omega
  have u2 : (x2.toNat : Int) < 256 := by have := x2.toNat_lt; omega
  have u3 : (x3.toNat : Int) < 256 := by have := x3.toNat_lt; omega
  simp only [IntKind.wrap_u32]
  omega

set_option maxHeartbeats 1000000 in
theorem rspread_calls (v : Value) (b : List UInt8) (w : World) (hb : Bs w v b) (hl : b.length = 64) :
    Calls Tryd.prog 103 #[v] w fun e w' => ∃ a c, e = .returned (.slice a 64 c) ∧ Own w' w.heap.size 133 1 (.slice a 64 c) 64 (wcells (spr b 64)) ∧ Kp [] w w' := by
  obtain ⟨i0, hi, hz0, hz1, hz2⟩ := info_parts u32info
  have hb0 := hb
  obtain ⟨a, cap, rfl, hcap, hnone, hsome, hcells⟩ := Sl.form hb
  obtain ⟨g, off, rfl, hg⟩ := hsome (by omega)
  have hcells := (hcells g off rfl).2
  have HL : Hid (b.length = 64) := Lib.hid hl
  rw [hl] at hcap ⊢
  clear hl hb hnone hsome hb0
  go_enter Tryd.func103, Tryd.ntmps103
  go_wp2
  go_loopw [3, 4] (fun v3 v4 wr => ∃ (n : Nat) (av : Option Addr) (c : Nat), n ≤ 16 ∧ v4 = .int .i64 n ∧ v3 = .slice av n c ∧ Own wr w.heap.size 133 1 (.slice av n c) n (wcells (spr b n)) ∧ Kp [] w wr) (fun _ v _ => 16 - (intOf v).toNat)
  case atStart => exact ⟨0, none, 0, by omega, rfl, rfl, Own.nil _ _ _ _, Kp.refl [] w⟩
  case round =>
    obtain ⟨n, av, c, hn, rfl, rfl, ho, hkr⟩ := hrel
    have hsz := hkr.size
    by_cases hlt : n < 16
    · have hbyte : ∀ j, j < 4 → wr.cell? ⟨g, off + (4 * n + j), none⟩ = some (.int .u8 ((((b.drop (4 * n)).take 4).getD j 0).toNat : Int)) := fun j hj => by
        have hlen := HL.out
        rw [hkr.cells0.1 _ _ hg]
        have := hcells (4 * n + j) _ (bcells_get b (4 * n + j) (by omega))
        rw [this]
        have hlt2 : 4 * n + j < b.length := by omega
        simp [List.getElem?_take, List.getElem?_drop, hj, hlt2]
      have hnext : spr b (n + 1) = spr b n ++ [word ((b.drop (4 * n)).take 4)] := by rw [spr, if_pos hlt]
      have hq4 : (b.drop (4 * n)).take 4 = [((b.drop (4 * n)).take 4).getD 0 0, ((b.drop (4 * n)).take 4).getD 1 0, ((b.drop (4 * n)).take 4).getD 2 0, ((b.drop (4 * n)).take 4).getD 3 0] := by
        have hlb : ((b.drop (4 * n)).take 4).length = 4 := by have := HL.out; simp; omega
        generalize (b.drop (4 * n)).take 4 = q at *
        match q, hlb with
        | [_, _, _, _], _ => rfl
      have c0 := hbyte 0 (by omega)
      have c1 := hbyte 1 (by omega)
      have c2 := hbyte 2 (by omega)
      have c3 := hbyte 3 (by omega)
      generalize ((b.drop (4 * n)).take 4).getD 0 0 = x0 at *
      generalize ((b.drop (4 * n)).take 4).getD 1 0 = x1 at *
      generalize ((b.drop (4 * n)).take 4).getD 2 0 = x2 at *
      generalize ((b.drop (4 * n)).take 4).getD 3 0 = x3 at *
      rw [hq4] at hnext
      clear hq4 hbyte
      have HN := Lib.hid hnext
      clear hnext
      have u0 : (x0.toNat : Int) < 256 := by have := x0.toNat_lt; omega
      have u1 : (x1.toNat : Int) < 256 := by have := x1.toNat_lt; omega
      have u2 : (x2.toNat : Int) < 256 := by have := x2.toNat_lt; omega
      have u3 : (x3.toNat : Int) < 256 := by have := x3.toNat_lt; omega
      have hni : (n : Int) < 16 := by omega
      rw [Nat.add_zero] at c0
      have e0 : IntKind.i64.wrap (4 * (n : Int)) = 4 * n := IntWalk.i64_in _ (by omega)
      have e1 : IntKind.i64.wrap (4 * (n : Int) + 1) = 4 * n + 1 := IntWalk.i64_in _ (by omega)
      have e2 : IntKind.i64.wrap (4 * (n : Int) + 2) = 4 * n + 2 := IntWalk.i64_in _ (by omega)
      have e3 : IntKind.i64.wrap (4 * (n : Int) + 3) = 4 * n + 3 := IntWalk.i64_in _ (by omega)
      have t0 : (4 * (n : Int)).toNat = 4 * n := by omega
      have t1 : (4 * (n : Int) + 1).toNat = 4 * n + 1 := by omega
      have t2 : (4 * (n : Int) + 2).toNat = 4 * n + 2 := by omega
      have t3 : (4 * (n : Int) + 3).toNat = 4 * n + 3 := by omega
      have b0 : (0 : Int) ≤ 4 * (n : Int) ∧ 4 * (n : Int) < 64 := by omega
      have b1 : (0 : Int) ≤ 4 * (n : Int) + 1 ∧ 4 * (n : Int) + 1 < 64 := by omega
      have b2 : (0 : Int) ≤ 4 * (n : Int) + 2 ∧ 4 * (n : Int) + 2 < 64 := by omega
      have b3 : (0 : Int) ≤ 4 * (n : Int) + 3 ∧ 4 * (n : Int) + 3 < 64 := by omega
      go_wp2
      have hS : Gr wr [g] wr.drew := Gr.of (fun _ _ => rfl)
      refine wp_plan (.H 0 (.H 1 (.H 2 (.H 3 (.H 4 (.H 5 (.H 6 (.H 7 (.H 8 (.H 9 (.H 10 (.H 11 (.H 12 (.H 13 (.H 14 (.H 15 (.H 16 (.H 17 (.H 18 (.H 19 (.H 20 (.H 21 (.H 22 (.H 23 (.H 24 (.H 25 (.H 26 (.H 27 (.H 28 (.H 29 (.H 30 (.H 31 (.E 32 false (.E 33 false .Z)))))))))))))))))))))))))))))))))) (Gr wr [g]) (by kernel_rfl) (by kernel_rfl) ?_
      repeat (first | (refine plan_H rfl hS (fun K hK => ?_); go_simp; refine hK _ ?_; clear hK K) | (refine plan_E rfl (fun K hK => ?_); go_simp; (first | refine hK _ _ (fun _ => hS) ?_ | refine hK _ _ nofun ?_); clear hK K))
      refine plan_Z ?_
      rw [word_v]
      clear hS u0 u1 u2 u3 e0 e1 e2 e3 t0 t1 t2 t3 b0 b1 b2 b3 c0 c1 c2 c3
      generalize word [x0, x1, x2, x3] = W at *
      go_wp2_with (with_reducible refine stop_app ?_)
      unfold Stop
      have hno := own_kp ho (((Kp.refl [] wr).drew).alloc (.cells #[.int .u32 (W.toNat : Int)] 133)) (by simp)
      refine wpList_app _ rfl _ _ 143 143 rfl w.heap.size 133 i0 _ 1 4 Tryd.underlying143 hi hz0 hz1 hz2 rfl (by omega) (.slice av n c) _ _ rfl hno (.slice (some ⟨wr.drew.heap.size, 0, none⟩) 1 1) 1 (wcells ([W])) rfl (Src.of_sl Tryd.underlying143 (sl_alloc1 wr.drew _ #[.int .u32 (W.toNat : Int)] 1 rfl) wcells_one) (by omega) (by omega) (by simp; omega) ?_
      intro v3 w3 ho3 hg3 hx3
      have hk3 := (hkr.drew.alloc (.cells #[.int .u32 (W.toNat : Int)] 133)).grown hg3 (fun k hk => .inr (ho.lt k hk).1)
      obtain ⟨a3, c3, rfl⟩ := own_form ho3
      rw [← wcells_append, ← HN.out] at ho3
      go_wp2
      go_roundw
      case measure => simp [intOf]; omega
      case rel => exact ⟨n + 1, a3, c3, by omega, by go_num, by simp, ho3, hk3⟩
    · have h16 : n = 16 := by omega
      subst h16
      go_wp2
      obtain ⟨wo, rfl⟩ : ∃ wo : World, wo = wr := ⟨_, rfl⟩
      go_loopw [3, 6] (fun v3 v4 wr => ∃ (n : Nat) (av : Option Addr) (c : Nat), 16 ≤ n ∧ n ≤ 64 ∧ v4 = .int .i64 n ∧ v3 = .slice av n c ∧ Own wr w.heap.size 133 1 (.slice av n c) n (wcells (spr b n)) ∧ Kp [] w wr) (fun _ v _ => 64 - (intOf v).toNat)
      case atStart => exact ⟨16, av, c, by omega, by omega, rfl, rfl, ho, hkr⟩
      case round =>
        obtain ⟨n, av, c, hn16, hn64, rfl, rfl, ho, hkr⟩ := hrel
        have hsz := hkr.size
        by_cases hlt : n < 64
        · obtain ⟨bw, cw, hav, hcw, hbw, hbl⟩ := ob_some ho (by omega)
          cases hav
          have hcell : ∀ i, i < n → wr.cell? ⟨bw, i, none⟩ = some (.int .u32 (((spr b n).getD i 0).toNat : Int)) := fun i hi => by
            rw [ho.cellAt i (by omega), wcells_get _ _ (by simpa using hi)]
          have c15 := hcell (n - 15) (by omega)
          have c2 := hcell (n - 2) (by omega)
          have c16 := hcell (n - 16) (by omega)
          have c7 := hcell (n - 7) (by omega)
          clear hcell
          have hnext : spr b (n + 1) = spr b n ++ [(spr b n).getD (n - 16) 0 + sig0 ((spr b n).getD (n - 15) 0) + (spr b n).getD (n - 7) 0 + sig1 ((spr b n).getD (n - 2) 0)] := by rw [spr, if_neg (by omega)]
          generalize (spr b n).getD (n - 16) 0 = x16 at *
          generalize (spr b n).getD (n - 15) 0 = x15 at *
          generalize (spr b n).getD (n - 7) 0 = x7 at *
          generalize (spr b n).getD (n - 2) 0 = x2 at *
          have HN := Lib.hid hnext
          clear hnext
          have e15 : IntKind.i64.wrap ((n : Int) - 15) = n - 15 := IntWalk.i64_in _ (by omega)
          have e2 : IntKind.i64.wrap ((n : Int) - 2) = n - 2 := IntWalk.i64_in _ (by omega)
          have e16 : IntKind.i64.wrap ((n : Int) - 16) = n - 16 := IntWalk.i64_in _ (by omega)
          have e7 : IntKind.i64.wrap ((n : Int) - 7) = n - 7 := IntWalk.i64_in _ (by omega)
          have b15 : (0 : Int) ≤ (n : Int) - 15 ∧ (n : Int) - 15 < n := by omega
          have b2 : (0 : Int) ≤ (n : Int) - 2 ∧ (n : Int) - 2 < n := by omega
          have b16 : (0 : Int) ≤ (n : Int) - 16 ∧ (n : Int) - 16 < n := by omega
          have b7 : (0 : Int) ≤ (n : Int) - 7 ∧ (n : Int) - 7 < n := by omega
          have a15 : (15 : Int) ≤ (n : Int) := by omega
          have a2 : (2 : Int) ≤ (n : Int) := by omega
          have a16 : (16 : Int) ≤ (n : Int) := by omega
          have a7 : (7 : Int) ≤ (n : Int) := by omega
          have t15 : ((n : Int) - 15).toNat = n - 15 := by omega
          have t2 : ((n : Int) - 2).toNat = n - 2 := by omega
          have t16 : ((n : Int) - 16).toNat = n - 16 := by omega
          have t7 : ((n : Int) - 7).toNat = n - 7 := by omega
          go_wp2_with (first
            | (go_at_call 104; first | ((with_reducible refine (rrot x15 7 7 _ rfl (by omega) (by omega)).mono ?_); rintro e w' ⟨rfl, rfl⟩) | ((with_reducible refine (rrot x15 18 18 _ rfl (by omega) (by omega)).mono ?_); rintro e w' ⟨rfl, rfl⟩) | ((with_reducible refine (rrot x2 17 17 _ rfl (by omega) (by omega)).mono ?_); rintro e w' ⟨rfl, rfl⟩) | ((with_reducible refine (rrot x2 19 19 _ rfl (by omega) (by omega)).mono ?_); rintro e w' ⟨rfl, rfl⟩))
            | (go_at_call 105; first | ((with_reducible refine (rsh x15 3 3 8 _ rfl rfl (by omega)).mono ?_); rintro e w' ⟨rfl, rfl⟩) | ((with_reducible refine (rsh x2 10 10 1024 _ rfl rfl (by omega)).mono ?_); rintro e w' ⟨rfl, rfl⟩)))
          rw [sig0_v, sig1_v]
          have hS : Gr wr [bw] wr.drew := Gr.of (fun _ _ => rfl)
          refine wp_plan (.H 0 (.H 1 (.H 2 (.H 3 (.H 4 (.H 5 (.H 6 (.H 7 (.H 8 (.H 9 (.H 10 (.H 11 (.H 12 (.H 13 (.E 14 true (.E 15 true (.E 16 true (.E 17 false (.E 18 false .Z))))))))))))))))))) (Gr wr [bw]) (by kernel_rfl) (by kernel_rfl) ?_
          repeat (refine plan_H rfl hS (fun K hK => ?_); go_simp; refine hK _ ?_; clear hK K)
          refine plan_E rfl (fun K hK => ?_); go_simp
          refine hK _ _ (fun _ => hS) ?_
          clear hK K
          refine plan_E rfl (fun K hK => ?_); go_simp
          refine hK _ _ (fun _ => hS) ?_
          clear hK K
          rw [u32_add_v, u32_add_v, u32_add_v]
          have hA : x16 + x7 + sig0 x15 + sig1 x2 = x16 + sig0 x15 + x7 + sig1 x2 := by rw [UInt32.add_assoc x16 x7, UInt32.add_comm x7, ← UInt32.add_assoc]
          rw [hA]
          generalize x16 + sig0 x15 + x7 + sig1 x2 = W at *
          refine plan_E rfl (fun K hK => ?_); go_simp
          refine hK _ _ (fun _ => Gr.of (fun b hb => Below.heap_alloc _ _ _ (by simp at hb ⊢; omega))) ?_
          clear hK K
          have hkD : Kp [] wr (wr.alloc (.cells #[.int .u32 (W.toNat : Int)] 133)).drew := ((Kp.refl [] wr).alloc _).drew
          refine plan_E rfl (fun K hK => ?_)
          refine step_app _ rfl _ _ 143 143 rfl w.heap.size 133 i0 _ 1 4 Tryd.underlying143 hi hz0 hz1 hz2 rfl (by omega) (.slice (some ⟨bw, 0, none⟩) n c) n (wcells (spr b n)) rfl (own_kp ho hkD (by simp)) (.slice (some ⟨wr.heap.size, 0, none⟩) 1 1) 1 (wcells [W]) rfl (Src.of_sl Tryd.underlying143 ((sl_alloc1 wr 133 #[.int .u32 (W.toNat : Int)] 1 rfl).kp0 ((Kp.refl [] _).drew)) wcells_one) (by omega) (by omega) (by have := hkD.size; omega) ?_
          intro v3 w3 ho3 hg3 hx3
          have hk3 := (hkr.trans hkD).grown hg3 (fun k hk => .inr (ho.lt k hk).1)
          obtain ⟨a3, c3, rfl⟩ := own_form ho3
          rw [← wcells_append, ← HN.out] at ho3
          refine hK _ _ nofun ?_
          clear hK K
          refine plan_E rfl (fun K hK => ?_); go_simp
          refine hK _ _ nofun ?_
          clear hK K
          refine plan_Z ?_
          clear hS e15 e2 e16 e7 b15 b2 b16 b7 a15 a2 a16 a7 t15 t2 t16 t7 c15 c2 c16 c7
          go_wp2
          refine ⟨?_, ?measure⟩
          (repeat apply Exists.intro)
          refine ⟨?rel, rfl⟩
          case measure => simp [intOf]; omega
          case rel => exact ⟨n + 1, a3, c3, by omega, by omega, by go_num, by simp, ho3, hk3⟩
        · obtain rfl : n = 64 := by omega
          go_wp2
          go_ret
          exact ⟨_, _, rfl, ho, hkr⟩
end Go.Proofs.YtddpefbpiehgeaaDoor
