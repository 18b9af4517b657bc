/- The digest: the program's words. -/
import Derived.Test.YtddpefbpiehgeaaDoorProg
import Derived.Test.YtddpefbpiehgeaaDoorHashP
import Derived.Test.YtddpefbpiehgeaaDoorRegion
namespace Go.Proofs.YtddpefbpiehgeaaDoor
open Go Go.RowKit
set_option maxRecDepth 100000
set_option linter.unusedVariables false
set_option linter.unusedSectionVars false
set_option linter.unusedSimpArgs false

theorem rot_calls (x : UInt32) (s : Nat) (w : World) (h1 : 1 ≤ s) (h31 : s ≤ 31) :
    Calls Tryd.prog 102 #[w32 x, .int .i64 (-(s : Int))] w fun e w' => e = .returned (w32 (rotr x s)) ∧ w = w' := by
  have hlt := u32_lt x
  have hand : bits BinOp.and IntKind.u64 (IntKind.u64.wrap (-(s : Int))) 31 = 32 - s := rot_and s h1 h31
  unfold w32
  go_enter Tryd.func102, Tryd.ntmps102
  go_wp2
  go_ret
  refine ⟨?_, rfl⟩
  simp
  rw [show 32 - (32 - s) = s by omega]
  exact rot_v x s h1 h31

theorem rotk (x : UInt32) (s : Nat) (k : Int) (w : World) (hk : k = -(s : Int)) (h1 : 1 ≤ s) (h31 : s ≤ 31) :
    Calls Tryd.prog 102 #[.int .u32 (x.toNat : Int), .int .i64 k] w fun e w' => e = .returned (.int .u32 ((rotr x s).toNat : Int)) ∧ w = w' := by
  subst hk
  exact rot_calls x s w h1 h31

/-- What the program's tables hold. -/
def initW : List UInt32 := [0x6A09E667, 0xBB67AE85, 0x3C6EF372, 0xA54FF53A, 0x510E527F, 0x9B05688C, 0x1F83D9AB, 0x5BE0CD19]
def kW : List UInt32 := [0x428A2F98, 0x71374491, 0xB5C0FBCF, 0xE9B5DBA5, 0x3956C25B, 0x59F111F1, 0x923F82A4, 0xAB1C5ED5, 0xD807AA98, 0x12835B01, 0x243185BE, 0x550C7DC3, 0x72BE5D74, 0x80DEB1FE, 0x9BDC06A7, 0xC19BF174, 0xE49B69C1, 0xEFBE4786, 0x0FC19DC6, 0x240CA1CC, 0x2DE92C6F, 0x4A7484AA, 0x5CB0A9DC, 0x76F988DA, 0x983E5152, 0xA831C66D, 0xB00327C8, 0xBF597FC7, 0xC6E00BF3, 0xD5A79147, 0x06CA6351, 0x14292967, 0x27B70A85, 0x2E1B2138, 0x4D2C6DFC, 0x53380D13, 0x650A7354, 0x766A0ABB, 0x81C2C92E, 0x92722C85, 0xA2BFE8A1, 0xA81A664B, 0xC24B8B70, 0xC76C51A3, 0xD192E819, 0xD6990624, 0xF40E3585, 0x106AA070, 0x19A4C116, 0x1E376C08, 0x2748774C, 0x34B0BCB5, 0x391C0CB3, 0x4ED8AA4A, 0x5B9CCA4F, 0x682E6FF3, 0x748F82EE, 0x78A5636F, 0x84C87814, 0x8CC70208, 0x90BEFFFA, 0xA4506CEB, 0xBEF9A3F7, 0xC67178F2]
structure GH (w : World) : Prop where
  size : 4 ≤ w.heap.size
  start : ∀ i, i < 8 → w.cell? ⟨0, i, none⟩ = some (w32 (initW.getD i 0))
  rounds : ∀ i, i < 64 → w.cell? ⟨2, i, none⟩ = some (w32 (kW.getD i 0))
theorem GH.kp {S : List Nat} {w w' : World} (h : GH w) (hk : Kp S w w') (hS : ∀ s ∈ S, 4 ≤ s) : GH w' :=
  ⟨Nat.le_trans h.size hk.size, fun i hi => (hk.cells.1 _ _ (by have := h.size; omega) (fun hm => by have := hS _ hm; omega)).trans (h.start i hi),
    fun i hi => (hk.cells.1 _ _ (by have := h.size; omega) (fun hm => by have := hS _ hm; omega)).trans (h.rounds i hi)⟩
theorem GH.kp0 {w w' : World} (h : GH w) (hk : Kp [] w w') : GH w' := h.kp hk (by simp)

theorem arr64 : (Tryd.prog.info? 140).map (fun i => i.zero.map Value.cells) = some (some (Array.replicate 64 (.int .u32 0))) := by kernel_rfl

set_option maxHeartbeats 1000000 in
theorem spread_t (v : Value) (b : List UInt8) (w : World) (hb : Bs w v b) (hl : b.length = 64) :
    Calls Tryd.prog 101 #[v] w fun e w' => e = .returned (.agg (arr (spr b 64))) ∧ Kp [] w w' := by
  obtain ⟨a, cap, rfl, hcap, hnone, hsome, hcells⟩ := Sl.form hb
  obtain ⟨g, off, rfl, hg⟩ := hsome (by omega)
  have hcells := (hcells g off rfl).2
  obtain ⟨i0, hi, hi2⟩ : ∃ i, Tryd.prog.info? 140 = some i ∧ i.zero.map Value.cells = some (Array.replicate 64 (.int .u32 0)) := by
    have := arr64
    cases hq : Tryd.prog.info? 140 with
    | none => rw [hq] at this; cases this
    | some i => rw [hq] at this; exact ⟨i, rfl, by simpa using this⟩
  obtain ⟨z, hz, hzc⟩ : ∃ z, i0.zero = some z ∧ z.cells = Array.replicate 64 (.int .u32 0) := by
    cases hq : i0.zero with
    | none => rw [hq] at hi2; cases hi2
    | some z => rw [hq] at hi2; exact ⟨z, rfl, by simpa using hi2⟩
  have hrep : (Array.replicate 64 (.int .u32 0) : Array Value) = arr (zpad []) := by simp [arr, w32, zpad, ← List.toArray_replicate]
  rw [hrep] at hzc
  have HL : Hid (b.length = 64) := Lib.hid hl
  have hl64 : 64 ≤ b.length := by omega
  have hcap64 : 64 ≤ cap := by omega
  clear hl hrep
  obtain ⟨N, hN⟩ : ∃ N, b.length = N := ⟨_, rfl⟩
  rw [hN] at hb hcap hnone hsome hl64 ⊢
  clear hN
  go_enter Tryd.func101, Tryd.ntmps101
  go_wp2_with (refine wpList_var rfl 140 rfl i0 z _ hi hz hzc ?_)
  intro w1 hr1 hk1 hz1
  go_wp2_with (refine wpList_var rfl 140 rfl i0 z _ hi hz hzc ?_)
  intro w2 hA hk2 hz2
  have hz3 : w2.heap.size = w.heap.size + 1 + 1 := by omega
  have hR := hk2.heap hr1 (by simp)
  have hk := hk1.trans hk2
  clear hk1 hk2 hr1 hz2
  go_wp2
  go_loopw [12] (fun v12 wr => ∃ n : Nat, n ≤ 16 ∧ v12 = .int .i64 n ∧ wr.heap[w.heap.size + 1]? = some (.cells (arr (zpad (spr b n))) 140 (0, 0)) ∧ wr.heap[w.heap.size]? = some (.cells (arr (zpad [])) 140 (0, 0)) ∧ Kp [] w wr) (fun v12 _ => 16 - (intOf v12).toNat)
  case atStart => exact ⟨0, by omega, rfl, hA, hR, hk⟩
  case round =>
    obtain ⟨n, hn, rfl, hAr, hRr, hkr⟩ := hrel
    have hsr := lt_of_heap hAr
    by_cases hlt : n < 16
    · have b1 : (0 : Int) ≤ 4 * (n : Int) := by omega
      have b2 : 4 * (n : Int) + 4 ≤ (cap : Int) := by omega
      have b3 : ¬ cap = 4 * n := by omega
      have b4 : 4 * n + 4 - 4 * n = 4 := by omega
      have hlb : ((b.drop (4 * n)).take 4).length = 4 := by have := HL.out; simp; omega
      have hbyte : ∀ j, j < 4 → (b.drop (4 * n)).take 4 = (b.drop (4 * n)).take 4 ∧ w.cell? ⟨g, off + 4 * n + j, none⟩ = some (.int .u8 ((((b.drop (4 * n)).take 4).getD j 0).toNat : Int)) := fun j hj => by
        refine ⟨rfl, ?_⟩
        have hlen := HL.out
        rw [Nat.add_assoc]
        have := hcells (4 * n + j) _ (bcells_get b (4 * n + j) (by omega))
        rw [this]
        have hlt2 : 4 * n + j < b.length := by omega
        simp [List.getElem?_take, List.getElem?_drop, hj, hlt2]
      generalize hq : (b.drop (4 * n)).take 4 = q at *
      have HQ := Lib.hid hq
      have HLB := Lib.hid hlb
      have hB := Lib.hid hbyte
      clear hq hlb hbyte
      go_wp2
      have hz : (zpad (spr b n)).set n 0 = zpad (spr b n) := by have := zpad_zero (spr b n) (by simp; omega); rwa [spr_length] at this
      obtain ⟨wo, rfl⟩ : ∃ wo : World, wo = wr := ⟨_, rfl⟩
      go_loopw [23] (fun v23 ws => ∃ j : Nat, j ≤ 4 ∧ v23 = .int .i64 j ∧ ws.heap[w.heap.size + 1]? = some (.cells (arr ((zpad (spr b n)).set n (word (q.take j)))) 140 (0, 0)) ∧ ws.heap[w.heap.size]? = some (.cells (arr (zpad [])) 140 (0, 0)) ∧ Kp [] w ws) (fun v23 _ => 4 - (intOf v23).toNat)
      case atStart => exact ⟨0, by omega, rfl, by rw [List.take_zero, show word [] = 0 from rfl, hz]; exact hAr, hRr, hkr⟩
      case round =>
        obtain ⟨j, hj, rfl, hAs, hRs, hks⟩ := hrel
        have hss := lt_of_heap hAs
        by_cases hj4 : j < 4
        · have c0 : wr.cell? ⟨g, off + 4 * n + j, none⟩ = _ := (hks.cells0.1 _ _ hg).trans (hB.out j hj4).2
          have c1 : wr.cell? ⟨w.heap.size + 1, n, none⟩ = some (w32 (word (q.take j))) := by
            rw [cell_heap hAs, arr_get _ _ (by rw [List.length_set, zpad_length _ (by simp; omega)]; omega)]
            simp
          have c2 := free_heap hAs n
          unfold w32 at c1
          have hstep := word_step q j (by have := HLB.out; omega)
          generalize q.getD j 0 = c at c0 hstep
          have HS := Lib.hid hstep
          clear hstep
          go_wp2
          go_roundw
          case measure => simp [intOf]; omega
          case rel =>
            refine ⟨j + 1, by omega, by go_num, ?_, ?_, hks.setCell (.inr (by simp)) _⟩
            · rw [word_or', ← HS.out, heap_set _ hAs]
              have := arr_set ((zpad (spr b n)).set n (word (q.take j))) n (word (q.take (j + 1)))
              unfold w32 at this
              rw [this, List.set_set]
            · rw [hset _ _ _ _ (by simp)]; exact hRs
        · obtain rfl : j = 4 := by omega
          have hq4 : q.take 4 = q := List.take_of_length_le (by have := HLB.out; omega)
          rw [hq4] at hAs
          have hAs2 : wr.heap[w.heap.size + 1]? = some (.cells (arr (zpad (spr b (n + 1)))) 140 (0, 0)) := by
            rw [hAs]
            have h1 := zpad_set (spr b n) (word q) (by simp; omega)
            rw [spr_length] at h1
            rw [h1, spr, if_pos hlt, HQ.out]
          go_wp2
          go_roundw
          case measure => simp [intOf]; omega
          case rel => exact ⟨n + 1, by omega, by go_num, hAs2, hRs, hks⟩
    · have h16 : n = 16 := by omega
      rw [h16] at hAr
      clear h16
      go_wp2
      obtain ⟨wo, rfl⟩ : ∃ wo : World, wo = wr := ⟨_, rfl⟩
      go_loopw [7] (fun v7 wr => ∃ n : Nat, 16 ≤ n ∧ n ≤ 64 ∧ v7 = .int .i64 n ∧ wr.heap[w.heap.size + 1]? = some (.cells (arr (zpad (spr b n))) 140 (0, 0)) ∧ wr.heap[w.heap.size]? = some (.cells (arr (zpad [])) 140 (0, 0)) ∧ Kp [] w wr) (fun v7 _ => 64 - (intOf v7).toNat)
      case atStart => exact ⟨16, by omega, by omega, rfl, hAr, hRr, hkr⟩
      case round =>
        obtain ⟨n, hn16, hn64, rfl, hAn, hRn, hkn⟩ := hrel
        have hss := lt_of_heap hAn
        by_cases hlt : n < 64
        · have hcell : ∀ i, i < n → wr.cell? ⟨w.heap.size + 1, i, none⟩ = some (w32 ((spr b n).getD i 0)) := fun i hi => by
            rw [cell_heap hAn, arr_get _ _ (by rw [zpad_length _ (by simp; omega)]; omega), zpad_get _ _ (by simp; omega)]
          have c15 := hcell (n - 15) (by omega)
          have c2 := hcell (n - 2) (by omega)
          have c16 := hcell (n - 16) (by omega)
          have c7 := hcell (n - 7) (by omega)
          have cn : wr.cell? ⟨w.heap.size + 1, n, none⟩ = _ := cell_heap hAn n
          rw [arr_get _ _ (by rw [zpad_length _ (by simp; omega)]; omega)] at cn
          have fn := free_heap hAn n
          clear hcell
          have hnext : spr b (n + 1) = spr b n ++ [(spr b n).getD (n - 16) 0 + sig0 ((spr b n).getD (n - 15) 0) + (spr b n).getD (n - 7) 0 + sig1 ((spr b n).getD (n - 2) 0)] := by rw [spr, if_neg (by omega)]
          generalize (spr b n).getD (n - 16) 0 = x16 at *
          generalize (spr b n).getD (n - 15) 0 = x15 at *
          generalize (spr b n).getD (n - 7) 0 = x7 at *
          generalize (spr b n).getD (n - 2) 0 = x2 at *
          unfold w32 at c15 c2 c16 c7 cn
          have HN := Lib.hid hnext
          clear hnext
          have e15 : IntKind.i64.wrap ((n : Int) - 15) = n - 15 := IntWalk.i64_in _ (by omega)
          have e2 : IntKind.i64.wrap ((n : Int) - 2) = n - 2 := IntWalk.i64_in _ (by omega)
          have e16 : IntKind.i64.wrap ((n : Int) - 16) = n - 16 := IntWalk.i64_in _ (by omega)
          have e7 : IntKind.i64.wrap ((n : Int) - 7) = n - 7 := IntWalk.i64_in _ (by omega)
          have b15 : (0 : Int) ≤ (n : Int) - 15 ∧ (n : Int) - 15 < 64 := by omega
          have b2 : (0 : Int) ≤ (n : Int) - 2 ∧ (n : Int) - 2 < 64 := by omega
          have b16 : (0 : Int) ≤ (n : Int) - 16 ∧ (n : Int) - 16 < 64 := by omega
          have b7 : (0 : Int) ≤ (n : Int) - 7 ∧ (n : Int) - 7 < 64 := by omega
          have a15 : (15 : Int) ≤ (n : Int) := by omega
          have a2 : (2 : Int) ≤ (n : Int) := by omega
          have a16 : (16 : Int) ≤ (n : Int) := by omega
          have a7 : (7 : Int) ≤ (n : Int) := by omega
          have t15 : ((n : Int) - 15).toNat = n - 15 := by omega
          have t2 : ((n : Int) - 2).toNat = n - 2 := by omega
          have t16 : ((n : Int) - 16).toNat = n - 16 := by omega
          have t7 : ((n : Int) - 7).toNat = n - 7 := by omega
          go_wp2
          have hS : Gr wr [w.heap.size + 1] wr.drew := Gr.of (fun _ _ => rfl)
          refine wp_plan (.H 0 (.H 1 (.H 2 (.H 3 (.H 4 (.H 5 (.H 6 (.H 7 (.E 8 true (.E 9 false .Z)))))))))) (Gr wr [w.heap.size + 1]) (by kernel_rfl) (by kernel_rfl) ?_
          repeat (first | (refine plan_H rfl hS (fun K hK => ?_); go_simp; refine hK _ ?_; clear hK K) | (refine plan_E rfl (fun K hK => ?_); go_simp; (first | refine hK _ _ (fun _ => hS) ?_ | refine hK _ _ nofun ?_); clear hK K))
          refine plan_Z ?_
          clear hS
          go_wp2_with (go_at_call 102; first | ((with_reducible refine (rotk x15 7 (-7) _ rfl (by omega) (by omega)).mono ?_); rintro e w' ⟨rfl, rfl⟩) | ((with_reducible refine (rotk x15 18 (-18) _ rfl (by omega) (by omega)).mono ?_); rintro e w' ⟨rfl, rfl⟩) | ((with_reducible refine (rotk x2 17 (-17) _ rfl (by omega) (by omega)).mono ?_); rintro e w' ⟨rfl, rfl⟩) | ((with_reducible refine (rotk x2 19 (-19) _ rfl (by omega) (by omega)).mono ?_); rintro e w' ⟨rfl, rfl⟩))
          rw [sig0_v, sig1_v]
          have hS : Gr wr [w.heap.size + 1] wr.drew.drew := Gr.of (fun _ _ => rfl)
          refine wp_plan (.H 0 (.H 1 (.H 2 (.H 3 (.H 4 (.H 5 (.H 6 (.H 7 (.H 8 (.H 9 (.H 10 (.H 11 (.E 12 true (.E 13 true (.E 14 false (.E 15 false .Z)))))))))))))))) (Gr wr [w.heap.size + 1]) (by kernel_rfl) (by kernel_rfl) ?_
          repeat (first | (refine plan_H rfl hS (fun K hK => ?_); go_simp; refine hK _ ?_; clear hK K) | (refine plan_E rfl (fun K hK => ?_); go_simp; (first | refine hK _ _ (fun _ => hS) ?_ | refine hK _ _ nofun ?_); clear hK K))
          refine plan_Z ?_
          rw [u32_add_v, u32_add_v, u32_add_v]
          clear hS e15 e2 e16 e7 b15 b2 b16 b7 a15 a2 a16 a7 t15 t2 t16 t7 c15 c2 c16 c7
          go_wp2
          go_roundw
          case measure => simp [intOf]; omega
          case rel =>
            refine ⟨n + 1, by omega, by omega, by go_num, ?_, ?_, ((hkn.setCell (.inr (by simp)) _).drew).drew⟩
            · rw [add4_v, hdrew, hdrew, heap_set _ hAn]
              have h1 := zpad_set (spr b n) (x16 + sig0 x15 + x7 + sig1 x2) (by simp; omega)
              rw [spr_length, ← HN.out] at h1
              have := arr_set (zpad (spr b n)) n (x16 + sig0 x15 + x7 + sig1 x2)
              unfold w32 at this
              rw [this, h1]
            · rw [hdrew, hdrew, hset _ _ _ _ (by simp)]; exact hRn
        · obtain rfl : n = 64 := by omega
          rw [zpad_full _ (by simp)] at hAn
          have hsize : (Tryd.prog.info? 140).map (·.size) = some (arr (spr b 64)).size := by rw [show (arr (spr b 64)).size = 64 by simp [arr]]; kernel_rfl
          have hone : (arr (spr b 64)).all (·.oneCell') = true := by simp [arr, w32, Value.oneCell']
          have hrow := setRow_heap wr w.heap.size _ (arr (spr b 64)) _ _ hRn
          have hkf : Kp [] w (wr.setRow w.heap.size (arr (spr b 64))) := hkn.trans' (T := [w.heap.size]) ⟨rfl, rfl, rfl, by simp [World.setRow], fun k hk hs => setRow_other wr w.heap.size k _ (by simpa using hs)⟩ (by simp)
          have hLL : (spr b 64).length = 64 := spr_length b 64
          generalize hLe : spr b 64 = L at *
          have HLe := Lib.hid hLe
          have HLL := Lib.hid hLL
          clear hLe hLL
          go_wp2_with (first
            | (refine wpList_load_row rfl 140 _ rfl (w.heap.size + 1) rfl _ _ _ _ hAn Tryd.underlying140 rfl hsize ?_)
            | (refine wpList_store_row rfl 140 _ _ rfl w.heap.size _ rfl rfl _ _ hRn hsize ?_ hone ?_))
          · simp [arr, zpad, HLL.out]
          · go_wp2
            refine bodyPost_ret (v := .agg (arr L)) (results_cell_row rfl _ _ w.heap.size _ _ _ _ (by simp [Act.put]) hrow Tryd.underlying140 rfl hsize) (by simp [Act.put]) ⟨?_, hkf⟩
            rw [HLe.out]
end Go.Proofs.YtddpefbpiehgeaaDoor
