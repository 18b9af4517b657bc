/- The reference's digest: turns, what is put behind the bytes. -/
import Derived.Test.YtddpefbpiehgeaaDoorSealE
namespace Go.Proofs.YtddpefbpiehgeaaDoor
open Go Go.RowKit
set_option maxRecDepth 100000
set_option linter.unusedVariables false
set_option linter.unusedSectionVars false
set_option linter.unusedSimpArgs false

theorem rrot (x : UInt32) (s : Nat) (k : Int) (w : World) (hk : k = (s : Int)) (h1 : 1 ≤ s) (h31 : s ≤ 31) :
    Calls Tryd.prog 104 #[.int .u32 (x.toNat : Int), .int .u64 k] w fun e w' => e = .returned (.int .u32 ((rotr x s).toNat : Int)) ∧ w = w' := by
  subst hk
  have hlt := u32_lt x
  have hw : IntKind.u64.wrap (32 - (s : Int)) = 32 - (s : Int) := IntWalk.u64_in _ (by omega)
  go_enter Tryd.func104, Tryd.ntmps104
  go_wp2
  go_ret
  refine ⟨?_, rfl⟩
  have h := rot_v x s h1 h31
  have hc : bits BinOp.or IntKind.u32 ((x.toNat : Int) / 2 ^ s) ((x.toNat : Int) * 2 ^ (32 - s) % 4294967296) = ((rotr x s).toNat : Int) := by
    rw [← u32_shl x (32 - s) (by omega), ← u32_shr x s (by omega), u32_or_v, UInt32.or_comm]
    rfl
  simp_all

theorem rsh (x : UInt32) (s : Nat) (k d : Int) (w : World) (hk : k = (s : Int)) (hd : d = 2 ^ s) (h31 : s ≤ 31) :
    Calls Tryd.prog 105 #[.int .u32 (x.toNat : Int), .int .u64 k] w fun e w' => e = .returned (.int .u32 ((x.toNat : Int) / d)) ∧ w = w' := by
  subst hk hd
  have hlt := u32_lt x
  go_enter Tryd.func105, Tryd.ntmps105
  go_wp2
  go_ret
  refine ⟨?_, rfl⟩
  simp_all

set_option maxHeartbeats 1000000 in
theorem filled_calls (v : Value) (R : List UInt8) (w : World) (hr : Bs w v R) (hlen : R.length ≤ 140737488355000) :
    Calls Tryd.prog 99 #[v] w fun e w' => ∃ v, e = .returned v ∧ OB w' 5 w.heap.size v (R ++ padOf R.length) ∧ Kp [] w w' := by
  obtain ⟨i0, hi, hz0, hz1, hz2⟩ := info_parts u8info
  obtain ⟨a, cap, rfl, -⟩ := Sl.form hr
  obtain ⟨D, hD⟩ : ∃ D, D = R ++ padOf R.length := ⟨_, rfl⟩
  rw [← hD]
  have HD := Lib.hid hD
  clear hD
  go_enter Tryd.func99, Tryd.ntmps99
  go_wp2_with (first
    | (refine wpList_app _ rfl _ _ 23 23 rfl w.heap.size 5 i0 _ 1 1 Tryd.underlying23 hi hz0 hz1 hz2 rfl (by omega) (.slice none 0 0) 0 [] rfl (Own.nil _ _ _ _) (.slice a R.length cap) _ _ rfl (Src.of_sl Tryd.underlying23 hr bcells_one) (by omega) (by omega) (Nat.le_refl _) ?_; intro v1 w1 ho1 hg1 hx1; rw [Nat.zero_add, List.nil_append] at ho1; have hk1 := (Kp.refl [] w).grown hg1 nofun)
    | (refine wpList_app _ rfl _ _ 23 23 rfl w.heap.size 5 i0 _ 1 1 Tryd.underlying23 hi hz0 hz1 hz2 rfl (by omega) v1 R.length (bcells R) rfl (own_kp ho1 ((Kp.refl [] w1).alloc _) (by simp)) (.slice (some ⟨w1.heap.size, 0, none⟩) 1 1) 1 (bcells [128]) rfl (Src.of_sl Tryd.underlying23 (bs_alloc w1 _ [128] _ rfl 1 rfl) bcells_one) (by omega) (by omega) (by have := hk1.size; simp; omega) ?_; intro v2 w2 ho2 hg2 hx2))
  have hk2 : Kp [] w w2 := (hk1.alloc _).grown hg2 (fun k hk => .inr (ho1.lt k hk).1)
  rw [← bcells_append] at ho2
  obtain ⟨z, hz⟩ : ∃ z, z = (119 - R.length % 64) % 64 := ⟨_, rfl⟩
  have hz56 : (R.length + 1 + z) % 64 = 56 := by omega
  have hz63 : z ≤ 63 := by omega
  have hzl : ∀ i, i < z → (R.length + 1 + i) % 64 ≠ 56 := by intros; omega
  have HZ := Lib.hid hz
  clear hz
  obtain ⟨a2, c2, rfl⟩ := own_form ho2
  clear hx1 hx2 hg1 hg2 ho1 hk1
  have hrlen : (R.length : Int) ≤ 140737488355000 := by omega
  go_loopw [3] (fun v wr => ∃ (i : Nat) (av : Option Addr) (c : Nat), i ≤ z ∧ v = .slice av (R.length + 1 + i) c ∧ Own wr w.heap.size 5 1 (.slice av (R.length + 1 + i) c) (R.length + 1 + i) (bcells (R ++ 128 :: List.replicate i 0)) ∧ Kp [] w wr) (fun v _ => z + R.length + 1 - lenV v)
  case atStart => exact ⟨0, a2, c2, by omega, rfl, ho2, hk2⟩
  case round =>
    obtain ⟨i, av, c, hiz, rfl, ho, hk⟩ := hrel
    by_cases hlt : i < z
    · have hne := hzl i hlt
      have hneb : (((R.length : Int) + 1 + (i : Int)) % 64 != 56) = true := by simp; omega
      have hno := own_kp ho ((Kp.refl [] wr).alloc (.cells #[.int .u8 0] 5)) (by simp)
      go_wp2_with (with_reducible refine stop_app ?_)
      unfold Stop
      refine wpList_app _ rfl _ _ 23 23 rfl w.heap.size 5 i0 _ 1 1 Tryd.underlying23 hi hz0 hz1 hz2 rfl (by omega) (.slice av (R.length + 1 + i) c) _ _ rfl hno (.slice (some ⟨wr.heap.size, 0, none⟩) 1 1) 1 (bcells ([0])) rfl (Src.of_sl Tryd.underlying23 (bs_alloc wr _ [0] _ rfl 1 rfl) bcells_one) (by omega) (by omega) (by have := hk.size; simp; omega) ?_
      intro v3 w3 ho3 hg3 hx3
      have hk3 := (hk.alloc (.cells #[.int .u8 0] 5)).grown hg3 (fun k hk => .inr (ho.lt k hk).1)
      obtain ⟨a3, c3, rfl⟩ := own_form ho3
      rw [← bcells_append, show (R ++ 128 :: List.replicate i 0) ++ [0] = R ++ 128 :: List.replicate (i + 1) 0 by simp [List.replicate_succ']] at ho3
      go_wp2
      go_roundw
      case measure => simp [lenV]; omega
      case rel => exact ⟨i + 1, a3, c3, by omega, by simp; omega, by simpa [Nat.add_assoc] using ho3, hk3⟩
    · have hne : (R.length + 1 + i) % 64 = 56 := by rw [show i = z by omega]; exact hz56
      have hneb : (((R.length : Int) + 1 + (i : Int)) % 64 != 56) = false := by simp; omega
      have hw8 : IntKind.u64.wrap ((R.length : Int) * 8) = (R.length : Int) * 8 := IntWalk.u64_in _ (by omega)
      have hw1 : IntKind.u64.wrap (R.length : Int) = (R.length : Int) := IntWalk.u64_in _ (by omega)
      go_wp2
      obtain ⟨q, hq⟩ : ∃ q, q = R ++ 128 :: List.replicate i 0 := ⟨_, rfl⟩
      have hql : q.length = R.length + 1 + i := by simp [hq]; omega
      rw [← hq, ← hql] at ho
      have hqd : q ++ dig (8 * R.length) 8 = D := by rw [HD.out, hq, padOf, show i = (119 - R.length % 64) % 64 by rw [← HZ.out]; omega]; simp
      have HQ := Lib.hid hqd
      have hq64 : q.length ≤ R.length + 64 := by omega
      clear hw8 hw1
      simp only [← hql]
      clear hq hqd hql hneb hne hzl hz56
      obtain ⟨wo, rfl⟩ : ∃ wo : World, wo = wr := ⟨wr, rfl⟩
      go_loopw [3, 5] (fun v v4 wr => ∃ (k : Nat) (av : Option Addr) (c : Nat) (q' : List UInt8), k ≤ 8 ∧ v4 = .int .i64 ((k : Int) - 1) ∧ v = .slice av q'.length c ∧ OB wr 5 w.heap.size (.slice av q'.length c) q' ∧ q' ++ dig (8 * R.length) k = q ++ dig (8 * R.length) 8 ∧ q'.length + k = q.length + 8 ∧ Kp [] w wr) (fun _ v _ => (intOf v + 1).toNat)
      case atStart => exact ⟨8, av, c, q, by omega, by simp, rfl, ho, rfl, rfl, hk⟩
      case round =>
        obtain ⟨k, av', c', q', hk8, rfl, rfl, ho', hqq, hql', hk'⟩ := hrel
        obtain _ | k := k
        · have hq0 : q' = D := by rw [← HQ.out, ← hqq]; simp [dig]
          go_wp2
          go_ret
          exact ⟨_, rfl, hq0 ▸ ho', hk'⟩
        · have HQQ := Lib.hid hqq
          clear hqq
          have hbyte : (R.length : Int) * 8 / 2 ^ (8 * k) % 256 = ((UInt8.ofNat (8 * R.length / 256 ^ k)).toNat : Int) := by
            rw [byte_shr _ (by omega), show ((R.length : Int) * 8).toNat = 8 * R.length by omega]
          have hk8i : (k : Int) ≤ 7 := by omega
          go_wp2_with (with_reducible refine stop_app ?_)
          unfold Stop
          rw [hbyte]
          have hno := own_kp ho' ((Kp.refl [] wr).alloc (.cells #[.int .u8 ((UInt8.ofNat (8 * R.length / 256 ^ k)).toNat : Int)] 5)) (by simp)
          refine wpList_app _ rfl _ _ 23 23 rfl w.heap.size 5 i0 _ 1 1 Tryd.underlying23 hi hz0 hz1 hz2 rfl (by omega) (.slice av' q'.length c') _ _ rfl hno (.slice (some ⟨wr.heap.size, 0, none⟩) 1 1) 1 (bcells ([UInt8.ofNat (8 * R.length / 256 ^ k)])) rfl (Src.of_sl Tryd.underlying23 (bs_alloc wr _ [UInt8.ofNat (8 * R.length / 256 ^ k)] _ rfl 1 rfl) bcells_one) (by omega) (by omega) (by have := hk'.size; simp; omega) ?_
          intro v3 w3 ho3 hg3 hx3
          have hk3 := (hk'.alloc (.cells #[.int .u8 ((UInt8.ofNat (8 * R.length / 256 ^ k)).toNat : Int)] 5)).grown hg3 (fun k hk => .inr (ho'.lt k hk).1)
          obtain ⟨a3, c3, rfl⟩ := own_form ho3
          rw [← bcells_append] at ho3
          go_wp2
          go_roundw
          case measure => simp [intOf]
          case rel =>
            refine ⟨k, a3, c3, q' ++ [UInt8.ofNat (8 * R.length / 256 ^ k)], by omega, by simp, by simp, by simpa [OB] using ho3, ?_, by simp; omega, hk3⟩
            rw [List.append_assoc, List.singleton_append, ← dig_cons]
            exact HQQ.out
end Go.Proofs.YtddpefbpiehgeaaDoor
