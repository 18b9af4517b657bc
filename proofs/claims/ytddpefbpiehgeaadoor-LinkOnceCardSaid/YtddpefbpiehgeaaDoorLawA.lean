/- The laws' helper Same. -/
import Derived.Test.YtddpefbpiehgeaaDoorSendP
namespace Go.Proofs.YtddpefbpiehgeaaDoor
open Go Go.RowKit
set_option maxRecDepth 100000
set_option linter.unusedVariables false
set_option linter.unusedSectionVars false
set_option linter.unusedSimpArgs false

/-- The same frame? -/
def sameF (f g : Fr) : Bool := decide (f.k = g.k) && (decide (f.a = g.a) && (decide (f.b = g.b) && (decide (f.t = g.t) && decide (f.its = g.its))))

theorem sameF_self (f : Fr) : sameF f f = true := by simp [sameF]

set_option maxHeartbeats 1000000 in
theorem fsame_ne (f g : Fr) (iv tv jv uv : Value) (w : World) (hi : Rws w iv f.its) (ht : Bs w tv f.t) (hj : Rws w jv g.its) (hu : Bs w uv g.t) (hne : f.k ≠ g.k ∨ f.a ≠ g.a ∨ f.b ≠ g.b ∨ f.t ≠ g.t ∨ f.its.length ≠ g.its.length) (hn : f.its.length ≤ 100000000000000) (hn' : g.its.length ≤ 100000000000000) :
    Calls Tryd.prog 12 #[.agg (fcells f iv tv), .agg (fcells g jv uv)] w fun e w' => e = .returned (.bool false) ∧ Kp [] w w' := by
  obtain ⟨ia, ic, rfl, hic⟩ := hi.form
  obtain ⟨ta, tc, rfl, -⟩ := Sl.form ht
  obtain ⟨ja, jc, rfl, hjc⟩ := hj.form
  obtain ⟨ua, uc, rfl, -⟩ := Sl.form hu
  obtain ⟨k, a, b, its, t⟩ := f
  obtain ⟨k', a', b', its', t'⟩ := g
  simp only [fcells] at *
  have hkA := (Kp.refl [] w).alloc (.cells #[.int .i64 k, .int .i64 a, .int .i64 b, .slice ia its.length ic, .slice ta t.length tc] 25)
  have hkB := hkA.alloc (.cells #[.int .i64 k', .int .i64 a', .int .i64 b', .slice ja its'.length jc, .slice ua t'.length uc] 25)
  have hcv := b2sc (ht.kp0 hkB)
  have hcu := b2sc (hu.kp0 hkB)
  have hcs : k ≠ k' ∨ (k = k' ∧ a ≠ a') ∨ (k = k' ∧ a = a' ∧ b ≠ b') ∨ (k = k' ∧ a = a' ∧ b = b' ∧ t ≠ t') ∨ (k = k' ∧ a = a' ∧ b = b' ∧ t = t' ∧ its.length ≠ its'.length) := by
    by_cases h1 : k = k' <;> by_cases h2 : a = a' <;> by_cases h3 : b = b' <;> by_cases h4 : t = t' <;> simp_all
  clear hne
  rcases hcs with h1 | ⟨rfl, h2⟩ | ⟨rfl, rfl, h3⟩ | ⟨rfl, rfl, rfl, h4⟩ | ⟨rfl, rfl, rfl, rfl, h5⟩
  · have hd : (k != k') = true := by simpa using h1
    go_enter Tryd.func12, Tryd.ntmps12
    go_wp2
    go_ret
    exact ⟨rfl, hkB⟩
  · have hd : (a != a') = true := by simpa using h2
    go_enter Tryd.func12, Tryd.ntmps12
    go_wp2
    go_ret
    exact ⟨rfl, hkB⟩
  · have hd : (b != b') = true := by simpa using h3
    go_enter Tryd.func12, Tryd.ntmps12
    go_wp2
    go_ret
    exact ⟨rfl, hkB⟩
  · have hd : decide (t = t') = false := by simpa using h4
    go_enter Tryd.func12, Tryd.ntmps12
    go_wp2_with fail
    go_ret
    exact ⟨rfl, hkB⟩
  · have hd : ((its.length : Int) != (its'.length : Int)) = true := by rw [bne_iff_ne]; omega
    go_enter Tryd.func12, Tryd.ntmps12
    go_wp2
    go_ret
    exact ⟨rfl, hkB⟩

theorem Bs.ag {w : World} {L : List Nat} {v : Value} {l : List UInt8} (h : Bs w v l) (u : Ag w L) (hL : ∀ b, v.ownBlock = some b → b ∈ L) : Bs u.w v l := by
  obtain ⟨hl, h⟩ := h
  refine ⟨hl, ?_⟩
  rcases h with h | h | ⟨b, off, cap, hv, hc, hb, hh⟩
  · exact .inl h
  · exact .inr (.inl h)
  · have hm := hL b (by rw [hv]; rfl)
    have hs : u.w.heap[b]? = w.heap[b]? := u.ag b hm
    refine .inr (.inr ⟨b, off, cap, hv, hc, ?_, fun j x hx => by rw [u.cell b _ hm]; exact hh j x hx⟩)
    rw [Array.getElem?_eq_getElem hb] at hs
    exact (Array.getElem?_eq_some_iff.1 hs).1

theorem takes_succ {its its' : List (List UInt8)} {n : Nat} (h : n < its.length) (h' : n < its'.length) (ht : its.take n = its'.take n) (hx : its[n] = its'[n]) : its.take (n + 1) = its'.take (n + 1) := by
  rw [List.take_succ_eq_append_getElem h, List.take_succ_eq_append_getElem h', ht, hx]

set_option maxHeartbeats 1000000 in
theorem fsame_eq (k a b : Int) (t : List UInt8) (its its' : List (List UInt8)) (iv tv jv uv : Value) (w : World) (hi : Rws w iv its) (ht : Bs w tv t) (hj : Rws w jv its') (hu : Bs w uv t) (hle : its.length = its'.length) (hn : its.length ≤ 100000000000000) :
    Calls Tryd.prog 12 #[.agg (fcells ⟨k, a, b, its, t⟩ iv tv), .agg (fcells ⟨k, a, b, its', t⟩ jv uv)] w fun e w' => e = .returned (.bool (decide (its = its'))) ∧ Kp [] w w' := by
  obtain ⟨ia, ic, rfl, hic⟩ := hi.form
  obtain ⟨ta, tc, rfl, -⟩ := Sl.form ht
  obtain ⟨ja, jc, rfl, hjc⟩ := hj.form
  obtain ⟨ua, uc, rfl, -⟩ := Sl.form hu
  simp only [fcells] at *
  have hkA := (Kp.refl [] w).alloc (.cells #[.int .i64 k, .int .i64 a, .int .i64 b, .slice ia its.length ic, .slice ta t.length tc] 25)
  have hkB := hkA.alloc (.cells #[.int .i64 k, .int .i64 a, .int .i64 b, .slice ja its'.length jc, .slice ua t.length uc] 25)
  have hhA := (((Kp.refl [] _).alloc (.cells #[.int .i64 k, .int .i64 a, .int .i64 b, .slice ja its'.length jc, .slice ua t.length uc] 25)).heap (heap_alloc_new w (.cells #[.int .i64 k, .int .i64 a, .int .i64 b, .slice ia its.length ic, .slice ta t.length tc] 25)) (by simp))
  have hhB := heap_alloc_new (w.alloc (.cells #[.int .i64 k, .int .i64 a, .int .i64 b, .slice ia its.length ic, .slice ta t.length tc] 25)) (.cells #[.int .i64 k, .int .i64 a, .int .i64 b, .slice ja its'.length jc, .slice ua t.length uc] 25)
  rw [World.size_alloc] at hhB
  have hcv := b2sc (ht.kp0 hkB)
  have hcu := b2sc (hu.kp0 hkB)
  have hle2 : (its.length : Int) = (its'.length : Int) := by omega
  have hd : ((its.length : Int) != (its'.length : Int)) = false := by rw [hle2]; simp
  have HLE := Lib.hid hle
  clear hle hle2
  go_enter Tryd.func12, Tryd.ntmps12
  go_wp2_with fail
  clear hcv hcu hd
  go_loopw [5] (fun v5 wr => ∃ n : Nat, n ≤ its.length ∧ v5 = .int .i64 n ∧ its.take n = its'.take n ∧ Kp [] ((w.alloc (.cells #[.int .i64 k, .int .i64 a, .int .i64 b, .slice ia its.length ic, .slice ta t.length tc] 25)).alloc (.cells #[.int .i64 k, .int .i64 a, .int .i64 b, .slice ja its'.length jc, .slice ua t.length uc] 25)) wr) (fun v5 _ => its.length - (intOf v5).toNat)
  case atStart => exact ⟨0, by omega, rfl, rfl, Kp.refl _ _⟩
  case round =>
    obtain ⟨n, hnl, rfl, htk, hkr⟩ := hrel
    have hle := HLE.out
    have hA := hkr.heap hhA (by simp)
    have hB := hkr.heap hhB (by simp)
    obtain ⟨-, -, -, c3, -⟩ := cells5 hA
    obtain ⟨-, -, -, d3, -⟩ := cells5 hB
    have hkw := hkB.trans hkr
    by_cases hlt : n < its.length
    · obtain ⟨ib, io, xa, xc, rfl, hib, hxc, hbx⟩ := (hi.kp0 hkw).at n hlt
      obtain ⟨jb, jo, ya, yc, rfl, hjb, hyc, hby⟩ := (hj.kp0 hkw).at n (by omega)
      have hts := takes_succ hlt (by omega) htk
      have hne : its[n]'hlt ≠ its'[n]'(by omega) → its ≠ its' := fun h e => by subst e; exact h rfl
      generalize its[n]'hlt = x at *
      generalize its'[n]'(by omega) = y at *
      have hn1 : (0 : Int) ≤ n ∧ (n : Int) < its.length ∧ (n : Int) < its'.length := by omega
      obtain ⟨hn1, hn2, hn3⟩ := hn1
      have hwr : IntKind.i64.wrap ((n : Int) + 1) = n + 1 := IntWalk.i64_in _ (by omega)
      have HTK := Lib.hid htk
      have HTS := Lib.hid hts
      have HNE := Lib.hid hne
      clear htk hts hne hle
      have hcx : ∀ u : Ag wr ([w.heap.size, w.heap.size + 1, ib, jb] ++ ((Value.slice xa x.length xc).ownBlock.toList ++ (Value.slice ya y.length yc).ownBlock.toList)), (convert 23 9 (.slice xa x.length xc)).run Tryd.prog u.w = .ok (.string ⟨x.toArray⟩) u.w := fun u => b2sc (Bs.ag hbx u (fun b hb => by simp [hb]))
      have hcy : ∀ u : Ag wr ([w.heap.size, w.heap.size + 1, ib, jb] ++ ((Value.slice xa x.length xc).ownBlock.toList ++ (Value.slice ya y.length yc).ownBlock.toList)), (convert 23 9 (.slice ya y.length yc)).run Tryd.prog u.w = .ok (.string ⟨y.toArray⟩) u.w := fun u => b2sc (Bs.ag hby u (fun b hb => by simp [hb]))
      go_wp2_with fail
      have hS : Gr wr ([w.heap.size, w.heap.size + 1, ib, jb] ++ ((Value.slice xa x.length xc).ownBlock.toList ++ (Value.slice ya y.length yc).ownBlock.toList)) wr.drew := Gr.of (fun _ _ => rfl)
      generalize (Value.slice xa x.length xc).ownBlock.toList ++ (Value.slice ya y.length yc).ownBlock.toList = M at *
      simp only [List.cons_append, List.nil_append] at hcx hcy hS
      refine wp_plan (.H 0 (.H 1 (.H 2 (.H 3 (.H 4 (.H 5 (.H 6 (.H 7 (.H 8 (.H 9 (.H 10 (.H 11 (.E 12 false .Z))))))))))))) (Gr wr (w.heap.size :: (w.heap.size + 1) :: ib :: jb :: M)) (by as_aux_lemma => kernel_rfl) (by as_aux_lemma => kernel_rfl) ?_
      by_cases hxy : x = y
      · subst hxy
        repeat (first | (refine plan_H rfl hS (fun K hK => ?_); go_simp; refine hK _ ?_; clear hK K) | (refine plan_E rfl (fun K hK => ?_); go_simp; (first | refine hK _ _ (fun _ => hS) ?_ | refine hK _ _ nofun ?_); clear hK K))
        refine plan_Z ?_
        go_wp2_with fail
        go_roundw
        case measure => simp [intOf]; omega
        case rel => exact ⟨n + 1, by omega, by go_num, HTS.out rfl, hkr.drew⟩
      · have HXY := Lib.hid (HNE.out hxy)
        have hd : (x == y) = false := by simpa using hxy
        repeat (first | (refine plan_H rfl hS (fun K hK => ?_); go_simp; refine hK _ ?_; clear hK K) | (refine plan_E rfl (fun K hK => ?_); go_simp; (first | refine hK _ _ (fun _ => hS) ?_ | refine hK _ _ nofun ?_); clear hK K))
        refine plan_Z ?_
        go_wp2_with fail
        go_ret
        exact ⟨by rw [show decide (its = its') = false by simpa using HXY.out]; rfl, hkw.drew⟩
    · have hd : decide ((n : Int) < (its.length : Int)) = false := by rw [decide_eq_false_iff_not]; omega
      have heq : its = its' := by
        rw [List.take_of_length_le (by omega), List.take_of_length_le (by omega)] at htk
        exact htk
      have HEQ := Lib.hid heq
      clear htk heq hle
      go_wp2_with fail
      go_ret
      exact ⟨by rw [show decide (its = its') = true by simpa using HEQ.out]; rfl, hkw⟩

theorem fsame_calls (f g : Fr) (iv tv jv uv : Value) (w : World) (hi : Rws w iv f.its) (ht : Bs w tv f.t) (hj : Rws w jv g.its) (hu : Bs w uv g.t) (hn : f.its.length ≤ 100000000000000) (hn' : g.its.length ≤ 100000000000000) :
    Calls Tryd.prog 12 #[.agg (fcells f iv tv), .agg (fcells g jv uv)] w fun e w' => e = .returned (.bool (sameF f g)) ∧ Kp [] w w' := by
  by_cases h : f.k ≠ g.k ∨ f.a ≠ g.a ∨ f.b ≠ g.b ∨ f.t ≠ g.t ∨ f.its.length ≠ g.its.length
  · have hs : sameF f g = false := by
      unfold sameF
      rcases h with h | h | h | h | h
      · simp [h]
      · simp [h]
      · simp [h]
      · simp [h]
      · have : f.its ≠ g.its := fun e => h (by rw [e])
        simp [this]
    rw [hs]
    exact fsame_ne f g iv tv jv uv w hi ht hj hu h hn hn'
  · have h1 : f.k = g.k := by
      by_cases e : f.k = g.k
      · exact e
      · exact absurd (.inl e) h
    have h2 : f.a = g.a := by
      by_cases e : f.a = g.a
      · exact e
      · exact absurd (.inr (.inl e)) h
    have h3 : f.b = g.b := by
      by_cases e : f.b = g.b
      · exact e
      · exact absurd (.inr (.inr (.inl e))) h
    have h4 : f.t = g.t := by
      by_cases e : f.t = g.t
      · exact e
      · exact absurd (.inr (.inr (.inr (.inl e)))) h
    have h5 : f.its.length = g.its.length := by omega
    obtain ⟨k, a, b, its, t⟩ := f
    obtain ⟨k', a', b', its', t'⟩ := g
    simp only at h1 h2 h3 h4
    subst h1 h2 h3 h4
    have hs : sameF ⟨k, a, b, its, t⟩ ⟨k, a, b, its', t⟩ = decide (its = its') := by simp [sameF]
    rw [hs]
    exact fsame_eq k a b t its its' iv tv jv uv w hi ht hj hu h5 hn
end Go.Proofs.YtddpefbpiehgeaaDoor
