/- The digest: New and Write. -/
import Derived.Test.YtddpefbpiehgeaaDoorHashB
import Derived.Test.YtddpefbpiehgeaaDoorHashQ
import Derived.Test.YtddpefbpiehgeaaDoorWireA
namespace Go.Proofs.YtddpefbpiehgeaaDoor
open Go Go.RowKit
set_option maxRecDepth 100000
set_option linter.unusedVariables false
set_option linter.unusedSectionVars false
set_option linter.unusedSimpArgs false

/-- The cells of a digest that comes about. -/
def hcells (x : W8) (v : Value) (n : Nat) : Array Value :=
  #[.int .u32 (x.a.toNat : Int), .int .u32 (x.b.toNat : Int), .int .u32 (x.c.toNat : Int), .int .u32 (x.d.toNat : Int), .int .u32 (x.e.toNat : Int), .int .u32 (x.f.toNat : Int), .int .u32 (x.g.toNat : Int), .int .u32 (x.h.toNat : Int), v, .int .i64 n]

/-- A digest at block p that has taken the bytes l. -/
def IsH (w : World) (p : Nat) (l : List UInt8) : Prop :=
  4 ≤ p ∧ ∃ a cap, w.heap[p]? = some (.cells (hcells (absorb kW (startW initW) l).1 (.slice a (absorb kW (startW initW) l).2.length cap) l.length) 137 (0, 0)) ∧
    Bs w (.slice a (absorb kW (startW initW) l).2.length cap) (absorb kW (startW initW) l).2 ∧ (∀ b, Value.ownBlock (.slice a (absorb kW (startW initW) l).2.length cap) = some b → b ≠ p)

theorem hnew_calls (w : World) (hG : GH w) : Calls Tryd.prog 81 #[] w fun e w' => ∃ p, e = .returned (.pointer (some ⟨p, 0, none⟩)) ∧ w.heap.size ≤ p ∧ IsH w' p [] ∧ Kp [] w w' := by
  have g0 := hG.start 0 (by omega)
  have g1 := hG.start 1 (by omega)
  have g2 := hG.start 2 (by omega)
  have g3 := hG.start 3 (by omega)
  have g4 := hG.start 4 (by omega)
  have g5 := hG.start 5 (by omega)
  have g6 := hG.start 6 (by omega)
  have g7 := hG.start 7 (by omega)
  have hg4 := hG.size
  go_enter Tryd.func81, Tryd.ntmps81
  go_wp2
  go_ret
  exact ⟨w.heap.size, rfl, Nat.le_refl _, ⟨hg4, none, 0, heap_alloc_new w _, ⟨rfl, .inl ⟨rfl, rfl⟩⟩, nofun⟩, (Kp.refl [] w).alloc _⟩

def lenV : Value → Nat | .slice _ n _ => n | _ => 0

section
variable {P : Program}
theorem run_cells_part (g : Nat) (t : TypeId) : ∀ (vs : List Value) (i : Nat) (cur : Array Value) (w : World), w.heap[g]? = some (.cells cur t (0, 0)) → i + vs.length ≤ cur.size → (∀ v ∈ vs, v.oneCell' = true) →
    (storeCells ⟨g, 0, none⟩ vs i).run P w = .ok () (w.setRow g (cur.toList.take i ++ vs ++ cur.toList.drop (i + vs.length)).toArray)
  | [], i, cur, w, hg, hl, _ => by
    have hlt : g < w.heap.size := (Array.getElem?_eq_some_iff.1 hg).1
    have hv : w.heap[g] = .cells cur t (0, 0) := (Array.getElem?_eq_some_iff.1 hg).2
    simp only [storeCells, List.append_nil, List.length_nil, Nat.add_zero, List.take_append_drop, Array.toArray_toList]
    show Result.ok () w = _
    congr 1
    unfold World.setRow
    cases w with
    | mk heap tape drawn os output =>
      congr 1
      apply Array.ext
      · simp
      · intro k h1 h2
        simp only [Array.getElem_modify]
        split
        · rename_i hk; subst hk; simp at hv; simp [hv]
        · rfl
  | v :: rest, i, cur, w, hg, hl, h1 => by
    have hi : i < cur.size := by simp at hl; omega
    have hadd : (⟨g, 0, none⟩ : Addr).add i = ⟨g, i, none⟩ := by unfold Addr.add; split <;> simp_all
    have hcell : w.cell? ⟨g, i, none⟩ = some cur[i] := by simp [World.cell?, hg, hi]
    have hfro : w.frozen? ⟨g, i, none⟩ = false := by simp [World.frozen?, hg]
    have hst : (store ((⟨g, 0, none⟩ : Addr).add i) v).run P w = .ok () (w.setRow g (cur.setIfInBounds i v)) := by
      rw [hadd, run_store P w _ v _ (h1 v (by simp)), hcell]
      simp [hfro, setCell_eq_setRow w g i cur t (0, 0) v hg]
    have ih := run_cells_part g t rest (i + 1) (cur.setIfInBounds i v) (w.setRow g (cur.setIfInBounds i v)) (setRow_heap w g cur _ t _ hg) (by simp at hl ⊢; omega) (fun x hx => h1 x (by simp [hx]))
    simp only [storeCells, Sem.run_bind, hst, Result.andThen_ok, ih, setRow_setRow]
    congr 3
    have h2 : cur.toList.set i v = cur.toList.take i ++ v :: cur.toList.drop (i + 1) := List.set_eq_take_append_cons_drop.trans (by simp [hi])
    have h3 : (cur.toList.take i).length = i := by simp; omega
    rw [Array.toList_setIfInBounds, h2, List.take_append, List.drop_append, h3]
    simp [show i + 1 - i = 1 by omega, show i + 1 + rest.length - i = rest.length + 1 by omega, show i + (rest.length + 1) = i + 1 + rest.length by omega]
    rw [List.take_of_length_le (by simp; omega)]
    simp
    omega

theorem step_store_part {ops : Array Oper} {o : Oper} {a : Act} {w : World} {K : Act → World → Prop} {Q : Exit → Act → World → Prop} {E : Prop} (hgd : o.guard = none) (ty : TypeId) (x y : Operand) (ho : o.op = .store ty x y)
    (g : Nat) (cells : Array Value) (hx : a.eval x = .pointer (some ⟨g, 0, none⟩)) (hy : a.eval y = .agg cells)
    (t : TypeId) (old : Array Value) (hg : w.heap[g]? = some (.cells old t (0, 0))) (hi : (P.info? ty).map (·.size) = some cells.size)
    (hold : cells.size ≤ old.size) (h1 : ∀ v ∈ cells.toList, v.oneCell' = true)
    (new : Array Value) (hnew : (cells.toList ++ old.toList.drop cells.size).toArray = new)
    (h : K (a.put o.dst undef) (w.setRow g new)) : if Region.wanted o (yielded ops a.tmps) = true then Oper.wp P o a w K Q else E := by
  have hw : Region.wanted o (yielded ops a.tmps) = true := by simp [Region.wanted, hgd]
  rw [if_pos hw]
  subst hnew
  have hr := run_cells_part (P := P) g t cells.toList 0 old w hg (by simpa using hold) h1
  have hr2 : (storeVar ty ⟨g, 0, none⟩ (.agg cells)).run P w = .ok () (w.setRow g (cells.toList ++ old.toList.drop cells.size).toArray) := by
    cases hq : P.info? ty with
    | none => simp [hq] at hi
    | some i =>
      have hs : cells.size = i.size := by simp [hq] at hi; omega
      simp at hr
      simp [storeVar, sizeOf, typeInfo, hq, Value.cells, hs, hr]
  unfold Oper.wp execOp
  simp only [ho, hx, hy, Instr.storeAt, Instr.sureAddr, Sem.run_bind, Sem.run_pure, Result.andThen_ok, hr2]
  exact h
end

theorem setRow_kp (w : World) (g : Nat) (cs : Array Value) : Kp [g] w (w.setRow g cs) := ⟨rfl, rfl, rfl, by simp only [World.setRow, Array.size_modify]; exact Nat.le_refl _, fun k hk hs => setRow_other w g k _ (by simpa using hs)⟩

set_option maxHeartbeats 1000000 in
theorem hwrite_calls (p : Nat) (l b : List UInt8) (v : Value) (w : World) (hG : GH w) (hH : IsH w p l) (hb : Bs w v b) (hvp : own1 v ≠ some p) (hlen : l.length + b.length ≤ 140737488355000) :
    Calls Tryd.prog 82 #[.pointer (some ⟨p, 0, none⟩), v] w fun e w' => e = .returned (.tuple #[]) ∧ IsH w' p (l ++ b) ∧ Kp [p] w w' := by
  obtain ⟨hp4, a, cap, hh, hr, hne⟩ := hH
  obtain ⟨i0, hi, hz0, hz1, hz2⟩ := info_parts u8info
  have hplt := lt_of_heap hh
  have hrest := absorb_rest kW (startW initW) l
  have happ := absorb_append kW (startW initW) l b
  generalize absorb kW (startW initW) l = A0 at *
  obtain ⟨X, R⟩ := A0
  simp only at hh hr hne hrest happ
  have hRl : R.length ≤ 63 := by omega
  have HA := Lib.hid happ
  clear happ hrest
  obtain ⟨va, vc, rfl, _⟩ := Sl.form hb
  have hr1 : ∀ u, Bs (w.setCell ⟨p, 9, none⟩ u) (.slice a R.length cap) R := fun u => hr.kp ((Kp.refl [p] w).setCell (.inl (by simp)) u) (by simpa using hne)
  have hb1 : ∀ u, Bs (w.setCell ⟨p, 9, none⟩ u) (.slice va b.length vc) b := fun u => hb.kq ((Kp.refl [p] w).setCell (.inl (by simp)) u) (fun k hk => by simp; rintro rfl; exact hvp hk)
  have hb2 : ∀ {u w1}, World.grownBy (w.setCell ⟨p, 9, none⟩ u) w1 (Value.ownBlock (.slice none 0 0)) → Bs w1 (.slice va b.length vc) b := fun hg => (hb1 _).kq ((Kp.refl [p] _).grown hg nofun) (fun k hk => by simp; rintro rfl; exact hvp hk)
  unfold hcells at hh
  have hh_8 := cell_heap (w := w) (b := p) hh 8
  have hh_9 := cell_heap (w := w) (b := p) hh 9
  simp only [List.getElem?_toArray, List.getElem?_cons_zero, List.getElem?_cons_succ] at hh_8 hh_9
  have f9 := free_heap hh 9
  have hs1 := heap_set (i := 9) (.int .i64 (↑l.length + ↑b.length)) hh
  go_enter Tryd.func82, Tryd.ntmps82
  go_wp2_with (first
    | (refine wpList_app _ rfl _ _ 23 23 rfl w.heap.size 5 i0 _ 1 1 Tryd.underlying23 hi hz0 hz1 hz2 rfl (by omega) (.slice none 0 0) 0 [] rfl (Own.nil _ _ _ _) (.slice a R.length cap) _ _ rfl (Src.of_sl Tryd.underlying23 (hr1 _) bcells_one) (by omega) (by omega) (by simp [World.setCell]) ?_; intro v1 w1 ho1 hg1 hx1)
    | (refine wpList_app _ rfl _ _ 23 23 rfl w.heap.size 5 i0 _ 1 1 Tryd.underlying23 hi hz0 hz1 hz2 rfl (by omega) v1 _ _ rfl ho1 (.slice va b.length vc) _ _ rfl (Src.of_sl Tryd.underlying23 (hb2 hg1) bcells_one) (by omega) (by omega) (Nat.le_trans (by simp [World.setCell]) hg1.size) ?_; intro v2 w2 ho2 hg2 hx2))
  rw [Nat.zero_add] at ho1
  rw [Nat.zero_add, List.nil_append, ← bcells_append, ← List.length_append] at ho2
  have hk1 : Kp [p] w w1 := ((Kp.refl [p] w).setCell (.inl (by simp)) _).grown hg1 nofun
  have hk2 : Kp [p] w w2 := hk1.grown hg2 (fun k hk => .inr (ho1.lt k hk).1)
  have hp2 : w2.heap[p]? = some (.cells (hcells X (.slice a R.length cap) (l.length + b.length)) 137 (0, 0)) := by
    have h := ((Kp.refl [] _).grown hg1 nofun).heap hs1 (by simp)
    rw [hg2.block p (lt_of_heap h) (fun e => by have := (ho1.lt _ e.symm).1; omega), h]
    simp [hcells]
  have hB2 : Bs w2 v2 (R ++ b) := OB.bs ho2
  have hv2 : ∀ k, v2.ownBlock = some k → w.heap.size ≤ k := fun k hk => (ho2.lt k hk).1
  obtain ⟨a2, c2, rfl⟩ := own_form ho2
  have HL := Lib.hid hlen
  clear hlen hb hvp hs1 hg1 hg2 hx1 hx2 ho1 ho2 hk1 hr1 hb1 hb2 hh_8 hh_9 f9 hh
  obtain ⟨m, hm⟩ : ∃ m, m = l.length + b.length := ⟨_, rfl⟩
  rw [← hm] at hp2
  have HM := Lib.hid hm
  clear hm
  go_loopw [4] (fun v wr => ∃ (i : Nat) (X' : W8) (R' : List UInt8) (a' : Option Addr) (c' : Nat), v = .slice a' R'.length c' ∧ absN kW i X (R ++ b) = (X', R') ∧ wr.heap[p]? = some (.cells (hcells X' (.slice a R.length cap) m) 137 (0, 0)) ∧
    Bs wr (.slice a' R'.length c') R' ∧ (∀ k, Value.ownBlock (.slice a' R'.length c') = some k → w.heap.size ≤ k) ∧ Kp [p] w wr ∧ 64 * i + R'.length = (R ++ b).length ) (fun v _ => lenV v)
  case atStart => exact ⟨0, X, R ++ b, a2, c2, by simp, rfl, hp2, by simpa using hB2, by simpa using hv2, hk2, by simp⟩
  case round =>
    obtain ⟨i, X', R', a', c', rfl, hX, hpr, hB, hv, hk, hl⟩ := hrel
    have hGr : GH wr := hG.kp hk (by simpa using hp4)
    by_cases h64 : 64 ≤ R'.length
    · have hd : decide ((64 : Int) ≤ (R'.length : Int)) = true := by rw [decide_eq_true_eq]; omega
      have hX2 := absN_succ kW i X (R ++ b)
      rw [hX] at hX2
      have HX := Lib.hid hX
      have HX2 := Lib.hid hX2
      have Hl := Lib.hid hl
      clear hX hX2 hl
      have hc64 : 64 ≤ c' := by
        obtain ⟨_, _, he, h, _⟩ := Sl.form hB
        cases he; omega
      obtain ⟨_, _, he, _, h6, _, h7⟩ := Sl.form hB
      cases he
      have h8 := absN_rest kW i X (R ++ b)
      obtain ⟨ab, ao, rfl, hab⟩ : ∃ b off, a' = some ⟨b, off, none⟩ ∧ b < wr.heap.size := by
        obtain ⟨_, _, he, _, _, h6, _⟩ := Sl.form hB
        cases he; exact h6 (by omega)
      have hab2 : w.heap.size ≤ ab := hv ab rfl
      clear h6 h7 h8
      unfold hcells at hpr
      have hpr_0 := cell_heap (w := wr) (b := p) hpr 0
      have hpr_1 := cell_heap (w := wr) (b := p) hpr 1
      have hpr_2 := cell_heap (w := wr) (b := p) hpr 2
      have hpr_3 := cell_heap (w := wr) (b := p) hpr 3
      have hpr_4 := cell_heap (w := wr) (b := p) hpr 4
      have hpr_5 := cell_heap (w := wr) (b := p) hpr 5
      have hpr_6 := cell_heap (w := wr) (b := p) hpr 6
      have hpr_7 := cell_heap (w := wr) (b := p) hpr 7
      simp only [List.getElem?_toArray, List.getElem?_cons_zero, List.getElem?_cons_succ] at hpr_0 hpr_1 hpr_2 hpr_3 hpr_4 hpr_5 hpr_6 hpr_7
      have f0 := free_heap hpr 0
      have f1 := free_heap hpr 1
      have f2 := free_heap hpr 2
      have f3 := free_heap hpr 3
      have f4 := free_heap hpr 4
      have f5 := free_heap hpr 5
      have f6 := free_heap hpr 6
      have f7 := free_heap hpr 7
      go_wp2
      have hS : Gr wr [p] wr.drew := Gr.of (fun _ _ => rfl)
      refine wp_plan (.H 0 (.H 1 (.H 2 (.H 3 (.H 4 (.E 5 true (.E 6 true (.E 7 true (.E 8 false (.E 9 false (.E 10 false .Z))))))))))) (Gr wr [p]) (by as_aux_lemma => kernel_rfl) (by as_aux_lemma => kernel_rfl) ?_
      repeat (first | (refine plan_H rfl hS (fun K hK => ?_); go_simp; refine hK _ ?_; clear hK K) | (refine plan_E rfl (fun K hK => ?_); go_simp; (first | refine hK _ _ (fun _ => hS) ?_ | refine hK _ _ nofun ?_); clear hK K))
      have h64c : (64 : Int) ≤ (c' : Int) := by omega
      have h64i : (64 : Int) ≤ (R'.length : Int) := by omega
      have hB64 : Bs wr.drew (.slice (some ⟨ab, ao, none⟩) 64 c') (R'.take 64) := by
        have h := Sl.part hB 0 64 (by omega)
        have h2 := h.kp0 ((Kp.refl [] wr).drew)
        unfold Bs
        rw [List.length_take, Nat.min_eq_left h64]
        simpa [bcells, List.map_take, show c' ≠ 0 by omega, Addr.add] using h2
      have hBr : Sl wr 1 (.slice (if c' = 64 then some ⟨ab, ao, none⟩ else some ⟨ab, ao + 64, none⟩) (R'.length - 64) (c' - 64)) (R'.length - 64) (bcells (R'.drop 64)) := by
        have h := Sl.part hB 64 (R'.length - 64) (by omega)
        have h4 : ((bcells R').drop 64).take (R'.length - 64) = bcells (R'.drop 64) := by
          rw [List.take_of_length_le (by simp)]; simp [bcells, List.map_drop]
        rw [h4] at h
        simpa [Addr.add] using h
      refine plan_E rfl (fun K hK => ?_); go_simp
      refine hK _ _ (fun _ => hS) ?_
      clear hK K
      refine plan_E rfl (fun K hK => ?_); go_simp
      refine (changed_calls X' _ (R'.take 64) _ (hGr.kp0 (Kp.refl [] wr).drew) hB64 (by simp; omega)).mono ?_
      rintro e w5 ⟨rfl, hk5⟩
      have hk6 : Kp [] wr w5 := ((Kp.refl [] wr).drew).trans hk5
      have hS5 : Gr wr [p] w5 := Gr.of (fun b hb => hk6.block b (by simp at hb; subst hb; exact Nat.lt_of_lt_of_le hplt hk.size) (by simp))
      refine hK _ _ (fun _ => hS5) ?_
      clear hK K
      have hp5 := hk6.heap hpr (by simp)
      generalize hY : chg kW X' (R'.take 64) = Y
      have HY := Lib.hid hY
      clear hY hpr_0 hpr_1 hpr_2 hpr_3 hpr_4 hpr_5 hpr_6 hpr_7 f0 f1 f2 f3 f4 f5 f6 f7
      refine plan_E rfl (fun K hK => ?_); go_simp
      refine hK _ _ nofun ?_
      clear hK K
      refine plan_E rfl (fun K hK => ?_); go_simp
      refine hK _ _ nofun ?_
      clear hK K
      refine plan_E rfl (fun K hK => ?_)
      refine step_store_part rfl 135 _ _ rfl p Y.vals rfl rfl 137 _ hp5 size8 (by simp [W8.vals, arr, W8.list, hcells]) (by simp [W8.vals, arr, W8.list, w32, Value.oneCell']) (hcells Y (.slice a R.length cap) m) (by simp [W8.vals, arr, W8.list, hcells, w32]) ?_
      refine hK _ _ nofun ?_
      clear hK K
      refine plan_Z ?_
      have h64r : (64 : Int) ≤ (R'.length : Int) ∧ ((R'.length : Int) - 64).toNat = R'.length - 64 := by omega
      have hn64 : ((R'.length - 64 : Nat) : Int) = (R'.length : Int) - 64 := by omega
      have hd64 : (R'.drop 64).length = R'.length - 64 := by simp
      have hkf := setRow_kp w5 p (hcells Y (.slice a R.length cap) m)
      have hkw : Kp [p] wr (w5.setRow p (hcells Y (.slice a R.length cap) m)) := hk6.nil.trans hkf
      have hrow := setRow_heap w5 p _ (hcells Y (.slice a R.length cap) m) _ _ hp5
      have hne5 : ab ≠ p := by omega
      have hlast : 64 * (i + 1) + (R'.drop 64).length = (R ++ b).length := by have := Hl.out; rw [hd64]; omega
      have hXY : absN kW (i + 1) X (R ++ b) = (Y, R'.drop 64) := by rw [HX2.out, HY.out]
      have HXY := Lib.hid hXY
      have Hlast := Lib.hid hlast
      clear hXY hlast
      go_wp2
      · have hc := h
        go_roundw
        case measure => simp [lenV]; omega
        case rel =>
          refine ⟨i + 1, Y, R'.drop 64, some ⟨ab, ao, none⟩, 0, by simp [hd64], HXY.out, by first | exact hrow | rfl | simp, ?_, fun k h => by cases h; exact hab2, hk.trans hkw, by simpa using Hlast.out⟩
          have h := hBr.kp hkw (fun k hk' => by simp only [hc, if_pos, if_neg, not_false_eq_true, Value.ownBlock, Option.some.injEq] at hk'; subst hk'; simpa using hne5)
          unfold Bs
          rw [hd64]
          simpa [hc] using h
      · have hc := h
        go_roundw
        case measure => simp [lenV]; omega
        case rel =>
          refine ⟨i + 1, Y, R'.drop 64, some ⟨ab, ao + 64, none⟩, c' - 64, by simp [hd64], HXY.out, by first | exact hrow | rfl | simp, ?_, fun k h => by cases h; exact hab2, hk.trans hkw, by simpa using Hlast.out⟩
          have h := hBr.kp hkw (fun k hk' => by simp only [hc, if_pos, if_neg, not_false_eq_true, Value.ownBlock, Option.some.injEq] at hk'; subst hk'; simpa using hne5)
          unfold Bs
          rw [hd64]
          simpa [hc] using h
    · have hd : decide ((64 : Int) ≤ (R'.length : Int)) = false := by rw [decide_eq_false_iff_not]; omega
      have hX3 : absorb kW X (R ++ b) = (X', R') := by unfold absorb; rw [show (R ++ b).length / 64 = i by omega]; exact hX
      have H3 := Lib.hid hX3
      clear hX3 hX hl
      unfold hcells at hpr
      have hpr_8 := cell_heap (w := wr) (b := p) hpr 8
      simp only [List.getElem?_toArray, List.getElem?_cons_zero, List.getElem?_cons_succ] at hpr_8
      have f8 := free_heap hpr 8
      have hst := heap_set (i := 8) (.slice a' R'.length c') hpr
      go_wp2
      go_end0
      have h2 := HA.out.trans H3.out
      have hneb : ∀ k, Value.ownBlock (.slice a' R'.length c') = some k → k ≠ p := fun k hk' => by have := hv k hk'; omega
      refine ⟨rfl, ⟨hp4, a', c', ?_, ?_, ?_⟩, hk.setCell (.inl (by simp)) _⟩
      · rw [h2, hst, HM.out]
        simp [hcells]
      · rw [h2]
        exact hB.kp ((Kp.refl [p] wr).setCell (.inl (by simp)) _) (by simpa using hneb)
      · rw [h2]
        exact hneb
end Go.Proofs.YtddpefbpiehgeaaDoor
