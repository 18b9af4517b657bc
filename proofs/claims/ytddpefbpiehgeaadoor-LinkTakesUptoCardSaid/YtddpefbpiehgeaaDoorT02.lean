/- The digest: New and Write. -/
import Derived.Test.YtddpefbpiehgeaaDoorT01
import Derived.Laws.CopyOwn
import Derived.Laws.IdiomCopy
namespace Go.Proofs.YtddpefbpiehgeaaDoor
open Go Go.RowKit
set_option maxRecDepth 100000
set_option linter.unusedVariables false
set_option linter.unusedSectionVars false
set_option linter.unusedSimpArgs false

/-- The cells of a digest that comes about. -/
def hcells (x : W8) (v : Value) (n : Nat) : Array Value :=
  #[.int .u32 (x.a.toNat : Int), .int .u32 (x.b.toNat : Int), .int .u32 (x.c.toNat : Int), .int .u32 (x.d.toNat : Int), .int .u32 (x.e.toNat : Int), .int .u32 (x.f.toNat : Int), .int .u32 (x.g.toNat : Int), .int .u32 (x.h.toNat : Int), v, .int .i64 n]

/-- A digest at block p that has taken the bytes l. -/
def IsH (w : World) (p : Nat) (l : List UInt8) : Prop :=
  4 ≤ p ∧ ∃ a cap, w.heap[p]? = some (.cells (hcells (absorb kW (startW initW) l).1 (.slice a (absorb kW (startW initW) l).2.length cap) l.length) 137 (0, 0)) ∧
    Bs w (.slice a (absorb kW (startW initW) l).2.length cap) (absorb kW (startW initW) l).2 ∧ (∀ b, Value.ownBlock (.slice a (absorb kW (startW initW) l).2.length cap) = some b → b ≠ p)

theorem hnew_calls (w : World) (hG : GH w) : Calls Tryd.prog 81 #[] w fun e w' => ∃ p, e = .returned (.pointer (some ⟨p, 0, none⟩)) ∧ w.heap.size ≤ p ∧ IsH w' p [] ∧ Kp [] w w' := by
  have g0 := hG.start 0 (by omega)
  have g1 := hG.start 1 (by omega)
  have g2 := hG.start 2 (by omega)
  have g3 := hG.start 3 (by omega)
  have g4 := hG.start 4 (by omega)
  have g5 := hG.start 5 (by omega)
  have g6 := hG.start 6 (by omega)
  have g7 := hG.start 7 (by omega)
  have hg4 := hG.size
  go_enter Tryd.func81, Tryd.ntmps81
  go_wp2
  go_ret
  exact ⟨w.heap.size, rfl, Nat.le_refl _, ⟨hg4, none, 0, heap_alloc_new w _, ⟨rfl, .inl ⟨rfl, rfl⟩⟩, nofun⟩, (Kp.refl [] w).alloc _⟩

def lenV : Value → Nat | .slice _ n _ => n | _ => 0

section
variable {P : Program}
theorem run_cells_part (g : Nat) (t : TypeId) : ∀ (vs : List Value) (i : Nat) (cur : Array Value) (w : World), w.heap[g]? = some (.cells cur t (0, 0)) → i + vs.length ≤ cur.size → (∀ v ∈ vs, v.oneCell' = true) →
    (storeCells ⟨g, 0, none⟩ vs i).run P w = .ok () (w.setRow g (cur.toList.take i ++ vs ++ cur.toList.drop (i + vs.length)).toArray)
  | [], i, cur, w, hg, hl, _ => by
    have hlt : g < w.heap.size := (Array.getElem?_eq_some_iff.1 hg).1
    have hv : w.heap[g] = .cells cur t (0, 0) := (Array.getElem?_eq_some_iff.1 hg).2
    simp only [storeCells, List.append_nil, List.length_nil, Nat.add_zero, List.take_append_drop, Array.toArray_toList]
    show Result.ok () w = _
    congr 1
    unfold World.setRow
    cases w with
    | mk heap tape drawn os output =>
      congr 1
      apply Array.ext
      · simp
      · intro k h1 h2
        simp only [Array.getElem_modify]
        split
        · rename_i hk; subst hk; simp at hv; simp [hv]
        · rfl
  | v :: rest, i, cur, w, hg, hl, h1 => by
    have hi : i < cur.size := by simp at hl; omega
    have hadd : (⟨g, 0, none⟩ : Addr).add i = ⟨g, i, none⟩ := by unfold Addr.add; split <;> simp_all
    have hcell : w.cell? ⟨g, i, none⟩ = some cur[i] := by simp [World.cell?, hg, hi]
    have hfro : w.frozen? ⟨g, i, none⟩ = false := by simp [World.frozen?, hg]
    have hst : (store ((⟨g, 0, none⟩ : Addr).add i) v).run P w = .ok () (w.setRow g (cur.setIfInBounds i v)) := by
      rw [hadd, run_store P w _ v _ (h1 v (by simp)), hcell]
      simp [hfro, setCell_eq_setRow w g i cur t (0, 0) v hg]
    have ih := run_cells_part g t rest (i + 1) (cur.setIfInBounds i v) (w.setRow g (cur.setIfInBounds i v)) (setRow_heap w g cur _ t _ hg) (by simp at hl ⊢; omega) (fun x hx => h1 x (by simp [hx]))
    simp only [storeCells, Sem.run_bind, hst, Result.andThen_ok, ih, setRow_setRow]
    congr 3
    have h2 : cur.toList.set i v = cur.toList.take i ++ v :: cur.toList.drop (i + 1) := List.set_eq_take_append_cons_drop.trans (by simp [hi])
    have h3 : (cur.toList.take i).length = i := by simp; omega
    rw [Array.toList_setIfInBounds, h2, List.take_append, List.drop_append, h3]
    simp [show i + 1 - i = 1 by omega, show i + 1 + rest.length - i = rest.length + 1 by omega, show i + (rest.length + 1) = i + 1 + rest.length by omega]
    rw [List.take_of_length_le (by simp; omega)]
    simp
    omega

theorem step_store_part {ops : Array Oper} {o : Oper} {a : Act} {w : World} {K : Act → World → Prop} {Q : Exit → Act → World → Prop} {E : Prop} (hgd : o.guard = none) (ty : TypeId) (x y : Operand) (ho : o.op = .store ty x y)
    (g : Nat) (cells : Array Value) (hx : a.eval x = .pointer (some ⟨g, 0, none⟩)) (hy : a.eval y = .agg cells)
    (t : TypeId) (old : Array Value) (hg : w.heap[g]? = some (.cells old t (0, 0))) (hi : (P.info? ty).map (·.size) = some cells.size)
    (hold : cells.size ≤ old.size) (h1 : ∀ v ∈ cells.toList, v.oneCell' = true)
    (new : Array Value) (hnew : (cells.toList ++ old.toList.drop cells.size).toArray = new)
    (h : K (a.put o.dst undef) (w.setRow g new)) : if Region.wanted o (yielded ops a.tmps) = true then Oper.wp P o a w K Q else E := by
  have hw : Region.wanted o (yielded ops a.tmps) = true := by simp [Region.wanted, hgd]
  rw [if_pos hw]
  subst hnew
  have hr := run_cells_part (P := P) g t cells.toList 0 old w hg (by simpa using hold) h1
  have hr2 : (storeVar ty ⟨g, 0, none⟩ (.agg cells)).run P w = .ok () (w.setRow g (cells.toList ++ old.toList.drop cells.size).toArray) := by
    cases hq : P.info? ty with
    | none => simp [hq] at hi
    | some i =>
      have hs : cells.size = i.size := by simp [hq] at hi; omega
      simp at hr
      simp [storeVar, sizeOf, typeInfo, hq, Value.cells, hs, hr]
  unfold Oper.wp execOp
  simp only [ho, hx, hy, Instr.storeAt, Instr.sureAddr, Sem.run_bind, Sem.run_pure, Result.andThen_ok, hr2]
  exact h
end

theorem setRow_kp (w : World) (g : Nat) (cs : Array Value) : Kp [g] w (w.setRow g cs) := ⟨rfl, rfl, rfl, by simp only [World.setRow, Array.size_modify]; exact Nat.le_refl _, fun k hk hs => setRow_other w g k _ (by simpa using hs)⟩

set_option maxHeartbeats 1000000 in
theorem hwrite_calls (p : Nat) (l b : List UInt8) (v : Value) (w : World) (hG : GH w) (hH : IsH w p l) (hb : Bs w v b) (hvp : own1 v ≠ some p) (hlen : l.length + b.length ≤ 140737488355000) :
    Calls Tryd.prog 82 #[.pointer (some ⟨p, 0, none⟩), v] w fun e w' => e = .returned (.tuple #[]) ∧ IsH w' p (l ++ b) ∧ Kp [p] w w' := by
  obtain ⟨hp4, a, cap, hh, hr, hne⟩ := hH
  obtain ⟨i0, hi, hz0, hz1, hz2⟩ := info_parts u8info
  have hplt := lt_of_heap hh
  have hrest := absorb_rest kW (startW initW) l
  have happ := absorb_append kW (startW initW) l b
  generalize absorb kW (startW initW) l = A0 at *
  obtain ⟨X, R⟩ := A0
  simp only at hh hr hne hrest happ
  have hRl : R.length ≤ 63 := by omega
  have HA := Lib.hid happ
  clear happ hrest
  obtain ⟨va, vc, rfl, _⟩ := Sl.form hb
  have hr1 : ∀ u, Bs (w.setCell ⟨p, 9, none⟩ u) (.slice a R.length cap) R := fun u => hr.kp ((Kp.refl [p] w).setCell (.inl (by simp)) u) (by simpa using hne)
  have hb1 : ∀ u, Bs (w.setCell ⟨p, 9, none⟩ u) (.slice va b.length vc) b := fun u => hb.kq ((Kp.refl [p] w).setCell (.inl (by simp)) u) (fun k hk => by simp; rintro rfl; exact hvp hk)
  have hb2 : ∀ {u w1}, World.grownBy (w.setCell ⟨p, 9, none⟩ u) w1 (Value.ownBlock (.slice none 0 0)) → Bs w1 (.slice va b.length vc) b := fun hg => (hb1 _).kq ((Kp.refl [p] _).grown hg nofun) (fun k hk => by simp; rintro rfl; exact hvp hk)
  unfold hcells at hh
  have hh_8 := cell_heap (w := w) (b := p) hh 8
  have hh_9 := cell_heap (w := w) (b := p) hh 9
  simp only [List.getElem?_toArray, List.getElem?_cons_zero, List.getElem?_cons_succ] at hh_8 hh_9
  have f9 := free_heap hh 9
  have hs1 := heap_set (i := 9) (.int .i64 (↑l.length + ↑b.length)) hh
  go_enter Tryd.func82, Tryd.ntmps82
  go_wp2_with (first
    | (refine wpList_app _ rfl _ _ 23 23 rfl w.heap.size 5 i0 _ 1 1 Tryd.underlying23 hi hz0 hz1 hz2 rfl (by omega) (.slice none 0 0) 0 [] rfl (Own.nil _ _ _ _) (.slice a R.length cap) _ _ rfl (Src.of_sl Tryd.underlying23 (hr1 _) bcells_one) (by omega) (by omega) (by simp [World.setCell]) ?_; intro v1 w1 ho1 hg1 hx1)
    | (refine wpList_app _ rfl _ _ 23 23 rfl w.heap.size 5 i0 _ 1 1 Tryd.underlying23 hi hz0 hz1 hz2 rfl (by omega) v1 _ _ rfl ho1 (.slice va b.length vc) _ _ rfl (Src.of_sl Tryd.underlying23 (hb2 hg1) bcells_one) (by omega) (by omega) (Nat.le_trans (by simp [World.setCell]) hg1.size) ?_; intro v2 w2 ho2 hg2 hx2))
  rw [Nat.zero_add] at ho1
  rw [Nat.zero_add, List.nil_append, ← bcells_append, ← List.length_append] at ho2
  have hk1 : Kp [p] w w1 := ((Kp.refl [p] w).setCell (.inl (by simp)) _).grown hg1 nofun
  have hk2 : Kp [p] w w2 := hk1.grown hg2 (fun k hk => .inr (ho1.lt k hk).1)
  have hp2 : w2.heap[p]? = some (.cells (hcells X (.slice a R.length cap) (l.length + b.length)) 137 (0, 0)) := by
    have h := ((Kp.refl [] _).grown hg1 nofun).heap hs1 (by simp)
    rw [hg2.block p (lt_of_heap h) (fun e => by have := (ho1.lt _ e.symm).1; omega), h]
    simp [hcells]
  have hB2 : Bs w2 v2 (R ++ b) := OB.bs ho2
  have hv2 : ∀ k, v2.ownBlock = some k → w.heap.size ≤ k := fun k hk => (ho2.lt k hk).1
  obtain ⟨a2, c2, rfl⟩ := own_form ho2
  have HL := Lib.hid hlen
  clear hlen hb hvp hs1 hg1 hg2 hx1 hx2 ho1 ho2 hk1 hr1 hb1 hb2 hh_8 hh_9 f9 hh
  obtain ⟨m, hm⟩ : ∃ m, m = l.length + b.length := ⟨_, rfl⟩
  rw [← hm] at hp2
  have HM := Lib.hid hm
  clear hm
  go_loopw [4] (fun v wr => ∃ (i : Nat) (X' : W8) (R' : List UInt8) (a' : Option Addr) (c' : Nat), v = .slice a' R'.length c' ∧ absN kW i X (R ++ b) = (X', R') ∧ wr.heap[p]? = some (.cells (hcells X' (.slice a R.length cap) m) 137 (0, 0)) ∧
    Bs wr (.slice a' R'.length c') R' ∧ (∀ k, Value.ownBlock (.slice a' R'.length c') = some k → w.heap.size ≤ k) ∧ Kp [p] w wr ∧ 64 * i + R'.length = (R ++ b).length ) (fun v _ => lenV v)
  case atStart => exact ⟨0, X, R ++ b, a2, c2, by simp, rfl, hp2, by simpa using hB2, by simpa using hv2, hk2, by simp⟩
  case round =>
    obtain ⟨i, X', R', a', c', rfl, hX, hpr, hB, hv, hk, hl⟩ := hrel
    have hGr : GH wr := hG.kp hk (by simpa using hp4)
    by_cases h64 : 64 ≤ R'.length
    · have hd : decide ((64 : Int) ≤ (R'.length : Int)) = true := by rw [decide_eq_true_eq]; omega
      have hX2 := absN_succ kW i X (R ++ b)
      rw [hX] at hX2
      have HX := Lib.hid hX
      have HX2 := Lib.hid hX2
      have Hl := Lib.hid hl
      clear hX hX2 hl
      have hc64 : 64 ≤ c' := by
        obtain ⟨_, _, he, h, _⟩ := Sl.form hB
        cases he; omega
      obtain ⟨_, _, he, _, h6, _, h7⟩ := Sl.form hB
      cases he
      have h8 := absN_rest kW i X (R ++ b)
      obtain ⟨ab, ao, rfl, hab⟩ : ∃ b off, a' = some ⟨b, off, none⟩ ∧ b < wr.heap.size := by
        obtain ⟨_, _, he, _, _, h6, _⟩ := Sl.form hB
        cases he; exact h6 (by omega)
      have hab2 : w.heap.size ≤ ab := hv ab rfl
      clear h6 h7 h8
      unfold hcells at hpr
      have hpr_0 := cell_heap (w := wr) (b := p) hpr 0
      have hpr_1 := cell_heap (w := wr) (b := p) hpr 1
      have hpr_2 := cell_heap (w := wr) (b := p) hpr 2
      have hpr_3 := cell_heap (w := wr) (b := p) hpr 3
      have hpr_4 := cell_heap (w := wr) (b := p) hpr 4
      have hpr_5 := cell_heap (w := wr) (b := p) hpr 5
      have hpr_6 := cell_heap (w := wr) (b := p) hpr 6
      have hpr_7 := cell_heap (w := wr) (b := p) hpr 7
      simp only [List.getElem?_toArray, List.getElem?_cons_zero, List.getElem?_cons_succ] at hpr_0 hpr_1 hpr_2 hpr_3 hpr_4 hpr_5 hpr_6 hpr_7
      have f0 := free_heap hpr 0
      have f1 := free_heap hpr 1
      have f2 := free_heap hpr 2
      have f3 := free_heap hpr 3
      have f4 := free_heap hpr 4
      have f5 := free_heap hpr 5
      have f6 := free_heap hpr 6
      have f7 := free_heap hpr 7
      go_wp2
      have hS : Gr wr [p] wr.drew := Gr.of (fun _ _ => rfl)
      refine wp_plan (.H 0 (.H 1 (.H 2 (.H 3 (.H 4 (.E 5 true (.E 6 true (.E 7 true (.E 8 false (.E 9 false (.E 10 false .Z))))))))))) (Gr wr [p]) (by as_aux_lemma => kernel_rfl) (by as_aux_lemma => kernel_rfl) ?_
      repeat (first | (refine plan_H rfl hS (fun K hK => ?_); go_simp; refine hK _ ?_; clear hK K) | (refine plan_E rfl (fun K hK => ?_); go_simp; (first | refine hK _ _ (fun _ => hS) ?_ | refine hK _ _ nofun ?_); clear hK K))
      have h64c : (64 : Int) ≤ (c' : Int) := by omega
      have h64i : (64 : Int) ≤ (R'.length : Int) := by omega
      have hB64 : Bs wr.drew (.slice (some ⟨ab, ao, none⟩) 64 c') (R'.take 64) := by
        have h := Sl.part hB 0 64 (by omega)
        have h2 := h.kp0 ((Kp.refl [] wr).drew)
        unfold Bs
        rw [List.length_take, Nat.min_eq_left h64]
        simpa [bcells, List.map_take, show c' ≠ 0 by omega, Addr.add] using h2
      have hBr : Sl wr 1 (.slice (if c' = 64 then some ⟨ab, ao, none⟩ else some ⟨ab, ao + 64, none⟩) (R'.length - 64) (c' - 64)) (R'.length - 64) (bcells (R'.drop 64)) := by
        have h := Sl.part hB 64 (R'.length - 64) (by omega)
        have h4 : ((bcells R').drop 64).take (R'.length - 64) = bcells (R'.drop 64) := by
          rw [List.take_of_length_le (by simp)]; simp [bcells, List.map_drop]
        rw [h4] at h
        simpa [Addr.add] using h
      refine plan_E rfl (fun K hK => ?_); go_simp
      refine hK _ _ (fun _ => hS) ?_
      clear hK K
      refine plan_E rfl (fun K hK => ?_); go_simp
      refine (changed_calls X' _ (R'.take 64) _ (hGr.kp0 (Kp.refl [] wr).drew) hB64 (by simp; omega)).mono ?_
      rintro e w5 ⟨rfl, hk5⟩
      have hk6 : Kp [] wr w5 := ((Kp.refl [] wr).drew).trans hk5
      have hS5 : Gr wr [p] w5 := Gr.of (fun b hb => hk6.block b (by simp at hb; subst hb; exact Nat.lt_of_lt_of_le hplt hk.size) (by simp))
      refine hK _ _ (fun _ => hS5) ?_
      clear hK K
      have hp5 := hk6.heap hpr (by simp)
      generalize hY : chg kW X' (R'.take 64) = Y
      have HY := Lib.hid hY
      clear hY hpr_0 hpr_1 hpr_2 hpr_3 hpr_4 hpr_5 hpr_6 hpr_7 f0 f1 f2 f3 f4 f5 f6 f7
      refine plan_E rfl (fun K hK => ?_); go_simp
      refine hK _ _ nofun ?_
      clear hK K
      refine plan_E rfl (fun K hK => ?_); go_simp
      refine hK _ _ nofun ?_
      clear hK K
      refine plan_E rfl (fun K hK => ?_)
      refine step_store_part rfl 135 _ _ rfl p Y.vals rfl rfl 137 _ hp5 size8 (by simp [W8.vals, arr, W8.list, hcells]) (by simp [W8.vals, arr, W8.list, w32, Value.oneCell']) (hcells Y (.slice a R.length cap) m) (by simp [W8.vals, arr, W8.list, hcells, w32]) ?_
      refine hK _ _ nofun ?_
      clear hK K
      refine plan_Z ?_
      have h64r : (64 : Int) ≤ (R'.length : Int) ∧ ((R'.length : Int) - 64).toNat = R'.length - 64 := by omega
      have hn64 : ((R'.length - 64 : Nat) : Int) = (R'.length : Int) - 64 := by omega
      have hd64 : (R'.drop 64).length = R'.length - 64 := by simp
      have hkf := setRow_kp w5 p (hcells Y (.slice a R.length cap) m)
      have hkw : Kp [p] wr (w5.setRow p (hcells Y (.slice a R.length cap) m)) := hk6.nil.trans hkf
      have hrow := setRow_heap w5 p _ (hcells Y (.slice a R.length cap) m) _ _ hp5
      have hne5 : ab ≠ p := by omega
      have hlast : 64 * (i + 1) + (R'.drop 64).length = (R ++ b).length := by have := Hl.out; rw [hd64]; omega
      have hXY : absN kW (i + 1) X (R ++ b) = (Y, R'.drop 64) := by rw [HX2.out, HY.out]
      have HXY := Lib.hid hXY
      have Hlast := Lib.hid hlast
      clear hXY hlast
      go_wp2
      · have hc := h
        go_roundw
        case measure => simp [lenV]; omega
        case rel =>
          refine ⟨i + 1, Y, R'.drop 64, some ⟨ab, ao, none⟩, 0, by simp [hd64], HXY.out, by first | exact hrow | rfl | simp, ?_, fun k h => by cases h; exact hab2, hk.trans hkw, by simpa using Hlast.out⟩
          have h := hBr.kp hkw (fun k hk' => by simp only [hc, if_pos, if_neg, not_false_eq_true, Value.ownBlock, Option.some.injEq] at hk'; subst hk'; simpa using hne5)
          unfold Bs
          rw [hd64]
          simpa [hc] using h
      · have hc := h
        go_roundw
        case measure => simp [lenV]; omega
        case rel =>
          refine ⟨i + 1, Y, R'.drop 64, some ⟨ab, ao + 64, none⟩, c' - 64, by simp [hd64], HXY.out, by first | exact hrow | rfl | simp, ?_, fun k h => by cases h; exact hab2, hk.trans hkw, by simpa using Hlast.out⟩
          have h := hBr.kp hkw (fun k hk' => by simp only [hc, if_pos, if_neg, not_false_eq_true, Value.ownBlock, Option.some.injEq] at hk'; subst hk'; simpa using hne5)
          unfold Bs
          rw [hd64]
          simpa [hc] using h
    · have hd : decide ((64 : Int) ≤ (R'.length : Int)) = false := by rw [decide_eq_false_iff_not]; omega
      have hX3 : absorb kW X (R ++ b) = (X', R') := by unfold absorb; rw [show (R ++ b).length / 64 = i by omega]; exact hX
      have H3 := Lib.hid hX3
      clear hX3 hX hl
      unfold hcells at hpr
      have hpr_8 := cell_heap (w := wr) (b := p) hpr 8
      simp only [List.getElem?_toArray, List.getElem?_cons_zero, List.getElem?_cons_succ] at hpr_8
      have f8 := free_heap hpr 8
      have hst := heap_set (i := 8) (.slice a' R'.length c') hpr
      go_wp2
      go_end0
      have h2 := HA.out.trans H3.out
      have hneb : ∀ k, Value.ownBlock (.slice a' R'.length c') = some k → k ≠ p := fun k hk' => by have := hv k hk'; omega
      refine ⟨rfl, ⟨hp4, a', c', ?_, ?_, ?_⟩, hk.setCell (.inl (by simp)) _⟩
      · rw [h2, hst, HM.out]
        simp [hcells]
      · rw [h2]
        exact hB.kp ((Kp.refl [p] wr).setCell (.inl (by simp)) _) (by simpa using hneb)
      · rw [h2]
        exact hneb
end Go.Proofs.YtddpefbpiehgeaaDoor

/- The digest: Sum. -/
namespace Go.Proofs.YtddpefbpiehgeaaDoor
open Go Go.RowKit
set_option maxRecDepth 100000
set_option linter.unusedVariables false
set_option linter.unusedSectionVars false
set_option linter.unusedSimpArgs false

theorem bs_alloc (w : World) (T : TypeId) (l : List UInt8) (cs : Array Value) (hcs : cs = (bcells l).toArray) (n : Nat) (hn : n = l.length) :
    Bs (w.alloc (.cells cs T)) (.slice (some ⟨w.heap.size, 0, none⟩) n n) l := by
  subst hcs hn
  refine ⟨by simp only [bcells_length, Nat.mul_one], .inr (.inr ⟨w.heap.size, 0, l.length, rfl, Nat.le_refl _, by simp only [World.alloc, Array.size_push]; omega, fun j u hu => ?_⟩)⟩
  rw [Nat.zero_add, cell_heap (heap_alloc_new w _)]
  simpa using hu

theorem idx8 (X : W8) (n : Nat) (h : n < 8) (w : World) :
    (Instr.index 135 (.agg X.vals) (.int .i64 n)).run Tryd.prog w = .ok (.int .u32 ((X.list.getD n 0).toNat : Int)) w := by
  have h1 : (0 : Int) ≤ (n : Int) ∧ (n : Int) < 8 := by omega
  have hs : (Tryd.prog.info? 133).map (·.size) = some 1 := by kernel_rfl
  obtain ⟨i, hi, hi2⟩ : ∃ i, Tryd.prog.info? 133 = some i ∧ i.size = 1 := by
    cases hq : Tryd.prog.info? 133 with
    | none => rw [hq] at hs; cases hs
    | some i => rw [hq] at hs; exact ⟨i, rfl, by simpa using hs⟩
  have hL : X.list.length = 8 := rfl
  have hg : X.vals[n]? = some (w32 X.list[n]) := arr_get X.list n (by omega)
  simp [Instr.index, asIntOf, run_underlying Tryd.underlying135, sizeOf, typeInfo, hi, hi2, h1, part, hg, hL, h, w32]
  rfl

theorem dig4 (n : Nat) : (#[.int .u8 ((n : Int) / 16777216 % 256), .int .u8 ((n : Int) / 65536 % 256), .int .u8 ((n : Int) / 256 % 256), .int .u8 ((n : Int) % 256)] : Array Value) = (bcells (dig n 4)).toArray := by
  simp [dig_cons, bcells, dig]
  omega

theorem cells8 {w : World} {b : Nat} {a0 a1 a2 a3 a4 a5 a6 a7 : Value} {T : TypeId} {fr : Nat × Nat} (h : w.heap[b]? = some (.cells #[a0, a1, a2, a3, a4, a5, a6, a7] T fr)) :
    w.cell? ⟨b, 0, none⟩ = some a0 ∧ w.cell? ⟨b, 1, none⟩ = some a1 ∧ w.cell? ⟨b, 2, none⟩ = some a2 ∧ w.cell? ⟨b, 3, none⟩ = some a3 ∧ w.cell? ⟨b, 4, none⟩ = some a4 ∧ w.cell? ⟨b, 5, none⟩ = some a5 ∧ w.cell? ⟨b, 6, none⟩ = some a6 ∧ w.cell? ⟨b, 7, none⟩ = some a7 :=
  ⟨cell_heap h 0, cell_heap h 1, cell_heap h 2, cell_heap h 3, cell_heap h 4, cell_heap h 5, cell_heap h 6, cell_heap h 7⟩

set_option maxHeartbeats 1000000 in
theorem hsum_calls (p : Nat) (l : List UInt8) (w : World) (hG : GH w) (hH : IsH w p l) (hlen : l.length ≤ 140737488355000) :
    Calls Tryd.prog 83 #[.pointer (some ⟨p, 0, none⟩)] w fun e w' => ∃ v, e = .returned v ∧ OB w' 5 w.heap.size v (digest kW initW l) ∧ Kp [] w w' := by
  obtain ⟨hp4, a, cap, hh, hr, hne⟩ := hH
  obtain ⟨i0, hi, hz0, hz1, hz2⟩ := info_parts u8info
  have hplt := lt_of_heap hh
  have hrest := absorb_rest kW (startW initW) l
  have happ := absorb_append kW (startW initW) l (padOf l.length)
  have hdig : digest kW initW l = outOf (absorb kW (startW initW) (l ++ padOf l.length)).1.list := rfl
  rw [happ] at hdig
  generalize digest kW initW l = D at hdig ⊢
  clear happ
  generalize absorb kW (startW initW) l = A0 at *
  obtain ⟨X, R⟩ := A0
  simp only at hh hr hne hrest hdig
  have hRl : R.length ≤ 63 := by omega
  have HD := Lib.hid hdig
  have HR := Lib.hid hrest
  clear hdig hrest
  unfold hcells at hh
  have hh_8 := cell_heap (w := w) (b := p) hh 8
  have hh_9 := cell_heap (w := w) (b := p) hh 9
  simp only [List.getElem?_toArray, List.getElem?_cons_zero, List.getElem?_cons_succ] at hh_8 hh_9
  go_enter Tryd.func83, Tryd.ntmps83
  go_wp2_with (first
    | (refine wpList_app _ rfl _ _ 23 23 rfl w.heap.size 5 i0 _ 1 1 Tryd.underlying23 hi hz0 hz1 hz2 rfl (by omega) (.slice none 0 0) 0 [] rfl (Own.nil _ _ _ _) (.slice a R.length cap) _ _ rfl (Src.of_sl Tryd.underlying23 hr bcells_one) (by omega) (by omega) (Nat.le_refl _) ?_; intro v1 w1 ho1 hg1 hx1; rw [Nat.zero_add, List.nil_append] at ho1; have hk1 := (Kp.refl [] w).grown hg1 nofun)
    | (refine wpList_app _ rfl _ _ 23 23 rfl w.heap.size 5 i0 _ 1 1 Tryd.underlying23 hi hz0 hz1 hz2 rfl (by omega) v1 R.length (bcells R) rfl (own_kp ho1 ((Kp.refl [] w1).alloc _) (by simp)) (.slice (some ⟨w1.heap.size, 0, none⟩) 1 1) 1 (bcells [128]) rfl (Src.of_sl Tryd.underlying23 (bs_alloc w1 _ [128] _ rfl 1 rfl) bcells_one) (by omega) (by omega) (by have := hk1.size; simp; omega) ?_; intro v2 w2 ho2 hg2 hx2))
  have hk2 : Kp [] w w2 := (hk1.alloc _).grown hg2 (fun k hk => .inr (ho1.lt k hk).1)
  rw [← bcells_append] at ho2
  have hz : ∃ z, z = (119 - l.length % 64) % 64 := ⟨_, rfl⟩
  obtain ⟨z, hz⟩ := hz
  have hz56 : (R.length + 1 + z) % 64 = 56 := by have := HR.out; omega
  have hz63 : z ≤ 63 := by omega
  have hzl : ∀ i, i < z → (R.length + 1 + i) % 64 ≠ 56 := by have := HR.out; intros; omega
  have HZ := Lib.hid hz
  clear hz
  obtain ⟨a2, c2, rfl⟩ := own_form ho2
  clear hx1 hx2 hg1 hg2 ho1 hk1
  go_loopw [3] (fun v wr => ∃ (i : Nat) (av : Option Addr) (c : Nat), i ≤ z ∧ v = .slice av (R.length + 1 + i) c ∧ Own wr w.heap.size 5 1 (.slice av (R.length + 1 + i) c) (R.length + 1 + i) (bcells (R ++ 128 :: List.replicate i 0)) ∧ Kp [] w wr) (fun v _ => z + R.length + 1 - lenV v)
  case atStart => exact ⟨0, a2, c2, by omega, rfl, ho2, hk2⟩
  case round =>
    obtain ⟨i, av, c, hiz, rfl, ho, hk⟩ := hrel
    by_cases hlt : i < z
    · have hne := hzl i hlt
      have hneb : (((R.length : Int) + 1 + (i : Int)) % 64 != 56) = true := by simp; omega
      have hno := own_kp ho ((Kp.refl [] wr).alloc (.cells #[.int .u8 0] 5)) (by simp)
      go_wp2_with (with_reducible refine stop_app ?_)
      unfold Stop
      refine wpList_app _ rfl _ _ 23 23 rfl w.heap.size 5 i0 _ 1 1 Tryd.underlying23 hi hz0 hz1 hz2 rfl (by omega) (.slice av (R.length + 1 + i) c) _ _ rfl hno (.slice (some ⟨wr.heap.size, 0, none⟩) 1 1) 1 (bcells ([0])) rfl (Src.of_sl Tryd.underlying23 (bs_alloc wr _ [0] _ rfl 1 rfl) bcells_one) (by omega) (by omega) (by have := hk.size; simp; omega) ?_
      intro v3 w3 ho3 hg3 hx3
      have hk3 := (hk.alloc (.cells #[.int .u8 0] 5)).grown hg3 (fun k hk => .inr (ho.lt k hk).1)
      obtain ⟨a3, c3, rfl⟩ := own_form ho3
      rw [← bcells_append, show (R ++ 128 :: List.replicate i 0) ++ [0] = R ++ 128 :: List.replicate (i + 1) 0 by simp [List.replicate_succ']] at ho3
      go_wp2
      go_roundw
      case measure => simp [lenV]; omega
      case rel => exact ⟨i + 1, a3, c3, by omega, by simp; omega, by simpa [Nat.add_assoc] using ho3, hk3⟩
    · have hne : (R.length + 1 + i) % 64 = 56 := by rw [show i = z by omega]; exact hz56
      have hneb : (((R.length : Int) + 1 + (i : Int)) % 64 != 56) = false := by simp; omega
      go_wp2
      obtain ⟨q, hq⟩ : ∃ q, q = R ++ 128 :: List.replicate i 0 := ⟨_, rfl⟩
      have hql : q.length = R.length + 1 + i := by simp [hq]; omega
      rw [← hq, ← hql] at ho
      have hqd : q ++ dig (8 * l.length) 8 = R ++ padOf l.length := by rw [hq, padOf, show i = (119 - l.length % 64) % 64 by rw [← HZ.out]; omega]; simp
      have HQ := Lib.hid hqd
      have HQL := Lib.hid hql
      have hq64 : q.length ≤ 128 := by omega
      have hqm : (q.length + 8) % 64 = 0 := by omega
      simp only [← hql]
      clear hq hqd hql hneb hne hzl hz56
      obtain ⟨wo, rfl⟩ : ∃ wo : World, wo = wr := ⟨wr, rfl⟩
      go_loopw [3, 4] (fun v v4 wr => ∃ (k : Nat) (av : Option Addr) (c : Nat) (q' : List UInt8), k ≤ 8 ∧ v4 = .int .i64 ((k : Int) - 1) ∧ v = .slice av q'.length c ∧ OB wr 5 w.heap.size (.slice av q'.length c) q' ∧ q' ++ dig (8 * l.length) k = q ++ dig (8 * l.length) 8 ∧ q'.length + k = q.length + 8 ∧ Kp [] w wr) (fun _ v _ => (intOf v + 1).toNat)
      case atStart => exact ⟨8, av, c, q, by omega, by simp, rfl, ho, rfl, rfl, hk⟩
      case round =>
        obtain ⟨k, av', c', q', hk8, rfl, rfl, ho', hqq, hql', hk'⟩ := hrel
        obtain _ | k := k
        · -- all bytes are there
          have hq0 : q' = R ++ padOf l.length := by rw [← HQ.out, ← hqq]; simp [dig]
          have hql2 : q'.length % 64 = 0 := by omega
          have hq200 : q'.length ≤ 200 := by omega
          have HQ0 := Lib.hid hq0
          clear hqq hq0 hql'
          have hhw := hk'.heap hh (by simp)
          have hhw_0 := cell_heap (w := wr) (b := p) hhw 0
          have hhw_1 := cell_heap (w := wr) (b := p) hhw 1
          have hhw_2 := cell_heap (w := wr) (b := p) hhw 2
          have hhw_3 := cell_heap (w := wr) (b := p) hhw 3
          have hhw_4 := cell_heap (w := wr) (b := p) hhw 4
          have hhw_5 := cell_heap (w := wr) (b := p) hhw 5
          have hhw_6 := cell_heap (w := wr) (b := p) hhw 6
          have hhw_7 := cell_heap (w := wr) (b := p) hhw 7
          simp only [List.getElem?_toArray, List.getElem?_cons_zero, List.getElem?_cons_succ] at hhw_0 hhw_1 hhw_2 hhw_3 hhw_4 hhw_5 hhw_6 hhw_7
          go_wp2_with fail
          obtain ⟨wb, rfl⟩ : ∃ wb : World, wb = wr := ⟨wr, rfl⟩
          have hkb := hk'.alloc (.cells X.vals 135)
          have hBq : Bs (wb.alloc (.cells X.vals 135)) (.slice av' q'.length c') q' := (OB.bs ho').kp0 ((Kp.refl [] wb).alloc _)
          have hltq := ho'.lt
          have hXrow := heap_alloc_new wb (.cells X.vals 135)
          have hGb := hG.kp0 hkb
          clear hhw_0 hhw_1 hhw_2 hhw_3 hhw_4 hhw_5 hhw_6 hhw_7 hhw hk hk2 ho ho' ho2
          have hq64b := hk'.size
          have HK := Lib.hid hql2
          go_loopw [3] (fun v wr => ∃ (i : Nat) (X' : W8) (R' : List UInt8) (a' : Option Addr) (c' : Nat), v = .slice a' R'.length c' ∧ absN kW i X q' = (X', R') ∧ wr.heap[wb.heap.size]? = some (.cells X'.vals 135 (0, 0)) ∧
            Bs wr (.slice a' R'.length c') R' ∧ (∀ k, Value.ownBlock (.slice a' R'.length c') = some k → k < wb.heap.size) ∧ Kp [] w wr ∧ 64 * i + R'.length = q'.length ) (fun v _ => lenV v)
          case atStart => exact ⟨0, X, q', av', c', rfl, rfl, hXrow, hBq, fun k h => (hltq k h).2, hkb, by omega⟩
          case round =>
            obtain ⟨i, X', R', a', c', rfl, hX, hpr, hB, hv, hkr, hl⟩ := hrel
            have hGr : GH wr := hG.kp0 hkr
            have hbs := lt_of_heap hpr
            by_cases h0 : 0 < R'.length
            · have h64 : 64 ≤ R'.length := by omega
              have hd : decide ((0 : Int) < (R'.length : Int)) = true := by rw [decide_eq_true_eq]; omega
              have hX2 := absN_succ kW i X q'
              rw [hX] at hX2
              have HX := Lib.hid hX
              have HX2 := Lib.hid hX2
              have Hl := Lib.hid hl
              clear hX hX2 hl
              have hc64 : 64 ≤ c' := by
                obtain ⟨_, _, he, h, _⟩ := Sl.form hB
                cases he; omega
              obtain ⟨ab, ao, rfl, hab⟩ : ∃ b off, a' = some ⟨b, off, none⟩ ∧ b < wr.heap.size := by
                obtain ⟨_, _, he, _, _, h6, _⟩ := Sl.form hB
                cases he; exact h6 (by omega)
              have hab2 : ab < wb.heap.size := hv ab rfl
              rw [vals_eq] at hpr
              have hpr_0 := cell_heap (w := wr) (b := wb.heap.size) hpr 0
              have hpr_1 := cell_heap (w := wr) (b := wb.heap.size) hpr 1
              have hpr_2 := cell_heap (w := wr) (b := wb.heap.size) hpr 2
              have hpr_3 := cell_heap (w := wr) (b := wb.heap.size) hpr 3
              have hpr_4 := cell_heap (w := wr) (b := wb.heap.size) hpr 4
              have hpr_5 := cell_heap (w := wr) (b := wb.heap.size) hpr 5
              have hpr_6 := cell_heap (w := wr) (b := wb.heap.size) hpr 6
              have hpr_7 := cell_heap (w := wr) (b := wb.heap.size) hpr 7
              simp only [List.getElem?_toArray, List.getElem?_cons_zero, List.getElem?_cons_succ] at hpr_0 hpr_1 hpr_2 hpr_3 hpr_4 hpr_5 hpr_6 hpr_7
              go_wp2
              have hS : Gr wr [wb.heap.size] wr.drew := Gr.of (fun _ _ => rfl)
              refine wp_plan (.H 0 (.E 1 true (.E 2 true (.E 3 false (.E 4 false .Z))))) (Gr wr [wb.heap.size]) (by as_aux_lemma => kernel_rfl) (by as_aux_lemma => kernel_rfl) ?_
              have h64c : (64 : Int) ≤ (c' : Int) := by omega
              have h64i : (64 : Int) ≤ (R'.length : Int) := by omega
              repeat (first | (refine plan_H rfl hS (fun K hK => ?_); go_simp; refine hK _ ?_; clear hK K) | (refine plan_E rfl (fun K hK => ?_); go_simp; (first | refine hK _ _ (fun _ => hS) ?_ | refine hK _ _ nofun ?_); clear hK K))
              have hB64 : Bs wr.drew (.slice (some ⟨ab, ao, none⟩) 64 c') (R'.take 64) := by
                have h := Sl.part hB 0 64 (by omega)
                have h2 := h.kp0 ((Kp.refl [] wr).drew)
                unfold Bs
                rw [List.length_take, Nat.min_eq_left h64]
                simpa [bcells, List.map_take, show c' ≠ 0 by omega, Addr.add] using h2
              have hBr : Sl wr 1 (.slice (if c' = 64 then some ⟨ab, ao, none⟩ else some ⟨ab, ao + 64, none⟩) (R'.length - 64) (c' - 64)) (R'.length - 64) (bcells (R'.drop 64)) := by
                have h := Sl.part hB 64 (R'.length - 64) (by omega)
                have h4 : ((bcells R').drop 64).take (R'.length - 64) = bcells (R'.drop 64) := by
                  rw [List.take_of_length_le (by simp)]; simp [bcells, List.map_drop]
                rw [h4] at h
                simpa [Addr.add] using h
              refine plan_E rfl (fun K hK => ?_); go_simp
              refine (changed_calls X' _ (R'.take 64) _ (hGr.kp0 (Kp.refl [] wr).drew) hB64 (by simp; omega)).mono ?_
              rintro e w5 ⟨rfl, hk5⟩
              have hk6 : Kp [] wr w5 := ((Kp.refl [] wr).drew).trans hk5
              refine hK _ _ nofun ?_
              clear hK K
              have hp5 := hk6.heap hpr (by simp)
              generalize hY : chg kW X' (R'.take 64) = Y
              have HY := Lib.hid hY
              clear hY hpr_0 hpr_1 hpr_2 hpr_3 hpr_4 hpr_5 hpr_6 hpr_7
              refine plan_E rfl (fun K hK => ?_)
              refine step_store_part rfl 135 _ _ rfl wb.heap.size Y.vals rfl rfl 135 _ hp5 size8 (by simp [W8.vals, arr, W8.list]) (by simp [W8.vals, arr, W8.list, w32, Value.oneCell']) Y.vals (by simp [W8.vals, arr, W8.list, w32]) ?_
              refine hK _ _ nofun ?_
              clear hK K
              refine plan_Z ?_
              have h64r : (64 : Int) ≤ (R'.length : Int) ∧ ((R'.length : Int) - 64).toNat = R'.length - 64 := by omega
              have hn64 : ((R'.length - 64 : Nat) : Int) = (R'.length : Int) - 64 := by omega
              have hd64 : (R'.drop 64).length = R'.length - 64 := by simp
              have hkf := setRow_kp w5 wb.heap.size Y.vals
              have hkw : Kp [wb.heap.size] wr (w5.setRow wb.heap.size Y.vals) := hk6.nil.trans hkf
              have hkww : Kp [] w (w5.setRow wb.heap.size Y.vals) := hkr.trans' hkw (by simp; omega)
              have hrow := setRow_heap w5 wb.heap.size _ Y.vals _ _ hp5
              have hlast : 64 * (i + 1) + (R'.drop 64).length = q'.length := by have := Hl.out; rw [hd64]; omega
              have hXY : absN kW (i + 1) X q' = (Y, R'.drop 64) := by rw [HX2.out, HY.out]
              have HXY := Lib.hid hXY
              have Hlast := Lib.hid hlast
              have HROW := Lib.hid hrow
              have HKWW := Lib.hid hkww
              clear hXY hlast hd hrow hkww
              go_wp2
              · have hc := h
                go_roundw
                case measure => simp [lenV]; omega
                case rel =>
                  refine ⟨i + 1, Y, R'.drop 64, some ⟨ab, ao, none⟩, 0, by simp [hd64], HXY.out, HROW.out, ?_, fun k h => by cases h; exact hab2, HKWW.out, by simpa using Hlast.out⟩
                  have h := hBr.kp hkw (fun k hk' => by simp only [hc, if_pos, if_neg, not_false_eq_true, Value.ownBlock, Option.some.injEq] at hk'; subst hk'; simp; omega)
                  unfold Bs
                  rw [hd64]
                  simpa [hc] using h
              · have hc := h
                go_roundw
                case measure => simp [lenV]; omega
                case rel =>
                  refine ⟨i + 1, Y, R'.drop 64, some ⟨ab, ao + 64, none⟩, c' - 64, by simp [hd64], HXY.out, HROW.out, ?_, fun k h => by cases h; exact hab2, HKWW.out, by simpa using Hlast.out⟩
                  have h := hBr.kp hkw (fun k hk' => by simp only [hc, if_pos, if_neg, not_false_eq_true, Value.ownBlock, Option.some.injEq] at hk'; subst hk'; simp; omega)
                  unfold Bs
                  rw [hd64]
                  simpa [hc] using h
            · have hd : decide ((0 : Int) < (R'.length : Int)) = false := by rw [decide_eq_false_iff_not]; omega
              have hX3 : absorb kW X q' = (X', R') := by unfold absorb; rw [show q'.length / 64 = i by omega]; exact hX
              have hDD : D = outOf X'.list := by rw [HD.out, ← HQ0.out, hX3]
              have HDD := Lib.hid hDD
              clear hDD hX3 hX hl
              rw [vals_eq] at hpr
              have hpr_0 := cell_heap (w := wr) (b := wb.heap.size) hpr 0
              have hpr_1 := cell_heap (w := wr) (b := wb.heap.size) hpr 1
              have hpr_2 := cell_heap (w := wr) (b := wb.heap.size) hpr 2
              have hpr_3 := cell_heap (w := wr) (b := wb.heap.size) hpr 3
              have hpr_4 := cell_heap (w := wr) (b := wb.heap.size) hpr 4
              have hpr_5 := cell_heap (w := wr) (b := wb.heap.size) hpr 5
              have hpr_6 := cell_heap (w := wr) (b := wb.heap.size) hpr 6
              have hpr_7 := cell_heap (w := wr) (b := wb.heap.size) hpr 7
              simp only [List.getElem?_toArray, List.getElem?_cons_zero, List.getElem?_cons_succ] at hpr_0 hpr_1 hpr_2 hpr_3 hpr_4 hpr_5 hpr_6 hpr_7
              go_wp2_with (refine wpList_make_own _ rfl _ _ 23 rfl w.heap.size 5 i0 _ 1 Tryd.underlying23 hi hz0 hz1 .i64 .i64 32 32 rfl rfl rfl (by rw [hz2]; omega) (by unfold maxLen; omega) hkr.size ?_; intro w6 ho6 hg6; obtain ⟨hp6_0, hp6_1, hp6_2, hp6_3, hp6_4, hp6_5, hp6_6, hp6_7⟩ := cells8 (((Kp.refl [] wr).grown hg6 nofun).heap hpr (by simp)))
              have hk6 := hkr.grown hg6 nofun
              obtain ⟨wc, rfl⟩ : ∃ wc : World, wc = wr := ⟨wr, rfl⟩
              go_loopw [6, 55] (fun v6 v55 wr => ∃ (n : Nat) (a6 : Option Addr) (c6 : Nat), n ≤ 8 ∧ v55 = .int .i64 n ∧ v6 = .slice a6 (4 * n) c6 ∧ Own wr w.heap.size 5 1 (.slice a6 (4 * n) c6) (4 * n) (bcells (outOf (X'.list.take n))) ∧ Kp [] w wr) (fun _ v _ => 8 - (intOf v).toNat)
              case atStart => exact ⟨0, _, _, by omega, rfl, rfl, Own.of ho6, hk6⟩
              case round =>
                obtain ⟨n, a6, c6, hn8, rfl, rfl, ho, hk⟩ := hrel
                by_cases hlt : n < 8
                · have hidx := idx8 X' n hlt
                  rw [vals_eq] at hidx
                  have hxl : X'.list.take (n + 1) = X'.list.take n ++ [X'.list.getD n 0] := by
                    rw [List.take_add_one]; simp [show n < X'.list.length from hlt]
                  generalize X'.list.getD n 0 = xn at *
                  have HXL := Lib.hid hxl
                  clear hxl
                  have hn0 : (0 : Int) ≤ n ∧ (n : Int) < 8 := by omega
                  go_wp2_with (with_reducible refine stop_app ?_)
                  unfold Stop
                  have h4 := dig4 xn.toNat
                  have hno := own_kp ho ((Kp.refl [] wr).alloc (.cells (bcells (dig xn.toNat 4)).toArray 5)) (by simp)
                  rw [h4]
                  refine wpList_app _ rfl _ _ 23 23 rfl w.heap.size 5 i0 _ 1 1 Tryd.underlying23 hi hz0 hz1 hz2 rfl (by omega) (.slice a6 (4 * n) c6) _ _ rfl hno (.slice (some ⟨wr.heap.size, 0, none⟩) 4 4) 4 (bcells (dig xn.toNat 4)) rfl (Src.of_sl Tryd.underlying23 (bs_alloc wr _ (dig xn.toNat 4) _ rfl 4 (dig_length 4 _).symm) bcells_one) (by omega) (by omega) (by have := hk.size; simp; omega) ?_
                  intro v7 w7 ho7 hg7 hx7
                  have hk7 := (hk.alloc (.cells (bcells (dig xn.toNat 4)).toArray 5)).grown hg7 (fun k hk => .inr (ho.lt k hk).1)
                  obtain ⟨a7, c7, rfl⟩ := own_form ho7
                  rw [← bcells_append, ← outOf_snoc, ← HXL.out] at ho7
                  rw [show 4 * n + 4 = 4 * (n + 1) by omega] at ho7 ⊢
                  have HO7 := Lib.hid ho7
                  have HK7 := Lib.hid hk7
                  clear ho7 hk7 hno
                  go_wp2
                  go_roundw
                  case measure => simp [intOf]; omega
                  case rel => exact ⟨n + 1, a7, c7, by omega, by simp, by simp, HO7.out, HK7.out⟩
                · go_wp2
                  go_ret
                  refine ⟨_, rfl, ?_, hk⟩
                  obtain rfl : n = 8 := by omega
                  rw [HDD.out]
                  have : X'.list.take 8 = X'.list := rfl
                  rw [this] at ho
                  unfold OB
                  rw [show (outOf X'.list).length = 4 * 8 by rw [outOf_length]; rfl]
                  exact ho
        · have HQQ := Lib.hid hqq
          clear hqq
          have hhw := hk'.heap hh (by simp)
          have hhw_9 := cell_heap (w := wr) (b := p) hhw 9
          simp only [List.getElem?_toArray, List.getElem?_cons_zero, List.getElem?_cons_succ] at hhw_9
          have hbyte : (l.length : Int) * 8 / 2 ^ (8 * k) % 256 = ((UInt8.ofNat (8 * l.length / 256 ^ k)).toNat : Int) := by
            rw [byte_shr _ (by omega), show ((l.length : Int) * 8).toNat = 8 * l.length by omega]
          go_wp2_with (with_reducible refine stop_app ?_)
          unfold Stop
          rw [hbyte]
          have hno := own_kp ho' ((Kp.refl [] wr).alloc (.cells #[.int .u8 ((UInt8.ofNat (8 * l.length / 256 ^ k)).toNat : Int)] 5)) (by simp)
          refine wpList_app _ rfl _ _ 23 23 rfl w.heap.size 5 i0 _ 1 1 Tryd.underlying23 hi hz0 hz1 hz2 rfl (by omega) (.slice av' q'.length c') _ _ rfl hno (.slice (some ⟨wr.heap.size, 0, none⟩) 1 1) 1 (bcells ([UInt8.ofNat (8 * l.length / 256 ^ k)])) rfl (Src.of_sl Tryd.underlying23 (bs_alloc wr _ [UInt8.ofNat (8 * l.length / 256 ^ k)] _ rfl 1 rfl) bcells_one) (by omega) (by omega) (by have := hk'.size; simp; omega) ?_
          intro v3 w3 ho3 hg3 hx3
          have hk3 := (hk'.alloc (.cells #[.int .u8 ((UInt8.ofNat (8 * l.length / 256 ^ k)).toNat : Int)] 5)).grown hg3 (fun k hk => .inr (ho'.lt k hk).1)
          obtain ⟨a3, c3, rfl⟩ := own_form ho3
          rw [← bcells_append] at ho3
          go_wp2
          go_roundw
          case measure => simp [intOf]
          case rel =>
            refine ⟨k, a3, c3, q' ++ [UInt8.ofNat (8 * l.length / 256 ^ k)], by omega, by simp, by simp, by simpa [OB] using ho3, ?_, by simp; omega, hk3⟩
            rw [List.append_assoc, List.singleton_append, ← dig_cons]
            exact HQQ.out

/-- The digest of bytes. -/
def sha (l : List UInt8) : List UInt8 := digest kW initW l
theorem sha_length (l : List UInt8) : (sha l).length = 32 := digest_length _ _ l

theorem sha_calls (v : Value) (l : List UInt8) (w : World) (hG : GH w) (hb : Bs w v l) (hlen : l.length ≤ 140737488355000) :
    Calls Tryd.prog 96 #[v] w fun e w' => ∃ v, e = .returned v ∧ OB w' 5 w.heap.size v (sha l) ∧ Kp [] w w' := by
  have hbl := hb.lt
  go_enter Tryd.func96, Tryd.ntmps96
  go_wp2_with (first
    | (go_at_call 81; refine (hnew_calls _ hG).mono ?_; rintro e w1 ⟨p, rfl, hp, hH, hk1⟩)
    | (go_at_call 82; refine (hwrite_calls p [] l _ _ (hG.kp0 hk1) hH (hb.kp0 hk1) (fun e => by have := hbl _ e; omega) (by simpa using hlen)).mono ?_; rintro e w2 ⟨rfl, hH2, hk2⟩; have hk12 : Kp [] w w2 := hk1.trans' hk2 (by simpa using hp))
    | (go_at_call 83; refine (hsum_calls p ([] ++ l) _ (hG.kp0 hk12) hH2 (by simpa using hlen)).mono ?_; rintro e w3 ⟨u, rfl, ho3, hk3⟩))
  go_ret
  exact ⟨_, rfl, own_base ho3 (fun b hb => Nat.le_trans hk12.size (ho3.lt b hb).1), hk12.trans hk3⟩
end Go.Proofs.YtddpefbpiehgeaaDoor

/- The seal: the key and the code. -/
namespace Go.Proofs.YtddpefbpiehgeaaDoor
open Go Go.RowKit
set_option maxRecDepth 100000
set_option linter.unusedVariables false
set_option linter.unusedSectionVars false
set_option linter.unusedSimpArgs false

theorem smay_calls (s : ByteArray) (w : World) : Calls Tryd.prog 53 #[.string s] w fun e w' => e = .returned (.bool (decide (s.size ≤ 200))) ∧ w = w' := by
  go_enter Tryd.func53, Tryd.ntmps53
  go_wp2
  go_ret
  simp
  omega

section
variable {P : Program}
theorem run_cpy {w : World} {B e g N C : Nat} {z l : List UInt8} {v : Value} (hd : Own w B e 1 (.slice (some ⟨g, 0, none⟩) N C) N (bcells z)) (hs : Bs w v l) (hle : l.length ≤ N)
    (dT sT ty : TypeId) (hu : P.underlying dT = some (.slice e)) (hse : (P.info? e).map (·.size) = some 1) :
    ∃ w', (Builtin.copy_ #[dT, sT] ty #[.slice (some ⟨g, 0, none⟩) N C, v]).run P w = .ok (goInt l.length) w' ∧ Own w' B e 1 (.slice (some ⟨g, 0, none⟩) N C) N (bcells (l ++ z.drop l.length)) ∧ Kp [g] w w' := by
  obtain ⟨hl, hs⟩ := hs
  rcases hs with ⟨rfl, h0⟩ | ⟨a, rfl, h0⟩ | ⟨b, off, cap, rfl, hc, hb, hh⟩
  · have : l = [] := List.eq_nil_of_length_eq_zero h0
    subst this
    exact ⟨w, run_copy_none w dT sT ty e _ none N C 0 0 hu hse (by simp), by simpa using hd, Kp.refl _ _⟩
  · have : l = [] := List.eq_nil_of_length_eq_zero h0
    subst this
    exact ⟨w, run_copy_none w dT sT ty e _ (some a) N C 0 0 hu hse (by simp), by simpa using hd, Kp.refl _ _⟩
  · have hzl : z.length = N := by have := hd.1; simpa using this
    have hr := run_copy_cells (P := P) w dT sT ty e g 0 N C ⟨b, off, none⟩ l.length cap (bcells l) hu hse (by rw [bcells_length]; exact (Nat.min_eq_left hle).symm) (fun j u hu => by rw [Addr.add_lit]; exact hh j u hu)
      (fun j hj => by
        rw [bcells_length] at hj
        rw [Nat.zero_add, hd.cellAt j (by omega), List.getElem?_eq_getElem (by rw [bcells_length]; omega)]; rfl)
      (fun j hj => by
        rw [bcells_length] at hj
        have hNC : N ≤ C := by
          rcases hd.2 with ⟨h, _⟩ | ⟨_, _, _, _, hv, _, _, _, hn, _⟩
          · cases h
          · cases hv; exact hn
        rw [Nat.zero_add]; exact hd.frozenAt j (by omega)) bcells_one
    rw [bcells_length] at hr
    obtain ⟨hx, h⟩ := hd
    rcases h with ⟨h, _⟩ | ⟨g', cap', cur, fr, hv, hg, hcur, hf, hn, hm, hsz, ht⟩
    · cases h
    · cases hv
      obtain ⟨h1, h2, h3, h4, h5, h6⟩ := heap_sets (bcells l) 0 w cur hcur (by rw [bcells_length]; omega)
      refine ⟨_, hr, ⟨by simp [hzl]; omega, .inr ⟨g, C, _, fr, rfl, hg, h1, ?_, hn, hm, ?_, ?_⟩⟩, ⟨h3, h4, h5, Nat.le_of_eq h6.symm, fun k hk hs => h2 k (by simpa using hs)⟩⟩
      · simp only [List.take_zero, List.nil_append, Nat.zero_add, List.size_toArray, List.length_append, List.length_drop, Array.length_toList, bcells_length]
        rcases hf with hf | hf
        · exact .inl hf
        · exact .inr (by omega)
      · simp only [List.take_zero, List.nil_append, Nat.zero_add, List.size_toArray, List.length_append, List.length_drop, Array.length_toList, bcells_length]
        all_goals omega
      · simp only [List.take_zero, List.nil_append, Nat.zero_add, bcells_append, bcells_length]
        rw [List.take_append, List.take_of_length_le (by rw [bcells_length]; omega), bcells_length]
        congr 1
        have : bcells (z.drop l.length) = (bcells z).drop l.length := by simp [bcells, List.map_drop]
        rw [this, ← ht, List.drop_take]

theorem wpList_cpy {ops : Array Oper} {rest : List Oper} {o : Oper} {a : Act} {w : World} {Q : Exit → Act → World → Prop} (hgd : o.guard = none) (d s : Operand) (dT sT : TypeId)
    (ho : o.op = .call { callee := .builtin .copy, args := #[d, s], argTypes := #[dT, sT] }) (B e g N C : Nat) (z l : List UInt8) (v : Value)
    (hx : a.eval d = .slice (some ⟨g, 0, none⟩) N C) (hy : a.eval s = v) (hd : Own w B e 1 (.slice (some ⟨g, 0, none⟩) N C) N (bcells z)) (hs : Bs w v l) (hle : l.length ≤ N)
    (hu : P.underlying dT = some (.slice e)) (hse : (P.info? e).map (·.size) = some 1)
    (h : ∀ w', Own w' B e 1 (.slice (some ⟨g, 0, none⟩) N C) N (bcells (l ++ z.drop l.length)) → Kp [g] w w' → wpList P ops Q rest (a.put o.dst (goInt l.length)) w') : wpList P ops Q (o :: rest) a w := by
  refine wpList_plain hgd fun K hK => ?_
  obtain ⟨w', hr, h1, h2⟩ := run_cpy (P := P) hd hs hle dT sT o.type hu hse
  unfold Oper.wp
  simp [execOp, ho, resolve, invoke, builtin, hx, hy, hr, Result.andThen]
  exact hK _ _ (h w' h1 h2)
end

/-- The key, cut to its hash where it is long, filled to 64 bytes. -/
def key0 (s : ByteArray) : List UInt8 := if 64 < s.size then sha s.data.toList else s.data.toList
def padded (s : ByteArray) : List UInt8 := key0 s ++ List.replicate (64 - (key0 s).length) 0
theorem key0_le (s : ByteArray) : (key0 s).length ≤ 64 := by
  unfold key0
  split
  · rw [sha_length]; omega
  · rw [Array.length_toList]; show s.size ≤ 64; omega
theorem padded_length (s : ByteArray) : (padded s).length = 64 := by have := key0_le s; simp [padded]; omega

theorem u8size : (Tryd.prog.info? 5).map (·.size) = some 1 := by kernel_rfl
theorem zeros_cells (n : Nat) : (madeCells (Value.int IntKind.u8 0).cells (n * 1)).toList = bcells (List.replicate n 0) := by
  rw [Nat.mul_one]
  show (madeCells #[.int .u8 0] n).toList = _
  simp [toList_madeCells_one, bcells]

set_option maxHeartbeats 400000 in
theorem pad_calls (s : ByteArray) (w : World) (hG : GH w) (hs : s.size ≤ 1000000) :
    Calls Tryd.prog 79 #[.string s] w fun e w' => ∃ v, e = .returned v ∧ Bs w' v (padded s) ∧ (∀ k, v.ownBlock = some k → w.heap.size ≤ k) ∧ Kp [] w w' := by
  obtain ⟨i0, hi, hz0, hz1, hz2⟩ := info_parts u8info
  have hsl : s.data.toList.length = s.size := by rw [Array.length_toList]; rfl
  have hend : ∀ (w2 w3 w4 : World), Kp [] w w2 → Kp [] w2 w3 → Kp [w2.heap.size] w3 w4 →
      Own w4 w.heap.size 5 1 (.slice (some ⟨w2.heap.size, 0, none⟩) 64 64) 64 (bcells (key0 s ++ (List.replicate 64 0).drop (key0 s).length)) →
      ∃ v, Ending.returned (.slice (some ⟨w2.heap.size, 0, none⟩) 64 64) = .returned v ∧ Bs w4 v (padded s) ∧ (∀ k, v.ownBlock = some k → w.heap.size ≤ k) ∧ Kp [] w w4 := by
    intro w2 w3 w4 h2 h3 h4 ho
    refine ⟨_, rfl, ?_, fun k hk => by cases hk; exact h2.size, (h2.trans h3).trans' h4 (by simpa using h2.size)⟩
    have hb := Sl.of_own ho
    unfold Bs
    rw [padded_length]
    rw [List.drop_replicate] at hb
    exact hb
  go_enter Tryd.func79, Tryd.ntmps79
  by_cases h : 64 < s.size
  · have hd : decide ((64 : Int) < (s.size : Int)) = true := by rw [decide_eq_true_eq]; omega
    have hk0 : key0 s = sha s.data.toList := by unfold key0; rw [if_pos h]
    have hsh := sha_length s.data.toList
    go_wp2_with (first
      | (refine wpList_s2b rfl _ 9 23 5 rfl s rfl Tryd.underlying9 Tryd.underlying23 Tryd.underlying5 (by omega) ?_; intro v1 w1 ho1 hk1; obtain ⟨a1, c1, rfl⟩ := own_form ho1; rw [hsl] at ho1 ⊢)
      | (go_at_call 96; refine (sha_calls _ _ _ (hG.kp0 hk1) (OB.bs ho1) (by omega)).mono ?_; rintro e w2 ⟨v2, rfl, ho2, hk2⟩; have hk12 := hk1.trans hk2)
      | (refine wpList_make_full _ rfl _ _ 23 rfl w.heap.size 5 i0 _ 1 Tryd.underlying23 hi hz0 hz1 .i64 .i64 64 64 64 rfl rfl rfl rfl (by rw [hz2]; omega) (by unfold maxLen; omega) hk12.size ?_; intro w3 ho3 hg3; rw [zeros_cells] at ho3; have hk3 := (Kp.refl [] w2).grown hg3 nofun)
      | (refine wpList_cpy rfl _ _ 23 23 rfl w.heap.size 5 w2.heap.size 64 64 (List.replicate 64 0) (sha s.data.toList) v2 rfl rfl (Own.of ho3) ((OB.bs ho2).kp0 hk3) (by omega) Tryd.underlying23 u8size ?_; intro w4 ho4 hk4))
    go_ret
    rw [← hk0] at ho4
    exact hend w2 w3 w4 hk12 hk3 hk4 ho4
  · have hd : decide ((64 : Int) < (s.size : Int)) = false := by rw [decide_eq_false_iff_not]; omega
    have hk0 : key0 s = s.data.toList := by unfold key0; rw [if_neg h]
    go_wp2_with (first
      | (refine wpList_s2b rfl _ 9 23 5 rfl s rfl Tryd.underlying9 Tryd.underlying23 Tryd.underlying5 (by omega) ?_; intro v1 w1 ho1 hk1; obtain ⟨a1, c1, rfl⟩ := own_form ho1; rw [hsl] at ho1 ⊢)
      | (refine wpList_make_full _ rfl _ _ 23 rfl w.heap.size 5 i0 _ 1 Tryd.underlying23 hi hz0 hz1 .i64 .i64 64 64 64 rfl rfl rfl rfl (by rw [hz2]; omega) (by unfold maxLen; omega) hk1.size ?_; intro w3 ho3 hg3; rw [zeros_cells] at ho3; have hk3 := (Kp.refl [] w1).grown hg3 nofun; have hb3 : Bs w3 (.slice a1 s.size c1) s.data.toList := (OB.bs ho1).kp0 hk3)
      | (refine wpList_cpy rfl _ _ 23 23 rfl w.heap.size 5 w1.heap.size 64 64 (List.replicate 64 0) s.data.toList (.slice a1 s.size c1) rfl rfl (Own.of ho3) hb3 (by omega) Tryd.underlying23 u8size ?_; intro w4 ho4 hk4))
    go_ret
    rw [← hk0] at ho4
    exact hend w1 w3 w4 hk1 hk3 hk4 ho4
end Go.Proofs.YtddpefbpiehgeaaDoor

/- The seal: the code of bytes under a key. -/
namespace Go.Proofs.YtddpefbpiehgeaaDoor
open Go Go.RowKit
set_option maxRecDepth 100000
set_option linter.unusedVariables false
set_option linter.unusedSectionVars false
set_option linter.unusedSimpArgs false

theorem IsH.kp0 {w w' : World} {p : Nat} {l : List UInt8} (h : IsH w p l) (hk : Kp [] w w') : IsH w' p l := by
  obtain ⟨h4, a, cap, hh, hb, hne⟩ := h
  exact ⟨h4, a, cap, hk.heap hh (by simp), hb.kp0 hk, hne⟩

theorem IsH.lt {w : World} {p : Nat} {l : List UInt8} (h : IsH w p l) : p < w.heap.size := by
  obtain ⟨_, a, cap, hh, _⟩ := h
  exact lt_of_heap hh

theorem u8_xor_v (x y : UInt8) : bits .xor .u8 (x.toNat : Int) (y.toNat : Int) = ((x ^^^ y).toNat : Int) := by
  rw [u8_xor_nat _ _ x.toNat_lt y.toNat_lt, UInt8.toNat_xor]

/-- The code: a hash of the key's bytes, each with b, and what follows. -/
def mac1 (b : UInt8) (k l : List UInt8) : List UInt8 := sha (k.map (· ^^^ b) ++ l)

set_option maxHeartbeats 1000000 in
theorem mac1_calls (b : UInt8) (k l : List UInt8) (kv v : Value) (c : Nat) (w : World) (hG : GH w) (hc : w.cell? ⟨c, 0, none⟩ = some kv) (hcl : c < w.heap.size) (hkv : Bs w kv k) (hkl : k.length = 64) (hv : Bs w v l) (hl : l.length ≤ 140737488352000) :
    Calls Tryd.prog 80 #[.int .u8 (b.toNat : Int), v, .pointer (some ⟨c, 0, none⟩)] w fun e w' => ∃ u, e = .returned u ∧ OB w' 5 w.heap.size u (mac1 b k l) ∧ Kp [] w w' := by
  obtain ⟨ka, kc, rfl, hkc, _, hks, _⟩ := Sl.form hkv
  obtain ⟨kb, ko, rfl, hkb⟩ := hks (by omega)
  have hvl := hv.lt
  have hkk : (64 : Int) = (k.length : Int) := by omega
  have HKL := Lib.hid hkl
  clear hkl hkk
  go_enter Tryd.func80, Tryd.ntmps80
  go_wp2_with (first
    | (go_at_call 81; refine (hnew_calls _ hG).mono ?_; rintro e w1 ⟨p, rfl, hp, hH, hk1⟩; have hc1 := (hk1.cells0.1 c 0 hcl).trans hc))
  have hb1 : Bs w1 (.slice (some ⟨kb, ko, none⟩) k.length kc) k := hkv.kp0 hk1
  obtain ⟨wo, rfl⟩ : ∃ wo : World, wo = w1 := ⟨w1, rfl⟩
  go_loopw [12] (fun v12 wr => ∃ n : Nat, n ≤ k.length ∧ v12 = .int .i64 n ∧ IsH wr p ((k.take n).map (· ^^^ b)) ∧ Kp [] w wr ∧ wr.cell? ⟨c, 0, none⟩ = some (.slice (some ⟨kb, ko, none⟩) k.length kc)) (fun v12 _ => k.length - (intOf v12).toNat)
  case atStart => exact ⟨0, by omega, rfl, hH, hk1, hc1⟩
  case round =>
    obtain ⟨n, hn, rfl, hHr, hkr, hcr⟩ := hrel
    by_cases hlt : n < k.length
    · have hcell : wr.cell? ⟨kb, ko + n, none⟩ = some (.int .u8 (k[n].toNat : Int)) := by
        obtain ⟨_, _, he, _, _, _, h7⟩ := Sl.form (hkv.kp0 hkr)
        cases he
        exact (h7 kb ko rfl).2 n _ (bcells_get k n hlt)
      have hn63 : (n : Int) ≤ 63 := by have := HKL.out; omega
      have hkt : (k.take (n + 1)).map (· ^^^ b) = (k.take n).map (· ^^^ b) ++ [k[n] ^^^ b] := by
        rw [List.take_add_one, List.map_append, List.getElem?_eq_getElem hlt]; rfl
      have hi0 : (0 : Int) ≤ n ∧ (n : Int) < k.length := by omega
      generalize k[n] = x at *
      have hlen : ((k.take n).map (· ^^^ b)).length ≤ 64 := by have := HKL.out; simp; omega
      generalize (k.take n).map (· ^^^ b) = q at *
      have HKT := Lib.hid hkt
      clear hkt
      go_wp2_with (first
        | (go_at_call 82; rw [u8_xor_v]; refine (hwrite_calls p q [x ^^^ b] _ _ (hG.kp0 (hkr.alloc _)) (hHr.kp0 ((Kp.refl [] wr).alloc _)) (bs_alloc wr _ [x ^^^ b] _ rfl 1 rfl) (fun e => by have := hHr.lt; have := own1_some e; simp only at this; omega) (by simp; omega)).mono ?_; rintro e w2 ⟨rfl, hH2, hk2⟩))
      have hplt := hHr.lt
      go_roundw
      case measure => simp [intOf]; omega
      case rel =>
        refine ⟨n + 1, by omega, by go_num, ?_, ?_, ?_⟩
        · rw [HKT.out]; exact hH2
        · exact ((hkr.alloc _).trans' hk2 (by simpa using hp))
        · rw [hk2.cells.1 c 0 (by have := hkr.size; simp; omega) (by simp; omega)]
          rw [((Kp.refl [] wr).alloc _).cells0.1 c 0 (by have := hkr.size; omega)]
          exact hcr
    · have hnk : n = k.length := by omega
      have hd : decide ((n : Int) < (k.length : Int)) = false := by rw [decide_eq_false_iff_not]; omega
      have hq : (k.take n).map (· ^^^ b) = k.map (· ^^^ b) := by rw [hnk, List.take_length]
      rw [hq] at hHr
      have hql : (k.map (· ^^^ b)).length ≤ 64 := by have := HKL.out; simp; omega
      clear hnk
      go_wp2_with (first
        | (go_at_call 82; refine (hwrite_calls p (k.map (· ^^^ b)) l _ _ (hG.kp0 hkr) hHr (hv.kp0 hkr) (fun e => by have := hvl _ e; omega) (by omega)).mono ?_; rintro e w2 ⟨rfl, hH2, hk2⟩; have hk12 : Kp [] w w2 := hkr.trans' hk2 (by simpa using hp))
        | (go_at_call 83; refine (hsum_calls p _ _ (hG.kp0 hk12) hH2 (by simp at hql ⊢; omega)).mono ?_; rintro e w3 ⟨u, rfl, ho3, hk3⟩))
      go_ret
      exact ⟨_, rfl, own_base ho3 (fun b hb => Nat.le_trans hk12.size (ho3.lt b hb).1), hk12.trans hk3⟩
end Go.Proofs.YtddpefbpiehgeaaDoor

