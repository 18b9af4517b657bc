/- The link: a sender's memory. -/
import Derived.Test.YtddpefbpiehgeaaDoorSendC
import Derived.Maps.OwnSet
import Derived.Maps.RangeWalk
import Derived.Maps.OwnOps
namespace Go.Proofs.YtddpefbpiehgeaaDoor
open Go Go.RowKit
set_option maxRecDepth 100000
set_option linter.unusedVariables false
set_option linter.unusedSectionVars false
set_option linter.unusedSimpArgs false

theorem mlaw : Maps.Keyed Tryd.prog 3 := Maps.int_keyed Tryd.underlying3
theorem mzero (w : World) : (zeroValue 3).run Tryd.prog w = .ok (.int .i64 0) w := by kernel_rfl

/-- A key that is an int. -/
def isInt (k : Int) : Prop := -9223372036854775808 ≤ k ∧ k ≤ 9223372036854775807
theorem isInt.wf {k : Int} (h : isInt k) : (Lit.int .i64 k).wf = true := WalkArith.wf_i64 h
theorem isInt.of {k : Int} (h : (Lit.int .i64 k).wf = true) : isInt k := by
  simp [Lit.wf, IntKind.min, IntKind.max, IntKind.signed, IntKind.bits] at h
  exact ⟨by omega, by omega⟩
theorem isInt.key {k : Int} (h : isInt k) : _root_.Go.keyOf Tryd.prog 3 (.int .i64 k) = some (.int .i64 k) := Maps.keyOf_int_mk Tryd.underlying3 h.wf

/-- What a datum tells of numbers. -/
def Tells (D : DataW Unit) (f : Sent) : Prop := ∀ k, isInt k → Maps.has D (.int .i64 k) = (f k).isSome ∧ ∀ c, f k = some c → ∀ z, D.atKey (.int .i64 k) z = .lit (.int .i64 c)

/-- Block b is a map that tells f. -/
def MI (w : World) (b n : Nat) (f : Sent) : Prop := ∃ D : DataW Unit, w.ownsMap Tryd.prog 3 (plainElem Tryd.prog 3) b n D ∧ Tells D f

theorem MI.made (w : World) : MI (w.alloc (.map #[] 0)) w.heap.size 0 (fun _ => none) :=
  ⟨.map [], World.ownsMap_made _ _ _ _, fun k _ => ⟨rfl, fun c h => by cases h⟩⟩
theorem MI.lt {w : World} {b n : Nat} {f : Sent} (h : MI w b n f) : b < w.heap.size := by obtain ⟨D, h, _⟩ := h; exact h.lt
theorem MI.kp {S : List Nat} {w w' : World} {b n : Nat} {f : Sent} (h : MI w b n f) (hk : Kp S w w') (hS : b ∉ S) : MI w' b n f := by
  obtain ⟨D, ⟨es, clock, hb, r⟩, hd⟩ := h
  exact ⟨D, ⟨es, clock, hk.heap hb hS, r⟩, hd⟩
theorem MI.mono {w : World} {b n n' : Nat} {f : Sent} (h : MI w b n f) (hn : n ≤ n') : MI w b n' f := by
  obtain ⟨D, h1, h2⟩ := h; exact ⟨D, h1.mono hn, h2⟩
theorem MI.not_cells {w : World} {b n : Nat} {f : Sent} (h : MI w b n f) {c : Array Value} {T : TypeId} {fr : Nat × Nat} {g : Nat} (hg : w.heap[g]? = some (.cells c T fr)) : g ≠ b := by
  obtain ⟨D, ⟨es, clock, hb, _⟩, _⟩ := h
  intro e
  rw [e, hb] at hg
  cases hg

theorem MI.look {w : World} {b n : Nat} {f : Sent} (h : MI w b n f) {k : Int} (hk : isInt k) :
    ∃ c, (Instr.lookup 85 (.map (some b)) (.int .i64 k) true).run Tryd.prog w = .ok (.tuple #[.int .i64 c, .bool (f k).isSome]) w ∧ ∀ c', f k = some c' → c = c' := by
  obtain ⟨D, ho, ht⟩ := h
  obtain ⟨v, ps, hrun, hv⟩ := ho.look_ok mlaw Tryd.underlying85 (mzero w) (plainElem_int Tryd.underlying3 (by decide)) hk.key
  obtain ⟨c, rfl, hc, hw⟩ := plainElem_int_inv Tryd.underlying3 hv
  obtain ⟨h1, h2⟩ := ht k hk
  rw [h1] at hrun
  refine ⟨c, hrun, fun c' hc' => ?_⟩
  have := h2 c' hc' (.lit (.int .i64 0))
  have h3 := congrArg Prod.fst hc
  simp only at h3
  rw [this] at h3
  cases h3
  rfl

theorem Tells.put {D : DataW Unit} {f : Sent} (h : Tells D f) (hm : Maps.IsMap D) {k c : Int} : Tells (D.put (.int .i64 k) (.lit (.int .i64 c))) (f.put k c) := by
  intro z hz
  by_cases he : z = k
  · subst he
    refine ⟨by rw [Maps.has_put_same hm (k := .int .i64 z) trivial]; simp [Sent.put], fun c' hc' y => ?_⟩
    rw [Maps.atKey_put_same hm (k := .int .i64 z) trivial]
    simp only [Sent.put, if_pos] at hc'
    cases hc'
    rfl
  · have hne : Lit.int .i64 z ≠ Lit.int .i64 k := fun e => he (by cases e; rfl)
    obtain ⟨h1, h2⟩ := h z hz
    refine ⟨by rw [Maps.has_put_other hne, h1]; simp [Sent.put, he], fun c' hc' y => ?_⟩
    rw [Maps.atKey_put_other hne]
    simp only [Sent.put, if_neg he] at hc'
    exact h2 c' hc' y

theorem Tells.del {D : DataW Unit} {f : Sent} (h : Tells D f) (k : Int) : Tells (D.del (.int .i64 k)) (fun z => if z = k then none else f z) := by
  intro z hz
  by_cases he : z = k
  · subst he
    exact ⟨by rw [Maps.has_del_same]; simp, fun c' hc' y => by simp at hc'⟩
  · have hne : Lit.int .i64 z ≠ Lit.int .i64 k := fun e => he (by cases e; rfl)
    obtain ⟨h1, h2⟩ := h z hz
    refine ⟨by rw [Maps.has_del_other hne, h1]; simp [he], fun c' hc' y => ?_⟩
    rw [Maps.atKey_del_other hne]
    simp only [if_neg he] at hc'
    exact h2 c' hc' y

theorem Kp.turned {S : List Nat} {w w' : World} {b : Nat} (h : w.mapTurned w' b) (hb : b ∈ S) : Kp S w w' :=
  ((Kp.refl S w).grown h.grown (fun k hk => .inl (by cases hk; exact hb)))

/-- m[k] = c in a region that draws. -/
theorem step_put {ops : Array Oper} {o : Oper} {a : Act} {w : World} {K : Act → World → Prop} {Q : Exit → Act → World → Prop} {E : Prop} (hgd : o.guard = none) (m x v : Operand) (hop : o.op = Op.mapUpdate 85 m x v)
    (b n : Nat) (f : Sent) (hm : a.eval m = .map (some b)) (h : MI w b n f) (hn : n ≤ 100000000000000) (k c : Int) (hx : a.eval x = .int .i64 k) (hv : a.eval v = .int .i64 c) (hk : isInt k) (hc : isInt c)
    (hK : ∀ w', MI w' b (n + 1) (f.put k c) → Kp [b] w w' → w'.heap.size = w.heap.size → K (a.put o.dst undef) w') :
    if Region.wanted o (yielded ops a.tmps) = true then Oper.wp Tryd.prog o a w K Q else E := by
  have hw : Region.wanted o (yielded ops a.tmps) = true := by simp [Region.wanted, hgd]
  rw [if_pos hw]
  obtain ⟨D, ho, ht⟩ := h
  obtain ⟨w', hrun, r1, r2⟩ := ho.store mlaw Tryd.underlying85 (by unfold maxLen; omega) hk.key (plainElem_int Tryd.underlying3 hc.wf)
  unfold Oper.wp
  simp [execOp, hop, hm, hx, hv, hrun, Result.andThen]
  exact hK w' ⟨_, r1, ht.put ho.isMap⟩ (Kp.turned r2 (by simp)) (by obtain ⟨es, cl, es', cl', _, rfl⟩ := r2; simp [ChangeMaps.setBlock])
end Go.Proofs.YtddpefbpiehgeaaDoor
