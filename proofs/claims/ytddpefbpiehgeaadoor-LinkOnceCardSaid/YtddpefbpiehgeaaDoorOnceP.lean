/- Plain: what a tick sends, what a receiver gets of it. -/
import Derived.Test.YtddpefbpiehgeaaDoorSendF
namespace Go.Proofs.YtddpefbpiehgeaaDoor
open Go Go.RowKit
set_option maxRecDepth 100000
set_option linter.unusedVariables false
set_option linter.unusedSectionVars false
set_option linter.unusedSimpArgs false

theorem gotItems_all (nx : Int) (f : Fr) : ∀ (l : List (List UInt8)) (i k : Nat), nx ≤ f.b + i → (gotItems nx f i l)[k]? = (l[k]?).map fun b => (⟨f.b + i + k, b⟩ : It)
  | [], i, k, _ => by simp [gotItems]
  | b :: l, i, k, h => by
    rw [gotItems, if_pos h]
    cases k with
    | zero => simp
    | succ k =>
      have := gotItems_all nx f l (i + 1) k (by omega)
      simp only [List.cons_append, List.nil_append, List.getElem?_cons_succ]
      rw [this]
      congr 1
      funext x
      congr 1
      omega
theorem gotItems_get (nx : Int) (f : Fr) : ∀ (l : List (List UInt8)) (i k : Nat), f.b + i ≤ nx → (gotItems nx f i l)[k]? = (l[(nx - f.b - i).toNat + k]?).map fun b => (⟨nx + k, b⟩ : It)
  | [], i, k, _ => by simp [gotItems]
  | b :: l, i, k, h => by
    by_cases he : nx = f.b + i
    · rw [gotItems_all nx f (b :: l) i k (by omega), show (nx - f.b - i).toNat + k = k by omega, he]
    · rw [gotItems, if_neg (by omega), List.nil_append, gotItems_get nx f l (i + 1) k (by omega), show (nx - f.b - (i : Int)).toNat + k = ((nx - f.b - ((i + 1 : Nat) : Int)).toNat + k) + 1 by omega, List.getElem?_cons_succ]

/-- A frame that tells of items (from number 1 on), none of them ahead of the first one that was not let go. -/
structure FrOk (xs : List It) (gone : Nat) (g : Fr) : Prop where
  base : g.a ≤ gone + 1
  seq : 1 ≤ g.b
  items : ∀ j (h : j < g.its.length), (xs[(g.b - 1).toNat + j]?).map (·.b) = some g.its[j]
  few : g.its.length ≤ 8
  bare : g.t = []
  top : g.b ≤ 4294967295

theorem FrOk.mono {xs ys : List It} {gone gone' : Nat} {g : Fr} (h : FrOk xs gone g) (hg : gone ≤ gone') : FrOk (xs ++ ys) gone' g :=
  { h with base := (by have := h.base; omega), items := (fun j hj => by
      have h1 := h.items j hj
      by_cases hl : (g.b - 1).toNat + j < xs.length
      · rw [List.getElem?_append_left hl]; exact h1
      · rw [List.getElem?_eq_none (by omega)] at h1; cases h1) }

/-- What a receiver gets of such a frame: what comes next, one behind the other. -/
theorem got_spec {xs : List It} {gone : Nat} {g : Fr} {nx : Int} (h : FrOk xs gone g) (h0 : 0 ≤ nx) :
    (got nx g = (nx, [])) ∨ (∃ nx' l, got nx g = (nx', l) ∧ 1 ≤ nx' ∧ nx ≤ nx' ∧ (nx' = nx ∨ nx' ≤ gone + 1) ∧ ∀ k (hk : k < l.length), l[k].q = nx' + k ∧ (xs[(nx' - 1).toNat + k]?).map (·.b) = some l[k].b) := by
  by_cases hm : g.k = 1 ∧ mayB g = true
  · obtain ⟨_, _, _, _, ha1, hab, _⟩ := may_1 hm.2 hm.1
    right
    have hb := h.base
    have hn : nextOf nx g = nx ∨ nextOf nx g = g.a := by unfold nextOf; split <;> simp
    have hn1 : nx ≤ nextOf nx g ∧ g.a ≤ nextOf nx g := by unfold nextOf; split <;> omega
    refine ⟨nextOf nx g, if nextOf nx g < g.b then [] else gotItems (nextOf nx g) g 0 g.its, by unfold got; rw [if_pos hm], by omega, hn1.1, ?_, fun k hk => ?_⟩
    · rcases hn with h | h
      · exact .inl h
      · right; rw [h]; exact hb
    · generalize nextOf nx g = m at *
      by_cases hlt : m < g.b
      · rw [if_pos hlt] at hk; simp at hk
      · simp only [if_neg hlt] at hk ⊢
        have h1 := gotItems_get m g g.its 0 k (by omega)
        rw [List.getElem?_eq_getElem hk] at h1
        cases h2 : g.its[(m - g.b - ((0 : Nat) : Int)).toNat + k]? with
        | none => rw [h2] at h1; cases h1
        | some b =>
          rw [h2] at h1
          simp only [Option.map_some, Option.some.injEq] at h1
          rw [h1]
          obtain ⟨hj, hbj⟩ := List.getElem?_eq_some_iff.1 h2
          have h3 := h.items _ hj
          rw [hbj] at h3
          refine ⟨rfl, ?_⟩
          rw [← h3]
          congr 2
          have := h.seq
          omega
  · left
    unfold got
    rw [if_neg hm]

/-- A frame of a tick: rows of the items handed in. -/
structure FrT (bat : Nat) (base : Int) (xs : List It) (i : Nat) (g : Fr) : Prop where
  kind : g.k = 1
  head : g.a = base
  seq : base ≤ g.b
  bare : g.t = []
  few : 1 ≤ g.its.length ∧ g.its.length ≤ bat
  ends : (g.b - base).toNat + g.its.length ≤ i
  items : ∀ j (h : j < g.its.length), (xs[(g.b - base).toNat + j]?).map (·.b) = some g.its[j]

theorem FrT.mono {bat : Nat} {base : Int} {xs : List It} {i i' : Nat} {g : Fr} (h : FrT bat base xs i g) (hi : i ≤ i') : FrT bat base xs i' g := { h with ends := (by have := h.ends; omega) }

structure TOk (bat : Nat) (base : Int) (xs : List It) (i : Nat) (s : TS) : Prop where
  all : ∀ g ∈ s.out, FrT bat base xs i g
  last : s.op = true → ∃ init g, s.out = init ++ [g] ∧ (g.b - base).toNat + g.its.length = i

theorem tstep_ok {bat : Nat} {clk ev base : Int} {xs : List It} {i : Nat} {s : TS} (hb : 1 ≤ bat) (h : TOk bat base xs i s) (hi : i < xs.length) (hq : xs[i].q = base + i) : TOk bat base xs (i + 1) (tstep bat clk ev base s xs[i]) := by
  unfold tstep
  by_cases hd : dueB s.f clk ev xs[i].q = true
  · rw [if_pos hd]
    by_cases hc : (!s.op || fullB s.out bat) = true
    · rw [if_pos hc, moreIt_snoc]
      have hnew : FrT bat base xs (i + 1) { (⟨1, base, xs[i].q, [], []⟩ : Fr) with its := ([] : List (List UInt8)) ++ [xs[i].b] } := by
        refine ⟨rfl, rfl, by simp only; omega, rfl, by simp; omega, by simp only [List.nil_append, List.length_cons, List.length_nil]; omega, fun j hj => ?_⟩
        simp only [List.nil_append, List.length_cons, List.length_nil] at hj
        obtain rfl : j = 0 := by omega
        simp only [List.nil_append, Nat.add_zero, List.getElem_cons_zero]
        rw [show (xs[i].q - base).toNat = i by omega, List.getElem?_eq_getElem hi]
        rfl
      refine ⟨fun g hg => ?_, fun _ => ⟨s.out, _, rfl, by simp only [List.nil_append, List.length_cons, List.length_nil]; omega⟩⟩
      rcases List.mem_append.1 hg with hg | hg
      · exact (h.all g hg).mono (by omega)
      · rw [List.mem_singleton] at hg; subst hg; exact hnew
    · rw [if_neg hc]
      have hop : s.op = true ∧ fullB s.out bat = false := by
        cases h1 : s.op <;> cases h2 : fullB s.out bat <;> simp_all
      obtain ⟨init, g, hout, hend⟩ := h.last hop.1
      have hg := h.all g (by rw [hout]; simp)
      have hful := hop.2
      rw [hout, fullB_snoc] at hful
      have hlt : g.its.length < bat := by have := hg.few; simp at hful; omega
      have hnew : FrT bat base xs (i + 1) { g with its := g.its ++ [xs[i].b] } := by
        refine ⟨hg.kind, hg.head, hg.seq, hg.bare, by simp; omega, by simp only [List.length_append, List.length_cons, List.length_nil]; omega, fun j hj => ?_⟩
        simp only [List.length_append, List.length_cons, List.length_nil] at hj
        by_cases hjl : j < g.its.length
        · rw [List.getElem_append_left hjl]; exact hg.items j hjl
        · obtain rfl : j = g.its.length := by omega
          simp only
          rw [hend, List.getElem?_eq_getElem hi]
          simp
      rw [hout, moreIt_snoc]
      refine ⟨fun g' hg' => ?_, fun _ => ⟨init, _, rfl, by simp only [List.length_append, List.length_cons, List.length_nil]; omega⟩⟩
      rcases List.mem_append.1 hg' with hg' | hg'
      · exact (h.all g' (by rw [hout]; simp [hg'])).mono (by omega)
      · rw [List.mem_singleton] at hg'; subst hg'; exact hnew
  · rw [if_neg hd]
    exact ⟨fun g hg => (h.all g hg).mono (by omega), fun h => by cases h⟩

theorem trun_ok {bat : Nat} {clk ev base : Int} {xs : List It} {f : Sent} (hb : 1 ≤ bat) (hq : ∀ i (h : i < xs.length), xs[i].q = base + i) : ∀ i, i ≤ xs.length → TOk bat base xs i (trun bat clk ev base ⟨f, [], false⟩ (xs.take i))
  | 0, _ => ⟨fun g hg => by simp [trun] at hg, fun h => by simp [trun] at h⟩
  | i + 1, h => by
    rw [List.take_succ_eq_append_getElem (by omega), trun_snoc]
    exact tstep_ok hb (trun_ok hb hq i (by omega)) (by omega) (hq i (by omega))

theorem tick_frames {win bat : Nat} {clk ev : Int} {f : Sent} {xs : List It} (hb : 1 ≤ bat) (g : Fr) (hg : g ∈ (tick win bat clk ev f xs).2) : FrT bat (headQ xs) xs xs.length g := by
  unfold tick at hg
  split at hg
  · rename_i hr
    have hq : ∀ i (h : i < xs.length), xs[i].q = headQ xs + i := fun i h => (rowB_spec hr i h).2.2.1
    by_cases hw : win ≤ xs.length
    · exact ((trun_ok (clk := clk) (ev := ev) (f := keepS f xs) hb hq win hw).all g hg).mono hw
    · rw [List.take_of_length_le (by omega)] at hg
      have := trun_ok (clk := clk) (ev := ev) (f := keepS f xs) hb hq xs.length (Nat.le_refl _)
      rw [List.take_of_length_le (Nat.le_refl _)] at this
      exact this.all g hg
  · simp at hg
end Go.Proofs.YtddpefbpiehgeaaDoor
