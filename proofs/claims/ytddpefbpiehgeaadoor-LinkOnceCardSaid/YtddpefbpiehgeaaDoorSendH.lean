/- The link: a tick, whatever comes in. -/
import Derived.Test.YtddpefbpiehgeaaDoorSendG
import Derived.Test.YtddpefbpiehgeaaDoorLawA
namespace Go.Proofs.YtddpefbpiehgeaaDoor
open Go Go.RowKit
set_option maxRecDepth 100000
set_option linter.unusedVariables false
set_option linter.unusedSectionVars false
set_option linter.unusedSimpArgs false

theorem tick_calls (P : Nat → Prop) (p mb n win bat : Nat) (ev clk : Int) (f : Sent) (v : Value) (cs : List Value) (xs : List It) (w : World) (hP : ¬ P p) (hP2 : ¬ P mb) (hs : IsS w p mb n win bat ev clk f) (hclk : clk ≤ 100000000000000) (hnn : n ≤ 10000000000000) (hsl : Sl w 2 v xs.length cs) (hv : BlkP P v) (hi : ItC P w cs xs) (hn : xs.length ≤ 100000000000000) (hl : ∀ x ∈ xs, x.b.length ≤ 140737488355328) :
    Calls Tryd.prog 28 #[.pointer (some ⟨p, 0, none⟩), v] w (RetT (tick win bat (clk + 1) ev f xs) p mb n win bat ev (clk + 1) w) := by
  cases hr : rowB xs with
  | false => exact tick_bad P p mb n win bat ev clk f v cs xs w hP hP2 hs hclk hsl hv hi hn hl hr
  | true =>
    rcases Nat.lt_or_ge win xs.length with h | h
    · exact tick_okA P p mb n win bat ev clk f v cs xs w hP hP2 hs hclk hnn hsl hv hi hn hr h
    · exact tick_okB P p mb n win bat ev clk f v cs xs w hP hP2 hs hclk hnn hsl hv hi hn hr h

/-- The frame at a place of a row of frames. -/
theorem frame_at {P : Nat → Prop} {w : World} {a : Option Addr} {n cap : Nat} {cs : List Value} {fs : List Fr} (hs : Sl w 5 (.slice a n cap) n cs) (hf : FrC P w cs fs) (hn : n = fs.length) (i : Nat) (h : i < fs.length) :
    ∃ b off iv tv, a = some ⟨b, off, none⟩ ∧ b < w.heap.size ∧
      w.cell? ⟨b, off + i * 5, none⟩ = some (.int .i64 fs[i].k) ∧ w.cell? ⟨b, off + i * 5 + 1, none⟩ = some (.int .i64 fs[i].a) ∧ w.cell? ⟨b, off + i * 5 + 2, none⟩ = some (.int .i64 fs[i].b) ∧ w.cell? ⟨b, off + i * 5 + 3, none⟩ = some iv ∧ w.cell? ⟨b, off + i * 5 + 4, none⟩ = some tv ∧
      RwP P w iv fs[i].its ∧ Bs w tv fs[i].t ∧ BlkP P tv := by
  obtain ⟨a', cap', he, hc, _, h6, h7⟩ := Sl.form hs
  cases he
  obtain ⟨b, off, rfl, hlt⟩ := h6 (by omega)
  obtain ⟨iv, tv, h1, h2, h3, h4⟩ := hf.2 i h
  have hcell : ∀ j u, j < 5 → (fcells fs[i] iv tv).toList[j]? = some u → w.cell? ⟨b, off + (i * 5 + j), none⟩ = some u := fun j u hj hu => by
    refine (h7 b off rfl).2 _ _ ?_
    rw [← h1, List.getElem?_take, if_pos hj, List.getElem?_drop] at hu
    exact hu
  exact ⟨b, off, iv, tv, rfl, hlt, hcell 0 _ (by omega) rfl, hcell 1 _ (by omega) rfl, hcell 2 _ (by omega) rfl, hcell 3 _ (by omega) rfl, hcell 4 _ (by omega) rfl, h2, h3, h4⟩
end Go.Proofs.YtddpefbpiehgeaaDoor
