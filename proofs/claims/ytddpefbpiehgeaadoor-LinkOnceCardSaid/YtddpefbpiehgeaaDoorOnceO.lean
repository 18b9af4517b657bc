/- What comes in: a script of a link's steps. -/
import Derived.Test.YtddpefbpiehgeaaDoorOnceW
import Derived.Test.YtddpefbpiehgeaaDoorRowK
namespace Go.Proofs.YtddpefbpiehgeaaDoor
open Go Go.RowKit Go.ChangeShapes Go.WideShapes
set_option maxRecDepth 100000
set_option linter.unusedVariables false
set_option linter.unusedSectionVars false
set_option linter.unusedSimpArgs false

section
variable {H : Type} {enc : TypeId × Value → H} {w : World} {base : Nat} {held : Bool} {fuel : Nat} {cs : List Value} {x : DataW H × List MemPlace}

/-- One step. -/
theorem st_of_trod (h : DataW.trod enc Tryd.prog w base (fun _ => true) held fuel 62 cs = some x) :
    ∃ (o : StpT) (u : Value), cs = [.int .i64 o.d, .int .i64 o.n, u] ∧ Bs w u o.b ∧ BlkP (· < w.heap.size) u := by
  obtain ⟨xs, m, rfl, hx, hl, hxl, hf⟩ := DataW.trod_struct Tryd.underlying62 h
  have hl3 : cs.length = 3 := hl.trans (by kernel_rfl)
  obtain ⟨c0, c1, c2, rfl⟩ : ∃ c0 c1 c2, cs = [c0, c1, c2] := by
    match cs, hl3 with
    | [c0, c1, c2], _ => exact ⟨c0, c1, c2, rfl⟩
  have hxl3 : xs.length = 3 := hxl
  obtain ⟨x0, x1, x2, rfl⟩ : ∃ c0 c1 c2, xs = [c0, c1, c2] := by
    match xs, hxl3 with
    | [c0, c1, c2], _ => exact ⟨c0, c1, c2, rfl⟩
  have k3 : Tryd.prog.cellsOf 3 = 1 := by kernel_rfl
  have k23 : Tryd.prog.cellsOf 23 = 1 := by kernel_rfl
  have h0 := hf 0 _ rfl
  have h1 := hf 1 _ rfl
  have h2 := hf 2 _ rfl
  simp only [k3, k23, List.drop_zero, List.drop_succ_cons, List.take_succ_cons, List.take_zero, List.getElem?_cons_zero, List.getElem?_cons_succ] at h0 h1 h2
  obtain ⟨a0, e0, _, w0⟩ := DataW.trod_int Tryd.underlying3 h0
  obtain ⟨a1, e1, _, w1⟩ := DataW.trod_int Tryd.underlying3 h1
  obtain ⟨v, l, e2, hB, _, _⟩ := bs_of_trod h2
  cases e0; cases e1; cases e2
  exact ⟨⟨a0, a1, l⟩, _, rfl, hB, fun g hg => Sl.lt hB g hg⟩

/-- A script. -/
theorem sts_of_trod (h : DataW.trod enc Tryd.prog w base (fun _ => true) held fuel 55 cs = some x) :
    ∃ v os cells, cs = [v] ∧ Sl w 3 v os.length cells ∧ StC w.heap.size w cells os ∧ os.length ≤ maxLen := by
  obtain ⟨v, n, cells, rfl, hs, hn, ⟨m, hm⟩, hx⟩ := sl_of_trod (sz := 3) Tryd.underlying55 (by kernel_rfl) (by omega) h
  have hb : ∀ i, i < n → ∃ (o : StpT) (u : Value), (cells.drop (i * 3)).take 3 = [.int .i64 o.d, .int .i64 o.n, u] ∧ Bs w u o.b ∧ BlkP (· < w.heap.size) u := fun i hi => by
    obtain ⟨y, hy⟩ := hm i hi
    exact st_of_trod hy
  let f : Nat → StpT := fun i => if h : i < n then Classical.choose (hb i h) else ⟨0, 0, []⟩
  have hf : ∀ i, i < n → ∃ (u : Value), (cells.drop (i * 3)).take 3 = [.int .i64 (f i).d, .int .i64 (f i).n, u] ∧ Bs w u (f i).b ∧ BlkP (· < w.heap.size) u := fun i hi => by
    simp only [f, dif_pos hi]
    exact Classical.choose_spec (hb i hi)
  refine ⟨v, upto n f, cells, rfl, by rw [upto_length]; exact hs, ⟨by rw [upto_length]; exact hs.1, fun i hi => ?_⟩, by rw [upto_length]; exact hn⟩
  rw [upto_length] at hi
  have he : (upto n f)[i]'(by rw [upto_length]; exact hi) = f i := by simp [upto]
  rw [he]
  obtain ⟨u, h1, h2, h3⟩ := hf i hi
  have key : ∀ j, j < 3 → cells[i * 3 + j]? = [Value.int .i64 (f i).d, .int .i64 (f i).n, u][j]? := fun j hj => by
    rw [← h1, List.getElem?_take, if_pos hj, List.getElem?_drop]
  exact ⟨u, key 0 (by omega), key 1 (by omega), key 2 (by omega), h2, h3⟩
end
end Go.Proofs.YtddpefbpiehgeaaDoor
