/- What every law's row wants: the program's tables out of the row's list, a world that holds them. -/
import Derived.Test.YtddpefbpiehgeaaDoorOpen
import Derived.Test.YtddpefbpiehgeaaDoorCards
import Derived.Test.YtddpefbpiehgeaaDoorTie
import Derived.Deep.DeepHandedRow
import Derived.Lib.LaidTab
import Derived.Stop.LaidErr
namespace Go.Proofs.YtddpefbpiehgeaaDoor
open Go Go.RowKit Go.ChangeShapes Go.WideShapes
set_option maxRecDepth 100000
set_option linter.unusedVariables false
set_option linter.unusedSectionVars false
set_option linter.unusedSimpArgs false

theorem ownK : ownKnob Tryd.prog.godebug = none := by kernel_rfl
theorem gStart : Tryd.prog.globalNamed "farebox/hash.start" = some 0 := by kernel_rfl
theorem gRounds : Tryd.prog.globalNamed "farebox/hash.rounds" = some 2 := by kernel_rfl
theorem gStartT : (Tryd.prog.globals[0]?).map (·.type) = some 135 := by kernel_rfl
theorem gRoundsT : (Tryd.prog.globals[2]?).map (·.type) = some 140 := by kernel_rfl
theorem ce8 : Tryd.prog.cellsOf 135 = 8 := by kernel_rfl
theorem ce64 : Tryd.prog.cellsOf 140 = 64 := by kernel_rfl
theorem ce1u : Tryd.prog.cellsOf 133 = 1 := by kernel_rfl

theorem laidStart_eq : (Rows.laid_farebox_hash_start : DataW Unit) = Lib.tabData .u32 (initW.map fun x => (x.toNat : Int)) := by rfl
theorem laidRounds_eq : (Rows.laid_farebox_hash_rounds : DataW Unit) = Lib.tabData .u32 (kW.map fun x => (x.toNat : Int)) := by rfl

theorem getD_toNat (l : List UInt32) (i : Nat) : (l.map fun x => (x.toNat : Int)).getD i 0 = ((l.getD i 0).toNat : Int) := by
  simp only [List.getD, List.getElem?_map]
  cases l[i]? <;> rfl

theorem gh_of_laid {W : World} {rest : List (String × DataW Unit)} (h : laidMet Tryd.prog (("farebox/hash.start", Rows.laid_farebox_hash_start) :: ("farebox/hash.rounds", Rows.laid_farebox_hash_rounds) :: rest) W) (hs : W.ShapedOpen Tryd.prog) : GH W := by
  have h1 : Lib.TabIs Tryd.prog W "farebox/hash.start" .u32 (initW.map fun x => (x.toNat : Int)) := Lib.tabIs_of_head gStart gStartT Tryd.underlying135 Tryd.underlying133 ce1u ce8 (by rw [← laidStart_eq]; exact h)
  have h2 : Lib.TabIs Tryd.prog W "farebox/hash.rounds" .u32 (kW.map fun x => (x.toNat : Int)) := Lib.tabIs_of_head gRounds gRoundsT Tryd.underlying140 Tryd.underlying133 ce1u ce64 (by rw [← laidRounds_eq]; exact h.tail)
  have h3 : 3 < W.heap.size := by
    have hg4 : Tryd.prog.globals.size = 4 := by kernel_rfl
    have hg : 3 < Tryd.prog.globals.size := by omega
    have hrow : (((begin Tryd.prog (fun _ _ => 0) default).world.heap[3]?).bind Obj.row?).isSome = true := by kernel_rfl
    obtain ⟨⟨zero, t⟩, hz⟩ := Option.isSome_iff_exists.1 hrow
    obtain ⟨cs, hc, _⟩ := hs.1 3 zero t hg hz
    exact lt_of_heap hc
  refine ⟨by omega, fun i hi => ?_, fun i hi => ?_⟩
  · have := h1.cell gStart i (by simpa [initW] using hi)
    rw [this, getD_toNat]
    rfl
  · have := h2.cell gRounds i (by simpa [kW] using hi)
    rw [this, getD_toNat]
    rfl

theorem laidOut : laidOutB Tryd.prog = true := by kernel_rfl

section
variable {H : Type} {enc : TypeId × Value → H}
/-- Every argument reads as it did, where nothing that there was has changed. -/
theorem all_stays {W W' : World} (hb : Below W.heap.size W W') : ∀ {ts : List TypeId}, (∀ t ∈ ts, Tryd.prog.readableRec t = true ∧ t < Tryd.prog.types.size) → ∀ {vs : List Value} {ds : List (DataW H)} {ps : List MemPlace},
    DataW.TrodAll enc Tryd.prog W 0 (fun _ => true) true ts vs ds ps → DataW.TrodAll enc Tryd.prog W' 0 (fun b => decide (b < W.heap.size)) true ts vs ds ps := by
  intro ts
  induction ts with
  | nil =>
    intro _ vs ds ps h
    match vs, ds, h with
    | [], [], h => exact h
  | cons t ts ih =>
    intro hts vs ds ps h
    have hlt := h.lt
    obtain ⟨v, vs', d, ds', p, q, rfl, rfl, rfl, h1, h2⟩ := trodAll_cons h
    exact ⟨p, q, Below.trod laidOut (hts t (by simp)).1 (hts t (by simp)).2 h1 hb (fun x hx => hlt x (by simp [hx])), ih (fun t ht => hts t (by simp [ht])) h2, rfl⟩

/-- What a law owes behind a call that returned true and changed nothing. -/
theorem post_true {fn : Func} {s : ChangeSpec} {W W' : World} {args : Array Value} {ds gs : List (DataW H)} {before : List MemPlace}
    (hW : DataW.Whole enc Tryd.prog fn.params.toList s.vars false W args.toList ds gs before) (hv : s.vars = []) (hfn : s.fn H ds = { results := [.lit (.bool true)], args := ds }) (hrt : fn.resultTypes = #[4])
    (hts : (fn.params.toList.all fun t => Tryd.prog.readableRec t && decide (t < Tryd.prog.types.size)) = true) (hb : Below W.heap.size W W') : s.post enc Tryd.prog fn false true false false W args (.bool true) W' := by
  have hW' := hW
  obtain ⟨p, q, hA, hV, rfl, hfz, hnd⟩ := hW
  rw [hv] at hV
  obtain ⟨rfl, rfl⟩ := trodVars_none hV
  refine ⟨ds, [], p ++ [], [], p, [], hW', ?_, ?_, ?_, hb.frame _, fun h => by cases h⟩
  · rw [List.append_nil, hfn, hrt]
    exact trodAll_cons_mk (shut_bool Tryd.underlying4 _) trodAll_mk0
  · rw [List.append_nil, hfn]
    exact all_stays hb (fun t ht => by have := List.all_eq_true.1 hts t ht; simpa using this) hA
  · rw [hv, List.append_nil, hfn]; rfl

theorem open_str {W : World} {b0 : Nat} {v : Value} {d : DataW H} {p : List MemPlace} (hval : Value.okWide Tryd.prog W .any b0 9 v) (h : DataW.Trod enc Tryd.prog W 0 (fun _ => true) true 9 v d p) : ∃ s, v = .string s :=
  let ⟨s, h, _⟩ := ChangeMaps.open_string Tryd.underlying9 hval h
  ⟨s, h⟩
theorem cells_slice {W : World} {b0 : Nat} {t e : TypeId} {v u : Value} (ht : Tryd.prog.underlying t = some (.slice e)) (hval : Value.okWide Tryd.prog W .any b0 t v) (h : v.cells.toList = [u]) : v = u := by
  unfold Value.okWide at hval
  rw [ht] at hval
  simp only at hval
  unfold Cell.okWide at hval
  rw [ht] at hval
  cases v <;> simp_all [Value.cells, Cell.ok]
theorem open_bytes {W : World} {b0 : Nat} {v : Value} {d : DataW H} {p : List MemPlace} (hval : Value.okWide Tryd.prog W .any b0 23 v) (h : DataW.Trod enc Tryd.prog W 0 (fun _ => true) true 23 v d p) (hw : Light 23 d) :
    ∃ l, Bs W v l ∧ l.length ≤ 140737488351232 := by
  obtain ⟨n, hn⟩ := h
  obtain ⟨u, l, hc, hb, _, hx⟩ := bs_of_trod hn
  have := cells_slice Tryd.underlying23 hval hc
  subst this
  have hbB : Tryd.prog.bytesOf 5 = 1 := by kernel_rfl
  have h2 := hw.slice Tryd.underlying23 hx
  rw [hbB] at h2
  unfold reachBytes at h2
  exact ⟨l, hb, by omega⟩
theorem open_frame {W : World} {b0 : Nat} {v : Value} {d : DataW H} {p : List MemPlace} (hval : Value.okWide Tryd.prog W .any b0 25 v) (h : DataW.Trod enc Tryd.prog W 0 (fun _ => true) true 25 v d p) (hw : Light 25 d) :
    ∃ f iv tv, v = .agg (fcells f iv tv) ∧ Rws W iv f.its ∧ Bs W tv f.t ∧ f.its.length ≤ 5864062014805 ∧ f.t.length ≤ 140737488351232 ∧ (∀ l ∈ f.its, l.length ≤ 140737488351232) ∧ isInt f.k ∧ isInt f.a ∧ isInt f.b := by
  obtain ⟨n, hn⟩ := h
  obtain ⟨f, iv, tv, hc, r⟩ := fr_of_trod hn hw
  refine ⟨f, iv, tv, ?_, r⟩
  unfold Value.okWide at hval
  rw [Tryd.underlying25] at hval
  obtain ⟨cs, rfl, _⟩ := hval
  have hc' : cs.toList = (fcells f iv tv).toList := hc
  exact congrArg _ (Array.toList_inj.1 hc')
theorem open_i64 {W : World} {b0 : Nat} {v : Value} {d : DataW H} {p : List MemPlace} (hval : Value.okWide Tryd.prog W .any b0 3 v) (h : DataW.Trod enc Tryd.prog W 0 (fun _ => true) true 3 v d p) : ∃ n, v = .int .i64 n ∧ isInt n := by
  obtain ⟨n, h1, _, _, h2⟩ := open_int Tryd.underlying3 hval h
  exact ⟨n, h1, isInt.of h2⟩
end

/-- A world for the witness: the settled one, the tables hold what the program's text lays. -/
def putTab (cs : Array Value) : Obj → Obj
  | .cells _ t frozen => .cells cs t frozen
  | o => o
noncomputable def laidWorld (os : Os) : World :=
  { World.holding Tryd.prog os ⟨#[], #[], []⟩ with heap := ((World.holding Tryd.prog os ⟨#[], #[], []⟩).heap.modify 0 (putTab (arr initW))).modify 2 (putTab (arr kW)) }
end Go.Proofs.YtddpefbpiehgeaaDoor
