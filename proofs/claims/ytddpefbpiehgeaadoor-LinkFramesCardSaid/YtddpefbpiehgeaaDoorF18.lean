/- What every law's row wants: the program's tables out of the row's list, a world that holds them. -/
import Derived.Test.YtddpefbpiehgeaaDoorF17
import Derived.Test.YtddpefbpiehgeaaDoorCards
import Derived.Test.YtddpefbpiehgeaaDoorTie
import Derived.Deep.DeepHandedRow
import Derived.Lib.LaidTab
import Derived.Stop.LaidErr
import Derived.Test.YtddpefbpiehgeaaDoorF10
import Derived.Test.YtddpefbpiehgeaaDoorF08
import Derived.Test.YtddpefbpiehgeaaDoorF13
namespace Go.Proofs.YtddpefbpiehgeaaDoor
open Go Go.RowKit Go.ChangeShapes Go.WideShapes
set_option maxRecDepth 100000
set_option linter.unusedVariables false
set_option linter.unusedSectionVars false
set_option linter.unusedSimpArgs false

theorem ownK : ownKnob Tryd.prog.godebug = none := by kernel_rfl
theorem gStart : Tryd.prog.globalNamed "farebox/hash.start" = some 0 := by kernel_rfl
theorem gRounds : Tryd.prog.globalNamed "farebox/hash.rounds" = some 2 := by kernel_rfl
theorem gStartT : (Tryd.prog.globals[0]?).map (·.type) = some 135 := by kernel_rfl
theorem gRoundsT : (Tryd.prog.globals[2]?).map (·.type) = some 140 := by kernel_rfl
theorem ce8 : Tryd.prog.cellsOf 135 = 8 := by kernel_rfl
theorem ce64 : Tryd.prog.cellsOf 140 = 64 := by kernel_rfl
theorem ce1u : Tryd.prog.cellsOf 133 = 1 := by kernel_rfl

theorem laidStart_eq : (Rows.laid_farebox_hash_start : DataW Unit) = Lib.tabData .u32 (initW.map fun x => (x.toNat : Int)) := by rfl
theorem laidRounds_eq : (Rows.laid_farebox_hash_rounds : DataW Unit) = Lib.tabData .u32 (kW.map fun x => (x.toNat : Int)) := by rfl

theorem getD_toNat (l : List UInt32) (i : Nat) : (l.map fun x => (x.toNat : Int)).getD i 0 = ((l.getD i 0).toNat : Int) := by
  simp only [List.getD, List.getElem?_map]
  cases l[i]? <;> rfl

theorem gh_of_laid {W : World} {rest : List (String × DataW Unit)} (h : laidMet Tryd.prog (("farebox/hash.start", Rows.laid_farebox_hash_start) :: ("farebox/hash.rounds", Rows.laid_farebox_hash_rounds) :: rest) W) (hs : W.ShapedOpen Tryd.prog) : GH W := by
  have h1 : Lib.TabIs Tryd.prog W "farebox/hash.start" .u32 (initW.map fun x => (x.toNat : Int)) := Lib.tabIs_of_head gStart gStartT Tryd.underlying135 Tryd.underlying133 ce1u ce8 (by rw [← laidStart_eq]; exact h)
  have h2 : Lib.TabIs Tryd.prog W "farebox/hash.rounds" .u32 (kW.map fun x => (x.toNat : Int)) := Lib.tabIs_of_head gRounds gRoundsT Tryd.underlying140 Tryd.underlying133 ce1u ce64 (by rw [← laidRounds_eq]; exact h.tail)
  have h3 : 3 < W.heap.size := by
    have hg4 : Tryd.prog.globals.size = 4 := by kernel_rfl
    have hg : 3 < Tryd.prog.globals.size := by omega
    have hrow : (((begin Tryd.prog (fun _ _ => 0) default).world.heap[3]?).bind Obj.row?).isSome = true := by kernel_rfl
    obtain ⟨⟨zero, t⟩, hz⟩ := Option.isSome_iff_exists.1 hrow
    obtain ⟨cs, hc, _⟩ := hs.1 3 zero t hg hz
    exact lt_of_heap hc
  refine ⟨by omega, fun i hi => ?_, fun i hi => ?_⟩
  · have := h1.cell gStart i (by simpa [initW] using hi)
    rw [this, getD_toNat]
    rfl
  · have := h2.cell gRounds i (by simpa [kW] using hi)
    rw [this, getD_toNat]
    rfl

theorem laidOut : laidOutB Tryd.prog = true := by kernel_rfl

section
variable {H : Type} {enc : TypeId × Value → H}
/-- Every argument reads as it did, where nothing that there was has changed. -/
theorem all_stays {W W' : World} (hb : Below W.heap.size W W') : ∀ {ts : List TypeId}, (∀ t ∈ ts, Tryd.prog.readableRec t = true ∧ t < Tryd.prog.types.size) → ∀ {vs : List Value} {ds : List (DataW H)} {ps : List MemPlace},
    DataW.TrodAll enc Tryd.prog W 0 (fun _ => true) true ts vs ds ps → DataW.TrodAll enc Tryd.prog W' 0 (fun b => decide (b < W.heap.size)) true ts vs ds ps := by
  intro ts
  induction ts with
  | nil =>
    intro _ vs ds ps h
    match vs, ds, h with
    | [], [], h => exact h
  | cons t ts ih =>
    intro hts vs ds ps h
    have hlt := h.lt
    obtain ⟨v, vs', d, ds', p, q, rfl, rfl, rfl, h1, h2⟩ := trodAll_cons h
    exact ⟨p, q, Below.trod laidOut (hts t (by simp)).1 (hts t (by simp)).2 h1 hb (fun x hx => hlt x (by simp [hx])), ih (fun t ht => hts t (by simp [ht])) h2, rfl⟩

/-- What a law owes behind a call that returned true and changed nothing. -/
theorem post_true {fn : Func} {s : ChangeSpec} {W W' : World} {args : Array Value} {ds gs : List (DataW H)} {before : List MemPlace}
    (hW : DataW.Whole enc Tryd.prog fn.params.toList s.vars false W args.toList ds gs before) (hv : s.vars = []) (hfn : s.fn H ds = { results := [.lit (.bool true)], args := ds }) (hrt : fn.resultTypes = #[4])
    (hts : (fn.params.toList.all fun t => Tryd.prog.readableRec t && decide (t < Tryd.prog.types.size)) = true) (hb : Below W.heap.size W W') : s.post enc Tryd.prog fn false true false false W args (.bool true) W' := by
  have hW' := hW
  obtain ⟨p, q, hA, hV, rfl, hfz, hnd⟩ := hW
  rw [hv] at hV
  obtain ⟨rfl, rfl⟩ := trodVars_none hV
  refine ⟨ds, [], p ++ [], [], p, [], hW', ?_, ?_, ?_, hb.frame _, fun h => by cases h⟩
  · rw [List.append_nil, hfn, hrt]
    exact trodAll_cons_mk (shut_bool Tryd.underlying4 _) trodAll_mk0
  · rw [List.append_nil, hfn]
    exact all_stays hb (fun t ht => by have := List.all_eq_true.1 hts t ht; simpa using this) hA
  · rw [hv, List.append_nil, hfn]; rfl

theorem open_str {W : World} {b0 : Nat} {v : Value} {d : DataW H} {p : List MemPlace} (hval : Value.okWide Tryd.prog W .any b0 9 v) (h : DataW.Trod enc Tryd.prog W 0 (fun _ => true) true 9 v d p) : ∃ s, v = .string s :=
  let ⟨s, h, _⟩ := ChangeMaps.open_string Tryd.underlying9 hval h
  ⟨s, h⟩
theorem cells_slice {W : World} {b0 : Nat} {t e : TypeId} {v u : Value} (ht : Tryd.prog.underlying t = some (.slice e)) (hval : Value.okWide Tryd.prog W .any b0 t v) (h : v.cells.toList = [u]) : v = u := by
  unfold Value.okWide at hval
  rw [ht] at hval
  simp only at hval
  unfold Cell.okWide at hval
  rw [ht] at hval
  cases v <;> simp_all [Value.cells, Cell.ok]
theorem open_bytes {W : World} {b0 : Nat} {v : Value} {d : DataW H} {p : List MemPlace} (hval : Value.okWide Tryd.prog W .any b0 23 v) (h : DataW.Trod enc Tryd.prog W 0 (fun _ => true) true 23 v d p) (hw : Light 23 d) :
    ∃ l, Bs W v l ∧ l.length ≤ 140737488351232 := by
  obtain ⟨n, hn⟩ := h
  obtain ⟨u, l, hc, hb, _, hx⟩ := bs_of_trod hn
  have := cells_slice Tryd.underlying23 hval hc
  subst this
  have hbB : Tryd.prog.bytesOf 5 = 1 := by kernel_rfl
  have h2 := hw.slice Tryd.underlying23 hx
  rw [hbB] at h2
  unfold reachBytes at h2
  exact ⟨l, hb, by omega⟩
theorem open_frame {W : World} {b0 : Nat} {v : Value} {d : DataW H} {p : List MemPlace} (hval : Value.okWide Tryd.prog W .any b0 25 v) (h : DataW.Trod enc Tryd.prog W 0 (fun _ => true) true 25 v d p) (hw : Light 25 d) :
    ∃ f iv tv, v = .agg (fcells f iv tv) ∧ Rws W iv f.its ∧ Bs W tv f.t ∧ f.its.length ≤ 5864062014805 ∧ f.t.length ≤ 140737488351232 ∧ (∀ l ∈ f.its, l.length ≤ 140737488351232) ∧ isInt f.k ∧ isInt f.a ∧ isInt f.b := by
  obtain ⟨n, hn⟩ := h
  obtain ⟨f, iv, tv, hc, r⟩ := fr_of_trod hn hw
  refine ⟨f, iv, tv, ?_, r⟩
  unfold Value.okWide at hval
  rw [Tryd.underlying25] at hval
  obtain ⟨cs, rfl, _⟩ := hval
  have hc' : cs.toList = (fcells f iv tv).toList := hc
  exact congrArg _ (Array.toList_inj.1 hc')
theorem open_i64 {W : World} {b0 : Nat} {v : Value} {d : DataW H} {p : List MemPlace} (hval : Value.okWide Tryd.prog W .any b0 3 v) (h : DataW.Trod enc Tryd.prog W 0 (fun _ => true) true 3 v d p) : ∃ n, v = .int .i64 n ∧ isInt n := by
  obtain ⟨n, h1, _, _, h2⟩ := open_int Tryd.underlying3 hval h
  exact ⟨n, h1, isInt.of h2⟩
end

/-- A world for the witness: the settled one, the tables hold what the program's text lays. -/
def putTab (cs : Array Value) : Obj → Obj
  | .cells _ t frozen => .cells cs t frozen
  | o => o
noncomputable def laidWorld (os : Os) : World :=
  { World.holding Tryd.prog os ⟨#[], #[], []⟩ with heap := ((World.holding Tryd.prog os ⟨#[], #[], []⟩).heap.modify 0 (putTab (arr initW))).modify 2 (putTab (arr kW)) }
end Go.Proofs.YtddpefbpiehgeaaDoor

/- Links' secrets: for every secret and number LinkSecrets returns true. -/
namespace Go.Proofs.YtddpefbpiehgeaaDoor
open Go Go.RowKit Go.ChangeShapes Go.WideShapes
set_option maxRecDepth 100000
set_option linter.unusedVariables false
set_option linter.unusedSectionVars false
set_option linter.unusedSimpArgs false

theorem secrets_walk (s : ByteArray) (n : Int) (w : World) (hG : GH w) (hR : GR w) :
    Calls Tryd.prog 8 #[.string s, .int .i64 n] w fun e w' => e = .returned (.bool true) ∧ Kp [] w w' := by
  by_cases hs : 200 < s.size
  · go_enter Tryd.func8, Tryd.ntmps8
    go_wp2_with fail
    refine (awake_calls w hG).mono ?_
    rintro e w1 ⟨rfl, hk1⟩
    go_wp2_with (first
      | (go_at_call 29; (with_reducible refine (secret_long s n _ hs).mono ?_); rintro e w3 ⟨rfl, rfl⟩)
      | (go_at_call 30; (with_reducible refine (rsecret_long s n _ hs).mono ?_); rintro e w3 ⟨rfl, rfl⟩))
    go_ret
    exact ⟨rfl, hk1⟩
  · by_cases hn : n < 0 ∨ 65535 < n
    · go_enter Tryd.func8, Tryd.ntmps8
      go_wp2_with fail
      refine (awake_calls w hG).mono ?_
      rintro e w1 ⟨rfl, hk1⟩
      have hs2 : s.size ≤ 200 := by omega
      have HN := Lib.hid hn
      clear hn
      go_wp2_with (first
        | (go_at_call 29; (with_reducible refine (secret_wide s n _ hs2 HN.out).mono ?_); rintro e w3 ⟨rfl, rfl⟩)
        | (go_at_call 30; (with_reducible refine (rsecret_wide s n _ hs2 HN.out).mono ?_); rintro e w3 ⟨rfl, rfl⟩))
      go_ret
      exact ⟨rfl, hk1⟩
    · have hs2 : s.size ≤ 200 := by omega
      obtain ⟨m, rfl⟩ : ∃ m : Nat, n = m := ⟨n.toNat, by omega⟩
      have hm : m ≤ 65535 := by omega
      clear hn hs
      go_enter Tryd.func8, Tryd.ntmps8
      go_wp2_with fail
      refine (awake_calls w hG).mono ?_
      rintro e w1 ⟨rfl, hk1⟩
      go_wp2_with (first
        | (go_at_call 29; (with_reducible refine (secret_calls s m _ (hG.kp0 hk1) hs2 hm).mono ?_); rintro e w2 ⟨rfl, hk2⟩)
        | (go_at_call 30; (with_reducible refine (rsecret_calls s m _ (hR.kp0 (hk1.trans hk2)) hs2 hm).mono ?_); rintro e w3 ⟨rfl, hk3⟩))
      go_ret
      exact ⟨rfl, (hk1.trans hk2).trans hk3⟩

theorem gFirst : Tryd.prog.globalNamed "farebox/fareboxref03.first" = some 1 := by kernel_rfl
theorem gKs : Tryd.prog.globalNamed "farebox/fareboxref03.k" = some 3 := by kernel_rfl
theorem gFirstT : (Tryd.prog.globals[1]?).map (·.type) = some 134 := by kernel_rfl
theorem gKsT : (Tryd.prog.globals[3]?).map (·.type) = some 140 := by kernel_rfl
theorem ce8r : Tryd.prog.cellsOf 134 = 8 := by kernel_rfl
theorem laidFirst_eq : (Rows.laid_farebox_fareboxref03_first : DataW Unit) = Lib.tabData .u32 (initW.map fun x => (x.toNat : Int)) := by rfl
theorem laidKs_eq : (Rows.laid_farebox_fareboxref03_k : DataW Unit) = Lib.tabData .u32 (kW.map fun x => (x.toNat : Int)) := by rfl
theorem gr_of_laid {W : World} {rest : List (String × DataW Unit)} (h : laidMet Tryd.prog (("farebox/fareboxref03.first", Rows.laid_farebox_fareboxref03_first) :: ("farebox/fareboxref03.k", Rows.laid_farebox_fareboxref03_k) :: rest) W) (h4 : 4 ≤ W.heap.size) : GR W := by
  have h1 : Lib.TabIs Tryd.prog W "farebox/fareboxref03.first" .u32 (initW.map fun x => (x.toNat : Int)) := Lib.tabIs_of_head gFirst gFirstT Tryd.underlying134 Tryd.underlying133 ce1u ce8r (by rw [← laidFirst_eq]; exact h)
  have h2 : Lib.TabIs Tryd.prog W "farebox/fareboxref03.k" .u32 (kW.map fun x => (x.toNat : Int)) := Lib.tabIs_of_head gKs gKsT Tryd.underlying140 Tryd.underlying133 ce1u ce64 (by rw [← laidKs_eq]; exact h.tail)
  refine ⟨h4, fun i hi => ?_, fun i hi => ?_⟩
  · have := h1.cell gFirst i (by simpa [initW] using hi)
    rw [this, getD_toNat]
    rfl
  · have := h2.cell gKs i (by simpa [kW] using hi)
    rw [this, getD_toNat]
    rfl

/-- A world for the witness: all four tables. -/
noncomputable def laidWorld4 (os : Os) : World :=
  { laidWorld os with heap := ((laidWorld os).heap.modify 1 (putTab (arr initW))).modify 3 (putTab (arr kW)) }
end Go.Proofs.YtddpefbpiehgeaaDoor

/- Frames are made and parsed as the document says: the walk of LinkFrames. -/
namespace Go.Proofs.YtddpefbpiehgeaaDoor
open Go Go.RowKit
set_option maxRecDepth 100000
set_option linter.unusedVariables false
set_option linter.unusedSectionVars false
set_option linter.unusedSimpArgs false

theorem Its.one {w : World} {B : Nat} {u : Value} {x : List UInt8} (h : OB w 5 B u x) : Its w B [u] [x] :=
  ⟨rfl, fun i hi => by obtain rfl : i = 0 := by simpa using hi
                       exact ⟨u, rfl, h⟩, fun i j a b hij ha hb => by
    have h1 := (List.getElem?_eq_some_iff.1 ha).1
    have h2 := (List.getElem?_eq_some_iff.1 hb).1
    simp at h1 h2; omega⟩
theorem Its.app {w : World} {B : Nat} {us vs : List Value} {its jts : List (List UInt8)} (h : Its w B us its) (k : Its w B vs jts) (ha : ∀ u ∈ us, ∀ v ∈ vs, Apart u v) : Its w B (us ++ vs) (its ++ jts) := by
  obtain ⟨hl, h1, h2⟩ := h
  obtain ⟨kl, k1, k2⟩ := k
  refine ⟨by simp [hl, kl], fun i hi => ?_, fun i j a b hij hi hj => ?_⟩
  · by_cases hlt : i < its.length
    · obtain ⟨u, hu, hb⟩ := h1 i hlt
      exact ⟨u, by rw [List.getElem?_append_left (by omega)]; exact hu, by rw [List.getElem_append_left hlt]; exact hb⟩
    · obtain ⟨u, hu, hb⟩ := k1 (i - its.length) (by simp at hi; omega)
      exact ⟨u, by rw [List.getElem?_append_right (by omega), hl]; exact hu, by rw [List.getElem_append_right (by omega)]; exact hb⟩
  · have key : ∀ i u, (us ++ vs)[i]? = some u → (i < us.length ∧ us[i]? = some u) ∨ (us.length ≤ i ∧ vs[i - us.length]? = some u) := by
      intro i u hu
      by_cases hlt : i < us.length
      · rw [List.getElem?_append_left hlt] at hu; exact .inl ⟨hlt, hu⟩
      · rw [List.getElem?_append_right (by omega)] at hu; exact .inr ⟨by omega, hu⟩
    rcases key i a hi with ⟨a1, a2⟩ | ⟨a1, a2⟩ <;> rcases key j b hj with ⟨b1, b2⟩ | ⟨b1, b2⟩
    · exact h2 i j a b hij a2 b2
    · exact ha a (List.mem_of_getElem? a2) b (List.mem_of_getElem? b2)
    · exact (ha b (List.mem_of_getElem? b2) a (List.mem_of_getElem? a2)).symm
    · exact k2 _ _ a b (by omega) a2 b2

theorem Its.oneCell {w : World} {B : Nat} {us : List Value} {its : List (List UInt8)} (h : Its w B us its) : ∀ u ∈ us, u.oneCell' = true := by
  intro u hu
  obtain ⟨i, hi⟩ := List.mem_iff_getElem?.1 hu
  obtain ⟨u', h1, h2⟩ := h.2.1 i (by rw [← h.1]; exact (List.getElem?_eq_some_iff.1 hi).1)
  rw [hi] at h1; cases h1
  obtain ⟨a, c, e⟩ := own_form h2
  rw [e]; rfl

theorem parsed_small {s : ByteArray} {l : List UInt8} {pf : Fr} {pe : Int} (h : parsedOf s l = (pf, pe)) : pf.its.length ≤ 8 ∧ (∀ x ∈ pf.its, x.length ≤ 256) ∧ pf.t.length ≤ 16100 := by
  have hz : zeroF.its.length ≤ 8 ∧ (∀ x ∈ zeroF.its, x.length ≤ 256) ∧ zeroF.t.length ≤ 16100 := ⟨by decide, by simp [zeroF], by decide⟩
  have hm : ∀ f, mayB f = true → f.its.length ≤ 8 ∧ (∀ x ∈ f.its, x.length ≤ 256) ∧ f.t.length ≤ 16100 := fun f hm => by
    rcases may_k hm with hk | ⟨_, _, h2, h3, _, _⟩ | ⟨_, _, h2, _, h3⟩
    · obtain ⟨h1, h2, _, h4, _⟩ := may_1 hm hk
      exact ⟨h4, h2, by rw [h1]; simp⟩
    · rw [h2, h3]; simp
    · rw [h2]; exact ⟨by simp, by simp, h3⟩
  unfold parsedOf at h
  split at h
  · cases h; exact hz
  · split at h
    · cases h; exact hz
    · split at h
      · cases h; exact hz
      · split at h
        · cases h; exact hz
        · rename_i d _ f hp
          cases h
          unfold parsed at hp
          split at hp
          · rename_i hc
            cases hp
            exact hm _ (by simp at hc; exact hc.2)
          · cases hp
theorem made_small (s : ByteArray) (f : Fr) : (madeOf s f).1.length ≤ 20000 := by
  unfold madeOf
  split
  · simp
  · rename_i hm
    split
    · simp
    · have := frameBytes_le f (by simpa using hm)
      simp only [sealed_length]; omega

set_option maxHeartbeats 2000000 in
theorem frames_walk (s : ByteArray) (f : Fr) (iv tv rv : Value) (l : List UInt8) (w : World) (hG : GH w) (hR : GR w) (hi : Rws w iv f.its) (ht : Bs w tv f.t) (hr : Bs w rv l) (hn : f.its.length ≤ 5864062014805) (hnl : ∀ x ∈ f.its, x.length ≤ 140737488355328) (hnt : f.t.length ≤ 140737488352000) (hb : f.b ≤ 9223372036854775807) (hl : l.length ≤ 140737488352000) :
    Calls Tryd.prog 3 #[.string s, .agg (fcells f iv tv), rv] w fun e w' => e = .returned (.bool true) ∧ Kp [] w w' := by
  obtain ⟨ia, ic, rfl, hic⟩ := hi.form
  obtain ⟨ta, tc, rfl, -⟩ := Sl.form ht
  obtain ⟨ra, rc, rfl, -⟩ := Sl.form hr
  unfold fcells
  have hk0 := (Kp.refl [] w).alloc (.cells #[.int .i64 f.k, .int .i64 f.a, .int .i64 f.b, .slice ia f.its.length ic, .slice ta f.t.length tc] 25)
  have hh0 := heap_alloc_new w (.cells #[.int .i64 f.k, .int .i64 f.a, .int .i64 f.b, .slice ia f.its.length ic, .slice ta f.t.length tc] 25)
  obtain ⟨pf, pe, hpo⟩ : ∃ pf pe, parsedOf s l = (pf, pe) := ⟨_, _, rfl⟩
  obtain ⟨bl, g, hmk⟩ : ∃ bl g, madeOf s f = (bl, g) := ⟨_, _, rfl⟩
  have hblen : bl.length ≤ 20000 := by have := made_small s f; rw [hmk] at this; exact this
  obtain ⟨hp1, hp2, hp3⟩ := parsed_small hpo
  have HPO := Lib.hid hpo
  have HMK := Lib.hid hmk
  have HP2 := Lib.hid hp2
  clear hpo hmk hp2
  go_enter Tryd.func3, Tryd.ntmps3
  go_wp2_with fail
  have hsz0 := alloc_lt w (.cells #[.int .i64 f.k, .int .i64 f.a, .int .i64 f.b, .slice ia f.its.length ic, .slice ta f.t.length tc] 25)
  generalize w.alloc (.cells #[.int .i64 f.k, .int .i64 f.a, .int .i64 f.b, .slice ia f.its.length ic, .slice ta f.t.length tc] 25) = w0 at *
  generalize hbb : w.heap.size = bb at *
  have HBB := Lib.hid hbb
  clear hbb
  refine (awake_calls w0 (hG.kp0 hk0)).mono ?_
  rintro e w1 ⟨rfl, hk1⟩
  have K1 := hk0.trans hk1
  have hh1 := hk1.heap hh0 (by simp)
  obtain ⟨c0, c1, c2, c3, c4⟩ := cells5 hh1
  go_wp2_with fail
  have hcc := copied_calls f (.slice ia f.its.length ic) (.slice ta f.t.length tc) w1 (hi.kp0 K1) (ht.kp0 K1) hn (by omega) hnl
  unfold fcells at hcc
  refine hcc.mono ?_
  rintro e w2 ⟨v2, rfl, hF2, hk2⟩
  obtain ⟨xa, xc, ya, yc, rfl, hxR, hxT⟩ := hF2.lit
  have K2 := K1.trans hk2
  have hk3 := (Kp.refl [] w2).alloc (.cells #[.int .i64 f.k, .int .i64 f.a, .int .i64 f.b, .slice xa f.its.length xc, .slice ya f.t.length yc] 25)
  have hh3 := heap_alloc_new w2 (.cells #[.int .i64 f.k, .int .i64 f.a, .int .i64 f.b, .slice xa f.its.length xc, .slice ya f.t.length yc] 25)
  have hxR3 := hxR.rws.kp0 hk3
  have hxT3 := hxT.kp0 hk3
  clear hcc c0 c1 c2 c3 c4
  go_wp2_with fail
  have K3 := K2.trans hk3
  have hh03 := (hk2.trans hk3).heap hh1 (by simp)
  generalize w2.alloc (.cells #[.int .i64 f.k, .int .i64 f.a, .int .i64 f.b, .slice xa f.its.length xc, .slice ya f.t.length yc] 25) = w3 at *
  generalize w2.heap.size = fb at *
  have hmc := make_all s f (.slice xa f.its.length xc) (.slice ya f.t.length yc) w3 (hG.kp0 K3) hxR3 hxT3 (by omega) (by omega) hb
  rw [HMK.out] at hmc
  unfold fcells at hmc
  refine hmc.mono ?_
  rintro e w4 ⟨v4, rfl, ho4, hk4⟩
  clear hmc
  have ho4' : OB w4 5 w3.heap.size v4 bl := ho4
  obtain ⟨aa, ac, rfl⟩ := own_form ho4'
  have K4 := K3.trans hk4
  obtain ⟨d0, d1, d2, d3, d4⟩ := cells5 (hk4.heap hh3 (by simp))
  go_wp2_with fail
  have hmd := make_all s f (.slice xa f.its.length xc) (.slice ya f.t.length yc) w4 (hG.kp0 K4) (hxR3.kp0 hk4) (hxT3.kp0 hk4) (by omega) (by omega) hb
  rw [HMK.out] at hmd
  unfold fcells at hmd
  refine hmd.mono ?_
  rintro e w5 ⟨v5, rfl, ho5, hk5⟩
  clear hmd d0 d1 d2 d3 d4
  have ho5' : OB w5 5 w4.heap.size v5 bl := ho5
  obtain ⟨ba, bc, rfl⟩ := own_form ho5'
  have K5 := K4.trans hk5
  have hk45 := hk4.trans hk5
  obtain ⟨d0, d1, d2, d3, d4⟩ := cells5 (hk45.heap hh3 (by simp))
  obtain ⟨e0, e1, e2, e3, e4⟩ := cells5 (hk45.heap hh03 (by simp))
  have hsm := fsame_calls f f (.slice xa f.its.length xc) (.slice ya f.t.length yc) (.slice ia f.its.length ic) (.slice ta f.t.length tc) w5 (hxR3.kp0 hk45) (hxT3.kp0 hk45) (hi.kp0 K5) (ht.kp0 K5) (by omega) (by omega)
  rw [sameF_self] at hsm
  unfold fcells at hsm
  go_wp2_with fail
  refine hsm.mono ?_
  rintro e w6 ⟨rfl, hk6⟩
  clear hsm d0 d1 d2 d3 d4 e0 e1 e2 e3 e4
  have K6 := K5.trans hk6
  obtain ⟨e0, e1, e2, e3, e4⟩ := cells5 ((hk45.trans hk6).heap hh03 (by simp))
  have hrm := rmake_all s f (.slice ia f.its.length ic) (.slice ta f.t.length tc) w6 (hR.kp0 K6) (hi.kp0 K6) (ht.kp0 K6) (by omega) (by omega) hb
  rw [HMK.out] at hrm
  unfold fcells at hrm
  go_wp2_with fail
  refine hrm.mono ?_
  rintro e w7 ⟨v7, rfl, ho7, hk7⟩
  clear hrm e0 e1 e2 e3 e4
  have K7 := K6.trans hk7
  have ho7' : OB w7 5 w6.heap.size v7 bl := ho7
  obtain ⟨wa, wc, rfl⟩ := own_form ho7'
  go_wp2_with fail
  refine (lent_calls (.slice ra l.length rc) l w7 (hr.kp0 K7) (by omega)).mono ?_
  rintro e w8 ⟨lg, rfl, ho8, hk8⟩
  have K8 := K7.trans hk8
  have hlent : Bs w8 (.slice (some ⟨lg, 0, none⟩) l.length (l.length + 3)) l := by
    have h1 : Sl w8 1 (.slice (some ⟨lg, 0, none⟩) (l.length + 3) (l.length + 3)) (l.length + 3) (bcells (l ++ [201, 201, 201])) := by
      have := OB.bs ho8
      unfold Bs at this
      simpa using this
    rcases h1.2 with ⟨h, _⟩ | ⟨a, h, _⟩ | ⟨b, off, cap, h, hc, hb, hh⟩
    · cases h
    · exact absurd h (by simp)
    · refine ⟨by simp only [bcells_length, Nat.mul_one], .inr (.inr ⟨b, off, l.length + 3, ?_, by omega, hb, fun j u hu => hh j u ?_⟩)⟩
      · first | rfl | (cases h; rfl) | (injection h with h1 h2 h3; rw [h1])
      · simp only [bcells_append]
        rw [List.getElem?_append_left (List.getElem?_eq_some_iff.1 hu).1]; exact hu
  have hpc := parse_calls s (.slice (some ⟨lg, 0, none⟩) l.length (l.length + 3)) l w8 (hG.kp0 K8) hlent hl
  rw [HPO.out] at hpc
  go_wp2_with fail
  refine hpc.mono ?_
  rintro e w9 ⟨v9, rfl, hF9, hk9⟩
  clear hpc
  have K9 := K8.trans hk9
  obtain ⟨pv, qv, pus, rfl, hpo, hpi, hpt, hpa⟩ := hF9
  obtain ⟨pa, pc, rfl⟩ := own_form hpo
  obtain ⟨qa, qc, rfl⟩ := own_form hpt
  unfold fcells
  have hk10 := (Kp.refl [] w9).alloc (.cells #[.int .i64 pf.k, .int .i64 pf.a, .int .i64 pf.b, .slice pa pf.its.length pc, .slice qa pf.t.length qc] 25)
  have hh10 := heap_alloc_new w9 (.cells #[.int .i64 pf.k, .int .i64 pf.a, .int .i64 pf.b, .slice pa pf.its.length pc, .slice qa pf.t.length qc] 25)
  have hl10 := alloc_lt w9 (.cells #[.int .i64 pf.k, .int .i64 pf.a, .int .i64 pf.b, .slice pa pf.its.length pc, .slice qa pf.t.length qc] 25)
  go_wp2_with fail
  have K10 := K9.trans hk10
  generalize w9.alloc (.cells #[.int .i64 pf.k, .int .i64 pf.a, .int .i64 pf.b, .slice pa pf.its.length pc, .slice qa pf.t.length qc] 25) = w10 at *
  have hob10 := own_kp ho8 (hk9.trans hk10) (by simp)
  have hlgw : w.heap.size ≤ lg ∧ w7.heap.size ≤ lg := by
    have h := (Own.lt ho8 lg rfl).1
    have := K7.size
    exact ⟨by omega, h⟩
  refine (back_calls lg w7.heap.size (.slice ra l.length rc) l w10 (by omega) hob10 (hr.kp0 K10) (fun b hb he => by have := Sl.lt hr b hb; omega)).mono ?_
  rintro e w11 ⟨rfl, hk11⟩
  have K11 := K10.trans' hk11 (fun b hb => .inr (by simp at hb; omega))
  go_wp2_with fail
  have hrp := rparse_calls s (.slice ra l.length rc) l w11 (hR.kp0 K11) (hr.kp0 K11) hl
  rw [HPO.out] at hrp
  refine hrp.mono ?_
  rintro e w12 ⟨yv, zv, rfl, hyR, hzT, hk12⟩
  clear hrp
  obtain ⟨ea, ec, rfl, -⟩ := hyR.form
  obtain ⟨fa, fc, rfl, -⟩ := Sl.form hzT
  unfold fcells
  have K12 := K11.trans hk12
  have hk13 := (Kp.refl [] w12).alloc (.cells #[.int .i64 pf.k, .int .i64 pf.a, .int .i64 pf.b, .slice ea pf.its.length ec, .slice fa pf.t.length fc] 25)
  have hh13 := heap_alloc_new w12 (.cells #[.int .i64 pf.k, .int .i64 pf.a, .int .i64 pf.b, .slice ea pf.its.length ec, .slice fa pf.t.length fc] 25)
  have hlg9 : lg < w8.heap.size := (Own.lt ho8 lg rfl).2
  have hlg9b : lg < w9.heap.size := Nat.lt_of_lt_of_le hlg9 hk9.size
  have hkZ2 : Kp [lg] w10 w12 := hk11.trans hk12.nil
  have hhx2 := hkZ2.heap hh10 (by simp; omega)
  obtain ⟨d0, d1, d2, d3, d4⟩ := cells5 hhx2
  have hlt12 := lt_of_heap hhx2
  go_wp2_with fail
  have K13 := K12.trans hk13
  generalize w12.alloc (.cells #[.int .i64 pf.k, .int .i64 pf.a, .int .i64 pf.b, .slice ea pf.its.length ec, .slice fa pf.t.length fc] 25) = w13 at *
  have hkZ : Kp [lg] w10 w13 := hkZ2.trans hk13.nil
  have hhx := hkZ.heap hh10 (by simp; omega)
  have hkY : Kp [lg] w9 w13 := hk10.nil.trans hkZ
  have hpo13 := own_kp hpo hkY (fun b hb hm => by have := (hpo.lt b hb).1; simp at hm; omega)
  have hpi13 := hpi.kp hkY (fun u hu b hb hm => by have := (hpi.lt u hu b hb).1; simp at hm; omega)
  have hpt13 : OB w13 5 w8.heap.size (.slice qa pf.t.length qc) pf.t := own_kp hpt hkY (fun b hb hm => by have := (Own.lt hpt b hb).1; simp at hm; omega)
  have hsm := fsame_calls pf pf (.slice pa pf.its.length pc) (.slice qa pf.t.length qc) (.slice ea pf.its.length ec) (.slice fa pf.t.length fc) w13 (OR.rws ⟨pus, hpo13, hpi13⟩) (OB.bs hpt13) (hyR.kp0 hk13) (hzT.kp0 hk13) (by omega) (by omega)
  rw [sameF_self] at hsm
  unfold fcells at hsm
  refine hsm.mono ?_
  rintro e w14 ⟨rfl, hk14⟩
  clear hsm d0 d1 d2 d3 d4
  have K14 := K13.trans hk14
  have hk5E : Kp [lg] w5 w14 := ((((hk6.trans hk7).trans hk8).trans hk9).trans hk10).nil.trans (hkZ.trans hk14.nil)
  have hk7E : Kp [lg] w7 w14 := ((hk8.trans hk9).trans hk10).nil.trans (hkZ.trans hk14.nil)
  have s57 := (hk6.trans hk7).size
  have oA : OB w14 5 w3.heap.size (.slice aa bl.length ac) bl := own_kp (own_kp ho4' hk5 (by simp)) hk5E (fun b hb hm => by have := (Own.lt ho4' b hb).2; have := hk5.size; simp at hm; omega)
  have oB : OB w14 5 w4.heap.size (.slice ba bl.length bc) bl := own_kp ho5' hk5E (fun b hb hm => by have := (Own.lt ho5' b hb).2; simp at hm; omega)
  have oW : OB w14 5 w6.heap.size (.slice wa bl.length wc) bl := own_kp ho7' hk7E (fun b hb hm => by have := (Own.lt ho7' b hb).2; simp at hm; omega)
  have hcA := b2sc (OB.bs oA)
  have hcB := b2sc (OB.bs oB)
  have hcW := b2sc (OB.bs oW)
  obtain ⟨d0, d1, d2, d3, d4⟩ := cells5 (hk14.heap hhx (by simp))
  have hlt14 := lt_of_heap (hk14.heap hhx (by simp))
  go_wp2_with (with_reducible refine stop_app ?_)
  unfold Stop
  have hBB : bb = w.heap.size := HBB.out.symm
  have hkA := (Kp.refl [] w14).alloc (.cells #[.slice aa bl.length ac, .slice ba bl.length bc, .slice qa pf.t.length qc] 23)
  have hoA : Own (w14.alloc (.cells #[.slice aa bl.length ac, .slice ba bl.length bc, .slice qa pf.t.length qc] 23)) w14.heap.size 23 1 (.slice (some ⟨w14.heap.size, 0, none⟩) 3 3) 3 [.slice aa bl.length ac, .slice ba bl.length bc, .slice qa pf.t.length qc] :=
    ⟨rfl, .inr ⟨w14.heap.size, 3, _, (0, 0), rfl, Nat.le_refl _, heap_alloc_new w14 _, .inl rfl, Nat.le_refl _, by unfold maxLen; omega, rfl, rfl⟩⟩
  obtain ⟨i1, hi1, hy0, hy1, hy2⟩ := info_parts rowinfo
  have hpo14 := own_kp hpo13 (hk14.trans hkA) (by simp)
  refine wpList_app _ rfl _ _ 22 22 rfl w14.heap.size 23 i1 _ 1 24 Tryd.underlying22 hi1 hy0 hy1 hy2 rfl (by omega) (.slice (some ⟨w14.heap.size, 0, none⟩) 3 3) 3 _ rfl hoA (.slice pa pf.its.length pc) pf.its.length pus rfl (Src.of_sl Tryd.underlying22 (Sl.of_own hpo14) hpi13.oneCell) (by omega) (by omega) (by simp) ?_
  intro v15 w15 ho15 hg15 hx15
  obtain ⟨ra2, rc2, rfl⟩ := own_form ho15
  have hk15 : Kp [] w14 w15 := hkA.grown hg15 (fun q hq => .inr (by simp [Value.ownBlock] at hq; omega))
  have z3 := K3.size
  have z45 := hk5.size
  have z58 : w5.heap.size ≤ w8.heap.size := ((hk6.trans hk7).trans hk8).size
  have z34 := hk4.size
  have z14 := K14.size
  have jA : OB w15 5 w.heap.size (.slice aa bl.length ac) bl := own_base (own_kp oA hk15 (by simp)) (fun b hb => by have := (Own.lt ho4' b hb).1; omega)
  have jB : OB w15 5 w.heap.size (.slice ba bl.length bc) bl := own_base (own_kp oB hk15 (by simp)) (fun b hb => by have := (Own.lt ho5' b hb).1; omega)
  have jQ : OB w15 5 w.heap.size (.slice qa pf.t.length qc) pf.t := own_base (own_kp hpt13 (hk14.trans hk15) (by simp)) (fun b hb => by have := (Own.lt hpt b hb).1; omega)
  have jI : Its w15 w.heap.size pus pf.its := (hpi13.kp (hk14.trans hk15) (by simp)).base (by omega)
  have jAB : Apart (.slice aa bl.length ac) (.slice ba bl.length bc) := fun b h1 h2 => by
    have := (Own.lt ho4' b h1).2
    have := (Own.lt ho5' b h2).1
    omega
  have jAQ : Apart (.slice aa bl.length ac) (.slice qa pf.t.length qc) := fun b h1 h2 => by
    have := (Own.lt ho4' b h1).2
    have := (Own.lt hpt b h2).1
    omega
  have jBQ : Apart (.slice ba bl.length bc) (.slice qa pf.t.length qc) := fun b h1 h2 => by
    have := (Own.lt ho5' b h1).2
    have := (Own.lt hpt b h2).1
    omega
  have jall := ((Its.one jA).app (Its.one jB) (by simp; exact jAB)).app (Its.one jQ) (by simp; exact ⟨jAQ, jBQ⟩)
  have jrow := jall.app jI (fun u hu v hv => by
    simp only [List.cons_append, List.nil_append, List.mem_cons, List.not_mem_nil, or_false] at hu
    rcases hu with rfl | rfl | rfl
    · intro b h1 h2
      have := (Own.lt ho4' b h1).2
      have := (hpi.lt v hv b h2).1
      omega
    · intro b h1 h2
      have := (Own.lt ho5' b h1).2
      have := (hpi.lt v hv b h2).1
      omega
    · exact (hpa v hv).symm)
  have hlen : 3 + pf.its.length = ([bl] ++ [bl] ++ [pf.t] ++ pf.its).length := by simp; omega
  have ho16 := own_base ho15 (base' := w.heap.size) (fun b hb => by have := (ho15.lt b hb).1; omega)
  have hsmall : ∀ x ∈ ([bl] ++ [bl] ++ [pf.t] ++ pf.its), x.length ≤ 140737488355000 := by
    intro x hx
    simp only [List.cons_append, List.nil_append, List.mem_cons] at hx
    rcases hx with rfl | rfl | rfl | hx
    · omega
    · omega
    · omega
    · have := HP2.out x hx; omega
  have hown := owned_calls w.heap.size (.slice ra2 (3 + pf.its.length) rc2) _ ([bl] ++ [bl] ++ [pf.t] ++ pf.its) w15 (by rw [← hlen]; exact ho16) jrow (by rw [← hlen]; omega) hsmall
  have HOWN := Lib.hid hown
  have HJ := Lib.hid jrow
  clear hown jrow hlen hBB hcA hcB hcW d0 d1 d2 d3 d4 hx15 hg15 ho15 ho16 hsmall jall jI jQ jA jB hoA
  go_wp2_with fail
  refine HOWN.out.mono ?_
  rintro e w16 ⟨rfl, hk16⟩
  go_wp2
  go_ret
  refine ⟨rfl, (K14.trans hk15).trans' hk16 (fun b hb => .inr ?_)⟩
  simp only [List.mem_filterMap] at hb
  obtain ⟨u, hu, he⟩ := hb
  exact (HJ.out.lt u hu b he).1
end Go.Proofs.YtddpefbpiehgeaaDoor

