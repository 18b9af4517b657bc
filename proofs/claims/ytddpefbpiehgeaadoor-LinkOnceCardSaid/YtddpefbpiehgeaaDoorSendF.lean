/- Plain: what a tick makes, in memory. -/
import Derived.Test.YtddpefbpiehgeaaDoorSendE
namespace Go.Proofs.YtddpefbpiehgeaaDoor
open Go Go.RowKit
set_option maxRecDepth 100000
set_option linter.unusedVariables false
set_option linter.unusedSectionVars false
set_option linter.unusedSimpArgs false

theorem frinfo : (Tryd.prog.info? 25).map (fun i => (i.zero, i.size, i.bytes)) = some (some (.agg #[.int .i64 0, .int .i64 0, .int .i64 0, .slice none 0 0, .slice none 0 0]), 5, 72) := by kernel_rfl
/-- The cells of one item, whose bytes lay there in an earlier world already. -/
theorem item_at2 {P : Nat → Prop} {w w' : World} {a : Option Addr} {n cap : Nat} {cs : List Value} {xs : List It} (hi0 : ItC P w cs xs) (hs : Sl w' 2 (.slice a n cap) n cs) (hi : ItC P w' cs xs) (hn : n = xs.length) (i : Nat) (h : i < xs.length) :
    ∃ b off u c, a = some ⟨b, off, none⟩ ∧ b < w'.heap.size ∧ w'.cell? ⟨b, off + i * 2, none⟩ = some (.int .i64 xs[i].q) ∧ w'.cell? ⟨b, off + i * 2 + 1, none⟩ = some (.slice u xs[i].b.length c) ∧ Bs w' (.slice u xs[i].b.length c) xs[i].b ∧ BlkP P (.slice u xs[i].b.length c) ∧ BlkP (· < w.heap.size) (.slice u xs[i].b.length c) := by
  obtain ⟨a', cap', he, hc, _, h6, h7⟩ := Sl.form hs
  cases he
  obtain ⟨b, off, rfl, hlt⟩ := h6 (by omega)
  obtain ⟨u, h1, h2, h3, h4⟩ := hi.2 i h
  obtain ⟨u0, _, g2, g3, _⟩ := hi0.2 i h
  rw [h2] at g2
  cases g2
  obtain ⟨ua, uc, rfl, _⟩ := Sl.form h3
  exact ⟨b, off, ua, uc, rfl, hlt, (h7 b off rfl).2 _ _ h1, (h7 b off rfl).2 _ _ h2, h3, h4, fun g hg => Sl.lt g3 g hg⟩
theorem own_some {w : World} {B e sz n : Nat} {v : Value} {xs : List Value} (h : Own w B e sz v n xs) (hn : 0 < n) : ∃ g c, v = .slice (some ⟨g, 0, none⟩) n c ∧ n ≤ c ∧ B ≤ g ∧ g < w.heap.size := by
  obtain ⟨_, ⟨_, h0⟩ | ⟨g, cap, cur, fr, hv, hg, hh, _, hc, _⟩⟩ := h
  · omega
  · exact ⟨g, cap, hv, hc, hg, lt_of_heap hh⟩
theorem own_cap {w : World} {B e sz n g c : Nat} {xs : List Value} (h : Own w B e sz (.slice (some ⟨g, 0, none⟩) n c) n xs) : n ≤ c := by
  obtain ⟨_, ⟨h, _⟩ | ⟨g', cap, cur, fr, hv, hg, hh, _, hc, _⟩⟩ := h
  · cases h
  · cases hv; exact hc

theorem rowFrom_spec (q0 : Int) : ∀ (l : List It) (n : Nat), rowFrom q0 n l = true → ∀ (i : Nat) (h : i < l.length), 1 ≤ l[i].q ∧ l[i].q ≤ 4294967295 ∧ l[i].q = q0 + ((n + i : Nat) : Int) ∧ l[i].b.length ≤ 256
  | [], _, _, i, h => by simp at h
  | x :: l, n, hr, i, h => by
    rw [rowFrom, Bool.and_eq_true] at hr
    cases i with
    | zero =>
      have := hr.1
      simp [okIt] at this
      simpa using this
    | succ i =>
      have := rowFrom_spec q0 l (n + 1) hr.2 i (by simpa using h)
      simp only [List.getElem_cons_succ]
      rw [show n + (i + 1) = n + 1 + i by omega]
      exact this
theorem rowB_spec {l : List It} (hr : rowB l = true) (i : Nat) (h : i < l.length) : 1 ≤ l[i].q ∧ l[i].q ≤ 4294967295 ∧ l[i].q = headQ l + (i : Int) ∧ l[i].b.length ≤ 256 := by
  have := rowFrom_spec (headQ l) l 0 hr i h
  simpa using this

theorem trun_snoc (bat : Nat) (clk ev base : Int) (s : TS) (xs : List It) (x : It) : trun bat clk ev base s (xs ++ [x]) = tstep bat clk ev base (trun bat clk ev base s xs) x := by simp [trun]
theorem moreIt_snoc (fs : List Fr) (g : Fr) (x : List UInt8) : moreIt (fs ++ [g]) x = fs ++ [{ g with its := g.its ++ [x] }] := by simp [moreIt]
theorem fullB_snoc (fs : List Fr) (g : Fr) (bat : Nat) : fullB (fs ++ [g]) bat = decide (g.its.length = bat) := by simp [fullB]

/-- What is known while the sweep is under way. -/
def mid (left : Lit → Bool) (f : Sent) (xs : List It) : Sent := fun z => if left (.int .i64 z) = true then f z else keepS f xs z
theorem keepS_none {f : Sent} {xs : List It} {z : Int} (h : f z = none) : keepS f xs z = none := by
  unfold keepS
  cases xs with
  | nil => rfl
  | cons y l => simp only; split <;> simp_all
theorem keepS_some {f : Sent} {xs : List It} {z c : Int} (h : keepS f xs z = some c) : f z = some c := by
  cases hf : f z with
  | none => rw [keepS_none hf] at h; cases h
  | some d =>
    unfold keepS at h
    cases xs with
    | nil => cases h
    | cons y l => simp only at h; split at h <;> simp_all
theorem mid_start {D : DataW Unit} {f : Sent} (xs : List It) (h : Tells D f) : Tells D (mid (Maps.has D) f xs) := by
  intro z hz
  obtain ⟨h1, h2⟩ := h z hz
  have e : mid (Maps.has D) f xs z = f z := by
    unfold mid
    cases hh : Maps.has D (.int .i64 z) with
    | true => rfl
    | false =>
      rw [hh] at h1
      cases hf : f z with
      | none => exact keepS_none hf
      | some c => rw [hf] at h1; cases h1
  rw [e]
  exact ⟨h1, h2⟩
theorem mid_end {D : DataW Unit} {f : Sent} {xs : List It} {left : Lit → Bool} (h : Tells D (mid left f xs)) (hl : ∀ k, left k = false) : Tells D (keepS f xs) := by
  have e : mid left f xs = keepS f xs := by funext z; unfold mid; rw [hl]; rfl
  rwa [e] at h
theorem sameInt (z x : Int) : (Lit.int .i64 z).sameKey (.int .i64 x) = decide (z = x) := by
  rw [Bool.eq_iff_iff, WideAt.sameKey_iff (b := .int .i64 x) trivial, decide_eq_true_eq]
  exact ⟨fun h => by cases h; rfl, fun h => by rw [h]⟩
theorem mid_del {D : DataW Unit} {f : Sent} {xs : List It} {left : Lit → Bool} (h : Tells D (mid left f xs)) {x : Int} (hx : keepS f xs x = none) : Tells (D.del (.int .i64 x)) (mid (fun z => left z && !z.sameKey (.int .i64 x)) f xs) := by
  have e : mid (fun z => left z && !z.sameKey (.int .i64 x)) f xs = fun z => if z = x then none else mid left f xs z := by
    funext z
    simp only [mid, sameInt]
    by_cases hz : z = x
    · subst hz; simp [hx]
    · simp [hz]
  rw [e]
  exact h.del x
theorem mid_stay {D : DataW Unit} {f : Sent} {xs : List It} {left : Lit → Bool} (h : Tells D (mid left f xs)) {x : Int} (hx : keepS f xs x = f x) : Tells D (mid (fun z => left z && !z.sameKey (.int .i64 x)) f xs) := by
  have e : mid (fun z => left z && !z.sameKey (.int .i64 x)) f xs = mid left f xs := by
    funext z
    simp only [mid, sameInt]
    by_cases hz : z = x
    · subst hz; simp [hx]
    · simp [hz]
  rwa [e]

/-- Frames with the values of their items. -/
abbrev FL := List (Fr × Value)
def fcs (l : FL) : List Value := l.flatMap fun x => (fcells x.1 x.2 (.slice none 0 0)).toList
theorem fcs_length : ∀ l : FL, (fcs l).length = l.length * 5
  | [] => rfl
  | x :: l => by
    have := fcs_length l
    unfold fcs at this ⊢
    rw [List.flatMap_cons, List.length_append, this, List.length_cons]
    simp [fcells]; omega
theorem fcs_append (l m : FL) : fcs (l ++ m) = fcs l ++ fcs m := by simp [fcs]
theorem fcs_one (x : Fr × Value) : fcs [x] = [.int .i64 x.1.k, .int .i64 x.1.a, .int .i64 x.1.b, x.2, .slice none 0 0] := rfl
theorem fcs_set (l : FL) (f g : Fr) (j j' : Value) (hk : g.k = f.k) (ha : g.a = f.a) (hb : g.b = f.b) : (fcs (l ++ [(f, j)])).set (l.length * 5 + 3) j' = fcs (l ++ [(g, j')]) := by
  rw [fcs_append, fcs_append, List.set_append_right _ _ (by rw [fcs_length]; omega), fcs_length, show l.length * 5 + 3 - l.length * 5 = 3 by omega, fcs_one, fcs_one]
  simp [hk, ha, hb]
theorem fcs_at (l : FL) (f : Fr) (j : Value) : (fcs (l ++ [(f, j)]))[l.length * 5 + 3]? = some j := by
  rw [fcs_append, List.getElem?_append_right (by rw [fcs_length]; omega), fcs_length, show l.length * 5 + 3 - l.length * 5 = 3 by omega]
  rfl

/-- The frames of a tick in memory. -/
structure OutR (w : World) (B bat : Nat) (v : Value) (l : FL) : Prop where
  row : Own w B 25 5 v l.length (fcs l)
  its : ∀ x ∈ l, x.1.t = [] ∧ x.1.its.length ≤ bat ∧ ∃ us, Own w B 23 1 x.2 x.1.its.length us ∧ Its w B us x.1.its
  apart : l.Pairwise fun x y => Apart x.2 y.2

theorem OutR.nil (w : World) (B bat : Nat) : OutR w B bat (.slice none 0 0) [] := ⟨Own.nil _ _ _ _, fun x h => by simp at h, .nil⟩
theorem OutR.kp {S : List Nat} {w w' : World} {B bat : Nat} {v : Value} {l : FL} (h : OutR w B bat v l) (hk : Kp S w w') (hS : ∀ s ∈ S, s < B) : OutR w' B bat v l :=
  ⟨own_kp h.row hk (fun b hb hm => by have := (h.row.lt b hb).1; have := hS b hm; omega),
   fun x hx => by
    obtain ⟨h1, h2, us, h3, h4⟩ := h.its x hx
    exact ⟨h1, h2, us, own_kp h3 hk (fun b hb hm => by have := (h3.lt b hb).1; have := hS b hm; omega), h4.kp hk (fun u hu b hb hm => by have := (h4.lt u hu b hb).1; have := hS b hm; omega)⟩, h.apart⟩

theorem Its.row {w w' : World} {B B' sz n e : Nat} {v : Value} {ys us : List Value} {its : List (List UInt8)} (h : Its w B us its) (ho : Own w B' e sz v n ys) (he : 5 ≠ e) (hk : Kp v.ownBlock.toList w w') : Its w' B us its :=
  h.kp hk (fun u hu q hq hm => by
    obtain ⟨i, hi⟩ := List.mem_iff_getElem?.1 hu
    obtain ⟨u', h1, h2⟩ := h.2.1 i (by rw [← h.1]; exact (List.getElem?_eq_some_iff.1 hi).1)
    rw [hi] at h1; cases h1
    exact own_ne h2 ho he q hq (by simpa using hm))

/-- A frame is added; its items are none yet. -/
theorem OutR.add {w w1 w' : World} {B bat : Nat} {v v' : Value} {l : FL} (h : OutR w B bat v l) (h1 : Kp [] w w1) (g : Fr) (ht : g.t = []) (hi : g.its = []) (hg : w1.grownBy w' v.ownBlock) (ho : Own w' B 25 5 v' (l.length + 1) (fcs l ++ fcs [(g, .slice none 0 0)])) :
    OutR w' B bat v' (l ++ [(g, .slice none 0 0)]) := by
  have h' := h.kp h1 (by simp)
  have hk : Kp v.ownBlock.toList w1 w' := (Kp.refl _ w1).grown hg (fun q hq => .inl (by simp [hq]))
  refine ⟨by rw [fcs_append, List.length_append]; exact ho, fun x hx => ?_, ?_⟩
  · rcases List.mem_append.1 hx with hx | hx
    · obtain ⟨h1, h2, us, h3, h4⟩ := h'.its x hx
      exact ⟨h1, h2, us, own_kp h3 hk (fun b hb hm => own_ne h3 h'.row (by decide) b hb (by simpa using hm)), h4.row h'.row (by decide) hk⟩
    · rw [List.mem_singleton] at hx
      subst hx
      refine ⟨ht, by simp [hi], [], by simp only [hi]; exact Own.nil _ _ _ _, by simp only [hi]; exact ⟨rfl, fun i h => by simp at h, fun i j u v _ h => by simp at h⟩⟩
  · rw [List.pairwise_append]
    refine ⟨h.apart, List.pairwise_singleton _ _, fun a _ b hb => ?_⟩
    rw [List.mem_singleton] at hb
    subst hb
    exact fun g _ h2 => by cases h2

/-- The last frame takes an item more. -/
theorem OutR.more {w w1 w2 w3 : World} {B bat ob oc : Nat} {l : FL} {f : Fr} {j j' xv : Value} {x : List UInt8} {us : List Value}
    (h : OutR w B bat (.slice (some ⟨ob, 0, none⟩) (l.length + 1) oc) (l ++ [(f, j)])) (hus : Own w B 23 1 j f.its.length us) (hit : Its w B us f.its)
    (h1 : Kp [] w w1) (hx : OB w1 5 w.heap.size xv x) (hB : B ≤ w.heap.size) (h2 : Kp [] w1 w2) (hg : w2.grownBy w3 j.ownBlock) (hfull : f.its.length < bat)
    (ho : Own w3 B 23 1 j' (f.its.length + 1) (us ++ [xv])) (hj : ∀ b, j'.ownBlock = some b → j.ownBlock = some b ∨ w2.heap.size ≤ b) :
    OutR (w3.setCell ⟨ob, l.length * 5 + 3, none⟩ j') B bat (.slice (some ⟨ob, 0, none⟩) (l.length + 1) oc) (l ++ [({ f with its := f.its ++ [x] }, j')]) ∧ Kp (ob :: j.ownBlock.toList) w (w3.setCell ⟨ob, l.length * 5 + 3, none⟩ j') := by
  have hk12 := h1.trans h2
  have hk : Kp j.ownBlock.toList w2 w3 := (Kp.refl _ w2).grown hg (fun q hq => .inl (by simp [hq]))
  have hk4 : Kp [ob] w3 (w3.setCell ⟨ob, l.length * 5 + 3, none⟩ j') := (Kp.refl _ w3).setCell (.inl (by simp)) _
  have h' := h.kp hk12 (by simp)
  have hus2 := own_kp hus hk12 (by simp)
  have hit2 := hit.kp hk12 (by simp)
  have hlen : (l ++ [(f, j)]).length = l.length + 1 := by simp
  have hrow2 : Own w2 B 25 5 (.slice (some ⟨ob, 0, none⟩) (l.length + 1) oc) (l.length + 1) (fcs (l ++ [(f, j)])) := by have := h'.row; rwa [hlen] at this
  have hrow3 := own_kp hrow2 hk (fun b hb hm => own_ne hrow2 hus2 (by decide) b hb (by simpa using hm))
  have hx2 := own_kp hx h2 (by simp)
  have hx3 : OB w3 5 w.heap.size xv x := own_kp hx2 hk (fun b hb hm => own_ne hx2 hus2 (by decide) b hb (by simpa using hm))
  have hx4 : OB (w3.setCell ⟨ob, l.length * 5 + 3, none⟩ j') 5 w.heap.size xv x := own_kp hx3 hk4 (fun b hb hm => own_ne hx3 hrow3 (by decide) b hb (by simp at hm; simp [Value.ownBlock, hm]))
  have hall : ∀ y ∈ l ++ [(f, j)], y.2 = j ∨ Apart y.2 j := fun y hy => by
    rcases List.mem_append.1 hy with hy | hy
    · exact .inr ((List.pairwise_append.1 h.apart).2.2 y hy (f, j) (by simp))
    · rw [List.mem_singleton] at hy; subst hy; exact .inl rfl
  have hap := List.pairwise_append.1 h.apart
  refine ⟨⟨?_, fun y hy => ?_, ?_⟩, ?_⟩
  · have := hrow3.stored (l.length * 5 + 3) j'
    rw [fcs_set l f { f with its := f.its ++ [x] } j j' rfl rfl rfl] at this
    simpa using this
  · rcases List.mem_append.1 hy with hy | hy
    · obtain ⟨a1, a2, us', a3, a4⟩ := h'.its y (by simp [hy])
      have hne := hap.2.2 y hy (f, j) (by simp)
      have a3' := own_kp a3 hk (fun b hb hm => hne b hb (by simpa using hm))
      refine ⟨a1, a2, us', own_kp a3' hk4 (fun b hb hm => own_ne a3' hrow3 (by decide) b hb (by simp at hm; simp [Value.ownBlock, hm])), ?_⟩
      exact (a4.row hus2 (by decide) hk).row hrow3 (by decide) (hk4.mono (by simp [Value.ownBlock]))
    · rw [List.mem_singleton] at hy
      subst hy
      obtain ⟨a1, _, _⟩ := h.its (f, j) (by simp)
      refine ⟨a1, by simp; omega, us ++ [xv], ?_, ?_⟩
      · have := own_kp ho hk4 (fun b hb hm => own_ne ho hrow3 (by decide) b hb (by simp at hm; simp [Value.ownBlock, hm]))
        simpa using this
      · have hi3 := (hit2.row hus2 (by decide) hk).row hrow3 (by decide) (hk4.mono (T := (Value.slice (some ⟨ob, 0, none⟩) (l.length + 1) oc).ownBlock.toList) (by simp [Value.ownBlock]))
        refine hi3.snoc (own_base hx4 (fun b hb => by have := (Own.lt hx4 b hb).1; omega)) (fun u hu b hb hb' => ?_)
        have := (hit.lt u hu b hb).2
        have := (Own.lt hx4 b hb').1
        omega
  · rw [List.pairwise_append]
    refine ⟨hap.1, List.pairwise_singleton _ _, fun a ha b hb => ?_⟩
    rw [List.mem_singleton] at hb
    subst hb
    intro g h3 h4
    rcases hj g h4 with h5 | h5
    · exact hap.2.2 a ha (f, j) (by simp) g h3 h5
    · obtain ⟨_, _, us', a3, _⟩ := h'.its a (by simp [ha])
      have := (a3.lt g h3).2
      omega
  · exact (hk12.nil.trans (hk.mono (by simp +contextual))).trans (hk4.mono (by simp))

/-- Read again: frames. -/
theorem OutR.frc {w : World} {B bat : Nat} {v : Value} {l : FL} (h : OutR w B bat v l) : FrC (B ≤ ·) w (fcs l) (l.map Prod.fst) := by
  refine ⟨by rw [fcs_length, List.length_map], fun i hi => ?_⟩
  rw [List.length_map] at hi
  obtain ⟨h1, _, us, h3, h4⟩ := h.its l[i] (List.getElem_mem hi)
  refine ⟨l[i].2, .slice none 0 0, ?_, ?_, ?_, fun g hg => by cases hg⟩
  · have hsp : l = l.take i ++ (l[i] :: l.drop (i + 1)) := by rw [← List.drop_eq_getElem_cons hi, List.take_append_drop]
    have e1 : fcs l = fcs (l.take i) ++ (fcs [l[i]] ++ fcs (l.drop (i + 1))) := by
      rw [← fcs_append, ← fcs_append]; exact congrArg fcs hsp
    rw [e1, List.drop_append, List.drop_of_length_le (by rw [fcs_length, List.length_take]; omega), List.nil_append, fcs_length, List.length_take, Nat.min_eq_left (by omega), Nat.sub_self, List.drop_zero, List.take_append_of_le_length (by rw [fcs_length]; simp), List.getElem_map]
    rfl
  · rw [List.getElem_map]; exact RwP.of h3 h4
  · rw [List.getElem_map, h1]; exact OB.bs (e := 5) (base := 0) (Own.nil w 0 5 1)
end Go.Proofs.YtddpefbpiehgeaaDoor
