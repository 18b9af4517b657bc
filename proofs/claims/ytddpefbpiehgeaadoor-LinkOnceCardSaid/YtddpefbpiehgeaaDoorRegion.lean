/- A region that draws its order, walked along a plan: what only reads is taken first, in worlds that agree on some blocks; what writes comes where it must. -/
import Derived.Test.YtddpefbpiehgeaaDoorBase
namespace Go.Proofs.YtddpefbpiehgeaaDoor
open Go Go.RowKit

/-- Worlds that agree with w0 on the blocks of L. -/
structure Ag (w0 : World) (L : List Nat) where
  w : World
  ag : ∀ b ∈ L, w.heap[b]? = w0.heap[b]?
instance (w0 : World) (L : List Nat) : Nonempty (Ag w0 L) := ⟨⟨w0, fun _ _ => rfl⟩⟩
theorem Ag.cell {w0 : World} {L : List Nat} (u : Ag w0 L) (b o : Nat) (h : b ∈ L) : u.w.cell? ⟨b, o, none⟩ = w0.cell? ⟨b, o, none⟩ := World.cell?_of_block (a := ⟨b, o, none⟩) (u.ag b h)
theorem Ag.frozen {w0 : World} {L : List Nat} (u : Ag w0 L) (b o : Nat) (h : b ∈ L) : u.w.frozen? ⟨b, o, none⟩ = w0.frozen? ⟨b, o, none⟩ := World.frozen?_of_block (a := ⟨b, o, none⟩) (u.ag b h)
theorem Ag.heap {w0 : World} {L : List Nat} (u : Ag w0 L) (b : Nat) (h : b ∈ L) : u.w.heap[b]? = w0.heap[b]? := u.ag b h
attribute [go_sem] Ag.cell Ag.frozen Ag.heap
def Gr (w0 : World) (L : List Nat) (w' : World) : Prop := ∃ u : Ag w0 L, w' = u.w
theorem Gr.of {w0 w' : World} {L : List Nat} (h : ∀ b ∈ L, w'.heap[b]? = w0.heap[b]?) : Gr w0 L w' := ⟨⟨w', h⟩, rfl⟩

inductive Plan where
  | Z
  | H (i : Nat) (p : Plan)
  | E (i : Nat) (s : Bool) (p : Plan)
  | B (i : Nat) (s : Bool) (p : Plan) (j : Nat) (t : Bool) (q : Plan)

section
variable {P : Program} {ops : Array Oper} {Q : Exit → Act → World → Prop} {md : Region.Mode} {S : World → Prop}

def Plan.helds : Plan → List Nat
  | .Z => []
  | .H i p => i :: p.helds
  | .E _ _ p => p.helds
  | .B _ _ p _ _ q => p.helds ++ q.helds

def Plan.depth : Plan → Nat
  | .Z => 0
  | .H _ p => p.depth + 1
  | .E _ _ p => p.depth + 1
  | .B _ _ p _ _ _ => p.depth + 1

/-- Of each operation: the mask of those that it waits for, through others too. -/
def masks (md : Region.Mode) : List Oper → List Nat → List Nat
  | [], acc => acc
  | o :: l, acc => masks md l (acc ++ [o.after.toList.foldl (fun s e => if Region.binds md e then s ||| 2 ^ e.on ||| acc.getD e.on 0 else s) 0])

def needs (ms : List Nat) (hs : List Nat) (i : Nat) : Bool := hs.any fun h => !(ms.getD i 0).testBit h

def Plan.ok (md : Region.Mode) (ops : Array Oper) (ms hs : List Nat) : Plan → Array Bool → Bool
  | .Z, listed => (Region.ready md ops listed).isEmpty
  | .H i p, listed => (Region.ready md ops listed).contains i && Region.free md ops listed i && hs.contains i && p.ok md ops ms hs (listed.setIfInBounds i true)
  | .E i s p, listed => decide (Region.ready md ops listed = [i]) && (s || !needs ms hs i) && p.ok md ops ms hs (listed.setIfInBounds i true)
  | .B i s p j t q, listed => decide (Region.ready md ops listed = [i, j]) && decide (p.depth = q.depth) && (s || !needs ms hs i) && (t || !needs ms hs j) && p.ok md ops ms hs (listed.setIfInBounds i true) && q.ok md ops ms hs (listed.setIfInBounds j true)

def Plan.good (ops : Array Oper) (p : Plan) : Bool :=
  Region.noSelect ops && decide (p.depth = ops.size) && p.ok .any ops (masks .any ops.toList []) p.helds (Array.replicate ops.size false)

def wpPlan (P : Program) (ops : Array Oper) (Q : Exit → Act → World → Prop) (S : World → Prop) : Plan → Act → World → Prop
  | .Z, a, w => Q .normal a w
  | .H i p, a, w => ∃ o, ops[i]? = some o ∧ ∃ v, YieldsIf P ops S o v a ∧ S w ∧ wpPlan P ops Q S p (a.put o.dst v) w
  | .E i s p, a, w => wpOp P ops Q i (fun a' w' => (s = true → S w') ∧ wpPlan P ops Q S p a' w') a w
  | .B i s p j t q, a, w => wpOp P ops Q i (fun a' w' => (s = true → S w') ∧ wpPlan P ops Q S p a' w') a w ∧ wpOp P ops Q j (fun a' w' => (t = true → S w') ∧ wpPlan P ops Q S q a' w') a w

/-- Whatever order; S is asked behind those that need it. -/
def wpAnyN (P : Program) (md : Region.Mode) (ops : Array Oper) (Q : Exit → Act → World → Prop) (S : World → Prop) (nd : Nat → Bool) : Nat → Array Bool → Act → World → Prop
  | 0, listed, a, w => Region.ready md ops listed = [] ∧ Q .normal a w
  | fuel + 1, listed, a, w =>
    (Region.ready md ops listed = [] → Q .normal a w) ∧
    ∀ i ∈ Region.ready md ops listed, wpOp P ops Q i (fun a' w' => (nd i = true → S w') ∧ wpAnyN P md ops Q S nd fuel (listed.setIfInBounds i true) a' w') a w

theorem wpAny_of_N {nd : Nat → Bool} : ∀ (fuel : Nat) (listed : Array Bool) (a : Act) (w : World), wpAnyN P md ops Q S nd fuel listed a w → wpAny P md ops Q fuel listed a w
  | 0, _, _, _, h => h
  | fuel + 1, _, _, _, h => ⟨h.1, fun i hi => wpOp_mono (fun a' w' h' => wpAny_of_N fuel _ a' w' h'.2) (h.2 i hi)⟩

/-- What is listed is closed. -/
def Closed (md : Region.Mode) (ops : Array Oper) (listed : Array Bool) : Prop :=
  ∀ j oj, ops[j]? = some oj → listed.getD j false = true → ∀ e ∈ oj.after, Region.binds md e = true → listed.getD e.on false = true

theorem Closed.set {i : Nat} {listed : Array Bool} (inv : Closed md ops listed) (hi : i ∈ Region.ready md ops listed) : Closed md ops (listed.setIfInBounds i true) := by
  obtain ⟨_, oi, hoi, hall⟩ := mem_ready.1 hi
  intro j oj hj hl e he hb
  by_cases hij : i = j
  · subst hij
    have : oj = oi := Option.some.inj (hj.symm.trans hoi)
    subst this
    exact getD_set_true (hall e he hb)
  · rw [getD_set_ne false hij] at hl
    exact getD_set_true (inv j oj hj hl e he hb)

/-- A mask is right for operation j. -/
def MaskOf (md : Region.Mode) (ops : Array Oper) (j m : Nat) : Prop :=
  ∀ i, m.testBit i = true → ∀ listed, Closed md ops listed → (∀ oj, ops[j]? = some oj → ∀ e ∈ oj.after, Region.binds md e = true → listed.getD e.on false = true) → listed.getD i false = true

theorem fold_bits (md : Region.Mode) (acc : List Nat) (i : Nat) : ∀ (l : List Edge) (s : Nat),
    (l.foldl (fun s e => if Region.binds md e then s ||| 2 ^ e.on ||| acc.getD e.on 0 else s) s).testBit i = true →
    s.testBit i = true ∨ ∃ e ∈ l, Region.binds md e = true ∧ (e.on = i ∨ (acc.getD e.on 0).testBit i = true)
  | [], s, h => .inl h
  | e :: l, s, h => by
    rw [List.foldl_cons] at h
    rcases fold_bits md acc i l _ h with h | ⟨e', he', h'⟩
    · by_cases hb : Region.binds md e = true
      · rw [if_pos hb] at h
        simp only [Nat.testBit_or, Bool.or_eq_true] at h
        rcases h with (h | h) | h
        · exact .inl h
        · rw [Nat.testBit_two_pow] at h
          exact .inr ⟨e, by simp, hb, .inl (by simpa using h)⟩
        · exact .inr ⟨e, by simp, hb, .inr h⟩
      · rw [if_neg hb] at h
        exact .inl h
    · exact .inr ⟨e', by simp [he'], h'⟩

theorem masks_right : ∀ (l : List Oper) (acc : List Nat), (∀ j, l[j]? = ops[acc.length + j]?) → (∀ j m, acc[j]? = some m → MaskOf md ops j m) →
    ∀ j m, (masks md l acc)[j]? = some m → MaskOf md ops j m
  | [], _, _, h => h
  | o :: l, acc, hl, h => by
    have h0 : ops[acc.length]? = some o := by simpa using (hl 0).symm
    refine masks_right l _ (fun j => ?_) (fun j m hj => ?_)
    · have := hl (j + 1)
      simpa [Nat.add_assoc, Nat.add_comm 1 j] using this
    · by_cases hjl : j < acc.length
      · rw [List.getElem?_append_left hjl] at hj
        exact h j m hj
      · by_cases hje : j = acc.length
        · subst hje
          rw [List.getElem?_append_right (Nat.le_refl _), Nat.sub_self] at hj
          simp only [List.getElem?_cons_zero, Option.some.injEq] at hj
          intro i hi listed hc hd
          rw [← hj] at hi
          rcases fold_bits md acc i _ _ hi with h1 | ⟨e, he, hb, h1⟩
          · simp at h1
          · have hel := hd o h0 e (by simpa using he) hb
            rcases h1 with h1 | h1
            · rw [← h1]; exact hel
            · cases hq : acc[e.on]? with
              | none => simp [List.getD, hq] at h1
              | some q =>
                simp only [List.getD, hq, Option.getD_some] at h1
                exact h e.on q hq i h1 listed hc (fun oj hoj e' he' hb' => hc e.on oj hoj hel e' he' hb')
        · rw [List.getElem?_eq_none (by simp; omega)] at hj
          cases hj

theorem needs_spec {ms hs : List Nat} (hm : ∀ j m, ms[j]? = some m → MaskOf md ops j m) {i j : Nat} {listed : Array Bool} (hc : Closed md ops listed) (hj : j ∈ Region.ready md ops listed)
    (hi : i ∈ hs) (hun : listed.getD i false = false) : needs ms hs j = true := by
  rw [needs, List.any_eq_true]
  refine ⟨i, hi, ?_⟩
  rw [Bool.not_eq_true']
  cases hb : (ms.getD j 0).testBit i with
  | false => rfl
  | true =>
    cases hq : ms[j]? with
    | none => simp [List.getD, hq] at hb
    | some q =>
      simp only [List.getD, hq, Option.getD_some] at hb
      obtain ⟨_, oj, hoj, hall⟩ := mem_ready.1 hj
      have := hm j q hq i hb listed hc (fun oj' hoj' => by cases hoj.symm.trans hoj'; exact hall)
      rw [hun] at this
      cases this

theorem getD_in' {listed : Array Bool} {i : Nat} (h : listed.getD i true = false) : listed.getD i false = false := by
  rcases Nat.lt_or_ge i listed.size with h' | h'
  · simp [h'] at h ⊢; exact h
  · simp [Array.getElem?_eq_none h'] at h

theorem wpAnyN_first {nd : Nat → Bool} {i : Nat} {oi : Oper} {v : Value} (hi : ops[i]? = some oi) (hsel : ∀ (j : Nat) (o : Oper) cs b, ops[j]? = some o → o.op ≠ .select cs b)
    (hQ : ∀ c a w, Q (.panic c) (a.put oi.dst v) w → Q (.panic c) a w)
    (hnd : ∀ listed j, Closed md ops listed → i ∈ Region.ready md ops listed → j ∈ Region.ready md ops listed → j ≠ i → nd j = true) :
    ∀ (fuel : Nat) (listed : Array Bool) (a : Act) (w : World), Closed md ops listed →
      (∀ j oj, ops[j]? = some oj → j ≠ i → listed.getD j true = false → (∀ e ∈ oj.after, Region.binds md e = true → e.on ≠ i) → oi.apart ops oj = true) →
      i ∈ Region.ready md ops listed → YieldsIf P ops S oi v a → S w →
      wpAnyN P md ops Q S nd fuel (listed.setIfInBounds i true) (a.put oi.dst v) w → wpAnyN P md ops Q S nd (fuel + 1) listed a w := by
  intro fuel
  induction fuel with
  | zero =>
    intro listed a w _ _ hr hy hS H
    refine ⟨fun h => (by rw [h] at hr; cases hr), fun j hj => ?_⟩
    by_cases hji : j = i
    · subst hji; exact hy.wpOp hi hS ⟨fun _ => hS, H⟩
    · have := ready_mono hj hji
      rw [H.1] at this
      cases this
  | succ fuel ih =>
    intro listed a w hc hfree hr hy hS H
    refine ⟨fun h => (by rw [h] at hr; cases hr), fun j hj => ?_⟩
    by_cases hji : j = i
    · subst hji; exact hy.wpOp hi hS ⟨fun _ => hS, H⟩
    · have h1 := H.2 j (ready_mono hj hji)
      have hn := hnd listed j hc hr hj hji
      obtain ⟨hjun, oj, hoj, hall⟩ := mem_ready.1 hj
      have hnot : ∀ e ∈ oj.after, Region.binds md e = true → e.on ≠ i := fun e he hb heq => by
        have h1 := hall e he hb
        have h0 := (mem_ready.1 hr).1
        rw [heq] at h1
        rcases Nat.lt_or_ge i listed.size with h' | h'
        · simp [h'] at h0 h1; rw [h0] at h1; cases h1
        · simp [Array.getElem?_eq_none h'] at h1
      have h2 := wpOp_putIf hoj (hfree j oj hoj hji hjun hnot) (fun cs b => hsel i oi cs b hi) (fun cs b => hsel j oj cs b hoj) hQ hy h1
      have hfree' : ∀ k ok, ops[k]? = some ok → k ≠ i → (listed.setIfInBounds j true).getD k true = false →
          (∀ e ∈ ok.after, Region.binds md e = true → e.on ≠ i) → oi.apart ops ok = true := fun k ok hk hki hun hno => by
        refine hfree k ok hk hki ?_ hno
        by_cases hjk : j = k
        · subst hjk; exact hjun
        · rw [getD_set_ne true hjk] at hun; exact hun
      refine wpOp_mono (fun a' w' h3 => ⟨h3.2.1, ih (listed.setIfInBounds j true) a' w' (hc.set hj) hfree' (ready_mono hr (Ne.symm hji)) h3.1 (h3.2.1 hn) ?_⟩) h2
      rw [Array.setIfInBounds_comm _ _ hji]
      exact h3.2.2

theorem anyN_of_plan {ms hs : List Nat} (hm : ∀ j m, ms[j]? = some m → MaskOf md ops j m) (hsel : ∀ (j : Nat) (o : Oper) cs b, ops[j]? = some o → o.op ≠ .select cs b)
    (hQ : ∀ c a x v w, Q (.panic c) (Act.put a x v) w → Q (.panic c) a w) :
    ∀ (p : Plan) (listed : Array Bool) (a : Act) (w : World), Closed md ops listed → p.ok md ops ms hs listed = true → wpPlan P ops Q S p a w →
      wpAnyN P md ops Q S (needs ms hs) p.depth listed a w
  | .Z, listed, a, w, _, hk, h => ⟨by simpa [Plan.ok] using hk, h⟩
  | .H i p, listed, a, w, hc, hk, h => by
    simp only [Plan.ok, Bool.and_eq_true] at hk
    obtain ⟨⟨⟨hr, hf⟩, hh⟩, hk⟩ := hk
    obtain ⟨o, ho, v, hy, hS, h⟩ := h
    have hr' : i ∈ Region.ready md ops listed := by simpa using hr
    refine wpAnyN_first ho hsel (fun c a w => hQ c a o.dst v w) (fun listed' j hc' hi' hj' _ => ?_) p.depth listed a w hc (Region.free_spec ho hf) hr' hy hS (anyN_of_plan hm hsel hQ p _ _ _ (hc.set hr') hk h)
    refine needs_spec hm hc' hj' (by simpa using hh) ?_
    exact getD_in' (mem_ready.1 hi').1
  | .E i s p, listed, a, w, hc, hk, h => by
    simp only [Plan.ok, Bool.and_eq_true, decide_eq_true_eq] at hk
    obtain ⟨⟨hr, hn⟩, hk⟩ := hk
    have hi : i ∈ Region.ready md ops listed := by rw [hr]; simp
    exact ⟨fun h0 => (by rw [h0] at hr; cases hr), fun j hj => by
      rw [hr] at hj
      have : j = i := by simpa using hj
      subst this
      exact wpOp_mono (fun a' w' h' => ⟨fun hb => h'.1 (by rw [hb] at hn; simpa using hn), anyN_of_plan hm hsel hQ p _ a' w' (hc.set hi) hk h'.2⟩) h⟩
  | .B i s p j t q, listed, a, w, hc, hk, h => by
    simp only [Plan.ok, Bool.and_eq_true, decide_eq_true_eq] at hk
    obtain ⟨⟨⟨⟨⟨hr, hd⟩, hn⟩, hn2⟩, hk⟩, hk2⟩ := hk
    have hi : i ∈ Region.ready md ops listed := by rw [hr]; simp
    have hj : j ∈ Region.ready md ops listed := by rw [hr]; simp
    refine ⟨fun h0 => (by rw [h0] at hr; cases hr), fun k hk' => ?_⟩
    rw [hr] at hk'
    rcases List.mem_cons.1 hk' with rfl | hk'
    · exact wpOp_mono (fun a' w' h' => ⟨fun hb => h'.1 (by rw [hb] at hn; simpa using hn), anyN_of_plan hm hsel hQ p _ a' w' (hc.set hi) hk h'.2⟩) h.1
    · have : k = j := by simpa using hk'
      subst this
      refine wpOp_mono (fun a' w' h' => ⟨fun hb => h'.1 (by rw [hb] at hn2; simpa using hn2), ?_⟩) h.2
      have := anyN_of_plan hm hsel hQ q _ a' w' (hc.set hj) hk2 h'.2
      rw [hd]
      exact this

theorem wp_plan {id : Nat} {l : List Oper} {a : Act} {w : World} (p : Plan) (S : World → Prop) (hm : P.follows .mixedOrders = true) (hg : p.good l.toArray = true)
    (h : wpPlan P l.toArray (NoPanic Q) S p a w.drew) : (Code.region id l.toArray true).wp P Q a w := by
  refine wp_region_noPanic ?_
  simp only [Plan.good, Bool.and_eq_true, decide_eq_true_eq] at hg
  obtain ⟨⟨hs, hd⟩, hk⟩ := hg
  refine wp_region_any hm ?_
  have hcl : Closed .any l.toArray (Array.replicate l.toArray.size false) := fun j oj _ hl => by
    rw [getD_replicate_false] at hl; cases hl
  have := anyN_of_plan (P := P) (Q := NoPanic Q) (S := S) (masks_right (md := .any) (ops := l.toArray) l [] (by simp) (by simp)) (Region.noSelect_spec hs) (fun c a x v w h => (h : False).elim) p _ a w.drew hcl hk h
  rw [hd] at this
  exact wpAny_of_N _ _ _ _ this

/-- The same where a panic may come: what the end says of a panic does not look at the temporaries. -/
theorem wp_plan_p {id : Nat} {l : List Oper} {a : Act} {w : World} (p : Plan) (S : World → Prop) (hm : P.follows .mixedOrders = true) (hg : p.good l.toArray = true)
    (hQ : ∀ c a x v w, Q (.panic c) (Act.put a x v) w → Q (.panic c) a w)
    (h : wpPlan P l.toArray Q S p a w.drew) : (Code.region id l.toArray true).wp P Q a w := by
  simp only [Plan.good, Bool.and_eq_true, decide_eq_true_eq] at hg
  obtain ⟨⟨hs, hd⟩, hk⟩ := hg
  refine wp_region_any hm ?_
  have hcl : Closed .any l.toArray (Array.replicate l.toArray.size false) := fun j oj _ hl => by
    rw [getD_replicate_false] at hl; cases hl
  have := anyN_of_plan (P := P) (Q := Q) (S := S) (masks_right (md := .any) (ops := l.toArray) l [] (by simp) (by simp)) (Region.noSelect_spec hs) hQ p _ a w.drew hcl hk h
  rw [hd] at this
  exact wpAny_of_N _ _ _ _ this

/-- An operation that yields one value in all worlds of S. -/
def Held (P : Program) (o : Oper) (a : Act) (S : World → Prop) (next : Act → Prop) : Prop := ∃ v, (∀ w, S w → (execOp a.eval o).run P w = .ok (.value v) w) ∧ next (a.put o.dst v)

theorem plan_H {i : Nat} {p : Plan} {o : Oper} {a : Act} {w : World} (ho : ops[i]? = some o) (hS : S w)
    (h : ∀ K : Act → Prop, (∀ a, wpPlan P ops Q S p a w → K a) → if Region.wanted o (yielded ops a.tmps) then Held P o a S K else K (a.put o.dst undef)) : wpPlan P ops Q S (.H i p) a w := by
  have := h _ (fun _ h => h)
  split at this
  · rename_i hw
    obtain ⟨v, h1, h2⟩ := this
    exact ⟨o, ho, v, .inl ⟨hw, h1⟩, hS, h2⟩
  · rename_i hw
    exact ⟨o, ho, undef, .inr ⟨by simpa using hw, rfl⟩, hS, this⟩

theorem plan_E {i : Nat} {s : Bool} {p : Plan} {o : Oper} {a : Act} {w : World} (ho : ops[i]? = some o)
    (h : ∀ K : Act → World → Prop, (∀ a w, (s = true → S w) → wpPlan P ops Q S p a w → K a w) → if Region.wanted o (yielded ops a.tmps) then o.wp P a w K Q else K (a.put o.dst undef) w) : wpPlan P ops Q S (.E i s p) a w := by
  have := h (fun a' w' => (s = true → S w') ∧ wpPlan P ops Q S p a' w') (fun _ _ h1 h2 => ⟨h1, h2⟩)
  unfold wpPlan wpOp
  simp only [ho]
  split
  · rename_i hw; rw [if_pos hw] at this; exact .inl this
  · rename_i hw; rw [if_neg hw] at this; exact this

theorem plan_B {i : Nat} {s : Bool} {p : Plan} {j : Nat} {t : Bool} {q : Plan} {oi oj : Oper} {a : Act} {w : World} (hi : ops[i]? = some oi) (hj : ops[j]? = some oj)
    (h1 : ∀ K : Act → World → Prop, (∀ a w, (s = true → S w) → wpPlan P ops Q S p a w → K a w) → if Region.wanted oi (yielded ops a.tmps) then oi.wp P a w K Q else K (a.put oi.dst undef) w)
    (h2 : ∀ K : Act → World → Prop, (∀ a w, (t = true → S w) → wpPlan P ops Q S q a w → K a w) → if Region.wanted oj (yielded ops a.tmps) then oj.wp P a w K Q else K (a.put oj.dst undef) w) : wpPlan P ops Q S (.B i s p j t q) a w := by
  have e1 : wpPlan P ops Q S (.E i s p) a w := plan_E hi h1
  have e2 : wpPlan P ops Q S (.E j t q) a w := plan_E hj h2
  exact ⟨e1, e2⟩

theorem plan_Zp {a : Act} {w : World} (h : Q .normal a w) : wpPlan P ops Q S .Z a w := h
theorem plan_Z {a : Act} {w : World} (h : Q .normal a w) : wpPlan P ops (NoPanic Q) S .Z a w := h
end
attribute [go_sem] Held

/-- A region of a deferred call that begins with recover: what stands behind it recovers no more. -/
theorem wpS_recover {P : Program} {Q : Exit → Act → List Frame → World → Prop} {a : Act} {cs cs' : List Frame} {w : World} {id : Nat} {o : Oper} {rest : List Oper} {v : Value}
    (hop : o.op = .call { callee := .builtin .recover, args := #[], argTypes := #[] }) (hgd : o.guard = none)
    (hrec : recoverD cs = some (v, cs') ∨ recoverD cs = none ∧ v = .nilIface ∧ cs' = cs)
    (h : wpList P (o :: rest).toArray (fun e a' w' => Q e a' cs' w') rest (a.put o.dst v) w) : (Code.region id (o :: rest).toArray false).wpS P Q a cs w := by
  intro b k hb hro
  have ho : (o :: rest).toArray[0]? = some o := by simp
  have hw : Region.wanted o (yielded (o :: rest).toArray a.tmps) = true := by simp [Region.wanted, hgd]
  have hrange : List.range (o :: rest).toArray.size = 0 :: List.range' 1 rest.length := by
    rw [List.range_eq_range']; simp [List.range'_succ]
  have hrun : (execOp a.eval o).run P w = .ok .recover w := by unfold execOp; rw [hop]; rfl
  have hg := stepG_op (P := P) (b := b) (k := k) (cs := cs) (w := w) (rest := List.range' 1 rest.length) ho hw
  have hfin : ∀ v, (b.at a (.inRegion (o :: rest).toArray (0 :: List.range' 1 rest.length) :: k)).finish v = b.at (a.put o.dst v) (.inRegion (o :: rest).toArray (List.range' 1 rest.length) :: k) := by
    intro v; rw [Frame.finish_at, ho]; rfl
  have h' : wpOps P (o :: rest).toArray (fun e a' w' => Q e a' cs' w') (List.range' 1 rest.length) (a.put o.dst v) w := by
    rw [wpOps_eq_wpList rest 1 (fun j => by simp [Nat.add_comm 1 j])]; exact h
  obtain ⟨e, a', w', hq, harr⟩ := wp_ops _ _ _ h' b k cs'
  have hk : (b.at a (.inRegion (o :: rest).toArray (0 :: List.range' 1 rest.length) :: k)).kind = .deferred := hb
  have htr := tryRecover_deferred hk cs
  refine ⟨e, a', cs', w', hq, .of_steps (.head step_region ?_) harr⟩
  rw [hrange]
  refine .one (step_lone_go ?_)
  rw [hg, ← hfin]
  simp only [Frame.at] at htr ⊢
  rcases hrec with hrec | ⟨hrec, rfl, rfl⟩
  · simp [stepG.apply, hrun, htr, hrec]
  · simp [stepG.apply, hrun, htr, hrec]
theorem Gr.one {w0 : World} {L : List Nat} {q : World → Prop} : (∀ w, Gr w0 L w → q w) ↔ ∀ u : Ag w0 L, q u.w := ⟨fun h u => h _ ⟨u, rfl⟩, fun h _ ⟨u, e⟩ => e ▸ h u⟩
attribute [go_sem] Gr.one
end Go.Proofs.YtddpefbpiehgeaaDoor
