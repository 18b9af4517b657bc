/- Plain: a sender's ticks, a receiver's answers. -/
import Derived.Test.YtddpefbpiehgeaaDoorLinkI
namespace Go.Proofs.YtddpefbpiehgeaaDoor
open Go Go.RowKit
set_option maxRecDepth 100000
set_option linter.unusedVariables false
set_option linter.unusedSectionVars false
set_option linter.unusedSimpArgs false

/-- An item. -/
structure It where
  q : Int
  b : List UInt8

def okIt (q0 : Int) (n : Nat) (x : It) : Bool := decide (1 ≤ x.q) && (decide (x.q ≤ 4294967295) && (decide (x.q = q0 + n) && decide (x.b.length ≤ 256)))
/-- Are these a queue's items? -/
def rowFrom (q0 : Int) : Nat → List It → Bool
  | _, [] => true
  | n, x :: l => okIt q0 n x && rowFrom q0 (n + 1) l
def headQ (xs : List It) : Int := match xs with | [] => 0 | x :: _ => x.q
def rowB (xs : List It) : Bool := rowFrom (headQ xs) 0 xs

/-- What was sent, and when. -/
abbrev Sent := Int → Option Int
def Sent.put (f : Sent) (k c : Int) : Sent := fun z => if z = k then some c else f z
/-- Only what is not ahead of the first item is kept. -/
def keepS (f : Sent) (xs : List It) : Sent := fun z => match xs with | [] => none | x :: _ => if z < x.q then none else f z

def dueB (f : Sent) (clk ev : Int) (q : Int) : Bool := match f q with | none => true | some c => decide (ev ≤ clk - c)

/-- The last frame takes an item more. -/
def moreIt (fs : List Fr) (x : List UInt8) : List Fr := fs.dropLast ++ (match fs.getLast? with | none => [] | some f => [{ f with its := f.its ++ [x] }])
def fullB (fs : List Fr) (bat : Nat) : Bool := match fs.getLast? with | none => true | some f => decide (f.its.length = bat)

structure TS where
  f : Sent
  out : List Fr
  op : Bool

/-- One item of a tick. -/
def tstep (bat : Nat) (clk ev base : Int) (s : TS) (x : It) : TS :=
  if dueB s.f clk ev x.q then
    ⟨s.f.put x.q clk, moreIt (if !s.op || fullB s.out bat then s.out ++ [⟨1, base, x.q, [], []⟩] else s.out) x.b, true⟩
  else ⟨s.f, s.out, false⟩

def trun (bat : Nat) (clk ev base : Int) (s : TS) (xs : List It) : TS := xs.foldl (tstep bat clk ev base) s

/-- A tick: the frames, and what is known as sent. clk: the clock already goes on. -/
def tick (win bat : Nat) (clk ev : Int) (f : Sent) (xs : List It) : Sent × List Fr :=
  if rowB xs then let s := trun bat clk ev (headQ xs) ⟨keepS f xs, [], false⟩ (xs.take win); (s.f, s.out) else (f, [])

/-- What comes next of a frame. -/
def gotItems (nx : Int) (f : Fr) : Nat → List (List UInt8) → List It
  | _, [] => []
  | i, b :: l => (if nx ≤ f.b + i then [⟨f.b + i, b⟩] else []) ++ gotItems nx f (i + 1) l
def nextOf (nx : Int) (f : Fr) : Int := if nx < f.a then f.a else nx
def got (nx : Int) (f : Fr) : Int × List It :=
  if f.k = 1 ∧ mayB f = true then
    (nextOf nx f, if nextOf nx f < f.b then [] else gotItems (nextOf nx f) f 0 f.its)
  else (nx, [])
def takeN (nx q : Int) : Int := if 0 < nx ∧ nx ≤ q ∧ q ≤ 4294967295 then q + 1 else nx
def ackF (nx : Int) : Fr := if nx = 0 then zeroF else ⟨2, 0, nx - 1, [], []⟩

/-! Items in memory -/
def BlkP (P : Nat → Prop) (v : Value) : Prop := ∀ g, own1 v = some g → P g

/-- Cells that read as items. -/
def ItC (P : Nat → Prop) (w : World) (cs : List Value) (xs : List It) : Prop :=
  cs.length = xs.length * 2 ∧ ∀ i (h : i < xs.length), ∃ u, cs[i * 2]? = some (.int .i64 xs[i].q) ∧ cs[i * 2 + 1]? = some u ∧ Bs w u xs[i].b ∧ BlkP P u

theorem ItC.kp {P : Nat → Prop} {S : List Nat} {w w' : World} {cs : List Value} {xs : List It} (h : ItC P w cs xs) (hk : Kp S w w') (hS : ∀ g, P g → g ∉ S) : ItC P w' cs xs :=
  ⟨h.1, fun i hi => by obtain ⟨u, h1, h2, h3, h4⟩ := h.2 i hi; exact ⟨u, h1, h2, h3.kq hk (fun b hb => hS b (h4 b hb)), h4⟩⟩
theorem ItC.mono {P P' : Nat → Prop} {w : World} {cs : List Value} {xs : List It} (h : ItC P w cs xs) (hP : ∀ g, P g → P' g) : ItC P' w cs xs :=
  ⟨h.1, fun i hi => by obtain ⟨u, h1, h2, h3, h4⟩ := h.2 i hi; exact ⟨u, h1, h2, h3, fun b hb => hP b (h4 b hb)⟩⟩
theorem ItC.nil (P : Nat → Prop) (w : World) : ItC P w [] [] := ⟨rfl, fun i hi => by simp at hi⟩
theorem ItC.take {P : Nat → Prop} {w : World} {cs : List Value} {xs : List It} (h : ItC P w cs xs) (n : Nat) (hn : n ≤ xs.length) : ItC P w (cs.take (n * 2)) (xs.take n) := by
  refine ⟨by rw [List.length_take, List.length_take, h.1]; omega, fun i hi => ?_⟩
  simp only [List.length_take] at hi
  obtain ⟨u, h1, h2, h3, h4⟩ := h.2 i (by omega)
  refine ⟨u, ?_, ?_, ?_, h4⟩
  · rw [List.getElem?_take, if_pos (by omega), List.getElem_take]; exact h1
  · rw [List.getElem?_take, if_pos (by omega)]; exact h2
  · rw [List.getElem_take]; exact h3
theorem ItC.drop {P : Nat → Prop} {w : World} {cs : List Value} {xs : List It} (h : ItC P w cs xs) (n : Nat) (hn : n ≤ xs.length) : ItC P w (cs.drop (n * 2)) (xs.drop n) := by
  refine ⟨by simp only [List.length_drop, List.length_append, List.length_cons, List.length_nil, h.1]; omega, fun i hi => ?_⟩
  simp only [List.length_drop] at hi
  obtain ⟨u, h1, h2, h3, h4⟩ := h.2 (n + i) (by omega)
  refine ⟨u, ?_, ?_, ?_, h4⟩
  · rw [List.getElem?_drop, List.getElem_drop, ← h1]; congr 1; omega
  · rw [List.getElem?_drop, ← h2]; congr 1; omega
  · rw [List.getElem_drop]; exact h3
theorem ItC.snoc {P : Nat → Prop} {w : World} {cs : List Value} {xs : List It} {u : Value} {x : It} (h : ItC P w cs xs) (hb : Bs w u x.b) (hp : BlkP P u) : ItC P w (cs ++ [.int .i64 x.q, u]) (xs ++ [x]) := by
  refine ⟨by simp only [List.length_drop, List.length_append, List.length_cons, List.length_nil, h.1]; omega, fun i hi => ?_⟩
  by_cases hlt : i < xs.length
  · obtain ⟨u', h1, h2, h3, h4⟩ := h.2 i hlt
    have := h.1
    refine ⟨u', ?_, ?_, ?_, h4⟩
    · rw [List.getElem?_append_left (by omega), List.getElem_append_left hlt]; exact h1
    · rw [List.getElem?_append_left (by omega)]; exact h2
    · rw [List.getElem_append_left hlt]; exact h3
  · have : i = xs.length := by simp at hi; omega
    subst this
    have := h.1
    refine ⟨u, ?_, ?_, ?_, hp⟩
    · rw [List.getElem?_append_right (by omega)]; simp [h.1]
    · rw [List.getElem?_append_right (by omega), show xs.length * 2 + 1 - cs.length = 1 by omega]; rfl
    · simpa using hb

/-- Cells of items, each of whose bytes are a row of its own. -/
def ItO (w : World) (B : Nat) (cs : List Value) (xs : List It) : Prop :=
  cs.length = xs.length * 2 ∧ ∀ i (h : i < xs.length), ∃ u, cs[i * 2]? = some (.int .i64 xs[i].q) ∧ cs[i * 2 + 1]? = some u ∧ OB w 5 B u xs[i].b
theorem ItO.nil (w : World) (B : Nat) : ItO w B [] [] := ⟨rfl, fun i hi => by simp at hi⟩
theorem ItO.kp {S : List Nat} {w w' : World} {B : Nat} {cs : List Value} {xs : List It} (h : ItO w B cs xs) (hk : Kp S w w') (hS : ∀ s ∈ S, s < B) : ItO w' B cs xs :=
  ⟨h.1, fun i hi => by obtain ⟨u, h1, h2, h3⟩ := h.2 i hi; exact ⟨u, h1, h2, own_kp h3 hk (fun b hb hm => by have := (Own.lt h3 b hb).1; have := hS b hm; omega)⟩⟩
theorem ItO.row {w w' : World} {B B' e sz n : Nat} {v : Value} {ys cs : List Value} {xs : List It} (h : ItO w B cs xs) (ho : Own w B' e sz v n ys) (he : 5 ≠ e) (hk : Kp v.ownBlock.toList w w') : ItO w' B cs xs :=
  ⟨h.1, fun i hi => by obtain ⟨u, h1, h2, h3⟩ := h.2 i hi; exact ⟨u, h1, h2, own_kp h3 hk (fun b hb hm => own_ne h3 ho he b hb (by simpa using hm))⟩⟩
theorem ItO.itc {w : World} {B : Nat} {cs : List Value} {xs : List It} (h : ItO w B cs xs) : ItC (B ≤ ·) w cs xs :=
  ⟨h.1, fun i hi => by obtain ⟨u, h1, h2, h3⟩ := h.2 i hi; exact ⟨u, h1, h2, OB.bs h3, fun g hg => (Own.lt h3 g (own1_own hg)).1⟩⟩
theorem ItO.snoc {w : World} {B : Nat} {cs : List Value} {xs : List It} {u : Value} {x : It} (h : ItO w B cs xs) (hb : OB w 5 B u x.b) : ItO w B (cs ++ [.int .i64 x.q, u]) (xs ++ [x]) := by
  refine ⟨by simp only [List.length_append, List.length_cons, List.length_nil, h.1]; omega, fun i hi => ?_⟩
  by_cases hlt : i < xs.length
  · obtain ⟨u', h1, h2, h3⟩ := h.2 i hlt
    have := h.1
    refine ⟨u', ?_, ?_, ?_⟩
    · rw [List.getElem?_append_left (by omega), List.getElem_append_left hlt]; exact h1
    · rw [List.getElem?_append_left (by omega)]; exact h2
    · rw [List.getElem_append_left hlt]; exact h3
  · have : i = xs.length := by simp at hi; omega
    subst this
    have := h.1
    refine ⟨u, ?_, ?_, ?_⟩
    · rw [List.getElem?_append_right (by omega)]; simp [h.1]
    · rw [List.getElem?_append_right (by omega), show xs.length * 2 + 1 - cs.length = 1 by omega]; rfl
    · simpa using hb

/-- A slice that reads as rows of bytes, all in blocks of P. -/
def RwP (P : Nat → Prop) (w : World) (v : Value) (its : List (List UInt8)) : Prop :=
  ∃ vs, Sl w 1 v its.length vs ∧ BlkP P v ∧ vs.length = its.length ∧ ∀ (i : Nat) (h : i < its.length), ∃ u, vs[i]? = some u ∧ Bs w u its[i] ∧ BlkP P u
theorem RwP.rws {P : Nat → Prop} {w : World} {v : Value} {its : List (List UInt8)} (h : RwP P w v its) : Rws w v its := by
  obtain ⟨vs, h1, _, h2, h3⟩ := h
  exact ⟨vs, h1, h2, fun i hi => by obtain ⟨u, a, b, _⟩ := h3 i hi; exact ⟨u, a, b⟩⟩
theorem RwP.kp {P : Nat → Prop} {S : List Nat} {w w' : World} {v : Value} {its : List (List UInt8)} (h : RwP P w v its) (hk : Kp S w w') (hS : ∀ g, P g → g ∉ S) : RwP P w' v its := by
  obtain ⟨vs, h1, h0, h2, h3⟩ := h
  exact ⟨vs, h1.kq hk (fun b hb => hS b (h0 b hb)), h0, h2, fun i hi => by obtain ⟨u, a, b, c⟩ := h3 i hi; exact ⟨u, a, b.kq hk (fun g hg => hS g (c g hg)), c⟩⟩
theorem RwP.mono {P P' : Nat → Prop} {w : World} {v : Value} {its : List (List UInt8)} (h : RwP P w v its) (hP : ∀ g, P g → P' g) : RwP P' w v its := by
  obtain ⟨vs, h1, h0, h2, h3⟩ := h
  exact ⟨vs, h1, fun b hb => hP b (h0 b hb), h2, fun i hi => by obtain ⟨u, a, b, c⟩ := h3 i hi; exact ⟨u, a, b, fun g hg => hP g (c g hg)⟩⟩
theorem RwP.nil (P : Nat → Prop) (w : World) : RwP P w (.slice none 0 0) [] := ⟨[], ⟨rfl, .inl ⟨rfl, rfl⟩⟩, fun g h => (by cases h), rfl, fun i h => by simp at h⟩
theorem RwP.of {w : World} {B : Nat} {v : Value} {us : List Value} {its : List (List UInt8)} (h : Own w B 23 1 v its.length us) (hi : Its w B us its) : RwP (B ≤ ·) w v its :=
  ⟨us, Sl.of_own h, fun g hg => (h.lt g (own1_own hg)).1, hi.1, fun i hlt => by obtain ⟨u, h1, h2⟩ := hi.2.1 i hlt; exact ⟨u, h1, OB.bs h2, fun g hg => (Own.lt h2 g (own1_own hg)).1⟩⟩

/-- A frame's value, in blocks of P. -/
def FrV (P : Nat → Prop) (w : World) (v : Value) (f : Fr) : Prop := ∃ iv tv, v = .agg (fcells f iv tv) ∧ RwP P w iv f.its ∧ Bs w tv f.t ∧ BlkP P tv
theorem FrV.kp {P : Nat → Prop} {S : List Nat} {w w' : World} {v : Value} {f : Fr} (h : FrV P w v f) (hk : Kp S w w') (hS : ∀ g, P g → g ∉ S) : FrV P w' v f := by
  obtain ⟨iv, tv, he, h1, h2, h3⟩ := h
  exact ⟨iv, tv, he, h1.kp hk hS, h2.kq hk (fun b hb => hS b (h3 b hb)), h3⟩
theorem FrV.mono {P P' : Nat → Prop} {w : World} {v : Value} {f : Fr} (h : FrV P w v f) (hP : ∀ g, P g → P' g) : FrV P' w v f := by
  obtain ⟨iv, tv, he, h1, h2, h3⟩ := h
  exact ⟨iv, tv, he, h1.mono hP, h2, fun b hb => hP b (h3 b hb)⟩
theorem IsF.frv {w : World} {B : Nat} {v : Value} {f : Fr} (h : IsF w B v f) : FrV (B ≤ ·) w v f := by
  obtain ⟨iv, tv, us, he, ho, hi, ht, _⟩ := h
  exact ⟨iv, tv, he, RwP.of ho hi, OB.bs ht, fun g hg => (Own.lt ht g (own1_own hg)).1⟩

/-- Cells that read as frames. -/
def FrC (P : Nat → Prop) (w : World) (cs : List Value) (fs : List Fr) : Prop :=
  cs.length = fs.length * 5 ∧ ∀ i (h : i < fs.length), ∃ iv tv, (cs.drop (i * 5)).take 5 = (fcells fs[i] iv tv).toList ∧ RwP P w iv fs[i].its ∧ Bs w tv fs[i].t ∧ BlkP P tv
theorem FrC.kp {P : Nat → Prop} {S : List Nat} {w w' : World} {cs : List Value} {fs : List Fr} (h : FrC P w cs fs) (hk : Kp S w w') (hS : ∀ g, P g → g ∉ S) : FrC P w' cs fs :=
  ⟨h.1, fun i hi => by obtain ⟨iv, tv, h1, h2, h3, h4⟩ := h.2 i hi; exact ⟨iv, tv, h1, h2.kp hk hS, h3.kq hk (fun b hb => hS b (h4 b hb)), h4⟩⟩
theorem FrC.mono {P P' : Nat → Prop} {w : World} {cs : List Value} {fs : List Fr} (h : FrC P w cs fs) (hP : ∀ g, P g → P' g) : FrC P' w cs fs :=
  ⟨h.1, fun i hi => by obtain ⟨iv, tv, h1, h2, h3, h4⟩ := h.2 i hi; exact ⟨iv, tv, h1, h2.mono hP, h3, fun b hb => hP b (h4 b hb)⟩⟩
theorem FrC.nil (P : Nat → Prop) (w : World) : FrC P w [] [] := ⟨rfl, fun i hi => by simp at hi⟩
theorem FrC.append {P : Nat → Prop} {w : World} {cs ds : List Value} {fs gs : List Fr} (h : FrC P w cs fs) (h' : FrC P w ds gs) : FrC P w (cs ++ ds) (fs ++ gs) := by
  have hc := h.1
  have hd := h'.1
  refine ⟨by simp [hc, hd]; omega, fun i hi => ?_⟩
  by_cases hlt : i < fs.length
  · obtain ⟨iv, tv, h1, h2, h3, h4⟩ := h.2 i hlt
    refine ⟨iv, tv, ?_, ?_, ?_, h4⟩
    · rw [List.drop_append_of_le_length (by omega), List.take_append_of_le_length (by simp; omega), List.getElem_append_left hlt]; exact h1
    · rw [List.getElem_append_left hlt]; exact h2
    · rw [List.getElem_append_left hlt]; exact h3
  · simp only [List.length_append] at hi
    obtain ⟨iv, tv, h1, h2, h3, h4⟩ := h'.2 (i - fs.length) (by omega)
    refine ⟨iv, tv, ?_, ?_, ?_, h4⟩
    · rw [List.getElem_append_right (by omega), List.drop_append, List.drop_of_length_le (by omega), List.nil_append, show i * 5 - cs.length = (i - fs.length) * 5 by omega]; exact h1
    · rw [List.getElem_append_right (by omega)]; exact h2
    · rw [List.getElem_append_right (by omega)]; exact h3
theorem FrC.one {P : Nat → Prop} {w : World} {f : Fr} {iv tv : Value} (h1 : RwP P w iv f.its) (h2 : Bs w tv f.t) (h3 : BlkP P tv) : FrC P w (fcells f iv tv).toList [f] :=
  ⟨rfl, fun i hi => by
    have : i = 0 := by simp at hi; exact hi
    subst this
    exact ⟨iv, tv, rfl, h1, h2, h3⟩⟩
end Go.Proofs.YtddpefbpiehgeaaDoor
