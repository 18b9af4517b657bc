/- The link: Parse. -/
import Derived.Test.YtddpefbpiehgeaaDoorLinkP
namespace Go.Proofs.YtddpefbpiehgeaaDoor
open Go Go.RowKit
set_option maxRecDepth 100000
set_option linter.unusedVariables false
set_option linter.unusedSectionVars false
set_option linter.unusedSimpArgs false

/-- A reader that came about after w0. -/
def RD (w0 : World) (B p : Nat) (d : List UInt8) (s : RS) (w : World) : Prop := IsRd w B p d s ∧ Kp [] w0 w ∧ w0.heap.size ≤ p ∧ p < B ∧ p < w.heap.size

theorem RD.read {w0 w w' : World} {B p : Nat} {d : List UInt8} {s s' : RS} {v : Value} {e : Ending} (h : RD w0 B p d s w) (hr : Read B p d v s' w e w') : e = .returned v ∧ RD w0 B p d s' w' ∧ Kp [p] w w' :=
  ⟨hr.1, ⟨hr.2.1, h.2.1.trans' hr.2.2 (by simpa using h.2.2.1), h.2.2.1, h.2.2.2.1, Nat.lt_of_lt_of_le h.2.2.2.2 hr.2.2.size⟩, hr.2.2⟩
theorem RD.kp {S : List Nat} {w0 w w' : World} {B p : Nat} {d : List UInt8} {s : RS} (h : RD w0 B p d s w) (hk : Kp S w w') (hS : ∀ x ∈ S, B ≤ x) (hS0 : ∀ x ∈ S, w0.heap.size ≤ x) : RD w0 B p d s w' :=
  ⟨h.1.kp hk (fun x hx => ⟨by have := hS x hx; have := h.2.2.2.1; omega, hS x hx⟩), h.2.1.trans' hk (fun x hx => .inr (hS0 x hx)), h.2.2.1, h.2.2.2.1, Nat.lt_of_lt_of_le h.2.2.2.2 hk.size⟩

theorem rd_new (v : Value) (d : List UInt8) (w0 w : World) (hk : Kp [] w0 w) (hb : Bs w v d) (hlen : d.length ≤ 140737488355328) :
    Calls Tryd.prog 38 #[v] w fun e w' => ∃ p, e = .returned (.pointer (some ⟨p, 0, none⟩)) ∧ RD w0 w'.heap.size p d ⟨0, 0, 0, 0⟩ w' ∧ Kp [] w w' :=
  (newReader_calls v d w hb hlen).mono fun e w' ⟨p, he, hp, hr, hk'⟩ => ⟨p, he, ⟨hr, hk.trans hk', Nat.le_trans hk.size hp, by obtain ⟨_, _, a, cap, hh, _⟩ := hr; exact lt_of_heap hh, by obtain ⟨_, _, a, cap, hh, _⟩ := hr; exact lt_of_heap hh⟩, hk'⟩
theorem rd_num (w0 : World) (B p : Nat) (d : List UInt8) (s : RS) (k : Nat) (ki : Int) (hki : ki = k) (w : World) (hr : RD w0 B p d s w) (hk1 : 1 ≤ k) (hk8 : k ≤ 8) (hlen : d.length ≤ 140737488355328) :
    Calls Tryd.prog 39 #[.pointer (some ⟨p, 0, none⟩), .int .i64 ki] w fun e w' => e = .returned (.int .i64 (rdNum d k s).1) ∧ RD w0 B p d (rdNum d k s).2 w' ∧ Kp [p] w w' := by
  subst hki
  exact (rnumber_calls B p d s k w hr.1 hk1 hk8 hlen).mono fun e w' h => hr.read h
theorem rd_count (w0 : World) (B p : Nat) (d : List UInt8) (s : RS) (m : Nat) (mi : Int) (hmi : mi = m) (w : World) (hr : RD w0 B p d s w) (hlen : d.length ≤ 140737488355328) :
    Calls Tryd.prog 40 #[.pointer (some ⟨p, 0, none⟩), .int .i64 mi] w fun e w' => e = .returned (.int .i64 (rdCount d m s).1) ∧ RD w0 B p d (rdCount d m s).2 w' ∧ Kp [p] w w' := by
  subst hmi
  exact (rcount_calls B p d s m w hr.1 hlen).mono fun e w' h => hr.read h
theorem rd_text (w0 : World) (B p : Nat) (d : List UInt8) (s : RS) (m : Nat) (mi : Int) (hmi : mi = m) (w : World) (hr : RD w0 B p d s w) (hlen : d.length ≤ 140737488355328) :
    Calls Tryd.prog 41 #[.pointer (some ⟨p, 0, none⟩), .int .i64 mi] w fun e w' => e = .returned (.string ⟨(rdText d m s).1.toArray⟩) ∧ RD w0 B p d (rdText d m s).2 w' ∧ Kp [p] w w' := by
  subst hmi
  exact (rtext_calls B p d s m w hr.1 hlen).mono fun e w' h => hr.read h
theorem rd_end (w0 : World) (B p : Nat) (d : List UInt8) (s : RS) (w : World) (hr : RD w0 B p d s w) (hlen : d.length ≤ 140737488355328) :
    Calls Tryd.prog 42 #[.pointer (some ⟨p, 0, none⟩)] w fun e w' => e = .returned (.agg #[.int .i64 (rdEnd d s).code, .int .i64 (rdEnd d s).fat]) ∧ RD w0 B p d (rdEnd d s) w' ∧ Kp [p] w w' :=
  (end_calls B p d s w hr.1 hlen).mono fun e w' h => hr.read h

theorem rd_numE (w0 : World) (B p : Nat) (d : List UInt8) (s s' : RS) (k n : Nat) (ki : Int) (hki : ki = k) (hn : rdNum d k s = (n, s')) (w : World) (hr : RD w0 B p d s w) (hk1 : 1 ≤ k) (hk8 : k ≤ 8) (hlen : d.length ≤ 140737488355328) :
    Calls Tryd.prog 39 #[.pointer (some ⟨p, 0, none⟩), .int .i64 ki] w fun e w' => e = .returned (.int .i64 n) ∧ RD w0 B p d s' w' ∧ Kp [p] w w' := by
  have h := rd_num w0 B p d s k ki hki w hr hk1 hk8 hlen
  rw [hn] at h
  exact h
theorem rd_countE (w0 : World) (B p : Nat) (d : List UInt8) (s s' : RS) (m n : Nat) (mi : Int) (hmi : mi = m) (hn : rdCount d m s = (n, s')) (w : World) (hr : RD w0 B p d s w) (hlen : d.length ≤ 140737488355328) :
    Calls Tryd.prog 40 #[.pointer (some ⟨p, 0, none⟩), .int .i64 mi] w fun e w' => e = .returned (.int .i64 n) ∧ RD w0 B p d s' w' ∧ Kp [p] w w' := by
  have h := rd_count w0 B p d s m mi hmi w hr hlen
  rw [hn] at h
  exact h
theorem rd_textE (w0 : World) (B p : Nat) (d : List UInt8) (s s' : RS) (m : Nat) (x : List UInt8) (mi : Int) (hmi : mi = m) (hn : rdText d m s = (x, s')) (w : World) (hr : RD w0 B p d s w) (hlen : d.length ≤ 140737488355328) :
    Calls Tryd.prog 41 #[.pointer (some ⟨p, 0, none⟩), .int .i64 mi] w fun e w' => e = .returned (.string ⟨x.toArray⟩) ∧ RD w0 B p d s' w' ∧ Kp [p] w w' := by
  have h := rd_text w0 B p d s m mi hmi w hr hlen
  rw [hn] at h
  exact h

/-- Values whose blocks are apart. -/
def Apart (a b : Value) : Prop := ∀ g, a.ownBlock = some g → b.ownBlock ≠ some g

/-- Items: rows of bytes, each its own. -/
def Its (w : World) (B : Nat) (us : List Value) (its : List (List UInt8)) : Prop :=
  us.length = its.length ∧ (∀ i (h : i < its.length), ∃ u, us[i]? = some u ∧ OB w 5 B u its[i]) ∧ (∀ (i j : Nat) (u v : Value), i ≠ j → us[i]? = some u → us[j]? = some v → Apart u v)

/-- A row of items. -/
def OR (w : World) (B : Nat) (v : Value) (its : List (List UInt8)) : Prop := ∃ us, Own w B 23 1 v its.length us ∧ Its w B us its

theorem Its.kp {S : List Nat} {w w' : World} {B : Nat} {us : List Value} {its : List (List UInt8)} (h : Its w B us its) (hk : Kp S w w') (hS : ∀ u ∈ us, ∀ b, u.ownBlock = some b → b ∉ S) : Its w' B us its :=
  ⟨h.1, fun i hi => by obtain ⟨u, h1, h2⟩ := h.2.1 i hi; exact ⟨u, h1, own_kp h2 hk (hS u (List.mem_of_getElem? h1))⟩, h.2.2⟩
theorem Its.base {w : World} {B B' : Nat} {us : List Value} {its : List (List UInt8)} (h : Its w B us its) (hB : B' ≤ B) : Its w B' us its :=
  ⟨h.1, fun i hi => by obtain ⟨u, h1, h2⟩ := h.2.1 i hi; exact ⟨u, h1, own_base h2 (fun b hb => Nat.le_trans hB (Own.lt h2 b hb).1)⟩, h.2.2⟩
theorem Its.lt {w : World} {B : Nat} {us : List Value} {its : List (List UInt8)} (h : Its w B us its) : ∀ u ∈ us, ∀ b, u.ownBlock = some b → B ≤ b ∧ b < w.heap.size := by
  intro u hu b hb
  obtain ⟨i, hi⟩ := List.mem_iff_getElem?.1 hu
  have hl : i < its.length := by rw [← h.1]; exact (List.getElem?_eq_some_iff.1 hi).1
  obtain ⟨u', h1, h2⟩ := h.2.1 i hl
  rw [hi] at h1
  cases h1
  exact Own.lt h2 b hb
theorem OR.kp {S : List Nat} {w w' : World} {B : Nat} {v : Value} {its : List (List UInt8)} (h : OR w B v its) (hk : Kp S w w') (hS : ∀ s ∈ S, s < B) : OR w' B v its := by
  obtain ⟨us, ho, hi⟩ := h
  exact ⟨us, own_kp ho hk (fun b hb hm => by have := (ho.lt b hb).1; have := hS b hm; omega), hi.kp hk (fun u hu b hb hm => by have := (hi.lt u hu b hb).1; have := hS b hm; omega)⟩
theorem OR.base {w : World} {B B' : Nat} {v : Value} {its : List (List UInt8)} (h : OR w B v its) (hB : B' ≤ B) : OR w B' v its := by
  obtain ⟨us, ho, hi⟩ := h
  exact ⟨us, own_base ho (fun b hb => Nat.le_trans hB (ho.lt b hb).1), hi.base hB⟩
theorem OR.rws {w : World} {B : Nat} {v : Value} {its : List (List UInt8)} (h : OR w B v its) : Rws w v its := by
  obtain ⟨us, ho, hi⟩ := h
  exact ⟨us, Sl.of_own ho, hi.1, fun i h => by obtain ⟨u, h1, h2⟩ := hi.2.1 i h; exact ⟨u, h1, OB.bs h2⟩⟩
theorem OR.nil (w : World) (B : Nat) : OR w B (.slice none 0 0) [] := ⟨[], Own.nil _ _ _ _, rfl, fun i h => by simp at h, fun i j u v _ h => by simp at h⟩
theorem OR.form {w : World} {B : Nat} {v : Value} {its : List (List UInt8)} (h : OR w B v its) : ∃ a c, v = .slice a its.length c := by
  obtain ⟨us, ho, _⟩ := h; exact own_form ho

/-- A frame's value whose rows are all its own. -/
def IsF (w : World) (B : Nat) (v : Value) (f : Fr) : Prop := ∃ iv tv us, v = .agg (fcells f iv tv) ∧ Own w B 23 1 iv f.its.length us ∧ Its w B us f.its ∧ OB w 5 B tv f.t ∧ (∀ u ∈ us, Apart u tv)
theorem IsF.kp {S : List Nat} {w w' : World} {B : Nat} {v : Value} {f : Fr} (h : IsF w B v f) (hk : Kp S w w') (hS : ∀ s ∈ S, s < B) : IsF w' B v f := by
  obtain ⟨iv, tv, us, he, ho, hi, ht, ha⟩ := h
  exact ⟨iv, tv, us, he, own_kp ho hk (fun b hb hm => by have := (ho.lt b hb).1; have := hS b hm; omega), hi.kp hk (fun u hu b hb hm => by have := (hi.lt u hu b hb).1; have := hS b hm; omega),
    own_kp ht hk (fun b hb hm => by have := (Own.lt ht b hb).1; have := hS b hm; omega), ha⟩
theorem IsF.base {w : World} {B B' : Nat} {v : Value} {f : Fr} (h : IsF w B v f) (hB : B' ≤ B) : IsF w B' v f := by
  obtain ⟨iv, tv, us, he, ho, hi, ht, ha⟩ := h
  exact ⟨iv, tv, us, he, own_base ho (fun b hb => Nat.le_trans hB (ho.lt b hb).1), hi.base hB, own_base ht (fun b hb => Nat.le_trans hB (Own.lt ht b hb).1), ha⟩
end Go.Proofs.YtddpefbpiehgeaaDoor
