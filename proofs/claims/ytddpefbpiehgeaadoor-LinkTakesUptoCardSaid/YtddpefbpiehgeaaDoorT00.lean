/- Plain words on worlds for this seat's walks: what a call keeps of the memory, slices that read as a row of cells, bytes. -/
import Derived.WalkKit
import Derived.BigQuiet
import Derived.Deep.QuietTactic
import Derived.Deep.AppendSrc
import Derived.Deep.Draws
import Derived.Deep.DeepCutAuto
import Derived.Deep.LoopGhost
import Derived.Deep.RegionHeld3
import Derived.StillTailTactics
import Derived.PlainAid
import Derived.Handy
import Derived.Lib.Hide
import Derived.Lib.ConvBytes
import Derived.Laws.IdiomStrings
import Derived.WalkLawsBesides
import Derived.WalkSpells
import Derived.Test.YtddpefbpiehgeaaDoorProg
namespace Go.Proofs.YtddpefbpiehgeaaDoor
open Go Go.RowKit

/-- Of the blocks that there were, only those of S may have changed; the streams are as they were. -/
structure Kp (S : List Nat) (w w' : World) : Prop where
  os : w'.os = w.os
  tape : w'.tape = w.tape
  output : w'.output = w.output
  size : w.heap.size ≤ w'.heap.size
  block : ∀ k, k < w.heap.size → k ∉ S → w'.heap[k]? = w.heap[k]?

theorem Kp.refl (S : List Nat) (w : World) : Kp S w w := ⟨rfl, rfl, rfl, Nat.le_refl _, fun _ _ _ => rfl⟩

theorem Kp.trans {S : List Nat} {a b c : World} (h : Kp S a b) (k : Kp S b c) : Kp S a c :=
  ⟨k.os.trans h.os, k.tape.trans h.tape, k.output.trans h.output, Nat.le_trans h.size k.size,
    fun i hi hs => (k.block i (Nat.lt_of_lt_of_le hi h.size) hs).trans (h.block i hi hs)⟩

/-- A second step may change what is new besides. -/
theorem Kp.trans' {S T : List Nat} {a b c : World} (h : Kp S a b) (k : Kp T b c) (hT : ∀ t ∈ T, t ∈ S ∨ a.heap.size ≤ t) : Kp S a c :=
  ⟨k.os.trans h.os, k.tape.trans h.tape, k.output.trans h.output, Nat.le_trans h.size k.size,
    fun i hi hs => (k.block i (Nat.lt_of_lt_of_le hi h.size) (fun hc => by
      rcases hT i hc with h1 | h1
      · exact hs h1
      · omega)).trans (h.block i hi hs)⟩

theorem Kp.mono {S T : List Nat} {a b : World} (h : Kp S a b) (hST : ∀ s ∈ S, s ∈ T ∨ a.heap.size ≤ s) : Kp T a b :=
  ⟨h.os, h.tape, h.output, h.size, fun i hi hs => h.block i hi (fun hc => by
    rcases hST i hc with h1 | h1
    · exact hs h1
    · omega)⟩

theorem Kp.nil {S : List Nat} {a b : World} (h : Kp [] a b) : Kp S a b := h.mono (by simp)

theorem Kp.alloc {S : List Nat} {a w : World} (h : Kp S a w) (o : Obj) : Kp S a (w.alloc o) :=
  h.trans ⟨rfl, rfl, rfl, by simp, fun k hk _ => Below.heap_alloc _ _ _ hk⟩

theorem Kp.drew {S : List Nat} {a w : World} (h : Kp S a w) : Kp S a w.drew := ⟨h.os, h.tape, h.output, h.size, h.block⟩
theorem Kp.drewN {S : List Nat} {a w : World} (h : Kp S a w) (n : Nat) : Kp S a (w.drewN n) := ⟨h.os, h.tape, h.output, h.size, h.block⟩

theorem Kp.setCell {S : List Nat} {a w : World} (h : Kp S a w) {p : Addr} (hp : p.block ∈ S ∨ a.heap.size ≤ p.block) (u : Value) : Kp S a (w.setCell p u) :=
  h.trans' (T := [p.block]) ⟨rfl, rfl, rfl, by simp [World.setCell], fun k _ hs => Below.heap_setCell _ _ _ _ (by simpa using hs)⟩ (by simpa using hp)

theorem Kp.grown {S : List Nat} {a w w' : World} {row : Option Nat} (h : Kp S a w) (hg : w.grownBy w' row) (hr : ∀ k, row = some k → k ∈ S ∨ a.heap.size ≤ k) : Kp S a w' :=
  h.trans' (T := row.toList) ⟨hg.os, hg.tape, hg.output, hg.size, fun k hk hs => hg.block k hk (fun e => hs (by simp [← e]))⟩ (by simpa using hr)

theorem Kp.below {S : List Nat} {w w' : World} (h : Kp S w w') {B : Nat} (hB : B ≤ w.heap.size) (hS : ∀ s ∈ S, B ≤ s) : Below B w w' :=
  ⟨h.os, h.tape, h.output, h.size, fun k hk => h.block k (by omega) (fun hc => by have := hS k hc; omega)⟩

theorem Kp.ofBelow {w w' : World} (h : Below w.heap.size w w') : Kp [] w w' :=
  ⟨h.os, h.tape, h.output, h.size, fun k hk _ => h.block k hk⟩

/-- The two rules that a walk wants behind a call. -/
theorem Kp.cells {S : List Nat} {w w' : World} (h : Kp S w w') : (∀ b o, b < w.heap.size → b ∉ S → w'.cell? ⟨b, o, none⟩ = w.cell? ⟨b, o, none⟩) ∧ (∀ b o, b < w.heap.size → b ∉ S → w'.frozen? ⟨b, o, none⟩ = w.frozen? ⟨b, o, none⟩) :=
  ⟨fun b o hb hs => World.cell?_of_block (a := ⟨b, o, none⟩) (h.block b hb hs), fun b o hb hs => World.frozen?_of_block (a := ⟨b, o, none⟩) (h.block b hb hs)⟩

theorem Kp.cells0 {w w' : World} (h : Kp [] w w') : (∀ b o, b < w.heap.size → w'.cell? ⟨b, o, none⟩ = w.cell? ⟨b, o, none⟩) ∧ (∀ b o, b < w.heap.size → w'.frozen? ⟨b, o, none⟩ = w.frozen? ⟨b, o, none⟩) :=
  ⟨fun b o hb => h.cells.1 b o hb (by simp), fun b o hb => h.cells.2 b o hb (by simp)⟩

theorem Kp.heap {S : List Nat} {w w' : World} (h : Kp S w w') {b : Nat} {o : Obj} (hb : w.heap[b]? = some o) (hs : b ∉ S) : w'.heap[b]? = some o := by
  rw [h.block b (by
    rcases Nat.lt_or_ge b w.heap.size with h1 | h1
    · exact h1
    · rw [Array.getElem?_eq_none h1] at hb; cases hb) hs]; exact hb

theorem halloc (w : World) (o : Obj) (b : Nat) : (w.alloc o).heap[b]? = if b = w.heap.size then some o else w.heap[b]? := by simp only [World.alloc, Array.getElem?_push]
theorem hdrew (w : World) : w.drew.heap = w.heap := rfl
theorem hset (w : World) (p : Addr) (v : Value) (b : Nat) (h : b ≠ p.block) : (w.setCell p v).heap[b]? = w.heap[b]? := Below.heap_setCell _ _ _ _ h

theorem lt_of_heap {w : World} {b : Nat} {o : Obj} (hb : w.heap[b]? = some o) : b < w.heap.size := by
  rcases Nat.lt_or_ge b w.heap.size with h1 | h1
  · exact h1
  · rw [Array.getElem?_eq_none h1] at hb; cases hb

theorem cell_heap {w : World} {b : Nat} {c : Array Value} {T : TypeId} {fr : Nat × Nat} (hb : w.heap[b]? = some (.cells c T fr)) (i : Nat) : w.cell? ⟨b, i, none⟩ = c[i]? := by
  simp [World.cell?, hb]
theorem free_heap {w : World} {b : Nat} {c : Array Value} {T : TypeId} (hb : w.heap[b]? = some (.cells c T (0, 0))) (i : Nat) : w.frozen? ⟨b, i, none⟩ = false := by
  simp [World.frozen?, hb]

/-- The block that a slice lies in; one without places lies nowhere. -/
def own1 : Value → Option Nat
  | .slice (some _) 0 0 => none
  | v => v.ownBlock
theorem own1_own {v : Value} {g : Nat} (h : own1 v = some g) : v.ownBlock = some g := by
  unfold own1 at h
  split at h
  · cases h
  · exact h
theorem own1_some {a : Addr} {n c g : Nat} (h : own1 (.slice (some a) n c) = some g) : a.block = g := by
  have := own1_own h
  simpa [Value.ownBlock] using this
theorem own1_of {a : Addr} {n c : Nat} (h : 0 < c) : own1 (.slice (some a) n c) = some a.block := by
  unfold own1
  split
  · rename_i h'; cases h'; omega
  · rfl

/-- A slice of n elements of sz cells each, whose cells read cs. (A slice without places may bear any address.) -/
def Sl (w : World) (sz : Nat) (v : Value) (n : Nat) (cs : List Value) : Prop :=
  cs.length = n * sz ∧ ((v = .slice none 0 0 ∧ n = 0) ∨ (∃ a, v = .slice (some a) 0 0 ∧ n = 0) ∨
    ∃ b off cap, v = .slice (some ⟨b, off, none⟩) n cap ∧ n ≤ cap ∧ b < w.heap.size ∧ ∀ j u, cs[j]? = some u → w.cell? ⟨b, off + j, none⟩ = some u)

/-- A row of the call's own (from base on): its block is the slice's alone; a conversion's mark may lie behind it. -/
def Own (w : World) (base : Nat) (e : TypeId) (size : Nat) (v : Value) (n : Nat) (xs : List Value) : Prop :=
  xs.length = n * size ∧
  ((v = .slice none 0 0 ∧ n = 0) ∨
   ∃ g cap cur fr, v = .slice (some ⟨g, 0, none⟩) n cap ∧ base ≤ g ∧ w.heap[g]? = some (.cells cur e fr) ∧ (fr = (0, 0) ∨ cur.size ≤ fr.1) ∧ n ≤ cap ∧ cap ≤ maxLen ∧ cur.size = cap * size ∧ cur.toList.take (n * size) = xs)

theorem Own.of {w : World} {base e size n : Nat} {v : Value} {xs : List Value} (h : w.ownsRow base e size v n xs) : Own w base e size v n xs := by
  obtain ⟨hl, h⟩ := h
  refine ⟨hl, ?_⟩
  rcases h with h | ⟨g, cap, cur, hv, hg, hh, r⟩
  · exact .inl h
  · exact .inr ⟨g, cap, cur, (0, 0), hv, hg, hh, .inl rfl, r⟩

theorem Own.nil (w : World) (base e size : Nat) : Own w base e size (.slice none 0 0) 0 [] := ⟨by simp, .inl ⟨rfl, rfl⟩⟩

theorem Own.lt {w : World} {base e size n : Nat} {v : Value} {xs : List Value} (h : Own w base e size v n xs) : ∀ k, v.ownBlock = some k → base ≤ k ∧ k < w.heap.size := by
  intro k hk
  rcases h.2 with ⟨h, _⟩ | ⟨g, cap, cur, fr, hv, hg, hh, _⟩
  · rw [h] at hk; cases hk
  · rw [hv] at hk; cases hk; exact ⟨hg, lt_of_heap hh⟩

theorem free_mark {w : World} {b : Nat} {c : Array Value} {T : TypeId} {fr : Nat × Nat} (hb : w.heap[b]? = some (.cells c T fr)) (hf : fr = (0, 0) ∨ c.size ≤ fr.1) (i : Nat) (hi : i < c.size) : w.frozen? ⟨b, i, none⟩ = false := by
  obtain ⟨lo, hi'⟩ := fr
  rcases hf with hf | hf
  · cases hf; simp [World.frozen?, hb]
  · simp only at hf
    simp only [World.frozen?, hb, Bool.and_eq_false_iff, decide_eq_false_iff_not]
    exact .inl (by omega)

theorem Own.cellAt {w : World} {base e size n g cap : Nat} {xs : List Value} (h : Own w base e size (.slice (some ⟨g, 0, none⟩) n cap) n xs) (j : Nat) (hj : j < n * size) : w.cell? ⟨g, j, none⟩ = xs[j]? := by
  rcases h.2 with ⟨h, _⟩ | ⟨g', cap', cur, fr, hv, hg, hh, _, hn, hm, hs, ht⟩
  · cases h
  · cases hv
    rw [cell_heap hh, ← Array.getElem?_toList, ← ht, List.getElem?_take, if_pos hj]

theorem Own.frozenAt {w : World} {base e size n g cap : Nat} {xs : List Value} (h : Own w base e size (.slice (some ⟨g, 0, none⟩) n cap) n xs) (j : Nat) (hj : j < cap * size) : w.frozen? ⟨g, j, none⟩ = false := by
  rcases h.2 with ⟨h, _⟩ | ⟨g', cap', cur, fr, hv, hg, hh, hf, hn, hm, hs, ht⟩
  · cases h
  · cases hv
    exact free_mark hh hf j (by omega)

theorem heap_set {w : World} {g i : Nat} {cur : Array Value} {e : TypeId} {fr : Nat × Nat} (u : Value) (hg : w.heap[g]? = some (.cells cur e fr)) : (w.setCell ⟨g, i, none⟩ u).heap[g]? = some (.cells (cur.setIfInBounds i u) e fr) := by
  rw [setCell_eq_setRow w g i cur e fr u hg]
  exact setRow_heap w g cur _ e fr hg

theorem Own.stored {w : World} {base e size n g cap : Nat} {xs : List Value} (h : Own w base e size (.slice (some ⟨g, 0, none⟩) n cap) n xs) (j : Nat) (u : Value) :
    Own (w.setCell ⟨g, j, none⟩ u) base e size (.slice (some ⟨g, 0, none⟩) n cap) n (xs.set j u) := by
  obtain ⟨hl, h⟩ := h
  rcases h with ⟨h, _⟩ | ⟨g', cap', cur, fr, hv, hg, hh, hf, hn, hm, hs, ht⟩
  · cases h
  · cases hv
    refine ⟨by simpa using hl, .inr ⟨g, cap, cur.setIfInBounds j u, fr, rfl, hg, heap_set u hh, by simpa using hf, hn, hm, by simpa using hs, ?_⟩⟩
    rw [Array.toList_setIfInBounds, ← ht, List.take_set]

theorem Sl.of_own {w : World} {base e sz n : Nat} {v : Value} {xs : List Value} (h : Own w base e sz v n xs) : Sl w sz v n xs := by
  obtain ⟨hl, h⟩ := h
  refine ⟨hl, ?_⟩
  rcases h with h | ⟨g, cap, cur, fr, hv, hg, hh, hf, hn, hm, hs, ht⟩
  · exact .inl h
  · refine .inr (.inr ⟨g, 0, cap, hv, hn, lt_of_heap hh, fun j u hu => ?_⟩)
    rw [cell_heap hh, ← Array.getElem?_toList]
    rw [← ht, List.getElem?_take] at hu
    split at hu
    · rw [Nat.zero_add]; exact hu
    · cases hu

/-- The form that a walk reads. -/
theorem Sl.form {w : World} {sz n : Nat} {v : Value} {cs : List Value} (h : Sl w sz v n cs) :
    ∃ a cap, v = .slice a n cap ∧ n ≤ cap ∧ (a = none → n = 0 ∧ cap = 0) ∧ (0 < n → ∃ b off, a = some ⟨b, off, none⟩ ∧ b < w.heap.size) ∧
      (∀ b off, a = some ⟨b, off, none⟩ → (0 < n → b < w.heap.size) ∧ ∀ j u, cs[j]? = some u → w.cell? ⟨b, off + j, none⟩ = some u) := by
  obtain ⟨hl, h⟩ := h
  rcases h with ⟨h, h0⟩ | ⟨a, h, h0⟩ | ⟨b, off, cap, hv, hc, hb, hh⟩
  · exact ⟨none, 0, by rw [h, h0], by omega, fun _ => ⟨h0, rfl⟩, fun h => absurd h (by omega), nofun⟩
  · refine ⟨some a, 0, by rw [h, h0], by omega, nofun, fun h => absurd h (by omega), fun b off _ => ⟨fun h => absurd h (by omega), fun j u hu => ?_⟩⟩
    have : cs = [] := List.eq_nil_of_length_eq_zero (by rw [hl, h0, Nat.zero_mul])
    rw [this] at hu
    cases hu
  · exact ⟨some ⟨b, off, none⟩, cap, hv, hc, nofun, fun _ => ⟨b, off, rfl, hb⟩, fun b' off' h => (by cases h; exact ⟨fun _ => hb, hh⟩)⟩

theorem Sl.kq {S : List Nat} {w w' : World} {sz n : Nat} {v : Value} {cs : List Value} (h : Sl w sz v n cs) (hk : Kp S w w') (hS : ∀ b, own1 v = some b → b ∉ S) : Sl w' sz v n cs := by
  obtain ⟨hl, h⟩ := h
  refine ⟨hl, ?_⟩
  rcases h with h | h | ⟨b, off, cap, hv, hc, hb, hh⟩
  · exact .inl h
  · exact .inr (.inl h)
  · by_cases h0 : cap = 0
    · have hn : n = 0 := by omega
      exact .inr (.inl ⟨_, by rw [hv, h0, hn], hn⟩)
    · refine .inr (.inr ⟨b, off, cap, hv, hc, Nat.lt_of_lt_of_le hb hk.size, fun j u hu => ?_⟩)
      rw [hk.cells.1 b (off + j) hb (hS b (by rw [hv, own1_of (by omega)]))]
      exact hh j u hu

theorem Sl.kp {S : List Nat} {w w' : World} {sz n : Nat} {v : Value} {cs : List Value} (h : Sl w sz v n cs) (hk : Kp S w w') (hS : ∀ b, v.ownBlock = some b → b ∉ S) : Sl w' sz v n cs := h.kq hk (fun b hb => hS b (own1_own hb))
theorem Sl.kp0 {w w' : World} {sz n : Nat} {v : Value} {cs : List Value} (h : Sl w sz v n cs) (hk : Kp [] w w') : Sl w' sz v n cs := h.kp hk (by simp)

theorem Sl.lt {w : World} {sz n : Nat} {v : Value} {cs : List Value} (h : Sl w sz v n cs) : ∀ b, own1 v = some b → b < w.heap.size := by
  intro b hb
  rcases h.2 with ⟨h, _⟩ | ⟨a, h, _⟩ | ⟨b', off, cap, hv, _, hlt, _⟩
  · rw [h] at hb; cases hb
  · rw [h] at hb; cases hb
  · rw [hv] at hb; have := own1_some hb; simp only at this; omega

theorem byte_or (n x : Nat) (hn : n < 72057594037927936) (hx : x < 256) :
    bits BinOp.or IntKind.u64 (IntKind.u64.wrap ((n : Int) * 256)) (IntKind.u64.wrap (x : Int)) = ((n * 256 + x : Nat) : Int) := by
  rw [IntWalk.u64_in _ (by omega), IntWalk.u64_in _ (by omega)]
  have h := bits_or_u64_nat (n * 256) x (by omega) (by omega)
  have h2 := Nat.shiftLeft_add_eq_or_of_lt (i := 8) (b := x) (by omega) n
  rw [Nat.shiftLeft_eq] at h2
  simp only [Nat.reducePow] at h2
  rw [h2, ← h]
  simp
theorem add_block (x : Addr) (i : Nat) : (x.add i).block = x.block := by unfold Addr.add; split <;> rfl

/-- A part of a slice. -/
theorem Sl.part {w : World} {a : Option Addr} {N cap : Nat} {cs : List Value} (h : Sl w 1 (.slice a N cap) N cs) (i n : Nat) (hn : i + n ≤ N) :
    Sl w 1 (.slice (if cap = i then a else a.map (fun x => x.add i)) n (cap - i)) n ((cs.drop i).take n) := by
  obtain ⟨hl, h⟩ := h
  refine ⟨by simp; omega, ?_⟩
  rcases h with ⟨h, h0⟩ | ⟨a', h, h0⟩ | ⟨b, off, cap', hv, hc, hb, hh⟩
  · cases h
    obtain rfl : n = 0 := by omega
    obtain rfl : i = 0 := by omega
    exact .inl ⟨by simp, rfl⟩
  · cases h
    obtain rfl : n = 0 := by omega
    obtain rfl : i = 0 := by omega
    exact .inr (.inl ⟨a', by simp, rfl⟩)
  · cases hv
    by_cases hci : cap = i
    · obtain rfl : n = 0 := by omega
      exact .inr (.inr ⟨b, off, cap - i, by simp [hci], by omega, hb, fun j u hu => by simp at hu⟩)
    · refine .inr (.inr ⟨b, off + i, cap - i, by simp [hci, Addr.add], by omega, hb, fun j u hu => ?_⟩)
      rw [List.getElem?_take] at hu
      split at hu
      · rw [List.getElem?_drop] at hu
        rw [Nat.add_assoc]
        exact hh _ _ hu
      · cases hu

/-- Owned rows stay where their block stays. -/
theorem own_kp {S : List Nat} {w w' : World} {base e sz n : Nat} {v : Value} {xs : List Value} (h : Own w base e sz v n xs) (hk : Kp S w w') (hS : ∀ b, v.ownBlock = some b → b ∉ S) : Own w' base e sz v n xs := by
  obtain ⟨hl, h⟩ := h
  refine ⟨hl, ?_⟩
  rcases h with h | ⟨g, cap, cur, fr, hv, hg, hh, r⟩
  · exact .inl h
  · exact .inr ⟨g, cap, cur, fr, hv, hg, hk.heap hh (hS g (by rw [hv]; rfl)), r⟩

theorem own_form {w : World} {base e sz n : Nat} {v : Value} {xs : List Value} (h : Own w base e sz v n xs) : ∃ a cap, v = .slice a n cap := by
  rcases h.2 with ⟨h, h0⟩ | ⟨g, cap, cur, fr, hv, _⟩
  · exact ⟨none, 0, by rw [h, h0]⟩
  · exact ⟨_, cap, hv⟩

theorem own_base {w : World} {base base' e sz n : Nat} {v : Value} {xs : List Value} (h : Own w base e sz v n xs) (hb : ∀ b, v.ownBlock = some b → base' ≤ b) : Own w base' e sz v n xs := by
  obtain ⟨hl, h⟩ := h
  refine ⟨hl, ?_⟩
  rcases h with h | ⟨g, cap, cur, fr, hv, hg, r⟩
  · exact .inl h
  · exact .inr ⟨g, cap, cur, fr, hv, hb g (by rw [hv]; rfl), r⟩

/-- Bytes as cells. -/
def bcells (l : List UInt8) : List Value := l.map fun x => .int .u8 (x.toNat : Int)
@[simp] theorem bcells_length (l : List UInt8) : (bcells l).length = l.length := by simp [bcells]
@[simp] theorem bcells_append (l m : List UInt8) : bcells (l ++ m) = bcells l ++ bcells m := by simp [bcells]
@[simp] theorem bcells_nil : bcells [] = [] := rfl
theorem bcells_cons (x : UInt8) (l : List UInt8) : bcells (x :: l) = .int .u8 (x.toNat : Int) :: bcells l := rfl
theorem bcells_get (l : List UInt8) (i : Nat) (h : i < l.length) : (bcells l)[i]? = some (.int .u8 (l[i].toNat : Int)) := by
  simp [bcells, h]
theorem bcells_part (l : List UInt8) (i n : Nat) : bcells ((l.drop i).take n) = ((bcells l).drop i).take n := by simp [bcells, List.map_take, List.map_drop]
theorem bcells_set (l : List UInt8) (i : Nat) (x : UInt8) : bcells (l.set i x) = (bcells l).set i (.int .u8 (x.toNat : Int)) := by simp [bcells, List.map_set]
theorem bcells_one {l : List UInt8} : ∀ u ∈ bcells l, u.oneCell' = true := by
  intro u hu
  simp only [bcells, List.mem_map] at hu
  obtain ⟨_, _, rfl⟩ := hu
  rfl
theorem byteCells_eq (s : ByteArray) : byteCells s = bcells s.data.toList := rfl

/-- v reads as the bytes l. -/
def Bs (w : World) (v : Value) (l : List UInt8) : Prop := Sl w 1 v l.length (bcells l)
/-- v is a row of the call's own with the bytes l (e: the type uint8). -/
def OB (w : World) (e base : Nat) (v : Value) (l : List UInt8) : Prop := Own w base e 1 v l.length (bcells l)
theorem OB.bs {w : World} {e base : Nat} {v : Value} {l : List UInt8} (h : OB w e base v l) : Bs w v l := Sl.of_own h

theorem heap_sets {g : Nat} {e : TypeId} {fr : Nat × Nat} : ∀ (vs : List Value) (o : Nat) (w : World) (cur : Array Value), w.heap[g]? = some (.cells cur e fr) → o + vs.length ≤ cur.size →
    (w.setCells g o vs).heap[g]? = some (.cells (cur.toList.take o ++ vs ++ cur.toList.drop (o + vs.length)).toArray e fr) ∧ (∀ k, k ≠ g → (w.setCells g o vs).heap[k]? = w.heap[k]?) ∧
      (w.setCells g o vs).os = w.os ∧ (w.setCells g o vs).tape = w.tape ∧ (w.setCells g o vs).output = w.output ∧ (w.setCells g o vs).heap.size = w.heap.size
  | [], o, w, cur, hg, _ => ⟨by rw [World.setCells, hg]; simp, fun _ _ => rfl, rfl, rfl, rfl, rfl⟩
  | v :: r, o, w, cur, hg, hl => by
    simp only [List.length_cons] at hl
    obtain ⟨h1, h2, h3, h4, h5, h6⟩ := heap_sets r (o + 1) (w.setCell ⟨g, o, none⟩ v) (cur.setIfInBounds o v) (heap_set v hg) (by simp; omega)
    rw [World.setCells]
    refine ⟨?_, fun k hk => (h2 k hk).trans (Below.heap_setCell _ _ _ _ hk), h3, h4, h5, h6.trans (by simp [World.setCell])⟩
    rw [h1]
    have ho : o < cur.toList.length := by simp; omega
    rw [Array.toList_setIfInBounds, List.take_set, List.take_succ_eq_append_getElem ho, List.set_append_right _ _ (by simp; omega), List.drop_set]
    have hl2 : o - (List.take o cur.toList).length = 0 := by simp; omega
    rw [hl2]
    simp only [List.set_cons_zero, List.append_assoc, List.cons_append, List.nil_append, List.length_cons]
    rw [if_pos (by omega), show o + 1 + r.length = o + (r.length + 1) by omega]

section
variable {P : Program} (w : World)

/-- append onto a row of the call's own, of whatever is appended. -/
theorem run_app (base : Nat) (t tx ty e : TypeId) (i : TypeInfo) (z : Value) (size bytes : Nat) (ht : P.underlying t = some (.slice e)) (hi : P.info? e = some i) (hz : i.zero = some z)
    (hsize : i.size = size) (hby : i.bytes = bytes) (hzs : z.cells.size = size) (hsz : 0 < size)
    (v : Value) (n : Nat) (xs : List Value) (hown : Own w base e size v n xs)
    (x : Value) (m : Nat) (news : List Value) (hs : Src P size tx x m news w)
    (hbytes : (n + m) * bytes ≤ 140737488355328) (h63 : n + m ≤ 140737488355328) (hbase : base ≤ w.heap.size) :
    ∃ v' w', (Builtin.append_ #[t, tx] ty #[v, x]).run P w = .ok v' w' ∧ Own w' base e size v' (n + m) (xs ++ news) ∧ w.grownBy w' v.ownBlock ∧
      (∀ b, v'.ownBlock = some b → v.ownBlock = some b ∨ w.heap.size ≤ b) := by
  subst hsize
  subst hby
  have hsmall : n + m ≤ maxLen := by unfold maxLen; omega
  have hl := hs.newsLen
  have hlen : (xs ++ news).length = (n + m) * i.size := by rw [List.length_append, hown.1, hl, Nat.add_mul]
  have grown : ∀ (old : Nat), old < n + m → ∀ (row : Option Nat),
      Own (w.drew.alloc (.cells ((xs ++ news).toArray ++ Builtin.zeroCells z.cells (grownCap w (n + m) old e - (n + m))) e)) base e i.size
        (.slice (some ⟨w.heap.size, 0, none⟩) (n + m) (grownCap w (n + m) old e)) (n + m) (xs ++ news) ∧
      w.grownBy (w.drew.alloc (.cells ((xs ++ news).toArray ++ Builtin.zeroCells z.cells (grownCap w (n + m) old e - (n + m))) e)) row := by
    intro old ho row
    have hge := grownCap_ge w (n + m) old e
    have hcm : grownCap w (n + m) old e ≤ maxLen := grownCap_le_maxLen w (n + m) old e hsmall
    refine ⟨⟨hlen, .inr ⟨w.heap.size, _, _, (0, 0), rfl, hbase, heap_alloc_new w.drew _, .inl rfl, hge, hcm, ?_, ?_⟩⟩, ⟨rfl, rfl, rfl, by simp, fun k hk _ => heap_alloc_old w.drew _ hk⟩⟩
    · simp only [Array.size_append, List.size_toArray, size_zeroCells, hzs, hlen, ← Nat.add_mul]
      congr 1
      omega
    · simp only [Array.toList_append, ← hlen]
      exact List.take_left
  rcases hown.2 with ⟨rfl, rfl⟩ | ⟨g, cap, cur, fr, rfl, hbg, hg, hfr, hnc, hcm, hcs, htake⟩
  · have hx : xs = [] := List.eq_nil_of_length_eq_zero (by simpa using hown.1)
    subst hx
    by_cases hm : m = 0
    · subst hm
      have hn : news = [] := List.eq_nil_of_length_eq_zero (by simpa using hl)
      subst hn
      refine ⟨.slice none 0 0, w, ?_, Own.nil w base e i.size, ⟨rfl, rfl, rfl, Nat.le_refl _, fun _ _ _ => rfl⟩, nofun⟩
      rcases hs.kind with ⟨e', hk⟩ | hk <;> simp [Builtin.append_, run_underlying ht, run_underlying hk, sizeOf, typeInfo, hi, hs.len, hs.cells]
    · have hold : (Builtin.firstCells i.size 0 (.slice none 0 0)).run P w.drew = .ok ([] : List Value).toArray w.drew := run_firstCells_none w.drew i.size 0 0 0
      have hr := run_append_grow_src (P := P) w t tx ty e i z ht hi hz none 0 0 [] hold x m news hs (by omega) (by omega) (growslice_fits (by omega) hbytes)
      have hgr := grown 0 (by omega) (Value.ownBlock (.slice none 0 0))
      refine ⟨_, _, hr, ?_, hgr.2, fun b hb => .inr ?_⟩
      · exact hgr.1
      · cases hb; exact Nat.le_refl _
  · by_cases hroom : n + m ≤ cap
    · have hfit : n * i.size + news.length ≤ cur.size := by rw [hl, hcs, ← Nat.add_mul]; exact Nat.mul_le_mul_right _ hroom
      have hr := run_append_room_src (P := P) w t tx ty e i ht hi g 0 n cap x m news hs hroom
        (fun j hj => by rw [Nat.zero_add, cell_heap hg]; simp; omega) (fun j hj => by rw [Nat.zero_add]; exact free_mark hg hfr _ (by omega))
      rw [Nat.zero_add] at hr
      obtain ⟨h1, h2, h3, h4, h5, h6⟩ := heap_sets news (n * i.size) w cur hg hfit
      refine ⟨_, _, hr, ⟨hlen, .inr ⟨g, cap, _, fr, rfl, hbg, h1, ?_, hroom, hcm, ?_, ?_⟩⟩, ⟨h3, h4, h5, Nat.le_of_eq h6.symm, fun k _ hk => h2 k (fun e => hk (by simp [Value.ownBlock, e]))⟩, fun b hb => .inl hb⟩
      · have hsz : (cur.toList.take (n * i.size) ++ news ++ cur.toList.drop (n * i.size + news.length)).toArray.size = cur.size := by
          simp only [List.size_toArray, List.length_append, List.length_take, List.length_drop, Array.length_toList]
          omega
        rw [hsz]; exact hfr
      · simp only [List.size_toArray, List.length_append, List.length_take, List.length_drop, Array.length_toList]
        omega
      · rw [htake, ← hlen]
        exact List.take_left
    · have holds : ∀ j u, xs[j]? = some u → w.cell? ((⟨g, 0, none⟩ : Addr).add j) = some u := fun j u hj => by
        rw [Addr.add_lit, Nat.zero_add, cell_heap hg, ← Array.getElem?_toList]
        rw [← htake, List.getElem?_take] at hj
        split at hj
        · exact hj
        · cases hj
      have hold : (Builtin.firstCells i.size n (.slice (some ⟨g, 0, none⟩) n cap)).run P w.drew = .ok xs.toArray w.drew := run_firstCells_some w.drew i.size n ⟨g, 0, none⟩ n cap xs hown.1 (by simpa using holds)
      have hr := run_append_grow_src (P := P) w t tx ty e i z ht hi hz (some ⟨g, 0, none⟩) n cap xs hold x m news hs (by omega) (by omega) (growslice_fits (by omega) hbytes)
      have hgr := grown cap (by omega) (Value.ownBlock (.slice (some ⟨g, 0, none⟩) n cap))
      exact ⟨_, _, hr, hgr.1, hgr.2, fun b hb => .inr (by cases hb; exact Nat.le_refl _)⟩

theorem wp_app {o : Oper} {a : Act} {K : Act → World → Prop} {Q : Exit → Act → World → Prop} (s x : Operand) (t tx : TypeId)
    (ho : o.op = .call { callee := .builtin .append, args := #[s, x], argTypes := #[t, tx] })
    (base : Nat) (e : TypeId) (i : TypeInfo) (z : Value) (size bytes : Nat) (ht : P.underlying t = some (.slice e)) (hi : P.info? e = some i) (hz : i.zero = some z)
    (hsize : i.size = size) (hby : i.bytes = bytes) (hzs : z.cells.size = size) (hsz : 0 < size)
    (v : Value) (n : Nat) (xs : List Value) (hs : a.eval s = v) (hown : Own w base e size v n xs)
    (u : Value) (m : Nat) (news : List Value) (hx : a.eval x = u) (hsrc : Src P size tx u m news w)
    (hbytes : (n + m) * bytes ≤ 140737488355328) (h63 : n + m ≤ 140737488355328) (hbase : base ≤ w.heap.size)
    (h : ∀ v' w', Own w' base e size v' (n + m) (xs ++ news) → w.grownBy w' v.ownBlock → (∀ b, v'.ownBlock = some b → v.ownBlock = some b ∨ w.heap.size ≤ b) → K (a.put o.dst v') w') : o.wp P a w K Q := by
  obtain ⟨v', w', hr, h2, h3, h4⟩ := run_app (P := P) w base t tx o.type e i z size bytes ht hi hz hsize hby hzs hsz v n xs hown u m news hsrc hbytes h63 hbase
  unfold Oper.wp execOp
  simp only [ho, resolve, invoke, builtin, Sem.run_bind, Sem.run_pure, Result.andThen_ok, List.map_toArray, List.map_cons, List.map_nil, hs, hx, hr]
  exact h v' w' h2 h3 h4

theorem step_app {ops : Array Oper} {o : Oper} {a : Act} {K : Act → World → Prop} {Q : Exit → Act → World → Prop} {E : Prop} (hgd : o.guard = none) (s x : Operand) (t tx : TypeId)
    (ho : o.op = .call { callee := .builtin .append, args := #[s, x], argTypes := #[t, tx] })
    (base : Nat) (e : TypeId) (i : TypeInfo) (z : Value) (size bytes : Nat) (ht : P.underlying t = some (.slice e)) (hi : P.info? e = some i) (hz : i.zero = some z)
    (hsize : i.size = size) (hby : i.bytes = bytes) (hzs : z.cells.size = size) (hsz : 0 < size)
    (v : Value) (n : Nat) (xs : List Value) (hs : a.eval s = v) (hown : Own w base e size v n xs)
    (u : Value) (m : Nat) (news : List Value) (hx : a.eval x = u) (hsrc : Src P size tx u m news w)
    (hbytes : (n + m) * bytes ≤ 140737488355328) (h63 : n + m ≤ 140737488355328) (hbase : base ≤ w.heap.size)
    (h : ∀ v' w', Own w' base e size v' (n + m) (xs ++ news) → w.grownBy w' v.ownBlock → (∀ b, v'.ownBlock = some b → v.ownBlock = some b ∨ w.heap.size ≤ b) → K (a.put o.dst v') w') :
    if Region.wanted o (yielded ops a.tmps) = true then Oper.wp P o a w K Q else E := by
  have hw : Region.wanted o (yielded ops a.tmps) = true := by simp [Region.wanted, hgd]
  rw [if_pos hw]
  exact wp_app w s x t tx ho base e i z size bytes ht hi hz hsize hby hzs hsz v n xs hs hown u m news hx hsrc hbytes h63 hbase h

theorem wpList_app {ops : Array Oper} {rest : List Oper} {o : Oper} {a : Act} {Q : Exit → Act → World → Prop} (hgd : o.guard = none) (s x : Operand) (t tx : TypeId)
    (ho : o.op = .call { callee := .builtin .append, args := #[s, x], argTypes := #[t, tx] })
    (base : Nat) (e : TypeId) (i : TypeInfo) (z : Value) (size bytes : Nat) (ht : P.underlying t = some (.slice e)) (hi : P.info? e = some i) (hz : i.zero = some z)
    (hsize : i.size = size) (hby : i.bytes = bytes) (hzs : z.cells.size = size) (hsz : 0 < size)
    (v : Value) (n : Nat) (xs : List Value) (hs : a.eval s = v) (hown : Own w base e size v n xs)
    (u : Value) (m : Nat) (news : List Value) (hx : a.eval x = u) (hsrc : Src P size tx u m news w)
    (hbytes : (n + m) * bytes ≤ 140737488355328) (h63 : n + m ≤ 140737488355328) (hbase : base ≤ w.heap.size)
    (h : ∀ v' w', Own w' base e size v' (n + m) (xs ++ news) → w.grownBy w' v.ownBlock → (∀ b, v'.ownBlock = some b → v.ownBlock = some b ∨ w.heap.size ≤ b) → wpList P ops Q rest (a.put o.dst v') w') : wpList P ops Q (o :: rest) a w :=
  wpList_plain hgd fun _ hK => wp_app w s x t tx ho base e i z size bytes ht hi hz hsize hby hzs hsz v n xs hs hown u m news hx hsrc hbytes h63 hbase fun v' w' h2 h3 h4 => hK _ _ (h v' w' h2 h3 h4)
end

theorem Src.of_sl {P : Program} {w : World} {sz n : Nat} {v : Value} {cs : List Value} {tx e' : TypeId} (hk : P.underlying tx = some (.slice e')) (h : Sl w sz v n cs) (h1 : ∀ u ∈ cs, u.oneCell' = true) : Src P sz tx v n cs w := by
  obtain ⟨hl, h⟩ := h
  rcases h with ⟨rfl, rfl⟩ | ⟨a, rfl, rfl⟩ | ⟨b, off, cap, rfl, hc, hb, hh⟩
  · have : cs = [] := List.eq_nil_of_length_eq_zero (by simpa using hl)
    subst this
    exact Src.ofNil w hk 0
  · have : cs = [] := List.eq_nil_of_length_eq_zero (by simpa using hl)
    subst this
    exact Src.ofSlice w hk _ 0 0 [] hl (fun j u hj => by simp at hj) h1
  · exact Src.ofSlice w hk _ n cap cs hl (fun j u hj => by rw [Addr.add_lit]; exact hh j u hj) h1
/-- string(b). -/
theorem b2s {P : Program} {w : World} {v : Value} {l : List UInt8} (h : Bs w v l) (src dst e : TypeId) (hs : P.underlying src = some (.slice e)) (he : P.underlying e = some (.int .u8)) (hd : P.underlying dst = some .string) :
    (convert src dst v).run P w = .ok (.string ⟨l.toArray⟩) w := by
  obtain ⟨hl, h⟩ := h
  rcases h with ⟨rfl, h0⟩ | ⟨a, rfl, h0⟩ | ⟨b, off, cap, rfl, hc, hb, hh⟩
  · have : l = [] := List.eq_nil_of_length_eq_zero h0
    subst this
    rw [run_convert_bytes_nil w src e hs he 0 0 dst hd]
    rfl
  · have : l = [] := List.eq_nil_of_length_eq_zero h0
    subst this
    exact run_convert_bytes_back w src dst e a 0 [] hs he hd (fun j hj => by simp at hj)
  · exact run_convert_bytes_back w src dst e _ cap l hs he hd (fun j hj => by rw [Addr.add_lit]; exact hh j _ (bcells_get l j hj))

/-- []byte(s). -/
theorem s2b {P : Program} (w : World) (src dst e : TypeId) (s : ByteArray) {u : TypeDesc} (hs : P.underlying src = some u) (hd : P.underlying dst = some (.slice e)) (he : P.underlying e = some (.int .u8)) (hlen : s.size ≤ 140737488355328) :
    ∃ v w', (convert src dst (.string s)).run P w = .ok v w' ∧ OB w' e w.heap.size v s.data.toList ∧ Kp [] w w' := by
  refine ⟨_, _, Lib.run_convert_string_bytes w src dst e s hs hd he, ⟨by simp, .inr ⟨w.heap.size, _, _, _, by simp, Nat.le_refl _, Lib.bytesWorld_at_new w e s, .inr (Nat.le_refl _), ?_, grownCap_le_maxLen w s.size 0 e (by unfold maxLen; omega), ?_, ?_⟩⟩, ⟨rfl, rfl, rfl, by rw [Lib.bytesWorld_size]; omega, fun k hk _ => Lib.bytesWorld_at_old w e s k hk⟩⟩
  · have := grownCap_ge w s.size 0 e
    simpa using this
  · have := grownCap_ge w s.size 0 e
    have h2 : s.data.size = s.size := rfl
    simp [Lib.bytesCells]
    omega
  · have h2 : s.data.size = s.size := rfl
    simp only [Lib.bytesCells, Array.toList_append, Array.toList_map, Array.toList_replicate, bcells]
    rw [List.take_left' (by simp)]

theorem wp_s2b {P : Program} {o : Oper} {a : Act} {w : World} {K : Act → World → Prop} {Q : Exit → Act → World → Prop} (x : Operand) (src dst e : TypeId) (ho : o.op = .convert src dst x) (s : ByteArray) (hx : a.eval x = .string s)
    {u : TypeDesc} (hs : P.underlying src = some u) (hd : P.underlying dst = some (.slice e)) (he : P.underlying e = some (.int .u8)) (hlen : s.size ≤ 140737488355328)
    (h : ∀ v w', OB w' e w.heap.size v s.data.toList → Kp [] w w' → K (a.put o.dst v) w') : o.wp P a w K Q := by
  obtain ⟨v, w', hr, h1, h2⟩ := s2b w src dst e s hs hd he hlen
  unfold Oper.wp execOp
  simp only [ho, hx, Sem.run_bind, hr, Result.andThen_ok, Sem.run_pure]
  exact h v w' h1 h2

theorem wpList_s2b {P : Program} {ops : Array Oper} {rest : List Oper} {o : Oper} {a : Act} {w : World} {Q : Exit → Act → World → Prop} (hgd : o.guard = none) (x : Operand) (src dst e : TypeId) (ho : o.op = .convert src dst x) (s : ByteArray) (hx : a.eval x = .string s)
    {u : TypeDesc} (hs : P.underlying src = some u) (hd : P.underlying dst = some (.slice e)) (he : P.underlying e = some (.int .u8)) (hlen : s.size ≤ 140737488355328)
    (h : ∀ v w', OB w' e w.heap.size v s.data.toList → Kp [] w w' → wpList P ops Q rest (a.put o.dst v) w') : wpList P ops Q (o :: rest) a w :=
  wpList_plain hgd fun _ hK => wp_s2b x src dst e ho s hx hs hd he hlen fun v w' h1 h2 => hK _ _ (h v w' h1 h2)

/-- A new variable of a type with many cells. -/
theorem wpList_var {P : Program} {ops : Array Oper} {rest : List Oper} {o : Oper} {a : Act} {w : World} {Q : Exit → Act → World → Prop} (hgd : o.guard = none) (T : TypeId) (ho : o.op = .alloc T) (i : TypeInfo) (z : Value) (cs : Array Value)
    (hi : P.info? T = some i) (hz : i.zero = some z) (hcs : z.cells = cs)
    (h : ∀ w', w'.heap[w.heap.size]? = some (.cells cs T (0, 0)) → Kp [] w w' → w'.heap.size = w.heap.size + 1 → wpList P ops Q rest (a.put o.dst (.pointer (some ⟨w.heap.size, 0, none⟩))) w') : wpList P ops Q (o :: rest) a w := by
  refine wpList_plain hgd fun K hK => ?_
  have h' := hK _ _ (h (w.alloc (.cells cs T)) (heap_alloc_new w _) ((Kp.refl [] w).alloc _) (World.size_alloc _ _))
  unfold Oper.wp execOp
  simp only [ho]
  have hr : (Instr.alloc T true (.tuple #[])).run P w = .ok (.pointer (some ⟨w.heap.size, 0, none⟩)) (w.alloc (.cells cs T)) := by
    simp [Instr.alloc, zeroValue, typeInfo, hi, hz, newVar, newRow, hcs]
  simp only [Sem.run_bind, hr, Result.andThen_ok, Sem.run_pure]
  exact h'
/-- A walk stops at an append: its law is given there by hand. -/
def Stop (p : Prop) : Prop := p
theorem stop_app {P : Program} {ops : Array Oper} {rest : List Oper} {o d t p g : _} {x : _} {y : _} {a : Act} {w : World} {Q : Exit → Act → World → Prop} (h : Stop (wpList P ops Q ({ dst := d, op := .call { callee := .builtin .append, args := x, argTypes := y }, type := t, pos := p, after := o, guard := g } :: rest) a w)) :
  wpList P ops Q ({ dst := d, op := .call { callee := .builtin .append, args := x, argTypes := y }, type := t, pos := p, after := o, guard := g } :: rest) a w := h
end Go.Proofs.YtddpefbpiehgeaaDoor

/- Plain: 32-bit words, the digest of bytes as the two texts make it. -/
namespace Go.Proofs.YtddpefbpiehgeaaDoor
open Go Go.RowKit

/-- A word as a value. -/
def w32 (x : UInt32) : Value := .int .u32 (x.toNat : Int)

def rotr (x : UInt32) (s : Nat) : UInt32 := x <<< UInt32.ofNat (32 - s) ||| x >>> UInt32.ofNat s

theorem u32_lt (x : UInt32) : x.toNat < 4294967296 := x.toNat_lt
theorem u32_xor_v (x y : UInt32) : bits .xor .u32 (x.toNat : Int) (y.toNat : Int) = ((x ^^^ y).toNat : Int) := by
  rw [u32_xor_nat _ _ (u32_lt x) (u32_lt y), UInt32.toNat_xor]
theorem u32_and_v (x y : UInt32) : bits .and .u32 (x.toNat : Int) (y.toNat : Int) = ((x &&& y).toNat : Int) := by
  rw [u32_and_nat _ _ (u32_lt x) (u32_lt y), UInt32.toNat_and]
theorem u32_or_v (x y : UInt32) : bits .or .u32 (x.toNat : Int) (y.toNat : Int) = ((x ||| y).toNat : Int) := by
  rw [u32_or_nat _ _ (u32_lt x) (u32_lt y), UInt32.toNat_or]
theorem u32_add_v (x y : UInt32) : IntKind.u32.wrap ((x.toNat : Int) + (y.toNat : Int)) = ((x + y).toNat : Int) := by
  rw [IntKind.wrap_u32, UInt32.toNat_add]
  simp
theorem u32_wrap_v (x : UInt32) : IntKind.u32.wrap (x.toNat : Int) = (x.toNat : Int) := IntWalk.u32_in _ (by have := u32_lt x; omega)
theorem u32_of (n : Nat) (h : n < 4294967296) : ((UInt32.ofNat n).toNat : Int) = n := by
  rw [UInt32.toNat_ofNat']
  exact_mod_cast congrArg Nat.cast (Nat.mod_eq_of_lt h)
theorem u32_shl (x : UInt32) (k : Nat) (h : k < 32) : ((x <<< UInt32.ofNat k).toNat : Int) = (x.toNat : Int) * 2 ^ k % 4294967296 := by
  rw [UInt32.toNat_shiftLeft, UInt32.toNat_ofNat']
  have h1 : k % 2 ^ 32 % 32 = k := by omega
  rw [h1, Nat.shiftLeft_eq]
  simp
theorem u32_shr (x : UInt32) (k : Nat) (h : k < 32) : ((x >>> UInt32.ofNat k).toNat : Int) = (x.toNat : Int) / 2 ^ k := by
  rw [UInt32.toNat_shiftRight, UInt32.toNat_ofNat']
  have h1 : k % 2 ^ 32 % 32 = k := by omega
  rw [h1, Nat.shiftRight_eq_div_pow]
  simp
theorem rot_v (x : UInt32) (s : Nat) (h1 : 1 ≤ s) (h31 : s ≤ 31) : bits BinOp.or IntKind.u32 ((x.toNat : Int) * 2 ^ (32 - s) % 4294967296) ((x.toNat : Int) / 2 ^ s) = ((rotr x s).toNat : Int) := by
  rw [← u32_shl x (32 - s) (by omega), ← u32_shr x s (by omega), u32_or_v]
  rfl
theorem rot_and (s : Nat) (h1 : 1 ≤ s) (h31 : s ≤ 31) : bits BinOp.and IntKind.u64 (IntKind.u64.wrap (-(s : Int))) 31 = 32 - s := by
  have h : ∀ s ∈ List.range' 1 31, bits BinOp.and IntKind.u64 (IntKind.u64.wrap (-(s : Int))) 31 = 32 - (s : Int) := by decide +kernel
  exact h s (by rw [List.mem_range'_1]; omega)

def sig0 (x : UInt32) : UInt32 := rotr x 7 ^^^ rotr x 18 ^^^ x >>> 3
def sig1 (x : UInt32) : UInt32 := rotr x 17 ^^^ rotr x 19 ^^^ x >>> 10

theorem add4_v (a b c d : UInt32) : ((a.toNat : Int) + (b.toNat : Int) + (c.toNat : Int) + (d.toNat : Int)) % 4294967296 = ((a + b + c + d).toNat : Int) := by
  simp [UInt32.toNat_add]
theorem big1_v (x : UInt32) : bits BinOp.xor IntKind.u32 (bits BinOp.xor IntKind.u32 ((rotr x 6).toNat : Int) ((rotr x 11).toNat : Int)) ((rotr x 25).toNat : Int) = ((rotr x 6 ^^^ rotr x 11 ^^^ rotr x 25).toNat : Int) := by
  rw [u32_xor_v, u32_xor_v]
theorem big0_v (x : UInt32) : bits BinOp.xor IntKind.u32 (bits BinOp.xor IntKind.u32 ((rotr x 2).toNat : Int) ((rotr x 13).toNat : Int)) ((rotr x 22).toNat : Int) = ((rotr x 2 ^^^ rotr x 13 ^^^ rotr x 22).toNat : Int) := by
  rw [u32_xor_v, u32_xor_v]
theorem u32_add_m (x y : UInt32) : ((x.toNat : Int) + (y.toNat : Int)) % 4294967296 = ((x + y).toNat : Int) := by simp [UInt32.toNat_add]
theorem u32_not_v (x : UInt32) : bits BinOp.xor IntKind.u32 (if IntKind.u32.signed = true then -1 else IntKind.u32.max) (x.toNat : Int) = ((~~~x).toNat : Int) := by
  have h : (if IntKind.u32.signed = true then -1 else IntKind.u32.max) = ((0xFFFFFFFF : UInt32).toNat : Int) := rfl
  rw [h, u32_xor_v]
  congr 2

theorem t_v (h s e f g k w : UInt32) :
    IntKind.u32.wrap (IntKind.u32.wrap (IntKind.u32.wrap (IntKind.u32.wrap ((h.toNat : Int) + (s.toNat : Int)) + bits BinOp.xor IntKind.u32 (bits BinOp.and IntKind.u32 (e.toNat : Int) (f.toNat : Int)) (bits BinOp.and IntKind.u32 (bits BinOp.xor IntKind.u32 (if IntKind.u32.signed = true then -1 else IntKind.u32.max) (e.toNat : Int)) (g.toNat : Int))) + (k.toNat : Int)) + (w.toNat : Int)) =
      ((h + s + ((e &&& f) ^^^ (~~~e &&& g)) + k + w).toNat : Int) := by
  rw [u32_not_v, u32_and_v, u32_and_v, u32_xor_v, u32_add_v, u32_add_v, u32_add_v, u32_add_v]
theorem sig0_v (x : UInt32) : bits BinOp.xor IntKind.u32 (bits BinOp.xor IntKind.u32 ((rotr x 7).toNat : Int) ((rotr x 18).toNat : Int)) ((x.toNat : Int) / 8) = ((sig0 x).toNat : Int) := by
  have h := u32_shr x 3 (by omega)
  have h2 : (x.toNat : Int) / 8 = ((x >>> UInt32.ofNat 3).toNat : Int) := h.symm
  rw [h2, u32_xor_v, u32_xor_v]
  rfl
theorem sig1_v (x : UInt32) : bits BinOp.xor IntKind.u32 (bits BinOp.xor IntKind.u32 ((rotr x 17).toNat : Int) ((rotr x 19).toNat : Int)) ((x.toNat : Int) / 1024) = ((sig1 x).toNat : Int) := by
  have h := u32_shr x 10 (by omega)
  have h2 : (x.toNat : Int) / 1024 = ((x >>> UInt32.ofNat 10).toNat : Int) := h.symm
  rw [h2, u32_xor_v, u32_xor_v]
  rfl

/-- Bytes into a word, the highest first. -/
def word (l : List UInt8) : UInt32 := l.foldl (fun x c => x <<< 8 ||| UInt32.ofNat c.toNat) 0

/-- A block's first n words. -/
def spr (b : List UInt8) : Nat → List UInt32
  | 0 => []
  | n + 1 => spr b n ++ [if n < 16 then word ((b.drop (4 * n)).take 4) else
      (spr b n).getD (n - 16) 0 + sig0 ((spr b n).getD (n - 15) 0) + (spr b n).getD (n - 7) 0 + sig1 ((spr b n).getD (n - 2) 0)]
@[simp] theorem spr_length (b : List UInt8) : ∀ n, (spr b n).length = n
  | 0 => rfl
  | n + 1 => by simp [spr, spr_length b n]

theorem word_or (x : UInt32) (c : UInt8) : bits BinOp.or IntKind.u32 (IntKind.u32.wrap ((x.toNat : Int) * 256)) (IntKind.u32.wrap (c.toNat : Int)) = ((x <<< 8 ||| UInt32.ofNat c.toNat).toNat : Int) := by
  have h1 : IntKind.u32.wrap ((x.toNat : Int) * 256) = ((x <<< 8).toNat : Int) := by
    have := u32_shl x 8 (by omega)
    rw [IntKind.wrap_u32]
    exact this.symm
  have hc := c.toNat_lt
  have h2 : IntKind.u32.wrap (c.toNat : Int) = ((UInt32.ofNat c.toNat).toNat : Int) := by
    rw [u32_of _ (by omega)]
    exact IntWalk.u32_in _ (by omega)
  rw [h1, h2, u32_or_v]

theorem word_or' (x : UInt32) (c : UInt8) : bits BinOp.or IntKind.u32 ((x.toNat : Int) * 256 % 4294967296) ((c.toNat : Int) % 4294967296) = ((x <<< 8 ||| UInt32.ofNat c.toNat).toNat : Int) := by
  have := word_or x c
  rwa [IntKind.wrap_u32, IntKind.wrap_u32] at this
theorem word_snoc (l : List UInt8) (c : UInt8) : word (l ++ [c]) = word l <<< 8 ||| UInt32.ofNat c.toNat := by simp [word]
theorem word_step (q : List UInt8) (j : Nat) (h : j < q.length) : word (q.take (j + 1)) = word (q.take j) <<< 8 ||| UInt32.ofNat (q.getD j 0).toNat := by
  rw [List.take_succ_eq_append_getElem h, word_snoc]
  simp [h]

/-- A row of 64 words, of which the first ones are known. -/
def zpad (l : List UInt32) : List UInt32 := l ++ List.replicate (64 - l.length) 0
theorem zpad_length (l : List UInt32) (h : l.length ≤ 64) : (zpad l).length = 64 := by simp [zpad]; omega
theorem zpad_set (l : List UInt32) (x : UInt32) (h : l.length < 64) : (zpad l).set l.length x = zpad (l ++ [x]) := by
  unfold zpad
  rw [List.set_append_right _ _ (Nat.le_refl _), Nat.sub_self, show 64 - l.length = (64 - (l ++ [x]).length) + 1 by simp; omega, List.replicate_succ]
  simp
theorem zpad_zero (l : List UInt32) (h : l.length < 64) : (zpad l).set l.length 0 = zpad l := by
  rw [zpad_set l 0 h]
  unfold zpad
  rw [show 64 - l.length = (64 - (l ++ [0]).length) + 1 by simp; omega, List.replicate_succ]
  simp
theorem zpad_get (l : List UInt32) (i : Nat) (h : i < l.length) (h2 : i < (zpad l).length) : (zpad l)[i] = l.getD i 0 := by
  simp [zpad, List.getElem_append_left h, h]
theorem zpad_full (l : List UInt32) (h : l.length = 64) : zpad l = l := by simp [zpad, h]

/-- Eight words. -/
structure W8 where
  a : UInt32
  b : UInt32
  c : UInt32
  d : UInt32
  e : UInt32
  f : UInt32
  g : UInt32
  h : UInt32
def W8.list (x : W8) : List UInt32 := [x.a, x.b, x.c, x.d, x.e, x.f, x.g, x.h]
/-- Words as cells. -/
def arr (l : List UInt32) : Array Value := (l.map w32).toArray
theorem arr_get (l : List UInt32) (i : Nat) (h : i < l.length) : (arr l)[i]? = some (w32 l[i]) := by simp [arr, h]
theorem arr_set (l : List UInt32) (i : Nat) (x : UInt32) : (arr l).setIfInBounds i (w32 x) = arr (l.set i x) := by simp [arr, List.map_set]
def W8.vals (x : W8) : Array Value := arr x.list

def rnd (x : W8) (k w : UInt32) : W8 :=
  let t := x.h + (rotr x.e 6 ^^^ rotr x.e 11 ^^^ rotr x.e 25) + ((x.e &&& x.f) ^^^ (~~~x.e &&& x.g)) + k + w
  let u := (rotr x.a 2 ^^^ rotr x.a 13 ^^^ rotr x.a 22) + ((x.a &&& x.b) ^^^ (x.a &&& x.c) ^^^ (x.b &&& x.c))
  ⟨t + u, x.a, x.b, x.c, x.d + t, x.e, x.f, x.g⟩
def add8 (x y : W8) : W8 := ⟨x.a + y.a, x.b + y.b, x.c + y.c, x.d + y.d, x.e + y.e, x.f + y.f, x.g + y.g, x.h + y.h⟩

/-- A block's rounds. -/
def rounds (ks ws : List UInt32) (x : W8) : Nat → W8
  | 0 => x
  | n + 1 => rnd (rounds ks ws x n) (ks.getD n 0) (ws.getD n 0)
def chg (ks : List UInt32) (x : W8) (b : List UInt8) : W8 := add8 x (rounds ks (spr b 64) x 64)
theorem add_add_m (x y z : UInt32) : ((x.toNat : Int) + ((y.toNat : Int) + (z.toNat : Int))) % 4294967296 = ((x + (y + z)).toNat : Int) := by simp [UInt32.toNat_add]
theorem rnd_vals (X : W8) (kn ln S1 T : UInt32) (hS : rotr X.e 6 ^^^ rotr X.e 11 ^^^ rotr X.e 25 = S1) (hT : X.h + S1 + ((X.e &&& X.f) ^^^ (~~~X.e &&& X.g)) + kn + ln = T) :
    #[Value.int .u32 (((T.toNat : Int) + (bits BinOp.xor IntKind.u32 (bits BinOp.xor IntKind.u32 ((rotr X.a 2).toNat : Int) ((rotr X.a 13).toNat : Int)) ((rotr X.a 22).toNat : Int) +
        bits BinOp.xor IntKind.u32 (bits BinOp.xor IntKind.u32 (bits BinOp.and IntKind.u32 (X.a.toNat : Int) (X.b.toNat : Int)) (bits BinOp.and IntKind.u32 (X.a.toNat : Int) (X.c.toNat : Int))) (bits BinOp.and IntKind.u32 (X.b.toNat : Int) (X.c.toNat : Int)))) % 4294967296),
      .int .u32 (X.a.toNat : Int), .int .u32 (X.b.toNat : Int), .int .u32 (X.c.toNat : Int), .int .u32 (((X.d.toNat : Int) + (T.toNat : Int)) % 4294967296), .int .u32 (X.e.toNat : Int), .int .u32 (X.f.toNat : Int), .int .u32 (X.g.toNat : Int)] = (rnd X kn ln).vals := by
  rw [big0_v, u32_and_v, u32_and_v, u32_and_v, u32_xor_v, u32_xor_v, add_add_m, u32_add_m]
  subst hS
  subst hT
  rfl
theorem add8_get (x y : W8) (i : Nat) (h : i < 8) : (add8 x y).list.getD i 0 = x.list.getD i 0 + y.list.getD i 0 := by
  match i, h with
  | 0, _ | 1, _ | 2, _ | 3, _ | 4, _ | 5, _ | 6, _ | 7, _ => rfl
/-- The first words are summed. -/
def half8 (x y : W8) (n : Nat) : List UInt32 := (add8 x y).list.take n ++ x.list.drop n
theorem half8_length (x y : W8) (n : Nat) (h : n ≤ 8) : (half8 x y n).length = 8 := by simp [half8, W8.list]; omega
theorem half8_zero (x y : W8) : half8 x y 0 = x.list := by simp [half8]
theorem half8_full (x y : W8) : half8 x y 8 = (add8 x y).list := by simp [half8, W8.list]
theorem half8_at (x y : W8) (n : Nat) (h : n < 8) (h2 : n < (half8 x y n).length) : (half8 x y n)[n] = x.list.getD n 0 := by
  match n, h with
  | 0, _ | 1, _ | 2, _ | 3, _ | 4, _ | 5, _ | 6, _ | 7, _ => rfl
theorem half8_set (x y : W8) (n : Nat) (h : n < 8) : (half8 x y n).set n (x.list.getD n 0 + y.list.getD n 0) = half8 x y (n + 1) := by
  match n, h with
  | 0, _ | 1, _ | 2, _ | 3, _ | 4, _ | 5, _ | 6, _ | 7, _ => rfl
end Go.Proofs.YtddpefbpiehgeaaDoor

/- A region that draws its order, walked along a plan: what only reads is taken first, in worlds that agree on some blocks; what writes comes where it must. -/
namespace Go.Proofs.YtddpefbpiehgeaaDoor
open Go Go.RowKit

/-- Worlds that agree with w0 on the blocks of L. -/
structure Ag (w0 : World) (L : List Nat) where
  w : World
  ag : ∀ b ∈ L, w.heap[b]? = w0.heap[b]?
instance (w0 : World) (L : List Nat) : Nonempty (Ag w0 L) := ⟨⟨w0, fun _ _ => rfl⟩⟩
theorem Ag.cell {w0 : World} {L : List Nat} (u : Ag w0 L) (b o : Nat) (h : b ∈ L) : u.w.cell? ⟨b, o, none⟩ = w0.cell? ⟨b, o, none⟩ := World.cell?_of_block (a := ⟨b, o, none⟩) (u.ag b h)
theorem Ag.frozen {w0 : World} {L : List Nat} (u : Ag w0 L) (b o : Nat) (h : b ∈ L) : u.w.frozen? ⟨b, o, none⟩ = w0.frozen? ⟨b, o, none⟩ := World.frozen?_of_block (a := ⟨b, o, none⟩) (u.ag b h)
theorem Ag.heap {w0 : World} {L : List Nat} (u : Ag w0 L) (b : Nat) (h : b ∈ L) : u.w.heap[b]? = w0.heap[b]? := u.ag b h
attribute [go_sem] Ag.cell Ag.frozen Ag.heap
def Gr (w0 : World) (L : List Nat) (w' : World) : Prop := ∃ u : Ag w0 L, w' = u.w
theorem Gr.of {w0 w' : World} {L : List Nat} (h : ∀ b ∈ L, w'.heap[b]? = w0.heap[b]?) : Gr w0 L w' := ⟨⟨w', h⟩, rfl⟩

inductive Plan where
  | Z
  | H (i : Nat) (p : Plan)
  | E (i : Nat) (s : Bool) (p : Plan)
  | B (i : Nat) (s : Bool) (p : Plan) (j : Nat) (t : Bool) (q : Plan)

section
variable {P : Program} {ops : Array Oper} {Q : Exit → Act → World → Prop} {md : Region.Mode} {S : World → Prop}

def Plan.helds : Plan → List Nat
  | .Z => []
  | .H i p => i :: p.helds
  | .E _ _ p => p.helds
  | .B _ _ p _ _ q => p.helds ++ q.helds

def Plan.depth : Plan → Nat
  | .Z => 0
  | .H _ p => p.depth + 1
  | .E _ _ p => p.depth + 1
  | .B _ _ p _ _ _ => p.depth + 1

/-- Of each operation: the mask of those that it waits for, through others too. -/
def masks (md : Region.Mode) : List Oper → List Nat → List Nat
  | [], acc => acc
  | o :: l, acc => masks md l (acc ++ [o.after.toList.foldl (fun s e => if Region.binds md e then s ||| 2 ^ e.on ||| acc.getD e.on 0 else s) 0])

def needs (ms : List Nat) (hs : List Nat) (i : Nat) : Bool := hs.any fun h => !(ms.getD i 0).testBit h

def Plan.ok (md : Region.Mode) (ops : Array Oper) (ms hs : List Nat) : Plan → Array Bool → Bool
  | .Z, listed => (Region.ready md ops listed).isEmpty
  | .H i p, listed => (Region.ready md ops listed).contains i && Region.free md ops listed i && hs.contains i && p.ok md ops ms hs (listed.setIfInBounds i true)
  | .E i s p, listed => decide (Region.ready md ops listed = [i]) && (s || !needs ms hs i) && p.ok md ops ms hs (listed.setIfInBounds i true)
  | .B i s p j t q, listed => decide (Region.ready md ops listed = [i, j]) && decide (p.depth = q.depth) && (s || !needs ms hs i) && (t || !needs ms hs j) && p.ok md ops ms hs (listed.setIfInBounds i true) && q.ok md ops ms hs (listed.setIfInBounds j true)

def Plan.good (ops : Array Oper) (p : Plan) : Bool :=
  Region.noSelect ops && decide (p.depth = ops.size) && p.ok .any ops (masks .any ops.toList []) p.helds (Array.replicate ops.size false)

def wpPlan (P : Program) (ops : Array Oper) (Q : Exit → Act → World → Prop) (S : World → Prop) : Plan → Act → World → Prop
  | .Z, a, w => Q .normal a w
  | .H i p, a, w => ∃ o, ops[i]? = some o ∧ ∃ v, YieldsIf P ops S o v a ∧ S w ∧ wpPlan P ops Q S p (a.put o.dst v) w
  | .E i s p, a, w => wpOp P ops Q i (fun a' w' => (s = true → S w') ∧ wpPlan P ops Q S p a' w') a w
  | .B i s p j t q, a, w => wpOp P ops Q i (fun a' w' => (s = true → S w') ∧ wpPlan P ops Q S p a' w') a w ∧ wpOp P ops Q j (fun a' w' => (t = true → S w') ∧ wpPlan P ops Q S q a' w') a w

/-- Whatever order; S is asked behind those that need it. -/
def wpAnyN (P : Program) (md : Region.Mode) (ops : Array Oper) (Q : Exit → Act → World → Prop) (S : World → Prop) (nd : Nat → Bool) : Nat → Array Bool → Act → World → Prop
  | 0, listed, a, w => Region.ready md ops listed = [] ∧ Q .normal a w
  | fuel + 1, listed, a, w =>
    (Region.ready md ops listed = [] → Q .normal a w) ∧
    ∀ i ∈ Region.ready md ops listed, wpOp P ops Q i (fun a' w' => (nd i = true → S w') ∧ wpAnyN P md ops Q S nd fuel (listed.setIfInBounds i true) a' w') a w

theorem wpAny_of_N {nd : Nat → Bool} : ∀ (fuel : Nat) (listed : Array Bool) (a : Act) (w : World), wpAnyN P md ops Q S nd fuel listed a w → wpAny P md ops Q fuel listed a w
  | 0, _, _, _, h => h
  | fuel + 1, _, _, _, h => ⟨h.1, fun i hi => wpOp_mono (fun a' w' h' => wpAny_of_N fuel _ a' w' h'.2) (h.2 i hi)⟩

/-- What is listed is closed. -/
def Closed (md : Region.Mode) (ops : Array Oper) (listed : Array Bool) : Prop :=
  ∀ j oj, ops[j]? = some oj → listed.getD j false = true → ∀ e ∈ oj.after, Region.binds md e = true → listed.getD e.on false = true

theorem Closed.set {i : Nat} {listed : Array Bool} (inv : Closed md ops listed) (hi : i ∈ Region.ready md ops listed) : Closed md ops (listed.setIfInBounds i true) := by
  obtain ⟨_, oi, hoi, hall⟩ := mem_ready.1 hi
  intro j oj hj hl e he hb
  by_cases hij : i = j
  · subst hij
    have : oj = oi := Option.some.inj (hj.symm.trans hoi)
    subst this
    exact getD_set_true (hall e he hb)
  · rw [getD_set_ne false hij] at hl
    exact getD_set_true (inv j oj hj hl e he hb)

/-- A mask is right for operation j. -/
def MaskOf (md : Region.Mode) (ops : Array Oper) (j m : Nat) : Prop :=
  ∀ i, m.testBit i = true → ∀ listed, Closed md ops listed → (∀ oj, ops[j]? = some oj → ∀ e ∈ oj.after, Region.binds md e = true → listed.getD e.on false = true) → listed.getD i false = true

theorem fold_bits (md : Region.Mode) (acc : List Nat) (i : Nat) : ∀ (l : List Edge) (s : Nat),
    (l.foldl (fun s e => if Region.binds md e then s ||| 2 ^ e.on ||| acc.getD e.on 0 else s) s).testBit i = true →
    s.testBit i = true ∨ ∃ e ∈ l, Region.binds md e = true ∧ (e.on = i ∨ (acc.getD e.on 0).testBit i = true)
  | [], s, h => .inl h
  | e :: l, s, h => by
    rw [List.foldl_cons] at h
    rcases fold_bits md acc i l _ h with h | ⟨e', he', h'⟩
    · by_cases hb : Region.binds md e = true
      · rw [if_pos hb] at h
        simp only [Nat.testBit_or, Bool.or_eq_true] at h
        rcases h with (h | h) | h
        · exact .inl h
        · rw [Nat.testBit_two_pow] at h
          exact .inr ⟨e, by simp, hb, .inl (by simpa using h)⟩
        · exact .inr ⟨e, by simp, hb, .inr h⟩
      · rw [if_neg hb] at h
        exact .inl h
    · exact .inr ⟨e', by simp [he'], h'⟩

theorem masks_right : ∀ (l : List Oper) (acc : List Nat), (∀ j, l[j]? = ops[acc.length + j]?) → (∀ j m, acc[j]? = some m → MaskOf md ops j m) →
    ∀ j m, (masks md l acc)[j]? = some m → MaskOf md ops j m
  | [], _, _, h => h
  | o :: l, acc, hl, h => by
    have h0 : ops[acc.length]? = some o := by simpa using (hl 0).symm
    refine masks_right l _ (fun j => ?_) (fun j m hj => ?_)
    · have := hl (j + 1)
      simpa [Nat.add_assoc, Nat.add_comm 1 j] using this
    · by_cases hjl : j < acc.length
      · rw [List.getElem?_append_left hjl] at hj
        exact h j m hj
      · by_cases hje : j = acc.length
        · subst hje
          rw [List.getElem?_append_right (Nat.le_refl _), Nat.sub_self] at hj
          simp only [List.getElem?_cons_zero, Option.some.injEq] at hj
          intro i hi listed hc hd
          rw [← hj] at hi
          rcases fold_bits md acc i _ _ hi with h1 | ⟨e, he, hb, h1⟩
          · simp at h1
          · have hel := hd o h0 e (by simpa using he) hb
            rcases h1 with h1 | h1
            · rw [← h1]; exact hel
            · cases hq : acc[e.on]? with
              | none => simp [List.getD, hq] at h1
              | some q =>
                simp only [List.getD, hq, Option.getD_some] at h1
                exact h e.on q hq i h1 listed hc (fun oj hoj e' he' hb' => hc e.on oj hoj hel e' he' hb')
        · rw [List.getElem?_eq_none (by simp; omega)] at hj
          cases hj

theorem needs_spec {ms hs : List Nat} (hm : ∀ j m, ms[j]? = some m → MaskOf md ops j m) {i j : Nat} {listed : Array Bool} (hc : Closed md ops listed) (hj : j ∈ Region.ready md ops listed)
    (hi : i ∈ hs) (hun : listed.getD i false = false) : needs ms hs j = true := by
  rw [needs, List.any_eq_true]
  refine ⟨i, hi, ?_⟩
  rw [Bool.not_eq_true']
  cases hb : (ms.getD j 0).testBit i with
  | false => rfl
  | true =>
    cases hq : ms[j]? with
    | none => simp [List.getD, hq] at hb
    | some q =>
      simp only [List.getD, hq, Option.getD_some] at hb
      obtain ⟨_, oj, hoj, hall⟩ := mem_ready.1 hj
      have := hm j q hq i hb listed hc (fun oj' hoj' => by cases hoj.symm.trans hoj'; exact hall)
      rw [hun] at this
      cases this

theorem getD_in' {listed : Array Bool} {i : Nat} (h : listed.getD i true = false) : listed.getD i false = false := by
  rcases Nat.lt_or_ge i listed.size with h' | h'
  · simp [h'] at h ⊢; exact h
  · simp [Array.getElem?_eq_none h'] at h

theorem wpAnyN_first {nd : Nat → Bool} {i : Nat} {oi : Oper} {v : Value} (hi : ops[i]? = some oi) (hsel : ∀ (j : Nat) (o : Oper) cs b, ops[j]? = some o → o.op ≠ .select cs b)
    (hQ : ∀ c a w, Q (.panic c) (a.put oi.dst v) w → Q (.panic c) a w)
    (hnd : ∀ listed j, Closed md ops listed → i ∈ Region.ready md ops listed → j ∈ Region.ready md ops listed → j ≠ i → nd j = true) :
    ∀ (fuel : Nat) (listed : Array Bool) (a : Act) (w : World), Closed md ops listed →
      (∀ j oj, ops[j]? = some oj → j ≠ i → listed.getD j true = false → (∀ e ∈ oj.after, Region.binds md e = true → e.on ≠ i) → oi.apart ops oj = true) →
      i ∈ Region.ready md ops listed → YieldsIf P ops S oi v a → S w →
      wpAnyN P md ops Q S nd fuel (listed.setIfInBounds i true) (a.put oi.dst v) w → wpAnyN P md ops Q S nd (fuel + 1) listed a w := by
  intro fuel
  induction fuel with
  | zero =>
    intro listed a w _ _ hr hy hS H
    refine ⟨fun h => (by rw [h] at hr; cases hr), fun j hj => ?_⟩
    by_cases hji : j = i
    · subst hji; exact hy.wpOp hi hS ⟨fun _ => hS, H⟩
    · have := ready_mono hj hji
      rw [H.1] at this
      cases this
  | succ fuel ih =>
    intro listed a w hc hfree hr hy hS H
    refine ⟨fun h => (by rw [h] at hr; cases hr), fun j hj => ?_⟩
    by_cases hji : j = i
    · subst hji; exact hy.wpOp hi hS ⟨fun _ => hS, H⟩
    · have h1 := H.2 j (ready_mono hj hji)
      have hn := hnd listed j hc hr hj hji
      obtain ⟨hjun, oj, hoj, hall⟩ := mem_ready.1 hj
      have hnot : ∀ e ∈ oj.after, Region.binds md e = true → e.on ≠ i := fun e he hb heq => by
        have h1 := hall e he hb
        have h0 := (mem_ready.1 hr).1
        rw [heq] at h1
        rcases Nat.lt_or_ge i listed.size with h' | h'
        · simp [h'] at h0 h1; rw [h0] at h1; cases h1
        · simp [Array.getElem?_eq_none h'] at h1
      have h2 := wpOp_putIf hoj (hfree j oj hoj hji hjun hnot) (fun cs b => hsel i oi cs b hi) (fun cs b => hsel j oj cs b hoj) hQ hy h1
      have hfree' : ∀ k ok, ops[k]? = some ok → k ≠ i → (listed.setIfInBounds j true).getD k true = false →
          (∀ e ∈ ok.after, Region.binds md e = true → e.on ≠ i) → oi.apart ops ok = true := fun k ok hk hki hun hno => by
        refine hfree k ok hk hki ?_ hno
        by_cases hjk : j = k
        · subst hjk; exact hjun
        · rw [getD_set_ne true hjk] at hun; exact hun
      refine wpOp_mono (fun a' w' h3 => ⟨h3.2.1, ih (listed.setIfInBounds j true) a' w' (hc.set hj) hfree' (ready_mono hr (Ne.symm hji)) h3.1 (h3.2.1 hn) ?_⟩) h2
      rw [Array.setIfInBounds_comm _ _ hji]
      exact h3.2.2

theorem anyN_of_plan {ms hs : List Nat} (hm : ∀ j m, ms[j]? = some m → MaskOf md ops j m) (hsel : ∀ (j : Nat) (o : Oper) cs b, ops[j]? = some o → o.op ≠ .select cs b)
    (hQ : ∀ c a x v w, Q (.panic c) (Act.put a x v) w → Q (.panic c) a w) :
    ∀ (p : Plan) (listed : Array Bool) (a : Act) (w : World), Closed md ops listed → p.ok md ops ms hs listed = true → wpPlan P ops Q S p a w →
      wpAnyN P md ops Q S (needs ms hs) p.depth listed a w
  | .Z, listed, a, w, _, hk, h => ⟨by simpa [Plan.ok] using hk, h⟩
  | .H i p, listed, a, w, hc, hk, h => by
    simp only [Plan.ok, Bool.and_eq_true] at hk
    obtain ⟨⟨⟨hr, hf⟩, hh⟩, hk⟩ := hk
    obtain ⟨o, ho, v, hy, hS, h⟩ := h
    have hr' : i ∈ Region.ready md ops listed := by simpa using hr
    refine wpAnyN_first ho hsel (fun c a w => hQ c a o.dst v w) (fun listed' j hc' hi' hj' _ => ?_) p.depth listed a w hc (Region.free_spec ho hf) hr' hy hS (anyN_of_plan hm hsel hQ p _ _ _ (hc.set hr') hk h)
    refine needs_spec hm hc' hj' (by simpa using hh) ?_
    exact getD_in' (mem_ready.1 hi').1
  | .E i s p, listed, a, w, hc, hk, h => by
    simp only [Plan.ok, Bool.and_eq_true, decide_eq_true_eq] at hk
    obtain ⟨⟨hr, hn⟩, hk⟩ := hk
    have hi : i ∈ Region.ready md ops listed := by rw [hr]; simp
    exact ⟨fun h0 => (by rw [h0] at hr; cases hr), fun j hj => by
      rw [hr] at hj
      have : j = i := by simpa using hj
      subst this
      exact wpOp_mono (fun a' w' h' => ⟨fun hb => h'.1 (by rw [hb] at hn; simpa using hn), anyN_of_plan hm hsel hQ p _ a' w' (hc.set hi) hk h'.2⟩) h⟩
  | .B i s p j t q, listed, a, w, hc, hk, h => by
    simp only [Plan.ok, Bool.and_eq_true, decide_eq_true_eq] at hk
    obtain ⟨⟨⟨⟨⟨hr, hd⟩, hn⟩, hn2⟩, hk⟩, hk2⟩ := hk
    have hi : i ∈ Region.ready md ops listed := by rw [hr]; simp
    have hj : j ∈ Region.ready md ops listed := by rw [hr]; simp
    refine ⟨fun h0 => (by rw [h0] at hr; cases hr), fun k hk' => ?_⟩
    rw [hr] at hk'
    rcases List.mem_cons.1 hk' with rfl | hk'
    · exact wpOp_mono (fun a' w' h' => ⟨fun hb => h'.1 (by rw [hb] at hn; simpa using hn), anyN_of_plan hm hsel hQ p _ a' w' (hc.set hi) hk h'.2⟩) h.1
    · have : k = j := by simpa using hk'
      subst this
      refine wpOp_mono (fun a' w' h' => ⟨fun hb => h'.1 (by rw [hb] at hn2; simpa using hn2), ?_⟩) h.2
      have := anyN_of_plan hm hsel hQ q _ a' w' (hc.set hj) hk2 h'.2
      rw [hd]
      exact this

theorem wp_plan {id : Nat} {l : List Oper} {a : Act} {w : World} (p : Plan) (S : World → Prop) (hm : P.follows .mixedOrders = true) (hg : p.good l.toArray = true)
    (h : wpPlan P l.toArray (NoPanic Q) S p a w.drew) : (Code.region id l.toArray true).wp P Q a w := by
  refine wp_region_noPanic ?_
  simp only [Plan.good, Bool.and_eq_true, decide_eq_true_eq] at hg
  obtain ⟨⟨hs, hd⟩, hk⟩ := hg
  refine wp_region_any hm ?_
  have hcl : Closed .any l.toArray (Array.replicate l.toArray.size false) := fun j oj _ hl => by
    rw [getD_replicate_false] at hl; cases hl
  have := anyN_of_plan (P := P) (Q := NoPanic Q) (S := S) (masks_right (md := .any) (ops := l.toArray) l [] (by simp) (by simp)) (Region.noSelect_spec hs) (fun c a x v w h => (h : False).elim) p _ a w.drew hcl hk h
  rw [hd] at this
  exact wpAny_of_N _ _ _ _ this

/-- The same where a panic may come: what the end says of a panic does not look at the temporaries. -/
theorem wp_plan_p {id : Nat} {l : List Oper} {a : Act} {w : World} (p : Plan) (S : World → Prop) (hm : P.follows .mixedOrders = true) (hg : p.good l.toArray = true)
    (hQ : ∀ c a x v w, Q (.panic c) (Act.put a x v) w → Q (.panic c) a w)
    (h : wpPlan P l.toArray Q S p a w.drew) : (Code.region id l.toArray true).wp P Q a w := by
  simp only [Plan.good, Bool.and_eq_true, decide_eq_true_eq] at hg
  obtain ⟨⟨hs, hd⟩, hk⟩ := hg
  refine wp_region_any hm ?_
  have hcl : Closed .any l.toArray (Array.replicate l.toArray.size false) := fun j oj _ hl => by
    rw [getD_replicate_false] at hl; cases hl
  have := anyN_of_plan (P := P) (Q := Q) (S := S) (masks_right (md := .any) (ops := l.toArray) l [] (by simp) (by simp)) (Region.noSelect_spec hs) hQ p _ a w.drew hcl hk h
  rw [hd] at this
  exact wpAny_of_N _ _ _ _ this

/-- An operation that yields one value in all worlds of S. -/
def Held (P : Program) (o : Oper) (a : Act) (S : World → Prop) (next : Act → Prop) : Prop := ∃ v, (∀ w, S w → (execOp a.eval o).run P w = .ok (.value v) w) ∧ next (a.put o.dst v)

theorem plan_H {i : Nat} {p : Plan} {o : Oper} {a : Act} {w : World} (ho : ops[i]? = some o) (hS : S w)
    (h : ∀ K : Act → Prop, (∀ a, wpPlan P ops Q S p a w → K a) → if Region.wanted o (yielded ops a.tmps) then Held P o a S K else K (a.put o.dst undef)) : wpPlan P ops Q S (.H i p) a w := by
  have := h _ (fun _ h => h)
  split at this
  · rename_i hw
    obtain ⟨v, h1, h2⟩ := this
    exact ⟨o, ho, v, .inl ⟨hw, h1⟩, hS, h2⟩
  · rename_i hw
    exact ⟨o, ho, undef, .inr ⟨by simpa using hw, rfl⟩, hS, this⟩

theorem plan_E {i : Nat} {s : Bool} {p : Plan} {o : Oper} {a : Act} {w : World} (ho : ops[i]? = some o)
    (h : ∀ K : Act → World → Prop, (∀ a w, (s = true → S w) → wpPlan P ops Q S p a w → K a w) → if Region.wanted o (yielded ops a.tmps) then o.wp P a w K Q else K (a.put o.dst undef) w) : wpPlan P ops Q S (.E i s p) a w := by
  have := h (fun a' w' => (s = true → S w') ∧ wpPlan P ops Q S p a' w') (fun _ _ h1 h2 => ⟨h1, h2⟩)
  unfold wpPlan wpOp
  simp only [ho]
  split
  · rename_i hw; rw [if_pos hw] at this; exact .inl this
  · rename_i hw; rw [if_neg hw] at this; exact this

theorem plan_B {i : Nat} {s : Bool} {p : Plan} {j : Nat} {t : Bool} {q : Plan} {oi oj : Oper} {a : Act} {w : World} (hi : ops[i]? = some oi) (hj : ops[j]? = some oj)
    (h1 : ∀ K : Act → World → Prop, (∀ a w, (s = true → S w) → wpPlan P ops Q S p a w → K a w) → if Region.wanted oi (yielded ops a.tmps) then oi.wp P a w K Q else K (a.put oi.dst undef) w)
    (h2 : ∀ K : Act → World → Prop, (∀ a w, (t = true → S w) → wpPlan P ops Q S q a w → K a w) → if Region.wanted oj (yielded ops a.tmps) then oj.wp P a w K Q else K (a.put oj.dst undef) w) : wpPlan P ops Q S (.B i s p j t q) a w := by
  have e1 : wpPlan P ops Q S (.E i s p) a w := plan_E hi h1
  have e2 : wpPlan P ops Q S (.E j t q) a w := plan_E hj h2
  exact ⟨e1, e2⟩

theorem plan_Zp {a : Act} {w : World} (h : Q .normal a w) : wpPlan P ops Q S .Z a w := h
theorem plan_Z {a : Act} {w : World} (h : Q .normal a w) : wpPlan P ops (NoPanic Q) S .Z a w := h
end
attribute [go_sem] Held

/-- A region of a deferred call that begins with recover: what stands behind it recovers no more. -/
theorem wpS_recover {P : Program} {Q : Exit → Act → List Frame → World → Prop} {a : Act} {cs cs' : List Frame} {w : World} {id : Nat} {o : Oper} {rest : List Oper} {v : Value}
    (hop : o.op = .call { callee := .builtin .recover, args := #[], argTypes := #[] }) (hgd : o.guard = none)
    (hrec : recoverD cs = some (v, cs') ∨ recoverD cs = none ∧ v = .nilIface ∧ cs' = cs)
    (h : wpList P (o :: rest).toArray (fun e a' w' => Q e a' cs' w') rest (a.put o.dst v) w) : (Code.region id (o :: rest).toArray false).wpS P Q a cs w := by
  intro b k hb hro
  have ho : (o :: rest).toArray[0]? = some o := by simp
  have hw : Region.wanted o (yielded (o :: rest).toArray a.tmps) = true := by simp [Region.wanted, hgd]
  have hrange : List.range (o :: rest).toArray.size = 0 :: List.range' 1 rest.length := by
    rw [List.range_eq_range']; simp [List.range'_succ]
  have hrun : (execOp a.eval o).run P w = .ok .recover w := by unfold execOp; rw [hop]; rfl
  have hg := stepG_op (P := P) (b := b) (k := k) (cs := cs) (w := w) (rest := List.range' 1 rest.length) ho hw
  have hfin : ∀ v, (b.at a (.inRegion (o :: rest).toArray (0 :: List.range' 1 rest.length) :: k)).finish v = b.at (a.put o.dst v) (.inRegion (o :: rest).toArray (List.range' 1 rest.length) :: k) := by
    intro v; rw [Frame.finish_at, ho]; rfl
  have h' : wpOps P (o :: rest).toArray (fun e a' w' => Q e a' cs' w') (List.range' 1 rest.length) (a.put o.dst v) w := by
    rw [wpOps_eq_wpList rest 1 (fun j => by simp [Nat.add_comm 1 j])]; exact h
  obtain ⟨e, a', w', hq, harr⟩ := wp_ops _ _ _ h' b k cs'
  have hk : (b.at a (.inRegion (o :: rest).toArray (0 :: List.range' 1 rest.length) :: k)).kind = .deferred := hb
  have htr := tryRecover_deferred hk cs
  refine ⟨e, a', cs', w', hq, .of_steps (.head step_region ?_) harr⟩
  rw [hrange]
  refine .one (step_lone_go ?_)
  rw [hg, ← hfin]
  simp only [Frame.at] at htr ⊢
  rcases hrec with hrec | ⟨hrec, rfl, rfl⟩
  · simp [stepG.apply, hrun, htr, hrec]
  · simp [stepG.apply, hrun, htr, hrec]
theorem Gr.one {w0 : World} {L : List Nat} {q : World → Prop} : (∀ w, Gr w0 L w → q w) ↔ ∀ u : Ag w0 L, q u.w := ⟨fun h u => h _ ⟨u, rfl⟩, fun h _ ⟨u, e⟩ => e ▸ h u⟩
attribute [go_sem] Gr.one
end Go.Proofs.YtddpefbpiehgeaaDoor

/- The digest: the program's words. -/
namespace Go.Proofs.YtddpefbpiehgeaaDoor
open Go Go.RowKit
set_option maxRecDepth 100000
set_option linter.unusedVariables false
set_option linter.unusedSectionVars false
set_option linter.unusedSimpArgs false

theorem rot_calls (x : UInt32) (s : Nat) (w : World) (h1 : 1 ≤ s) (h31 : s ≤ 31) :
    Calls Tryd.prog 102 #[w32 x, .int .i64 (-(s : Int))] w fun e w' => e = .returned (w32 (rotr x s)) ∧ w = w' := by
  have hlt := u32_lt x
  have hand : bits BinOp.and IntKind.u64 (IntKind.u64.wrap (-(s : Int))) 31 = 32 - s := rot_and s h1 h31
  unfold w32
  go_enter Tryd.func102, Tryd.ntmps102
  go_wp2
  go_ret
  refine ⟨?_, rfl⟩
  simp
  rw [show 32 - (32 - s) = s by omega]
  exact rot_v x s h1 h31

theorem rotk (x : UInt32) (s : Nat) (k : Int) (w : World) (hk : k = -(s : Int)) (h1 : 1 ≤ s) (h31 : s ≤ 31) :
    Calls Tryd.prog 102 #[.int .u32 (x.toNat : Int), .int .i64 k] w fun e w' => e = .returned (.int .u32 ((rotr x s).toNat : Int)) ∧ w = w' := by
  subst hk
  exact rot_calls x s w h1 h31

/-- What the program's tables hold. -/
def initW : List UInt32 := [0x6A09E667, 0xBB67AE85, 0x3C6EF372, 0xA54FF53A, 0x510E527F, 0x9B05688C, 0x1F83D9AB, 0x5BE0CD19]
def kW : List UInt32 := [0x428A2F98, 0x71374491, 0xB5C0FBCF, 0xE9B5DBA5, 0x3956C25B, 0x59F111F1, 0x923F82A4, 0xAB1C5ED5, 0xD807AA98, 0x12835B01, 0x243185BE, 0x550C7DC3, 0x72BE5D74, 0x80DEB1FE, 0x9BDC06A7, 0xC19BF174, 0xE49B69C1, 0xEFBE4786, 0x0FC19DC6, 0x240CA1CC, 0x2DE92C6F, 0x4A7484AA, 0x5CB0A9DC, 0x76F988DA, 0x983E5152, 0xA831C66D, 0xB00327C8, 0xBF597FC7, 0xC6E00BF3, 0xD5A79147, 0x06CA6351, 0x14292967, 0x27B70A85, 0x2E1B2138, 0x4D2C6DFC, 0x53380D13, 0x650A7354, 0x766A0ABB, 0x81C2C92E, 0x92722C85, 0xA2BFE8A1, 0xA81A664B, 0xC24B8B70, 0xC76C51A3, 0xD192E819, 0xD6990624, 0xF40E3585, 0x106AA070, 0x19A4C116, 0x1E376C08, 0x2748774C, 0x34B0BCB5, 0x391C0CB3, 0x4ED8AA4A, 0x5B9CCA4F, 0x682E6FF3, 0x748F82EE, 0x78A5636F, 0x84C87814, 0x8CC70208, 0x90BEFFFA, 0xA4506CEB, 0xBEF9A3F7, 0xC67178F2]
structure GH (w : World) : Prop where
  size : 4 ≤ w.heap.size
  start : ∀ i, i < 8 → w.cell? ⟨0, i, none⟩ = some (w32 (initW.getD i 0))
  rounds : ∀ i, i < 64 → w.cell? ⟨2, i, none⟩ = some (w32 (kW.getD i 0))
theorem GH.kp {S : List Nat} {w w' : World} (h : GH w) (hk : Kp S w w') (hS : ∀ s ∈ S, 4 ≤ s) : GH w' :=
  ⟨Nat.le_trans h.size hk.size, fun i hi => (hk.cells.1 _ _ (by have := h.size; omega) (fun hm => by have := hS _ hm; omega)).trans (h.start i hi),
    fun i hi => (hk.cells.1 _ _ (by have := h.size; omega) (fun hm => by have := hS _ hm; omega)).trans (h.rounds i hi)⟩
theorem GH.kp0 {w w' : World} (h : GH w) (hk : Kp [] w w') : GH w' := h.kp hk (by simp)

theorem arr64 : (Tryd.prog.info? 140).map (fun i => i.zero.map Value.cells) = some (some (Array.replicate 64 (.int .u32 0))) := by kernel_rfl

set_option maxHeartbeats 1000000 in
theorem spread_t (v : Value) (b : List UInt8) (w : World) (hb : Bs w v b) (hl : b.length = 64) :
    Calls Tryd.prog 101 #[v] w fun e w' => e = .returned (.agg (arr (spr b 64))) ∧ Kp [] w w' := by
  obtain ⟨a, cap, rfl, hcap, hnone, hsome, hcells⟩ := Sl.form hb
  obtain ⟨g, off, rfl, hg⟩ := hsome (by omega)
  have hcells := (hcells g off rfl).2
  obtain ⟨i0, hi, hi2⟩ : ∃ i, Tryd.prog.info? 140 = some i ∧ i.zero.map Value.cells = some (Array.replicate 64 (.int .u32 0)) := by
    have := arr64
    cases hq : Tryd.prog.info? 140 with
    | none => rw [hq] at this; cases this
    | some i => rw [hq] at this; exact ⟨i, rfl, by simpa using this⟩
  obtain ⟨z, hz, hzc⟩ : ∃ z, i0.zero = some z ∧ z.cells = Array.replicate 64 (.int .u32 0) := by
    cases hq : i0.zero with
    | none => rw [hq] at hi2; cases hi2
    | some z => rw [hq] at hi2; exact ⟨z, rfl, by simpa using hi2⟩
  have hrep : (Array.replicate 64 (.int .u32 0) : Array Value) = arr (zpad []) := by simp [arr, w32, zpad, ← List.toArray_replicate]
  rw [hrep] at hzc
  have HL : Hid (b.length = 64) := Lib.hid hl
  have hl64 : 64 ≤ b.length := by omega
  have hcap64 : 64 ≤ cap := by omega
  clear hl hrep
  obtain ⟨N, hN⟩ : ∃ N, b.length = N := ⟨_, rfl⟩
  rw [hN] at hb hcap hnone hsome hl64 ⊢
  clear hN
  go_enter Tryd.func101, Tryd.ntmps101
  go_wp2_with (refine wpList_var rfl 140 rfl i0 z _ hi hz hzc ?_)
  intro w1 hr1 hk1 hz1
  go_wp2_with (refine wpList_var rfl 140 rfl i0 z _ hi hz hzc ?_)
  intro w2 hA hk2 hz2
  have hz3 : w2.heap.size = w.heap.size + 1 + 1 := by omega
  have hR := hk2.heap hr1 (by simp)
  have hk := hk1.trans hk2
  clear hk1 hk2 hr1 hz2
  go_wp2
  go_loopw [12] (fun v12 wr => ∃ n : Nat, n ≤ 16 ∧ v12 = .int .i64 n ∧ wr.heap[w.heap.size + 1]? = some (.cells (arr (zpad (spr b n))) 140 (0, 0)) ∧ wr.heap[w.heap.size]? = some (.cells (arr (zpad [])) 140 (0, 0)) ∧ Kp [] w wr) (fun v12 _ => 16 - (intOf v12).toNat)
  case atStart => exact ⟨0, by omega, rfl, hA, hR, hk⟩
  case round =>
    obtain ⟨n, hn, rfl, hAr, hRr, hkr⟩ := hrel
    have hsr := lt_of_heap hAr
    by_cases hlt : n < 16
    · have b1 : (0 : Int) ≤ 4 * (n : Int) := by omega
      have b2 : 4 * (n : Int) + 4 ≤ (cap : Int) := by omega
      have b3 : ¬ cap = 4 * n := by omega
      have b4 : 4 * n + 4 - 4 * n = 4 := by omega
      have hlb : ((b.drop (4 * n)).take 4).length = 4 := by have := HL.out; simp; omega
      have hbyte : ∀ j, j < 4 → (b.drop (4 * n)).take 4 = (b.drop (4 * n)).take 4 ∧ w.cell? ⟨g, off + 4 * n + j, none⟩ = some (.int .u8 ((((b.drop (4 * n)).take 4).getD j 0).toNat : Int)) := fun j hj => by
        refine ⟨rfl, ?_⟩
        have hlen := HL.out
        rw [Nat.add_assoc]
        have := hcells (4 * n + j) _ (bcells_get b (4 * n + j) (by omega))
        rw [this]
        have hlt2 : 4 * n + j < b.length := by omega
        simp [List.getElem?_take, List.getElem?_drop, hj, hlt2]
      generalize hq : (b.drop (4 * n)).take 4 = q at *
      have HQ := Lib.hid hq
      have HLB := Lib.hid hlb
      have hB := Lib.hid hbyte
      clear hq hlb hbyte
      go_wp2
      have hz : (zpad (spr b n)).set n 0 = zpad (spr b n) := by have := zpad_zero (spr b n) (by simp; omega); rwa [spr_length] at this
      obtain ⟨wo, rfl⟩ : ∃ wo : World, wo = wr := ⟨_, rfl⟩
      go_loopw [23] (fun v23 ws => ∃ j : Nat, j ≤ 4 ∧ v23 = .int .i64 j ∧ ws.heap[w.heap.size + 1]? = some (.cells (arr ((zpad (spr b n)).set n (word (q.take j)))) 140 (0, 0)) ∧ ws.heap[w.heap.size]? = some (.cells (arr (zpad [])) 140 (0, 0)) ∧ Kp [] w ws) (fun v23 _ => 4 - (intOf v23).toNat)
      case atStart => exact ⟨0, by omega, rfl, by rw [List.take_zero, show word [] = 0 from rfl, hz]; exact hAr, hRr, hkr⟩
      case round =>
        obtain ⟨j, hj, rfl, hAs, hRs, hks⟩ := hrel
        have hss := lt_of_heap hAs
        by_cases hj4 : j < 4
        · have c0 : wr.cell? ⟨g, off + 4 * n + j, none⟩ = _ := (hks.cells0.1 _ _ hg).trans (hB.out j hj4).2
          have c1 : wr.cell? ⟨w.heap.size + 1, n, none⟩ = some (w32 (word (q.take j))) := by
            rw [cell_heap hAs, arr_get _ _ (by rw [List.length_set, zpad_length _ (by simp; omega)]; omega)]
            simp
          have c2 := free_heap hAs n
          unfold w32 at c1
          have hstep := word_step q j (by have := HLB.out; omega)
          generalize q.getD j 0 = c at c0 hstep
          have HS := Lib.hid hstep
          clear hstep
          go_wp2
          go_roundw
          case measure => simp [intOf]; omega
          case rel =>
            refine ⟨j + 1, by omega, by go_num, ?_, ?_, hks.setCell (.inr (by simp)) _⟩
            · rw [word_or', ← HS.out, heap_set _ hAs]
              have := arr_set ((zpad (spr b n)).set n (word (q.take j))) n (word (q.take (j + 1)))
              unfold w32 at this
              rw [this, List.set_set]
            · rw [hset _ _ _ _ (by simp)]; exact hRs
        · obtain rfl : j = 4 := by omega
          have hq4 : q.take 4 = q := List.take_of_length_le (by have := HLB.out; omega)
          rw [hq4] at hAs
          have hAs2 : wr.heap[w.heap.size + 1]? = some (.cells (arr (zpad (spr b (n + 1)))) 140 (0, 0)) := by
            rw [hAs]
            have h1 := zpad_set (spr b n) (word q) (by simp; omega)
            rw [spr_length] at h1
            rw [h1, spr, if_pos hlt, HQ.out]
          go_wp2
          go_roundw
          case measure => simp [intOf]; omega
          case rel => exact ⟨n + 1, by omega, by go_num, hAs2, hRs, hks⟩
    · have h16 : n = 16 := by omega
      rw [h16] at hAr
      clear h16
      go_wp2
      obtain ⟨wo, rfl⟩ : ∃ wo : World, wo = wr := ⟨_, rfl⟩
      go_loopw [7] (fun v7 wr => ∃ n : Nat, 16 ≤ n ∧ n ≤ 64 ∧ v7 = .int .i64 n ∧ wr.heap[w.heap.size + 1]? = some (.cells (arr (zpad (spr b n))) 140 (0, 0)) ∧ wr.heap[w.heap.size]? = some (.cells (arr (zpad [])) 140 (0, 0)) ∧ Kp [] w wr) (fun v7 _ => 64 - (intOf v7).toNat)
      case atStart => exact ⟨16, by omega, by omega, rfl, hAr, hRr, hkr⟩
      case round =>
        obtain ⟨n, hn16, hn64, rfl, hAn, hRn, hkn⟩ := hrel
        have hss := lt_of_heap hAn
        by_cases hlt : n < 64
        · have hcell : ∀ i, i < n → wr.cell? ⟨w.heap.size + 1, i, none⟩ = some (w32 ((spr b n).getD i 0)) := fun i hi => by
            rw [cell_heap hAn, arr_get _ _ (by rw [zpad_length _ (by simp; omega)]; omega), zpad_get _ _ (by simp; omega)]
          have c15 := hcell (n - 15) (by omega)
          have c2 := hcell (n - 2) (by omega)
          have c16 := hcell (n - 16) (by omega)
          have c7 := hcell (n - 7) (by omega)
          have cn : wr.cell? ⟨w.heap.size + 1, n, none⟩ = _ := cell_heap hAn n
          rw [arr_get _ _ (by rw [zpad_length _ (by simp; omega)]; omega)] at cn
          have fn := free_heap hAn n
          clear hcell
          have hnext : spr b (n + 1) = spr b n ++ [(spr b n).getD (n - 16) 0 + sig0 ((spr b n).getD (n - 15) 0) + (spr b n).getD (n - 7) 0 + sig1 ((spr b n).getD (n - 2) 0)] := by rw [spr, if_neg (by omega)]
          generalize (spr b n).getD (n - 16) 0 = x16 at *
          generalize (spr b n).getD (n - 15) 0 = x15 at *
          generalize (spr b n).getD (n - 7) 0 = x7 at *
          generalize (spr b n).getD (n - 2) 0 = x2 at *
          unfold w32 at c15 c2 c16 c7 cn
          have HN := Lib.hid hnext
          clear hnext
          have e15 : IntKind.i64.wrap ((n : Int) - 15) = n - 15 := IntWalk.i64_in _ (by omega)
          have e2 : IntKind.i64.wrap ((n : Int) - 2) = n - 2 := IntWalk.i64_in _ (by omega)
          have e16 : IntKind.i64.wrap ((n : Int) - 16) = n - 16 := IntWalk.i64_in _ (by omega)
          have e7 : IntKind.i64.wrap ((n : Int) - 7) = n - 7 := IntWalk.i64_in _ (by omega)
          have b15 : (0 : Int) ≤ (n : Int) - 15 ∧ (n : Int) - 15 < 64 := by omega
          have b2 : (0 : Int) ≤ (n : Int) - 2 ∧ (n : Int) - 2 < 64 := by omega
          have b16 : (0 : Int) ≤ (n : Int) - 16 ∧ (n : Int) - 16 < 64 := by omega
          have b7 : (0 : Int) ≤ (n : Int) - 7 ∧ (n : Int) - 7 < 64 := by omega
          have a15 : (15 : Int) ≤ (n : Int) := by omega
          have a2 : (2 : Int) ≤ (n : Int) := by omega
          have a16 : (16 : Int) ≤ (n : Int) := by omega
          have a7 : (7 : Int) ≤ (n : Int) := by omega
          have t15 : ((n : Int) - 15).toNat = n - 15 := by omega
          have t2 : ((n : Int) - 2).toNat = n - 2 := by omega
          have t16 : ((n : Int) - 16).toNat = n - 16 := by omega
          have t7 : ((n : Int) - 7).toNat = n - 7 := by omega
          go_wp2
          have hS : Gr wr [w.heap.size + 1] wr.drew := Gr.of (fun _ _ => rfl)
          refine wp_plan (.H 0 (.H 1 (.H 2 (.H 3 (.H 4 (.H 5 (.H 6 (.H 7 (.E 8 true (.E 9 false .Z)))))))))) (Gr wr [w.heap.size + 1]) (by kernel_rfl) (by kernel_rfl) ?_
          repeat (first | (refine plan_H rfl hS (fun K hK => ?_); go_simp; refine hK _ ?_; clear hK K) | (refine plan_E rfl (fun K hK => ?_); go_simp; (first | refine hK _ _ (fun _ => hS) ?_ | refine hK _ _ nofun ?_); clear hK K))
          refine plan_Z ?_
          clear hS
          go_wp2_with (go_at_call 102; first | ((with_reducible refine (rotk x15 7 (-7) _ rfl (by omega) (by omega)).mono ?_); rintro e w' ⟨rfl, rfl⟩) | ((with_reducible refine (rotk x15 18 (-18) _ rfl (by omega) (by omega)).mono ?_); rintro e w' ⟨rfl, rfl⟩) | ((with_reducible refine (rotk x2 17 (-17) _ rfl (by omega) (by omega)).mono ?_); rintro e w' ⟨rfl, rfl⟩) | ((with_reducible refine (rotk x2 19 (-19) _ rfl (by omega) (by omega)).mono ?_); rintro e w' ⟨rfl, rfl⟩))
          rw [sig0_v, sig1_v]
          have hS : Gr wr [w.heap.size + 1] wr.drew.drew := Gr.of (fun _ _ => rfl)
          refine wp_plan (.H 0 (.H 1 (.H 2 (.H 3 (.H 4 (.H 5 (.H 6 (.H 7 (.H 8 (.H 9 (.H 10 (.H 11 (.E 12 true (.E 13 true (.E 14 false (.E 15 false .Z)))))))))))))))) (Gr wr [w.heap.size + 1]) (by kernel_rfl) (by kernel_rfl) ?_
          repeat (first | (refine plan_H rfl hS (fun K hK => ?_); go_simp; refine hK _ ?_; clear hK K) | (refine plan_E rfl (fun K hK => ?_); go_simp; (first | refine hK _ _ (fun _ => hS) ?_ | refine hK _ _ nofun ?_); clear hK K))
          refine plan_Z ?_
          rw [u32_add_v, u32_add_v, u32_add_v]
          clear hS e15 e2 e16 e7 b15 b2 b16 b7 a15 a2 a16 a7 t15 t2 t16 t7 c15 c2 c16 c7
          go_wp2
          go_roundw
          case measure => simp [intOf]; omega
          case rel =>
            refine ⟨n + 1, by omega, by omega, by go_num, ?_, ?_, ((hkn.setCell (.inr (by simp)) _).drew).drew⟩
            · rw [add4_v, hdrew, hdrew, heap_set _ hAn]
              have h1 := zpad_set (spr b n) (x16 + sig0 x15 + x7 + sig1 x2) (by simp; omega)
              rw [spr_length, ← HN.out] at h1
              have := arr_set (zpad (spr b n)) n (x16 + sig0 x15 + x7 + sig1 x2)
              unfold w32 at this
              rw [this, h1]
            · rw [hdrew, hdrew, hset _ _ _ _ (by simp)]; exact hRn
        · obtain rfl : n = 64 := by omega
          rw [zpad_full _ (by simp)] at hAn
          have hsize : (Tryd.prog.info? 140).map (·.size) = some (arr (spr b 64)).size := by rw [show (arr (spr b 64)).size = 64 by simp [arr]]; kernel_rfl
          have hone : (arr (spr b 64)).all (·.oneCell') = true := by simp [arr, w32, Value.oneCell']
          have hrow := setRow_heap wr w.heap.size _ (arr (spr b 64)) _ _ hRn
          have hkf : Kp [] w (wr.setRow w.heap.size (arr (spr b 64))) := hkn.trans' (T := [w.heap.size]) ⟨rfl, rfl, rfl, by simp [World.setRow], fun k hk hs => setRow_other wr w.heap.size k _ (by simpa using hs)⟩ (by simp)
          have hLL : (spr b 64).length = 64 := spr_length b 64
          generalize hLe : spr b 64 = L at *
          have HLe := Lib.hid hLe
          have HLL := Lib.hid hLL
          clear hLe hLL
          go_wp2_with (first
            | (refine wpList_load_row rfl 140 _ rfl (w.heap.size + 1) rfl _ _ _ _ hAn Tryd.underlying140 rfl hsize ?_)
            | (refine wpList_store_row rfl 140 _ _ rfl w.heap.size _ rfl rfl _ _ hRn hsize ?_ hone ?_))
          · simp [arr, zpad, HLL.out]
          · go_wp2
            refine bodyPost_ret (v := .agg (arr L)) (results_cell_row rfl _ _ w.heap.size _ _ _ _ (by simp [Act.put]) hrow Tryd.underlying140 rfl hsize) (by simp [Act.put]) ⟨?_, hkf⟩
            rw [HLe.out]
end Go.Proofs.YtddpefbpiehgeaaDoor

