/- Plain words on worlds for this seat's walks: what a call keeps of the memory, slices that read as a row of cells, bytes. -/
import Derived.WalkKit
import Derived.BigQuiet
import Derived.Deep.QuietTactic
import Derived.Deep.AppendSrc
import Derived.Deep.Draws
import Derived.Deep.DeepCutAuto
import Derived.Deep.LoopGhost
import Derived.Deep.RegionHeld3
import Derived.StillTailTactics
import Derived.PlainAid
import Derived.Handy
import Derived.Lib.Hide
import Derived.Lib.ConvBytes
import Derived.Laws.IdiomStrings
import Derived.WalkLawsBesides
import Derived.WalkSpells
namespace Go.Proofs.YtddpefbpiehgeaaDoor
open Go Go.RowKit

/-- Of the blocks that there were, only those of S may have changed; the streams are as they were. -/
structure Kp (S : List Nat) (w w' : World) : Prop where
  os : w'.os = w.os
  tape : w'.tape = w.tape
  output : w'.output = w.output
  size : w.heap.size ≤ w'.heap.size
  block : ∀ k, k < w.heap.size → k ∉ S → w'.heap[k]? = w.heap[k]?

theorem Kp.refl (S : List Nat) (w : World) : Kp S w w := ⟨rfl, rfl, rfl, Nat.le_refl _, fun _ _ _ => rfl⟩

theorem Kp.trans {S : List Nat} {a b c : World} (h : Kp S a b) (k : Kp S b c) : Kp S a c :=
  ⟨k.os.trans h.os, k.tape.trans h.tape, k.output.trans h.output, Nat.le_trans h.size k.size,
    fun i hi hs => (k.block i (Nat.lt_of_lt_of_le hi h.size) hs).trans (h.block i hi hs)⟩

/-- A second step may change what is new besides. -/
theorem Kp.trans' {S T : List Nat} {a b c : World} (h : Kp S a b) (k : Kp T b c) (hT : ∀ t ∈ T, t ∈ S ∨ a.heap.size ≤ t) : Kp S a c :=
  ⟨k.os.trans h.os, k.tape.trans h.tape, k.output.trans h.output, Nat.le_trans h.size k.size,
    fun i hi hs => (k.block i (Nat.lt_of_lt_of_le hi h.size) (fun hc => by
      rcases hT i hc with h1 | h1
      · exact hs h1
      · omega)).trans (h.block i hi hs)⟩

theorem Kp.mono {S T : List Nat} {a b : World} (h : Kp S a b) (hST : ∀ s ∈ S, s ∈ T ∨ a.heap.size ≤ s) : Kp T a b :=
  ⟨h.os, h.tape, h.output, h.size, fun i hi hs => h.block i hi (fun hc => by
    rcases hST i hc with h1 | h1
    · exact hs h1
    · omega)⟩

theorem Kp.nil {S : List Nat} {a b : World} (h : Kp [] a b) : Kp S a b := h.mono (by simp)

theorem Kp.alloc {S : List Nat} {a w : World} (h : Kp S a w) (o : Obj) : Kp S a (w.alloc o) :=
  h.trans ⟨rfl, rfl, rfl, by simp, fun k hk _ => Below.heap_alloc _ _ _ hk⟩

theorem Kp.drew {S : List Nat} {a w : World} (h : Kp S a w) : Kp S a w.drew := ⟨h.os, h.tape, h.output, h.size, h.block⟩
theorem Kp.drewN {S : List Nat} {a w : World} (h : Kp S a w) (n : Nat) : Kp S a (w.drewN n) := ⟨h.os, h.tape, h.output, h.size, h.block⟩

theorem Kp.setCell {S : List Nat} {a w : World} (h : Kp S a w) {p : Addr} (hp : p.block ∈ S ∨ a.heap.size ≤ p.block) (u : Value) : Kp S a (w.setCell p u) :=
  h.trans' (T := [p.block]) ⟨rfl, rfl, rfl, by simp [World.setCell], fun k _ hs => Below.heap_setCell _ _ _ _ (by simpa using hs)⟩ (by simpa using hp)

theorem Kp.grown {S : List Nat} {a w w' : World} {row : Option Nat} (h : Kp S a w) (hg : w.grownBy w' row) (hr : ∀ k, row = some k → k ∈ S ∨ a.heap.size ≤ k) : Kp S a w' :=
  h.trans' (T := row.toList) ⟨hg.os, hg.tape, hg.output, hg.size, fun k hk hs => hg.block k hk (fun e => hs (by simp [← e]))⟩ (by simpa using hr)

theorem Kp.below {S : List Nat} {w w' : World} (h : Kp S w w') {B : Nat} (hB : B ≤ w.heap.size) (hS : ∀ s ∈ S, B ≤ s) : Below B w w' :=
  ⟨h.os, h.tape, h.output, h.size, fun k hk => h.block k (by omega) (fun hc => by have := hS k hc; omega)⟩

theorem Kp.ofBelow {w w' : World} (h : Below w.heap.size w w') : Kp [] w w' :=
  ⟨h.os, h.tape, h.output, h.size, fun k hk _ => h.block k hk⟩

/-- The two rules that a walk wants behind a call. -/
theorem Kp.cells {S : List Nat} {w w' : World} (h : Kp S w w') : (∀ b o, b < w.heap.size → b ∉ S → w'.cell? ⟨b, o, none⟩ = w.cell? ⟨b, o, none⟩) ∧ (∀ b o, b < w.heap.size → b ∉ S → w'.frozen? ⟨b, o, none⟩ = w.frozen? ⟨b, o, none⟩) :=
  ⟨fun b o hb hs => World.cell?_of_block (a := ⟨b, o, none⟩) (h.block b hb hs), fun b o hb hs => World.frozen?_of_block (a := ⟨b, o, none⟩) (h.block b hb hs)⟩

theorem Kp.cells0 {w w' : World} (h : Kp [] w w') : (∀ b o, b < w.heap.size → w'.cell? ⟨b, o, none⟩ = w.cell? ⟨b, o, none⟩) ∧ (∀ b o, b < w.heap.size → w'.frozen? ⟨b, o, none⟩ = w.frozen? ⟨b, o, none⟩) :=
  ⟨fun b o hb => h.cells.1 b o hb (by simp), fun b o hb => h.cells.2 b o hb (by simp)⟩

theorem Kp.heap {S : List Nat} {w w' : World} (h : Kp S w w') {b : Nat} {o : Obj} (hb : w.heap[b]? = some o) (hs : b ∉ S) : w'.heap[b]? = some o := by
  rw [h.block b (by
    rcases Nat.lt_or_ge b w.heap.size with h1 | h1
    · exact h1
    · rw [Array.getElem?_eq_none h1] at hb; cases hb) hs]; exact hb

theorem halloc (w : World) (o : Obj) (b : Nat) : (w.alloc o).heap[b]? = if b = w.heap.size then some o else w.heap[b]? := by simp only [World.alloc, Array.getElem?_push]
theorem hdrew (w : World) : w.drew.heap = w.heap := rfl
theorem hset (w : World) (p : Addr) (v : Value) (b : Nat) (h : b ≠ p.block) : (w.setCell p v).heap[b]? = w.heap[b]? := Below.heap_setCell _ _ _ _ h

theorem lt_of_heap {w : World} {b : Nat} {o : Obj} (hb : w.heap[b]? = some o) : b < w.heap.size := by
  rcases Nat.lt_or_ge b w.heap.size with h1 | h1
  · exact h1
  · rw [Array.getElem?_eq_none h1] at hb; cases hb

theorem cell_heap {w : World} {b : Nat} {c : Array Value} {T : TypeId} {fr : Nat × Nat} (hb : w.heap[b]? = some (.cells c T fr)) (i : Nat) : w.cell? ⟨b, i, none⟩ = c[i]? := by
  simp [World.cell?, hb]
theorem free_heap {w : World} {b : Nat} {c : Array Value} {T : TypeId} (hb : w.heap[b]? = some (.cells c T (0, 0))) (i : Nat) : w.frozen? ⟨b, i, none⟩ = false := by
  simp [World.frozen?, hb]

/-- The block that a slice lies in; one without places lies nowhere. -/
def own1 : Value → Option Nat
  | .slice (some _) 0 0 => none
  | v => v.ownBlock
theorem own1_own {v : Value} {g : Nat} (h : own1 v = some g) : v.ownBlock = some g := by
  unfold own1 at h
  split at h
  · cases h
  · exact h
theorem own1_some {a : Addr} {n c g : Nat} (h : own1 (.slice (some a) n c) = some g) : a.block = g := by
  have := own1_own h
  simpa [Value.ownBlock] using this
theorem own1_of {a : Addr} {n c : Nat} (h : 0 < c) : own1 (.slice (some a) n c) = some a.block := by
  unfold own1
  split
  · rename_i h'; cases h'; omega
  · rfl

/-- A slice of n elements of sz cells each, whose cells read cs. (A slice without places may bear any address.) -/
def Sl (w : World) (sz : Nat) (v : Value) (n : Nat) (cs : List Value) : Prop :=
  cs.length = n * sz ∧ ((v = .slice none 0 0 ∧ n = 0) ∨ (∃ a, v = .slice (some a) 0 0 ∧ n = 0) ∨
    ∃ b off cap, v = .slice (some ⟨b, off, none⟩) n cap ∧ n ≤ cap ∧ b < w.heap.size ∧ ∀ j u, cs[j]? = some u → w.cell? ⟨b, off + j, none⟩ = some u)

/-- A row of the call's own (from base on): its block is the slice's alone; a conversion's mark may lie behind it. -/
def Own (w : World) (base : Nat) (e : TypeId) (size : Nat) (v : Value) (n : Nat) (xs : List Value) : Prop :=
  xs.length = n * size ∧
  ((v = .slice none 0 0 ∧ n = 0) ∨
   ∃ g cap cur fr, v = .slice (some ⟨g, 0, none⟩) n cap ∧ base ≤ g ∧ w.heap[g]? = some (.cells cur e fr) ∧ (fr = (0, 0) ∨ cur.size ≤ fr.1) ∧ n ≤ cap ∧ cap ≤ maxLen ∧ cur.size = cap * size ∧ cur.toList.take (n * size) = xs)

theorem Own.of {w : World} {base e size n : Nat} {v : Value} {xs : List Value} (h : w.ownsRow base e size v n xs) : Own w base e size v n xs := by
  obtain ⟨hl, h⟩ := h
  refine ⟨hl, ?_⟩
  rcases h with h | ⟨g, cap, cur, hv, hg, hh, r⟩
  · exact .inl h
  · exact .inr ⟨g, cap, cur, (0, 0), hv, hg, hh, .inl rfl, r⟩

theorem Own.nil (w : World) (base e size : Nat) : Own w base e size (.slice none 0 0) 0 [] := ⟨by simp, .inl ⟨rfl, rfl⟩⟩

theorem Own.lt {w : World} {base e size n : Nat} {v : Value} {xs : List Value} (h : Own w base e size v n xs) : ∀ k, v.ownBlock = some k → base ≤ k ∧ k < w.heap.size := by
  intro k hk
  rcases h.2 with ⟨h, _⟩ | ⟨g, cap, cur, fr, hv, hg, hh, _⟩
  · rw [h] at hk; cases hk
  · rw [hv] at hk; cases hk; exact ⟨hg, lt_of_heap hh⟩

theorem free_mark {w : World} {b : Nat} {c : Array Value} {T : TypeId} {fr : Nat × Nat} (hb : w.heap[b]? = some (.cells c T fr)) (hf : fr = (0, 0) ∨ c.size ≤ fr.1) (i : Nat) (hi : i < c.size) : w.frozen? ⟨b, i, none⟩ = false := by
  obtain ⟨lo, hi'⟩ := fr
  rcases hf with hf | hf
  · cases hf; simp [World.frozen?, hb]
  · simp only at hf
    simp only [World.frozen?, hb, Bool.and_eq_false_iff, decide_eq_false_iff_not]
    exact .inl (by omega)

theorem Own.cellAt {w : World} {base e size n g cap : Nat} {xs : List Value} (h : Own w base e size (.slice (some ⟨g, 0, none⟩) n cap) n xs) (j : Nat) (hj : j < n * size) : w.cell? ⟨g, j, none⟩ = xs[j]? := by
  rcases h.2 with ⟨h, _⟩ | ⟨g', cap', cur, fr, hv, hg, hh, _, hn, hm, hs, ht⟩
  · cases h
  · cases hv
    rw [cell_heap hh, ← Array.getElem?_toList, ← ht, List.getElem?_take, if_pos hj]

theorem Own.frozenAt {w : World} {base e size n g cap : Nat} {xs : List Value} (h : Own w base e size (.slice (some ⟨g, 0, none⟩) n cap) n xs) (j : Nat) (hj : j < cap * size) : w.frozen? ⟨g, j, none⟩ = false := by
  rcases h.2 with ⟨h, _⟩ | ⟨g', cap', cur, fr, hv, hg, hh, hf, hn, hm, hs, ht⟩
  · cases h
  · cases hv
    exact free_mark hh hf j (by omega)

theorem heap_set {w : World} {g i : Nat} {cur : Array Value} {e : TypeId} {fr : Nat × Nat} (u : Value) (hg : w.heap[g]? = some (.cells cur e fr)) : (w.setCell ⟨g, i, none⟩ u).heap[g]? = some (.cells (cur.setIfInBounds i u) e fr) := by
  rw [setCell_eq_setRow w g i cur e fr u hg]
  exact setRow_heap w g cur _ e fr hg

theorem Own.stored {w : World} {base e size n g cap : Nat} {xs : List Value} (h : Own w base e size (.slice (some ⟨g, 0, none⟩) n cap) n xs) (j : Nat) (u : Value) :
    Own (w.setCell ⟨g, j, none⟩ u) base e size (.slice (some ⟨g, 0, none⟩) n cap) n (xs.set j u) := by
  obtain ⟨hl, h⟩ := h
  rcases h with ⟨h, _⟩ | ⟨g', cap', cur, fr, hv, hg, hh, hf, hn, hm, hs, ht⟩
  · cases h
  · cases hv
    refine ⟨by simpa using hl, .inr ⟨g, cap, cur.setIfInBounds j u, fr, rfl, hg, heap_set u hh, by simpa using hf, hn, hm, by simpa using hs, ?_⟩⟩
    rw [Array.toList_setIfInBounds, ← ht, List.take_set]

theorem Sl.of_own {w : World} {base e sz n : Nat} {v : Value} {xs : List Value} (h : Own w base e sz v n xs) : Sl w sz v n xs := by
  obtain ⟨hl, h⟩ := h
  refine ⟨hl, ?_⟩
  rcases h with h | ⟨g, cap, cur, fr, hv, hg, hh, hf, hn, hm, hs, ht⟩
  · exact .inl h
  · refine .inr (.inr ⟨g, 0, cap, hv, hn, lt_of_heap hh, fun j u hu => ?_⟩)
    rw [cell_heap hh, ← Array.getElem?_toList]
    rw [← ht, List.getElem?_take] at hu
    split at hu
    · rw [Nat.zero_add]; exact hu
    · cases hu

/-- The form that a walk reads. -/
theorem Sl.form {w : World} {sz n : Nat} {v : Value} {cs : List Value} (h : Sl w sz v n cs) :
    ∃ a cap, v = .slice a n cap ∧ n ≤ cap ∧ (a = none → n = 0 ∧ cap = 0) ∧ (0 < n → ∃ b off, a = some ⟨b, off, none⟩ ∧ b < w.heap.size) ∧
      (∀ b off, a = some ⟨b, off, none⟩ → (0 < n → b < w.heap.size) ∧ ∀ j u, cs[j]? = some u → w.cell? ⟨b, off + j, none⟩ = some u) := by
  obtain ⟨hl, h⟩ := h
  rcases h with ⟨h, h0⟩ | ⟨a, h, h0⟩ | ⟨b, off, cap, hv, hc, hb, hh⟩
  · exact ⟨none, 0, by rw [h, h0], by omega, fun _ => ⟨h0, rfl⟩, fun h => absurd h (by omega), nofun⟩
  · refine ⟨some a, 0, by rw [h, h0], by omega, nofun, fun h => absurd h (by omega), fun b off _ => ⟨fun h => absurd h (by omega), fun j u hu => ?_⟩⟩
    have : cs = [] := List.eq_nil_of_length_eq_zero (by rw [hl, h0, Nat.zero_mul])
    rw [this] at hu
    cases hu
  · exact ⟨some ⟨b, off, none⟩, cap, hv, hc, nofun, fun _ => ⟨b, off, rfl, hb⟩, fun b' off' h => (by cases h; exact ⟨fun _ => hb, hh⟩)⟩

theorem Sl.kq {S : List Nat} {w w' : World} {sz n : Nat} {v : Value} {cs : List Value} (h : Sl w sz v n cs) (hk : Kp S w w') (hS : ∀ b, own1 v = some b → b ∉ S) : Sl w' sz v n cs := by
  obtain ⟨hl, h⟩ := h
  refine ⟨hl, ?_⟩
  rcases h with h | h | ⟨b, off, cap, hv, hc, hb, hh⟩
  · exact .inl h
  · exact .inr (.inl h)
  · by_cases h0 : cap = 0
    · have hn : n = 0 := by omega
      exact .inr (.inl ⟨_, by rw [hv, h0, hn], hn⟩)
    · refine .inr (.inr ⟨b, off, cap, hv, hc, Nat.lt_of_lt_of_le hb hk.size, fun j u hu => ?_⟩)
      rw [hk.cells.1 b (off + j) hb (hS b (by rw [hv, own1_of (by omega)]))]
      exact hh j u hu

theorem Sl.kp {S : List Nat} {w w' : World} {sz n : Nat} {v : Value} {cs : List Value} (h : Sl w sz v n cs) (hk : Kp S w w') (hS : ∀ b, v.ownBlock = some b → b ∉ S) : Sl w' sz v n cs := h.kq hk (fun b hb => hS b (own1_own hb))
theorem Sl.kp0 {w w' : World} {sz n : Nat} {v : Value} {cs : List Value} (h : Sl w sz v n cs) (hk : Kp [] w w') : Sl w' sz v n cs := h.kp hk (by simp)

theorem Sl.lt {w : World} {sz n : Nat} {v : Value} {cs : List Value} (h : Sl w sz v n cs) : ∀ b, own1 v = some b → b < w.heap.size := by
  intro b hb
  rcases h.2 with ⟨h, _⟩ | ⟨a, h, _⟩ | ⟨b', off, cap, hv, _, hlt, _⟩
  · rw [h] at hb; cases hb
  · rw [h] at hb; cases hb
  · rw [hv] at hb; have := own1_some hb; simp only at this; omega

theorem byte_or (n x : Nat) (hn : n < 72057594037927936) (hx : x < 256) :
    bits BinOp.or IntKind.u64 (IntKind.u64.wrap ((n : Int) * 256)) (IntKind.u64.wrap (x : Int)) = ((n * 256 + x : Nat) : Int) := by
  rw [IntWalk.u64_in _ (by omega), IntWalk.u64_in _ (by omega)]
  have h := bits_or_u64_nat (n * 256) x (by omega) (by omega)
  have h2 := Nat.shiftLeft_add_eq_or_of_lt (i := 8) (b := x) (by omega) n
  rw [Nat.shiftLeft_eq] at h2
  simp only [Nat.reducePow] at h2
  rw [h2, ← h]
  simp
theorem add_block (x : Addr) (i : Nat) : (x.add i).block = x.block := by unfold Addr.add; split <;> rfl

/-- A part of a slice. -/
theorem Sl.part {w : World} {a : Option Addr} {N cap : Nat} {cs : List Value} (h : Sl w 1 (.slice a N cap) N cs) (i n : Nat) (hn : i + n ≤ N) :
    Sl w 1 (.slice (if cap = i then a else a.map (fun x => x.add i)) n (cap - i)) n ((cs.drop i).take n) := by
  obtain ⟨hl, h⟩ := h
  refine ⟨by simp; omega, ?_⟩
  rcases h with ⟨h, h0⟩ | ⟨a', h, h0⟩ | ⟨b, off, cap', hv, hc, hb, hh⟩
  · cases h
    obtain rfl : n = 0 := by omega
    obtain rfl : i = 0 := by omega
    exact .inl ⟨by simp, rfl⟩
  · cases h
    obtain rfl : n = 0 := by omega
    obtain rfl : i = 0 := by omega
    exact .inr (.inl ⟨a', by simp, rfl⟩)
  · cases hv
    by_cases hci : cap = i
    · obtain rfl : n = 0 := by omega
      exact .inr (.inr ⟨b, off, cap - i, by simp [hci], by omega, hb, fun j u hu => by simp at hu⟩)
    · refine .inr (.inr ⟨b, off + i, cap - i, by simp [hci, Addr.add], by omega, hb, fun j u hu => ?_⟩)
      rw [List.getElem?_take] at hu
      split at hu
      · rw [List.getElem?_drop] at hu
        rw [Nat.add_assoc]
        exact hh _ _ hu
      · cases hu

/-- Owned rows stay where their block stays. -/
theorem own_kp {S : List Nat} {w w' : World} {base e sz n : Nat} {v : Value} {xs : List Value} (h : Own w base e sz v n xs) (hk : Kp S w w') (hS : ∀ b, v.ownBlock = some b → b ∉ S) : Own w' base e sz v n xs := by
  obtain ⟨hl, h⟩ := h
  refine ⟨hl, ?_⟩
  rcases h with h | ⟨g, cap, cur, fr, hv, hg, hh, r⟩
  · exact .inl h
  · exact .inr ⟨g, cap, cur, fr, hv, hg, hk.heap hh (hS g (by rw [hv]; rfl)), r⟩

theorem own_form {w : World} {base e sz n : Nat} {v : Value} {xs : List Value} (h : Own w base e sz v n xs) : ∃ a cap, v = .slice a n cap := by
  rcases h.2 with ⟨h, h0⟩ | ⟨g, cap, cur, fr, hv, _⟩
  · exact ⟨none, 0, by rw [h, h0]⟩
  · exact ⟨_, cap, hv⟩

theorem own_base {w : World} {base base' e sz n : Nat} {v : Value} {xs : List Value} (h : Own w base e sz v n xs) (hb : ∀ b, v.ownBlock = some b → base' ≤ b) : Own w base' e sz v n xs := by
  obtain ⟨hl, h⟩ := h
  refine ⟨hl, ?_⟩
  rcases h with h | ⟨g, cap, cur, fr, hv, hg, r⟩
  · exact .inl h
  · exact .inr ⟨g, cap, cur, fr, hv, hb g (by rw [hv]; rfl), r⟩

/-- Bytes as cells. -/
def bcells (l : List UInt8) : List Value := l.map fun x => .int .u8 (x.toNat : Int)
@[simp] theorem bcells_length (l : List UInt8) : (bcells l).length = l.length := by simp [bcells]
@[simp] theorem bcells_append (l m : List UInt8) : bcells (l ++ m) = bcells l ++ bcells m := by simp [bcells]
@[simp] theorem bcells_nil : bcells [] = [] := rfl
theorem bcells_cons (x : UInt8) (l : List UInt8) : bcells (x :: l) = .int .u8 (x.toNat : Int) :: bcells l := rfl
theorem bcells_get (l : List UInt8) (i : Nat) (h : i < l.length) : (bcells l)[i]? = some (.int .u8 (l[i].toNat : Int)) := by
  simp [bcells, h]
theorem bcells_part (l : List UInt8) (i n : Nat) : bcells ((l.drop i).take n) = ((bcells l).drop i).take n := by simp [bcells, List.map_take, List.map_drop]
theorem bcells_set (l : List UInt8) (i : Nat) (x : UInt8) : bcells (l.set i x) = (bcells l).set i (.int .u8 (x.toNat : Int)) := by simp [bcells, List.map_set]
theorem bcells_one {l : List UInt8} : ∀ u ∈ bcells l, u.oneCell' = true := by
  intro u hu
  simp only [bcells, List.mem_map] at hu
  obtain ⟨_, _, rfl⟩ := hu
  rfl
theorem byteCells_eq (s : ByteArray) : byteCells s = bcells s.data.toList := rfl

/-- v reads as the bytes l. -/
def Bs (w : World) (v : Value) (l : List UInt8) : Prop := Sl w 1 v l.length (bcells l)
/-- v is a row of the call's own with the bytes l (e: the type uint8). -/
def OB (w : World) (e base : Nat) (v : Value) (l : List UInt8) : Prop := Own w base e 1 v l.length (bcells l)
theorem OB.bs {w : World} {e base : Nat} {v : Value} {l : List UInt8} (h : OB w e base v l) : Bs w v l := Sl.of_own h

theorem heap_sets {g : Nat} {e : TypeId} {fr : Nat × Nat} : ∀ (vs : List Value) (o : Nat) (w : World) (cur : Array Value), w.heap[g]? = some (.cells cur e fr) → o + vs.length ≤ cur.size →
    (w.setCells g o vs).heap[g]? = some (.cells (cur.toList.take o ++ vs ++ cur.toList.drop (o + vs.length)).toArray e fr) ∧ (∀ k, k ≠ g → (w.setCells g o vs).heap[k]? = w.heap[k]?) ∧
      (w.setCells g o vs).os = w.os ∧ (w.setCells g o vs).tape = w.tape ∧ (w.setCells g o vs).output = w.output ∧ (w.setCells g o vs).heap.size = w.heap.size
  | [], o, w, cur, hg, _ => ⟨by rw [World.setCells, hg]; simp, fun _ _ => rfl, rfl, rfl, rfl, rfl⟩
  | v :: r, o, w, cur, hg, hl => by
    simp only [List.length_cons] at hl
    obtain ⟨h1, h2, h3, h4, h5, h6⟩ := heap_sets r (o + 1) (w.setCell ⟨g, o, none⟩ v) (cur.setIfInBounds o v) (heap_set v hg) (by simp; omega)
    rw [World.setCells]
    refine ⟨?_, fun k hk => (h2 k hk).trans (Below.heap_setCell _ _ _ _ hk), h3, h4, h5, h6.trans (by simp [World.setCell])⟩
    rw [h1]
    have ho : o < cur.toList.length := by simp; omega
    rw [Array.toList_setIfInBounds, List.take_set, List.take_succ_eq_append_getElem ho, List.set_append_right _ _ (by simp; omega), List.drop_set]
    have hl2 : o - (List.take o cur.toList).length = 0 := by simp; omega
    rw [hl2]
    simp only [List.set_cons_zero, List.append_assoc, List.cons_append, List.nil_append, List.length_cons]
    rw [if_pos (by omega), show o + 1 + r.length = o + (r.length + 1) by omega]

section
variable {P : Program} (w : World)

/-- append onto a row of the call's own, of whatever is appended. -/
theorem run_app (base : Nat) (t tx ty e : TypeId) (i : TypeInfo) (z : Value) (size bytes : Nat) (ht : P.underlying t = some (.slice e)) (hi : P.info? e = some i) (hz : i.zero = some z)
    (hsize : i.size = size) (hby : i.bytes = bytes) (hzs : z.cells.size = size) (hsz : 0 < size)
    (v : Value) (n : Nat) (xs : List Value) (hown : Own w base e size v n xs)
    (x : Value) (m : Nat) (news : List Value) (hs : Src P size tx x m news w)
    (hbytes : (n + m) * bytes ≤ 140737488355328) (h63 : n + m ≤ 140737488355328) (hbase : base ≤ w.heap.size) :
    ∃ v' w', (Builtin.append_ #[t, tx] ty #[v, x]).run P w = .ok v' w' ∧ Own w' base e size v' (n + m) (xs ++ news) ∧ w.grownBy w' v.ownBlock ∧
      (∀ b, v'.ownBlock = some b → v.ownBlock = some b ∨ w.heap.size ≤ b) := by
  subst hsize
  subst hby
  have hsmall : n + m ≤ maxLen := by unfold maxLen; omega
  have hl := hs.newsLen
  have hlen : (xs ++ news).length = (n + m) * i.size := by rw [List.length_append, hown.1, hl, Nat.add_mul]
  have grown : ∀ (old : Nat), old < n + m → ∀ (row : Option Nat),
      Own (w.drew.alloc (.cells ((xs ++ news).toArray ++ Builtin.zeroCells z.cells (grownCap w (n + m) old e - (n + m))) e)) base e i.size
        (.slice (some ⟨w.heap.size, 0, none⟩) (n + m) (grownCap w (n + m) old e)) (n + m) (xs ++ news) ∧
      w.grownBy (w.drew.alloc (.cells ((xs ++ news).toArray ++ Builtin.zeroCells z.cells (grownCap w (n + m) old e - (n + m))) e)) row := by
    intro old ho row
    have hge := grownCap_ge w (n + m) old e
    have hcm : grownCap w (n + m) old e ≤ maxLen := grownCap_le_maxLen w (n + m) old e hsmall
    refine ⟨⟨hlen, .inr ⟨w.heap.size, _, _, (0, 0), rfl, hbase, heap_alloc_new w.drew _, .inl rfl, hge, hcm, ?_, ?_⟩⟩, ⟨rfl, rfl, rfl, by simp, fun k hk _ => heap_alloc_old w.drew _ hk⟩⟩
    · simp only [Array.size_append, List.size_toArray, size_zeroCells, hzs, hlen, ← Nat.add_mul]
      congr 1
      omega
    · simp only [Array.toList_append, ← hlen]
      exact List.take_left
  rcases hown.2 with ⟨rfl, rfl⟩ | ⟨g, cap, cur, fr, rfl, hbg, hg, hfr, hnc, hcm, hcs, htake⟩
  · have hx : xs = [] := List.eq_nil_of_length_eq_zero (by simpa using hown.1)
    subst hx
    by_cases hm : m = 0
    · subst hm
      have hn : news = [] := List.eq_nil_of_length_eq_zero (by simpa using hl)
      subst hn
      refine ⟨.slice none 0 0, w, ?_, Own.nil w base e i.size, ⟨rfl, rfl, rfl, Nat.le_refl _, fun _ _ _ => rfl⟩, nofun⟩
      rcases hs.kind with ⟨e', hk⟩ | hk <;> simp [Builtin.append_, run_underlying ht, run_underlying hk, sizeOf, typeInfo, hi, hs.len, hs.cells]
    · have hold : (Builtin.firstCells i.size 0 (.slice none 0 0)).run P w.drew = .ok ([] : List Value).toArray w.drew := run_firstCells_none w.drew i.size 0 0 0
      have hr := run_append_grow_src (P := P) w t tx ty e i z ht hi hz none 0 0 [] hold x m news hs (by omega) (by omega) (growslice_fits (by omega) hbytes)
      have hgr := grown 0 (by omega) (Value.ownBlock (.slice none 0 0))
      refine ⟨_, _, hr, ?_, hgr.2, fun b hb => .inr ?_⟩
      · exact hgr.1
      · cases hb; exact Nat.le_refl _
  · by_cases hroom : n + m ≤ cap
    · have hfit : n * i.size + news.length ≤ cur.size := by rw [hl, hcs, ← Nat.add_mul]; exact Nat.mul_le_mul_right _ hroom
      have hr := run_append_room_src (P := P) w t tx ty e i ht hi g 0 n cap x m news hs hroom
        (fun j hj => by rw [Nat.zero_add, cell_heap hg]; simp; omega) (fun j hj => by rw [Nat.zero_add]; exact free_mark hg hfr _ (by omega))
      rw [Nat.zero_add] at hr
      obtain ⟨h1, h2, h3, h4, h5, h6⟩ := heap_sets news (n * i.size) w cur hg hfit
      refine ⟨_, _, hr, ⟨hlen, .inr ⟨g, cap, _, fr, rfl, hbg, h1, ?_, hroom, hcm, ?_, ?_⟩⟩, ⟨h3, h4, h5, Nat.le_of_eq h6.symm, fun k _ hk => h2 k (fun e => hk (by simp [Value.ownBlock, e]))⟩, fun b hb => .inl hb⟩
      · have hsz : (cur.toList.take (n * i.size) ++ news ++ cur.toList.drop (n * i.size + news.length)).toArray.size = cur.size := by
          simp only [List.size_toArray, List.length_append, List.length_take, List.length_drop, Array.length_toList]
          omega
        rw [hsz]; exact hfr
      · simp only [List.size_toArray, List.length_append, List.length_take, List.length_drop, Array.length_toList]
        omega
      · rw [htake, ← hlen]
        exact List.take_left
    · have holds : ∀ j u, xs[j]? = some u → w.cell? ((⟨g, 0, none⟩ : Addr).add j) = some u := fun j u hj => by
        rw [Addr.add_lit, Nat.zero_add, cell_heap hg, ← Array.getElem?_toList]
        rw [← htake, List.getElem?_take] at hj
        split at hj
        · exact hj
        · cases hj
      have hold : (Builtin.firstCells i.size n (.slice (some ⟨g, 0, none⟩) n cap)).run P w.drew = .ok xs.toArray w.drew := run_firstCells_some w.drew i.size n ⟨g, 0, none⟩ n cap xs hown.1 (by simpa using holds)
      have hr := run_append_grow_src (P := P) w t tx ty e i z ht hi hz (some ⟨g, 0, none⟩) n cap xs hold x m news hs (by omega) (by omega) (growslice_fits (by omega) hbytes)
      have hgr := grown cap (by omega) (Value.ownBlock (.slice (some ⟨g, 0, none⟩) n cap))
      exact ⟨_, _, hr, hgr.1, hgr.2, fun b hb => .inr (by cases hb; exact Nat.le_refl _)⟩

theorem wp_app {o : Oper} {a : Act} {K : Act → World → Prop} {Q : Exit → Act → World → Prop} (s x : Operand) (t tx : TypeId)
    (ho : o.op = .call { callee := .builtin .append, args := #[s, x], argTypes := #[t, tx] })
    (base : Nat) (e : TypeId) (i : TypeInfo) (z : Value) (size bytes : Nat) (ht : P.underlying t = some (.slice e)) (hi : P.info? e = some i) (hz : i.zero = some z)
    (hsize : i.size = size) (hby : i.bytes = bytes) (hzs : z.cells.size = size) (hsz : 0 < size)
    (v : Value) (n : Nat) (xs : List Value) (hs : a.eval s = v) (hown : Own w base e size v n xs)
    (u : Value) (m : Nat) (news : List Value) (hx : a.eval x = u) (hsrc : Src P size tx u m news w)
    (hbytes : (n + m) * bytes ≤ 140737488355328) (h63 : n + m ≤ 140737488355328) (hbase : base ≤ w.heap.size)
    (h : ∀ v' w', Own w' base e size v' (n + m) (xs ++ news) → w.grownBy w' v.ownBlock → (∀ b, v'.ownBlock = some b → v.ownBlock = some b ∨ w.heap.size ≤ b) → K (a.put o.dst v') w') : o.wp P a w K Q := by
  obtain ⟨v', w', hr, h2, h3, h4⟩ := run_app (P := P) w base t tx o.type e i z size bytes ht hi hz hsize hby hzs hsz v n xs hown u m news hsrc hbytes h63 hbase
  unfold Oper.wp execOp
  simp only [ho, resolve, invoke, builtin, Sem.run_bind, Sem.run_pure, Result.andThen_ok, List.map_toArray, List.map_cons, List.map_nil, hs, hx, hr]
  exact h v' w' h2 h3 h4

theorem step_app {ops : Array Oper} {o : Oper} {a : Act} {K : Act → World → Prop} {Q : Exit → Act → World → Prop} {E : Prop} (hgd : o.guard = none) (s x : Operand) (t tx : TypeId)
    (ho : o.op = .call { callee := .builtin .append, args := #[s, x], argTypes := #[t, tx] })
    (base : Nat) (e : TypeId) (i : TypeInfo) (z : Value) (size bytes : Nat) (ht : P.underlying t = some (.slice e)) (hi : P.info? e = some i) (hz : i.zero = some z)
    (hsize : i.size = size) (hby : i.bytes = bytes) (hzs : z.cells.size = size) (hsz : 0 < size)
    (v : Value) (n : Nat) (xs : List Value) (hs : a.eval s = v) (hown : Own w base e size v n xs)
    (u : Value) (m : Nat) (news : List Value) (hx : a.eval x = u) (hsrc : Src P size tx u m news w)
    (hbytes : (n + m) * bytes ≤ 140737488355328) (h63 : n + m ≤ 140737488355328) (hbase : base ≤ w.heap.size)
    (h : ∀ v' w', Own w' base e size v' (n + m) (xs ++ news) → w.grownBy w' v.ownBlock → (∀ b, v'.ownBlock = some b → v.ownBlock = some b ∨ w.heap.size ≤ b) → K (a.put o.dst v') w') :
    if Region.wanted o (yielded ops a.tmps) = true then Oper.wp P o a w K Q else E := by
  have hw : Region.wanted o (yielded ops a.tmps) = true := by simp [Region.wanted, hgd]
  rw [if_pos hw]
  exact wp_app w s x t tx ho base e i z size bytes ht hi hz hsize hby hzs hsz v n xs hs hown u m news hx hsrc hbytes h63 hbase h

theorem wpList_app {ops : Array Oper} {rest : List Oper} {o : Oper} {a : Act} {Q : Exit → Act → World → Prop} (hgd : o.guard = none) (s x : Operand) (t tx : TypeId)
    (ho : o.op = .call { callee := .builtin .append, args := #[s, x], argTypes := #[t, tx] })
    (base : Nat) (e : TypeId) (i : TypeInfo) (z : Value) (size bytes : Nat) (ht : P.underlying t = some (.slice e)) (hi : P.info? e = some i) (hz : i.zero = some z)
    (hsize : i.size = size) (hby : i.bytes = bytes) (hzs : z.cells.size = size) (hsz : 0 < size)
    (v : Value) (n : Nat) (xs : List Value) (hs : a.eval s = v) (hown : Own w base e size v n xs)
    (u : Value) (m : Nat) (news : List Value) (hx : a.eval x = u) (hsrc : Src P size tx u m news w)
    (hbytes : (n + m) * bytes ≤ 140737488355328) (h63 : n + m ≤ 140737488355328) (hbase : base ≤ w.heap.size)
    (h : ∀ v' w', Own w' base e size v' (n + m) (xs ++ news) → w.grownBy w' v.ownBlock → (∀ b, v'.ownBlock = some b → v.ownBlock = some b ∨ w.heap.size ≤ b) → wpList P ops Q rest (a.put o.dst v') w') : wpList P ops Q (o :: rest) a w :=
  wpList_plain hgd fun _ hK => wp_app w s x t tx ho base e i z size bytes ht hi hz hsize hby hzs hsz v n xs hs hown u m news hx hsrc hbytes h63 hbase fun v' w' h2 h3 h4 => hK _ _ (h v' w' h2 h3 h4)
end

theorem Src.of_sl {P : Program} {w : World} {sz n : Nat} {v : Value} {cs : List Value} {tx e' : TypeId} (hk : P.underlying tx = some (.slice e')) (h : Sl w sz v n cs) (h1 : ∀ u ∈ cs, u.oneCell' = true) : Src P sz tx v n cs w := by
  obtain ⟨hl, h⟩ := h
  rcases h with ⟨rfl, rfl⟩ | ⟨a, rfl, rfl⟩ | ⟨b, off, cap, rfl, hc, hb, hh⟩
  · have : cs = [] := List.eq_nil_of_length_eq_zero (by simpa using hl)
    subst this
    exact Src.ofNil w hk 0
  · have : cs = [] := List.eq_nil_of_length_eq_zero (by simpa using hl)
    subst this
    exact Src.ofSlice w hk _ 0 0 [] hl (fun j u hj => by simp at hj) h1
  · exact Src.ofSlice w hk _ n cap cs hl (fun j u hj => by rw [Addr.add_lit]; exact hh j u hj) h1
/-- string(b). -/
theorem b2s {P : Program} {w : World} {v : Value} {l : List UInt8} (h : Bs w v l) (src dst e : TypeId) (hs : P.underlying src = some (.slice e)) (he : P.underlying e = some (.int .u8)) (hd : P.underlying dst = some .string) :
    (convert src dst v).run P w = .ok (.string ⟨l.toArray⟩) w := by
  obtain ⟨hl, h⟩ := h
  rcases h with ⟨rfl, h0⟩ | ⟨a, rfl, h0⟩ | ⟨b, off, cap, rfl, hc, hb, hh⟩
  · have : l = [] := List.eq_nil_of_length_eq_zero h0
    subst this
    rw [run_convert_bytes_nil w src e hs he 0 0 dst hd]
    rfl
  · have : l = [] := List.eq_nil_of_length_eq_zero h0
    subst this
    exact run_convert_bytes_back w src dst e a 0 [] hs he hd (fun j hj => by simp at hj)
  · exact run_convert_bytes_back w src dst e _ cap l hs he hd (fun j hj => by rw [Addr.add_lit]; exact hh j _ (bcells_get l j hj))

/-- []byte(s). -/
theorem s2b {P : Program} (w : World) (src dst e : TypeId) (s : ByteArray) {u : TypeDesc} (hs : P.underlying src = some u) (hd : P.underlying dst = some (.slice e)) (he : P.underlying e = some (.int .u8)) (hlen : s.size ≤ 140737488355328) :
    ∃ v w', (convert src dst (.string s)).run P w = .ok v w' ∧ OB w' e w.heap.size v s.data.toList ∧ Kp [] w w' := by
  refine ⟨_, _, Lib.run_convert_string_bytes w src dst e s hs hd he, ⟨by simp, .inr ⟨w.heap.size, _, _, _, by simp, Nat.le_refl _, Lib.bytesWorld_at_new w e s, .inr (Nat.le_refl _), ?_, grownCap_le_maxLen w s.size 0 e (by unfold maxLen; omega), ?_, ?_⟩⟩, ⟨rfl, rfl, rfl, by rw [Lib.bytesWorld_size]; omega, fun k hk _ => Lib.bytesWorld_at_old w e s k hk⟩⟩
  · have := grownCap_ge w s.size 0 e
    simpa using this
  · have := grownCap_ge w s.size 0 e
    have h2 : s.data.size = s.size := rfl
    simp [Lib.bytesCells]
    omega
  · have h2 : s.data.size = s.size := rfl
    simp only [Lib.bytesCells, Array.toList_append, Array.toList_map, Array.toList_replicate, bcells]
    rw [List.take_left' (by simp)]

theorem wp_s2b {P : Program} {o : Oper} {a : Act} {w : World} {K : Act → World → Prop} {Q : Exit → Act → World → Prop} (x : Operand) (src dst e : TypeId) (ho : o.op = .convert src dst x) (s : ByteArray) (hx : a.eval x = .string s)
    {u : TypeDesc} (hs : P.underlying src = some u) (hd : P.underlying dst = some (.slice e)) (he : P.underlying e = some (.int .u8)) (hlen : s.size ≤ 140737488355328)
    (h : ∀ v w', OB w' e w.heap.size v s.data.toList → Kp [] w w' → K (a.put o.dst v) w') : o.wp P a w K Q := by
  obtain ⟨v, w', hr, h1, h2⟩ := s2b w src dst e s hs hd he hlen
  unfold Oper.wp execOp
  simp only [ho, hx, Sem.run_bind, hr, Result.andThen_ok, Sem.run_pure]
  exact h v w' h1 h2

theorem wpList_s2b {P : Program} {ops : Array Oper} {rest : List Oper} {o : Oper} {a : Act} {w : World} {Q : Exit → Act → World → Prop} (hgd : o.guard = none) (x : Operand) (src dst e : TypeId) (ho : o.op = .convert src dst x) (s : ByteArray) (hx : a.eval x = .string s)
    {u : TypeDesc} (hs : P.underlying src = some u) (hd : P.underlying dst = some (.slice e)) (he : P.underlying e = some (.int .u8)) (hlen : s.size ≤ 140737488355328)
    (h : ∀ v w', OB w' e w.heap.size v s.data.toList → Kp [] w w' → wpList P ops Q rest (a.put o.dst v) w') : wpList P ops Q (o :: rest) a w :=
  wpList_plain hgd fun _ hK => wp_s2b x src dst e ho s hx hs hd he hlen fun v w' h1 h2 => hK _ _ (h v w' h1 h2)

/-- A new variable of a type with many cells. -/
theorem wpList_var {P : Program} {ops : Array Oper} {rest : List Oper} {o : Oper} {a : Act} {w : World} {Q : Exit → Act → World → Prop} (hgd : o.guard = none) (T : TypeId) (ho : o.op = .alloc T) (i : TypeInfo) (z : Value) (cs : Array Value)
    (hi : P.info? T = some i) (hz : i.zero = some z) (hcs : z.cells = cs)
    (h : ∀ w', w'.heap[w.heap.size]? = some (.cells cs T (0, 0)) → Kp [] w w' → w'.heap.size = w.heap.size + 1 → wpList P ops Q rest (a.put o.dst (.pointer (some ⟨w.heap.size, 0, none⟩))) w') : wpList P ops Q (o :: rest) a w := by
  refine wpList_plain hgd fun K hK => ?_
  have h' := hK _ _ (h (w.alloc (.cells cs T)) (heap_alloc_new w _) ((Kp.refl [] w).alloc _) (World.size_alloc _ _))
  unfold Oper.wp execOp
  simp only [ho]
  have hr : (Instr.alloc T true (.tuple #[])).run P w = .ok (.pointer (some ⟨w.heap.size, 0, none⟩)) (w.alloc (.cells cs T)) := by
    simp [Instr.alloc, zeroValue, typeInfo, hi, hz, newVar, newRow, hcs]
  simp only [Sem.run_bind, hr, Result.andThen_ok, Sem.run_pure]
  exact h'
/-- A walk stops at an append: its law is given there by hand. -/
def Stop (p : Prop) : Prop := p
theorem stop_app {P : Program} {ops : Array Oper} {rest : List Oper} {o d t p g : _} {x : _} {y : _} {a : Act} {w : World} {Q : Exit → Act → World → Prop} (h : Stop (wpList P ops Q ({ dst := d, op := .call { callee := .builtin .append, args := x, argTypes := y }, type := t, pos := p, after := o, guard := g } :: rest) a w)) :
  wpList P ops Q ({ dst := d, op := .call { callee := .builtin .append, args := x, argTypes := y }, type := t, pos := p, after := o, guard := g } :: rest) a w := h
end Go.Proofs.YtddpefbpiehgeaaDoor
