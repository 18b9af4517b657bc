/- The laws' small case. -/
import Derived.Test.YtddpefbpiehgeaaDoorSendH
import Derived.Test.YtddpefbpiehgeaaDoorBackP
namespace Go.Proofs.YtddpefbpiehgeaaDoor
open Go Go.RowKit
set_option maxRecDepth 100000
set_option linter.unusedVariables false
set_option linter.unusedSectionVars false
set_option linter.unusedSimpArgs false

def it5 : It := ⟨5, [97]⟩
def it6 : It := ⟨6, [98]⟩
def it7 : It := ⟨7, [99]⟩
def it8 : It := ⟨8, [100]⟩
def its4 : List It := [it5, it6, it7, it8]
def fr5 : Fr := ⟨1, 5, 5, [[97], [98]], []⟩
def fr7 : Fr := ⟨1, 5, 7, [[99]], []⟩
theorem tick1 : (tick 3 2 1 2 (fun _ => none) its4).2 = [fr5, fr7] := by rfl
theorem tick2 : (tick 3 2 2 2 (tick 3 2 1 2 (fun _ => none) its4).1 its4).2 = [] := by rfl
theorem got7 : got 0 fr7 = (5, []) := by rfl
theorem got5 : got 5 fr5 = (5, [it5, it6]) := by rfl
theorem may5 : mayB fr5 = true := by rfl

theorem newSender_322 (w : World) : Calls Tryd.prog 27 #[.int .i64 3, .int .i64 2, .int .i64 2] w fun e w' => ∃ p mb, e = .returned (.tuple #[.pointer (some ⟨p, 0, none⟩), .int .i64 0]) ∧ IsS w' p mb 0 3 2 2 0 (fun _ => none) ∧ w.heap.size ≤ p ∧ w.heap.size ≤ mb ∧ Kp [] w w' :=
  newSender_calls 3 2 2 w (by omega) (by omega) (by omega) (by omega) (by omega) (by omega)


theorem conv_lit (w : World) (x : Int) (g : Nat) (hg : g = w.heap.size) : (convert 23 23 (.slice (some ⟨g, 0, none⟩) 1 1)).run Tryd.prog (w.alloc (.cells #[.int .u8 x] 5)) = .ok (.slice (some ⟨g, 0, none⟩) 1 1) (w.alloc (.cells #[.int .u8 x] 5 (1, 2))) := by
  subst hg
  exact Lib.run_convert_bytes_const (P := Tryd.prog) w 23 5 #[.int .u8 x] 1 1 Tryd.underlying23 Tryd.underlying5

theorem bs_of {w : World} {g : Nat} {x : UInt8} {xi : Int} {T : TypeId} {fr : Nat × Nat} (hx : xi = (x.toNat : Int)) (h : w.heap[g]? = some (.cells #[.int .u8 xi] T fr)) : Bs w (.slice (some ⟨g, 0, none⟩) 1 1) [x] := by
  subst hx
  refine ⟨rfl, .inr (.inr ⟨g, 0, 1, rfl, Nat.le_refl _, lt_of_heap h, fun j u hu => ?_⟩)⟩
  rw [Nat.zero_add, cell_heap h, ← Array.getElem?_toList]
  exact hu

theorem two_frames {l : FL} {x y : Fr} (h : l.map Prod.fst = [x, y]) : ∃ a b, l = [(x, a), (y, b)] := by
  match l, h with
  | [(x', a), (y', b)], h => simp at h; obtain ⟨rfl, rfl⟩ := h; exact ⟨a, b, rfl⟩
theorem cells10 {w : World} {B T ob oc : Nat} {v0 v1 v2 v3 v4 v5 v6 v7 v8 v9 : Value} (h : Own w B T 5 (.slice (some ⟨ob, 0, none⟩) 2 oc) 2 [v0, v1, v2, v3, v4, v5, v6, v7, v8, v9]) :
    w.cell? ⟨ob, 0, none⟩ = some v0 ∧ w.cell? ⟨ob, 1, none⟩ = some v1 ∧ w.cell? ⟨ob, 2, none⟩ = some v2 ∧ w.cell? ⟨ob, 3, none⟩ = some v3 ∧ w.cell? ⟨ob, 4, none⟩ = some v4 ∧ w.cell? ⟨ob, 5, none⟩ = some v5 ∧ w.cell? ⟨ob, 6, none⟩ = some v6 ∧ w.cell? ⟨ob, 7, none⟩ = some v7 ∧ w.cell? ⟨ob, 8, none⟩ = some v8 ∧ w.cell? ⟨ob, 9, none⟩ = some v9 :=
  ⟨h.cellAt 0 (by omega), h.cellAt 1 (by omega), h.cellAt 2 (by omega), h.cellAt 3 (by omega), h.cellAt 4 (by omega), h.cellAt 5 (by omega), h.cellAt 6 (by omega), h.cellAt 7 (by omega), h.cellAt 8 (by omega), h.cellAt 9 (by omega)⟩

/-- The items of the small case. -/
theorem four_items (w2 : World) : ∃ cs w3, w3 = (((((w2.alloc (.cells #[.int .u8 97] 5 (1, 2))).alloc (.cells #[.int .u8 98] 5 (1, 2))).alloc (.cells #[.int .u8 99] 5 (1, 2))).alloc (.cells #[.int .u8 100] 5 (1, 2))).alloc (.cells #[.int .i64 5, .slice (some ⟨w2.heap.size, 0, none⟩) 1 1, .int .i64 6, .slice (some ⟨w2.heap.size + 1, 0, none⟩) 1 1, .int .i64 7, .slice (some ⟨w2.heap.size + 1 + 1, 0, none⟩) 1 1, .int .i64 8, .slice (some ⟨w2.heap.size + 1 + 1 + 1, 0, none⟩) 1 1] 51)) ∧
    Kp [] w2 w3 ∧ w2.heap.size < w3.heap.size ∧ Sl w3 2 (.slice (some ⟨w2.heap.size + 1 + 1 + 1 + 1, 0, none⟩) 4 4) 4 cs ∧ ItC (w2.heap.size ≤ ·) w3 cs its4 := by
  refine ⟨[.int .i64 5, .slice (some ⟨w2.heap.size, 0, none⟩) 1 1, .int .i64 6, .slice (some ⟨w2.heap.size + 1, 0, none⟩) 1 1, .int .i64 7, .slice (some ⟨w2.heap.size + 1 + 1, 0, none⟩) 1 1, .int .i64 8, .slice (some ⟨w2.heap.size + 1 + 1 + 1, 0, none⟩) 1 1], _, rfl, (((((Kp.refl [] w2).alloc _).alloc _).alloc _).alloc _).alloc _, by simp only [World.size_alloc]; omega, ?_, rfl, ?_⟩
  · have h := sl_alloc ((((w2.alloc (.cells #[.int .u8 97] 5 (1, 2))).alloc (.cells #[.int .u8 98] 5 (1, 2))).alloc (.cells #[.int .u8 99] 5 (1, 2))).alloc (.cells #[.int .u8 100] 5 (1, 2))) 51 #[.int .i64 5, .slice (some ⟨w2.heap.size, 0, none⟩) 1 1, .int .i64 6, .slice (some ⟨w2.heap.size + 1, 0, none⟩) 1 1, .int .i64 7, .slice (some ⟨w2.heap.size + 1 + 1, 0, none⟩) 1 1, .int .i64 8, .slice (some ⟨w2.heap.size + 1 + 1 + 1, 0, none⟩) 1 1] _ rfl 2 4 rfl
    simp only [World.size_alloc] at h
    exact h
  · intro i hi
    have hi' : i < 4 := hi
    rcases (show i = 0 ∨ i = 1 ∨ i = 2 ∨ i = 3 by omega) with rfl | rfl | rfl | rfl
    · exact ⟨_, rfl, rfl, bs_of (x := 97) (xi := 97) (T := 5) (fr := (1, 2)) rfl ((((((Kp.refl [] (w2.alloc (.cells #[.int .u8 97] 5 (1, 2)))).alloc _).alloc _).alloc _).alloc _).heap (by have h := heap_alloc_new w2 (.cells #[.int .u8 97] 5 (1, 2)); first | exact h | (simp only [World.size_alloc] at h; exact h)) (by simp)), fun g hg => by cases hg; exact Nat.le_refl _⟩
    · exact ⟨_, rfl, rfl, bs_of (x := 98) (xi := 98) (T := 5) (fr := (1, 2)) rfl (((((Kp.refl [] ((w2.alloc (.cells #[.int .u8 97] 5 (1, 2))).alloc (.cells #[.int .u8 98] 5 (1, 2)))).alloc _).alloc _).alloc _).heap (by have h := heap_alloc_new (w2.alloc (.cells #[.int .u8 97] 5 (1, 2))) (.cells #[.int .u8 98] 5 (1, 2)); first | exact h | (simp only [World.size_alloc] at h; exact h)) (by simp)), fun g hg => by cases hg; dsimp only; omega⟩
    · exact ⟨_, rfl, rfl, bs_of (x := 99) (xi := 99) (T := 5) (fr := (1, 2)) rfl ((((Kp.refl [] (((w2.alloc (.cells #[.int .u8 97] 5 (1, 2))).alloc (.cells #[.int .u8 98] 5 (1, 2))).alloc (.cells #[.int .u8 99] 5 (1, 2)))).alloc _).alloc _).heap (by have h := heap_alloc_new ((w2.alloc (.cells #[.int .u8 97] 5 (1, 2))).alloc (.cells #[.int .u8 98] 5 (1, 2))) (.cells #[.int .u8 99] 5 (1, 2)); first | exact h | (simp only [World.size_alloc] at h; exact h)) (by simp)), fun g hg => by cases hg; dsimp only; omega⟩
    · exact ⟨_, rfl, rfl, bs_of (x := 100) (xi := 100) (T := 5) (fr := (1, 2)) rfl (((Kp.refl [] ((((w2.alloc (.cells #[.int .u8 97] 5 (1, 2))).alloc (.cells #[.int .u8 98] 5 (1, 2))).alloc (.cells #[.int .u8 99] 5 (1, 2))).alloc (.cells #[.int .u8 100] 5 (1, 2)))).alloc _).heap (by have h := heap_alloc_new (((w2.alloc (.cells #[.int .u8 97] 5 (1, 2))).alloc (.cells #[.int .u8 98] 5 (1, 2))).alloc (.cells #[.int .u8 99] 5 (1, 2))) (.cells #[.int .u8 100] 5 (1, 2)); first | exact h | (simp only [World.size_alloc] at h; exact h)) (by simp)), fun g hg => by cases hg; dsimp only; omega⟩

theorem IsF.lit {w : World} {B : Nat} {v : Value} {f : Fr} (h : IsF w B v f) : ∃ ia ic ta tc, v = .agg #[.int .i64 f.k, .int .i64 f.a, .int .i64 f.b, .slice ia f.its.length ic, .slice ta f.t.length tc] ∧ RwP (B ≤ ·) w (.slice ia f.its.length ic) f.its ∧ Bs w (.slice ta f.t.length tc) f.t := by
  obtain ⟨iv, tv, us, he, ho, hi, ht, _⟩ := h
  obtain ⟨ia, ic, rfl⟩ := own_form ho
  obtain ⟨ta, tc, rfl⟩ := own_form ht
  exact ⟨ia, ic, ta, tc, he, RwP.of ho hi, OB.bs ht⟩
theorem IsF.lit5 {w : World} {B : Nat} {v : Value} (h : IsF w B v fr5) : ∃ ia ic ta tc, v = .agg #[.int .i64 1, .int .i64 5, .int .i64 5, .slice ia 2 ic, .slice ta 0 tc] ∧ RwP (B ≤ ·) w (.slice ia 2 ic) fr5.its ∧ Bs w (.slice ta 0 tc) fr5.t := h.lit
theorem IsF.lit0 {w : World} {B : Nat} {v : Value} (h : IsF w B v zeroF) : ∃ ia ic ta tc, v = .agg #[.int .i64 0, .int .i64 0, .int .i64 0, .slice ia 0 ic, .slice ta 0 tc] ∧ RwP (B ≤ ·) w (.slice ia 0 ic) [] ∧ Bs w (.slice ta 0 tc) [] := h.lit

def kS : ByteArray := ⟨#[107]⟩
theorem madeK : madeOf kS fr5 = (sealed kS (frameBytes fr5), 0) := by
  unfold madeOf
  rw [may5, if_neg (by simp), if_neg (by decide)]
theorem parsedNil : parsedOf ⟨#[111, 116, 104, 101, 114]⟩ [] = (zeroF, 121) := by
  unfold parsedOf
  rw [if_neg (by decide), if_pos (by decide)]

set_option maxHeartbeats 2000000 in
theorem awake_calls (w : World) (hG : GH w) : Calls Tryd.prog 9 #[] w fun e w' => e = .returned (.bool true) ∧ Kp [] w w' := by
  go_enter Tryd.func9, Tryd.ntmps9
  go_wp2_with (first
    | (go_at_call 27; (with_reducible refine (newSender_322 _).mono ?_); rintro e w1 ⟨p, mb, rfl, hs1, hp1, hm1, hk1⟩)
    | (go_at_call 19; (with_reducible refine (newReceiver_calls _).mono ?_); rintro e w2 ⟨r, rfl, hr2, hr1, hk2⟩; have hc1 := conv_lit w2 97 _ rfl; have hc2 := conv_lit (w2.alloc (.cells #[.int .u8 97] 5 (1, 2))) 98 (w2.heap.size + 1) (by simp); have hc3 := conv_lit ((w2.alloc (.cells #[.int .u8 97] 5 (1, 2))).alloc (.cells #[.int .u8 98] 5 (1, 2))) 99 (w2.heap.size + 1 + 1) (by simp); have hc4 := conv_lit (((w2.alloc (.cells #[.int .u8 97] 5 (1, 2))).alloc (.cells #[.int .u8 98] 5 (1, 2))).alloc (.cells #[.int .u8 99] 5 (1, 2))) 100 (w2.heap.size + 1 + 1 + 1) (by simp)))
  obtain ⟨cs, w3, hw3, hk3, hsz3, hsl3, hit3⟩ := four_items w2
  clear hc1 hc2 hc3 hc4
  rw [← hw3]
  clear hw3
  have hp2 : p < w2.heap.size ∧ mb < w2.heap.size := by have := hs1.lt; have := hk2.size; omega
  have hr2' : r < w2.heap.size := lt_of_heap hr2.1
  have hs3 := (hs1.kp hk2 (by simp) (by simp)).kp hk3 (by simp) (by simp)
  refine (tick_calls (w2.heap.size ≤ ·) p mb 0 3 2 2 0 (fun _ => none) _ cs its4 w3 (by omega) (by omega) hs3 (by omega) (by omega) hsl3 (fun g hg => by cases hg; dsimp only; omega) hit3 (by simp [its4]) (fun x hx => by simp [its4] at hx; rcases hx with rfl | rfl | rfl | rfl <;> simp [it5, it6, it7, it8])).mono ?_
  rintro e w4 ⟨v4, l4, n4, rfl, ho4, hl4, hn4, hs4, hk4⟩
  obtain ⟨va, vb, rfl⟩ := two_frames (hl4.trans tick1)
  obtain ⟨ob, oc, rfl, hoc, hob, hobl⟩ := own_some ho4.row (by simp)
  have hsz24 : w2.heap.size < w4.heap.size := by have := hk4.size; omega
  obtain ⟨-, -, ua, hua, hia⟩ := ho4.its (fr5, va) (by simp)
  obtain ⟨-, -, ub, hub, hib⟩ := ho4.its (fr7, vb) (by simp)
  simp only at hua hia hub hib
  obtain ⟨aa, ac, rfl⟩ := own_form hua
  obtain ⟨ba, bc, rfl⟩ := own_form hub
  have hRa := RwP.of hua hia
  have hRb := RwP.of hub hib
  have hrow4 : Own w4 w3.heap.size 25 5 (.slice (some ⟨ob, 0, none⟩) 2 oc) 2 [.int .i64 1, .int .i64 5, .int .i64 5, .slice aa 2 ac, .slice none 0 0, .int .i64 1, .int .i64 5, .int .i64 7, .slice ba 1 bc, .slice none 0 0] := ho4.row
  have hsl4 := hsl3.kp hk4 (fun g hg hm => by cases hg; simp at hm; omega)
  have hit4 := hit3.kp hk4 (fun g hg hm => by simp at hm; omega)
  have hs4' : IsS w4 p mb n4 3 2 2 1 (tick 3 2 1 2 (fun _ => none) its4).1 := hs4
  clear ho4 hua hia hub hib hs4 hl4 hsl3 hit3
  go_wp2_with fail
  refine (tick_calls (w2.heap.size ≤ ·) p mb n4 3 2 2 1 _ _ cs its4 w4 (by omega) (by omega) hs4' (by omega) (by omega) hsl4 (fun g hg => by cases hg; dsimp only; omega) hit4 (by simp [its4]) (fun x hx => by simp [its4] at hx; rcases hx with rfl | rfl | rfl | rfl <;> simp [it5, it6, it7, it8])).mono ?_
  rintro e w5 ⟨v5, l5, n5, rfl, ho5, hl5, -, -, hk5⟩
  obtain rfl : l5 = [] := by have := hl5.trans tick2; simpa using this
  obtain ⟨oa5, oc5, rfl⟩ := own_form ho5.row
  have hrow5 := own_kp hrow4 hk5 (fun g hg hm => by cases hg; simp at hm; omega)
  have hRa5 := hRa.kp hk5 (fun g hg hm => by simp at hm; omega)
  have hRb5 := hRb.kp hk5 (fun g hg hm => by simp at hm; omega)
  have hr5 := ((hr2.kp hk3 (by simp)).kp hk4 (by have := hs1.lt; simp; omega)).kp hk5 (by have := hs1.lt; simp; omega)
  obtain ⟨c0, c1, c2, c3, c4, c5, c6, c7, c8, c9⟩ := cells10 hrow5
  have hoc1 : 2 ≤ oc := hoc
  have hoc2 : (2 : Int) ≤ oc := by omega
  go_wp2_with fail
  have hnil : ∀ w' : World, Bs w' (.slice none 0 0) [] := fun w' => OB.bs (e := 5) (base := 0) (Own.nil w' 0 5 1)
  refine (got_calls r 0 fr7 _ _ _ (w3.heap.size ≤ ·) (by omega) hr5 hRb5 (hnil _) (by simp [fr7]) (by simp [fr7]) (by simp [fr7])).mono ?_
  rw [got7]
  rintro e w6 ⟨v6, cs6, rfl, ho6, hi6, hr6, hk6⟩
  obtain ⟨oa6, oc6, rfl⟩ := own_form ho6
  have hw56 : ∀ g ∈ [r], g < w3.heap.size := by simp; omega
  have hrow6 := own_kp hrow5 hk6 (fun g hg hm => by have h1 := hw56 g hm; have h2 : ob = g := (by simpa [Value.ownBlock] using hg); omega)
  have hRa6 := hRa5.kp hk6 (fun g hg hm => by have := hw56 g hm; omega)
  obtain ⟨d0, d1, d2, d3, d4, d5, d6, d7, d8, d9⟩ := cells10 hrow6
  clear c0 c1 c2 c3 c4 c5 c6 c7 c8 c9 hrow5 hRa5 hRb5 hRa hRb hrow4
  go_wp2_with fail
  refine (got_calls r 5 fr5 _ _ _ (w3.heap.size ≤ ·) (by omega) hr6 hRa6 (hnil _) (by simp [fr5]) (by simp [fr5]) (by simp [fr5])).mono ?_
  rw [got5]
  rintro e w7 ⟨v7, cs7, rfl, ho7, hi7, hr7, hk7⟩
  obtain ⟨oa7, oc7, rfl⟩ := own_form ho7
  have hrow7 := own_kp hrow6 hk7 (fun g hg hm => by have h1 := hw56 g hm; have h2 : ob = g := (by simpa [Value.ownBlock] using hg); omega)
  have hRa7 := hRa6.kp hk7 (fun g hg hm => by have := hw56 g hm; omega)
  clear d0 d1 d2 d3 d4 d5 d6 d7 d8 d9 hrow6 hRa6
  go_wp2_with fail
  refine (take_calls r 5 5 _ hr7 (by omega) (by omega)).mono ?_
  rintro e w8 ⟨rfl, hr8, hk8⟩
  have hrow8 := own_kp hrow7 hk8 (fun g hg hm => by have h1 := hw56 g hm; have h2 : ob = g := (by simpa [Value.ownBlock] using hg); omega)
  have hRa8 := hRa7.kp hk8 (fun g hg hm => by have := hw56 g hm; omega)
  rw [show takeN 5 5 = 6 from rfl] at hr8
  go_wp2_with fail
  refine (ack_calls r 6 _ hr8).mono ?_
  rw [show ackF 6 = ⟨2, 0, 5, [], []⟩ from rfl, show (!((6 : Int) == 0)) = true from rfl]
  unfold fcells
  rintro e w9 ⟨rfl, hk9⟩
  have hrow9 := own_kp hrow8 hk9 (by simp)
  have hRa9 := hRa8.kp hk9 (by simp)
  obtain ⟨d0, d1, d2, d3, d4, d5, d6, d7, d8, d9⟩ := cells10 hrow9
  have hob9 : ob < w9.heap.size := (hrow9.lt ob rfl).2
  clear hrow8 hRa8 hrow7 hRa7
  go_wp2_with fail
  have hpw := hs1.lt
  have K3 : Kp [] w w3 := (hk1.trans hk2).trans hk3
  have K4 := K3.trans' hk4 (by simp; omega)
  have K5 := K4.trans' hk5 (by simp; omega)
  have hrw : ∀ t ∈ [r], t ∈ ([] : List Nat) ∨ w.heap.size ≤ t := by simp; have := hk1.size; omega
  have K9 := (((K5.trans' hk6 hrw).trans' hk7 hrw).trans' hk8 hrw).trans hk9
  clear hs1 hk4 hk5 hk6 hk7 hk8 hk9 hsl4 hit4 hs4' ho5 hr5 hr6 hr7 hr8 ho6 hi6 ho7 hi7 hl5
  have hkA := (Kp.refl [] w9).alloc (.cells #[.int .i64 2, .int .i64 0, .int .i64 5, .slice none 0 0, .slice none 0 0] 25)
  have hhA := heap_alloc_new w9 (.cells #[.int .i64 2, .int .i64 0, .int .i64 5, .slice none 0 0, .slice none 0 0] 25)
  have hrowA := own_kp hrow9 hkA (by simp)
  have hRaA := hRa9.kp hkA (by simp)
  have KA := K9.trans hkA
  generalize w9.alloc (.cells #[.int .i64 2, .int .i64 0, .int .i64 5, .slice none 0 0, .slice none 0 0] 25) = wA at *
  generalize w9.heap.size = xb at *
  have hmk := make_all kS fr5 _ _ wA (hG.kp0 KA) hRaA.rws (hnil wA) (by simp [fr5]) (by simp [fr5]) (by simp [fr5])
  rw [madeK] at hmk
  refine hmk.mono ?_
  rintro e w10 ⟨v10, rfl, ho10, hk10⟩
  obtain ⟨sa, sc, rfl⟩ := own_form ho10
  have K10 := KA.trans hk10
  have hSl : (sealed kS (frameBytes fr5)).length ≤ 20000 := by rw [sealed_length]; have := frameBytes_le fr5 may5; omega
  have hpc := parse_calls kS _ (sealed kS (frameBytes fr5)) w10 (hG.kp0 K10) (OB.bs ho10) (by omega)
  rw [parsedOf_made madeK] at hpc
  clear hmk d0 d1 d2 d3 d4 d5 d6 d7 d8 d9
  go_wp2_with fail
  refine hpc.mono ?_
  rintro e w11 ⟨v11, rfl, hF11, hk11⟩
  obtain ⟨ga, gc, ta, tc, rfl, hgR, hgT⟩ := hF11.lit5
  have K11 := K10.trans hk11
  have hkB := (Kp.refl [] w11).alloc (.cells #[.int .i64 1, .int .i64 5, .int .i64 5, .slice ga 2 gc, .slice ta 0 tc] 25)
  have hhB := heap_alloc_new w11 (.cells #[.int .i64 1, .int .i64 5, .int .i64 5, .slice ga 2 gc, .slice ta 0 tc] 25)
  have hgRB := hgR.kp hkB (by simp)
  have hgTB := hgT.kp0 hkB
  have KB := K11.trans hkB
  have hrowB := own_kp hrowA ((hk10.trans hk11).trans hkB) (by simp)
  have hRaB := hRaA.kp ((hk10.trans hk11).trans hkB) (by simp)
  have hhAB := ((hk10.trans hk11).trans hkB).heap hhA (by simp)
  clear hpc hrowA hRaA hgR hgT
  have hpn := parse_calls ⟨#[111, 116, 104, 101, 114]⟩ (.slice none 0 0) [] (w11.alloc (.cells #[.int .i64 1, .int .i64 5, .int .i64 5, .slice ga 2 gc, .slice ta 0 tc] 25)) (hG.kp0 KB) (hnil _) (by simp)
  rw [parsedNil] at hpn
  go_wp2_with fail
  refine hpn.mono ?_
  rintro e w12 ⟨v12, rfl, hF12, hk12⟩
  obtain ⟨za, zc, zta, ztc, rfl, -, -⟩ := hF12.lit0
  clear hpn hF12 hF11
  have hkC := hk12.alloc (.cells #[.int .i64 0, .int .i64 0, .int .i64 0, .slice za 0 zc, .slice zta 0 ztc] 25)
  have KC := KB.trans hkC
  have hrowC := own_kp hrowB hkC (by simp)
  have hRaC := hRaB.kp hkC (by simp)
  have hgRC := hgRB.kp hkC (by simp)
  have hgTC := hgTB.kp0 hkC
  have hhAC := hkC.heap hhAB (by simp)
  have hhBC := hkC.heap hhB (by simp)
  clear hrowB hRaB hgRB hgTB hhAB hhB
  go_wp2_with fail
  generalize w12.alloc (.cells #[.int .i64 0, .int .i64 0, .int .i64 0, .slice za 0 zc, .slice zta 0 ztc] 25) = wC at *
  generalize w11.heap.size = yb at *
  obtain ⟨d0, d1, d2, d3, d4, -⟩ := cells10 hrowC
  obtain ⟨x0, x1, x2, x3, x4⟩ := cells5 hhAC
  obtain ⟨y0, y1, y2, y3, y4⟩ := cells5 hhBC
  have hobC := (hrowC.lt ob rfl).2
  have hxbC := lt_of_heap hhAC
  have hybC := lt_of_heap hhBC
  have hS : Gr wC [xb, yb, ob] wC.drew := Gr.of (fun _ _ => rfl)
  have hsame := fsame_calls fr5 fr5 (.slice ga 2 gc) (.slice ta 0 tc) (.slice aa 2 ac) (.slice none 0 0) wC.drew (hgRC.rws.kp0 ((Kp.refl [] wC).drew)) (hgTC.kp0 ((Kp.refl [] wC).drew)) (hRaC.rws.kp0 ((Kp.refl [] wC).drew)) (hnil _) (by simp [fr5]) (by simp [fr5])
  rw [sameF_self] at hsame
  have HSAME := Lib.hid hsame
  clear hsame
  refine wp_plan (.H 0 (.H 1 (.H 2 (.H 3 (.H 4 (.H 5 (.H 6 (.H 7 (.H 8 (.H 9 (.H 10 (.H 11 (.H 12 (.H 13 (.H 14 (.H 15 (.H 16 (.H 17 (.H 18 (.H 19 (.H 20 (.H 21 (.H 22 (.H 23 (.H 24 (.H 25 (.H 26 (.H 27 (.H 28 (.E 29 false (.E 30 false (.E 31 false (.E 32 false (.E 33 false (.E 34 false (.E 35 false .Z)))))))))))))))))))))))))))))))))))) (Gr wC [xb, yb, ob]) (by as_aux_lemma => kernel_rfl) (by as_aux_lemma => kernel_rfl) ?_
  iterate 29 (refine plan_H rfl hS (fun K hK => ?_); go_simp; refine hK _ ?_; clear hK K)
  refine plan_E rfl (fun K hK => ?_)
  go_simp
  refine HSAME.out.mono ?_
  rintro e w13 ⟨rfl, hk13⟩
  refine hK _ _ nofun ?_
  clear hK K
  iterate 6 (refine plan_E rfl (fun K hK => ?_); go_simp; refine hK _ _ nofun ?_; clear hK K)
  refine plan_Z ?_
  go_wp2_with fail
  go_ret
  exact ⟨rfl, (KC.drew).trans hk13⟩
end Go.Proofs.YtddpefbpiehgeaaDoor
