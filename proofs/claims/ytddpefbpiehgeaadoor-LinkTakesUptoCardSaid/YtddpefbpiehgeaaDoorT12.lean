/- The laws' helper Owned. -/
import Derived.Test.YtddpefbpiehgeaaDoorT11
import Derived.Maps.OwnSet
import Derived.Maps.RangeWalk
import Derived.Maps.OwnOps
namespace Go.Proofs.YtddpefbpiehgeaaDoor
open Go Go.RowKit
set_option maxRecDepth 100000
set_option linter.unusedVariables false
set_option linter.unusedSectionVars false
set_option linter.unusedSimpArgs false

def mkB (i : Nat) : UInt8 := UInt8.ofNat (1 + i % 250)
theorem mkB_nat (i : Nat) : (mkB i).toNat = 1 + i % 250 := by
  unfold mkB; rw [UInt8.toNat_ofNat']; omega
theorem mkB_wrap (i : Nat) : IntKind.u8.wrap (1 + (i : Int) % 250) = ((mkB i).toNat : Int) := by
  rw [mkB_nat, IntWalk.u8_in _ (by omega)]; omega

/-- A row of bytes in a block of its type; what lies behind it is not said. -/
def Rd (w : World) (u : Value) (l : List UInt8) : Prop :=
  (u = .slice none 0 0 ∧ l = []) ∨ ∃ g cap cur fr, u = .slice (some ⟨g, 0, none⟩) l.length cap ∧ w.heap[g]? = some (.cells cur 5 fr) ∧ cur.toList.take l.length = bcells l
theorem Rd.of {w : World} {B : Nat} {u : Value} {l : List UInt8} (h : OB w 5 B u l) : Rd w u l := by
  obtain ⟨hl, h⟩ := h
  rcases h with ⟨h, h0⟩ | ⟨g, cap, cur, fr, hv, _, hh, _, _, _, _, ht⟩
  · exact .inl ⟨by rw [h], List.eq_nil_of_length_eq_zero h0⟩
  · exact .inr ⟨g, cap, cur, fr, hv, hh, by simpa using ht⟩
theorem Rd.kp {S : List Nat} {w w' : World} {u : Value} {l : List UInt8} (h : Rd w u l) (hk : Kp S w w') (hS : ∀ b, u.ownBlock = some b → b ∉ S) : Rd w' u l := by
  rcases h with h | ⟨g, cap, cur, fr, hv, hh, r⟩
  · exact .inl h
  · exact .inr ⟨g, cap, cur, fr, hv, hk.heap hh (hS g (by rw [hv]; rfl)), r⟩
theorem Rd.lt {w : World} {u : Value} {l : List UInt8} (h : Rd w u l) : ∀ b, u.ownBlock = some b → b < w.heap.size := by
  intro b hb
  rcases h with ⟨h, _⟩ | ⟨g, cap, cur, fr, hv, hh, r⟩
  · rw [h] at hb; cases hb
  · rw [hv] at hb; cases hb; exact lt_of_heap hh
theorem Rd.ne {w : World} {u v : Value} {l : List UInt8} {B e sz n : Nat} {xs : List Value} (h : Rd w u l) (ho : Own w B e sz v n xs) (he : 5 ≠ e) : Apart u v := by
  intro b hb hb'
  rcases h with ⟨h, _⟩ | ⟨g, cap, cur, fr, hv, hh, r⟩
  · rw [h] at hb; cases hb
  rcases ho.2 with ⟨h', _⟩ | ⟨g2, _, _, _, hv', _, hh', _⟩
  · rw [h'] at hb'; cases hb'
  rw [hv] at hb; cases hb
  rw [hv'] at hb'; cases hb'
  rw [hh] at hh'
  cases hh'
  exact he rfl
/-- The beginning of a row that lies in the same block. -/
theorem Rd.cut {w : World} {u v : Value} {l : List UInt8} {k B : Nat} {w0 : World} (h0 : Rd w0 u (l.take k)) (ho : OB w 5 B v l) (hb : v.ownBlock = u.ownBlock) (hk : k ≤ l.length) : Rd w u (l.take k) := by
  rcases h0 with h | ⟨g, cap, cur, fr, hv, _, _⟩
  · exact .inl h
  · obtain ⟨hl, ho⟩ := ho
    rcases ho with ⟨h, _⟩ | ⟨g', cap', cur', fr', hv', _, hh', _, _, _, _, ht⟩
    · rw [h, hv] at hb; cases hb
    · rw [hv, hv'] at hb
      have hb' : g' = g := by simpa [Value.ownBlock] using hb
      subst hb'
      refine .inr ⟨g', cap, cur', fr', hv, hh', ?_⟩
      rw [Nat.mul_one] at ht
      have hkl : (l.take k).length = k := by simp; omega
      rw [hkl]
      have : bcells (l.take k) = (bcells l).take k := by simp [bcells, List.map_take]
      rw [this, ← ht, List.take_take, Nat.min_eq_left hk]

/-- A row that was written over and stands in the list. -/
def RowDone (w wr : World) (us : List Value) (its : List (List UInt8)) (ls : List Value) (q : Nat) : Prop :=
  ∃ u y x, ls[q]? = some u ∧ us[q / 2]? = some y ∧ its[q / 2]? = some x ∧ Rd wr u (List.replicate (x.length + if q % 2 = 0 then 9 else 0) (mkB (q / 2))) ∧ ∀ b, u.ownBlock = some b → y.ownBlock = some b ∨ w.heap.size ≤ b
theorem RowDone.kp {w wr wr' : World} {us : List Value} {its : List (List UInt8)} {ls : List Value} {q : Nat} {S : List Nat} (h : RowDone w wr us its ls q) (hk : Kp S wr wr') (hS : ∀ b ∈ S, b < w.heap.size ∧ ∀ y, us[q / 2]? = some y → y.ownBlock ≠ some b) : RowDone w wr' us its ls q := by
  obtain ⟨u, y, x, h1, h2, h3, h4, h5⟩ := h
  refine ⟨u, y, x, h1, h2, h3, h4.kp hk (fun b hb hm => ?_), h5⟩
  obtain ⟨hs1, hs2⟩ := hS b hm
  rcases h5 b hb with h | h
  · exact hs2 y h2 h
  · omega
theorem RowDone.kpT {w wr wr' : World} {us : List Value} {its : List (List UInt8)} {ls : List Value} {q : Nat} {v : Value} {B e sz n : Nat} {xs : List Value} (h : RowDone w wr us its ls q) (ho : Own wr B e sz v n xs) (he : 5 ≠ e) (hk : Kp v.ownBlock.toList wr wr') : RowDone w wr' us its ls q := by
  obtain ⟨u, y, x, h1, h2, h3, h4, h5⟩ := h
  exact ⟨u, y, x, h1, h2, h3, h4.kp hk (fun b hb hm => h4.ne ho he b hb (by simpa using hm)), h5⟩
theorem RowDone.more {w wr : World} {us : List Value} {its : List (List UInt8)} {ls ms : List Value} {q : Nat} (h : RowDone w wr us its ls q) : RowDone w wr us its (ls ++ ms) q := by
  obtain ⟨u, y, x, h1, r⟩ := h
  exact ⟨u, y, x, by rw [List.getElem?_append_left (List.getElem?_eq_some_iff.1 h1).1]; exact h1, r⟩

/-- The rows that are still to be written over. -/
def ToDo (w wr : World) (B : Nat) (us : List Value) (its : List (List UInt8)) (i : Nat) : Prop := ∀ j, i ≤ j → ∀ u x, us[j]? = some u → its[j]? = some x → OB wr 5 B u x
theorem ToDo.kp {w wr wr' : World} {B : Nat} {us : List Value} {its : List (List UInt8)} {i : Nat} {S : List Nat} (h : ToDo w wr B us its i) (hk : Kp S wr wr') (i' : Nat) (hi : i ≤ i') (hS : ∀ j, i' ≤ j → ∀ u, us[j]? = some u → ∀ b, u.ownBlock = some b → b ∉ S) : ToDo w wr' B us its i' :=
  fun j hj u x hu hx => own_kp (h j (by omega) u x hu hx) hk (hS j hj u hu)

theorem ob_shape {w : World} {T : TypeId} {B n c : Nat} {a : Option Addr} {l : List UInt8} (h : OB w T B (.slice a n c) l) : n ≤ c ∧ (0 < l.length → ∃ g, a = some ⟨g, 0, none⟩) ∧ n = l.length := by
  rcases h.2 with ⟨h, h0⟩ | ⟨g, cap, cur, fr, hv, _, _, _, hnc, _⟩
  · injection h with h1 h2 h3
    exact ⟨by omega, fun h => by omega, by omega⟩
  · injection hv with h1 h2 h3
    exact ⟨by omega, fun _ => ⟨g, h1⟩, h2⟩

theorem rep_set (k m : Nat) (x : List UInt8) (b : UInt8) (hk : k < x.length) : (List.replicate k b ++ x.drop k).set k b = List.replicate (k + 1) b ++ x.drop (k + 1) := by
  rw [List.set_append_right _ _ (by simp), List.length_replicate, Nat.sub_self, List.drop_eq_getElem_cons hk, List.set_cons_zero, List.replicate_succ', List.append_assoc]
  rfl

theorem Rd.form {w : World} {u : Value} {l : List UInt8} (h : Rd w u l) : ∃ a c, u = .slice a l.length c ∧ (0 < l.length → ∃ g, a = some ⟨g, 0, none⟩ ∧ g < w.heap.size ∧ ∀ k, k < l.length → w.cell? ⟨g, k, none⟩ = some (.int .u8 ((l.getD k 0).toNat : Int))) := by
  rcases h with ⟨h, h0⟩ | ⟨g, cap, cur, fr, hv, hh, ht⟩
  · subst h0; exact ⟨none, 0, h, fun h => by simp at h⟩
  · refine ⟨_, cap, hv, fun _ => ⟨g, rfl, lt_of_heap hh, fun k hk => ?_⟩⟩
    have h1 := congrArg (fun q => q[k]?) ht
    simp only [List.getElem?_take, if_pos hk] at h1
    rw [cell_heap hh, ← Array.getElem?_toList, h1, bcells_get _ _ hk]
    simp [List.getD, hk]

theorem ob_rep {w : World} {T : TypeId} {B n n' : Nat} {v : Value} {m : UInt8} {cs : List Value} (h : Own w B T 1 v n cs) (hn : n = n') (hc : cs = bcells (List.replicate n' m)) : OB w T B v (List.replicate n' m) := by
  subst hn; subst hc
  unfold OB
  rw [List.length_replicate]
  exact h
theorem ob_unrep {w : World} {T : TypeId} {B n : Nat} {v : Value} {m : UInt8} (h : OB w T B v (List.replicate n m)) : Own w B T 1 v n (bcells (List.replicate n m)) := by
  unfold OB at h
  rw [List.length_replicate] at h
  exact h
theorem bcells_rep (n : Nat) (m : UInt8) : bcells (List.replicate n m) ++ [.int .u8 (m.toNat : Int)] = bcells (List.replicate (n + 1) m) := by
  rw [List.replicate_succ']; simp [bcells]

/-- One byte more onto a row that began in u's block. -/
theorem grow_one {wu wr w1 w' : World} {B n k : Nat} {u gv v' : Value} {m : UInt8} (hkA : Kp [] wr w1) (hu : ∀ b, u.ownBlock = some b → b < wu.heap.size)
    (hrd : Rd wr u (List.replicate n m)) (hbl : gv.ownBlock = u.ownBlock ∨ ∀ b, gv.ownBlock = some b → wu.heap.size ≤ b) (hk : Kp u.ownBlock.toList wu wr)
    (ho : OB w' 5 B v' (List.replicate (n + (k + 1)) m)) (hg : (v'.ownBlock = gv.ownBlock ∧ w1.grownBy w' gv.ownBlock) ∨ (Kp [] w1 w' ∧ ∀ b, v'.ownBlock = some b → w1.heap.size ≤ b)) :
    Rd w' u (List.replicate n m) ∧ (v'.ownBlock = u.ownBlock ∨ ∀ b, v'.ownBlock = some b → wu.heap.size ≤ b) ∧ Kp u.ownBlock.toList wu w' := by
  have hs1 := hk.size
  have hs2 := hkA.size
  rcases hg with ⟨he, hg⟩ | ⟨hg, hf⟩
  · have hkg : Kp gv.ownBlock.toList w1 w' := (Kp.refl _ _).grown hg (fun q hq => .inl (by simp [hq]))
    rcases hbl with h | h
    · rw [h] at hkg he
      refine ⟨?_, .inl he, (hk.trans hkA.nil).trans hkg⟩
      have hc := Rd.cut (l := List.replicate (n + (k + 1)) m) (k := n) (w0 := wr) (by simpa [List.take_replicate] using hrd) ho he (by simp)
      simpa [List.take_replicate] using hc
    · refine ⟨(hrd.kp hkA (by simp)).kp hkg (fun b hb hm => by have := hu b hb; have := h b (by simpa using hm); omega), .inr (fun b hb => h b (by rw [← he]; exact hb)), (hk.trans hkA.nil).trans' hkg (fun b hb => .inr (h b (by simpa using hb)))⟩
  · exact ⟨(hrd.kp hkA (by simp)).kp hg (by simp), .inr (fun b hb => by have := hf b hb; omega), (hk.trans hkA.nil).trans hg.nil⟩
end Go.Proofs.YtddpefbpiehgeaaDoor

/- The laws' helper Owned: the walk. -/
namespace Go.Proofs.YtddpefbpiehgeaaDoor
open Go Go.RowKit
set_option maxRecDepth 100000
set_option linter.unusedVariables false
set_option linter.unusedSectionVars false
set_option linter.unusedSimpArgs false

set_option maxHeartbeats 2000000 in
theorem owned_calls (B : Nat) (v : Value) (us : List Value) (its : List (List UInt8)) (w : World) (hown : Own w B 23 1 v its.length us) (hits : Its w B us its) (hn : its.length ≤ 2000000000000) (hl : ∀ x ∈ its, x.length ≤ 140737488355000) :
    Calls Tryd.prog 18 #[v] w fun e w' => e = .returned (.bool true) ∧ Kp (us.filterMap Value.ownBlock) w w' := by
  obtain ⟨va, vc, rfl⟩ := own_form hown
  obtain ⟨i0, hi0, hz0, hz1, hz2⟩ := info_parts u8infoF
  obtain ⟨i1, hi1, hy0, hy1, hy2⟩ := info_parts rowinfo
  have hul := hits.1
  have hSu : ∀ b, b ∈ us.filterMap Value.ownBlock ↔ ∃ u ∈ us, u.ownBlock = some b := fun b => by simp [List.mem_filterMap]
  obtain ⟨S, hS⟩ : ∃ S, S = us.filterMap Value.ownBlock := ⟨_, rfl⟩
  rw [← hS] at hSu ⊢
  have hSlt : ∀ b ∈ S, b < w.heap.size := fun b hb => by
    obtain ⟨u, hu, he⟩ := (hSu b).1 hb
    exact (hits.lt u hu b he).2
  have hrowS : ∀ b, (Value.slice va its.length vc).ownBlock = some b → b ∉ S := fun b hb hm => by
    obtain ⟨u, hu, he⟩ := (hSu b).1 hm
    obtain ⟨i, hi⟩ := List.mem_iff_getElem?.1 hu
    obtain ⟨u', h1, h2⟩ := hits.2.1 i (by rw [← hul]; exact (List.getElem?_eq_some_iff.1 hi).1)
    rw [hi] at h1; cases h1
    exact own_ne h2 hown (by decide) b he hb
  have htodo : ToDo w w B us its 0 := fun j _ u x hu hx => by
    obtain ⟨hj, rfl⟩ := List.getElem?_eq_some_iff.1 hx
    obtain ⟨u', h1, h2⟩ := hits.2.1 j hj
    rw [hu] at h1; cases h1
    exact h2
  have hap := hits.2.2
  have HN := Lib.hid hn
  have HSU := Lib.hid hSu
  have HSLT := Lib.hid hSlt
  have HROW := Lib.hid hrowS
  have HAP := Lib.hid hap
  have HUL := Lib.hid hul
  have HL := Lib.hid hl
  clear hSu hSlt hrowS hap hul hl hS
  have hn' : (its.length : Int) ≤ 2000000000000 := by omega
  go_enter Tryd.func18, Tryd.ntmps18
  go_wp2_with fail
  go_loopw [3, 4] (fun v3 v4 wr => ∃ (i : Nat) (ls : List Value), i ≤ its.length ∧ v4 = .int .i64 i ∧ Own wr w.heap.size 23 1 v3 (2 * i) ls ∧ Kp S w wr ∧ ToDo w wr B us its i ∧ (∀ q, q < 2 * i → RowDone w wr us its ls q)) (fun _ v4 _ => its.length - (intOf v4).toNat)
  case atStart => exact ⟨0, [], by omega, rfl, Own.nil _ _ _ _, Kp.refl _ _, htodo, fun q hq => by omega⟩
  case round =>
    clear htodo hits
    obtain ⟨i, ls, hil, rfl, hlong, hkr, htd, hdone⟩ := hrel
    obtain ⟨la, lc, rfl⟩ := own_form hlong
    by_cases hlt : i < its.length
    · obtain ⟨u, hu⟩ : ∃ u, us[i]? = some u := ⟨us[i]'(by have := HUL.out; omega), by simp [HUL.out, hlt]⟩
      obtain ⟨x, hx⟩ : ∃ x, its[i]? = some x := ⟨its[i], by simp [hlt]⟩
      have hxl : x.length ≤ 140737488355000 := HL.out x (List.mem_of_getElem? hx)
      have huS : ∀ b, u.ownBlock = some b → b ∈ S := fun b hb => (HSU.out b).2 ⟨u, List.mem_of_getElem? hu, hb⟩
      have hob := htd i (Nat.le_refl _) u x hu hx
      obtain ⟨ua, uc, rfl⟩ := own_form hob
      have hrow := own_kp hown hkr HROW.out
      obtain ⟨rb, rfl⟩ : ∃ rb, va = some ⟨rb, 0, none⟩ := by
        rcases hown.2 with ⟨h, h0⟩ | ⟨g, cap, cur, fr, hv, _⟩
        · omega
        · cases hv; exact ⟨g, rfl⟩
      have hrc := Own.cellAt hrow i (by omega)
      rw [hu] at hrc
      have hrl := (Own.lt hrow rb rfl).2
      have hru : ∀ b, (Value.slice ua x.length uc).ownBlock = some b → b ≠ rb := fun b hb e => by subst e; exact HROW.out b rfl (huS b hb)
      have hm := mkB_wrap i
      have hi1' : (0 : Int) ≤ i ∧ (i : Int) < its.length := by omega
      obtain ⟨hi2, hi3⟩ := hi1'
      generalize hmk : mkB i = m at *
      have HMK := Lib.hid hmk
      clear hmk
      have hrow2 : ∀ wq, Kp (Value.slice ua x.length uc).ownBlock.toList wr wq → wq.cell? ⟨rb, i, none⟩ = some (.slice ua x.length uc) ∧ rb < wq.heap.size := fun wq hk => by
        refine ⟨by rw [hk.cells.1 rb i hrl (fun hm => hru rb (by simpa using hm) rfl)]; exact hrc, Nat.lt_of_lt_of_le hrl hk.size⟩
      have HROW2 := Lib.hid hrow2
      have HRU := Lib.hid hru
      have HUS := Lib.hid huS
      have HDONE := Lib.hid hdone
      have HTD := Lib.hid htd
      have HU := Lib.hid hu
      have HX := Lib.hid hx
      clear hrow2 hru huS hdone htd hu hx
      go_wp2_with fail
      have hd0 : decide ((0 : Int) ≤ (i : Int)) = true := by simp
      clear hrc
      obtain ⟨wo, rfl⟩ : ∃ wo : World, wo = wr := ⟨_, rfl⟩
      go_loopw [6] (fun v6 wq => ∃ k : Nat, k ≤ x.length ∧ v6 = .int .i64 k ∧ OB wq 5 B (.slice ua x.length uc) (List.replicate k m ++ x.drop k) ∧ Kp (Value.slice ua x.length uc).ownBlock.toList wo wq) (fun v6 _ => x.length - (intOf v6).toNat)
      case atStart => exact ⟨0, by omega, rfl, by simpa using hob, Kp.refl _ _⟩
      case round =>
        clear hob
        obtain ⟨k, hk, rfl, hob, hkq⟩ := hrel
        obtain ⟨hrc, hrl'⟩ := HROW2.out wr hkq
        by_cases hkx : k < x.length
        · obtain ⟨g, hg⟩ : ∃ g, ua = some ⟨g, 0, none⟩ := by
            exact (ob_shape hob).2.1 (by simp; omega)
          subst hg
          have hxl2 : x.length = (List.replicate k m ++ x.drop k).length := by simp; omega
          have hst := ob_stored hob hxl2 k m
          rw [rep_set k 0 x m hkx] at hst
          obtain ⟨y, hcell⟩ : ∃ y, wr.cell? ⟨g, k, none⟩ = some y := ⟨_, ob_cellAt hob hxl2 k (by omega)⟩
          have hfrz := ob_frozenAt hob hxl2 k (by have := (ob_shape hob).1; omega)
          have hgl := (Own.lt hob g rfl).2
          have hks := hkq.setCell (p := ⟨g, k, none⟩) (.inl (by simp [Value.ownBlock])) (.int .u8 (m.toNat : Int))
          have hb1 : (0 : Int) ≤ k ∧ (k : Int) < x.length := by omega
          obtain ⟨hb1, hb2⟩ := hb1
          have HST := Lib.hid hst
          clear hst hob hxl2
          go_wp2_with fail
          go_roundw
          case measure => simp [intOf]; omega
          case rel => exact ⟨k + 1, by omega, by go_num, HST.out, hks⟩
        · obtain rfl : k = x.length := by omega
          have hd : decide ((x.length : Int) < (x.length : Int)) = false := by simp
          have hob2 : OB wr 5 B (.slice ua x.length uc) (List.replicate x.length m) := by simpa using hob
          clear hob
          go_wp2_with fail
          obtain ⟨wu, rfl⟩ : ∃ wu : World, wu = wr := ⟨_, rfl⟩
          have hrd0 := Rd.of hob2
          go_loopw [7, 8] (fun v7 v8 wq => ∃ k : Nat, k ≤ 9 ∧ v8 = .int .i64 k ∧ OB wq 5 B v7 (List.replicate (x.length + k) m) ∧ Rd wq (.slice ua x.length uc) (List.replicate x.length m) ∧ (v7.ownBlock = (Value.slice ua x.length uc).ownBlock ∨ ∀ b, v7.ownBlock = some b → wu.heap.size ≤ b) ∧ Kp (Value.slice ua x.length uc).ownBlock.toList wu wq) (fun _ v8 _ => 9 - (intOf v8).toNat)
          case atStart => exact ⟨0, by omega, rfl, hob2, hrd0, .inl rfl, Kp.refl _ _⟩
          case round =>
            clear hrd0 hob2
            obtain ⟨k, hk, rfl, hob, hrd, hbl, hkq2⟩ := hrel
            obtain ⟨ga, gc, hform⟩ := own_form hob
            rw [List.length_replicate] at hform
            subst hform
            have huw : ∀ b, (Value.slice ua x.length uc).ownBlock = some b → b < wu.heap.size := fun b hb => by
              have := HSLT.out b (HUS.out b hb); have := hkr.size; have := hkq.size; omega
            have hBr : B ≤ wr.heap.size := by have := (hown.lt rb rfl).1; have := hkq2.size; omega
            by_cases hk9 : k < 9
            · go_wp2_with (with_reducible refine stop_app ?_)
              unfold Stop
              have hkA := (Kp.refl [] wr).alloc (.cells #[.int .u8 (m.toNat : Int)] 5)
              have hobA := ob_unrep (own_kp hob hkA (by simp))
              refine wpList_app2 _ rfl _ _ 23 23 rfl B 5 i0 _ 1 1 Tryd.underlying23 hi0 hz0 hz1 hz2 rfl (by omega) (.slice ga (x.length + k) gc) (x.length + k) _ rfl hobA (.slice (some ⟨wr.heap.size, 0, none⟩) 1 1) 1 [.int .u8 (m.toNat : Int)] rfl (Src.of_sl Tryd.underlying23 (sl_alloc wr 5 _ _ rfl 1 1 rfl) (by simp [Value.oneCell'])) (by omega) (by omega) (by simp; omega) ?_
              intro v6 w6 ho6 hg6
              rw [bcells_rep] at ho6
              have ho7 := ob_rep (n' := x.length + (k + 1)) ho6 (by omega) (by rw [Nat.add_assoc])
              obtain ⟨g1, g2, g3⟩ := grow_one (k := k) hkA huw hrd hbl hkq2 ho7 hg6
              have HO7 := Lib.hid ho7
              have HG2 := Lib.hid g2
              clear ho6 hg6 hobA hob hbl ho7 g2 hrd
              go_wp2_with fail
              go_roundw
              case measure => simp [intOf]; omega
              case rel => exact ⟨k + 1, by omega, by go_num, HO7.out, g1, HG2.out, g3⟩
            · obtain rfl : k = 9 := by omega
              obtain ⟨hrc3, hrl3⟩ := HROW2.out wr (hkq.trans hkq2)
              go_wp2_with (with_reducible refine stop_app ?_)
              unfold Stop
              have hkA := (Kp.refl [] wr).alloc (.cells #[.slice ga (x.length + 9) gc, .slice ua x.length uc] 23)
              have hkoA : Kp (Value.slice ua x.length uc).ownBlock.toList wo (wr.alloc (.cells #[.slice ga (x.length + 9) gc, .slice ua x.length uc] 23)) := (hkq.trans hkq2).trans hkA.nil
              have hlongA := own_kp hlong hkoA (fun b hb hm => by have := (hlong.lt b hb).1; have := HSLT.out b (HUS.out b (by simpa using hm)); omega)
              have hin := HN.out
              refine wpList_app _ rfl _ _ 22 22 rfl w.heap.size 23 i1 _ 1 24 Tryd.underlying22 hi1 hy0 hy1 hy2 rfl (by omega) (.slice la (2 * i) lc) (2 * i) ls rfl hlongA (.slice (some ⟨wr.heap.size, 0, none⟩) 2 2) 2 [.slice ga (x.length + 9) gc, .slice ua x.length uc] rfl (Src.of_sl Tryd.underlying22 (sl_alloc wr 23 _ _ rfl 1 2 rfl) (by simp [Value.oneCell'])) (by omega) (by omega) (by have := hkr.size; have := hkoA.size; omega) ?_
              intro v8 w8 ho8 hg8 hx8
              have hk8 : Kp (Value.slice la (2 * i) lc).ownBlock.toList (wr.alloc (.cells #[.slice ga (x.length + 9) gc, .slice ua x.length uc] 23)) w8 := (Kp.refl _ _).grown hg8 (fun q hq => .inl (by simp [hq]))
              have hlsl : ls.length = 2 * i := by have := hlong.1; omega
              have hKP : Kp S w w8 := (hkr.trans (hkoA.mono (fun b hb => .inl (HUS.out b (by simpa using hb))))).trans' hk8 (fun b hb => .inr ((hlong.lt b (by simpa using hb)).1))
              have hTD : ToDo w w8 B us its (i + 1) := fun j hj u' x' hu' hx' => by
                have h1 := HTD.out j (by omega) u' x' hu' hx'
                have h2 := own_kp h1 hkoA (fun b hb hm => HAP.out j i u' _ (by omega) hu' HU.out b hb (by simpa using hm))
                exact own_kp h2 hk8 (fun b hb hm => own_ne h2 hlongA (by decide) b hb (by simpa using hm))
              have hobA : OB _ 5 B (.slice ga (x.length + 9) gc) (List.replicate (x.length + 9) m) := own_kp hob hkA (by simp)
              have hrdA := hrd.kp hkA (by simp)
              have hDN : ∀ q, q < 2 * (i + 1) → RowDone w w8 us its (ls ++ [.slice ga (x.length + 9) gc, .slice ua x.length uc]) q := fun q hq => by
                by_cases hq1 : q < 2 * i
                · have h1 := (HDONE.out q hq1).kp hkoA (fun b hb => ⟨HSLT.out b (HUS.out b (by simpa using hb)), fun y hy he => HAP.out (q / 2) i y _ (by omega) hy HU.out b he (by simpa using hb)⟩)
                  exact (h1.kpT hlongA (by decide) hk8).more
                · by_cases hq2 : q = 2 * i
                  · subst hq2
                    have e1 : 2 * i / 2 = i := by omega
                    have e2 : 2 * i % 2 = 0 := by omega
                    refine ⟨.slice ga (x.length + 9) gc, .slice ua x.length uc, x, ?_, by rw [e1]; exact HU.out, by rw [e1]; exact HX.out, ?_, fun b hb => ?_⟩
                    · rw [List.getElem?_append_right (by omega), hlsl, Nat.sub_self]; rfl
                    · rw [e1, e2, if_pos rfl, HMK.out]
                      exact (Rd.of hobA).kp hk8 (fun b hb hm => (Rd.of hobA).ne hlongA (by decide) b hb (by simpa using hm))
                    · rcases hbl with h | h
                      · exact .inl (by rw [← h]; exact hb)
                      · have := h b hb; have := hkr.size; have := hkq.size; exact .inr (by omega)
                  · obtain rfl : q = 2 * i + 1 := by omega
                    have e1 : (2 * i + 1) / 2 = i := by omega
                    have e2 : ¬ (2 * i + 1) % 2 = 0 := by omega
                    refine ⟨.slice ua x.length uc, .slice ua x.length uc, x, ?_, by rw [e1]; exact HU.out, by rw [e1]; exact HX.out, ?_, fun b hb => .inl hb⟩
                    · rw [List.getElem?_append_right (by omega), hlsl, Nat.add_sub_cancel_left]; rfl
                    · rw [e1, if_neg e2, HMK.out, Nat.add_zero]
                      exact hrdA.kp hk8 (fun b hb hm => hrdA.ne hlongA (by decide) b hb (by simpa using hm))
              have HTD8 := Lib.hid hTD
              have HDN := Lib.hid hDN
              have HO8 := Lib.hid ho8
              clear hTD hDN ho8 hob hobA hrd hrdA hbl hlong hlongA hrow huw hlsl hrc3 hrc hx8 hg8 hown
              go_wp2_with fail
              go_roundw
              case measure => simp [intOf]; omega
              case rel => exact ⟨i + 1, _, by omega, by go_num, HO8.out, hKP, HTD8.out, HDN.out⟩
    · obtain rfl : i = its.length := by omega
      have hd : decide ((its.length : Int) < (its.length : Int)) = false := by simp
      have HDONE := Lib.hid hdone
      have HTD := Lib.hid htd
      have hnn : (2 * its.length : Nat) ≤ 4000000000000 := by omega
      clear hdone htd
      generalize hN : 2 * its.length = N at *
      have HNN := Lib.hid hN
      clear hN
      go_wp2_with fail
      go_loop [9] (fun v9 => ∃ q : Nat, q ≤ N ∧ v9 = .int .i64 q) (fun v9 => N - (intOf v9).toNat)
      case atStart => exact ⟨0, by omega, rfl⟩
      case round =>
        obtain ⟨q, hq, rfl⟩ := hrel
        by_cases hqn : q < N
        · obtain ⟨u, y, x, h1, h2, h3, h4, -⟩ := HDONE.out q hqn
          have hL : (x.length + if q % 2 = 0 then 9 else 0) ≤ 140737488355100 := by
            have := HL.out x (List.mem_of_getElem? h3)
            split <;> omega
          generalize (x.length + if q % 2 = 0 then 9 else 0) = L at *
          obtain ⟨lb, rfl⟩ : ∃ lb, la = some ⟨lb, 0, none⟩ := by
            rcases hlong.2 with ⟨h, h0⟩ | ⟨g, cap, cur, fr, hv, _⟩
            · omega
            · cases hv; exact ⟨g, rfl⟩
          have hlc := Own.cellAt hlong q (by omega)
          rw [h1] at hlc
          have hll := (Own.lt hlong lb rfl).2
          have hm := mkB_wrap (q / 2)
          generalize mkB (q / 2) = m at *
          obtain ⟨ua, uc, hu, hcell⟩ := Rd.form h4
          rw [List.length_replicate] at hu hcell
          subst hu
          have hq2 : ((q / 2 : Nat) : Int) = (q : Int) / 2 := by omega
          rw [hq2] at hm
          have hq3 : (0 : Int) ≤ q ∧ (q : Int) < N ∧ 0 ≤ (q : Int) / 2 := by omega
          obtain ⟨hq3, hq4, hq5⟩ := hq3
          have HCELL := Lib.hid hcell
          clear h1 h2 h3 h4 hcell hq2
          go_wp2_with fail
          go_loop [10] (fun v10 => ∃ k : Nat, k ≤ L ∧ v10 = .int .i64 k) (fun v10 => L - (intOf v10).toNat)
          case atStart => exact ⟨0, by omega, rfl⟩
          case round =>
            obtain ⟨k, hk, rfl⟩ := hrel
            by_cases hkl : k < L
            · obtain ⟨g, rfl, hg, hc⟩ := HCELL.out (by omega)
              have hck := hc k hkl
              have hkm : (List.replicate L m).getD k 0 = m := by simp [List.getD, hkl]
              rw [hkm] at hck
              have hk2 : (0 : Int) ≤ k ∧ (k : Int) < L := by omega
              obtain ⟨hk2, hk3⟩ := hk2
              clear hc hkm
              go_wp2_with fail
              go_round
              case measure => simp [intOf]; omega
              case rel => exact ⟨k + 1, by omega, by go_num⟩
            · obtain rfl : k = L := by omega
              have hd : decide ((k : Int) < (k : Int)) = false := by simp
              go_wp2_with fail
              go_round
              case measure => simp [intOf]; omega
              case rel => exact ⟨q + 1, by omega, by go_num⟩
        · obtain rfl : q = N := by omega
          have hd : decide ((q : Int) < (q : Int)) = false := by simp
          go_wp2_with fail
          go_ret
          exact ⟨rfl, hkr⟩
end Go.Proofs.YtddpefbpiehgeaaDoor

/- The link: a sender's memory. -/
namespace Go.Proofs.YtddpefbpiehgeaaDoor
open Go Go.RowKit
set_option maxRecDepth 100000
set_option linter.unusedVariables false
set_option linter.unusedSectionVars false
set_option linter.unusedSimpArgs false

theorem mlaw : Maps.Keyed Tryd.prog 3 := Maps.int_keyed Tryd.underlying3
theorem mzero (w : World) : (zeroValue 3).run Tryd.prog w = .ok (.int .i64 0) w := by kernel_rfl

/-- A key that is an int. -/
def isInt (k : Int) : Prop := -9223372036854775808 ≤ k ∧ k ≤ 9223372036854775807
theorem isInt.wf {k : Int} (h : isInt k) : (Lit.int .i64 k).wf = true := WalkArith.wf_i64 h
theorem isInt.of {k : Int} (h : (Lit.int .i64 k).wf = true) : isInt k := by
  simp [Lit.wf, IntKind.min, IntKind.max, IntKind.signed, IntKind.bits] at h
  exact ⟨by omega, by omega⟩
theorem isInt.key {k : Int} (h : isInt k) : _root_.Go.keyOf Tryd.prog 3 (.int .i64 k) = some (.int .i64 k) := Maps.keyOf_int_mk Tryd.underlying3 h.wf

/-- What a datum tells of numbers. -/
def Tells (D : DataW Unit) (f : Sent) : Prop := ∀ k, isInt k → Maps.has D (.int .i64 k) = (f k).isSome ∧ ∀ c, f k = some c → ∀ z, D.atKey (.int .i64 k) z = .lit (.int .i64 c)

/-- Block b is a map that tells f. -/
def MI (w : World) (b n : Nat) (f : Sent) : Prop := ∃ D : DataW Unit, w.ownsMap Tryd.prog 3 (plainElem Tryd.prog 3) b n D ∧ Tells D f

theorem MI.made (w : World) : MI (w.alloc (.map #[] 0)) w.heap.size 0 (fun _ => none) :=
  ⟨.map [], World.ownsMap_made _ _ _ _, fun k _ => ⟨rfl, fun c h => by cases h⟩⟩
theorem MI.lt {w : World} {b n : Nat} {f : Sent} (h : MI w b n f) : b < w.heap.size := by obtain ⟨D, h, _⟩ := h; exact h.lt
theorem MI.kp {S : List Nat} {w w' : World} {b n : Nat} {f : Sent} (h : MI w b n f) (hk : Kp S w w') (hS : b ∉ S) : MI w' b n f := by
  obtain ⟨D, ⟨es, clock, hb, r⟩, hd⟩ := h
  exact ⟨D, ⟨es, clock, hk.heap hb hS, r⟩, hd⟩
theorem MI.mono {w : World} {b n n' : Nat} {f : Sent} (h : MI w b n f) (hn : n ≤ n') : MI w b n' f := by
  obtain ⟨D, h1, h2⟩ := h; exact ⟨D, h1.mono hn, h2⟩
theorem MI.not_cells {w : World} {b n : Nat} {f : Sent} (h : MI w b n f) {c : Array Value} {T : TypeId} {fr : Nat × Nat} {g : Nat} (hg : w.heap[g]? = some (.cells c T fr)) : g ≠ b := by
  obtain ⟨D, ⟨es, clock, hb, _⟩, _⟩ := h
  intro e
  rw [e, hb] at hg
  cases hg

theorem MI.look {w : World} {b n : Nat} {f : Sent} (h : MI w b n f) {k : Int} (hk : isInt k) :
    ∃ c, (Instr.lookup 85 (.map (some b)) (.int .i64 k) true).run Tryd.prog w = .ok (.tuple #[.int .i64 c, .bool (f k).isSome]) w ∧ ∀ c', f k = some c' → c = c' := by
  obtain ⟨D, ho, ht⟩ := h
  obtain ⟨v, ps, hrun, hv⟩ := ho.look_ok mlaw Tryd.underlying85 (mzero w) (plainElem_int Tryd.underlying3 (by decide)) hk.key
  obtain ⟨c, rfl, hc, hw⟩ := plainElem_int_inv Tryd.underlying3 hv
  obtain ⟨h1, h2⟩ := ht k hk
  rw [h1] at hrun
  refine ⟨c, hrun, fun c' hc' => ?_⟩
  have := h2 c' hc' (.lit (.int .i64 0))
  have h3 := congrArg Prod.fst hc
  simp only at h3
  rw [this] at h3
  cases h3
  rfl

theorem Tells.put {D : DataW Unit} {f : Sent} (h : Tells D f) (hm : Maps.IsMap D) {k c : Int} : Tells (D.put (.int .i64 k) (.lit (.int .i64 c))) (f.put k c) := by
  intro z hz
  by_cases he : z = k
  · subst he
    refine ⟨by rw [Maps.has_put_same hm (k := .int .i64 z) trivial]; simp [Sent.put], fun c' hc' y => ?_⟩
    rw [Maps.atKey_put_same hm (k := .int .i64 z) trivial]
    simp only [Sent.put, if_pos] at hc'
    cases hc'
    rfl
  · have hne : Lit.int .i64 z ≠ Lit.int .i64 k := fun e => he (by cases e; rfl)
    obtain ⟨h1, h2⟩ := h z hz
    refine ⟨by rw [Maps.has_put_other hne, h1]; simp [Sent.put, he], fun c' hc' y => ?_⟩
    rw [Maps.atKey_put_other hne]
    simp only [Sent.put, if_neg he] at hc'
    exact h2 c' hc' y

theorem Tells.del {D : DataW Unit} {f : Sent} (h : Tells D f) (k : Int) : Tells (D.del (.int .i64 k)) (fun z => if z = k then none else f z) := by
  intro z hz
  by_cases he : z = k
  · subst he
    exact ⟨by rw [Maps.has_del_same]; simp, fun c' hc' y => by simp at hc'⟩
  · have hne : Lit.int .i64 z ≠ Lit.int .i64 k := fun e => he (by cases e; rfl)
    obtain ⟨h1, h2⟩ := h z hz
    refine ⟨by rw [Maps.has_del_other hne, h1]; simp [he], fun c' hc' y => ?_⟩
    rw [Maps.atKey_del_other hne]
    simp only [if_neg he] at hc'
    exact h2 c' hc' y

theorem Kp.turned {S : List Nat} {w w' : World} {b : Nat} (h : w.mapTurned w' b) (hb : b ∈ S) : Kp S w w' :=
  ((Kp.refl S w).grown h.grown (fun k hk => .inl (by cases hk; exact hb)))

/-- m[k] = c in a region that draws. -/
theorem step_put {ops : Array Oper} {o : Oper} {a : Act} {w : World} {K : Act → World → Prop} {Q : Exit → Act → World → Prop} {E : Prop} (hgd : o.guard = none) (m x v : Operand) (hop : o.op = Op.mapUpdate 85 m x v)
    (b n : Nat) (f : Sent) (hm : a.eval m = .map (some b)) (h : MI w b n f) (hn : n ≤ 100000000000000) (k c : Int) (hx : a.eval x = .int .i64 k) (hv : a.eval v = .int .i64 c) (hk : isInt k) (hc : isInt c)
    (hK : ∀ w', MI w' b (n + 1) (f.put k c) → Kp [b] w w' → w'.heap.size = w.heap.size → K (a.put o.dst undef) w') :
    if Region.wanted o (yielded ops a.tmps) = true then Oper.wp Tryd.prog o a w K Q else E := by
  have hw : Region.wanted o (yielded ops a.tmps) = true := by simp [Region.wanted, hgd]
  rw [if_pos hw]
  obtain ⟨D, ho, ht⟩ := h
  obtain ⟨w', hrun, r1, r2⟩ := ho.store mlaw Tryd.underlying85 (by unfold maxLen; omega) hk.key (plainElem_int Tryd.underlying3 hc.wf)
  unfold Oper.wp
  simp [execOp, hop, hm, hx, hv, hrun, Result.andThen]
  exact hK w' ⟨_, r1, ht.put ho.isMap⟩ (Kp.turned r2 (by simp)) (by obtain ⟨es, cl, es', cl', _, rfl⟩ := r2; simp [ChangeMaps.setBlock])
end Go.Proofs.YtddpefbpiehgeaaDoor

/- The link: a sender, what is due. -/
namespace Go.Proofs.YtddpefbpiehgeaaDoor
open Go Go.RowKit
set_option maxRecDepth 100000
set_option linter.unusedVariables false
set_option linter.unusedSectionVars false
set_option linter.unusedSimpArgs false

/-- A sender. -/
structure IsS (w : World) (p mb n win bat : Nat) (ev clk : Int) (f : Sent) : Prop where
  cells : w.heap[p]? = some (.cells #[.int .i64 win, .int .i64 bat, .int .i64 ev, .int .i64 clk, .map (some mb)] 87 (0, 0))
  map : MI w mb n f
  old : ∀ k c, f k = some c → 0 ≤ c ∧ c ≤ clk
  win1 : 1 ≤ win
  win9 : win ≤ 64
  bat1 : 1 ≤ bat
  bat9 : bat ≤ 8
  ev1 : 1 ≤ ev
  ev9 : ev ≤ 1000
  clk0 : 0 ≤ clk
theorem IsS.kp {S : List Nat} {w w' : World} {p mb n win bat : Nat} {ev clk : Int} {f : Sent} (h : IsS w p mb n win bat ev clk f) (hk : Kp S w w') (hp : p ∉ S) (hm : mb ∉ S) : IsS w' p mb n win bat ev clk f :=
  { h with cells := hk.heap h.cells hp, map := h.map.kp hk hm }
theorem IsS.lt {w : World} {p mb n win bat : Nat} {ev clk : Int} {f : Sent} (h : IsS w p mb n win bat ev clk f) : p < w.heap.size ∧ mb < w.heap.size ∧ p ≠ mb := ⟨lt_of_heap h.cells, h.map.lt, h.map.not_cells h.cells⟩

theorem newSender_calls (win bat : Nat) (ev : Int) (w : World) (h1 : 1 ≤ win) (h2 : win ≤ 64) (h3 : 1 ≤ bat) (h4 : bat ≤ 8) (h5 : 1 ≤ ev) (h6 : ev ≤ 1000) :
    Calls Tryd.prog 27 #[.int .i64 win, .int .i64 bat, .int .i64 ev] w fun e w' => ∃ p mb, e = .returned (.tuple #[.pointer (some ⟨p, 0, none⟩), .int .i64 0]) ∧ IsS w' p mb 0 win bat ev 0 (fun _ => none) ∧ w.heap.size ≤ p ∧ w.heap.size ≤ mb ∧ Kp [] w w' := by
  have hmm := @run_makeMap Tryd.prog
  have hi : (1 : Int) ≤ win ∧ (win : Int) ≤ 64 ∧ (1 : Int) ≤ bat ∧ (bat : Int) ≤ 8 := by omega
  obtain ⟨i1, i2, i3, i4⟩ := hi
  go_enter Tryd.func27, Tryd.ntmps27
  go_wp2
  go_ret2
  have hk : Kp [] w (w.alloc (.map #[] 0)) := (Kp.refl [] w).alloc _
  refine ⟨w.heap.size + 1, w.heap.size, rfl, ⟨?_, (MI.made w).kp ((Kp.refl [] _).alloc _) (by simp), fun k c h => (by cases h), h1, h2, h3, h4, h5, h6, by omega⟩, by omega, Nat.le_refl _, hk.alloc _⟩
  have := heap_alloc_new (w.alloc (.map #[] 0)) (.cells #[.int .i64 win, .int .i64 bat, .int .i64 ev, .int .i64 0, .map (some w.heap.size)] 87)
  simpa using this

theorem due_calls (p mb n win bat : Nat) (ev clk q : Int) (f : Sent) (u : Value) (ua : Option Addr) (ul uc : Nat) (hu : u = .slice ua ul uc) (w : World) (hs : IsS w p mb n win bat ev clk f) (hclk : clk ≤ 1000000000000000) (hq : isInt q) :
    Calls Tryd.prog 49 #[.pointer (some ⟨p, 0, none⟩), .agg #[.int .i64 q, u]] w fun e w' => e = .returned (.bool (dueB f clk ev q)) ∧ Kp [] w w' := by
  subst hu
  have hk0 := (Kp.refl [] w).alloc (.cells #[.int .i64 q, .slice ua ul uc] 51)
  have hh0 := heap_alloc_new w (.cells #[.int .i64 q, .slice ua ul uc] 51)
  have hs0 := hs.kp hk0 (by simp) (by simp)
  obtain ⟨c, hrun, hc⟩ := (hs0.map.kp ((Kp.refl [] _).drew) (by simp)).look hq
  have hold := hs.old q
  have hev := hs.ev1
  have hev9 := hs.ev9
  have hclk0 := hs.clk0
  have hpc := hs0.cells
  have hpl := hs.lt
  go_enter Tryd.func49, Tryd.ntmps49
  go_wp2_with fail
  generalize w.alloc (.cells #[.int .i64 q, .slice ua ul uc] 51) = w0 at *
  obtain ⟨c0, c1, c2, c3, c4⟩ := cells5 hpc
  have d0 := cell_heap hh0 0
  simp only [List.getElem?_toArray, List.getElem?_cons_zero] at d0
  have hS : Gr w0 [w.heap.size, p] w0.drew := Gr.of (fun _ _ => rfl)
  have hS2 : Gr w0 [w.heap.size, p] w0.drew.drew := Gr.of (fun _ _ => rfl)
  have hb : dueB f clk ev q = (!(f q).isSome || decide (ev ≤ clk - c)) := by
    unfold dueB
    cases hf : f q with
    | none => rfl
    | some c' => rw [hc c' hf]; rfl
  have hcb : (f q).isSome = true → 0 ≤ c ∧ c ≤ clk := fun h => by
    cases hf : f q with
    | none => rw [hf] at h; cases h
    | some c' => rw [hc c' hf]; exact hold c' hf
  have HB := Lib.hid hb
  clear hb hc hold hs hs0
  cases hso : (f q).isSome with
  | false =>
    rw [hso] at hrun HB
    clear hso hcb
    refine wp_plan (.H 0 (.H 1 (.H 2 (.H 3 (.H 4 (.H 5 (.E 6 true (.E 7 true (.H 8 (.H 9 (.E 10 true (.E 11 false .Z)))))))))))) (Gr w0 [w.heap.size, p]) (by as_aux_lemma => kernel_rfl) (by as_aux_lemma => kernel_rfl) ?_
    repeat (first | (refine plan_H rfl hS (fun K hK => ?_); go_simp; refine hK _ ?_; clear hK K) | (refine plan_E rfl (fun K hK => ?_); go_simp; (first | refine hK _ _ (fun _ => hS) ?_ | refine hK _ _ nofun ?_); clear hK K))
    refine plan_Z ?_
    go_wp2_with fail
    refine wp_plan (.H 0 (.H 1 (.H 2 (.H 3 (.H 4 (.H 5 (.H 6 (.H 7 (.H 8 (.H 9 (.H 10 (.H 11 (.H 12 (.E 13 false (.E 14 false (.E 15 false .Z)))))))))))))))) (Gr w0 [w.heap.size, p]) (by as_aux_lemma => kernel_rfl) (by as_aux_lemma => kernel_rfl) ?_
    repeat (first | (refine plan_H rfl hS2 (fun K hK => ?_); go_simp; refine hK _ ?_; clear hK K) | (refine plan_E rfl (fun K hK => ?_); go_simp; (first | refine hK _ _ (fun _ => hS2) ?_ | refine hK _ _ nofun ?_); clear hK K))
    refine plan_Z ?_
    go_wp2_with fail
    go_ret
    rw [HB.out]
    exact ⟨rfl, (hk0.drew).drew⟩
  | true =>
    rw [hso] at hrun HB
    obtain ⟨hc1, hc2⟩ := hcb hso
    clear hso hcb
    refine wp_plan (.H 0 (.H 1 (.H 2 (.H 3 (.H 4 (.H 5 (.E 6 true (.E 7 true (.H 8 (.H 9 (.E 10 true (.E 11 false .Z)))))))))))) (Gr w0 [w.heap.size, p]) (by as_aux_lemma => kernel_rfl) (by as_aux_lemma => kernel_rfl) ?_
    repeat (first | (refine plan_H rfl hS (fun K hK => ?_); go_simp; refine hK _ ?_; clear hK K) | (refine plan_E rfl (fun K hK => ?_); go_simp; (first | refine hK _ _ (fun _ => hS) ?_ | refine hK _ _ nofun ?_); clear hK K))
    refine plan_Z ?_
    go_wp2_with fail
    refine wp_plan (.H 0 (.H 1 (.H 2 (.H 3 (.H 4 (.H 5 (.H 6 (.H 7 (.H 8 (.H 9 (.H 10 (.H 11 (.H 12 (.E 13 false (.E 14 false (.E 15 false .Z)))))))))))))))) (Gr w0 [w.heap.size, p]) (by as_aux_lemma => kernel_rfl) (by as_aux_lemma => kernel_rfl) ?_
    repeat (first | (refine plan_H rfl hS2 (fun K hK => ?_); go_simp; refine hK _ ?_; clear hK K) | (refine plan_E rfl (fun K hK => ?_); go_simp; (first | refine hK _ _ (fun _ => hS2) ?_ | refine hK _ _ nofun ?_); clear hK K))
    refine plan_Z ?_
    go_wp2_with fail
    go_ret
    rw [HB.out]
    refine ⟨?_, (hk0.drew).drew⟩
    show Ending.returned (.bool _) = .returned (.bool _)
    rw [IntWalk.i64_in _ (by omega)]
    rfl
end Go.Proofs.YtddpefbpiehgeaaDoor

