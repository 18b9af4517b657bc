/- Plain: what holds at each step of a link. -/
import Derived.Test.YtddpefbpiehgeaaDoorOnceP
namespace Go.Proofs.YtddpefbpiehgeaaDoor
open Go Go.RowKit
set_option maxRecDepth 100000
set_option linter.unusedVariables false
set_option linter.unusedSectionVars false
set_option linter.unusedSimpArgs false

theorem and_mask (x : Int) (m : Nat) (hm : m < 65536) : ∃ r : Nat, r ≤ m ∧ bits .and .i64 x (m : Int) = (r : Int) := by
  refine ⟨(BitVec.ofInt 64 x &&& BitVec.ofInt 64 (m : Int)).toNat, ?_, ?_⟩
  · rw [BitVec.toNat_and]
    have h : (BitVec.ofInt 64 (m : Int)).toNat = m := by
      rw [BitVec.toNat_ofInt]; omega
    rw [h]
    exact Nat.and_le_right
  · have h1 : (BitVec.ofInt 64 x &&& BitVec.ofInt 64 (m : Int)).toNat ≤ m := by
      rw [BitVec.toNat_and]
      have h : (BitVec.ofInt 64 (m : Int)).toNat = m := by
        rw [BitVec.toNat_ofInt]; omega
      rw [h]
      exact Nat.and_le_right
    have e : bits .and .i64 x (m : Int) = IntKind.i64.wrap ((BitVec.ofInt 64 x &&& BitVec.ofInt 64 (m : Int)).toNat : Int) := rfl
    rw [e]
    exact IntWalk.i64_in _ (by omega)

structure OInv (xs : List It) (fs ks : List Fr) (tk : List Bool) (gone last : Nat) (nx : Int) : Prop where
  seq : ∀ i (h : i < xs.length), xs[i].q = i + 1
  len : ∀ i (h : i < xs.length), xs[i].b.length ≤ 256
  gl : gone ≤ xs.length
  frs : ∀ g ∈ fs, FrOk xs gone g
  aks : ∀ a ∈ ks, 0 ≤ a.b ∧ a.b ≤ xs.length ∧ ∀ j : Nat, 1 ≤ j → (j : Int) ≤ a.b → tk[j]? = some true
  tkl : tk.length = xs.length + 1
  tkg : ∀ j : Nat, 1 ≤ j → j ≤ gone → tk[j]? = some true
  rc : 0 ≤ nx ∧ nx ≤ xs.length + 1
  tkn : ∀ j : Nat, 1 ≤ j → (j : Int) < nx → tk[j]? = some true
  ls : last ≤ xs.length
  lst : 0 < last → (last : Int) + 1 ≤ nx ∧ (nx = last + 1 ∨ nx ≤ gone + 1)

theorem OInv.start : OInv [] [] [] [false] 0 0 0 :=
  { seq := fun i h => by simp at h, len := fun i h => by simp at h, gl := by simp, frs := fun g h => by simp at h, aks := fun g h => by simp at h, tkl := rfl, tkg := fun j h1 h2 => by omega, rc := by simp, tkn := fun j h1 h2 => by omega, ls := by simp, lst := fun h => by omega }

theorem OInv.frames {xs : List It} {fs ks gs : List Fr} {tk : List Bool} {gone last : Nat} {nx : Int} (h : OInv xs fs ks tk gone last nx) (hg : ∀ g ∈ gs, FrOk xs gone g) : OInv xs (fs ++ gs) ks tk gone last nx :=
  { h with frs := (fun g hm => (List.mem_append.1 hm).elim (h.frs g) (hg g)) }

theorem OInv.tick {xs : List It} {fs ks : List Fr} {tk : List Bool} {gone last : Nat} {nx : Int} (h : OInv xs fs ks tk gone last nx) (win bat : Nat) (clk ev : Int) (f : Sent) (hb : 1 ≤ bat) (hb8 : bat ≤ 8) (hx : xs.length ≤ 4000000) :
    OInv xs (fs ++ (tick win bat clk ev f (xs.drop gone)).2) ks tk gone last nx := by
  refine h.frames (fun g hg => ?_)
  have ht := tick_frames hb g hg
  have hf := ht.few
  have he := ht.ends
  rw [List.length_drop] at he
  have hlt : gone < xs.length := by omega
  have hq : headQ (xs.drop gone) = gone + 1 := by
    rw [List.drop_eq_getElem_cons hlt]
    show xs[gone].q = _
    rw [h.seq gone hlt]
  have hs := ht.seq
  rw [hq] at hs he
  have hh := ht.head
  rw [hq] at hh
  refine ⟨by omega, by omega, fun j hj => ?_, by omega, ht.bare, by omega⟩
  have hi := ht.items j hj
  rw [hq, List.getElem?_drop] at hi
  rw [← hi]
  congr 2
  omega

theorem OInv.item {xs : List It} {fs ks : List Fr} {tk : List Bool} {gone last : Nat} {nx : Int} (h : OInv xs fs ks tk gone last nx) (b : List UInt8) (hb : b.length ≤ 256) : OInv (xs ++ [⟨(xs.length : Int) + 1, b⟩]) fs ks (tk ++ [false]) gone last nx := by
  have key : ∀ j : Nat, tk[j]? = some true → (tk ++ [false])[j]? = some true := fun j hj => by
    rw [List.getElem?_append_left (List.getElem?_eq_some_iff.1 hj).1]; exact hj
  have hl : (xs ++ [(⟨(xs.length : Int) + 1, b⟩ : It)]).length = xs.length + 1 := by simp
  refine { seq := fun i hi => ?_, len := fun i hi => ?_, gl := by rw [hl]; have := h.gl; omega, frs := fun g hg => (h.frs g hg).mono (Nat.le_refl _), aks := fun a ha => ?_, tkl := by rw [hl]; simp [h.tkl], tkg := fun j h1 h2 => key j (h.tkg j h1 h2), rc := by rw [hl]; have := h.rc; omega, tkn := fun j h1 h2 => key j (h.tkn j h1 h2), ls := by rw [hl]; have := h.ls; omega, lst := h.lst }
  · rw [hl] at hi
    by_cases hlt : i < xs.length
    · rw [List.getElem_append_left hlt]; exact h.seq i hlt
    · obtain rfl : i = xs.length := by omega
      simp
  · rw [hl] at hi
    by_cases hlt : i < xs.length
    · rw [List.getElem_append_left hlt]; exact h.len i hlt
    · obtain rfl : i = xs.length := by omega
      simpa using hb
  · obtain ⟨h1, h2, h3⟩ := h.aks a ha
    exact ⟨h1, by rw [hl]; omega, fun j g1 g2 => key j (h3 j g1 g2)⟩

theorem OInv.anew {xs : List It} {fs ks : List Fr} {tk : List Bool} {gone last : Nat} {nx : Int} (h : OInv xs fs ks tk gone last nx) : OInv xs fs ks tk gone 0 0 :=
  { h with rc := by omega, tkn := fun j h1 h2 => by omega, ls := by omega, lst := fun h => by omega }

theorem OInv.let_go {xs : List It} {fs ks : List Fr} {tk : List Bool} {gone last : Nat} {nx : Int} (h : OInv xs fs ks tk gone last nx) (a : Fr) (ha : a ∈ ks) : OInv xs fs ks tk (max gone a.b.toNat) last nx := by
  obtain ⟨h1, h2, h3⟩ := h.aks a ha
  have hgl := h.gl
  exact { h with gl := by omega, frs := fun g hg => by have := (h.frs g hg).mono (ys := []) (Nat.le_max_left gone a.b.toNat); simpa using this, tkg := fun j g1 g2 => by
                    by_cases hj : j ≤ gone
                    · exact h.tkg j g1 hj
                    · exact h3 j g1 (by omega), lst := fun hl => by have := h.lst hl; omega }

theorem OInv.ack {xs : List It} {fs ks : List Fr} {tk : List Bool} {gone last : Nat} {nx : Int} (h : OInv xs fs ks tk gone last nx) (hn : nx ≠ 0) : OInv xs fs (ks ++ [ackF nx]) tk gone last nx :=
  { h with aks := (fun a ha => by
      rcases List.mem_append.1 ha with ha | ha
      · exact h.aks a ha
      · rw [List.mem_singleton] at ha
        subst ha
        unfold ackF
        rw [if_neg hn]
        have := h.rc
        exact ⟨by simp only; omega, by simp only; omega, fun j g1 g2 => h.tkn j g1 (by simp only at g2; omega)⟩) }

theorem OInv.raise {xs : List It} {fs ks : List Fr} {tk : List Bool} {gone last : Nat} {nx nx' : Int} (h : OInv xs fs ks tk gone last nx) (h0 : nx ≤ nx') (h1 : nx' = nx ∨ nx' ≤ gone + 1) : OInv xs fs ks tk gone last nx' := by
  have := h.rc
  have := h.gl
  exact { h with rc := by omega, tkn := fun j g1 g2 => by
                    rcases h1 with h1 | h1
                    · exact h.tkn j g1 (by omega)
                    · exact h.tkg j g1 (by omega), lst := fun hl => by have := h.lst hl; omega }

/-- What comes next is taken. -/
theorem OInv.take {xs : List It} {fs ks : List Fr} {tk : List Bool} {gone last : Nat} {nx : Int} (h : OInv xs fs ks tk gone last nx) (h1 : 1 ≤ nx) (h2 : nx ≤ xs.length) : OInv xs fs ks (tk.set nx.toNat true) gone nx.toNat (nx + 1) := by
  have key : ∀ j : Nat, tk[j]? = some true → (tk.set nx.toNat true)[j]? = some true := fun j hj => by
    have hjl := (List.getElem?_eq_some_iff.1 hj).1
    rw [List.getElem?_set]
    split
    · simp; omega
    · exact hj
  exact { h with aks := (fun a ha => by
            obtain ⟨a1, a2, a3⟩ := h.aks a ha
            exact ⟨a1, a2, fun j g1 g2 => key j (a3 j g1 g2)⟩)
                 tkl := (by simp [h.tkl]), tkg := (fun j g1 g2 => key j (h.tkg j g1 g2)), rc := (by omega)
                 tkn := (fun j g1 g2 => by
            by_cases hj : (j : Int) < nx
            · exact key j (h.tkn j g1 hj)
            · obtain rfl : j = nx.toNat := by omega
              have := h.tkl
              rw [List.getElem?_set, if_pos rfl]
              simp; omega)
                 ls := (by omega), lst := (fun _ => by omega) }
theorem OInv.tests {xs : List It} {fs ks : List Fr} {tk : List Bool} {gone last : Nat} {nx : Int} (h : OInv xs fs ks tk gone last nx) (h1 : 1 ≤ nx) : (last : Int) < nx ∧ ¬ ((0 : Int) < last ∧ (last : Int) + 1 < nx ∧ (gone : Int) < nx - 1) := by
  by_cases h0 : 0 < last
  · have := h.lst h0; omega
  · omega

/-- What a receiver gets of a frame that was sent. -/
theorem OInv.got {xs : List It} {fs ks : List Fr} {tk : List Bool} {gone last : Nat} {nx : Int} (h : OInv xs fs ks tk gone last nx) (g : Fr) (hg : g ∈ fs) :
    OInv xs fs ks tk gone last (got nx g).1 ∧ ∀ k (hk : k < (got nx g).2.length), (got nx g).2[k].q = (got nx g).1 + k ∧ 1 ≤ (got nx g).1 ∧ (got nx g).1 + k ≤ xs.length ∧ ∃ hj : ((got nx g).1 - 1).toNat + k < xs.length, xs[((got nx g).1 - 1).toNat + k].b = (got nx g).2[k].b := by
  rcases got_spec (h.frs g hg) h.rc.1 with h1 | ⟨nx', l, h1, h2, h3, h4, h5⟩
  · rw [h1]
    exact ⟨h, fun k hk => by simp at hk⟩
  · rw [h1]
    refine ⟨h.raise h3 h4, fun k hk => ?_⟩
    obtain ⟨h6, h7⟩ := h5 k hk
    have hj : (nx' - 1).toNat + k < xs.length := by
      rcases Nat.lt_or_ge ((nx' - 1).toNat + k) xs.length with hj | hj
      · exact hj
      · rw [List.getElem?_eq_none hj] at h7; cases h7
    rw [List.getElem?_eq_getElem hj] at h7
    simp only [Option.map_some, Option.some.injEq] at h7
    exact ⟨h6, h2, by omega, hj, h7⟩

theorem tstep_few (bat : Nat) (clk ev base : Int) (s : TS) (x : It) : (tstep bat clk ev base s x).out.length ≤ s.out.length + 1 := by
  unfold tstep
  split
  · simp only
    unfold moreIt
    simp only [List.length_append, List.length_dropLast]
    split <;> split <;> simp_all <;> omega
  · simp
theorem trun_few (bat : Nat) (clk ev base : Int) : ∀ (xs : List It) (s : TS), (trun bat clk ev base s xs).out.length ≤ s.out.length + xs.length
  | [], s => by simp [trun]
  | x :: xs, s => by
    have h1 := trun_few bat clk ev base xs (tstep bat clk ev base s x)
    have h2 := tstep_few bat clk ev base s x
    unfold trun at h1 ⊢
    rw [List.foldl_cons, List.length_cons]
    omega
theorem tick_few (win bat : Nat) (clk ev : Int) (f : Sent) (xs : List It) : (tick win bat clk ev f xs).2.length ≤ win := by
  unfold tick
  split
  · have := trun_few bat clk ev (headQ xs) (xs.take win) ⟨keepS f xs, [], false⟩
    simp only [List.length_take, List.length_nil] at this ⊢
    omega
  · simp
end Go.Proofs.YtddpefbpiehgeaaDoor
