/- A receiver takes just what the document says: for every script of calls (of bulk at most 1048576) LinkTakes returns true. -/
import Derived.Test.YtddpefbpiehgeaaDoorT16
namespace Go.Proofs.YtddpefbpiehgeaaDoor
open Go Go.RowKit Go.ChangeShapes Go.WideShapes
set_option maxRecDepth 100000
set_option linter.unusedVariables false
set_option linter.unusedSectionVars false
set_option linter.unusedSimpArgs false

theorem takes_contract (H : Type) (enc : TypeId × Value → H) (W : World) (base : Nat) (args : Array Value) (ds gs : List (DataW H)) (before : List MemPlace)
    (hval : ∀ (j : Nat) t v, Tryd.f4.params[j]? = some t → args[j]? = some v → Value.okWide Tryd.prog W .any base t v)
    (hW : DataW.Whole enc Tryd.prog Tryd.f4.params.toList Rows.linkTakesSpec.vars false W args.toList ds gs before)
    (hk : Rows.uptoSmall H (ds ++ gs) = true)
    (hL : laidMetH Tryd.prog Rows.linkTakesRow.laid W) (hS : W.ShapedOpen Tryd.prog) :
    Calls Tryd.prog 4 args W fun e W' => ∃ v, e = .returned v ∧ Rows.linkTakesSpec.post enc Tryd.prog Tryd.f4 false true false false W args v W' := by
  have hG : GH W := gh_of_laid (rest := []) hL hS
  have hW' := hW
  obtain ⟨p, q, hA0, hV, rfl, hfz, hnd⟩ := hW
  rw [Tryd.params4] at hval hA0
  obtain ⟨v0, vs0, d0, ds0, p0, q0, ha, rfl, rfl, h0, r0⟩ := trodAll_cons hA0
  obtain ⟨rfl, rfl, rfl⟩ := trodAll_nil r0
  obtain rfl : args = #[v0] := by cases args; simp_all
  obtain ⟨rfl, rfl⟩ := trodVars_none hV
  have hk1 : Rows.uptoBulk d0 ≤ 1048576 := by
    have h := of_decide_eq_true hk
    simp only [List.append_nil, Rows.uptoBulkAll] at h
    omega
  obtain ⟨n, hn⟩ := h0
  obtain ⟨u, os, cells, hc, hs, ho, hl⟩ := ops_of_trod hn hk1
  have hu := cells_slice Tryd.underlying38 (hval 0 38 v0 rfl rfl) hc
  subst hu
  refine (takes_walk os v0 cells W hG hs ho (fun b hb => Sl.lt hs b hb) hl).mono fun e W' ⟨he, hk⟩ => ?_
  subst he
  exact ⟨_, rfl, post_true hW' rfl rfl (by kernel_rfl) (by kernel_rfl) (hk.below (Nat.le_refl _) (by simp))⟩

theorem takes_laid (os : Os) : laidMet Tryd.prog Rows.linkTakesRow.laid ((laidWorld os).forCall (fun _ _ => 0) ⟨#[], #[.slice none 0 0], []⟩).memory :=
  laidMet_of_run' 8 (by kernel_rfl) (by kernel_rfl)
theorem takes_reads (os : Os) {H : Type} (enc : TypeId × Value → H) : ∃ places, DataW.whole enc Tryd.prog ((laidWorld os).forCall (fun _ _ => 0) ⟨#[], #[.slice none 0 0], []⟩).memory Tryd.f4.params.toList Rows.linkTakesSpec.vars false #[Value.slice none 0 0].toList 8 = some ([.nil], [], places) :=
  ⟨[], by kernel_rfl⟩

theorem takes_lifted (os : Os) (started : os.Started) (H : Type) (enc : TypeId × Value → H) (F : Stop.Interp) :
    ReturnsInHanded {} Tryd.checked os 4 .any ((Rows.OpenSpec.upto Rows.linkTakesSpec).preRow enc Tryd.prog Tryd.f4 Rows.linkTakesUptoRow.domain false Rows.linkTakesUptoRow.laid) (((Rows.OpenSpec.upto Rows.linkTakesSpec).at F).post enc Tryd.prog Tryd.f4 false true false false) := by
  obtain ⟨places, hx⟩ := takes_reads os enc
  refine returnsInHanded_of_row (C := Tryd.checked) (s := Rows.OpenSpec.upto Rows.linkTakesSpec) ownK started (by kernel_rfl) Tryd.func4
    (witness_row_at (enc := enc) (C := Tryd.checked) false (laidWorld os) #[.slice none 0 0] rfl (by kernel_rfl) (by kernel_rfl) (by kernel_rfl)
      (OpenSpec.preRow_of_cond 8 hx (by kernel_rfl) (fun k hk => by cases hk; kernel_rfl) (by kernel_rfl) (takes_laid os))) ?_
  intro W base args ds gs before hval hW _ hcond hz hL hS _
  exact takes_contract H enc W base args ds gs before hval hW (hcond _ rfl) hL hS

theorem takes_said : Rows.LinkTakesUptoSaid :=
  OpenClaim.holds_of_cond 4 Tryd.f4 rfl rfl rfl rfl rfl rfl rfl ⟨rfl, rfl, rfl, rfl, rfl⟩ rfl rfl rfl rfl rfl (by kernel_rfl) Tryd.func4 (by kernel_rfl)
    (of_decide_eq_true (by kernel_rfl)) (by unfold Func.isWrapper; first | (rw [if_pos (by decide +kernel)]; kernel_rfl) | (rw [if_neg (by decide +kernel)]; exact ⟨rfl, rfl⟩))
    (fun os started H enc _ F => by rw [OpenClaim.pre_eq_preRow]; exact takes_lifted os started H enc F)

theorem takes_plain (f : FuncId) (fn : Func) (hf : Tryd.pinned.checked.prog.funcNamed "farebox/fareboxlaw12.LinkTakes" = some f) (hfn : Tryd.pinned.checked.prog.funcs[f]? = some fn) :
    true = Tryd.pinned.checked.prog.looks [] ∧ ∀ (j : Nat) t, fn.params[j]? = some t → Tryd.pinned.checked.prog.wantsStandIn t = false := by
  obtain rfl : f = 4 := Option.some.inj ((show Tryd.prog.funcNamed "farebox/fareboxlaw12.LinkTakes" = some 4 by kernel_rfl).symm.trans hf) |>.symm
  obtain rfl : fn = Tryd.f4 := (Option.some.inj (Tryd.func4.symm.trans hfn)).symm
  refine ⟨by kernel_rfl, fun j t ht => ?_⟩
  have h := (show (Tryd.f4.params.toList.all fun t => !Tryd.prog.wantsStandIn t) = true by kernel_rfl)
  have h2 := List.all_eq_true.1 h t (by rw [← Array.getElem?_toList] at ht; exact List.mem_of_getElem? ht)
  show Tryd.prog.wantsStandIn t = false
  simpa using h2

/-- The card of LinkTakes. -/
theorem linkTakesUpto_card : Rows.LinkTakesUptoCardSaid :=
  Claim7.holds_tied_plain_at .later [] _ _ _ _ takes_said (fun _ h => by cases h) (by kernel_rfl) (fun _ h => by cases h) linkTakesUpto_row_tie rfl ⟨rfl, rfl⟩ (by kernel_rfl) rfl takes_plain (by kernel_rfl)
#print axioms linkTakesUpto_card
end Go.Proofs.YtddpefbpiehgeaaDoor

