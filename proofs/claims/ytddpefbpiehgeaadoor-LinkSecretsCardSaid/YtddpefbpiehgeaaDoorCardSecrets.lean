/- Links' secrets are what the document says: the card. -/
import Derived.Test.YtddpefbpiehgeaaDoorLawSecrets
namespace Go.Proofs.YtddpefbpiehgeaaDoor
open Go Go.RowKit Go.ChangeShapes Go.WideShapes
set_option maxRecDepth 100000
set_option linter.unusedVariables false
set_option linter.unusedSectionVars false
set_option linter.unusedSimpArgs false

theorem secrets_contract (H : Type) (enc : TypeId × Value → H) (W : World) (base : Nat) (args : Array Value) (ds gs : List (DataW H)) (before : List MemPlace)
    (hval : ∀ (j : Nat) t v, Tryd.f8.params[j]? = some t → args[j]? = some v → Value.okWide Tryd.prog W .any base t v)
    (hW : DataW.Whole enc Tryd.prog Tryd.f8.params.toList Rows.linkSecretsSpec.vars false W args.toList ds gs before)
    (hz : (DataW.weightsEach Tryd.prog (Tryd.f8.params.toList ++ (OpenSpec.ofChange Rows.linkSecretsSpec).bare.plain.varTypes Tryd.prog) (ds ++ gs)).all (· ≤ reachBytes) = true)
    (hL : laidMetH Tryd.prog Rows.linkSecretsRow.laid W) (hS : W.ShapedOpen Tryd.prog) :
    Calls Tryd.prog 8 args W fun e W' => ∃ v, e = .returned v ∧ Rows.linkSecretsSpec.post enc Tryd.prog Tryd.f8 false true false false W args v W' := by
  have hG : GH W := gh_of_laid (rest := []) (laidMet.tail (laidMet.tail hL)) hS
  have hR : GR W := gr_of_laid hL hG.size
  have hW' := hW
  obtain ⟨p, q, hA0, hV, rfl, hfz, hnd⟩ := hW
  rw [Tryd.params8] at hval hA0 hz
  obtain ⟨v0, vs0, d0, ds0, p0, q0, ha, rfl, rfl, h0, r0⟩ := trodAll_cons hA0
  obtain ⟨v1, vs1, d1, ds1, p1, q1, rfl, rfl, rfl, h1, r1⟩ := trodAll_cons r0
  obtain ⟨rfl, rfl, rfl⟩ := trodAll_nil r1
  obtain rfl : args = #[v0, v1] := by cases args; simp_all
  obtain ⟨rfl, rfl⟩ := trodVars_none hV
  obtain ⟨s, rfl⟩ := open_str (hval 0 9 v0 rfl rfl) h0
  obtain ⟨n, rfl, _⟩ := open_i64 (hval 1 3 v1 rfl rfl) h1
  refine (secrets_walk s n W hG hR).mono fun e W' ⟨he, hk⟩ => ?_
  subst he
  exact ⟨_, rfl, post_true hW' rfl rfl (by kernel_rfl) (by kernel_rfl) (hk.below (Nat.le_refl _) (by simp))⟩

theorem secrets_laid (os : Os) : laidMet Tryd.prog Rows.linkSecretsRow.laid ((laidWorld4 os).forCall (fun _ _ => 0) ⟨#[], #[.string ⟨#[]⟩, .int .i64 0], []⟩).memory :=
  laidMet_of_run' 8 (by kernel_rfl) (by kernel_rfl)
theorem secrets_reads (os : Os) {H : Type} (enc : TypeId × Value → H) : ∃ places, DataW.whole enc Tryd.prog ((laidWorld4 os).forCall (fun _ _ => 0) ⟨#[], #[.string ⟨#[]⟩, .int .i64 0], []⟩).memory Tryd.f8.params.toList Rows.linkSecretsSpec.vars false #[Value.string ⟨#[]⟩, .int .i64 0].toList 8 = some ([.lit (.string []), .lit (.int .i64 0)], [], places) :=
  ⟨[], by kernel_rfl⟩

theorem secrets_lifted (os : Os) (started : os.Started) (H : Type) (enc : TypeId × Value → H) (F : Stop.Interp) :
    ReturnsInHanded {} Tryd.checked os 8 .any ((OpenSpec.ofChange Rows.linkSecretsSpec).preRow enc Tryd.prog Tryd.f8 Rows.linkSecretsRow.domain false Rows.linkSecretsRow.laid) (((OpenSpec.ofChange Rows.linkSecretsSpec).at F).post enc Tryd.prog Tryd.f8 false true false false) := by
  obtain ⟨places, hx⟩ := secrets_reads os enc
  refine returnsInHanded_of_row (C := Tryd.checked) (s := OpenSpec.ofChange Rows.linkSecretsSpec) ownK started (by kernel_rfl) Tryd.func8
    (witness_row_at (enc := enc) (C := Tryd.checked) false (laidWorld4 os) #[.string ⟨#[]⟩, .int .i64 0] rfl (by kernel_rfl) (by kernel_rfl) (by kernel_rfl)
      (OpenSpec.preRow_of_cond 8 hx (by kernel_rfl) (fun k hk => by cases hk) (by kernel_rfl) (secrets_laid os))) ?_
  intro W base args ds gs before hval hW _ _ hz hL hS _
  exact secrets_contract H enc W base args ds gs before hval hW hz hL hS

theorem secrets_said : Rows.LinkSecretsSaid :=
  OpenClaim.holds_of_cond 8 Tryd.f8 rfl rfl rfl rfl rfl rfl rfl ⟨rfl, rfl, rfl, rfl, rfl⟩ rfl rfl rfl rfl rfl (by kernel_rfl) Tryd.func8 (by kernel_rfl)
    (of_decide_eq_true (by kernel_rfl)) (by unfold Func.isWrapper; first | (rw [if_pos (by decide +kernel)]; kernel_rfl) | (rw [if_neg (by decide +kernel)]; exact ⟨rfl, rfl⟩))
    (fun os started H enc _ F => by rw [OpenClaim.pre_eq_preRow]; exact secrets_lifted os started H enc F)

theorem secrets_plain (f : FuncId) (fn : Func) (hf : Tryd.pinned.checked.prog.funcNamed "farebox/fareboxlaw12.LinkSecrets" = some f) (hfn : Tryd.pinned.checked.prog.funcs[f]? = some fn) :
    true = Tryd.pinned.checked.prog.looks [] ∧ ∀ (j : Nat) t, fn.params[j]? = some t → Tryd.pinned.checked.prog.wantsStandIn t = false := by
  obtain rfl : f = 8 := Option.some.inj ((show Tryd.prog.funcNamed "farebox/fareboxlaw12.LinkSecrets" = some 8 by kernel_rfl).symm.trans hf) |>.symm
  obtain rfl : fn = Tryd.f8 := (Option.some.inj (Tryd.func8.symm.trans hfn)).symm
  refine ⟨by kernel_rfl, fun j t ht => ?_⟩
  have h := (show (Tryd.f8.params.toList.all fun t => !Tryd.prog.wantsStandIn t) = true by kernel_rfl)
  have h2 := List.all_eq_true.1 h t (by rw [← Array.getElem?_toList] at ht; exact List.mem_of_getElem? ht)
  show Tryd.prog.wantsStandIn t = false
  simpa using h2

/-- The card of LinkSecrets. -/
theorem linkSecrets_card : Rows.LinkSecretsCardSaid :=
  Claim7.holds_tied_plain_at .later [] _ _ _ _ secrets_said (fun _ h => by cases h) (by kernel_rfl) (fun _ h => by cases h) linkSecrets_row_tie rfl ⟨rfl, rfl⟩ (by kernel_rfl) rfl secrets_plain (by kernel_rfl)
#print axioms linkSecrets_card
end Go.Proofs.YtddpefbpiehgeaaDoor
