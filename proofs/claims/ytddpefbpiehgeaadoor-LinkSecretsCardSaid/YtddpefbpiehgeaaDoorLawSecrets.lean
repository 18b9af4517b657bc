/- Links' secrets: for every secret and number LinkSecrets returns true. -/
import Derived.Test.YtddpefbpiehgeaaDoorRowK
import Derived.Test.YtddpefbpiehgeaaDoorAwake
import Derived.Test.YtddpefbpiehgeaaDoorRefF
namespace Go.Proofs.YtddpefbpiehgeaaDoor
open Go Go.RowKit Go.ChangeShapes Go.WideShapes
set_option maxRecDepth 100000
set_option linter.unusedVariables false
set_option linter.unusedSectionVars false
set_option linter.unusedSimpArgs false

theorem secrets_walk (s : ByteArray) (n : Int) (w : World) (hG : GH w) (hR : GR w) :
    Calls Tryd.prog 8 #[.string s, .int .i64 n] w fun e w' => e = .returned (.bool true) ∧ Kp [] w w' := by
  by_cases hs : 200 < s.size
  · go_enter Tryd.func8, Tryd.ntmps8
    go_wp2_with fail
    refine (awake_calls w hG).mono ?_
    rintro e w1 ⟨rfl, hk1⟩
    go_wp2_with (first
      | (go_at_call 29; (with_reducible refine (secret_long s n _ hs).mono ?_); rintro e w3 ⟨rfl, rfl⟩)
      | (go_at_call 30; (with_reducible refine (rsecret_long s n _ hs).mono ?_); rintro e w3 ⟨rfl, rfl⟩))
    go_ret
    exact ⟨rfl, hk1⟩
  · by_cases hn : n < 0 ∨ 65535 < n
    · go_enter Tryd.func8, Tryd.ntmps8
      go_wp2_with fail
      refine (awake_calls w hG).mono ?_
      rintro e w1 ⟨rfl, hk1⟩
      have hs2 : s.size ≤ 200 := by omega
      have HN := Lib.hid hn
      clear hn
      go_wp2_with (first
        | (go_at_call 29; (with_reducible refine (secret_wide s n _ hs2 HN.out).mono ?_); rintro e w3 ⟨rfl, rfl⟩)
        | (go_at_call 30; (with_reducible refine (rsecret_wide s n _ hs2 HN.out).mono ?_); rintro e w3 ⟨rfl, rfl⟩))
      go_ret
      exact ⟨rfl, hk1⟩
    · have hs2 : s.size ≤ 200 := by omega
      obtain ⟨m, rfl⟩ : ∃ m : Nat, n = m := ⟨n.toNat, by omega⟩
      have hm : m ≤ 65535 := by omega
      clear hn hs
      go_enter Tryd.func8, Tryd.ntmps8
      go_wp2_with fail
      refine (awake_calls w hG).mono ?_
      rintro e w1 ⟨rfl, hk1⟩
      go_wp2_with (first
        | (go_at_call 29; (with_reducible refine (secret_calls s m _ (hG.kp0 hk1) hs2 hm).mono ?_); rintro e w2 ⟨rfl, hk2⟩)
        | (go_at_call 30; (with_reducible refine (rsecret_calls s m _ (hR.kp0 (hk1.trans hk2)) hs2 hm).mono ?_); rintro e w3 ⟨rfl, hk3⟩))
      go_ret
      exact ⟨rfl, (hk1.trans hk2).trans hk3⟩

theorem gFirst : Tryd.prog.globalNamed "farebox/fareboxref03.first" = some 1 := by kernel_rfl
theorem gKs : Tryd.prog.globalNamed "farebox/fareboxref03.k" = some 3 := by kernel_rfl
theorem gFirstT : (Tryd.prog.globals[1]?).map (·.type) = some 134 := by kernel_rfl
theorem gKsT : (Tryd.prog.globals[3]?).map (·.type) = some 140 := by kernel_rfl
theorem ce8r : Tryd.prog.cellsOf 134 = 8 := by kernel_rfl
theorem laidFirst_eq : (Rows.laid_farebox_fareboxref03_first : DataW Unit) = Lib.tabData .u32 (initW.map fun x => (x.toNat : Int)) := by rfl
theorem laidKs_eq : (Rows.laid_farebox_fareboxref03_k : DataW Unit) = Lib.tabData .u32 (kW.map fun x => (x.toNat : Int)) := by rfl
theorem gr_of_laid {W : World} {rest : List (String × DataW Unit)} (h : laidMet Tryd.prog (("farebox/fareboxref03.first", Rows.laid_farebox_fareboxref03_first) :: ("farebox/fareboxref03.k", Rows.laid_farebox_fareboxref03_k) :: rest) W) (h4 : 4 ≤ W.heap.size) : GR W := by
  have h1 : Lib.TabIs Tryd.prog W "farebox/fareboxref03.first" .u32 (initW.map fun x => (x.toNat : Int)) := Lib.tabIs_of_head gFirst gFirstT Tryd.underlying134 Tryd.underlying133 ce1u ce8r (by rw [← laidFirst_eq]; exact h)
  have h2 : Lib.TabIs Tryd.prog W "farebox/fareboxref03.k" .u32 (kW.map fun x => (x.toNat : Int)) := Lib.tabIs_of_head gKs gKsT Tryd.underlying140 Tryd.underlying133 ce1u ce64 (by rw [← laidKs_eq]; exact h.tail)
  refine ⟨h4, fun i hi => ?_, fun i hi => ?_⟩
  · have := h1.cell gFirst i (by simpa [initW] using hi)
    rw [this, getD_toNat]
    rfl
  · have := h2.cell gKs i (by simpa [kW] using hi)
    rw [this, getD_toNat]
    rfl

/-- A world for the witness: all four tables. -/
noncomputable def laidWorld4 (os : Os) : World :=
  { laidWorld os with heap := ((laidWorld os).heap.modify 1 (putTab (arr initW))).modify 3 (putTab (arr kW)) }
end Go.Proofs.YtddpefbpiehgeaaDoor
