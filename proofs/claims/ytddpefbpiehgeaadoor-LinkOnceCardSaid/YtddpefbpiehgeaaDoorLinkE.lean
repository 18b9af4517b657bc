/- The link: Parse, the walks. -/
import Derived.Test.YtddpefbpiehgeaaDoorLinkD
import Derived.Laws.Rows
namespace Go.Proofs.YtddpefbpiehgeaaDoor
open Go Go.RowKit
set_option maxRecDepth 100000
set_option linter.unusedVariables false
set_option linter.unusedSectionVars false
set_option linter.unusedSimpArgs false

def zeroF : Fr := ⟨0, 0, 0, [], []⟩
def zeroV : Value := .agg (fcells zeroF (.slice none 0 0) (.slice none 0 0))

theorem f5size : (Tryd.prog.info? 25).map (·.size) = some 5 := by kernel_rfl

theorem results_pair {P : Program} {fn : Func} {p u : Tmp} {ty : TypeId} (h : fn.results = #[.cell p ty, .tmp u]) (tmps : Array Value) (w : World) (g : Nat) (t : TypeId) (cs : Array Value) (fr : Nat × Nat) (d : TypeDesc)
    (hp : tmps.getD p undef = .pointer (some ⟨g, 0, none⟩)) (hg : w.heap[g]? = some (.cells cs t fr))
    (hu : P.underlying ty = some d) (hd : (match d with | .struct _ | .array _ _ => true | _ => false) = true) (hi : (P.info? ty).map (·.size) = some cs.size) :
    (results fn tmps).run P w = .ok (.tuple #[.agg cs, tmps.getD u undef]) w := by
  have hp' : tmps[p]?.getD undef = .pointer (some ⟨g, 0, none⟩) := by simpa using hp
  simp [results, h, hp', asAddr, run_loadVar_row w g t ty cs fr d hg hu hd hi]

theorem set5 {w : World} {g : Nat} {b0 b1 b2 b3 b4 : Value} {T : TypeId} {fr : Nat × Nat} (a0 a1 a2 a3 a4 : Value) (h : w.heap[g]? = some (.cells #[b0, b1, b2, b3, b4] T fr)) :
    (((((w.setCell ⟨g, 0, none⟩ a0).setCell ⟨g, 1, none⟩ a1).setCell ⟨g, 2, none⟩ a2).setCell ⟨g, 3, none⟩ a3).setCell ⟨g, 4, none⟩ a4).heap[g]? = some (.cells #[a0, a1, a2, a3, a4] T fr) :=
  heap_set a4 (heap_set a3 (heap_set a2 (heap_set a1 (heap_set a0 h))))
theorem set5_kp (w : World) (g : Nat) (a0 a1 a2 a3 a4 : Value) :
    Kp [g] w (((((w.setCell ⟨g, 0, none⟩ a0).setCell ⟨g, 1, none⟩ a1).setCell ⟨g, 2, none⟩ a2).setCell ⟨g, 3, none⟩ a3).setCell ⟨g, 4, none⟩ a4) :=
  (((((Kp.refl [g] w).setCell (.inl (by simp)) _).setCell (.inl (by simp)) _).setCell (.inl (by simp)) _).setCell (.inl (by simp)) _).setCell (.inl (by simp)) _

theorem parse_ret {Q : Ending → World → Prop} {a : Act} {w : World} {rb : Nat} {cs : Array Value} {fr : Nat × Nat} (h4 : a.tmps.getD 4 undef = .pointer (some ⟨rb, 0, none⟩)) (hd : a.defers = []) (hh : w.heap[rb]? = some (.cells cs 25 fr)) (h5 : cs.size = 5)
    (hQ : Q (.returned (.tuple #[.agg cs, a.tmps.getD 5 undef])) w) : bodyPost Tryd.prog Tryd.f15 Q Exit.ret a w :=
  bodyPost_ret (results_pair rfl _ _ rb _ cs fr _ h4 hh Tryd.underlying25 rfl (by rw [h5]; exact f5size)) hd hQ

theorem fault_code (c f : Int) : ∀ w : World, (Instr.field 78 (.agg #[.int .i64 c, .int .i64 f]) 0).run Tryd.prog w = .ok (.int .i64 c) w := fun _ => by kernel_rfl

theorem parse_long (s : ByteArray) (v : Value) (w : World) (hs : 200 < s.size) :
    Calls Tryd.prog 15 #[.string s, v] w fun e w' => e = .returned (.tuple #[zeroV, .int .i64 2]) ∧ Kp [] w w' := by
  have hk0 := (Kp.refl [] w).alloc (.cells #[.int .i64 0, .int .i64 0, .int .i64 0, .slice none 0 0, .slice none 0 0] 25)
  go_enter Tryd.func15, Tryd.ntmps15
  go_wp2_with (first
    | (go_at_call 37; (with_reducible refine (open_long s v _ hs).mono ?_); rintro e w1 ⟨rfl, rfl⟩))
  exact parse_ret rfl rfl (heap_alloc_new w _) rfl ⟨rfl, hk0⟩

theorem parse_short (s : ByteArray) (v : Value) (l : List UInt8) (w : World) (hs : s.size ≤ 200) (hv : Bs w v l) (hl : l.length < 16) :
    Calls Tryd.prog 15 #[.string s, v] w fun e w' => e = .returned (.tuple #[zeroV, .int .i64 121]) ∧ Kp [] w w' := by
  have hk0 := (Kp.refl [] w).alloc (.cells #[.int .i64 0, .int .i64 0, .int .i64 0, .slice none 0 0, .slice none 0 0] 25)
  have hv0 : Bs (w.alloc (.cells #[.int .i64 0, .int .i64 0, .int .i64 0, .slice none 0 0, .slice none 0 0] 25)) v l := hv.kp0 hk0
  go_enter Tryd.func15, Tryd.ntmps15
  go_wp2_with (first
    | (go_at_call 37; (with_reducible refine (open_short s v l _ hs hv0 hl).mono ?_); rintro e w1 ⟨rfl, rfl⟩))
  exact parse_ret rfl rfl (heap_alloc_new w _) rfl ⟨rfl, hk0⟩

theorem parse_shut (s : ByteArray) (v : Value) (l : List UInt8) (w : World) (hG : GH w) (hs : s.size ≤ 200) (hv : Bs w v l) (hl : 16 ≤ l.length) (hl1 : l.length ≤ 140737488352000) (ho : opened s l = none) :
    Calls Tryd.prog 15 #[.string s, v] w fun e w' => e = .returned (.tuple #[zeroV, .int .i64 121]) ∧ Kp [] w w' := by
  have hk0 := (Kp.refl [] w).alloc (.cells #[.int .i64 0, .int .i64 0, .int .i64 0, .slice none 0 0, .slice none 0 0] 25)
  have hh0 := heap_alloc_new w (.cells #[.int .i64 0, .int .i64 0, .int .i64 0, .slice none 0 0, .slice none 0 0] 25)
  have hop := open_calls s v l _ (hG.kp0 hk0) hs (hv.kp0 hk0) hl hl1
  unfold RetO at hop
  rw [ho] at hop
  simp only at hop
  have HOP := Lib.hid hop
  clear hop
  go_enter Tryd.func15, Tryd.ntmps15
  go_wp2_with (first
    | (go_at_call 37; (with_reducible refine HOP.out.mono ?_); rintro e w1 ⟨rfl, hk1⟩; have hh1 := hk1.heap hh0 (by simp); have hf0 := free_heap hh1 0; have hf1 := free_heap hh1 1; have hf2 := free_heap hh1 2; have hf3 := free_heap hh1 3; have hf4 := free_heap hh1 4; obtain ⟨c0, c1, c2, c3, c4⟩ := cells5 hh1))
  exact parse_ret rfl rfl (set5 _ _ _ _ _ hh1) rfl ⟨rfl, (hk0.trans hk1).trans' (set5_kp _ _ _ _ _ _ _) (by simp)⟩
end Go.Proofs.YtddpefbpiehgeaaDoor
