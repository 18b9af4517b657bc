/- The reader's methods. -/
import Derived.Test.YtddpefbpiehgeaaDoorWireD
namespace Go.Proofs.YtddpefbpiehgeaaDoor
open Go Go.RowKit
set_option maxRecDepth 100000
set_option linter.unusedVariables false
set_option linter.unusedSectionVars false
set_option linter.unusedSimpArgs false

theorem newReader_calls (v : Value) (d : List UInt8) (w : World) (hb : Bs w v d) (hlen : d.length ≤ 140737488355328) :
    Calls Tryd.prog 38 #[v] w fun e w' => ∃ p, e = .returned (.pointer (some ⟨p, 0, none⟩)) ∧ w.heap.size ≤ p ∧ IsRd w' w'.heap.size p d ⟨0, 0, 0, 0⟩ ∧ Kp [] w w' := by
  obtain ⟨i0, hi, hz0, hz1, hz2⟩ := info_parts u8info
  go_enter Tryd.func38, Tryd.ntmps38
  go_wp2_with (refine wpList_app _ rfl _ _ 23 23 rfl w.heap.size 5 i0 _ 1 1 Tryd.underlying23 hi hz0 hz1 hz2 rfl (by omega) (.slice none 0 0) 0 [] rfl (Own.nil _ _ _ _) v _ _ rfl (Src.of_sl Tryd.underlying23 hb bcells_one) (by omega) (by omega) (by omega) ?_)
  intro v1 w1 ho hg hb1
  obtain ⟨a1, cap1, rfl⟩ := own_form ho
  go_wp2
  go_ret
  have ho2 : OB w1 5 w.heap.size (.slice a1 (d.length) cap1) d := by unfold OB; simpa using ho
  have hk1 : Kp [] w w1 := (Kp.refl [] w).grown hg nofun
  have hk2 : Kp [] w1 (w1.alloc (.cells #[.slice a1 (d.length) cap1, .int .i64 0, .int .i64 0, .int .i64 0, .int .i64 0] 102)) := (Kp.refl [] w1).alloc _
  refine ⟨w1.heap.size, rfl, hk1.size, ⟨Nat.le_refl _, Nat.zero_le _, a1, cap1, ?_, ?_, ?_⟩, hk1.trans hk2⟩
  · have := heap_alloc_new w1 (.cells #[.slice a1 (d.length) cap1, .int .i64 0, .int .i64 0, .int .i64 0, .int .i64 0] 102)
    exact this
  · have := ho2.bs.kp0 hk2
    exact this
  · intro b e
    have h1 := (ho2.lt b e).2
    have h2 : (w1.alloc (.cells #[.slice a1 (d.length) cap1, .int .i64 0, .int .i64 0, .int .i64 0, .int .i64 0] 102)).heap.size = w1.heap.size + 1 := World.size_alloc _ _
    omega

/-- What a read comes to. -/
def Read (B p : Nat) (d : List UInt8) (v : Value) (s : RS) (w : World) (e : Ending) (w' : World) : Prop := e = .returned v ∧ IsRd w' B p d s ∧ Kp [p] w w'

theorem rnumber_calls (B p : Nat) (d : List UInt8) (s : RS) (k : Nat) (w : World) (hr : IsRd w B p d s) (hk1 : 1 ≤ k) (hk8 : k ≤ 8) (hlen : d.length ≤ 140737488355328) :
    Calls Tryd.prog 39 #[.pointer (some ⟨p, 0, none⟩), .int .i64 k] w (Read B p d (.int .i64 (rdNum d k s).1) (rdNum d k s).2 w) := by
  have hmf : ∀ (fn : Fn) (first cap : Array Value) (w : World), (Instr.makeFunc fn first cap).run Tryd.prog w = .ok (.func fn first cap) w := fun _ _ _ _ => rfl
  have hpw : p < w.heap.size := by obtain ⟨_, _, a, cap, hh, _⟩ := hr; exact lt_of_heap hh
  have hBw := hr.1
  have hat := hr.2.1
  have hkk : Kp [] w ((w.alloc (.cells #[.int .i64 k] 3)).alloc (.cells #[.int .u64 0] 103)) := ((Kp.refl [] w).alloc _).alloc _
  have hsz : ((w.alloc (.cells #[.int .i64 k] 3)).alloc (.cells #[.int .u64 0] 103)).heap.size = w.heap.size + 1 + 1 := by simp only [World.size_alloc]
  have hbs : One ((w.alloc (.cells #[.int .i64 k] 3)).alloc (.cells #[.int .u64 0] 103)) w.heap.size (.int .i64 k) 3 := by simp only [One, halloc, hdrew, World.size_alloc]; simp
  have hqs : One ((w.alloc (.cells #[.int .i64 k] 3)).alloc (.cells #[.int .u64 0] 103)) (w.heap.size + 1) (.int .u64 0) 103 := by simp only [One, halloc, hdrew, World.size_alloc]; simp
  have hr2 := hr.kp hkk (by simp)
  have key : Calls Tryd.prog 65 #[.pointer (some ⟨p, 0, none⟩), .func (.func 66) #[] #[.pointer (some ⟨w.heap.size, 0, none⟩), .pointer (some ⟨w.heap.size + 1, 0, none⟩)]] ((w.alloc (.cells #[.int .i64 k] 3)).alloc (.cells #[.int .u64 0] 103))
      fun e w1 => e = .returned (.tuple #[]) ∧ IsRd w1 B p d (rdNum d k s).2 ∧ One w1 (w.heap.size + 1) (.int .u64 (rdNum d k s).1) 103 ∧ Kp [p, w.heap.size + 1] ((w.alloc (.cells #[.int .i64 k] 3)).alloc (.cells #[.int .u64 0] 103)) w1 := by
    by_cases h0 : s.code = 0
    · by_cases h1 : d.length < k + s.at_
      · have e1 : rdNum d k s = (0, s.fault 10) := by unfold rdNum; rw [if_neg (by simpa using h0), if_pos h1]
        rw [e1]
        refine (take_bad p 66 #[.pointer (some ⟨w.heap.size, 0, none⟩), .pointer (some ⟨w.heap.size + 1, 0, none⟩)] d s _ B 10 hr2 h0 (fun a => #[a, .pointer (some ⟨w.heap.size, 0, none⟩), .pointer (some ⟨w.heap.size + 1, 0, none⟩)]) (fun _ => rfl) (fun a w => by simp [go_sem]) (fun c w1 hk hc hcur => pnum_short B c _ (w.heap.size + 1) d s.at_ w1 hcur (by omega) (by omega) (by omega) hlen k (hbs.kp hk (by simp)) hat h1 hk1 hk8)).mono ?_
        rintro e w1 ⟨rfl, h1, hk⟩
        exact ⟨rfl, h1, hqs.kp hk (by simp; omega), hk.mono (by simp)⟩
      by_cases h2 : 9223372036854775807 < num ((d.drop s.at_).take k)
      · have e1 : rdNum d k s = (0, s.fault 11) := by unfold rdNum; rw [if_neg (by simpa using h0), if_neg h1, if_pos h2]
        rw [e1]
        refine (take_bad p 66 #[.pointer (some ⟨w.heap.size, 0, none⟩), .pointer (some ⟨w.heap.size + 1, 0, none⟩)] d s _ B 11 hr2 h0 (fun a => #[a, .pointer (some ⟨w.heap.size, 0, none⟩), .pointer (some ⟨w.heap.size + 1, 0, none⟩)]) (fun _ => rfl) (fun a w => by simp [go_sem]) (fun c w1 hk hc hcur => pnum_form B c _ (w.heap.size + 1) d s.at_ w1 hcur (by omega) (by omega) (by omega) hlen k (hbs.kp hk (by simp)) (by omega) hk1 hk8 h2)).mono ?_
        rintro e w1 ⟨rfl, h1, hk⟩
        exact ⟨rfl, h1, hqs.kp hk (by simp; omega), hk.mono (by simp)⟩
      · have e1 : rdNum d k s = (num ((d.drop s.at_).take k), s.move k) := by unfold rdNum; rw [if_neg (by simpa using h0), if_neg h1, if_neg h2]
        rw [e1]
        refine (take_ok p 66 #[.pointer (some ⟨w.heap.size, 0, none⟩), .pointer (some ⟨w.heap.size + 1, 0, none⟩)] d s _ B (w.heap.size + 1) (s.at_ + k) (.int .u64 (num ((d.drop s.at_).take k))) 103 hr2 h0 (by omega) (by omega) (by omega) (by omega) (fun a => #[a, .pointer (some ⟨w.heap.size, 0, none⟩), .pointer (some ⟨w.heap.size + 1, 0, none⟩)]) (fun _ => rfl) (fun a w => by simp [go_sem]) (fun c w1 hk hc hcur => pnum_ok B c _ (w.heap.size + 1) d s.at_ _ w1 hcur (by omega) (by omega) (by omega) hlen k (hbs.kp hk (by simp)) (hqs.kp hk (by simp)) (by omega) hk1 hk8 (by omega))).mono ?_
        rintro e w1 ⟨rfl, h1, h2, hk⟩
        exact ⟨rfl, h1, h2, hk⟩
    · have e1 : rdNum d k s = (0, s) := by unfold rdNum; rw [if_pos (by simpa using h0)]
      rw [e1]
      refine (take_skip p _ _ d s _ B hr2 h0).mono ?_
      rintro e w1 ⟨rfl, hk⟩
      exact ⟨rfl, hr2.kp hk (by simp), hqs.kp hk (by simp), hk.nil⟩
  have hx9 : (rdNum d k s).1 ≤ 9223372036854775807 := by
    unfold rdNum
    repeat (split; · simp)
    simp; omega
  generalize rdNum d k s = R at *
  have hw1 : IntKind.i64.wrap (R.1 : Int) = R.1 := IntWalk.i64_in _ (by omega)
  go_enter Tryd.func39, Tryd.ntmps39
  go_wp2_with fail
  refine key.mono ?_
  rintro e w1 ⟨rfl, h1, h2, hk⟩
  have q0 := h2.cell
  go_wp2
  go_ret
  exact ⟨rfl, h1, hkk.nil.trans' hk (by simp)⟩

theorem rcount_calls (B p : Nat) (d : List UInt8) (s : RS) (m : Nat) (w : World) (hr : IsRd w B p d s) (hlen : d.length ≤ 140737488355328) :
    Calls Tryd.prog 40 #[.pointer (some ⟨p, 0, none⟩), .int .i64 m] w (Read B p d (.int .i64 (rdCount d m s).1) (rdCount d m s).2 w) := by
  have hmf : ∀ (fn : Fn) (first cap : Array Value) (w : World), (Instr.makeFunc fn first cap).run Tryd.prog w = .ok (.func fn first cap) w := fun _ _ _ _ => rfl
  have hpw : p < w.heap.size := by obtain ⟨_, _, a, cap, hh, _⟩ := hr; exact lt_of_heap hh
  have hBw := hr.1
  have hat := hr.2.1
  have hkk : Kp [] w ((w.alloc (.cells #[.int .i64 m] 3)).alloc (.cells #[.int .i64 0] 3)) := ((Kp.refl [] w).alloc _).alloc _
  have hsz : ((w.alloc (.cells #[.int .i64 m] 3)).alloc (.cells #[.int .i64 0] 3)).heap.size = w.heap.size + 1 + 1 := by simp only [World.size_alloc]
  have hbs : One ((w.alloc (.cells #[.int .i64 m] 3)).alloc (.cells #[.int .i64 0] 3)) w.heap.size (.int .i64 m) 3 := by simp only [One, halloc, hdrew, World.size_alloc]; simp
  have hqs : One ((w.alloc (.cells #[.int .i64 m] 3)).alloc (.cells #[.int .i64 0] 3)) (w.heap.size + 1) (.int .i64 0) 3 := by simp only [One, halloc, hdrew, World.size_alloc]; simp
  have hr2 := hr.kp hkk (by simp)
  have key : Calls Tryd.prog 65 #[.pointer (some ⟨p, 0, none⟩), .func (.func 70) #[] #[.pointer (some ⟨w.heap.size, 0, none⟩), .pointer (some ⟨w.heap.size + 1, 0, none⟩)]] ((w.alloc (.cells #[.int .i64 m] 3)).alloc (.cells #[.int .i64 0] 3))
      fun e w1 => e = .returned (.tuple #[]) ∧ IsRd w1 B p d (rdCount d m s).2 ∧ One w1 (w.heap.size + 1) (.int .i64 (rdCount d m s).1) 3 ∧ Kp [p, w.heap.size + 1] ((w.alloc (.cells #[.int .i64 m] 3)).alloc (.cells #[.int .i64 0] 3)) w1 := by
    by_cases h0 : s.code = 0
    · by_cases h1 : d.length < 2 + s.at_
      · have e1 : rdCount d m s = (0, s.fault 10) := by unfold rdCount; rw [if_neg (by simpa using h0), if_pos h1]
        rw [e1]
        refine (take_bad p 70 #[.pointer (some ⟨w.heap.size, 0, none⟩), .pointer (some ⟨w.heap.size + 1, 0, none⟩)] d s _ B 10 hr2 h0 (fun a => #[a, .pointer (some ⟨w.heap.size, 0, none⟩), .pointer (some ⟨w.heap.size + 1, 0, none⟩)]) (fun _ => rfl) (fun a w => by simp [go_sem]) (fun c w1 hk hc hcur => pcount_short B c _ (w.heap.size + 1) d s.at_ w1 hcur (by omega) (by omega) hlen m (hbs.kp hk (by simp)) hat h1)).mono ?_
        rintro e w1 ⟨rfl, h1, hk⟩
        exact ⟨rfl, h1, hqs.kp hk (by simp; omega), hk.mono (by simp)⟩
      by_cases h2 : m < num ((d.drop s.at_).take 2)
      · have e1 : rdCount d m s = (0, s.fault 12) := by unfold rdCount; rw [if_neg (by simpa using h0), if_neg h1, if_pos h2]
        rw [e1]
        refine (take_bad p 70 #[.pointer (some ⟨w.heap.size, 0, none⟩), .pointer (some ⟨w.heap.size + 1, 0, none⟩)] d s _ B 12 hr2 h0 (fun a => #[a, .pointer (some ⟨w.heap.size, 0, none⟩), .pointer (some ⟨w.heap.size + 1, 0, none⟩)]) (fun _ => rfl) (fun a w => by simp [go_sem]) (fun c w1 hk hc hcur => pcount_long B c _ (w.heap.size + 1) d s.at_ w1 hcur (by omega) (by omega) hlen m (hbs.kp hk (by simp)) (by omega) (by omega) h2)).mono ?_
        rintro e w1 ⟨rfl, h1, hk⟩
        exact ⟨rfl, h1, hqs.kp hk (by simp; omega), hk.mono (by simp)⟩
      · have e1 : rdCount d m s = (num ((d.drop s.at_).take 2), s.move 2) := by unfold rdCount; rw [if_neg (by simpa using h0), if_neg h1, if_neg h2]
        rw [e1]
        refine (take_ok p 70 #[.pointer (some ⟨w.heap.size, 0, none⟩), .pointer (some ⟨w.heap.size + 1, 0, none⟩)] d s _ B (w.heap.size + 1) (s.at_ + 2) (.int .i64 (num ((d.drop s.at_).take 2))) 3 hr2 h0 (by omega) (by omega) (by omega) (by omega) (fun a => #[a, .pointer (some ⟨w.heap.size, 0, none⟩), .pointer (some ⟨w.heap.size + 1, 0, none⟩)]) (fun _ => rfl) (fun a w => by simp [go_sem]) (fun c w1 hk hc hcur => pcount_ok B c _ (w.heap.size + 1) d s.at_ _ w1 hcur (by omega) (by omega) hlen m (hbs.kp hk (by simp)) (hqs.kp hk (by simp)) (by omega) (by omega) (by omega))).mono ?_
        rintro e w1 ⟨rfl, h1, h2, hk⟩
        exact ⟨rfl, h1, h2, hk⟩
    · have e1 : rdCount d m s = (0, s) := by unfold rdCount; rw [if_pos (by simpa using h0)]
      rw [e1]
      refine (take_skip p _ _ d s _ B hr2 h0).mono ?_
      rintro e w1 ⟨rfl, hk⟩
      exact ⟨rfl, hr2.kp hk (by simp), hqs.kp hk (by simp), hk.nil⟩
  generalize rdCount d m s = R at *
  go_enter Tryd.func40, Tryd.ntmps40
  go_wp2_with fail
  refine key.mono ?_
  rintro e w1 ⟨rfl, h1, h2, hk⟩
  have q0 := h2.cell
  go_wp2
  go_ret
  exact ⟨rfl, h1, hkk.nil.trans' hk (by simp)⟩

theorem rtext_calls (B p : Nat) (d : List UInt8) (s : RS) (m : Nat) (w : World) (hr : IsRd w B p d s) (hlen : d.length ≤ 140737488355328) :
    Calls Tryd.prog 41 #[.pointer (some ⟨p, 0, none⟩), .int .i64 m] w (Read B p d (.string ⟨(rdText d m s).1.toArray⟩) (rdText d m s).2 w) := by
  have hmf : ∀ (fn : Fn) (first cap : Array Value) (w : World), (Instr.makeFunc fn first cap).run Tryd.prog w = .ok (.func fn first cap) w := fun _ _ _ _ => rfl
  have hpw : p < w.heap.size := by obtain ⟨_, _, a, cap, hh, _⟩ := hr; exact lt_of_heap hh
  have hBw := hr.1
  have hat := hr.2.1
  have hkk : Kp [] w ((w.alloc (.cells #[.int .i64 m] 3)).alloc (.cells #[.string ⟨#[]⟩] 9)) := ((Kp.refl [] w).alloc _).alloc _
  have hsz : ((w.alloc (.cells #[.int .i64 m] 3)).alloc (.cells #[.string ⟨#[]⟩] 9)).heap.size = w.heap.size + 1 + 1 := by simp only [World.size_alloc]
  have hbs : One ((w.alloc (.cells #[.int .i64 m] 3)).alloc (.cells #[.string ⟨#[]⟩] 9)) w.heap.size (.int .i64 m) 3 := by simp only [One, halloc, hdrew, World.size_alloc]; simp
  have hqs : One ((w.alloc (.cells #[.int .i64 m] 3)).alloc (.cells #[.string ⟨#[]⟩] 9)) (w.heap.size + 1) (.string ⟨#[]⟩) 9 := by simp only [One, halloc, hdrew, World.size_alloc]; simp
  have hr2 := hr.kp hkk (by simp)
  have key : Calls Tryd.prog 65 #[.pointer (some ⟨p, 0, none⟩), .func (.func 71) #[] #[.pointer (some ⟨w.heap.size, 0, none⟩), .pointer (some ⟨w.heap.size + 1, 0, none⟩)]] ((w.alloc (.cells #[.int .i64 m] 3)).alloc (.cells #[.string ⟨#[]⟩] 9))
      fun e w1 => e = .returned (.tuple #[]) ∧ IsRd w1 B p d (rdText d m s).2 ∧ One w1 (w.heap.size + 1) (.string ⟨(rdText d m s).1.toArray⟩) 9 ∧ Kp [p, w.heap.size + 1] ((w.alloc (.cells #[.int .i64 m] 3)).alloc (.cells #[.string ⟨#[]⟩] 9)) w1 := by
    by_cases h0 : s.code = 0
    · by_cases h1 : d.length < 2 + s.at_
      · have e1 : rdText d m s = ([], s.fault 10) := by unfold rdText; rw [if_neg (by simpa using h0), if_pos h1]
        rw [e1]
        refine (take_bad p 71 #[.pointer (some ⟨w.heap.size, 0, none⟩), .pointer (some ⟨w.heap.size + 1, 0, none⟩)] d s _ B 10 hr2 h0 (fun a => #[a, .pointer (some ⟨w.heap.size, 0, none⟩), .pointer (some ⟨w.heap.size + 1, 0, none⟩)]) (fun _ => rfl) (fun a w => by simp [go_sem]) (fun c w1 hk hc hcur => ptext_short B c _ (w.heap.size + 1) d s.at_ w1 hcur (by omega) (by omega) hlen m (hbs.kp hk (by simp)) hat h1)).mono ?_
        rintro e w1 ⟨rfl, h1, hk⟩
        exact ⟨rfl, h1, hqs.kp hk (by simp; omega), hk.mono (by simp)⟩
      by_cases h2 : m < num ((d.drop s.at_).take 2)
      · have e1 : rdText d m s = ([], s.fault 12) := by unfold rdText; rw [if_neg (by simpa using h0), if_neg h1, if_pos h2]
        rw [e1]
        refine (take_bad p 71 #[.pointer (some ⟨w.heap.size, 0, none⟩), .pointer (some ⟨w.heap.size + 1, 0, none⟩)] d s _ B 12 hr2 h0 (fun a => #[a, .pointer (some ⟨w.heap.size, 0, none⟩), .pointer (some ⟨w.heap.size + 1, 0, none⟩)]) (fun _ => rfl) (fun a w => by simp [go_sem]) (fun c w1 hk hc hcur => ptext_long B c _ (w.heap.size + 1) d s.at_ w1 hcur (by omega) (by omega) hlen m (hbs.kp hk (by simp)) (by omega) (by omega) h2)).mono ?_
        rintro e w1 ⟨rfl, h1, hk⟩
        exact ⟨rfl, h1, hqs.kp hk (by simp; omega), hk.mono (by simp)⟩
      by_cases h3 : d.length < num ((d.drop s.at_).take 2) + (s.at_ + 2)
      · have e1 : rdText d m s = ([], s.fault 10) := by unfold rdText; rw [if_neg (by simpa using h0), if_neg h1, if_neg h2, if_pos h3]
        rw [e1]
        refine (take_bad p 71 #[.pointer (some ⟨w.heap.size, 0, none⟩), .pointer (some ⟨w.heap.size + 1, 0, none⟩)] d s _ B 10 hr2 h0 (fun a => #[a, .pointer (some ⟨w.heap.size, 0, none⟩), .pointer (some ⟨w.heap.size + 1, 0, none⟩)]) (fun _ => rfl) (fun a w => by simp [go_sem]) (fun c w1 hk hc hcur => ptext_short2 B c _ (w.heap.size + 1) d s.at_ w1 hcur (by omega) (by omega) hlen m (hbs.kp hk (by simp)) (by omega) (by omega) (by omega) h3)).mono ?_
        rintro e w1 ⟨rfl, h1, hk⟩
        exact ⟨rfl, h1, hqs.kp hk (by simp; omega), hk.mono (by simp)⟩
      · have e1 : rdText d m s = ((d.drop (s.at_ + 2)).take (num ((d.drop s.at_).take 2)), s.move (2 + num ((d.drop s.at_).take 2))) := by unfold rdText; rw [if_neg (by simpa using h0), if_neg h1, if_neg h2, if_neg h3]
        rw [e1]
        refine (take_ok p 71 #[.pointer (some ⟨w.heap.size, 0, none⟩), .pointer (some ⟨w.heap.size + 1, 0, none⟩)] d s _ B (w.heap.size + 1) (s.at_ + 2 + num ((d.drop s.at_).take 2)) (.string ⟨((d.drop (s.at_ + 2)).take (num ((d.drop s.at_).take 2))).toArray⟩) 9 hr2 h0 (by omega) (by omega) (by omega) (by omega) (fun a => #[a, .pointer (some ⟨w.heap.size, 0, none⟩), .pointer (some ⟨w.heap.size + 1, 0, none⟩)]) (fun _ => rfl) (fun a w => by simp [go_sem]) (fun c w1 hk hc hcur => ptext_ok B c _ (w.heap.size + 1) d s.at_ _ w1 hcur (by omega) (by omega) hlen m (hbs.kp hk (by simp)) (hqs.kp hk (by simp)) (by omega) (by omega) (by omega) (by omega))).mono ?_
        rintro e w1 ⟨rfl, h1, h2, hk⟩
        refine ⟨rfl, ?_, h2, hk⟩
        rw [Nat.add_assoc] at h1
        exact h1
    · have e1 : rdText d m s = ([], s) := by unfold rdText; rw [if_pos (by simpa using h0)]
      rw [e1]
      refine (take_skip p _ _ d s _ B hr2 h0).mono ?_
      rintro e w1 ⟨rfl, hk⟩
      exact ⟨rfl, hr2.kp hk (by simp), hqs.kp hk (by simp), hk.nil⟩
  generalize rdText d m s = R at *
  go_enter Tryd.func41, Tryd.ntmps41
  go_wp2_with fail
  refine key.mono ?_
  rintro e w1 ⟨rfl, h1, h2, hk⟩
  have q0 := h2.cell
  go_wp2
  go_ret
  exact ⟨rfl, h1, hkk.nil.trans' hk (by simp)⟩

theorem left_calls (B p : Nat) (d : List UInt8) (s : RS) (w : World) (hr : IsRd w B p d s) (hlen : d.length ≤ 140737488355328) :
    Calls Tryd.prog 73 #[.pointer (some ⟨p, 0, none⟩)] w fun e w' => e = .returned (.int .i64 ((d.length : Int) - s.at_)) ∧ ∃ n, w' = w.drewN n := by
  obtain ⟨hB, hat, a, cap, hh, hb, hne⟩ := hr
  have hplt := lt_of_heap hh
  have hh_0 := cell_heap (w := w) (b := p) hh 0
  have hh_1 := cell_heap (w := w) (b := p) hh 1
  simp only [List.getElem?_toArray, List.getElem?_cons_zero, List.getElem?_cons_succ] at hh_0 hh_1
  have hw1 : IntKind.i64.wrap ((d.length : Int) - s.at_) = d.length - s.at_ := IntWalk.i64_in _ (by omega)
  go_enter Tryd.func73, Tryd.ntmps73
  go_wp2
  go_quiet (fail)
  go_wp2
  go_ret
  exact ⟨rfl, _, rfl⟩

/-- A fault as a value. -/
def faultV (s : RS) : Value := .agg #[.int .i64 s.code, .int .i64 s.fat]

theorem end_calls (B p : Nat) (d : List UInt8) (s : RS) (w : World) (hr : IsRd w B p d s) (hlen : d.length ≤ 140737488355328) :
    Calls Tryd.prog 42 #[.pointer (some ⟨p, 0, none⟩)] w (Read B p d (faultV (rdEnd d s)) (rdEnd d s) w) := by
  have hr0 := hr
  obtain ⟨hB, hat, a, cap, hh, hb, hne⟩ := hr
  have hplt := lt_of_heap hh
  have hh_1 := cell_heap (w := w) (b := p) hh 1
  have hh_3 := cell_heap (w := w) (b := p) hh 3
  have hh_4 := cell_heap (w := w) (b := p) hh 4
  simp only [List.getElem?_toArray, List.getElem?_cons_zero, List.getElem?_cons_succ] at hh_1 hh_3 hh_4
  have f3 := free_heap hh 3
  have f4 := free_heap hh 4
  by_cases h0 : s.code = 0
  · have hb0 : (s.code == 0) = true := by simpa using h0
    by_cases h1 : s.at_ < d.length
    · have e1 : rdEnd d s = s.fault 13 := by unfold rdEnd; rw [if_pos ⟨h0, h1⟩]
      rw [e1]
      clear h0 e1
      have hd : decide ((0 : Int) < (d.length : Int) - s.at_) = true := by rw [decide_eq_true_eq]; omega
      go_enter Tryd.func42, Tryd.ntmps42
      go_wp2_with (go_at_call 73; refine (left_calls B p d s _ (hr0.kp ((Kp.refl [] w).alloc _) (by simp)) hlen).mono ?_; rintro e w' ⟨rfl, n, rfl⟩)
      have hA : ((w.alloc (.cells #[.int .i64 0, .int .i64 0] 78)).drewN n).heap[p]? = _ := (((Kp.refl [] w).alloc (.cells #[.int .i64 0, .int .i64 0] 78)).drewN n).heap hh (by simp)
      have h3 := heap_setCell_same _ p 3 _ _ (.int .i64 13) hA
      have h4 := heap_setCell_same _ p 4 _ _ (.int .i64 s.at_) h3
      have hk : Kp [p] w ((((((w.alloc (.cells #[.int .i64 0, .int .i64 0] 78)).drewN n).setCell ⟨p, 3, none⟩ (.int .i64 13)).setCell ⟨p, 4, none⟩ (.int .i64 s.at_)).setCell ⟨w.heap.size, 0, none⟩ (.int .i64 13)).setCell ⟨w.heap.size, 1, none⟩ (.int .i64 s.at_)) :=
        (((((((Kp.refl [p] w).alloc _).drewN n).setCell (.inl (by simp)) _).setCell (.inl (by simp)) _).setCell (.inr (Nat.le_refl _)) _).setCell (.inr (Nat.le_refl _)) _)
      refine bodyPost_ret (v := faultV (s.fault 13)) (by simp [results, Tryd.results42, go_sem, faultV, RS.fault, hplt]) rfl ⟨rfl, ⟨by have := hk.size; omega, hat, a, cap, ?_, hb.kp hk (fun b e hm => (hne b e).1 (by simpa using hm)), hne⟩, hk⟩
      rw [hset _ _ _ _ (by simp; omega), hset _ _ _ _ (by simp; omega), h4]
      simp [RS.fault]
    · have e1 : rdEnd d s = s := by unfold rdEnd; rw [if_neg (by omega)]
      rw [e1]
      have h0' := Lib.hid h0
      clear h0 e1
      have hd : decide ((0 : Int) < (d.length : Int) - s.at_) = false := by rw [decide_eq_false_iff_not]; omega
      go_enter Tryd.func42, Tryd.ntmps42
      go_wp2_with (go_at_call 73; refine (left_calls B p d s _ (hr0.kp ((Kp.refl [] w).alloc _) (by simp)) hlen).mono ?_; rintro e w' ⟨rfl, n, rfl⟩)
      have hk : Kp [] w ((((w.alloc (.cells #[.int .i64 0, .int .i64 0] 78)).drewN n).setCell ⟨w.heap.size, 0, none⟩ (.int .i64 s.code)).setCell ⟨w.heap.size, 1, none⟩ (.int .i64 s.fat)) :=
        (((((Kp.refl [] w).alloc _).drewN n).setCell (.inr (Nat.le_refl _)) _).setCell (.inr (Nat.le_refl _)) _)
      exact bodyPost_ret (v := faultV s) (by simp [results, Tryd.results42, go_sem, faultV, hplt]) rfl ⟨rfl, hr0.kp hk (by simp), hk.nil⟩
  · have e1 : rdEnd d s = s := by unfold rdEnd; rw [if_neg (by omega)]
    have hb0 : (s.code == 0) = false := by simpa using h0
    rw [e1]
    have h0' := Lib.hid h0
    clear h0 e1
    go_enter Tryd.func42, Tryd.ntmps42
    go_wp2_with fail
    exact bodyPost_ret (v := faultV s) (by simp [results, Tryd.results42, go_sem, faultV, hplt]) rfl ⟨rfl, hr0.kp (S := []) ((Kp.refl [] w).alloc _) (by simp), (Kp.refl [p] w).alloc _⟩
end Go.Proofs.YtddpefbpiehgeaaDoor
