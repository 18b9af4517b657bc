/- The link: Make and Parse, whatever comes in. -/
import Derived.Test.YtddpefbpiehgeaaDoorLinkH
namespace Go.Proofs.YtddpefbpiehgeaaDoor
open Go Go.RowKit
set_option maxRecDepth 100000
set_option linter.unusedVariables false
set_option linter.unusedSectionVars false
set_option linter.unusedSimpArgs false

theorem rdNum_le (d : List UInt8) (k : Nat) (s : RS) : (rdNum d k s).1 ≤ 9223372036854775807 := by
  unfold rdNum
  repeat (split; · simp)
  simp; omega
theorem rdCount_le (d : List UInt8) (m : Nat) (s : RS) : (rdCount d m s).1 ≤ m := by
  unfold rdCount
  repeat (split; · simp)
  simp; omega

theorem parse_open (s : ByteArray) (v : Value) (l d : List UInt8) (w : World) (hG : GH w) (hs : s.size ≤ 200) (hv : Bs w v l) (hl : 16 ≤ l.length) (hl1 : l.length ≤ 140737488352000) (ho : opened s l = some d) :
    Calls Tryd.prog 15 #[.string s, v] w (RetP d w) := by
  obtain ⟨k, s1, h1⟩ : ∃ k s1, rdNum d 1 ⟨0, 0, 0, 0⟩ = (k, s1) := ⟨_, _, rfl⟩
  by_cases hk1 : k = 1
  · obtain ⟨fa, sa, ha⟩ : ∃ k s1', rdNum d 8 s1 = (k, s1') := ⟨_, _, rfl⟩
    obtain ⟨b, s2, h2⟩ : ∃ k s1', rdNum d 8 sa = (k, s1') := ⟨_, _, rfl⟩
    obtain ⟨N, s4, h4⟩ : ∃ k s1', rdCount d 8 s2 = (k, s1') := ⟨_, _, rfl⟩
    obtain ⟨its, s5, h5⟩ : ∃ k s1', rdIts d N [] s4 = (k, s1') := ⟨_, _, rfl⟩
    exact parse_items s v l d k fa b N its s1 sa s2 s4 s5 _ w hG hs hv hl hl1 ho h1 ha h2 h4 h5 rfl hk1 (by have := rdNum_le d 8 s1; rw [ha] at this; exact this) (by have := rdNum_le d 8 sa; rw [h2] at this; exact this) (by have := rdCount_le d 8 s2; rw [h4] at this; exact this)
  · by_cases hk4 : k = 4
    · obtain ⟨t, s2, h2⟩ : ∃ k s1', rdText d 16100 s1 = (k, s1') := ⟨_, _, rfl⟩
      exact parse_text s v l d k t s1 s2 _ w hG hs hv hl hl1 ho h1 h2 rfl hk4 (by have := rdText_len d 16100 s1; rw [h2] at this; exact this)
    · obtain ⟨b, s2, h2⟩ : ∃ k s1', rdNum d 8 s1 = (k, s1') := ⟨_, _, rfl⟩
      exact parse_else s v l d k b s1 s2 _ w hG hs hv hl hl1 ho h1 h2 rfl hk1 hk4 (by have := rdNum_le d 8 s1; rw [h2] at this; exact this)

/-- What Parse tells of bytes. -/
def parsedOf (s : ByteArray) (l : List UInt8) : Fr × Int :=
  if 200 < s.size then (zeroF, 2) else if l.length < 16 then (zeroF, 121) else
    match opened s l with
    | none => (zeroF, 121)
    | some d => match parsed d with
      | none => (zeroF, 120)
      | some f => (f, 0)

theorem zeroF_is (w : World) (B : Nat) : IsF w B zeroV zeroF := ⟨_, _, [], rfl, Own.nil _ _ _ _, ⟨rfl, fun i h => by simp [zeroF] at h, fun i j u v _ h => by simp at h⟩, Own.nil _ _ _ _, by simp⟩

def RetF (r : Fr × Int) (w : World) (e : Ending) (w' : World) : Prop := ∃ v, e = .returned (.tuple #[v, .int .i64 r.2]) ∧ IsF w' w.heap.size v r.1 ∧ Kp [] w w'

theorem parse_calls (s : ByteArray) (v : Value) (l : List UInt8) (w : World) (hG : GH w) (hv : Bs w v l) (hl1 : l.length ≤ 140737488352000) :
    Calls Tryd.prog 15 #[.string s, v] w (RetF (parsedOf s l) w) := by
  unfold parsedOf
  by_cases hs : 200 < s.size
  · rw [if_pos hs]
    exact (parse_long s v w hs).mono fun e w' ⟨he, hk⟩ => ⟨_, he, zeroF_is _ _, hk⟩
  · rw [if_neg hs]
    by_cases hl : l.length < 16
    · rw [if_pos hl]
      exact (parse_short s v l w (by omega) hv hl).mono fun e w' ⟨he, hk⟩ => ⟨_, he, zeroF_is _ _, hk⟩
    · rw [if_neg hl]
      cases ho : opened s l with
      | none => exact (parse_shut s v l w hG (by omega) hv (by omega) hl1 ho).mono fun e w' ⟨he, hk⟩ => ⟨_, he, zeroF_is _ _, hk⟩
      | some d =>
        have h := parse_open s v l d w hG (by omega) hv (by omega) hl1 ho
        unfold RetP at h
        simp only
        cases hp : parsed d with
        | none => rw [hp] at h; exact h.mono fun e w' ⟨he, hk⟩ => ⟨_, he, zeroF_is _ _, hk⟩
        | some f => rw [hp] at h; exact h.mono fun e w' ⟨v, he, hF, hk⟩ => ⟨v, he, hF, hk⟩

/-- What Make tells of a frame. -/
def madeOf (s : ByteArray) (f : Fr) : List UInt8 × Int := if mayB f = false then ([], 1) else if 200 < s.size then ([], 2) else (sealed s (frameBytes f), 0)

def RetM (r : List UInt8 × Int) (w : World) (e : Ending) (w' : World) : Prop := ∃ v, e = .returned (.tuple #[v, .int .i64 r.2]) ∧ OB w' 5 w.heap.size v r.1 ∧ Kp [] w w'

theorem make_all (s : ByteArray) (f : Fr) (iv tv : Value) (w : World) (hG : GH w) (hi : Rws w iv f.its) (ht : Bs w tv f.t) (hn : f.its.length ≤ 100000000000000) (hnt : f.t.length ≤ 140737488352000) (hb : f.b ≤ 9223372036854775807) :
    Calls Tryd.prog 11 #[.string s, .agg (fcells f iv tv)] w (RetM (madeOf s f) w) := by
  unfold madeOf
  cases hm : mayB f with
  | false =>
    rw [if_pos rfl]
    exact (make_bad s f iv tv w hm hi ht hn hnt hb).mono fun e w' ⟨he, hk⟩ => ⟨_, he, Own.nil _ _ _ _, hk⟩
  | true =>
    rw [if_neg (by simp)]
    by_cases hs : 200 < s.size
    · rw [if_pos hs]
      exact (make_long s f iv tv w hG hs hm hi ht hn hnt hb).mono fun e w' ⟨he, hk⟩ => ⟨_, he, Own.nil _ _ _ _, hk⟩
    · rw [if_neg hs]
      exact (make_calls s f iv tv w hG (by omega) hm hi ht hn hnt hb).mono fun e w' ⟨v, he, ho, hk⟩ => ⟨v, he, ho, hk⟩
end Go.Proofs.YtddpefbpiehgeaaDoor
