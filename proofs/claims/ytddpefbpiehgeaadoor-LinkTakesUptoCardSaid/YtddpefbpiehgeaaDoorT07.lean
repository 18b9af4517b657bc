/- The link: Make and Parse, whatever comes in. -/
import Derived.Test.YtddpefbpiehgeaaDoorT06
import Derived.Test.YtddpefbpiehgeaaDoorT00
namespace Go.Proofs.YtddpefbpiehgeaaDoor
open Go Go.RowKit
set_option maxRecDepth 100000
set_option linter.unusedVariables false
set_option linter.unusedSectionVars false
set_option linter.unusedSimpArgs false

theorem rdNum_le (d : List UInt8) (k : Nat) (s : RS) : (rdNum d k s).1 ≤ 9223372036854775807 := by
  unfold rdNum
  repeat (split; · simp)
  simp; omega
theorem rdCount_le (d : List UInt8) (m : Nat) (s : RS) : (rdCount d m s).1 ≤ m := by
  unfold rdCount
  repeat (split; · simp)
  simp; omega

theorem parse_open (s : ByteArray) (v : Value) (l d : List UInt8) (w : World) (hG : GH w) (hs : s.size ≤ 200) (hv : Bs w v l) (hl : 16 ≤ l.length) (hl1 : l.length ≤ 140737488352000) (ho : opened s l = some d) :
    Calls Tryd.prog 15 #[.string s, v] w (RetP d w) := by
  obtain ⟨k, s1, h1⟩ : ∃ k s1, rdNum d 1 ⟨0, 0, 0, 0⟩ = (k, s1) := ⟨_, _, rfl⟩
  by_cases hk1 : k = 1
  · obtain ⟨fa, sa, ha⟩ : ∃ k s1', rdNum d 8 s1 = (k, s1') := ⟨_, _, rfl⟩
    obtain ⟨b, s2, h2⟩ : ∃ k s1', rdNum d 8 sa = (k, s1') := ⟨_, _, rfl⟩
    obtain ⟨N, s4, h4⟩ : ∃ k s1', rdCount d 8 s2 = (k, s1') := ⟨_, _, rfl⟩
    obtain ⟨its, s5, h5⟩ : ∃ k s1', rdIts d N [] s4 = (k, s1') := ⟨_, _, rfl⟩
    exact parse_items s v l d k fa b N its s1 sa s2 s4 s5 _ w hG hs hv hl hl1 ho h1 ha h2 h4 h5 rfl hk1 (by have := rdNum_le d 8 s1; rw [ha] at this; exact this) (by have := rdNum_le d 8 sa; rw [h2] at this; exact this) (by have := rdCount_le d 8 s2; rw [h4] at this; exact this)
  · by_cases hk4 : k = 4
    · obtain ⟨t, s2, h2⟩ : ∃ k s1', rdText d 16100 s1 = (k, s1') := ⟨_, _, rfl⟩
      exact parse_text s v l d k t s1 s2 _ w hG hs hv hl hl1 ho h1 h2 rfl hk4 (by have := rdText_len d 16100 s1; rw [h2] at this; exact this)
    · obtain ⟨b, s2, h2⟩ : ∃ k s1', rdNum d 8 s1 = (k, s1') := ⟨_, _, rfl⟩
      exact parse_else s v l d k b s1 s2 _ w hG hs hv hl hl1 ho h1 h2 rfl hk1 hk4 (by have := rdNum_le d 8 s1; rw [h2] at this; exact this)

/-- What Parse tells of bytes. -/
def parsedOf (s : ByteArray) (l : List UInt8) : Fr × Int :=
  if 200 < s.size then (zeroF, 2) else if l.length < 16 then (zeroF, 121) else
    match opened s l with
    | none => (zeroF, 121)
    | some d => match parsed d with
      | none => (zeroF, 120)
      | some f => (f, 0)

theorem zeroF_is (w : World) (B : Nat) : IsF w B zeroV zeroF := ⟨_, _, [], rfl, Own.nil _ _ _ _, ⟨rfl, fun i h => by simp [zeroF] at h, fun i j u v _ h => by simp at h⟩, Own.nil _ _ _ _, by simp⟩

def RetF (r : Fr × Int) (w : World) (e : Ending) (w' : World) : Prop := ∃ v, e = .returned (.tuple #[v, .int .i64 r.2]) ∧ IsF w' w.heap.size v r.1 ∧ Kp [] w w'

theorem parse_calls (s : ByteArray) (v : Value) (l : List UInt8) (w : World) (hG : GH w) (hv : Bs w v l) (hl1 : l.length ≤ 140737488352000) :
    Calls Tryd.prog 15 #[.string s, v] w (RetF (parsedOf s l) w) := by
  unfold parsedOf
  by_cases hs : 200 < s.size
  · rw [if_pos hs]
    exact (parse_long s v w hs).mono fun e w' ⟨he, hk⟩ => ⟨_, he, zeroF_is _ _, hk⟩
  · rw [if_neg hs]
    by_cases hl : l.length < 16
    · rw [if_pos hl]
      exact (parse_short s v l w (by omega) hv hl).mono fun e w' ⟨he, hk⟩ => ⟨_, he, zeroF_is _ _, hk⟩
    · rw [if_neg hl]
      cases ho : opened s l with
      | none => exact (parse_shut s v l w hG (by omega) hv (by omega) hl1 ho).mono fun e w' ⟨he, hk⟩ => ⟨_, he, zeroF_is _ _, hk⟩
      | some d =>
        have h := parse_open s v l d w hG (by omega) hv (by omega) hl1 ho
        unfold RetP at h
        simp only
        cases hp : parsed d with
        | none => rw [hp] at h; exact h.mono fun e w' ⟨he, hk⟩ => ⟨_, he, zeroF_is _ _, hk⟩
        | some f => rw [hp] at h; exact h.mono fun e w' ⟨v, he, hF, hk⟩ => ⟨v, he, hF, hk⟩

/-- What Make tells of a frame. -/
def madeOf (s : ByteArray) (f : Fr) : List UInt8 × Int := if mayB f = false then ([], 1) else if 200 < s.size then ([], 2) else (sealed s (frameBytes f), 0)

def RetM (r : List UInt8 × Int) (w : World) (e : Ending) (w' : World) : Prop := ∃ v, e = .returned (.tuple #[v, .int .i64 r.2]) ∧ OB w' 5 w.heap.size v r.1 ∧ Kp [] w w'

theorem make_all (s : ByteArray) (f : Fr) (iv tv : Value) (w : World) (hG : GH w) (hi : Rws w iv f.its) (ht : Bs w tv f.t) (hn : f.its.length ≤ 100000000000000) (hnt : f.t.length ≤ 140737488352000) (hb : f.b ≤ 9223372036854775807) :
    Calls Tryd.prog 11 #[.string s, .agg (fcells f iv tv)] w (RetM (madeOf s f) w) := by
  unfold madeOf
  cases hm : mayB f with
  | false =>
    rw [if_pos rfl]
    exact (make_bad s f iv tv w hm hi ht hn hnt hb).mono fun e w' ⟨he, hk⟩ => ⟨_, he, Own.nil _ _ _ _, hk⟩
  | true =>
    rw [if_neg (by simp)]
    by_cases hs : 200 < s.size
    · rw [if_pos hs]
      exact (make_long s f iv tv w hG hs hm hi ht hn hnt hb).mono fun e w' ⟨he, hk⟩ => ⟨_, he, Own.nil _ _ _ _, hk⟩
    · rw [if_neg hs]
      exact (make_calls s f iv tv w hG (by omega) hm hi ht hn hnt hb).mono fun e w' ⟨v, he, ho, hk⟩ => ⟨v, he, ho, hk⟩
end Go.Proofs.YtddpefbpiehgeaaDoor

/- append onto an owned row: either it stays in its block, or nothing that there was has changed. -/
namespace Go.Proofs.YtddpefbpiehgeaaDoor
open Go Go.RowKit

section
variable {P : Program} (w : World)

theorem run_app2 (base : Nat) (t tx ty e : TypeId) (i : TypeInfo) (z : Value) (size bytes : Nat) (ht : P.underlying t = some (.slice e)) (hi : P.info? e = some i) (hz : i.zero = some z)
    (hsize : i.size = size) (hby : i.bytes = bytes) (hzs : z.cells.size = size) (hsz : 0 < size)
    (v : Value) (n : Nat) (xs : List Value) (hown : Own w base e size v n xs)
    (x : Value) (m : Nat) (news : List Value) (hs : Src P size tx x m news w)
    (hbytes : (n + m) * bytes ≤ 140737488355328) (h63 : n + m ≤ 140737488355328) (hbase : base ≤ w.heap.size) :
    ∃ v' w', (Builtin.append_ #[t, tx] ty #[v, x]).run P w = .ok v' w' ∧ Own w' base e size v' (n + m) (xs ++ news) ∧ ((v'.ownBlock = v.ownBlock ∧ w.grownBy w' v.ownBlock) ∨ (Kp [] w w' ∧ ∀ b, v'.ownBlock = some b → w.heap.size ≤ b)) := by
  subst hsize
  subst hby
  have hsmall : n + m ≤ maxLen := by unfold maxLen; omega
  have hl := hs.newsLen
  have hlen : (xs ++ news).length = (n + m) * i.size := by rw [List.length_append, hown.1, hl, Nat.add_mul]
  have grown : ∀ (old : Nat), old < n + m →
      Own (w.drew.alloc (.cells ((xs ++ news).toArray ++ Builtin.zeroCells z.cells (grownCap w (n + m) old e - (n + m))) e)) base e i.size
        (.slice (some ⟨w.heap.size, 0, none⟩) (n + m) (grownCap w (n + m) old e)) (n + m) (xs ++ news) ∧
      Kp [] w (w.drew.alloc (.cells ((xs ++ news).toArray ++ Builtin.zeroCells z.cells (grownCap w (n + m) old e - (n + m))) e)) := by
    intro old ho
    have hge := grownCap_ge w (n + m) old e
    have hcm : grownCap w (n + m) old e ≤ maxLen := grownCap_le_maxLen w (n + m) old e hsmall
    refine ⟨⟨hlen, .inr ⟨w.heap.size, _, _, (0, 0), rfl, hbase, heap_alloc_new w.drew _, .inl rfl, hge, hcm, ?_, ?_⟩⟩, (Kp.refl [] w).drew.alloc _⟩
    · simp only [Array.size_append, List.size_toArray, size_zeroCells, hzs, hlen, ← Nat.add_mul]
      congr 1
      omega
    · simp only [Array.toList_append, ← hlen]
      exact List.take_left
  rcases hown.2 with ⟨rfl, rfl⟩ | ⟨g, cap, cur, fr, rfl, hbg, hg, hfr, hnc, hcm, hcs, htake⟩
  · have hx : xs = [] := List.eq_nil_of_length_eq_zero (by simpa using hown.1)
    subst hx
    by_cases hm : m = 0
    · subst hm
      have hn : news = [] := List.eq_nil_of_length_eq_zero (by simpa using hl)
      subst hn
      refine ⟨.slice none 0 0, w, ?_, Own.nil w base e i.size, .inr ⟨Kp.refl _ _, nofun⟩⟩
      rcases hs.kind with ⟨e', hk⟩ | hk <;> simp [Builtin.append_, run_underlying ht, run_underlying hk, sizeOf, typeInfo, hi, hs.len, hs.cells]
    · have hold : (Builtin.firstCells i.size 0 (.slice none 0 0)).run P w.drew = .ok ([] : List Value).toArray w.drew := run_firstCells_none w.drew i.size 0 0 0
      have hr := run_append_grow_src (P := P) w t tx ty e i z ht hi hz none 0 0 [] hold x m news hs (by omega) (by omega) (growslice_fits (by omega) hbytes)
      have hgr := grown 0 (by omega)
      refine ⟨_, _, hr, ?_, .inr ⟨hgr.2, fun b hb => ?_⟩⟩
      · exact hgr.1
      · cases hb; exact Nat.le_refl _
  · by_cases hroom : n + m ≤ cap
    · have hfit : n * i.size + news.length ≤ cur.size := by rw [hl, hcs, ← Nat.add_mul]; exact Nat.mul_le_mul_right _ hroom
      have hr := run_append_room_src (P := P) w t tx ty e i ht hi g 0 n cap x m news hs hroom
        (fun j hj => by rw [Nat.zero_add, cell_heap hg]; simp; omega) (fun j hj => by rw [Nat.zero_add]; exact free_mark hg hfr _ (by omega))
      rw [Nat.zero_add] at hr
      obtain ⟨h1, h2, h3, h4, h5, h6⟩ := heap_sets news (n * i.size) w cur hg hfit
      refine ⟨_, _, hr, ⟨hlen, .inr ⟨g, cap, _, fr, rfl, hbg, h1, ?_, hroom, hcm, ?_, ?_⟩⟩, .inl ⟨rfl, ⟨h3, h4, h5, Nat.le_of_eq h6.symm, fun k _ hk => h2 k (fun e => hk (by simp [Value.ownBlock, e]))⟩⟩⟩
      · have hsz : (cur.toList.take (n * i.size) ++ news ++ cur.toList.drop (n * i.size + news.length)).toArray.size = cur.size := by
          simp only [List.size_toArray, List.length_append, List.length_take, List.length_drop, Array.length_toList]
          omega
        rw [hsz]; exact hfr
      · simp only [List.size_toArray, List.length_append, List.length_take, List.length_drop, Array.length_toList]
        omega
      · rw [htake, ← hlen]
        exact List.take_left
    · have holds : ∀ j u, xs[j]? = some u → w.cell? ((⟨g, 0, none⟩ : Addr).add j) = some u := fun j u hj => by
        rw [Addr.add_lit, Nat.zero_add, cell_heap hg, ← Array.getElem?_toList]
        rw [← htake, List.getElem?_take] at hj
        split at hj
        · exact hj
        · cases hj
      have hold : (Builtin.firstCells i.size n (.slice (some ⟨g, 0, none⟩) n cap)).run P w.drew = .ok xs.toArray w.drew := run_firstCells_some w.drew i.size n ⟨g, 0, none⟩ n cap xs hown.1 (by simpa using holds)
      have hr := run_append_grow_src (P := P) w t tx ty e i z ht hi hz (some ⟨g, 0, none⟩) n cap xs hold x m news hs (by omega) (by omega) (growslice_fits (by omega) hbytes)
      have hgr := grown cap (by omega)
      exact ⟨_, _, hr, hgr.1, .inr ⟨hgr.2, fun b hb => by cases hb; exact Nat.le_refl _⟩⟩

theorem wp_app2 {o : Oper} {a : Act} {K : Act → World → Prop} {Q : Exit → Act → World → Prop} (s x : Operand) (t tx : TypeId)
    (ho : o.op = .call { callee := .builtin .append, args := #[s, x], argTypes := #[t, tx] })
    (base : Nat) (e : TypeId) (i : TypeInfo) (z : Value) (size bytes : Nat) (ht : P.underlying t = some (.slice e)) (hi : P.info? e = some i) (hz : i.zero = some z)
    (hsize : i.size = size) (hby : i.bytes = bytes) (hzs : z.cells.size = size) (hsz : 0 < size)
    (v : Value) (n : Nat) (xs : List Value) (hs : a.eval s = v) (hown : Own w base e size v n xs)
    (u : Value) (m : Nat) (news : List Value) (hx : a.eval x = u) (hsrc : Src P size tx u m news w)
    (hbytes : (n + m) * bytes ≤ 140737488355328) (h63 : n + m ≤ 140737488355328) (hbase : base ≤ w.heap.size)
    (h : ∀ v' w', Own w' base e size v' (n + m) (xs ++ news) → ((v'.ownBlock = v.ownBlock ∧ w.grownBy w' v.ownBlock) ∨ (Kp [] w w' ∧ ∀ b, v'.ownBlock = some b → w.heap.size ≤ b)) → K (a.put o.dst v') w') : o.wp P a w K Q := by
  obtain ⟨v', w', hr, h2, h3⟩ := run_app2 (P := P) w base t tx o.type e i z size bytes ht hi hz hsize hby hzs hsz v n xs hown u m news hsrc hbytes h63 hbase
  unfold Oper.wp execOp
  simp only [ho, resolve, invoke, builtin, Sem.run_bind, Sem.run_pure, Result.andThen_ok, List.map_toArray, List.map_cons, List.map_nil, hs, hx, hr]
  exact h v' w' h2 h3

theorem step_app2 {ops : Array Oper} {o : Oper} {a : Act} {K : Act → World → Prop} {Q : Exit → Act → World → Prop} {E : Prop} (hgd : o.guard = none) (s x : Operand) (t tx : TypeId)
    (ho : o.op = .call { callee := .builtin .append, args := #[s, x], argTypes := #[t, tx] })
    (base : Nat) (e : TypeId) (i : TypeInfo) (z : Value) (size bytes : Nat) (ht : P.underlying t = some (.slice e)) (hi : P.info? e = some i) (hz : i.zero = some z)
    (hsize : i.size = size) (hby : i.bytes = bytes) (hzs : z.cells.size = size) (hsz : 0 < size)
    (v : Value) (n : Nat) (xs : List Value) (hs : a.eval s = v) (hown : Own w base e size v n xs)
    (u : Value) (m : Nat) (news : List Value) (hx : a.eval x = u) (hsrc : Src P size tx u m news w)
    (hbytes : (n + m) * bytes ≤ 140737488355328) (h63 : n + m ≤ 140737488355328) (hbase : base ≤ w.heap.size)
    (h : ∀ v' w', Own w' base e size v' (n + m) (xs ++ news) → ((v'.ownBlock = v.ownBlock ∧ w.grownBy w' v.ownBlock) ∨ (Kp [] w w' ∧ ∀ b, v'.ownBlock = some b → w.heap.size ≤ b)) → K (a.put o.dst v') w') :
    if Region.wanted o (yielded ops a.tmps) = true then Oper.wp P o a w K Q else E := by
  have hw : Region.wanted o (yielded ops a.tmps) = true := by simp [Region.wanted, hgd]
  rw [if_pos hw]
  exact wp_app2 w s x t tx ho base e i z size bytes ht hi hz hsize hby hzs hsz v n xs hs hown u m news hx hsrc hbytes h63 hbase h

theorem wpList_app2 {ops : Array Oper} {rest : List Oper} {o : Oper} {a : Act} {Q : Exit → Act → World → Prop} (hgd : o.guard = none) (s x : Operand) (t tx : TypeId)
    (ho : o.op = .call { callee := .builtin .append, args := #[s, x], argTypes := #[t, tx] })
    (base : Nat) (e : TypeId) (i : TypeInfo) (z : Value) (size bytes : Nat) (ht : P.underlying t = some (.slice e)) (hi : P.info? e = some i) (hz : i.zero = some z)
    (hsize : i.size = size) (hby : i.bytes = bytes) (hzs : z.cells.size = size) (hsz : 0 < size)
    (v : Value) (n : Nat) (xs : List Value) (hs : a.eval s = v) (hown : Own w base e size v n xs)
    (u : Value) (m : Nat) (news : List Value) (hx : a.eval x = u) (hsrc : Src P size tx u m news w)
    (hbytes : (n + m) * bytes ≤ 140737488355328) (h63 : n + m ≤ 140737488355328) (hbase : base ≤ w.heap.size)
    (h : ∀ v' w', Own w' base e size v' (n + m) (xs ++ news) → ((v'.ownBlock = v.ownBlock ∧ w.grownBy w' v.ownBlock) ∨ (Kp [] w w' ∧ ∀ b, v'.ownBlock = some b → w.heap.size ≤ b)) → wpList P ops Q rest (a.put o.dst v') w') : wpList P ops Q (o :: rest) a w :=
  wpList_plain hgd fun _ hK => wp_app2 w s x t tx ho base e i z size bytes ht hi hz hsize hby hzs hsz v n xs hs hown u m news hx hsrc hbytes h63 hbase fun v' w' h2 h3 => hK _ _ (h v' w' h2 h3)
end

end Go.Proofs.YtddpefbpiehgeaaDoor

/- Plain: a sender's ticks, a receiver's answers. -/
namespace Go.Proofs.YtddpefbpiehgeaaDoor
open Go Go.RowKit
set_option maxRecDepth 100000
set_option linter.unusedVariables false
set_option linter.unusedSectionVars false
set_option linter.unusedSimpArgs false

/-- An item. -/
structure It where
  q : Int
  b : List UInt8

def okIt (q0 : Int) (n : Nat) (x : It) : Bool := decide (1 ≤ x.q) && (decide (x.q ≤ 4294967295) && (decide (x.q = q0 + n) && decide (x.b.length ≤ 256)))
/-- Are these a queue's items? -/
def rowFrom (q0 : Int) : Nat → List It → Bool
  | _, [] => true
  | n, x :: l => okIt q0 n x && rowFrom q0 (n + 1) l
def headQ (xs : List It) : Int := match xs with | [] => 0 | x :: _ => x.q
def rowB (xs : List It) : Bool := rowFrom (headQ xs) 0 xs

/-- What was sent, and when. -/
abbrev Sent := Int → Option Int
def Sent.put (f : Sent) (k c : Int) : Sent := fun z => if z = k then some c else f z
/-- Only what is not ahead of the first item is kept. -/
def keepS (f : Sent) (xs : List It) : Sent := fun z => match xs with | [] => none | x :: _ => if z < x.q then none else f z

def dueB (f : Sent) (clk ev : Int) (q : Int) : Bool := match f q with | none => true | some c => decide (ev ≤ clk - c)

/-- The last frame takes an item more. -/
def moreIt (fs : List Fr) (x : List UInt8) : List Fr := fs.dropLast ++ (match fs.getLast? with | none => [] | some f => [{ f with its := f.its ++ [x] }])
def fullB (fs : List Fr) (bat : Nat) : Bool := match fs.getLast? with | none => true | some f => decide (f.its.length = bat)

structure TS where
  f : Sent
  out : List Fr
  op : Bool

/-- One item of a tick. -/
def tstep (bat : Nat) (clk ev base : Int) (s : TS) (x : It) : TS :=
  if dueB s.f clk ev x.q then
    ⟨s.f.put x.q clk, moreIt (if !s.op || fullB s.out bat then s.out ++ [⟨1, base, x.q, [], []⟩] else s.out) x.b, true⟩
  else ⟨s.f, s.out, false⟩

def trun (bat : Nat) (clk ev base : Int) (s : TS) (xs : List It) : TS := xs.foldl (tstep bat clk ev base) s

/-- A tick: the frames, and what is known as sent. clk: the clock already goes on. -/
def tick (win bat : Nat) (clk ev : Int) (f : Sent) (xs : List It) : Sent × List Fr :=
  if rowB xs then let s := trun bat clk ev (headQ xs) ⟨keepS f xs, [], false⟩ (xs.take win); (s.f, s.out) else (f, [])

/-- What comes next of a frame. -/
def gotItems (nx : Int) (f : Fr) : Nat → List (List UInt8) → List It
  | _, [] => []
  | i, b :: l => (if nx ≤ f.b + i then [⟨f.b + i, b⟩] else []) ++ gotItems nx f (i + 1) l
def nextOf (nx : Int) (f : Fr) : Int := if nx < f.a then f.a else nx
def got (nx : Int) (f : Fr) : Int × List It :=
  if f.k = 1 ∧ mayB f = true then
    (nextOf nx f, if nextOf nx f < f.b then [] else gotItems (nextOf nx f) f 0 f.its)
  else (nx, [])
def takeN (nx q : Int) : Int := if 0 < nx ∧ nx ≤ q ∧ q ≤ 4294967295 then q + 1 else nx
def ackF (nx : Int) : Fr := if nx = 0 then zeroF else ⟨2, 0, nx - 1, [], []⟩

/-! Items in memory -/
def BlkP (P : Nat → Prop) (v : Value) : Prop := ∀ g, own1 v = some g → P g

/-- Cells that read as items. -/
def ItC (P : Nat → Prop) (w : World) (cs : List Value) (xs : List It) : Prop :=
  cs.length = xs.length * 2 ∧ ∀ i (h : i < xs.length), ∃ u, cs[i * 2]? = some (.int .i64 xs[i].q) ∧ cs[i * 2 + 1]? = some u ∧ Bs w u xs[i].b ∧ BlkP P u

theorem ItC.kp {P : Nat → Prop} {S : List Nat} {w w' : World} {cs : List Value} {xs : List It} (h : ItC P w cs xs) (hk : Kp S w w') (hS : ∀ g, P g → g ∉ S) : ItC P w' cs xs :=
  ⟨h.1, fun i hi => by obtain ⟨u, h1, h2, h3, h4⟩ := h.2 i hi; exact ⟨u, h1, h2, h3.kq hk (fun b hb => hS b (h4 b hb)), h4⟩⟩
theorem ItC.mono {P P' : Nat → Prop} {w : World} {cs : List Value} {xs : List It} (h : ItC P w cs xs) (hP : ∀ g, P g → P' g) : ItC P' w cs xs :=
  ⟨h.1, fun i hi => by obtain ⟨u, h1, h2, h3, h4⟩ := h.2 i hi; exact ⟨u, h1, h2, h3, fun b hb => hP b (h4 b hb)⟩⟩
theorem ItC.nil (P : Nat → Prop) (w : World) : ItC P w [] [] := ⟨rfl, fun i hi => by simp at hi⟩
theorem ItC.take {P : Nat → Prop} {w : World} {cs : List Value} {xs : List It} (h : ItC P w cs xs) (n : Nat) (hn : n ≤ xs.length) : ItC P w (cs.take (n * 2)) (xs.take n) := by
  refine ⟨by rw [List.length_take, List.length_take, h.1]; omega, fun i hi => ?_⟩
  simp only [List.length_take] at hi
  obtain ⟨u, h1, h2, h3, h4⟩ := h.2 i (by omega)
  refine ⟨u, ?_, ?_, ?_, h4⟩
  · rw [List.getElem?_take, if_pos (by omega), List.getElem_take]; exact h1
  · rw [List.getElem?_take, if_pos (by omega)]; exact h2
  · rw [List.getElem_take]; exact h3
theorem ItC.drop {P : Nat → Prop} {w : World} {cs : List Value} {xs : List It} (h : ItC P w cs xs) (n : Nat) (hn : n ≤ xs.length) : ItC P w (cs.drop (n * 2)) (xs.drop n) := by
  refine ⟨by simp only [List.length_drop, List.length_append, List.length_cons, List.length_nil, h.1]; omega, fun i hi => ?_⟩
  simp only [List.length_drop] at hi
  obtain ⟨u, h1, h2, h3, h4⟩ := h.2 (n + i) (by omega)
  refine ⟨u, ?_, ?_, ?_, h4⟩
  · rw [List.getElem?_drop, List.getElem_drop, ← h1]; congr 1; omega
  · rw [List.getElem?_drop, ← h2]; congr 1; omega
  · rw [List.getElem_drop]; exact h3
theorem ItC.snoc {P : Nat → Prop} {w : World} {cs : List Value} {xs : List It} {u : Value} {x : It} (h : ItC P w cs xs) (hb : Bs w u x.b) (hp : BlkP P u) : ItC P w (cs ++ [.int .i64 x.q, u]) (xs ++ [x]) := by
  refine ⟨by simp only [List.length_drop, List.length_append, List.length_cons, List.length_nil, h.1]; omega, fun i hi => ?_⟩
  by_cases hlt : i < xs.length
  · obtain ⟨u', h1, h2, h3, h4⟩ := h.2 i hlt
    have := h.1
    refine ⟨u', ?_, ?_, ?_, h4⟩
    · rw [List.getElem?_append_left (by omega), List.getElem_append_left hlt]; exact h1
    · rw [List.getElem?_append_left (by omega)]; exact h2
    · rw [List.getElem_append_left hlt]; exact h3
  · have : i = xs.length := by simp at hi; omega
    subst this
    have := h.1
    refine ⟨u, ?_, ?_, ?_, hp⟩
    · rw [List.getElem?_append_right (by omega)]; simp [h.1]
    · rw [List.getElem?_append_right (by omega), show xs.length * 2 + 1 - cs.length = 1 by omega]; rfl
    · simpa using hb

/-- Cells of items, each of whose bytes are a row of its own. -/
def ItO (w : World) (B : Nat) (cs : List Value) (xs : List It) : Prop :=
  cs.length = xs.length * 2 ∧ ∀ i (h : i < xs.length), ∃ u, cs[i * 2]? = some (.int .i64 xs[i].q) ∧ cs[i * 2 + 1]? = some u ∧ OB w 5 B u xs[i].b
theorem ItO.nil (w : World) (B : Nat) : ItO w B [] [] := ⟨rfl, fun i hi => by simp at hi⟩
theorem ItO.kp {S : List Nat} {w w' : World} {B : Nat} {cs : List Value} {xs : List It} (h : ItO w B cs xs) (hk : Kp S w w') (hS : ∀ s ∈ S, s < B) : ItO w' B cs xs :=
  ⟨h.1, fun i hi => by obtain ⟨u, h1, h2, h3⟩ := h.2 i hi; exact ⟨u, h1, h2, own_kp h3 hk (fun b hb hm => by have := (Own.lt h3 b hb).1; have := hS b hm; omega)⟩⟩
theorem ItO.row {w w' : World} {B B' e sz n : Nat} {v : Value} {ys cs : List Value} {xs : List It} (h : ItO w B cs xs) (ho : Own w B' e sz v n ys) (he : 5 ≠ e) (hk : Kp v.ownBlock.toList w w') : ItO w' B cs xs :=
  ⟨h.1, fun i hi => by obtain ⟨u, h1, h2, h3⟩ := h.2 i hi; exact ⟨u, h1, h2, own_kp h3 hk (fun b hb hm => own_ne h3 ho he b hb (by simpa using hm))⟩⟩
theorem ItO.itc {w : World} {B : Nat} {cs : List Value} {xs : List It} (h : ItO w B cs xs) : ItC (B ≤ ·) w cs xs :=
  ⟨h.1, fun i hi => by obtain ⟨u, h1, h2, h3⟩ := h.2 i hi; exact ⟨u, h1, h2, OB.bs h3, fun g hg => (Own.lt h3 g (own1_own hg)).1⟩⟩
theorem ItO.snoc {w : World} {B : Nat} {cs : List Value} {xs : List It} {u : Value} {x : It} (h : ItO w B cs xs) (hb : OB w 5 B u x.b) : ItO w B (cs ++ [.int .i64 x.q, u]) (xs ++ [x]) := by
  refine ⟨by simp only [List.length_append, List.length_cons, List.length_nil, h.1]; omega, fun i hi => ?_⟩
  by_cases hlt : i < xs.length
  · obtain ⟨u', h1, h2, h3⟩ := h.2 i hlt
    have := h.1
    refine ⟨u', ?_, ?_, ?_⟩
    · rw [List.getElem?_append_left (by omega), List.getElem_append_left hlt]; exact h1
    · rw [List.getElem?_append_left (by omega)]; exact h2
    · rw [List.getElem_append_left hlt]; exact h3
  · have : i = xs.length := by simp at hi; omega
    subst this
    have := h.1
    refine ⟨u, ?_, ?_, ?_⟩
    · rw [List.getElem?_append_right (by omega)]; simp [h.1]
    · rw [List.getElem?_append_right (by omega), show xs.length * 2 + 1 - cs.length = 1 by omega]; rfl
    · simpa using hb

/-- A slice that reads as rows of bytes, all in blocks of P. -/
def RwP (P : Nat → Prop) (w : World) (v : Value) (its : List (List UInt8)) : Prop :=
  ∃ vs, Sl w 1 v its.length vs ∧ BlkP P v ∧ vs.length = its.length ∧ ∀ (i : Nat) (h : i < its.length), ∃ u, vs[i]? = some u ∧ Bs w u its[i] ∧ BlkP P u
theorem RwP.rws {P : Nat → Prop} {w : World} {v : Value} {its : List (List UInt8)} (h : RwP P w v its) : Rws w v its := by
  obtain ⟨vs, h1, _, h2, h3⟩ := h
  exact ⟨vs, h1, h2, fun i hi => by obtain ⟨u, a, b, _⟩ := h3 i hi; exact ⟨u, a, b⟩⟩
theorem RwP.kp {P : Nat → Prop} {S : List Nat} {w w' : World} {v : Value} {its : List (List UInt8)} (h : RwP P w v its) (hk : Kp S w w') (hS : ∀ g, P g → g ∉ S) : RwP P w' v its := by
  obtain ⟨vs, h1, h0, h2, h3⟩ := h
  exact ⟨vs, h1.kq hk (fun b hb => hS b (h0 b hb)), h0, h2, fun i hi => by obtain ⟨u, a, b, c⟩ := h3 i hi; exact ⟨u, a, b.kq hk (fun g hg => hS g (c g hg)), c⟩⟩
theorem RwP.mono {P P' : Nat → Prop} {w : World} {v : Value} {its : List (List UInt8)} (h : RwP P w v its) (hP : ∀ g, P g → P' g) : RwP P' w v its := by
  obtain ⟨vs, h1, h0, h2, h3⟩ := h
  exact ⟨vs, h1, fun b hb => hP b (h0 b hb), h2, fun i hi => by obtain ⟨u, a, b, c⟩ := h3 i hi; exact ⟨u, a, b, fun g hg => hP g (c g hg)⟩⟩
theorem RwP.nil (P : Nat → Prop) (w : World) : RwP P w (.slice none 0 0) [] := ⟨[], ⟨rfl, .inl ⟨rfl, rfl⟩⟩, fun g h => (by cases h), rfl, fun i h => by simp at h⟩
theorem RwP.of {w : World} {B : Nat} {v : Value} {us : List Value} {its : List (List UInt8)} (h : Own w B 23 1 v its.length us) (hi : Its w B us its) : RwP (B ≤ ·) w v its :=
  ⟨us, Sl.of_own h, fun g hg => (h.lt g (own1_own hg)).1, hi.1, fun i hlt => by obtain ⟨u, h1, h2⟩ := hi.2.1 i hlt; exact ⟨u, h1, OB.bs h2, fun g hg => (Own.lt h2 g (own1_own hg)).1⟩⟩

/-- A frame's value, in blocks of P. -/
def FrV (P : Nat → Prop) (w : World) (v : Value) (f : Fr) : Prop := ∃ iv tv, v = .agg (fcells f iv tv) ∧ RwP P w iv f.its ∧ Bs w tv f.t ∧ BlkP P tv
theorem FrV.kp {P : Nat → Prop} {S : List Nat} {w w' : World} {v : Value} {f : Fr} (h : FrV P w v f) (hk : Kp S w w') (hS : ∀ g, P g → g ∉ S) : FrV P w' v f := by
  obtain ⟨iv, tv, he, h1, h2, h3⟩ := h
  exact ⟨iv, tv, he, h1.kp hk hS, h2.kq hk (fun b hb => hS b (h3 b hb)), h3⟩
theorem FrV.mono {P P' : Nat → Prop} {w : World} {v : Value} {f : Fr} (h : FrV P w v f) (hP : ∀ g, P g → P' g) : FrV P' w v f := by
  obtain ⟨iv, tv, he, h1, h2, h3⟩ := h
  exact ⟨iv, tv, he, h1.mono hP, h2, fun b hb => hP b (h3 b hb)⟩
theorem IsF.frv {w : World} {B : Nat} {v : Value} {f : Fr} (h : IsF w B v f) : FrV (B ≤ ·) w v f := by
  obtain ⟨iv, tv, us, he, ho, hi, ht, _⟩ := h
  exact ⟨iv, tv, he, RwP.of ho hi, OB.bs ht, fun g hg => (Own.lt ht g (own1_own hg)).1⟩

/-- Cells that read as frames. -/
def FrC (P : Nat → Prop) (w : World) (cs : List Value) (fs : List Fr) : Prop :=
  cs.length = fs.length * 5 ∧ ∀ i (h : i < fs.length), ∃ iv tv, (cs.drop (i * 5)).take 5 = (fcells fs[i] iv tv).toList ∧ RwP P w iv fs[i].its ∧ Bs w tv fs[i].t ∧ BlkP P tv
theorem FrC.kp {P : Nat → Prop} {S : List Nat} {w w' : World} {cs : List Value} {fs : List Fr} (h : FrC P w cs fs) (hk : Kp S w w') (hS : ∀ g, P g → g ∉ S) : FrC P w' cs fs :=
  ⟨h.1, fun i hi => by obtain ⟨iv, tv, h1, h2, h3, h4⟩ := h.2 i hi; exact ⟨iv, tv, h1, h2.kp hk hS, h3.kq hk (fun b hb => hS b (h4 b hb)), h4⟩⟩
theorem FrC.mono {P P' : Nat → Prop} {w : World} {cs : List Value} {fs : List Fr} (h : FrC P w cs fs) (hP : ∀ g, P g → P' g) : FrC P' w cs fs :=
  ⟨h.1, fun i hi => by obtain ⟨iv, tv, h1, h2, h3, h4⟩ := h.2 i hi; exact ⟨iv, tv, h1, h2.mono hP, h3, fun b hb => hP b (h4 b hb)⟩⟩
theorem FrC.nil (P : Nat → Prop) (w : World) : FrC P w [] [] := ⟨rfl, fun i hi => by simp at hi⟩
theorem FrC.append {P : Nat → Prop} {w : World} {cs ds : List Value} {fs gs : List Fr} (h : FrC P w cs fs) (h' : FrC P w ds gs) : FrC P w (cs ++ ds) (fs ++ gs) := by
  have hc := h.1
  have hd := h'.1
  refine ⟨by simp [hc, hd]; omega, fun i hi => ?_⟩
  by_cases hlt : i < fs.length
  · obtain ⟨iv, tv, h1, h2, h3, h4⟩ := h.2 i hlt
    refine ⟨iv, tv, ?_, ?_, ?_, h4⟩
    · rw [List.drop_append_of_le_length (by omega), List.take_append_of_le_length (by simp; omega), List.getElem_append_left hlt]; exact h1
    · rw [List.getElem_append_left hlt]; exact h2
    · rw [List.getElem_append_left hlt]; exact h3
  · simp only [List.length_append] at hi
    obtain ⟨iv, tv, h1, h2, h3, h4⟩ := h'.2 (i - fs.length) (by omega)
    refine ⟨iv, tv, ?_, ?_, ?_, h4⟩
    · rw [List.getElem_append_right (by omega), List.drop_append, List.drop_of_length_le (by omega), List.nil_append, show i * 5 - cs.length = (i - fs.length) * 5 by omega]; exact h1
    · rw [List.getElem_append_right (by omega)]; exact h2
    · rw [List.getElem_append_right (by omega)]; exact h3
theorem FrC.one {P : Nat → Prop} {w : World} {f : Fr} {iv tv : Value} (h1 : RwP P w iv f.its) (h2 : Bs w tv f.t) (h3 : BlkP P tv) : FrC P w (fcells f iv tv).toList [f] :=
  ⟨rfl, fun i hi => by
    have : i = 0 := by simp at hi; exact hi
    subst this
    exact ⟨iv, tv, rfl, h1, h2, h3⟩⟩
end Go.Proofs.YtddpefbpiehgeaaDoor

/- The laws' helper Same. -/
namespace Go.Proofs.YtddpefbpiehgeaaDoor
open Go Go.RowKit
set_option maxRecDepth 100000
set_option linter.unusedVariables false
set_option linter.unusedSectionVars false
set_option linter.unusedSimpArgs false

/-- The same frame? -/
def sameF (f g : Fr) : Bool := decide (f.k = g.k) && (decide (f.a = g.a) && (decide (f.b = g.b) && (decide (f.t = g.t) && decide (f.its = g.its))))

theorem sameF_self (f : Fr) : sameF f f = true := by simp [sameF]

set_option maxHeartbeats 1000000 in
theorem fsame_ne (f g : Fr) (iv tv jv uv : Value) (w : World) (hi : Rws w iv f.its) (ht : Bs w tv f.t) (hj : Rws w jv g.its) (hu : Bs w uv g.t) (hne : f.k ≠ g.k ∨ f.a ≠ g.a ∨ f.b ≠ g.b ∨ f.t ≠ g.t ∨ f.its.length ≠ g.its.length) (hn : f.its.length ≤ 100000000000000) (hn' : g.its.length ≤ 100000000000000) :
    Calls Tryd.prog 12 #[.agg (fcells f iv tv), .agg (fcells g jv uv)] w fun e w' => e = .returned (.bool false) ∧ Kp [] w w' := by
  obtain ⟨ia, ic, rfl, hic⟩ := hi.form
  obtain ⟨ta, tc, rfl, -⟩ := Sl.form ht
  obtain ⟨ja, jc, rfl, hjc⟩ := hj.form
  obtain ⟨ua, uc, rfl, -⟩ := Sl.form hu
  obtain ⟨k, a, b, its, t⟩ := f
  obtain ⟨k', a', b', its', t'⟩ := g
  simp only [fcells] at *
  have hkA := (Kp.refl [] w).alloc (.cells #[.int .i64 k, .int .i64 a, .int .i64 b, .slice ia its.length ic, .slice ta t.length tc] 25)
  have hkB := hkA.alloc (.cells #[.int .i64 k', .int .i64 a', .int .i64 b', .slice ja its'.length jc, .slice ua t'.length uc] 25)
  have hcv := b2sc (ht.kp0 hkB)
  have hcu := b2sc (hu.kp0 hkB)
  have hcs : k ≠ k' ∨ (k = k' ∧ a ≠ a') ∨ (k = k' ∧ a = a' ∧ b ≠ b') ∨ (k = k' ∧ a = a' ∧ b = b' ∧ t ≠ t') ∨ (k = k' ∧ a = a' ∧ b = b' ∧ t = t' ∧ its.length ≠ its'.length) := by
    by_cases h1 : k = k' <;> by_cases h2 : a = a' <;> by_cases h3 : b = b' <;> by_cases h4 : t = t' <;> simp_all
  clear hne
  rcases hcs with h1 | ⟨rfl, h2⟩ | ⟨rfl, rfl, h3⟩ | ⟨rfl, rfl, rfl, h4⟩ | ⟨rfl, rfl, rfl, rfl, h5⟩
  · have hd : (k != k') = true := by simpa using h1
    go_enter Tryd.func12, Tryd.ntmps12
    go_wp2
    go_ret
    exact ⟨rfl, hkB⟩
  · have hd : (a != a') = true := by simpa using h2
    go_enter Tryd.func12, Tryd.ntmps12
    go_wp2
    go_ret
    exact ⟨rfl, hkB⟩
  · have hd : (b != b') = true := by simpa using h3
    go_enter Tryd.func12, Tryd.ntmps12
    go_wp2
    go_ret
    exact ⟨rfl, hkB⟩
  · have hd : decide (t = t') = false := by simpa using h4
    go_enter Tryd.func12, Tryd.ntmps12
    go_wp2_with fail
    go_ret
    exact ⟨rfl, hkB⟩
  · have hd : ((its.length : Int) != (its'.length : Int)) = true := by rw [bne_iff_ne]; omega
    go_enter Tryd.func12, Tryd.ntmps12
    go_wp2
    go_ret
    exact ⟨rfl, hkB⟩

theorem Bs.ag {w : World} {L : List Nat} {v : Value} {l : List UInt8} (h : Bs w v l) (u : Ag w L) (hL : ∀ b, v.ownBlock = some b → b ∈ L) : Bs u.w v l := by
  obtain ⟨hl, h⟩ := h
  refine ⟨hl, ?_⟩
  rcases h with h | h | ⟨b, off, cap, hv, hc, hb, hh⟩
  · exact .inl h
  · exact .inr (.inl h)
  · have hm := hL b (by rw [hv]; rfl)
    have hs : u.w.heap[b]? = w.heap[b]? := u.ag b hm
    refine .inr (.inr ⟨b, off, cap, hv, hc, ?_, fun j x hx => by rw [u.cell b _ hm]; exact hh j x hx⟩)
    rw [Array.getElem?_eq_getElem hb] at hs
    exact (Array.getElem?_eq_some_iff.1 hs).1

theorem takes_succ {its its' : List (List UInt8)} {n : Nat} (h : n < its.length) (h' : n < its'.length) (ht : its.take n = its'.take n) (hx : its[n] = its'[n]) : its.take (n + 1) = its'.take (n + 1) := by
  rw [List.take_succ_eq_append_getElem h, List.take_succ_eq_append_getElem h', ht, hx]

set_option maxHeartbeats 1000000 in
theorem fsame_eq (k a b : Int) (t : List UInt8) (its its' : List (List UInt8)) (iv tv jv uv : Value) (w : World) (hi : Rws w iv its) (ht : Bs w tv t) (hj : Rws w jv its') (hu : Bs w uv t) (hle : its.length = its'.length) (hn : its.length ≤ 100000000000000) :
    Calls Tryd.prog 12 #[.agg (fcells ⟨k, a, b, its, t⟩ iv tv), .agg (fcells ⟨k, a, b, its', t⟩ jv uv)] w fun e w' => e = .returned (.bool (decide (its = its'))) ∧ Kp [] w w' := by
  obtain ⟨ia, ic, rfl, hic⟩ := hi.form
  obtain ⟨ta, tc, rfl, -⟩ := Sl.form ht
  obtain ⟨ja, jc, rfl, hjc⟩ := hj.form
  obtain ⟨ua, uc, rfl, -⟩ := Sl.form hu
  simp only [fcells] at *
  have hkA := (Kp.refl [] w).alloc (.cells #[.int .i64 k, .int .i64 a, .int .i64 b, .slice ia its.length ic, .slice ta t.length tc] 25)
  have hkB := hkA.alloc (.cells #[.int .i64 k, .int .i64 a, .int .i64 b, .slice ja its'.length jc, .slice ua t.length uc] 25)
  have hhA := (((Kp.refl [] _).alloc (.cells #[.int .i64 k, .int .i64 a, .int .i64 b, .slice ja its'.length jc, .slice ua t.length uc] 25)).heap (heap_alloc_new w (.cells #[.int .i64 k, .int .i64 a, .int .i64 b, .slice ia its.length ic, .slice ta t.length tc] 25)) (by simp))
  have hhB := heap_alloc_new (w.alloc (.cells #[.int .i64 k, .int .i64 a, .int .i64 b, .slice ia its.length ic, .slice ta t.length tc] 25)) (.cells #[.int .i64 k, .int .i64 a, .int .i64 b, .slice ja its'.length jc, .slice ua t.length uc] 25)
  rw [World.size_alloc] at hhB
  have hcv := b2sc (ht.kp0 hkB)
  have hcu := b2sc (hu.kp0 hkB)
  have hle2 : (its.length : Int) = (its'.length : Int) := by omega
  have hd : ((its.length : Int) != (its'.length : Int)) = false := by rw [hle2]; simp
  have HLE := Lib.hid hle
  clear hle hle2
  go_enter Tryd.func12, Tryd.ntmps12
  go_wp2_with fail
  clear hcv hcu hd
  go_loopw [5] (fun v5 wr => ∃ n : Nat, n ≤ its.length ∧ v5 = .int .i64 n ∧ its.take n = its'.take n ∧ Kp [] ((w.alloc (.cells #[.int .i64 k, .int .i64 a, .int .i64 b, .slice ia its.length ic, .slice ta t.length tc] 25)).alloc (.cells #[.int .i64 k, .int .i64 a, .int .i64 b, .slice ja its'.length jc, .slice ua t.length uc] 25)) wr) (fun v5 _ => its.length - (intOf v5).toNat)
  case atStart => exact ⟨0, by omega, rfl, rfl, Kp.refl _ _⟩
  case round =>
    obtain ⟨n, hnl, rfl, htk, hkr⟩ := hrel
    have hle := HLE.out
    have hA := hkr.heap hhA (by simp)
    have hB := hkr.heap hhB (by simp)
    obtain ⟨-, -, -, c3, -⟩ := cells5 hA
    obtain ⟨-, -, -, d3, -⟩ := cells5 hB
    have hkw := hkB.trans hkr
    by_cases hlt : n < its.length
    · obtain ⟨ib, io, xa, xc, rfl, hib, hxc, hbx⟩ := (hi.kp0 hkw).at n hlt
      obtain ⟨jb, jo, ya, yc, rfl, hjb, hyc, hby⟩ := (hj.kp0 hkw).at n (by omega)
      have hts := takes_succ hlt (by omega) htk
      have hne : its[n]'hlt ≠ its'[n]'(by omega) → its ≠ its' := fun h e => by subst e; exact h rfl
      generalize its[n]'hlt = x at *
      generalize its'[n]'(by omega) = y at *
      have hn1 : (0 : Int) ≤ n ∧ (n : Int) < its.length ∧ (n : Int) < its'.length := by omega
      obtain ⟨hn1, hn2, hn3⟩ := hn1
      have hwr : IntKind.i64.wrap ((n : Int) + 1) = n + 1 := IntWalk.i64_in _ (by omega)
      have HTK := Lib.hid htk
      have HTS := Lib.hid hts
      have HNE := Lib.hid hne
      clear htk hts hne hle
      have hcx : ∀ u : Ag wr ([w.heap.size, w.heap.size + 1, ib, jb] ++ ((Value.slice xa x.length xc).ownBlock.toList ++ (Value.slice ya y.length yc).ownBlock.toList)), (convert 23 9 (.slice xa x.length xc)).run Tryd.prog u.w = .ok (.string ⟨x.toArray⟩) u.w := fun u => b2sc (Bs.ag hbx u (fun b hb => by simp [hb]))
      have hcy : ∀ u : Ag wr ([w.heap.size, w.heap.size + 1, ib, jb] ++ ((Value.slice xa x.length xc).ownBlock.toList ++ (Value.slice ya y.length yc).ownBlock.toList)), (convert 23 9 (.slice ya y.length yc)).run Tryd.prog u.w = .ok (.string ⟨y.toArray⟩) u.w := fun u => b2sc (Bs.ag hby u (fun b hb => by simp [hb]))
      go_wp2_with fail
      have hS : Gr wr ([w.heap.size, w.heap.size + 1, ib, jb] ++ ((Value.slice xa x.length xc).ownBlock.toList ++ (Value.slice ya y.length yc).ownBlock.toList)) wr.drew := Gr.of (fun _ _ => rfl)
      generalize (Value.slice xa x.length xc).ownBlock.toList ++ (Value.slice ya y.length yc).ownBlock.toList = M at *
      simp only [List.cons_append, List.nil_append] at hcx hcy hS
      refine wp_plan (.H 0 (.H 1 (.H 2 (.H 3 (.H 4 (.H 5 (.H 6 (.H 7 (.H 8 (.H 9 (.H 10 (.H 11 (.E 12 false .Z))))))))))))) (Gr wr (w.heap.size :: (w.heap.size + 1) :: ib :: jb :: M)) (by as_aux_lemma => kernel_rfl) (by as_aux_lemma => kernel_rfl) ?_
      by_cases hxy : x = y
      · subst hxy
        repeat (first | (refine plan_H rfl hS (fun K hK => ?_); go_simp; refine hK _ ?_; clear hK K) | (refine plan_E rfl (fun K hK => ?_); go_simp; (first | refine hK _ _ (fun _ => hS) ?_ | refine hK _ _ nofun ?_); clear hK K))
        refine plan_Z ?_
        go_wp2_with fail
        go_roundw
        case measure => simp [intOf]; omega
        case rel => exact ⟨n + 1, by omega, by go_num, HTS.out rfl, hkr.drew⟩
      · have HXY := Lib.hid (HNE.out hxy)
        have hd : (x == y) = false := by simpa using hxy
        repeat (first | (refine plan_H rfl hS (fun K hK => ?_); go_simp; refine hK _ ?_; clear hK K) | (refine plan_E rfl (fun K hK => ?_); go_simp; (first | refine hK _ _ (fun _ => hS) ?_ | refine hK _ _ nofun ?_); clear hK K))
        refine plan_Z ?_
        go_wp2_with fail
        go_ret
        exact ⟨by rw [show decide (its = its') = false by simpa using HXY.out]; rfl, hkw.drew⟩
    · have hd : decide ((n : Int) < (its.length : Int)) = false := by rw [decide_eq_false_iff_not]; omega
      have heq : its = its' := by
        rw [List.take_of_length_le (by omega), List.take_of_length_le (by omega)] at htk
        exact htk
      have HEQ := Lib.hid heq
      clear htk heq hle
      go_wp2_with fail
      go_ret
      exact ⟨by rw [show decide (its = its') = true by simpa using HEQ.out]; rfl, hkw⟩

theorem fsame_calls (f g : Fr) (iv tv jv uv : Value) (w : World) (hi : Rws w iv f.its) (ht : Bs w tv f.t) (hj : Rws w jv g.its) (hu : Bs w uv g.t) (hn : f.its.length ≤ 100000000000000) (hn' : g.its.length ≤ 100000000000000) :
    Calls Tryd.prog 12 #[.agg (fcells f iv tv), .agg (fcells g jv uv)] w fun e w' => e = .returned (.bool (sameF f g)) ∧ Kp [] w w' := by
  by_cases h : f.k ≠ g.k ∨ f.a ≠ g.a ∨ f.b ≠ g.b ∨ f.t ≠ g.t ∨ f.its.length ≠ g.its.length
  · have hs : sameF f g = false := by
      unfold sameF
      rcases h with h | h | h | h | h
      · simp [h]
      · simp [h]
      · simp [h]
      · simp [h]
      · have : f.its ≠ g.its := fun e => h (by rw [e])
        simp [this]
    rw [hs]
    exact fsame_ne f g iv tv jv uv w hi ht hj hu h hn hn'
  · have h1 : f.k = g.k := by
      by_cases e : f.k = g.k
      · exact e
      · exact absurd (.inl e) h
    have h2 : f.a = g.a := by
      by_cases e : f.a = g.a
      · exact e
      · exact absurd (.inr (.inl e)) h
    have h3 : f.b = g.b := by
      by_cases e : f.b = g.b
      · exact e
      · exact absurd (.inr (.inr (.inl e))) h
    have h4 : f.t = g.t := by
      by_cases e : f.t = g.t
      · exact e
      · exact absurd (.inr (.inr (.inr (.inl e)))) h
    have h5 : f.its.length = g.its.length := by omega
    obtain ⟨k, a, b, its, t⟩ := f
    obtain ⟨k', a', b', its', t'⟩ := g
    simp only at h1 h2 h3 h4
    subst h1 h2 h3 h4
    have hs : sameF ⟨k, a, b, its, t⟩ ⟨k, a, b, its', t⟩ = decide (its = its') := by simp [sameF]
    rw [hs]
    exact fsame_eq k a b t its its' iv tv jv uv w hi ht hj hu h5 hn
end Go.Proofs.YtddpefbpiehgeaaDoor

