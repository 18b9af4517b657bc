/- What comes in: bytes, rows of bytes, frames. -/
import Derived.Test.YtddpefbpiehgeaaDoorT15
import Derived.ProofKit
import Derived.OpenShut
import Derived.Test.YtddpefbpiehgeaaDoorCards
import Derived.Test.YtddpefbpiehgeaaDoorTie
import Derived.Deep.DeepHandedRow
import Derived.Lib.LaidTab
import Derived.Stop.LaidErr
namespace Go.Proofs.YtddpefbpiehgeaaDoor
open Go Go.RowKit Go.ChangeShapes Go.WideShapes
set_option maxRecDepth 100000
set_option linter.unusedVariables false
set_option linter.unusedSectionVars false
set_option linter.unusedSimpArgs false

section
variable {H : Type} {enc : TypeId × Value → H} {w : World} {base : Nat} {held : Bool} {fuel : Nat} {cs : List Value} {x : DataW H × List MemPlace}

theorem addr_none {w : World} {a : Addr} {v : Value} (h : w.cell? (a.add 0) = some v) : a = ⟨a.block, a.off, none⟩ := by
  have h' : w.cell? a = some v := by simpa [Addr.add] using h
  have := World.cell?_spot h'
  cases a
  simp only at this
  rw [this]
theorem addr_lt {w : World} {b o : Nat} {v : Value} (h : w.cell? ⟨b, o, none⟩ = some v) : b < w.heap.size := by
  unfold World.cell? at h
  rcases Nat.lt_or_ge b w.heap.size with h1 | h1
  · exact h1
  · rw [Array.getElem?_eq_none h1] at h; cases h

/-- The list of all values of a function up to n. -/
def upto {α : Type} (n : Nat) (f : Nat → α) : List α := (List.range n).map f
theorem upto_length {α : Type} (n : Nat) (f : Nat → α) : (upto n f).length = n := by simp [upto]
theorem upto_get {α : Type} (n : Nat) (f : Nat → α) (i : Nat) (h : i < n) : (upto n f)[i]? = some (f i) := by simp [upto, h]

/-- A slice of cells, out of what is read: each element's cell with its reading. -/
theorem sl_of_trodE {t e : TypeId} {sz : Nat} (ht : Tryd.prog.underlying t = some (.slice e)) (hc : Tryd.prog.cellsOf e = sz) (hsz : 0 < sz) (h : DataW.trod enc Tryd.prog w base (fun _ => true) held fuel t cs = some x) :
    ∃ v n cells ds, cs = [v] ∧ Sl w sz v n cells ∧ n ≤ maxLen ∧ ds.length = n ∧ (∃ m, ∀ i, i < n → ∃ y, DataW.trod enc Tryd.prog w base (fun _ => true) held m e ((cells.drop (i * sz)).take sz) = some y ∧ ds[i]? = some y.1) ∧
      ((x.1 = .nil ∧ n = 0) ∨ ∃ rest, x.1 = .slice ds rest) := by
  rcases DataW.trod_slice ht h with ⟨rfl, rfl⟩ | ⟨a, len, cap, elems, rest, m, _, rfl, rfl, hb, hl, hm, hlen, hel, hsp, _⟩
  · exact ⟨_, 0, [], [], rfl, ⟨by simp, .inl ⟨rfl, rfl⟩⟩, by omega, rfl, ⟨0, fun i hi => by omega⟩, .inl ⟨rfl, rfl⟩⟩
  · rw [hc] at hel hsp
    obtain ⟨hrl, hsp⟩ := hsp rfl
    have hall : ∀ i, i < cap → ∃ c y, w.cells? base (a.add (i * sz)) sz = some c ∧ DataW.trod enc Tryd.prog w base (fun _ => true) held m e c = some y ∧ (i < len → (elems.map (·.1))[i]? = some y.1) := fun i hi => by
      by_cases hlt : i < len
      · have h1 := hel i hlt
        rw [List.getElem?_eq_getElem (by omega)] at h1
        rw [Option.bind_eq_some_iff] at h1
        obtain ⟨c, h2, h3⟩ := h1
        exact ⟨c, _, h2, h3, fun _ => by simp [List.getElem?_map, List.getElem?_eq_getElem (show i < elems.length by omega)]⟩
      · have h1 := hsp (i - len) (by omega)
        rw [List.getElem?_eq_getElem (by omega), show len + (i - len) = i by omega] at h1
        rw [Option.bind_eq_some_iff] at h1
        obtain ⟨c, h2, h3⟩ := h1
        exact ⟨c, _, h2, h3, fun h => absurd h hlt⟩
    have hmax : len ≤ maxLen := Nat.le_trans hl hm
    have hx : ((DataW.slice (elems.map (·.1)) (rest.map (·.1)) : DataW H) = .nil ∧ len = 0) ∨ ∃ rest', (DataW.slice (elems.map (·.1)) (rest.map (·.1)) : DataW H) = .slice (elems.map (·.1)) rest' := .inr ⟨_, rfl⟩
    have hdl : (elems.map (·.1)).length = len := by simpa using hlen
    by_cases h0 : cap = 0
    · obtain rfl : len = 0 := by omega
      subst h0
      exact ⟨_, 0, [], _, rfl, ⟨by simp, .inr (.inl ⟨a, rfl, rfl⟩)⟩, by omega, hdl, ⟨0, fun i hi => by omega⟩, hx⟩
    · obtain ⟨c0, _, hc0, _, _⟩ := hall 0 (by omega)
      obtain ⟨_, hcl, hcc⟩ := World.cells?_some hc0
      have hv0 := hcc 0 hsz
      rw [Nat.zero_mul, List.getElem?_eq_getElem (by omega)] at hv0
      have e0 : a.add 0 = a := by simp [Addr.add]
      rw [e0] at hv0
      have ha := addr_none hv0
      have hlt : a.block < w.heap.size := by
        rw [e0] at hv0
        rw [ha] at hv0
        exact addr_lt hv0
      have hcell : ∀ i j, i < cap → j < sz → ∃ v, w.cell? ⟨a.block, a.off + (i * sz + j), none⟩ = some v := fun i j hi hj => by
        obtain ⟨c, _, h2, _, _⟩ := hall i hi
        obtain ⟨_, h3, h4⟩ := World.cells?_some h2
        have h5 := h4 j hj
        rw [List.getElem?_eq_getElem (by omega), ha, Addr.add_lit, Addr.add_lit, Nat.add_assoc] at h5
        exact ⟨_, h5⟩
      let g : Nat → Value := fun k => (w.cell? ⟨a.block, a.off + k, none⟩).getD undef
      have hg : ∀ i j, i < cap → j < sz → w.cell? ⟨a.block, a.off + (i * sz + j), none⟩ = some (g (i * sz + j)) := fun i j hi hj => by
        obtain ⟨v, hv⟩ := hcell i j hi hj
        simp only [g, hv, Option.getD_some]
      refine ⟨_, len, upto (len * sz) g, _, rfl, ⟨by rw [upto_length], .inr (.inr ⟨a.block, a.off, cap, by rw [← ha], hl, hlt, fun k u hu => ?_⟩)⟩, hmax, hdl, ⟨m, fun i hi => ?_⟩, hx⟩
      · have hk : k < len * sz := by have := (List.getElem?_eq_some_iff.1 hu).1; rwa [upto_length] at this
        rw [upto_get _ _ _ hk] at hu
        cases hu
        have h1 : k / sz < len := Nat.div_lt_of_lt_mul (by rwa [Nat.mul_comm] at hk)
        have h2 := hg (k / sz) (k % sz) (by omega) (Nat.mod_lt _ hsz)
        rwa [Nat.mul_comm, Nat.div_add_mod] at h2
      · obtain ⟨c, y, h2, h3, h7⟩ := hall i (by omega)
        obtain ⟨_, h4, h5⟩ := World.cells?_some h2
        have hle : i * sz + sz ≤ len * sz := by
          have := Nat.mul_le_mul_right sz (show i + 1 ≤ len by omega)
          rwa [Nat.add_mul, Nat.one_mul] at this
        have e : ((upto (len * sz) g).drop (i * sz)).take sz = c := by
          apply List.ext_getElem?
          intro j
          by_cases hj : j < sz
          · rw [List.getElem?_take, if_pos hj, List.getElem?_drop, upto_get _ _ _ (by omega)]
            have h6 := h5 j hj
            rw [ha, Addr.add_lit, Addr.add_lit, Nat.add_assoc, hg i j (by omega) hj] at h6
            exact h6
          · rw [List.getElem?_eq_none (by simp; omega), List.getElem?_eq_none (by omega)]
        rw [e]
        exact ⟨y, h3, h7 hi⟩

/-- A slice of cells, out of what is read: each element's cell with its reading. -/
theorem sl_of_trod {t e : TypeId} {sz : Nat} (ht : Tryd.prog.underlying t = some (.slice e)) (hc : Tryd.prog.cellsOf e = sz) (hsz : 0 < sz) (h : DataW.trod enc Tryd.prog w base (fun _ => true) held fuel t cs = some x) :
    ∃ v n cells, cs = [v] ∧ Sl w sz v n cells ∧ n ≤ maxLen ∧ (∃ m, ∀ i, i < n → ∃ y, DataW.trod enc Tryd.prog w base (fun _ => true) held m e ((cells.drop (i * sz)).take sz) = some y) ∧
      ((x.1 = .nil ∧ n = 0) ∨ ∃ ds rest, x.1 = .slice ds rest ∧ ds.length = n) := by
  obtain ⟨v, n, cells, ds, h1, h2, h3, h4, ⟨m, h5⟩, h6⟩ := sl_of_trodE ht hc hsz h
  refine ⟨v, n, cells, h1, h2, h3, ⟨m, fun i hi => ?_⟩, ?_⟩
  · obtain ⟨y, h7, _⟩ := h5 i hi
    exact ⟨y, h7⟩
  · rcases h6 with h6 | ⟨rest, h6⟩
    · exact .inl h6
    · exact .inr ⟨ds, rest, h6, h4⟩

/-- Bytes. -/
theorem bs_of_trod (h : DataW.trod enc Tryd.prog w base (fun _ => true) held fuel 23 cs = some x) : ∃ v l, cs = [v] ∧ Bs w v l ∧ l.length ≤ maxLen ∧ ((x.1 = .nil ∧ l.length = 0) ∨ ∃ ds rest, x.1 = .slice ds rest ∧ ds.length = l.length) := by
  obtain ⟨v, n, cells, rfl, hs, hn, ⟨m, hm⟩, hx⟩ := sl_of_trod (sz := 1) Tryd.underlying23 (by kernel_rfl) (by omega) h
  have hb : ∀ i, i < n → ∃ b : UInt8, cells[i]? = some (.int .u8 (b.toNat : Int)) := fun i hi => by
    obtain ⟨y, hy⟩ := hm i hi
    obtain ⟨k, hk, _, hw⟩ := DataW.trod_int Tryd.underlying5 hy
    have hw' : 0 ≤ k ∧ k ≤ 255 := by
      simp [Lit.wf, IntKind.min, IntKind.max, IntKind.signed, IntKind.bits] at hw
      exact ⟨by omega, by omega⟩
    refine ⟨UInt8.ofNat k.toNat, ?_⟩
    have h2 : ((UInt8.ofNat k.toNat).toNat : Int) = k := by
      rw [UInt8.toNat_ofNat']
      omega
    rw [h2]
    have := congrArg (·[0]?) hk
    simp only [List.getElem?_take, List.getElem?_drop] at this
    simpa using this
  let f : Nat → UInt8 := fun i => if h : i < n then Classical.choose (hb i h) else 0
  have hf : ∀ i, i < n → cells[i]? = some (.int .u8 ((f i).toNat : Int)) := fun i hi => by
    simp only [f, dif_pos hi]
    exact Classical.choose_spec (hb i hi)
  have e : cells = bcells (upto n f) := by
    apply List.ext_getElem?
    intro i
    by_cases hi : i < n
    · rw [hf i hi, bcells_get _ _ (by rw [upto_length]; exact hi)]
      simp [upto]
    · rw [List.getElem?_eq_none (by have := hs.1; omega), List.getElem?_eq_none (by rw [bcells_length, upto_length]; omega)]
  refine ⟨v, upto n f, rfl, ?_, by rw [upto_length]; exact hn, by rw [upto_length]; exact hx⟩
  unfold Bs
  rw [upto_length, ← e]
  exact hs

/-- Rows of bytes. -/
theorem rws_of_trod (h : DataW.trod enc Tryd.prog w base (fun _ => true) held fuel 22 cs = some x) : ∃ v its, cs = [v] ∧ Rws w v its ∧ its.length ≤ maxLen ∧ (∀ l ∈ its, l.length ≤ maxLen) ∧ ((x.1 = .nil ∧ its.length = 0) ∨ ∃ ds rest, x.1 = .slice ds rest ∧ ds.length = its.length ∧ ∀ l ∈ its, ∃ d ∈ ds, (d = .nil ∧ l.length = 0) ∨ ∃ ds2 rest2, d = .slice ds2 rest2 ∧ ds2.length = l.length) := by
  obtain ⟨v, n, cells, ds, rfl, hs, hn, hdn, ⟨m, hm⟩, hx⟩ := sl_of_trodE (sz := 1) Tryd.underlying22 (by kernel_rfl) (by omega) h
  have hb : ∀ i, i < n → ∃ l : List UInt8, (l.length ≤ maxLen ∧ ∃ d ∈ ds, (d = .nil ∧ l.length = 0) ∨ ∃ ds2 rest2, d = .slice ds2 rest2 ∧ ds2.length = l.length) ∧ ∃ u, cells[i]? = some u ∧ Bs w u l := fun i hi => by
    obtain ⟨y, hy, hyd⟩ := hm i hi
    obtain ⟨u, l, hk, hb, hl, hz⟩ := bs_of_trod hy
    have := congrArg (·[0]?) hk
    simp only [List.getElem?_take, List.getElem?_drop] at this
    exact ⟨l, ⟨hl, y.1, List.mem_of_getElem? hyd, hz⟩, u, by simpa using this, hb⟩
  let f : Nat → List UInt8 := fun i => if h : i < n then Classical.choose (hb i h) else []
  have hf : ∀ i, i < n → ((f i).length ≤ maxLen ∧ ∃ d ∈ ds, (d = .nil ∧ (f i).length = 0) ∨ ∃ ds2 rest2, d = .slice ds2 rest2 ∧ ds2.length = (f i).length) ∧ ∃ u, cells[i]? = some u ∧ Bs w u (f i) := fun i hi => by
    simp only [f, dif_pos hi]
    exact Classical.choose_spec (hb i hi)
  refine ⟨v, upto n f, rfl, ⟨cells, by rw [upto_length]; exact hs, by rw [upto_length]; have := hs.1; omega, fun i hi => ?_⟩, by rw [upto_length]; exact hn, fun l hl => ?_, ?_⟩
  · rw [upto_length] at hi
    obtain ⟨_, u, h1, h2⟩ := hf i hi
    exact ⟨u, h1, by simpa [upto] using h2⟩
  · simp only [upto, List.mem_map, List.mem_range] at hl
    obtain ⟨i, hi, rfl⟩ := hl
    exact (hf i hi).1.1
  · rcases hx with hx | ⟨rest, hx⟩
    · exact .inl (by rw [upto_length]; exact hx)
    · refine .inr ⟨ds, rest, hx, by rw [upto_length]; exact hdn, fun l hl => ?_⟩
      simp only [upto, List.mem_map, List.mem_range] at hl
      obtain ⟨i, hi, rfl⟩ := hl
      exact (hf i hi).1.2

/-- How much a reading takes at most. -/
def Light (t : TypeId) (d : DataW H) : Prop := ∀ n ∈ d.weights Tryd.prog t, n ≤ reachBytes
theorem Light.slice {t e : TypeId} {d : DataW H} (h : Light t d) (ht : Tryd.prog.underlying t = some (.slice e)) {n : Nat} (hd : (d = .nil ∧ n = 0) ∨ ∃ ds rest, d = .slice ds rest ∧ ds.length = n) : n * Tryd.prog.bytesOf e ≤ reachBytes := by
  rcases hd with ⟨rfl, rfl⟩ | ⟨ds, rest, rfl, rfl⟩
  · rw [Nat.zero_mul]; exact Nat.zero_le _
  · have := h ((ds.length + rest.length) * Tryd.prog.bytesOf e) (by simp [DataW.weights, ht])
    exact Nat.le_trans (Nat.mul_le_mul_right _ (by omega)) this

theorem weightsAll_mem {e : TypeId} {d : DataW H} : ∀ {ds : List (DataW H)}, d ∈ ds → ∀ n ∈ d.weights Tryd.prog e, n ∈ DataW.weightsAll Tryd.prog e ds
  | d0 :: ds, hd, n, hn => by
    simp only [DataW.weightsAll, List.mem_append]
    rcases List.mem_cons.1 hd with rfl | hd
    · exact .inl hn
    · exact .inr (weightsAll_mem hd n hn)
theorem Light.elem {t e : TypeId} {ds rest : List (DataW H)} {d : DataW H} (h : Light t (.slice ds rest)) (ht : Tryd.prog.underlying t = some (.slice e)) (hd : d ∈ ds) : Light e d := fun n hn => h n (by
  simp only [DataW.weights, ht, List.mem_cons, List.mem_append]
  exact .inr (.inl (weightsAll_mem hd n hn)))

/-- A frame. -/
theorem fr_of_trodE (h : DataW.trod enc Tryd.prog w base (fun _ => true) held fuel 25 cs = some x) :
    ∃ f iv tv d0 d1 d2 dI dT, cs = (fcells f iv tv).toList ∧ Rws w iv f.its ∧ Bs w tv f.t ∧ isInt f.k ∧ isInt f.a ∧ isInt f.b ∧ x.1 = .agg [d0, d1, d2, dI, dT] ∧
      ((dI = .nil ∧ f.its.length = 0) ∨ ∃ ds rest, dI = .slice ds rest ∧ ds.length = f.its.length ∧ ∀ l ∈ f.its, ∃ d ∈ ds, (d = .nil ∧ l.length = 0) ∨ ∃ ds2 rest2, d = .slice ds2 rest2 ∧ ds2.length = l.length) ∧
      ((dT = .nil ∧ f.t.length = 0) ∨ ∃ ds rest, dT = .slice ds rest ∧ ds.length = f.t.length) := by
  obtain ⟨xs, m, rfl, hx, hl, hxl, hf⟩ := DataW.trod_struct Tryd.underlying25 h
  have hl5 : cs.length = 5 := hl.trans (by kernel_rfl)
  obtain ⟨c0, c1, c2, c3, c4, rfl⟩ : ∃ c0 c1 c2 c3 c4, cs = [c0, c1, c2, c3, c4] := by
    match cs, hl5 with
    | [c0, c1, c2, c3, c4], _ => exact ⟨c0, c1, c2, c3, c4, rfl⟩
  have hxl5 : xs.length = 5 := hxl
  obtain ⟨x0, x1, x2, x3, x4, rfl⟩ : ∃ c0 c1 c2 c3 c4, xs = [c0, c1, c2, c3, c4] := by
    match xs, hxl5 with
    | [c0, c1, c2, c3, c4], _ => exact ⟨c0, c1, c2, c3, c4, rfl⟩
  have k3 : Tryd.prog.cellsOf 3 = 1 := by kernel_rfl
  have k22 : Tryd.prog.cellsOf 22 = 1 := by kernel_rfl
  have k23 : Tryd.prog.cellsOf 23 = 1 := by kernel_rfl
  have h0 := hf 0 _ rfl
  have h1 := hf 1 _ rfl
  have h2 := hf 2 _ rfl
  have h3 := hf 3 _ rfl
  have h4 := hf 4 _ rfl
  simp only [k3, k22, k23, List.drop_zero, List.drop_succ_cons, List.take_succ_cons, List.take_zero, List.getElem?_cons_zero, List.getElem?_cons_succ] at h0 h1 h2 h3 h4
  obtain ⟨a0, e0, _, w0⟩ := DataW.trod_int Tryd.underlying3 h0
  obtain ⟨a1, e1, _, w1⟩ := DataW.trod_int Tryd.underlying3 h1
  obtain ⟨a2, e2, _, w2⟩ := DataW.trod_int Tryd.underlying3 h2
  obtain ⟨iv, its, e3, hI, _, hIl, hIx⟩ := rws_of_trod h3
  obtain ⟨tv, l, e4, hB, _, hBx⟩ := bs_of_trod h4
  cases e0; cases e1; cases e2; cases e3; cases e4
  subst hx
  exact ⟨⟨a0, a1, a2, its, l⟩, _, _, _, _, _, _, _, rfl, hI, hB, isInt.of w0, isInt.of w1, isInt.of w2, rfl, hIx, hBx⟩

/-- A frame. -/
theorem fr_of_trod (h : DataW.trod enc Tryd.prog w base (fun _ => true) held fuel 25 cs = some x) (hw : Light 25 x.1) :
    ∃ f iv tv, cs = (fcells f iv tv).toList ∧ Rws w iv f.its ∧ Bs w tv f.t ∧ f.its.length ≤ 5864062014805 ∧ f.t.length ≤ 140737488351232 ∧ (∀ l ∈ f.its, l.length ≤ 140737488351232) ∧ isInt f.k ∧ isInt f.a ∧ isInt f.b := by
  obtain ⟨f, iv, tv, d0, d1, d2, dI, dT, hc, hI, hB, w0, w1, w2, hx, hIx, hBx⟩ := fr_of_trodE h
  rw [hx] at hw
  have hwI : Light 22 dI := fun n hn => hw n (by
    unfold DataW.weights
    rw [Tryd.underlying25]
    exact DataW.weights_mem_each (ts := [3, 3, 3, 22, 23]) (j := 3) rfl rfl n hn)
  have hwB : Light 23 dT := fun n hn => hw n (by
    unfold DataW.weights
    rw [Tryd.underlying25]
    exact DataW.weights_mem_each (ts := [3, 3, 3, 22, 23]) (j := 4) rfl rfl n hn)
  have hbI : Tryd.prog.bytesOf 23 = 24 := by kernel_rfl
  have hbB : Tryd.prog.bytesOf 5 = 1 := by kernel_rfl
  have hIx2 : (dI = .nil ∧ f.its.length = 0) ∨ ∃ ds rest, dI = .slice ds rest ∧ ds.length = f.its.length := by
    rcases hIx with h | ⟨ds, rest, h, hl, _⟩
    · exact .inl h
    · exact .inr ⟨ds, rest, h, hl⟩
  have hIl2 : ∀ l ∈ f.its, l.length ≤ 140737488351232 := fun l hl => by
    rcases hIx with ⟨_, h⟩ | ⟨ds, rest, h, hdl, hall⟩
    · rw [List.eq_nil_of_length_eq_zero h] at hl; cases hl
    · obtain ⟨d, hd, hz⟩ := hall l hl
      rw [h] at hwI
      have hld : Light 23 d := hwI.elem Tryd.underlying22 hd
      have := hld.slice Tryd.underlying23 hz
      rw [hbB] at this
      unfold reachBytes at this
      omega
  refine ⟨f, _, _, hc, hI, hB, ?_, ?_, hIl2, w0, w1, w2⟩
  · have := hwI.slice Tryd.underlying22 hIx2
    rw [hbI] at this
    unfold reachBytes at this
    omega
  · have := hwB.slice Tryd.underlying23 hBx
    rw [hbB] at this
    unfold reachBytes at this
    omega
end
end Go.Proofs.YtddpefbpiehgeaaDoor

/- What every law's row wants: the program's tables out of the row's list, a world that holds them. -/
namespace Go.Proofs.YtddpefbpiehgeaaDoor
open Go Go.RowKit Go.ChangeShapes Go.WideShapes
set_option maxRecDepth 100000
set_option linter.unusedVariables false
set_option linter.unusedSectionVars false
set_option linter.unusedSimpArgs false

theorem ownK : ownKnob Tryd.prog.godebug = none := by kernel_rfl
theorem gStart : Tryd.prog.globalNamed "farebox/hash.start" = some 0 := by kernel_rfl
theorem gRounds : Tryd.prog.globalNamed "farebox/hash.rounds" = some 2 := by kernel_rfl
theorem gStartT : (Tryd.prog.globals[0]?).map (·.type) = some 135 := by kernel_rfl
theorem gRoundsT : (Tryd.prog.globals[2]?).map (·.type) = some 140 := by kernel_rfl
theorem ce8 : Tryd.prog.cellsOf 135 = 8 := by kernel_rfl
theorem ce64 : Tryd.prog.cellsOf 140 = 64 := by kernel_rfl
theorem ce1u : Tryd.prog.cellsOf 133 = 1 := by kernel_rfl

theorem laidStart_eq : (Rows.laid_farebox_hash_start : DataW Unit) = Lib.tabData .u32 (initW.map fun x => (x.toNat : Int)) := by rfl
theorem laidRounds_eq : (Rows.laid_farebox_hash_rounds : DataW Unit) = Lib.tabData .u32 (kW.map fun x => (x.toNat : Int)) := by rfl

theorem getD_toNat (l : List UInt32) (i : Nat) : (l.map fun x => (x.toNat : Int)).getD i 0 = ((l.getD i 0).toNat : Int) := by
  simp only [List.getD, List.getElem?_map]
  cases l[i]? <;> rfl

theorem gh_of_laid {W : World} {rest : List (String × DataW Unit)} (h : laidMet Tryd.prog (("farebox/hash.start", Rows.laid_farebox_hash_start) :: ("farebox/hash.rounds", Rows.laid_farebox_hash_rounds) :: rest) W) (hs : W.ShapedOpen Tryd.prog) : GH W := by
  have h1 : Lib.TabIs Tryd.prog W "farebox/hash.start" .u32 (initW.map fun x => (x.toNat : Int)) := Lib.tabIs_of_head gStart gStartT Tryd.underlying135 Tryd.underlying133 ce1u ce8 (by rw [← laidStart_eq]; exact h)
  have h2 : Lib.TabIs Tryd.prog W "farebox/hash.rounds" .u32 (kW.map fun x => (x.toNat : Int)) := Lib.tabIs_of_head gRounds gRoundsT Tryd.underlying140 Tryd.underlying133 ce1u ce64 (by rw [← laidRounds_eq]; exact h.tail)
  have h3 : 3 < W.heap.size := by
    have hg4 : Tryd.prog.globals.size = 4 := by kernel_rfl
    have hg : 3 < Tryd.prog.globals.size := by omega
    have hrow : (((begin Tryd.prog (fun _ _ => 0) default).world.heap[3]?).bind Obj.row?).isSome = true := by kernel_rfl
    obtain ⟨⟨zero, t⟩, hz⟩ := Option.isSome_iff_exists.1 hrow
    obtain ⟨cs, hc, _⟩ := hs.1 3 zero t hg hz
    exact lt_of_heap hc
  refine ⟨by omega, fun i hi => ?_, fun i hi => ?_⟩
  · have := h1.cell gStart i (by simpa [initW] using hi)
    rw [this, getD_toNat]
    rfl
  · have := h2.cell gRounds i (by simpa [kW] using hi)
    rw [this, getD_toNat]
    rfl

theorem laidOut : laidOutB Tryd.prog = true := by kernel_rfl

section
variable {H : Type} {enc : TypeId × Value → H}
/-- Every argument reads as it did, where nothing that there was has changed. -/
theorem all_stays {W W' : World} (hb : Below W.heap.size W W') : ∀ {ts : List TypeId}, (∀ t ∈ ts, Tryd.prog.readableRec t = true ∧ t < Tryd.prog.types.size) → ∀ {vs : List Value} {ds : List (DataW H)} {ps : List MemPlace},
    DataW.TrodAll enc Tryd.prog W 0 (fun _ => true) true ts vs ds ps → DataW.TrodAll enc Tryd.prog W' 0 (fun b => decide (b < W.heap.size)) true ts vs ds ps := by
  intro ts
  induction ts with
  | nil =>
    intro _ vs ds ps h
    match vs, ds, h with
    | [], [], h => exact h
  | cons t ts ih =>
    intro hts vs ds ps h
    have hlt := h.lt
    obtain ⟨v, vs', d, ds', p, q, rfl, rfl, rfl, h1, h2⟩ := trodAll_cons h
    exact ⟨p, q, Below.trod laidOut (hts t (by simp)).1 (hts t (by simp)).2 h1 hb (fun x hx => hlt x (by simp [hx])), ih (fun t ht => hts t (by simp [ht])) h2, rfl⟩

/-- What a law owes behind a call that returned true and changed nothing. -/
theorem post_true {fn : Func} {s : ChangeSpec} {W W' : World} {args : Array Value} {ds gs : List (DataW H)} {before : List MemPlace}
    (hW : DataW.Whole enc Tryd.prog fn.params.toList s.vars false W args.toList ds gs before) (hv : s.vars = []) (hfn : s.fn H ds = { results := [.lit (.bool true)], args := ds }) (hrt : fn.resultTypes = #[4])
    (hts : (fn.params.toList.all fun t => Tryd.prog.readableRec t && decide (t < Tryd.prog.types.size)) = true) (hb : Below W.heap.size W W') : s.post enc Tryd.prog fn false true false false W args (.bool true) W' := by
  have hW' := hW
  obtain ⟨p, q, hA, hV, rfl, hfz, hnd⟩ := hW
  rw [hv] at hV
  obtain ⟨rfl, rfl⟩ := trodVars_none hV
  refine ⟨ds, [], p ++ [], [], p, [], hW', ?_, ?_, ?_, hb.frame _, fun h => by cases h⟩
  · rw [List.append_nil, hfn, hrt]
    exact trodAll_cons_mk (shut_bool Tryd.underlying4 _) trodAll_mk0
  · rw [List.append_nil, hfn]
    exact all_stays hb (fun t ht => by have := List.all_eq_true.1 hts t ht; simpa using this) hA
  · rw [hv, List.append_nil, hfn]; rfl

theorem open_str {W : World} {b0 : Nat} {v : Value} {d : DataW H} {p : List MemPlace} (hval : Value.okWide Tryd.prog W .any b0 9 v) (h : DataW.Trod enc Tryd.prog W 0 (fun _ => true) true 9 v d p) : ∃ s, v = .string s :=
  let ⟨s, h, _⟩ := ChangeMaps.open_string Tryd.underlying9 hval h
  ⟨s, h⟩
theorem cells_slice {W : World} {b0 : Nat} {t e : TypeId} {v u : Value} (ht : Tryd.prog.underlying t = some (.slice e)) (hval : Value.okWide Tryd.prog W .any b0 t v) (h : v.cells.toList = [u]) : v = u := by
  unfold Value.okWide at hval
  rw [ht] at hval
  simp only at hval
  unfold Cell.okWide at hval
  rw [ht] at hval
  cases v <;> simp_all [Value.cells, Cell.ok]
theorem open_bytes {W : World} {b0 : Nat} {v : Value} {d : DataW H} {p : List MemPlace} (hval : Value.okWide Tryd.prog W .any b0 23 v) (h : DataW.Trod enc Tryd.prog W 0 (fun _ => true) true 23 v d p) (hw : Light 23 d) :
    ∃ l, Bs W v l ∧ l.length ≤ 140737488351232 := by
  obtain ⟨n, hn⟩ := h
  obtain ⟨u, l, hc, hb, _, hx⟩ := bs_of_trod hn
  have := cells_slice Tryd.underlying23 hval hc
  subst this
  have hbB : Tryd.prog.bytesOf 5 = 1 := by kernel_rfl
  have h2 := hw.slice Tryd.underlying23 hx
  rw [hbB] at h2
  unfold reachBytes at h2
  exact ⟨l, hb, by omega⟩
theorem open_frame {W : World} {b0 : Nat} {v : Value} {d : DataW H} {p : List MemPlace} (hval : Value.okWide Tryd.prog W .any b0 25 v) (h : DataW.Trod enc Tryd.prog W 0 (fun _ => true) true 25 v d p) (hw : Light 25 d) :
    ∃ f iv tv, v = .agg (fcells f iv tv) ∧ Rws W iv f.its ∧ Bs W tv f.t ∧ f.its.length ≤ 5864062014805 ∧ f.t.length ≤ 140737488351232 ∧ (∀ l ∈ f.its, l.length ≤ 140737488351232) ∧ isInt f.k ∧ isInt f.a ∧ isInt f.b := by
  obtain ⟨n, hn⟩ := h
  obtain ⟨f, iv, tv, hc, r⟩ := fr_of_trod hn hw
  refine ⟨f, iv, tv, ?_, r⟩
  unfold Value.okWide at hval
  rw [Tryd.underlying25] at hval
  obtain ⟨cs, rfl, _⟩ := hval
  have hc' : cs.toList = (fcells f iv tv).toList := hc
  exact congrArg _ (Array.toList_inj.1 hc')
theorem open_i64 {W : World} {b0 : Nat} {v : Value} {d : DataW H} {p : List MemPlace} (hval : Value.okWide Tryd.prog W .any b0 3 v) (h : DataW.Trod enc Tryd.prog W 0 (fun _ => true) true 3 v d p) : ∃ n, v = .int .i64 n ∧ isInt n := by
  obtain ⟨n, h1, _, _, h2⟩ := open_int Tryd.underlying3 hval h
  exact ⟨n, h1, isInt.of h2⟩
end

/-- A world for the witness: the settled one, the tables hold what the program's text lays. -/
def putTab (cs : Array Value) : Obj → Obj
  | .cells _ t frozen => .cells cs t frozen
  | o => o
noncomputable def laidWorld (os : Os) : World :=
  { World.holding Tryd.prog os ⟨#[], #[], []⟩ with heap := ((World.holding Tryd.prog os ⟨#[], #[], []⟩).heap.modify 0 (putTab (arr initW))).modify 2 (putTab (arr kW)) }
end Go.Proofs.YtddpefbpiehgeaaDoor

/- What comes in: a script of calls on a receiver. -/
namespace Go.Proofs.YtddpefbpiehgeaaDoor
open Go Go.RowKit Go.ChangeShapes Go.WideShapes
set_option maxRecDepth 100000
set_option linter.unusedVariables false
set_option linter.unusedSectionVars false
set_option linter.unusedSimpArgs false

section
variable {H : Type} {enc : TypeId × Value → H} {w : World} {base : Nat} {held : Bool} {fuel : Nat} {cs : List Value} {x : DataW H × List MemPlace}

theorem bulk_pos (d : DataW H) : 1 ≤ Rows.uptoBulk d := by
  cases d with
  | lit l => cases l <;> simp [Rows.uptoBulk]
  | _ => simp [Rows.uptoBulk]
theorem bulk_len : ∀ ds : List (DataW H), ds.length ≤ Rows.uptoBulkAll ds
  | [] => by simp [Rows.uptoBulkAll]
  | d :: r => by
    have := bulk_len r
    have := bulk_pos d
    simp only [List.length_cons, Rows.uptoBulkAll]; omega
theorem bulk_mem {d : DataW H} : ∀ {ds : List (DataW H)}, d ∈ ds → Rows.uptoBulk d ≤ Rows.uptoBulkAll ds
  | d0 :: r, h => by
    simp only [Rows.uptoBulkAll]
    rcases List.mem_cons.1 h with rfl | h
    · omega
    · have := bulk_mem h; omega
theorem bulk_slice {ds rest : List (DataW H)} : Rows.uptoBulkAll ds + 1 ≤ Rows.uptoBulk (.slice ds rest) := by
  simp only [Rows.uptoBulk]; omega

theorem rwp_of {v : Value} {its : List (List UInt8)} (h : Rws w v its) : RwP (· < w.heap.size) w v its := by
  obtain ⟨vs, hs, hl, hb⟩ := h
  exact ⟨vs, hs, fun g hg => Sl.lt hs g hg, hl, fun i hi => by
    obtain ⟨u, h1, h2⟩ := hb i hi
    exact ⟨u, h1, h2, fun g hg => Sl.lt h2 g hg⟩⟩

/-- One call. -/
theorem op_of_trod (h : DataW.trod enc Tryd.prog w base (fun _ => true) held fuel 45 cs = some x) (hk : Rows.uptoBulk x.1 ≤ 1048576) :
    ∃ (o : OpT) (iv tv : Value), cs = .int .i64 o.d :: .int .i64 o.q :: (fcells o.f iv tv).toList ∧ RwP (· < w.heap.size) w iv o.f.its ∧ Bs w tv o.f.t ∧ BlkP (· < w.heap.size) tv ∧ isInt o.q ∧ isInt o.f.b ∧ o.f.its.length ≤ 1048576 ∧ o.f.t.length ≤ 1048576 ∧ (∀ x ∈ o.f.its, x.length ≤ 1048576) := by
  obtain ⟨xs, m, rfl, hx, hl, hxl, hf⟩ := DataW.trod_struct Tryd.underlying45 h
  have hl7 : cs.length = 7 := hl.trans (by kernel_rfl)
  obtain ⟨c0, c1, c2, c3, c4, c5, c6, rfl⟩ : ∃ c0 c1 c2 c3 c4 c5 c6, cs = [c0, c1, c2, c3, c4, c5, c6] := by
    match cs, hl7 with
    | [c0, c1, c2, c3, c4, c5, c6], _ => exact ⟨c0, c1, c2, c3, c4, c5, c6, rfl⟩
  have hxl3 : xs.length = 3 := hxl
  obtain ⟨x0, x1, x2, rfl⟩ : ∃ c0 c1 c2, xs = [c0, c1, c2] := by
    match xs, hxl3 with
    | [c0, c1, c2], _ => exact ⟨c0, c1, c2, rfl⟩
  have k3 : Tryd.prog.cellsOf 3 = 1 := by kernel_rfl
  have k25 : Tryd.prog.cellsOf 25 = 5 := by kernel_rfl
  have h0 := hf 0 _ rfl
  have h1 := hf 1 _ rfl
  have h2 := hf 2 _ rfl
  simp only [k3, k25, List.drop_zero, List.drop_succ_cons, List.take_succ_cons, List.take_zero, List.getElem?_cons_zero, List.getElem?_cons_succ] at h0 h1 h2
  obtain ⟨a0, e0, _, w0⟩ := DataW.trod_int Tryd.underlying3 h0
  obtain ⟨a1, e1, _, w1⟩ := DataW.trod_int Tryd.underlying3 h1
  obtain ⟨f, iv, tv, d0, d1, d2, dI, dT, hc, hI, hB, _, _, fb, hxx, hIx, hBx⟩ := fr_of_trodE h2
  cases e0; cases e1
  subst hx
  have hb1 : Rows.uptoBulk x2.1 ≤ 1048576 := Nat.le_trans (by simp only [List.map_cons, List.map_nil, Rows.uptoBulk, Rows.uptoBulkAll]; omega) hk
  rw [hxx] at hb1
  simp only [Rows.uptoBulk, Rows.uptoBulkAll] at hb1
  refine ⟨⟨a0, a1, f⟩, iv, tv, by show _ = _ :: _ :: (fcells f iv tv).toList; rw [← hc]; rfl, rwp_of hI, hB, fun g hg => Sl.lt hB g hg, isInt.of w1, fb, ?_, ?_, fun l hl => ?_⟩
  · rcases hIx with ⟨_, h⟩ | ⟨ds, rest, rfl, h, _⟩
    · simp only; omega
    · have := bulk_len ds
      have := bulk_slice (ds := ds) (rest := rest)
      simp only; omega
  · rcases hBx with ⟨_, h⟩ | ⟨ds, rest, rfl, h⟩
    · simp only; omega
    · have := bulk_len ds
      have := bulk_slice (ds := ds) (rest := rest)
      simp only; omega
  · rcases hIx with ⟨_, h⟩ | ⟨ds, rest, rfl, h, hall⟩
    · simp only at hl
      rw [List.eq_nil_of_length_eq_zero h] at hl; cases hl
    · obtain ⟨d, hd, hz⟩ := hall l hl
      have h1 := bulk_mem hd
      have h2 := bulk_slice (ds := ds) (rest := rest)
      rcases hz with ⟨_, hz⟩ | ⟨ds2, rest2, rfl, hz⟩
      · omega
      · have := bulk_len ds2
        have := bulk_slice (ds := ds2) (rest := rest2)
        omega

/-- A script. -/
theorem ops_of_trod (h : DataW.trod enc Tryd.prog w base (fun _ => true) held fuel 38 cs = some x) (hk : Rows.uptoBulk x.1 ≤ 1048576) :
    ∃ v os cells, cs = [v] ∧ Sl w 7 v os.length cells ∧ OpC w.heap.size w cells os ∧ os.length ≤ 1048576 := by
  obtain ⟨v, n, cells, ds, rfl, hs, hn, hdn, ⟨m, hm⟩, hx⟩ := sl_of_trodE (sz := 7) Tryd.underlying38 (by kernel_rfl) (by omega) h
  have hds : Rows.uptoBulkAll ds ≤ 1048576 ∨ n = 0 := by
    rcases hx with ⟨_, h0⟩ | ⟨rest, hx⟩
    · exact .inr h0
    · rw [hx] at hk
      have := bulk_slice (ds := ds) (rest := rest)
      exact .inl (by omega)
  have hb : ∀ i, i < n → ∃ (o : OpT) (iv tv : Value), (cells.drop (i * 7)).take 7 = .int .i64 o.d :: .int .i64 o.q :: (fcells o.f iv tv).toList ∧ RwP (· < w.heap.size) w iv o.f.its ∧ Bs w tv o.f.t ∧ BlkP (· < w.heap.size) tv ∧ isInt o.q ∧ isInt o.f.b ∧ o.f.its.length ≤ 1048576 ∧ o.f.t.length ≤ 1048576 ∧ (∀ x ∈ o.f.its, x.length ≤ 1048576) := fun i hi => by
    obtain ⟨y, hy, hyd⟩ := hm i hi
    refine op_of_trod hy ?_
    rcases hds with hds | h0
    · exact Nat.le_trans (bulk_mem (List.mem_of_getElem? hyd)) hds
    · omega
  let f : Nat → OpT := fun i => if h : i < n then Classical.choose (hb i h) else ⟨0, 0, zeroF⟩
  have hf : ∀ i, i < n → ∃ (iv tv : Value), (cells.drop (i * 7)).take 7 = .int .i64 (f i).d :: .int .i64 (f i).q :: (fcells (f i).f iv tv).toList ∧ RwP (· < w.heap.size) w iv (f i).f.its ∧ Bs w tv (f i).f.t ∧ BlkP (· < w.heap.size) tv ∧ isInt (f i).q ∧ isInt (f i).f.b ∧ (f i).f.its.length ≤ 1048576 ∧ (f i).f.t.length ≤ 1048576 ∧ (∀ x ∈ (f i).f.its, x.length ≤ 1048576) := fun i hi => by
    simp only [f, dif_pos hi]
    exact Classical.choose_spec (hb i hi)
  refine ⟨v, upto n f, cells, rfl, by rw [upto_length]; exact hs, ⟨by rw [upto_length]; exact hs.1, fun i hi => ?_⟩, ?_⟩
  · rw [upto_length] at hi
    have he : (upto n f)[i]'(by rw [upto_length]; exact hi) = f i := by simp [upto]
    rw [he]
    exact hf i hi
  · rw [upto_length]
    rcases hds with hds | h0
    · have := bulk_len ds; omega
    · omega
end
end Go.Proofs.YtddpefbpiehgeaaDoor

