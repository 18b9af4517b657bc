/- What comes in: bytes, rows of bytes, frames. -/
import Derived.Test.YtddpefbpiehgeaaDoorAwake
import Derived.ProofKit
import Derived.OpenShut
namespace Go.Proofs.YtddpefbpiehgeaaDoor
open Go Go.RowKit Go.ChangeShapes Go.WideShapes
set_option maxRecDepth 100000
set_option linter.unusedVariables false
set_option linter.unusedSectionVars false
set_option linter.unusedSimpArgs false

section
variable {H : Type} {enc : TypeId × Value → H} {w : World} {base : Nat} {held : Bool} {fuel : Nat} {cs : List Value} {x : DataW H × List MemPlace}

theorem addr_none {w : World} {a : Addr} {v : Value} (h : w.cell? (a.add 0) = some v) : a = ⟨a.block, a.off, none⟩ := by
  have h' : w.cell? a = some v := by simpa [Addr.add] using h
  have := World.cell?_spot h'
  cases a
  simp only at this
  rw [this]
theorem addr_lt {w : World} {b o : Nat} {v : Value} (h : w.cell? ⟨b, o, none⟩ = some v) : b < w.heap.size := by
  unfold World.cell? at h
  rcases Nat.lt_or_ge b w.heap.size with h1 | h1
  · exact h1
  · rw [Array.getElem?_eq_none h1] at h; cases h

/-- The list of all values of a function up to n. -/
def upto {α : Type} (n : Nat) (f : Nat → α) : List α := (List.range n).map f
theorem upto_length {α : Type} (n : Nat) (f : Nat → α) : (upto n f).length = n := by simp [upto]
theorem upto_get {α : Type} (n : Nat) (f : Nat → α) (i : Nat) (h : i < n) : (upto n f)[i]? = some (f i) := by simp [upto, h]

/-- A slice of cells, out of what is read: each element's cell with its reading. -/
theorem sl_of_trodE {t e : TypeId} {sz : Nat} (ht : Tryd.prog.underlying t = some (.slice e)) (hc : Tryd.prog.cellsOf e = sz) (hsz : 0 < sz) (h : DataW.trod enc Tryd.prog w base (fun _ => true) held fuel t cs = some x) :
    ∃ v n cells ds, cs = [v] ∧ Sl w sz v n cells ∧ n ≤ maxLen ∧ ds.length = n ∧ (∃ m, ∀ i, i < n → ∃ y, DataW.trod enc Tryd.prog w base (fun _ => true) held m e ((cells.drop (i * sz)).take sz) = some y ∧ ds[i]? = some y.1) ∧
      ((x.1 = .nil ∧ n = 0) ∨ ∃ rest, x.1 = .slice ds rest) := by
  rcases DataW.trod_slice ht h with ⟨rfl, rfl⟩ | ⟨a, len, cap, elems, rest, m, _, rfl, rfl, hb, hl, hm, hlen, hel, hsp, _⟩
  · exact ⟨_, 0, [], [], rfl, ⟨by simp, .inl ⟨rfl, rfl⟩⟩, by omega, rfl, ⟨0, fun i hi => by omega⟩, .inl ⟨rfl, rfl⟩⟩
  · rw [hc] at hel hsp
    obtain ⟨hrl, hsp⟩ := hsp rfl
    have hall : ∀ i, i < cap → ∃ c y, w.cells? base (a.add (i * sz)) sz = some c ∧ DataW.trod enc Tryd.prog w base (fun _ => true) held m e c = some y ∧ (i < len → (elems.map (·.1))[i]? = some y.1) := fun i hi => by
      by_cases hlt : i < len
      · have h1 := hel i hlt
        rw [List.getElem?_eq_getElem (by omega)] at h1
        rw [Option.bind_eq_some_iff] at h1
        obtain ⟨c, h2, h3⟩ := h1
        exact ⟨c, _, h2, h3, fun _ => by simp [List.getElem?_map, List.getElem?_eq_getElem (show i < elems.length by omega)]⟩
      · have h1 := hsp (i - len) (by omega)
        rw [List.getElem?_eq_getElem (by omega), show len + (i - len) = i by omega] at h1
        rw [Option.bind_eq_some_iff] at h1
        obtain ⟨c, h2, h3⟩ := h1
        exact ⟨c, _, h2, h3, fun h => absurd h hlt⟩
    have hmax : len ≤ maxLen := Nat.le_trans hl hm
    have hx : ((DataW.slice (elems.map (·.1)) (rest.map (·.1)) : DataW H) = .nil ∧ len = 0) ∨ ∃ rest', (DataW.slice (elems.map (·.1)) (rest.map (·.1)) : DataW H) = .slice (elems.map (·.1)) rest' := .inr ⟨_, rfl⟩
    have hdl : (elems.map (·.1)).length = len := by simpa using hlen
    by_cases h0 : cap = 0
    · obtain rfl : len = 0 := by omega
      subst h0
      exact ⟨_, 0, [], _, rfl, ⟨by simp, .inr (.inl ⟨a, rfl, rfl⟩)⟩, by omega, hdl, ⟨0, fun i hi => by omega⟩, hx⟩
    · obtain ⟨c0, _, hc0, _, _⟩ := hall 0 (by omega)
      obtain ⟨_, hcl, hcc⟩ := World.cells?_some hc0
      have hv0 := hcc 0 hsz
      rw [Nat.zero_mul, List.getElem?_eq_getElem (by omega)] at hv0
      have e0 : a.add 0 = a := by simp [Addr.add]
      rw [e0] at hv0
      have ha := addr_none hv0
      have hlt : a.block < w.heap.size := by
        rw [e0] at hv0
        rw [ha] at hv0
        exact addr_lt hv0
      have hcell : ∀ i j, i < cap → j < sz → ∃ v, w.cell? ⟨a.block, a.off + (i * sz + j), none⟩ = some v := fun i j hi hj => by
        obtain ⟨c, _, h2, _, _⟩ := hall i hi
        obtain ⟨_, h3, h4⟩ := World.cells?_some h2
        have h5 := h4 j hj
        rw [List.getElem?_eq_getElem (by omega), ha, Addr.add_lit, Addr.add_lit, Nat.add_assoc] at h5
        exact ⟨_, h5⟩
      let g : Nat → Value := fun k => (w.cell? ⟨a.block, a.off + k, none⟩).getD undef
      have hg : ∀ i j, i < cap → j < sz → w.cell? ⟨a.block, a.off + (i * sz + j), none⟩ = some (g (i * sz + j)) := fun i j hi hj => by
        obtain ⟨v, hv⟩ := hcell i j hi hj
        simp only [g, hv, Option.getD_some]
      refine ⟨_, len, upto (len * sz) g, _, rfl, ⟨by rw [upto_length], .inr (.inr ⟨a.block, a.off, cap, by rw [← ha], hl, hlt, fun k u hu => ?_⟩)⟩, hmax, hdl, ⟨m, fun i hi => ?_⟩, hx⟩
      · have hk : k < len * sz := by have := (List.getElem?_eq_some_iff.1 hu).1; rwa [upto_length] at this
        rw [upto_get _ _ _ hk] at hu
        cases hu
        have h1 : k / sz < len := Nat.div_lt_of_lt_mul (by rwa [Nat.mul_comm] at hk)
        have h2 := hg (k / sz) (k % sz) (by omega) (Nat.mod_lt _ hsz)
        rwa [Nat.mul_comm, Nat.div_add_mod] at h2
      · obtain ⟨c, y, h2, h3, h7⟩ := hall i (by omega)
        obtain ⟨_, h4, h5⟩ := World.cells?_some h2
        have hle : i * sz + sz ≤ len * sz := by
          have := Nat.mul_le_mul_right sz (show i + 1 ≤ len by omega)
          rwa [Nat.add_mul, Nat.one_mul] at this
        have e : ((upto (len * sz) g).drop (i * sz)).take sz = c := by
          apply List.ext_getElem?
          intro j
          by_cases hj : j < sz
          · rw [List.getElem?_take, if_pos hj, List.getElem?_drop, upto_get _ _ _ (by omega)]
            have h6 := h5 j hj
            rw [ha, Addr.add_lit, Addr.add_lit, Nat.add_assoc, hg i j (by omega) hj] at h6
            exact h6
          · rw [List.getElem?_eq_none (by simp; omega), List.getElem?_eq_none (by omega)]
        rw [e]
        exact ⟨y, h3, h7 hi⟩

/-- A slice of cells, out of what is read: each element's cell with its reading. -/
theorem sl_of_trod {t e : TypeId} {sz : Nat} (ht : Tryd.prog.underlying t = some (.slice e)) (hc : Tryd.prog.cellsOf e = sz) (hsz : 0 < sz) (h : DataW.trod enc Tryd.prog w base (fun _ => true) held fuel t cs = some x) :
    ∃ v n cells, cs = [v] ∧ Sl w sz v n cells ∧ n ≤ maxLen ∧ (∃ m, ∀ i, i < n → ∃ y, DataW.trod enc Tryd.prog w base (fun _ => true) held m e ((cells.drop (i * sz)).take sz) = some y) ∧
      ((x.1 = .nil ∧ n = 0) ∨ ∃ ds rest, x.1 = .slice ds rest ∧ ds.length = n) := by
  obtain ⟨v, n, cells, ds, h1, h2, h3, h4, ⟨m, h5⟩, h6⟩ := sl_of_trodE ht hc hsz h
  refine ⟨v, n, cells, h1, h2, h3, ⟨m, fun i hi => ?_⟩, ?_⟩
  · obtain ⟨y, h7, _⟩ := h5 i hi
    exact ⟨y, h7⟩
  · rcases h6 with h6 | ⟨rest, h6⟩
    · exact .inl h6
    · exact .inr ⟨ds, rest, h6, h4⟩

/-- Bytes. -/
theorem bs_of_trod (h : DataW.trod enc Tryd.prog w base (fun _ => true) held fuel 23 cs = some x) : ∃ v l, cs = [v] ∧ Bs w v l ∧ l.length ≤ maxLen ∧ ((x.1 = .nil ∧ l.length = 0) ∨ ∃ ds rest, x.1 = .slice ds rest ∧ ds.length = l.length) := by
  obtain ⟨v, n, cells, rfl, hs, hn, ⟨m, hm⟩, hx⟩ := sl_of_trod (sz := 1) Tryd.underlying23 (by kernel_rfl) (by omega) h
  have hb : ∀ i, i < n → ∃ b : UInt8, cells[i]? = some (.int .u8 (b.toNat : Int)) := fun i hi => by
    obtain ⟨y, hy⟩ := hm i hi
    obtain ⟨k, hk, _, hw⟩ := DataW.trod_int Tryd.underlying5 hy
    have hw' : 0 ≤ k ∧ k ≤ 255 := by
      simp [Lit.wf, IntKind.min, IntKind.max, IntKind.signed, IntKind.bits] at hw
      exact ⟨by omega, by omega⟩
    refine ⟨UInt8.ofNat k.toNat, ?_⟩
    have h2 : ((UInt8.ofNat k.toNat).toNat : Int) = k := by
      rw [UInt8.toNat_ofNat']
      omega
    rw [h2]
    have := congrArg (·[0]?) hk
    simp only [List.getElem?_take, List.getElem?_drop] at this
    simpa using this
  let f : Nat → UInt8 := fun i => if h : i < n then Classical.choose (hb i h) else 0
  have hf : ∀ i, i < n → cells[i]? = some (.int .u8 ((f i).toNat : Int)) := fun i hi => by
    simp only [f, dif_pos hi]
    exact Classical.choose_spec (hb i hi)
  have e : cells = bcells (upto n f) := by
    apply List.ext_getElem?
    intro i
    by_cases hi : i < n
    · rw [hf i hi, bcells_get _ _ (by rw [upto_length]; exact hi)]
      simp [upto]
    · rw [List.getElem?_eq_none (by have := hs.1; omega), List.getElem?_eq_none (by rw [bcells_length, upto_length]; omega)]
  refine ⟨v, upto n f, rfl, ?_, by rw [upto_length]; exact hn, by rw [upto_length]; exact hx⟩
  unfold Bs
  rw [upto_length, ← e]
  exact hs

/-- Rows of bytes. -/
theorem rws_of_trod (h : DataW.trod enc Tryd.prog w base (fun _ => true) held fuel 22 cs = some x) : ∃ v its, cs = [v] ∧ Rws w v its ∧ its.length ≤ maxLen ∧ (∀ l ∈ its, l.length ≤ maxLen) ∧ ((x.1 = .nil ∧ its.length = 0) ∨ ∃ ds rest, x.1 = .slice ds rest ∧ ds.length = its.length ∧ ∀ l ∈ its, ∃ d ∈ ds, (d = .nil ∧ l.length = 0) ∨ ∃ ds2 rest2, d = .slice ds2 rest2 ∧ ds2.length = l.length) := by
  obtain ⟨v, n, cells, ds, rfl, hs, hn, hdn, ⟨m, hm⟩, hx⟩ := sl_of_trodE (sz := 1) Tryd.underlying22 (by kernel_rfl) (by omega) h
  have hb : ∀ i, i < n → ∃ l : List UInt8, (l.length ≤ maxLen ∧ ∃ d ∈ ds, (d = .nil ∧ l.length = 0) ∨ ∃ ds2 rest2, d = .slice ds2 rest2 ∧ ds2.length = l.length) ∧ ∃ u, cells[i]? = some u ∧ Bs w u l := fun i hi => by
    obtain ⟨y, hy, hyd⟩ := hm i hi
    obtain ⟨u, l, hk, hb, hl, hz⟩ := bs_of_trod hy
    have := congrArg (·[0]?) hk
    simp only [List.getElem?_take, List.getElem?_drop] at this
    exact ⟨l, ⟨hl, y.1, List.mem_of_getElem? hyd, hz⟩, u, by simpa using this, hb⟩
  let f : Nat → List UInt8 := fun i => if h : i < n then Classical.choose (hb i h) else []
  have hf : ∀ i, i < n → ((f i).length ≤ maxLen ∧ ∃ d ∈ ds, (d = .nil ∧ (f i).length = 0) ∨ ∃ ds2 rest2, d = .slice ds2 rest2 ∧ ds2.length = (f i).length) ∧ ∃ u, cells[i]? = some u ∧ Bs w u (f i) := fun i hi => by
    simp only [f, dif_pos hi]
    exact Classical.choose_spec (hb i hi)
  refine ⟨v, upto n f, rfl, ⟨cells, by rw [upto_length]; exact hs, by rw [upto_length]; have := hs.1; omega, fun i hi => ?_⟩, by rw [upto_length]; exact hn, fun l hl => ?_, ?_⟩
  · rw [upto_length] at hi
    obtain ⟨_, u, h1, h2⟩ := hf i hi
    exact ⟨u, h1, by simpa [upto] using h2⟩
  · simp only [upto, List.mem_map, List.mem_range] at hl
    obtain ⟨i, hi, rfl⟩ := hl
    exact (hf i hi).1.1
  · rcases hx with hx | ⟨rest, hx⟩
    · exact .inl (by rw [upto_length]; exact hx)
    · refine .inr ⟨ds, rest, hx, by rw [upto_length]; exact hdn, fun l hl => ?_⟩
      simp only [upto, List.mem_map, List.mem_range] at hl
      obtain ⟨i, hi, rfl⟩ := hl
      exact (hf i hi).1.2

/-- How much a reading takes at most. -/
def Light (t : TypeId) (d : DataW H) : Prop := ∀ n ∈ d.weights Tryd.prog t, n ≤ reachBytes
theorem Light.slice {t e : TypeId} {d : DataW H} (h : Light t d) (ht : Tryd.prog.underlying t = some (.slice e)) {n : Nat} (hd : (d = .nil ∧ n = 0) ∨ ∃ ds rest, d = .slice ds rest ∧ ds.length = n) : n * Tryd.prog.bytesOf e ≤ reachBytes := by
  rcases hd with ⟨rfl, rfl⟩ | ⟨ds, rest, rfl, rfl⟩
  · rw [Nat.zero_mul]; exact Nat.zero_le _
  · have := h ((ds.length + rest.length) * Tryd.prog.bytesOf e) (by simp [DataW.weights, ht])
    exact Nat.le_trans (Nat.mul_le_mul_right _ (by omega)) this

theorem weightsAll_mem {e : TypeId} {d : DataW H} : ∀ {ds : List (DataW H)}, d ∈ ds → ∀ n ∈ d.weights Tryd.prog e, n ∈ DataW.weightsAll Tryd.prog e ds
  | d0 :: ds, hd, n, hn => by
    simp only [DataW.weightsAll, List.mem_append]
    rcases List.mem_cons.1 hd with rfl | hd
    · exact .inl hn
    · exact .inr (weightsAll_mem hd n hn)
theorem Light.elem {t e : TypeId} {ds rest : List (DataW H)} {d : DataW H} (h : Light t (.slice ds rest)) (ht : Tryd.prog.underlying t = some (.slice e)) (hd : d ∈ ds) : Light e d := fun n hn => h n (by
  simp only [DataW.weights, ht, List.mem_cons, List.mem_append]
  exact .inr (.inl (weightsAll_mem hd n hn)))

/-- A frame. -/
theorem fr_of_trodE (h : DataW.trod enc Tryd.prog w base (fun _ => true) held fuel 25 cs = some x) :
    ∃ f iv tv d0 d1 d2 dI dT, cs = (fcells f iv tv).toList ∧ Rws w iv f.its ∧ Bs w tv f.t ∧ isInt f.k ∧ isInt f.a ∧ isInt f.b ∧ x.1 = .agg [d0, d1, d2, dI, dT] ∧
      ((dI = .nil ∧ f.its.length = 0) ∨ ∃ ds rest, dI = .slice ds rest ∧ ds.length = f.its.length ∧ ∀ l ∈ f.its, ∃ d ∈ ds, (d = .nil ∧ l.length = 0) ∨ ∃ ds2 rest2, d = .slice ds2 rest2 ∧ ds2.length = l.length) ∧
      ((dT = .nil ∧ f.t.length = 0) ∨ ∃ ds rest, dT = .slice ds rest ∧ ds.length = f.t.length) := by
  obtain ⟨xs, m, rfl, hx, hl, hxl, hf⟩ := DataW.trod_struct Tryd.underlying25 h
  have hl5 : cs.length = 5 := hl.trans (by kernel_rfl)
  obtain ⟨c0, c1, c2, c3, c4, rfl⟩ : ∃ c0 c1 c2 c3 c4, cs = [c0, c1, c2, c3, c4] := by
    match cs, hl5 with
    | [c0, c1, c2, c3, c4], _ => exact ⟨c0, c1, c2, c3, c4, rfl⟩
  have hxl5 : xs.length = 5 := hxl
  obtain ⟨x0, x1, x2, x3, x4, rfl⟩ : ∃ c0 c1 c2 c3 c4, xs = [c0, c1, c2, c3, c4] := by
    match xs, hxl5 with
    | [c0, c1, c2, c3, c4], _ => exact ⟨c0, c1, c2, c3, c4, rfl⟩
  have k3 : Tryd.prog.cellsOf 3 = 1 := by kernel_rfl
  have k22 : Tryd.prog.cellsOf 22 = 1 := by kernel_rfl
  have k23 : Tryd.prog.cellsOf 23 = 1 := by kernel_rfl
  have h0 := hf 0 _ rfl
  have h1 := hf 1 _ rfl
  have h2 := hf 2 _ rfl
  have h3 := hf 3 _ rfl
  have h4 := hf 4 _ rfl
  simp only [k3, k22, k23, List.drop_zero, List.drop_succ_cons, List.take_succ_cons, List.take_zero, List.getElem?_cons_zero, List.getElem?_cons_succ] at h0 h1 h2 h3 h4
  obtain ⟨a0, e0, _, w0⟩ := DataW.trod_int Tryd.underlying3 h0
  obtain ⟨a1, e1, _, w1⟩ := DataW.trod_int Tryd.underlying3 h1
  obtain ⟨a2, e2, _, w2⟩ := DataW.trod_int Tryd.underlying3 h2
  obtain ⟨iv, its, e3, hI, _, hIl, hIx⟩ := rws_of_trod h3
  obtain ⟨tv, l, e4, hB, _, hBx⟩ := bs_of_trod h4
  cases e0; cases e1; cases e2; cases e3; cases e4
  subst hx
  exact ⟨⟨a0, a1, a2, its, l⟩, _, _, _, _, _, _, _, rfl, hI, hB, isInt.of w0, isInt.of w1, isInt.of w2, rfl, hIx, hBx⟩

/-- A frame. -/
theorem fr_of_trod (h : DataW.trod enc Tryd.prog w base (fun _ => true) held fuel 25 cs = some x) (hw : Light 25 x.1) :
    ∃ f iv tv, cs = (fcells f iv tv).toList ∧ Rws w iv f.its ∧ Bs w tv f.t ∧ f.its.length ≤ 5864062014805 ∧ f.t.length ≤ 140737488351232 ∧ (∀ l ∈ f.its, l.length ≤ 140737488351232) ∧ isInt f.k ∧ isInt f.a ∧ isInt f.b := by
  obtain ⟨f, iv, tv, d0, d1, d2, dI, dT, hc, hI, hB, w0, w1, w2, hx, hIx, hBx⟩ := fr_of_trodE h
  rw [hx] at hw
  have hwI : Light 22 dI := fun n hn => hw n (by
    unfold DataW.weights
    rw [Tryd.underlying25]
    exact DataW.weights_mem_each (ts := [3, 3, 3, 22, 23]) (j := 3) rfl rfl n hn)
  have hwB : Light 23 dT := fun n hn => hw n (by
    unfold DataW.weights
    rw [Tryd.underlying25]
    exact DataW.weights_mem_each (ts := [3, 3, 3, 22, 23]) (j := 4) rfl rfl n hn)
  have hbI : Tryd.prog.bytesOf 23 = 24 := by kernel_rfl
  have hbB : Tryd.prog.bytesOf 5 = 1 := by kernel_rfl
  have hIx2 : (dI = .nil ∧ f.its.length = 0) ∨ ∃ ds rest, dI = .slice ds rest ∧ ds.length = f.its.length := by
    rcases hIx with h | ⟨ds, rest, h, hl, _⟩
    · exact .inl h
    · exact .inr ⟨ds, rest, h, hl⟩
  have hIl2 : ∀ l ∈ f.its, l.length ≤ 140737488351232 := fun l hl => by
    rcases hIx with ⟨_, h⟩ | ⟨ds, rest, h, hdl, hall⟩
    · rw [List.eq_nil_of_length_eq_zero h] at hl; cases hl
    · obtain ⟨d, hd, hz⟩ := hall l hl
      rw [h] at hwI
      have hld : Light 23 d := hwI.elem Tryd.underlying22 hd
      have := hld.slice Tryd.underlying23 hz
      rw [hbB] at this
      unfold reachBytes at this
      omega
  refine ⟨f, _, _, hc, hI, hB, ?_, ?_, hIl2, w0, w1, w2⟩
  · have := hwI.slice Tryd.underlying22 hIx2
    rw [hbI] at this
    unfold reachBytes at this
    omega
  · have := hwB.slice Tryd.underlying23 hBx
    rw [hbB] at this
    unfold reachBytes at this
    omega
end
end Go.Proofs.YtddpefbpiehgeaaDoor
