/- A link's steps in memory: what each step keeps. -/
import Derived.Test.YtddpefbpiehgeaaDoorOnceQ
import Derived.Test.YtddpefbpiehgeaaDoorAwake
namespace Go.Proofs.YtddpefbpiehgeaaDoor
open Go Go.RowKit
set_option maxRecDepth 100000
set_option linter.unusedVariables false
set_option linter.unusedSectionVars false
set_option linter.unusedSimpArgs false

/-- A part of a slice of items. -/
theorem Sl.part2 {w : World} {a : Option Addr} {N cap : Nat} {cs : List Value} (h : Sl w 2 (.slice a N cap) N cs) (i : Nat) (hi : i ≤ N) :
    Sl w 2 (.slice (if cap = i then a else a.map (fun x => x.add (i * 2))) (N - i) (cap - i)) (N - i) (cs.drop (i * 2)) := by
  obtain ⟨hl, h⟩ := h
  refine ⟨by rw [List.length_drop, hl]; omega, ?_⟩
  rcases h with ⟨h, h0⟩ | ⟨a', h, h0⟩ | ⟨b, off, cap', hv, hc, hb, hh⟩
  · cases h
    obtain rfl : i = 0 := by omega
    exact .inl ⟨by simp, rfl⟩
  · cases h
    obtain rfl : i = 0 := by omega
    exact .inr (.inl ⟨a', by simp, rfl⟩)
  · cases hv
    by_cases hci : cap = i
    · exact .inr (.inl ⟨⟨b, off, none⟩, by simp [hci]; omega, by omega⟩)
    · refine .inr (.inr ⟨b, off + i * 2, cap - i, by simp [hci, Addr.add], by omega, hb, fun j u hu => ?_⟩)
      rw [List.getElem?_drop] at hu
      rw [Nat.add_assoc]
      exact hh _ _ hu
theorem part2_blk {a : Option Addr} {N cap i k n c g : Nat} (h : own1 (.slice (if cap = i then a else a.map (fun x => x.add k)) n c) = some g) : (Value.slice a N cap).ownBlock = some g := by
  have h' := own1_own h
  cases a with
  | none => split at h' <;> simp [Value.ownBlock] at h'
  | some x =>
    split at h'
    · simpa [Value.ownBlock] using h'
    · simpa [Value.ownBlock, add_block] using h'
theorem OutR.oneCell {w : World} {B bat : Nat} {v : Value} {l : FL} (h : OutR w B bat v l) : ∀ u ∈ fcs l, u.oneCell' = true := by
  intro u hu
  unfold fcs at hu
  rw [List.mem_flatMap] at hu
  obtain ⟨x, hx, hu⟩ := hu
  obtain ⟨_, _, us, h3, _⟩ := h.its x hx
  obtain ⟨a, c, e⟩ := own_form h3
  simp only [fcells, e, List.mem_cons, List.not_mem_nil, or_false] at hu
  rcases hu with rfl | rfl | rfl | rfl | rfl <;> rfl

/-- No row of a type lies there. -/
def NotT (w : World) (T : TypeId) (g : Nat) : Prop := ∀ c fr, w.heap[g]? ≠ some (.cells c T fr)
/-- A row of bytes, or of rows of bytes, lies there. -/
def Ty (w : World) (g : Nat) : Prop := ∃ c T fr, w.heap[g]? = some (.cells c T fr) ∧ (T = 5 ∨ T = 23)

theorem own_kpT {S : List Nat} {w w' : World} {B e sz n : Nat} {v : Value} {xs : List Value} (h : Own w B e sz v n xs) (hk : Kp S w w') (hS : ∀ s ∈ S, NotT w e s) : Own w' B e sz v n xs :=
  own_kp h hk (fun b hb hm => by
    rcases h.2 with ⟨h, _⟩ | ⟨g, cap, cur, fr, hv, _, hh, _⟩
    · rw [h] at hb; cases hb
    · rw [hv] at hb; cases hb; exact hS _ hm _ _ hh)
theorem own_notT {w : World} {B e e' sz n : Nat} {v : Value} {xs : List Value} (h : Own w B e sz v n xs) (he : e ≠ e') : ∀ g ∈ v.ownBlock.toList, NotT w e' g := fun g hg c fr hh => by
  rcases h.2 with ⟨h, _⟩ | ⟨g', cap, cur, fr, hv, _, hh', _⟩
  · rw [h] at hg; simp [Value.ownBlock] at hg
  · rw [hv] at hg
    simp [Value.ownBlock] at hg
    subst hg
    rw [hh] at hh'; cases hh'; exact he rfl
theorem cells_notT {w : World} {g : Nat} {c : Array Value} {T e : TypeId} {fr : Nat × Nat} (h : w.heap[g]? = some (.cells c T fr)) (he : T ≠ e) : NotT w e g := fun c' fr' hh => by
  rw [h] at hh; cases hh; exact he rfl
theorem map_notT {w : World} {b n : Nat} {f : Sent} (h : MI w b n f) (e : TypeId) : NotT w e b := fun c fr hh => h.not_cells hh rfl
theorem notTy {w : World} {g : Nat} (h1 : NotT w 5 g) (h2 : NotT w 23 g) : ¬ Ty w g := fun ⟨c, T, fr, hh, hT⟩ => by
  rcases hT with rfl | rfl
  · exact h1 _ _ hh
  · exact h2 _ _ hh
theorem Ty.kp {S : List Nat} {w w' : World} (hk : Kp S w w') (hS : ∀ s ∈ S, ¬ Ty w s) (g : Nat) (h : Ty w g) : Ty w' g := by
  obtain ⟨c, T, fr, hh, hT⟩ := h
  exact ⟨c, T, fr, hk.heap hh (fun hm => hS g hm ⟨c, T, fr, hh, hT⟩), hT⟩
theorem FrC.ty {S : List Nat} {w w' : World} {cs : List Value} {fs : List Fr} (h : FrC (Ty w) w cs fs) (hk : Kp S w w') (hS : ∀ s ∈ S, ¬ Ty w s) : FrC (Ty w') w' cs fs :=
  (h.kp hk (fun g hg hm => hS g hm hg)).mono (Ty.kp hk hS)

theorem own_ty {w : World} {B e sz n : Nat} {v : Value} {xs : List Value} (h : Own w B e sz v n xs) (he : e = 5 ∨ e = 23) : BlkP (Ty w) v := fun g hg => by
  have hg' := own1_own hg
  rcases h.2 with ⟨h, _⟩ | ⟨g', cap, cur, fr, hv, _, hh, _⟩
  · rw [h] at hg'; cases hg'
  · rw [hv] at hg'; cases hg'; exact ⟨cur, e, fr, hh, he⟩
theorem OutR.frcTy {w : World} {B bat : Nat} {v : Value} {l : FL} (h : OutR w B bat v l) : FrC (Ty w) w (fcs l) (l.map Prod.fst) := by
  refine ⟨by rw [fcs_length, List.length_map], fun i hi => ?_⟩
  obtain ⟨iv, tv, h1, _, h3, _⟩ := h.frc.2 i hi
  rw [List.length_map] at hi
  obtain ⟨g1, _, us, g3, g4⟩ := h.its l[i] (List.getElem_mem hi)
  have hsp : l = l.take i ++ (l[i] :: l.drop (i + 1)) := by rw [← List.drop_eq_getElem_cons hi, List.take_append_drop]
  have e1 : fcs l = fcs (l.take i) ++ (fcs [l[i]] ++ fcs (l.drop (i + 1))) := by
    rw [← fcs_append, ← fcs_append]; exact congrArg fcs hsp
  refine ⟨l[i].2, .slice none 0 0, ?_, ?_, ?_, fun g hg => by cases hg⟩
  · rw [e1, List.drop_append, List.drop_of_length_le (by rw [fcs_length, List.length_take]; omega), List.nil_append, fcs_length, List.length_take, Nat.min_eq_left (by omega), Nat.sub_self, List.drop_zero, List.take_append_of_le_length (by rw [fcs_length]; simp), List.getElem_map]
    rfl
  · rw [List.getElem_map]
    exact ⟨us, Sl.of_own g3, own_ty g3 (.inr rfl), g4.1, fun j hj => by
      obtain ⟨u, a, b⟩ := g4.2.1 j hj
      exact ⟨u, a, OB.bs b, own_ty b (.inl rfl)⟩⟩
  · rw [List.getElem_map, g1]; exact OB.bs (e := 5) (base := 0) (Own.nil w 0 5 1)

/-- All that a link's steps hold in memory. -/
structure OM (w0 : World) (win bat : Nat) (ev : Int) (p mb rp : Nat) (v13 v14 v15 v16 : Value) (n : Nat) (clk nx : Int) (f : Sent) (xs : List It) (fs ks : List Fr) (tk : List Bool) (w : World) : Prop where
  kp : Kp [] w0 w
  snd : IsS w p mb n win bat ev clk f
  rcv : IsR w rp nx
  hp : w0.heap.size ≤ p
  hm : w0.heap.size ≤ mb
  hr : w0.heap.size ≤ rp
  its : ∃ cs, Own w w0.heap.size 51 2 v13 xs.length cs ∧ ItC (· < w0.heap.size) w cs xs
  frs : ∃ cs, Own w w0.heap.size 25 5 v14 fs.length cs ∧ FrC (Ty w) w cs fs
  aks : ∃ cs, Own w w0.heap.size 25 5 v15 ks.length cs ∧ FrC (Ty w) w cs ks
  apt : Apart v14 v15
  tkn : Own w w0.heap.size 4 1 v16 tk.length (tk.map .bool)

section
variable {w0 w w' : World} {win bat : Nat} {ev : Int} {p mb rp : Nat} {v13 v14 v15 v16 : Value} {n : Nat} {clk nx : Int} {f : Sent} {xs : List It} {fs ks : List Fr} {tk : List Bool}

theorem OM.at_nx {nx' : Int} (h : OM w0 win bat ev p mb rp v13 v14 v15 v16 n clk nx f xs fs ks tk w) (he : nx = nx') : OM w0 win bat ev p mb rp v13 v14 v15 v16 n clk nx' f xs fs ks tk w := he ▸ h
theorem OInv.at_nx {gone last : Nat} {nx' : Int} (h : OInv xs fs ks tk gone last nx) (he : nx = nx') : OInv xs fs ks tk gone last nx' := he ▸ h
theorem got_len8 (nx : Int) (g : Fr) : (got nx g).2.length ≤ 8 := by
  unfold got
  split
  · rename_i h
    obtain ⟨_, _, _, h4, _⟩ := may_1 h.2 h.1
    simp only
    split
    · simp
    · have := gotItems_len (nextOf nx g) g g.its 0
      omega
  · simp

theorem OM.keep (h : OM w0 win bat ev p mb rp v13 v14 v15 v16 n clk nx f xs fs ks tk w) (hk : Kp [] w w') : OM w0 win bat ev p mb rp v13 v14 v15 v16 n clk nx f xs fs ks tk w' := by
  obtain ⟨c1, o1, i1⟩ := h.its
  obtain ⟨c2, o2, i2⟩ := h.frs
  obtain ⟨c3, o3, i3⟩ := h.aks
  exact { h with kp := h.kp.trans hk, snd := h.snd.kp hk (by simp) (by simp), rcv := h.rcv.kp hk (by simp), its := ⟨c1, own_kp o1 hk (by simp), i1.kp hk (by simp)⟩, frs := ⟨c2, own_kp o2 hk (by simp), i2.ty hk (by simp)⟩, aks := ⟨c3, own_kp o3 hk (by simp), i3.ty hk (by simp)⟩, tkn := own_kp h.tkn hk (by simp) }

theorem OM.sender {n' : Nat} {clk' : Int} {f' : Sent} (h : OM w0 win bat ev p mb rp v13 v14 v15 v16 n clk nx f xs fs ks tk w) (hk : Kp [p, mb] w w') (hs : IsS w' p mb n' win bat ev clk' f') : OM w0 win bat ev p mb rp v13 v14 v15 v16 n' clk' nx f' xs fs ks tk w' := by
  obtain ⟨c1, o1, i1⟩ := h.its
  obtain ⟨c2, o2, i2⟩ := h.frs
  obtain ⟨c3, o3, i3⟩ := h.aks
  have hp := h.hp
  have hm := h.hm
  have hN : ∀ e, e ≠ 87 → ∀ s ∈ [p, mb], NotT w e s := fun e he s hs => by
    simp only [List.mem_cons, List.not_mem_nil, or_false] at hs
    rcases hs with rfl | rfl
    · exact cells_notT h.snd.cells (fun e' => he e'.symm)
    · exact map_notT h.snd.map e
  have hT : ∀ s ∈ [p, mb], ¬ Ty w s := fun s hs => notTy (hN _ (by decide) s hs) (hN _ (by decide) s hs)
  have hge : ∀ s ∈ [p, mb], w0.heap.size ≤ s := fun s hs => by simp at hs; omega
  exact { h with kp := h.kp.trans' hk (fun s hs => .inr (hge s hs)), snd := hs, rcv := h.rcv.kp hk (fun hs => hN 84 (by decide) _ hs _ _ h.rcv.1), its := ⟨c1, own_kpT o1 hk (hN _ (by decide)), i1.kp hk (fun g hg hs => by have := hge g hs; omega)⟩, frs := ⟨c2, own_kpT o2 hk (hN _ (by decide)), i2.ty hk hT⟩, aks := ⟨c3, own_kpT o3 hk (hN _ (by decide)), i3.ty hk hT⟩, tkn := own_kpT h.tkn hk (hN _ (by decide)) }

theorem OM.recv {nx' : Int} (h : OM w0 win bat ev p mb rp v13 v14 v15 v16 n clk nx f xs fs ks tk w) (hk : Kp [rp] w w') (hs : IsR w' rp nx') : OM w0 win bat ev p mb rp v13 v14 v15 v16 n clk nx' f xs fs ks tk w' := by
  obtain ⟨c1, o1, i1⟩ := h.its
  obtain ⟨c2, o2, i2⟩ := h.frs
  obtain ⟨c3, o3, i3⟩ := h.aks
  have hr := h.hr
  have hN : ∀ e, e ≠ 84 → ∀ s ∈ [rp], NotT w e s := fun e he s hs => by
    simp only [List.mem_cons, List.not_mem_nil, or_false] at hs
    subst hs
    exact cells_notT h.rcv.1 (fun e' => he e'.symm)
  have hT : ∀ s ∈ [rp], ¬ Ty w s := fun s hs => notTy (hN _ (by decide) s hs) (hN _ (by decide) s hs)
  have hge : ∀ s ∈ [rp], w0.heap.size ≤ s := fun s hs => by simp at hs; omega
  exact { h with kp := h.kp.trans' hk (fun s hs => .inr (hge s hs)), snd := h.snd.kp hk (fun hs => hN 87 (by decide) _ hs _ _ h.snd.cells) (fun hs => h.snd.map.not_cells h.rcv.1 (List.mem_singleton.1 hs).symm), rcv := hs, its := ⟨c1, own_kpT o1 hk (hN _ (by decide)), i1.kp hk (fun g hg hs => by have := hge g hs; omega)⟩, frs := ⟨c2, own_kpT o2 hk (hN _ (by decide)), i2.ty hk hT⟩, aks := ⟨c3, own_kpT o3 hk (hN _ (by decide)), i3.ty hk hT⟩, tkn := own_kpT h.tkn hk (hN _ (by decide)) }

theorem OM.anew {rp' : Nat} (h : OM w0 win bat ev p mb rp v13 v14 v15 v16 n clk nx f xs fs ks tk w) (hk : Kp [] w w') (hs : IsR w' rp' 0) (hr : w.heap.size ≤ rp') : OM w0 win bat ev p mb rp' v13 v14 v15 v16 n clk 0 f xs fs ks tk w' :=
  { h.keep hk with rcv := hs, hr := (by have := h.kp.size; omega) }

/-- A row's block is none of the others'. -/
theorem OM.off {B e sz m : Nat} {v : Value} {ys : List Value} (h : OM w0 win bat ev p mb rp v13 v14 v15 v16 n clk nx f xs fs ks tk w) (ho : Own w B e sz v m ys) (he1 : e ≠ 87) (he2 : e ≠ 84) :
    p ∉ v.ownBlock.toList ∧ mb ∉ v.ownBlock.toList ∧ rp ∉ v.ownBlock.toList := by
  refine ⟨fun hm => own_notT ho he1 _ hm _ _ h.snd.cells, fun hm => ?_, fun hm => own_notT ho he2 _ hm _ _ h.rcv.1⟩
  rcases ho.2 with ⟨h', _⟩ | ⟨g', cap, cur, fr, hv, _, hh', _⟩
  · rw [h'] at hm; simp [Value.ownBlock] at hm
  · rw [hv] at hm
    simp [Value.ownBlock] at hm
    rw [← hm] at hh'
    exact h.snd.map.not_cells hh' rfl

theorem OM.addFr {v14' : Value} {gs : List Fr} {c2 ds : List Value} (h : OM w0 win bat ev p mb rp v13 v14 v15 v16 n clk nx f xs fs ks tk w) (o2 : Own w w0.heap.size 25 5 v14 fs.length c2) (i2 : FrC (Ty w) w c2 fs) (hd : FrC (Ty w) w ds gs)
    (hk : Kp v14.ownBlock.toList w w') (ho : Own w' w0.heap.size 25 5 v14' (fs.length + gs.length) (c2 ++ ds)) (hx : ∀ b, v14'.ownBlock = some b → v14.ownBlock = some b ∨ w.heap.size ≤ b) :
    OM w0 win bat ev p mb rp v13 v14' v15 v16 n clk nx f xs (fs ++ gs) ks tk w' := by
  obtain ⟨c1, o1, i1⟩ := h.its
  obtain ⟨c3, o3, i3⟩ := h.aks
  obtain ⟨f1, f2, f3⟩ := h.off o2 (by decide) (by decide)
  have hT : ∀ s ∈ v14.ownBlock.toList, ¬ Ty w s := fun s hs => notTy (own_notT o2 (by decide) s hs) (own_notT o2 (by decide) s hs)
  have hge : ∀ s ∈ v14.ownBlock.toList, w0.heap.size ≤ s := fun s hs => (o2.lt s (by simpa using hs)).1
  exact { h with kp := h.kp.trans' hk (fun s hs => .inr (hge s hs)), snd := h.snd.kp hk f1 f2, rcv := h.rcv.kp hk f3, its := ⟨c1, own_kpT o1 hk (own_notT o2 (by decide)), i1.kp hk (fun g hg hs => by have := hge g hs; omega)⟩,
                 frs := ⟨c2 ++ ds, by rw [List.length_append]; exact ho, (i2.append hd).ty hk hT⟩, aks := ⟨c3, own_kp o3 hk (fun b hb hm => h.apt b (by simpa using hm) hb), i3.ty hk hT⟩,
                 apt := (fun b h1 h2 => by
                   rcases hx b h1 with h3 | h3
                   · exact h.apt b h3 h2
                   · have := (o3.lt b h2).2; omega), tkn := own_kpT h.tkn hk (own_notT o2 (by decide)) }

theorem OM.addAk {v15' : Value} {gs : List Fr} {c3 ds : List Value} (h : OM w0 win bat ev p mb rp v13 v14 v15 v16 n clk nx f xs fs ks tk w) (o3 : Own w w0.heap.size 25 5 v15 ks.length c3) (i3 : FrC (Ty w) w c3 ks) (hd : FrC (Ty w) w ds gs)
    (hk : Kp v15.ownBlock.toList w w') (ho : Own w' w0.heap.size 25 5 v15' (ks.length + gs.length) (c3 ++ ds)) (hx : ∀ b, v15'.ownBlock = some b → v15.ownBlock = some b ∨ w.heap.size ≤ b) :
    OM w0 win bat ev p mb rp v13 v14 v15' v16 n clk nx f xs fs (ks ++ gs) tk w' := by
  obtain ⟨c1, o1, i1⟩ := h.its
  obtain ⟨c2, o2, i2⟩ := h.frs
  obtain ⟨f1, f2, f3⟩ := h.off o3 (by decide) (by decide)
  have hT : ∀ s ∈ v15.ownBlock.toList, ¬ Ty w s := fun s hs => notTy (own_notT o3 (by decide) s hs) (own_notT o3 (by decide) s hs)
  have hge : ∀ s ∈ v15.ownBlock.toList, w0.heap.size ≤ s := fun s hs => (o3.lt s (by simpa using hs)).1
  exact { h with kp := h.kp.trans' hk (fun s hs => .inr (hge s hs)), snd := h.snd.kp hk f1 f2, rcv := h.rcv.kp hk f3, its := ⟨c1, own_kpT o1 hk (own_notT o3 (by decide)), i1.kp hk (fun g hg hs => by have := hge g hs; omega)⟩,
                 aks := ⟨c3 ++ ds, by rw [List.length_append]; exact ho, (i3.append hd).ty hk hT⟩, frs := ⟨c2, own_kp o2 hk (fun b hb hm => h.apt b hb (by simpa using hm)), i2.ty hk hT⟩,
                 apt := (fun b h1 h2 => by
                   rcases hx b h2 with h3 | h3
                   · exact h.apt b h1 h3
                   · have := (o2.lt b h1).2; omega), tkn := own_kpT h.tkn hk (own_notT o3 (by decide)) }

theorem OM.addIt {v13' u : Value} {x : It} {c1 : List Value} (h : OM w0 win bat ev p mb rp v13 v14 v15 v16 n clk nx f xs fs ks tk w) (o1 : Own w w0.heap.size 51 2 v13 xs.length c1) (i1 : ItC (· < w0.heap.size) w c1 xs) (hb : Bs w u x.b) (hu : BlkP (· < w0.heap.size) u)
    (hk : Kp v13.ownBlock.toList w w') (ho : Own w' w0.heap.size 51 2 v13' (xs.length + 1) (c1 ++ [.int .i64 x.q, u])) :
    OM w0 win bat ev p mb rp v13' v14 v15 v16 n clk nx f (xs ++ [x]) fs ks tk w' := by
  obtain ⟨c2, o2, i2⟩ := h.frs
  obtain ⟨c3, o3, i3⟩ := h.aks
  obtain ⟨f1, f2, f3⟩ := h.off o1 (by decide) (by decide)
  have hT : ∀ s ∈ v13.ownBlock.toList, ¬ Ty w s := fun s hs => notTy (own_notT o1 (by decide) s hs) (own_notT o1 (by decide) s hs)
  have hge : ∀ s ∈ v13.ownBlock.toList, w0.heap.size ≤ s := fun s hs => (o1.lt s (by simpa using hs)).1
  exact { h with kp := h.kp.trans' hk (fun s hs => .inr (hge s hs)), snd := h.snd.kp hk f1 f2, rcv := h.rcv.kp hk f3,
                 its := ⟨_, by rw [List.length_append]; exact ho, (i1.snoc hb hu).kp hk (fun g hg hs => by have := hge g hs; omega)⟩,
                 frs := ⟨c2, own_kpT o2 hk (own_notT o1 (by decide)), i2.ty hk hT⟩, aks := ⟨c3, own_kpT o3 hk (own_notT o1 (by decide)), i3.ty hk hT⟩, tkn := own_kpT h.tkn hk (own_notT o1 (by decide)) }

theorem OM.chTk {v16' : Value} {tk' : List Bool} (h : OM w0 win bat ev p mb rp v13 v14 v15 v16 n clk nx f xs fs ks tk w)
    (hk : Kp v16.ownBlock.toList w w') (ho : Own w' w0.heap.size 4 1 v16' tk'.length (tk'.map .bool)) :
    OM w0 win bat ev p mb rp v13 v14 v15 v16' n clk nx f xs fs ks tk' w' := by
  obtain ⟨c1, o1, i1⟩ := h.its
  obtain ⟨c2, o2, i2⟩ := h.frs
  obtain ⟨c3, o3, i3⟩ := h.aks
  have o4 := h.tkn
  obtain ⟨f1, f2, f3⟩ := h.off o4 (by decide) (by decide)
  have hT : ∀ s ∈ v16.ownBlock.toList, ¬ Ty w s := fun s hs => notTy (own_notT o4 (by decide) s hs) (own_notT o4 (by decide) s hs)
  have hge : ∀ s ∈ v16.ownBlock.toList, w0.heap.size ≤ s := fun s hs => (o4.lt s (by simpa using hs)).1
  exact { h with kp := h.kp.trans' hk (fun s hs => .inr (hge s hs)), snd := h.snd.kp hk f1 f2, rcv := h.rcv.kp hk f3, its := ⟨c1, own_kpT o1 hk (own_notT o4 (by decide)), i1.kp hk (fun g hg hs => by have := hge g hs; omega)⟩,
                 frs := ⟨c2, own_kpT o2 hk (own_notT o4 (by decide)), i2.ty hk hT⟩, aks := ⟨c3, own_kpT o3 hk (own_notT o4 (by decide)), i3.ty hk hT⟩, tkn := ho }
end
end Go.Proofs.YtddpefbpiehgeaaDoor
