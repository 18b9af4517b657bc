/- THE STAGE'S THEOREM: the walk of LinkOnce. -/
import Derived.Test.YtddpefbpiehgeaaDoorOnceM
namespace Go.Proofs.YtddpefbpiehgeaaDoor
open Go Go.RowKit
set_option maxRecDepth 100000
set_option linter.unusedVariables false
set_option linter.unusedSectionVars false
set_option linter.unusedSimpArgs false

theorem newSender_int (wi bi ei : Int) (win bat : Nat) (hw : wi = win) (hb : bi = bat) (w : World) (h1 : 1 ≤ win) (h2 : win ≤ 64) (h3 : 1 ≤ bat) (h4 : bat ≤ 8) (h5 : 1 ≤ ei) (h6 : ei ≤ 1000) :
    Calls Tryd.prog 27 #[.int .i64 wi, .int .i64 bi, .int .i64 ei] w fun e w' => ∃ p mb, e = .returned (.tuple #[.pointer (some ⟨p, 0, none⟩), .int .i64 0]) ∧ IsS w' p mb 0 win bat ei 0 (fun _ => none) ∧ w.heap.size ≤ p ∧ w.heap.size ≤ mb ∧ Kp [] w w' := by
  subst hw hb
  exact newSender_calls win bat ei w h1 h2 h3 h4 h5 h6

/-- A step of the script. -/
structure StpT where
  d : Int
  n : Int
  b : List UInt8
def StC (B : Nat) (w : World) (cs : List Value) (os : List StpT) : Prop :=
  cs.length = os.length * 3 ∧ ∀ i (h : i < os.length), ∃ u, cs[i * 3]? = some (.int .i64 os[i].d) ∧ cs[i * 3 + 1]? = some (.int .i64 os[i].n) ∧ cs[i * 3 + 2]? = some u ∧ Bs w u os[i].b ∧ BlkP (· < B) u
theorem StC.kp {B : Nat} {S : List Nat} {w w' : World} {cs : List Value} {os : List StpT} (h : StC B w cs os) (hk : Kp S w w') (hS : ∀ s ∈ S, B ≤ s) : StC B w' cs os :=
  ⟨h.1, fun i hi => by
    obtain ⟨u, h1, h2, h3, h4, h5⟩ := h.2 i hi
    exact ⟨u, h1, h2, h3, h4.kq hk (fun b hb hm => by have := hS b hm; have := h5 b hb; omega), h5⟩⟩
theorem st_at {B : Nat} {w : World} {a : Option Addr} {n cap : Nat} {cs : List Value} {os : List StpT} (hs : Sl w 3 (.slice a n cap) n cs) (ho : StC B w cs os) (hn : n = os.length) (i : Nat) (h : i < os.length) :
    ∃ b off ua uc, a = some ⟨b, off, none⟩ ∧ b < w.heap.size ∧ w.cell? ⟨b, off + i * 3, none⟩ = some (.int .i64 os[i].d) ∧ w.cell? ⟨b, off + i * 3 + 1, none⟩ = some (.int .i64 os[i].n) ∧ w.cell? ⟨b, off + i * 3 + 2, none⟩ = some (.slice ua os[i].b.length uc) ∧
      Bs w (.slice ua os[i].b.length uc) os[i].b ∧ BlkP (· < B) (.slice ua os[i].b.length uc) := by
  obtain ⟨a', cap', he, hc, _, h6, h7⟩ := Sl.form hs
  cases he
  obtain ⟨b, off, rfl, hlt⟩ := h6 (by omega)
  obtain ⟨u, p0, p1, p2, hb, hp⟩ := ho.2 i h
  obtain ⟨ua, uc, rfl, _⟩ := Sl.form hb
  have k := (h7 b off rfl).2
  exact ⟨b, off, ua, uc, rfl, hlt, k _ _ p0, k _ _ p1, k _ _ p2, hb, hp⟩
theorem cells3 {w : World} {b : Nat} {a0 a1 a2 : Value} {T : TypeId} {fr : Nat × Nat} (h : w.heap[b]? = some (.cells #[a0, a1, a2] T fr)) :
    w.cell? ⟨b, 0, none⟩ = some a0 ∧ w.cell? ⟨b, 1, none⟩ = some a1 ∧ w.cell? ⟨b, 2, none⟩ = some a2 :=
  ⟨cell_heap h 0, cell_heap h 1, cell_heap h 2⟩
theorem boolinfo : (Tryd.prog.info? 4).map (fun i => (i.zero, i.size, i.bytes)) = some (some (.bool false), 1, 1) := by kernel_rfl

set_option maxHeartbeats 40000000 in
theorem once_walk (a b c : Int) (os : List StpT) (sv : Value) (cs : List Value) (w : World) (hG : GH w) (hs : Sl w 3 sv os.length cs) (ho : StC w.heap.size w cs os) (hn : os.length ≤ 9223372036854775807) :
    Calls Tryd.prog 6 #[.int .i64 a, .int .i64 b, .int .i64 c, sv] w fun e w' => e = .returned (.bool true) ∧ Kp [] w w' := by
  obtain ⟨sa, sc, rfl, hsc, -⟩ := Sl.form hs
  obtain ⟨ra, hra, hra2⟩ := and_mask a 31 (by omega)
  obtain ⟨rb, hrb, hrb2⟩ := and_mask b 7 (by omega)
  obtain ⟨rc, hrc, hrc2⟩ := and_mask c 7 (by omega)
  have hra2' : bits BinOp.and IntKind.i64 a 31 = (ra : Int) := hra2
  have hrb2' : bits BinOp.and IntKind.i64 b 7 = (rb : Int) := hrb2
  have hrc2' : bits BinOp.and IntKind.i64 c 7 = (rc : Int) := hrc2
  clear hra2 hrb2 hrc2
  have hmk : ∀ w : World, (Instr.makeSlice 60 (.int .i64 1) (.int .i64 1)).run Tryd.prog w = .ok (.slice (some ⟨w.heap.size, 0, none⟩) 1 1) (w.alloc (.cells #[.bool false] 4)) := fun _ => by kernel_rfl
  go_enter Tryd.func6, Tryd.ntmps6
  go_wp2_with fail
  refine (awake_calls w hG).mono ?_
  rintro e w1 ⟨rfl, hk1⟩
  go_wp2_with fail
  refine (newSender_int _ _ _ (1 + ra) (1 + rb) (by omega) (by omega) w1 (by omega) (by omega) (by omega) (by omega) (by omega) (by omega)).mono ?_
  rintro e w2 ⟨p, mb, rfl, hs2, hp2, hm2, hk2⟩
  clear hra2' hrb2' hrc2'
  go_wp2_with fail
  refine (newReceiver_calls w2).mono ?_
  rintro e w3 ⟨rp, rfl, hr3, hrp, hk3⟩
  go_wp2_with fail
  have K12 := hk1.trans hk2
  have K3 := K12.trans hk3
  have hkA := (Kp.refl [] w3).alloc (.cells #[.bool false] 4)
  have hom : OM w (1 + ra) (1 + rb) (1 + (rc : Int)) p mb rp (.slice none 0 0) (.slice none 0 0) (.slice none 0 0) (.slice (some ⟨w3.heap.size, 0, none⟩) 1 1) 0 0 0 (fun _ => none) [] [] [] [false] (w3.alloc (.cells #[.bool false] 4)) :=
    { kp := K3.trans hkA, snd := (hs2.kp (hk3.trans hkA) (by simp) (by simp)), rcv := hr3.kp hkA (by simp), hp := (by have := hk1.size; omega), hm := (by have := hk1.size; omega), hr := (by have := K12.size; omega),
      its := ⟨[], Own.nil _ _ _ _, ItC.nil _ _⟩, frs := ⟨[], Own.nil _ _ _ _, FrC.nil _ _⟩, aks := ⟨[], Own.nil _ _ _ _, FrC.nil _ _⟩, apt := (fun g h _ => by cases h),
      tkn := ⟨rfl, .inr ⟨w3.heap.size, 1, _, (0, 0), rfl, K3.size, heap_alloc_new w3 _, .inl rfl, Nat.le_refl _, by unfold maxLen; omega, rfl, rfl⟩⟩ }
  clear hmk
  generalize w3.alloc (.cells #[.bool false] 4) = w4 at *
  clear hs2 hr3 hk1 hk2 hk3 hkA K12 K3
  generalize hwn : 1 + ra = win at *
  generalize hbt : 1 + rb = bat at *
  generalize hev : 1 + (rc : Int) = ev at *
  have hw1 : win ≤ 32 := by omega
  have hb1 : 1 ≤ bat ∧ bat ≤ 8 := by omega
  clear hwn hbt hev
  go_loopw [12, 13, 14, 15, 16, 17, 18, 19] (fun v12 v13 v14 v15 v16 v17 v18 v19 wr => ∃ (i rp n gone last : Nat) (clk nx : Int) (f : Sent) (xs : List It) (fs ks : List Fr) (tk : List Bool), v12 = .pointer (some ⟨rp, 0, none⟩) ∧ v17 = .int .i64 gone ∧ v18 = .int .i64 last ∧ v19 = .int .i64 i ∧
      OM w win bat ev p mb rp v13 v14 v15 v16 n clk nx f xs fs ks tk wr ∧ OInv xs fs ks tk gone last nx ∧ i ≤ 300 ∧ i ≤ os.length ∧ xs.length ≤ i ∧ fs.length ≤ 64 * i ∧ ks.length ≤ i ∧ n ≤ 64 * i ∧ clk ≤ i) (fun _ _ _ _ _ _ _ v19 _ => 300 - (intOf v19).toNat)
  case atStart => exact ⟨0, rp, 0, 0, 0, 0, 0, _, [], [], [], [false], rfl, rfl, rfl, rfl, hom, OInv.start, by omega, by omega, by simp, by simp, by simp, by omega, by omega⟩
  case round =>
    clear hom
    obtain ⟨i, rp, n, gone, last, clk, nx, f, xs, fs, ks, tk, rfl, rfl, rfl, rfl, hom, hinv, hi3, hio, hxl, hfl, hkl, hnl, hcl⟩ := hrel
    by_cases hlt : i < os.length
    · by_cases hl3 : i < 300
      · obtain ⟨sb, so, ba, bc, rfl, hsb, q0, q1, q2, hbB, hbP⟩ := st_at (hs.kp0 hom.kp) (ho.kp hom.kp (by simp)) rfl i hlt
        generalize os[i]'hlt = o at *
        obtain ⟨d, N, B⟩ := o
        simp only at q0 q1 q2 hbB hbP
        obtain ⟨m, hm, hm2⟩ := and_mask N 65535 (by omega)
        have hm2' : bits BinOp.and IntKind.i64 N 65535 = (m : Int) := hm2
        clear hm2
        have hi1 : (0 : Int) ≤ i ∧ (i : Int) < os.length ∧ (i : Int) < 300 := by omega
        obtain ⟨hi1, hi2, hi4⟩ := hi1
        have hkA := (Kp.refl [] wr).alloc (.cells #[.int .i64 d, .int .i64 N, .slice ba B.length bc] 62)
        have hhA := heap_alloc_new wr (.cells #[.int .i64 d, .int .i64 N, .slice ba B.length bc] 62)
        have hlA := alloc_lt wr (.cells #[.int .i64 d, .int .i64 N, .slice ba B.length bc] 62)
        have homA := hom.keep hkA
        have hbBA := hbB.kp0 hkA
        clear hom hbB
        obtain ⟨ci, oi, ii⟩ := homA.its
        obtain ⟨cf, of, jf⟩ := homA.frs
        obtain ⟨ck, ok, jk⟩ := homA.aks
        obtain ⟨ia, ic, rfl⟩ := own_form oi
        obtain ⟨fa, fc, rfl⟩ := own_form of
        obtain ⟨ka, kc, rfl⟩ := own_form ok
        obtain ⟨ta, tc, rfl⟩ := own_form homA.tkn
        have HO := Lib.hid homA
        have HI := Lib.hid hinv
        clear homA hinv
        by_cases hd0 : d = 0
        · have e0 : (d == 0) = true := by simpa using hd0
          clear hd0
          as_aux_lemma =>
          obtain ⟨_, _, he, hxc, _⟩ := Sl.form (Sl.of_own oi)
          cases he
          have hgl := HI.out.gl
          have hgl2 : (gone : Int) ≤ xs.length ∧ (xs.length : Int) ≤ ic := by omega
          obtain ⟨hgl2, hgl3⟩ := hgl2
          have hpt := Sl.part2 (Sl.of_own oi) gone hgl
          have hpi := ii.drop gone hgl
          by_cases hic : ic = gone
          · rw [if_pos hic, show ic - gone = 0 by omega] at hpt
            subst hic
            have hz : xs.length - ic = 0 := by omega
            rw [hz] at hpt
            have HZ := Lib.hid hz
            clear hz
            go_wp2_with fail
            generalize wr.alloc (.cells #[.int .i64 d, .int .i64 N, .slice ba B.length bc] 62) = wA at *

            clear q0 q1 q2
            have hoff := HO.out.off oi (by decide) (by decide)
            have hpp := HO.out.hp
            have hpm := HO.out.hm
            refine (tick_calls (fun g => g ≠ p ∧ g ≠ mb) p mb n win bat ev clk f _ _ (xs.drop ic) wA (by simp) (by simp) HO.out.snd (by omega) (by omega) (by rw [List.length_drop, HZ.out]; exact hpt) (fun g hg => ?_) (hpi.mono (fun g hg => ⟨by omega, by omega⟩)) (by rw [List.length_drop]; omega) (fun x hx => ?_)).mono ?_
            · have hgb := part2_blk (N := xs.length) (by rw [if_pos rfl, Nat.sub_self, HZ.out]; exact hg : own1 (.slice (if ic = ic then ia else ia.map (fun x => x.add (ic * 2))) (xs.length - ic) (ic - ic)) = some g)
              exact ⟨fun e => hoff.1 (by rw [← e]; simpa using hgb), fun e => hoff.2.1 (by rw [← e]; simpa using hgb)⟩
            · obtain ⟨j, hj⟩ := List.mem_iff_getElem?.1 hx
              rw [List.getElem?_drop] at hj
              obtain ⟨hj1, rfl⟩ := List.getElem?_eq_some_iff.1 hj
              have := HI.out.len _ hj1
              omega
            rintro e w5 ⟨v5, l5, n5, rfl, hout, hl5, hn5, hs5, hk5⟩
            obtain ⟨a5, c5, rfl⟩ := own_form hout.row
            have hom5 := HO.out.sender hk5 hs5
            obtain ⟨cf5, of5, jf5⟩ := hom5.frs
            have hfew := tick_few win bat (clk + 1) ev f (xs.drop ic)
            rw [← hl5, List.length_map] at hfew
            obtain ⟨i1, hi1', hy0, hy1, hy2⟩ := info_parts frinfo
            have hb9 := hom5.kp.size
            go_wp2_with (with_reducible refine stop_app ?_)
            unfold Stop
            refine wpList_app _ rfl _ _ 59 59 rfl w.heap.size 25 i1 _ 5 72 Tryd.underlying59 hi1' hy0 hy1 hy2 rfl (by omega) (.slice fa fs.length fc) fs.length cf5 rfl of5 (.slice a5 l5.length c5) l5.length _ rfl (Src.of_sl Tryd.underlying59 (Sl.of_own hout.row) hout.oneCell) (by omega) (by omega) hb9 ?_
            intro v8 w8 ho8 hg8 hx8
            obtain ⟨a8, c8, rfl⟩ := own_form ho8
            have hk8 : Kp (Value.slice fa fs.length fc).ownBlock.toList w5 w8 := (Kp.refl _ w5).grown hg8 (fun q hq => .inl (by simp [hq]))
            have hom8 := hom5.addFr of5 jf5 hout.frcTy hk8 (by rw [List.length_map]; exact ho8) hx8
            have hin8 := HI.out.tick win bat (clk + 1) ev f hb1.1 hb1.2 (by omega)
            rw [← hl5] at hin8
            have HOM := Lib.hid hom8
            have HIN := Lib.hid hin8
            have hfl9 : (fs ++ l5.map Prod.fst).length ≤ 64 * (i + 1) := by rw [List.length_append, List.length_map]; omega
            clear hom8 hin8 hom5 hout ho8 hg8 hx8 hk8 of5 jf5 hl5 hs5 hk5 oi of ok ii jf jk hpt hpi hoff
            have hgl9 := HIN.out.gl
            have htk9 := HIN.out.tkl
            have HTG := Lib.hid HIN.out.tkg
            have otk := HOM.out.tkn
            have hgb : (ic : Int) ≤ 300 ∧ (tk.length : Int) ≤ 301 := by omega
            obtain ⟨hgb, hgb2⟩ := hgb
            have HTK9 := Lib.hid htk9
            clear htk9
            go_wp2_with fail
            go_loop [27] (fun v27 => ∃ k : Nat, 1 ≤ k ∧ k ≤ ic + 1 ∧ v27 = .int .i64 k) (fun v27 => ic + 1 - (intOf v27).toNat)
            case atStart => exact ⟨1, by omega, by omega, rfl⟩
            case round =>
              as_aux_lemma =>
              obtain ⟨k, hk1, hk2, rfl⟩ := hrel
              by_cases hkg : k ≤ ic
              · have htk := HTG.out k hk1 hkg
                have hkl : k < tk.length := by have := HTK9.out; omega
                obtain ⟨tb, tcc, hte, -, -, htb⟩ := own_some otk (by omega)
                obtain rfl : ta = some ⟨tb, 0, none⟩ := by injection hte
                have hcell := Own.cellAt otk k (by omega)
                rw [List.getElem?_map, htk] at hcell
                simp only [Option.map_some] at hcell
                have hk3 : (0 : Int) ≤ k ∧ (k : Int) < tk.length ∧ (k : Int) ≤ ic := by omega
                obtain ⟨hk3, hk4, hk5⟩ := hk3
                have hk6 : decide ((tk.length : Int) ≤ (k : Int)) = false := by rw [decide_eq_false_iff_not]; omega
                clear htk hte
                go_wp2_with fail
                go_round
                case measure => simp [intOf]; omega
                case rel => exact ⟨k + 1, by omega, by omega, by go_num⟩
              · obtain rfl : k = ic + 1 := by omega
                have hd : decide (((ic + 1 : Nat) : Int) ≤ (ic : Int)) = false := by rw [decide_eq_false_iff_not]; omega
                go_wp2_with fail
                go_roundw
                case measure => simp [intOf]; omega
                case rel => exact ⟨i + 1, _, _, _, _, _, _, _, _, _, _, _, rfl, rfl, rfl, by go_num, HOM.out, HIN.out, by omega, by omega, by omega, by omega, by omega, by omega, by omega⟩

          · rw [if_neg hic] at hpt
            go_wp2_with fail
            generalize wr.alloc (.cells #[.int .i64 d, .int .i64 N, .slice ba B.length bc] 62) = wA at *

            clear q0 q1 q2
            have hoff := HO.out.off oi (by decide) (by decide)
            have hpp := HO.out.hp
            have hpm := HO.out.hm
            refine (tick_calls (fun g => g ≠ p ∧ g ≠ mb) p mb n win bat ev clk f _ _ (xs.drop gone) wA (by simp) (by simp) HO.out.snd (by omega) (by omega) (by rw [List.length_drop]; exact hpt) (fun g hg => ?_) (hpi.mono (fun g hg => ⟨by omega, by omega⟩)) (by rw [List.length_drop]; omega) (fun x hx => ?_)).mono ?_
            · have hgb := part2_blk (N := xs.length) (by rw [if_neg hic]; exact hg : own1 (.slice (if ic = gone then ia else ia.map (fun x => x.add (gone * 2))) (xs.length - gone) (ic - gone)) = some g)
              exact ⟨fun e => hoff.1 (by rw [← e]; simpa using hgb), fun e => hoff.2.1 (by rw [← e]; simpa using hgb)⟩
            · obtain ⟨j, hj⟩ := List.mem_iff_getElem?.1 hx
              rw [List.getElem?_drop] at hj
              obtain ⟨hj1, rfl⟩ := List.getElem?_eq_some_iff.1 hj
              have := HI.out.len _ hj1
              omega
            rintro e w5 ⟨v5, l5, n5, rfl, hout, hl5, hn5, hs5, hk5⟩
            obtain ⟨a5, c5, rfl⟩ := own_form hout.row
            have hom5 := HO.out.sender hk5 hs5
            obtain ⟨cf5, of5, jf5⟩ := hom5.frs
            have hfew := tick_few win bat (clk + 1) ev f (xs.drop gone)
            rw [← hl5, List.length_map] at hfew
            obtain ⟨i1, hi1', hy0, hy1, hy2⟩ := info_parts frinfo
            have hb9 := hom5.kp.size
            go_wp2_with (with_reducible refine stop_app ?_)
            unfold Stop
            refine wpList_app _ rfl _ _ 59 59 rfl w.heap.size 25 i1 _ 5 72 Tryd.underlying59 hi1' hy0 hy1 hy2 rfl (by omega) (.slice fa fs.length fc) fs.length cf5 rfl of5 (.slice a5 l5.length c5) l5.length _ rfl (Src.of_sl Tryd.underlying59 (Sl.of_own hout.row) hout.oneCell) (by omega) (by omega) hb9 ?_
            intro v8 w8 ho8 hg8 hx8
            obtain ⟨a8, c8, rfl⟩ := own_form ho8
            have hk8 : Kp (Value.slice fa fs.length fc).ownBlock.toList w5 w8 := (Kp.refl _ w5).grown hg8 (fun q hq => .inl (by simp [hq]))
            have hom8 := hom5.addFr of5 jf5 hout.frcTy hk8 (by rw [List.length_map]; exact ho8) hx8
            have hin8 := HI.out.tick win bat (clk + 1) ev f hb1.1 hb1.2 (by omega)
            rw [← hl5] at hin8
            have HOM := Lib.hid hom8
            have HIN := Lib.hid hin8
            have hfl9 : (fs ++ l5.map Prod.fst).length ≤ 64 * (i + 1) := by rw [List.length_append, List.length_map]; omega
            clear hom8 hin8 hom5 hout ho8 hg8 hx8 hk8 of5 jf5 hl5 hs5 hk5 oi of ok ii jf jk hpt hpi hoff
            have hgl9 := HIN.out.gl
            have htk9 := HIN.out.tkl
            have HTG := Lib.hid HIN.out.tkg
            have otk := HOM.out.tkn
            have hgb : (gone : Int) ≤ 300 ∧ (tk.length : Int) ≤ 301 := by omega
            obtain ⟨hgb, hgb2⟩ := hgb
            have HTK9 := Lib.hid htk9
            clear htk9
            go_wp2_with fail
            go_loop [27] (fun v27 => ∃ k : Nat, 1 ≤ k ∧ k ≤ gone + 1 ∧ v27 = .int .i64 k) (fun v27 => gone + 1 - (intOf v27).toNat)
            case atStart => exact ⟨1, by omega, by omega, rfl⟩
            case round =>
              as_aux_lemma =>
              obtain ⟨k, hk1, hk2, rfl⟩ := hrel
              by_cases hkg : k ≤ gone
              · have htk := HTG.out k hk1 hkg
                have hkl : k < tk.length := by have := HTK9.out; omega
                obtain ⟨tb, tcc, hte, -, -, htb⟩ := own_some otk (by omega)
                obtain rfl : ta = some ⟨tb, 0, none⟩ := by injection hte
                have hcell := Own.cellAt otk k (by omega)
                rw [List.getElem?_map, htk] at hcell
                simp only [Option.map_some] at hcell
                have hk3 : (0 : Int) ≤ k ∧ (k : Int) < tk.length ∧ (k : Int) ≤ gone := by omega
                obtain ⟨hk3, hk4, hk5⟩ := hk3
                have hk6 : decide ((tk.length : Int) ≤ (k : Int)) = false := by rw [decide_eq_false_iff_not]; omega
                clear htk hte
                go_wp2_with fail
                go_round
                case measure => simp [intOf]; omega
                case rel => exact ⟨k + 1, by omega, by omega, by go_num⟩
              · obtain rfl : k = gone + 1 := by omega
                have hd : decide (((gone + 1 : Nat) : Int) ≤ (gone : Int)) = false := by rw [decide_eq_false_iff_not]; omega
                go_wp2_with fail
                go_roundw
                case measure => simp [intOf]; omega
                case rel => exact ⟨i + 1, _, _, _, _, _, _, _, _, _, _, _, rfl, rfl, rfl, by go_num, HOM.out, HIN.out, by omega, by omega, by omega, by omega, by omega, by omega, by omega⟩
        · have e0 : (d == 0) = false := by simpa using hd0
          by_cases hd1 : d = 1
          · have e1 : (d == 1) = true := by simpa using hd1
            clear hd1 hd0
            as_aux_lemma =>
            by_cases hf0 : fs.length = 0
            · clear of jf
              generalize hFL : fs.length = FL at *
              subst hf0
              have HFL := Lib.hid hFL
              clear hFL
              go_wp2_with fail
              generalize wr.alloc (.cells #[.int .i64 d, .int .i64 N, .slice ba B.length bc] 62) = wA at *

              have HOM := HO
              have HIN := HI
              have hFL' := HFL.out
              have hgl9 := HIN.out.gl
              have htk9 := HIN.out.tkl
              have HTG := Lib.hid HIN.out.tkg
              have otk := HOM.out.tkn
              have hgb : (gone : Int) ≤ 300 ∧ (tk.length : Int) ≤ 301 := by omega
              obtain ⟨hgb, hgb2⟩ := hgb
              have HTK9 := Lib.hid htk9
              clear htk9
              go_loop [27] (fun v27 => ∃ k : Nat, 1 ≤ k ∧ k ≤ gone + 1 ∧ v27 = .int .i64 k) (fun v27 => gone + 1 - (intOf v27).toNat)
              case atStart => exact ⟨1, by omega, by omega, rfl⟩
              case round =>
                as_aux_lemma =>
                obtain ⟨k, hk1, hk2, rfl⟩ := hrel
                by_cases hkg : k ≤ gone
                · have htk := HTG.out k hk1 hkg
                  have hkl : k < tk.length := by have := HTK9.out; omega
                  obtain ⟨tb, tcc, hte, -, -, htb⟩ := own_some otk (by omega)
                  obtain rfl : ta = some ⟨tb, 0, none⟩ := by injection hte
                  have hcell := Own.cellAt otk k (by omega)
                  rw [List.getElem?_map, htk] at hcell
                  simp only [Option.map_some] at hcell
                  have hk3 : (0 : Int) ≤ k ∧ (k : Int) < tk.length ∧ (k : Int) ≤ gone := by omega
                  obtain ⟨hk3, hk4, hk5⟩ := hk3
                  have hk6 : decide ((tk.length : Int) ≤ (k : Int)) = false := by rw [decide_eq_false_iff_not]; omega
                  clear htk hte
                  go_wp2_with fail
                  go_round
                  case measure => simp [intOf]; omega
                  case rel => exact ⟨k + 1, by omega, by omega, by go_num⟩
                · obtain rfl : k = gone + 1 := by omega
                  have hd : decide (((gone + 1 : Nat) : Int) ≤ (gone : Int)) = false := by rw [decide_eq_false_iff_not]; omega
                  go_wp2_with fail
                  go_roundw
                  case measure => simp [intOf]; omega
                  case rel => exact ⟨i + 1, _, _, _, _, _, _, _, _, _, _, _, rfl, rfl, rfl, by go_num, HOM.out, HIN.out, by omega, by omega, by omega, by omega, by omega, by omega, by omega⟩

            · have hmj : m % fs.length < fs.length := Nat.mod_lt _ (by omega)
              have hfkn : (1 : Int) ≤ fs.length ∧ (0 : Int) ≤ (m : Int) % fs.length ∧ (m : Int) % fs.length < fs.length ∧ ((m : Int) % fs.length).toNat = m % fs.length ∧ (0 : Int) ≤ m ∧ (m : Int) ≤ 65535 := by
                have h1 : (m : Int) % fs.length = ((m % fs.length : Nat) : Int) := by simp
                rw [h1]; omega
              obtain ⟨hfkn1, hfkn2, hfkn3, hfkn4, hfkn5, hfkn6⟩ := hfkn
              have hgm := List.getElem_mem hmj
              have hfo := HI.out.frs _ hgm
              obtain ⟨fb, fo, iv, tv, hfe, hfb, g0, g1, g2, g3, g4, hgR, hgB, hgP⟩ := frame_at (Sl.of_own of) jf rfl (m % fs.length) hmj
              obtain rfl : fa = some ⟨fb, fo, none⟩ := hfe
              have hgot := HI.out.got _ hgm
              generalize fs[m % fs.length]'hmj = g at *
              obtain ⟨ga, gc, rfl, -⟩ := hgR.rws.form
              obtain ⟨gt, gtc, rfl, -⟩ := Sl.form hgB
              have hfkd : ((fs.length : Int) == 0) = false := by rw [beq_eq_false_iff_ne]; omega
              have hfne : fs ≠ [] := fun h => by rw [h] at hf0; exact hf0 rfl
              have hfkp : 0 < fs.length := by omega
              have hfew := hfo.few
              have htop := hfo.top
              have hbare := hfo.bare
              have hgn : ¬ Ty (wr.alloc (.cells #[.int .i64 d, .int .i64 N, .slice ba B.length bc] 62)) rp := notTy (cells_notT HO.out.rcv.1 (by decide)) (cells_notT HO.out.rcv.1 (by decide))
              have hgc := got_calls rp nx g (.slice ga g.its.length gc) (.slice gt g.t.length gtc) _ _ hgn HO.out.rcv hgR hgB (by omega) (by rw [hbare]; simp) (by omega)
              have HGC := Lib.hid hgc
              have HGOT := Lib.hid hgot
              have HBARE := Lib.hid hbare
              unfold fcells at HGC
              clear hgc hgot hbare hfo hgR hgB of jf
              go_wp2_with fail
              generalize wr.alloc (.cells #[.int .i64 d, .int .i64 N, .slice ba B.length bc] 62) = wA at *

              clear q0 q1 q2
              have hx0 := HGC.out
              have hGt : HGC = HGC := rfl
              refine hx0.mono ?_
              rintro e w5 ⟨v5, lcs, rfl, ho5, hit5, hr5, hk5⟩
              clear hx0 hGt HGC
              have hom5 := HO.out.recv hk5 hr5
              obtain ⟨hin5, hgk⟩ := HGOT.out
              have HGK := Lib.hid hgk
              have hl8 := got_len8 nx g
              have hrpA := lt_of_heap HO.out.rcv.1
              have htbA : ∀ tb, ta = some ⟨tb, 0, none⟩ → tb < wA.heap.size := fun tb h => (HO.out.tkn.lt tb (by rw [h]; rfl)).2
              have HTB := Lib.hid htbA
              clear htbA hgk HGOT g0 g1 g2 g3 g4
              generalize got nx g = r at *
              obtain ⟨N1, l⟩ := r
              simp only at hr5 hom5 hin5 HGK hl8 ho5 hit5
              obtain ⟨a5, c5, rfl⟩ := own_form ho5
              go_wp2_with fail
              clear hk5 hr5 oi ok ii jk
              have hom5' := hom5.at_nx (nx' := N1 + ((0 : Nat) : Int)) (by simp)
              have hin5' := hin5.at_nx (nx' := N1 + ((0 : Nat) : Int)) (by simp)
              obtain ⟨wo, rfl⟩ : ∃ wo : World, wo = wr := ⟨_, rfl⟩
              go_loopw [18, 23] (fun v18 v23 wq => ∃ (k last2 : Nat) (tk2 : List Bool), k ≤ l.length ∧ v18 = .int .i64 last2 ∧ v23 = .int .i64 k ∧ tk2.length = tk.length ∧ OM w win bat ev p mb rp (.slice ia xs.length ic) (.slice (some ⟨fb, fo, none⟩) fs.length fc) (.slice ka ks.length kc) (.slice ta tk.length tc) n clk (N1 + (k : Int)) f xs fs ks tk2 wq ∧ OInv xs fs ks tk2 gone last2 (N1 + (k : Int)) ∧
                  Own wq wA.heap.size 51 2 (.slice a5 l.length c5) l.length lcs ∧ ItC (wA.heap.size ≤ ·) wq lcs l) (fun _ v23 _ => l.length - (intOf v23).toNat)
              case atStart => exact ⟨0, last, tk, by omega, rfl, rfl, rfl, hom5', hin5', ho5, hit5⟩
              case round =>
                as_aux_lemma =>
                clear hom5 hin5 hom5' hin5' ho5 hit5
                obtain ⟨k, last2, tk2, hkl2, rfl, rfl, htl2, hom2, hin2, hrow, hitr⟩ := hrel
                by_cases hkx : k < l.length
                · obtain ⟨hq1, hq2, hq3', hj, hbe⟩ := HGK.out k hkx
                  obtain ⟨lb, lo, lu, lc, hle, hlb, hlq, hlv, hls, -⟩ := item_at (Sl.of_own hrow) hitr rfl k hkx
                  obtain rfl : a5 = some ⟨lb, lo, none⟩ := hle
                  obtain ⟨ci2, oi2, ii2⟩ := hom2.its
                  obtain ⟨xb, xo, xu, xc, hxe, hxb, hxq, hxv, hxs, -⟩ := item_at (Sl.of_own oi2) ii2 rfl ((N1 - 1).toNat + k) hj
                  obtain rfl : ia = some ⟨xb, xo, none⟩ := hxe
                  rw [hbe] at hxv hxs
                  obtain ⟨qn, hqn⟩ : ∃ qn : Nat, l[k].q = (qn : Int) := ⟨l[k].q.toNat, by omega⟩
                  rw [hqn] at hlq
                  have hqk : (N1 - 1).toNat + k = qn - 1 := by omega
                  rw [hqk] at hxv hj
                  have hqx : qn ≤ xs.length ∧ 1 ≤ qn := by omega
                  have hNq : N1 + (k : Int) = qn := by omega
                  have HNQ := Lib.hid hNq
                  have hom2' := hom2.at_nx hNq
                  have hin2' := hin2.at_nx hNq
                  have hts := hin2'.tests (by omega)
                  generalize l[k].b = bx at *
                  have hxl300 : xs.length ≤ 300 := by omega
                  have hkA2 := (Kp.refl [] wr).alloc (.cells #[.int .i64 qn, .slice lu bx.length lc] 51)
                  have h24 := heap_alloc_new wr (.cells #[.int .i64 qn, .slice lu bx.length lc] 51)
                  have hl24 := alloc_lt wr (.cells #[.int .i64 qn, .slice lu bx.length lc] 51)
                  have homT := hom2'.keep hkA2
                  have hrowT := own_kp hrow hkA2 (by simp)
                  have hitT := hitr.kp hkA2 (by simp)
                  have hxvT : (wr.alloc (.cells #[.int .i64 qn, .slice lu bx.length lc] 51)).cell? ⟨xb, xo + (qn - 1) * 2 + 1, none⟩ = some (.slice xu bx.length xc) := by rw [hkA2.cells0.1 _ _ hxb]; exact hxv
                  have hlsT := hls.kp0 hkA2
                  have hxsT := hxs.kp0 hkA2
                  have hxbT : xb < (wr.alloc (.cells #[.int .i64 qn, .slice lu bx.length lc] 51)).heap.size := Nat.lt_of_lt_of_le hxb hkA2.size
                  have hki : (0 : Int) ≤ k ∧ (k : Int) < l.length ∧ (l.length : Int) ≤ 8 := by omega
                  obtain ⟨hki1, hki2, hki3⟩ := hki
                  have hq5 : decide (qn ≤ last2) = false := by rw [decide_eq_false_iff_not]; omega
                  have hq6 : decide (xs.length < qn) = false := by rw [decide_eq_false_iff_not]; omega
                  have hq5' : decide ((qn : Int) ≤ (last2 : Int)) = false := by rw [decide_eq_false_iff_not]; omega
                  have hq6' : decide ((xs.length : Int) < (qn : Int)) = false := by rw [decide_eq_false_iff_not]; omega
                  have hq7 : (0 : Int) ≤ (qn : Int) - 1 ∧ (qn : Int) - 1 < xs.length ∧ ((qn : Int) - 1).toNat = qn - 1 ∧ (qn : Int) ≤ 300 ∧ (1 : Int) ≤ qn := by omega
                  obtain ⟨hq7, hq8, hq9, hq10, hq11⟩ := hq7
                  have hbb : (bx == bx) = true := by simp
                  have HOT := Lib.hid homT
                  have HROW := Lib.hid hrowT
                  have HITR := Lib.hid hitT
                  have HTS := Lib.hid hts
                  have hin2 := hin2'
                  have hglx := hin2.gl
                  have hlsx := hin2.ls
                  clear hom2 hom2' hin2' hrow hitr homT hrowT hitT hts oi2 ii2 hqn hqk hNq hq1 hq2 hq3' hbe hj hxv hxs hls hxq
                  have HIN2 := Lib.hid hin2
                  clear hin2
                  have hd0' : decide ((0 : Int) ≤ (qn : Int)) = true := by simp
                  clear hd0'
                  go_wp2_with fail
                  generalize hwt : wr.alloc (.cells #[.int .i64 qn, .slice lu bx.length lc] 51) = wt at *
                  generalize htb : wr.heap.size = tb24 at *
                  clear hwt htb hlq hlv
                  have P24 := Lib.hid (show wt.drew.cell? ⟨tb24, 0, none⟩ = some (.int .i64 (qn : Int)) from cell_heap (((Kp.refl [] wt).drew).heap h24 (by simp)) 0)
                  have L24 := Lib.hid hl24
                  have p0 := cell_heap h24 0
                  have p1 := cell_heap h24 1
                  simp only [List.getElem?_toArray, List.getElem?_cons_zero, List.getElem?_cons_succ] at p0 p1
                  have hcx : ∀ u : Ag wt ([tb24, xb] ++ ((Value.slice lu bx.length lc).ownBlock.toList ++ (Value.slice xu bx.length xc).ownBlock.toList)), (convert 23 9 (.slice lu bx.length lc)).run Tryd.prog u.w = .ok (.string ⟨bx.toArray⟩) u.w := fun u => b2sc (Bs.ag hlsT u (fun b hb => by simp [hb]))
                  have hcy : ∀ u : Ag wt ([tb24, xb] ++ ((Value.slice lu bx.length lc).ownBlock.toList ++ (Value.slice xu bx.length xc).ownBlock.toList)), (convert 23 9 (.slice xu bx.length xc)).run Tryd.prog u.w = .ok (.string ⟨bx.toArray⟩) u.w := fun u => b2sc (Bs.ag hxsT u (fun b hb => by simp [hb]))
                  have hS : Gr wt ([tb24, xb] ++ ((Value.slice lu bx.length lc).ownBlock.toList ++ (Value.slice xu bx.length xc).ownBlock.toList)) wt.drew := Gr.of (fun _ _ => rfl)
                  generalize (Value.slice lu bx.length lc).ownBlock.toList ++ (Value.slice xu bx.length xc).ownBlock.toList = M at *
                  simp only [List.cons_append, List.nil_append] at hcx hcy hS
                  by_cases hl0 : 0 < last2
                  · have hq12 : decide ((0 : Int) < (last2 : Int)) = true := by rw [decide_eq_true_eq]; omega
                    have hq12' : decide (0 < last2) = true := by rw [decide_eq_true_eq]; omega
                    have hq13 : (0 : Int) < (last2 : Int) ∧ (last2 : Int) ≤ 300 := by omega
                    obtain ⟨hq13, hq16⟩ := hq13
                    by_cases hl1 : (last2 : Int) + 1 < qn
                    · as_aux_lemma =>
                      have hq14 : decide ((last2 : Int) + 1 < (qn : Int)) = true := by rw [decide_eq_true_eq]; exact hl1
                      have hq14' : decide (last2 + 1 < qn) = true := by rw [decide_eq_true_eq]; omega
                      have hq15 : decide ((gone : Int) < (qn : Int) - 1) = false := by rw [decide_eq_false_iff_not]; have := HTS.out; omega
                      have hq17 : (qn : Int) - 1 ≤ gone := by have := HTS.out; omega
                      have hws1 : IntKind.i64.wrap ((qn : Int) - 1) = (qn : Int) - 1 := IntWalk.i64_in _ (by omega)
                      have hws2 : IntKind.i64.wrap ((last2 : Int) + 1) = (last2 : Int) + 1 := IntWalk.i64_in _ (by omega)
                      refine wp_plan (.H 0 (.H 1 (.H 2 (.H 3 (.H 4 (.H 5 (.H 6 (.H 7 (.H 8 (.H 9 (.H 10 (.H 11 (.H 12 (.H 13 (.H 14 (.H 15 (.H 16 (.H 17 (.H 18 (.H 19 (.H 20 (.H 21 (.H 22 (.H 23 (.H 24 (.H 25 (.H 26 (.H 27 (.H 28 (.H 29 (.H 30 (.H 31 (.H 32 (.H 33 (.H 34 (.H 35 (.H 36 (.H 37 (.H 38 (.E 39 true (.E 40 false (.E 41 false (.E 42 false .Z))))))))))))))))))))))))))))))))))))))))))) (Gr wt (tb24 :: xb :: M)) (by as_aux_lemma => kernel_rfl) (by as_aux_lemma => kernel_rfl) ?_
                      repeat (first | (refine plan_H rfl hS (fun K hK => ?_); go_simp; refine hK _ ?_; clear hK K) | (refine plan_E rfl (fun K hK => ?_); go_simp; (first | refine hK _ _ (fun _ => hS) ?_ | refine hK _ _ nofun ?_); clear hK K))
                      refine plan_Z ?_
                      clear hcx hcy hS hws1 hws2

                      have hin2 := HIN2.out
                      have hkd := (Kp.refl [] wt).drew
                      have homD := HOT.out.keep hkd
                      have otD := homD.tkn
                      rw [← htl2] at otD
                      have hqtk : qn < tk2.length := by have := hin2.tkl; omega
                      obtain ⟨tb, tcc, hte, htcc, -, htbl⟩ := own_some otD (by omega)
                      obtain rfl : ta = some ⟨tb, 0, none⟩ := by injection hte
                      obtain rfl : tc = tcc := by injection hte
                      have htc0 : ∃ y, wt.drew.cell? ⟨tb, qn, none⟩ = some y := by
                        have := Own.cellAt otD qn (by omega)
                        rw [List.getElem?_map, List.getElem?_eq_getElem hqtk] at this
                        exact ⟨_, this⟩
                      obtain ⟨y, htc0⟩ := htc0
                      have htf0 := Own.frozenAt otD qn (by omega)
                      have hq3 : (0 : Int) ≤ qn ∧ (qn : Int) < tk.length := by omega
                      obtain ⟨hq3, hq4⟩ := hq3
                      have hst := Own.stored otD qn (.bool true)
                      have hks : Kp [tb] wt.drew (wt.drew.setCell ⟨tb, qn, none⟩ (.bool true)) := (Kp.refl [tb] _).setCell (.inl (by simp)) _
                      have hso : Own (wt.drew.setCell ⟨tb, qn, none⟩ (.bool true)) w.heap.size 4 1 (.slice (some ⟨tb, 0, none⟩) tk2.length tc) (tk2.set qn true).length ((tk2.set qn true).map .bool) := by
                        rw [List.map_set, List.length_set]; exact hst
                      have homS := homD.chTk (by simpa [Value.ownBlock] using hks) hso
                      have hoc2 : wt.drew.setCell ⟨tb, qn, none⟩ (.bool true) = wt.drew.setCell ⟨tb, qn, none⟩ (.bool true) := rfl
                      have hrowD := own_kp HROW.out hkd (by simp)
                      have hitD := HITR.out.kp hkd (by simp)
                      have hrowS := own_kpT hrowD hks (own_notT (v := .slice (some ⟨tb, 0, none⟩) tk2.length tc) otD (by decide))
                      have hitS := hitD.kp hks (fun g hg hm => by have := HTB.out tb rfl; simp at hm; omega)
                      have h24D := hkd.heap h24 (by simp)
                      have h24S := hks.heap h24D (fun hm => own_notT otD (e' := 51) (by decide) tb (by simp [Value.ownBlock]) _ _ (by have h := h24D; rw [List.mem_singleton.1 hm] at h; exact h))
                      have HSTO := Lib.hid hst
                      have HSO := Lib.hid hso
                      have HOS := Lib.hid homS
                      have HRS := Lib.hid hrowS
                      have HIS := Lib.hid hitS
                      clear hst hso homS homD otD hrowS hitS hrowD hitD hkd h24 h24D hoc2
                      obtain ⟨p240, p241⟩ : (wt.drew.setCell ⟨tb, qn, none⟩ (.bool true)).cell? ⟨tb24, 0, none⟩ = some (.int .i64 (qn : Int)) ∧ tb24 < (wt.drew.setCell ⟨tb, qn, none⟩ (.bool true)).heap.size := ⟨cell_heap h24S 0, lt_of_heap h24S⟩
                      have p242 : wt.drew.cell? ⟨tb24, 0, none⟩ = some (.int .i64 (qn : Int)) := P24.out
                      have p243 : tb24 < wt.heap.size := L24.out
                      go_wp2_with fail
                      have hrs := HOS.out.rcv
                      refine (take_calls rp (qn : Int) (qn : Int) _ hrs (by omega) (by omega)).mono ?_
                      rintro e w7 ⟨rfl, hr7, hk7⟩
                      have htn : takeN (qn : Int) (qn : Int) = (qn : Int) + 1 := by unfold takeN; rw [if_pos (by omega)]
                      rw [htn] at hr7
                      have hom7 := HOS.out.recv hk7 hr7
                      have hrow7 := own_kpT HRS.out hk7 (fun s hs => by simp at hs; subst hs; exact cells_notT hrs.1 (by decide))
                      have hit7 := HIS.out.kp hk7 (fun g hg hm => by simp at hm; omega)
                      have hin7 := hin2.take (by omega) (by omega)
                      rw [Int.toNat_natCast] at hin7
                      have hlen7 : (tk2.set qn true).length = tk2.length := by simp
                      have HOM7 := Lib.hid hom7
                      have HIN7 := Lib.hid hin7
                      clear hom7 hin7 hin2 htn hlen7 hrs
                      go_wp2_with fail
                      go_roundw
                      case measure => simp [intOf]; omega
                      case rel => exact ⟨k + 1, qn, tk2.set qn true, by omega, rfl, by go_num, by rw [List.length_set]; exact htl2, by rw [← htl2]; exact HOM7.out.at_nx (by have := HNQ.out; omega), HIN7.out.at_nx (by have := HNQ.out; omega), hrow7, hit7⟩

                    · as_aux_lemma =>
                      have hq14 : decide ((last2 : Int) + 1 < (qn : Int)) = false := by rw [decide_eq_false_iff_not]; exact hl1
                      have hq14' : decide (last2 + 1 < qn) = false := by rw [decide_eq_false_iff_not]; omega
                      have hws1 : IntKind.i64.wrap ((qn : Int) - 1) = (qn : Int) - 1 := IntWalk.i64_in _ (by omega)
                      have hws2 : IntKind.i64.wrap ((last2 : Int) + 1) = (last2 : Int) + 1 := IntWalk.i64_in _ (by omega)
                      refine wp_plan (.H 0 (.H 1 (.H 2 (.H 3 (.H 4 (.H 5 (.H 6 (.H 7 (.H 8 (.H 9 (.H 10 (.H 11 (.H 12 (.H 13 (.H 14 (.H 15 (.H 16 (.H 17 (.H 18 (.H 19 (.H 20 (.H 21 (.H 22 (.H 23 (.H 24 (.H 25 (.H 26 (.H 27 (.H 28 (.H 29 (.H 30 (.H 31 (.H 32 (.H 33 (.H 34 (.H 35 (.H 36 (.H 37 (.H 38 (.E 39 true (.E 40 false (.E 41 false (.E 42 false .Z))))))))))))))))))))))))))))))))))))))))))) (Gr wt (tb24 :: xb :: M)) (by as_aux_lemma => kernel_rfl) (by as_aux_lemma => kernel_rfl) ?_
                      repeat (first | (refine plan_H rfl hS (fun K hK => ?_); go_simp; refine hK _ ?_; clear hK K) | (refine plan_E rfl (fun K hK => ?_); go_simp; (first | refine hK _ _ (fun _ => hS) ?_ | refine hK _ _ nofun ?_); clear hK K))
                      refine plan_Z ?_
                      clear hcx hcy hS hws1 hws2

                      have hin2 := HIN2.out
                      have hkd := (Kp.refl [] wt).drew
                      have homD := HOT.out.keep hkd
                      have otD := homD.tkn
                      rw [← htl2] at otD
                      have hqtk : qn < tk2.length := by have := hin2.tkl; omega
                      obtain ⟨tb, tcc, hte, htcc, -, htbl⟩ := own_some otD (by omega)
                      obtain rfl : ta = some ⟨tb, 0, none⟩ := by injection hte
                      obtain rfl : tc = tcc := by injection hte
                      have htc0 : ∃ y, wt.drew.cell? ⟨tb, qn, none⟩ = some y := by
                        have := Own.cellAt otD qn (by omega)
                        rw [List.getElem?_map, List.getElem?_eq_getElem hqtk] at this
                        exact ⟨_, this⟩
                      obtain ⟨y, htc0⟩ := htc0
                      have htf0 := Own.frozenAt otD qn (by omega)
                      have hq3 : (0 : Int) ≤ qn ∧ (qn : Int) < tk.length := by omega
                      obtain ⟨hq3, hq4⟩ := hq3
                      have hst := Own.stored otD qn (.bool true)
                      have hks : Kp [tb] wt.drew (wt.drew.setCell ⟨tb, qn, none⟩ (.bool true)) := (Kp.refl [tb] _).setCell (.inl (by simp)) _
                      have hso : Own (wt.drew.setCell ⟨tb, qn, none⟩ (.bool true)) w.heap.size 4 1 (.slice (some ⟨tb, 0, none⟩) tk2.length tc) (tk2.set qn true).length ((tk2.set qn true).map .bool) := by
                        rw [List.map_set, List.length_set]; exact hst
                      have homS := homD.chTk (by simpa [Value.ownBlock] using hks) hso
                      have hoc2 : wt.drew.setCell ⟨tb, qn, none⟩ (.bool true) = wt.drew.setCell ⟨tb, qn, none⟩ (.bool true) := rfl
                      have hrowD := own_kp HROW.out hkd (by simp)
                      have hitD := HITR.out.kp hkd (by simp)
                      have hrowS := own_kpT hrowD hks (own_notT (v := .slice (some ⟨tb, 0, none⟩) tk2.length tc) otD (by decide))
                      have hitS := hitD.kp hks (fun g hg hm => by have := HTB.out tb rfl; simp at hm; omega)
                      have h24D := hkd.heap h24 (by simp)
                      have h24S := hks.heap h24D (fun hm => own_notT otD (e' := 51) (by decide) tb (by simp [Value.ownBlock]) _ _ (by have h := h24D; rw [List.mem_singleton.1 hm] at h; exact h))
                      have HSTO := Lib.hid hst
                      have HSO := Lib.hid hso
                      have HOS := Lib.hid homS
                      have HRS := Lib.hid hrowS
                      have HIS := Lib.hid hitS
                      clear hst hso homS homD otD hrowS hitS hrowD hitD hkd h24 h24D hoc2
                      obtain ⟨p240, p241⟩ : (wt.drew.setCell ⟨tb, qn, none⟩ (.bool true)).cell? ⟨tb24, 0, none⟩ = some (.int .i64 (qn : Int)) ∧ tb24 < (wt.drew.setCell ⟨tb, qn, none⟩ (.bool true)).heap.size := ⟨cell_heap h24S 0, lt_of_heap h24S⟩
                      have p242 : wt.drew.cell? ⟨tb24, 0, none⟩ = some (.int .i64 (qn : Int)) := P24.out
                      have p243 : tb24 < wt.heap.size := L24.out
                      go_wp2_with fail
                      have hrs := HOS.out.rcv
                      refine (take_calls rp (qn : Int) (qn : Int) _ hrs (by omega) (by omega)).mono ?_
                      rintro e w7 ⟨rfl, hr7, hk7⟩
                      have htn : takeN (qn : Int) (qn : Int) = (qn : Int) + 1 := by unfold takeN; rw [if_pos (by omega)]
                      rw [htn] at hr7
                      have hom7 := HOS.out.recv hk7 hr7
                      have hrow7 := own_kpT HRS.out hk7 (fun s hs => by simp at hs; subst hs; exact cells_notT hrs.1 (by decide))
                      have hit7 := HIS.out.kp hk7 (fun g hg hm => by simp at hm; omega)
                      have hin7 := hin2.take (by omega) (by omega)
                      rw [Int.toNat_natCast] at hin7
                      have hlen7 : (tk2.set qn true).length = tk2.length := by simp
                      have HOM7 := Lib.hid hom7
                      have HIN7 := Lib.hid hin7
                      clear hom7 hin7 hin2 htn hlen7 hrs
                      go_wp2_with fail
                      go_roundw
                      case measure => simp [intOf]; omega
                      case rel => exact ⟨k + 1, qn, tk2.set qn true, by omega, rfl, by go_num, by rw [List.length_set]; exact htl2, by rw [← htl2]; exact HOM7.out.at_nx (by have := HNQ.out; omega), HIN7.out.at_nx (by have := HNQ.out; omega), hrow7, hit7⟩

                  · as_aux_lemma =>
                    have hq12 : decide ((0 : Int) < (last2 : Int)) = false := by rw [decide_eq_false_iff_not]; omega
                    have hq12' : decide (0 < last2) = false := by rw [decide_eq_false_iff_not]; omega
                    have hws1 : IntKind.i64.wrap ((qn : Int) - 1) = (qn : Int) - 1 := IntWalk.i64_in _ (by omega)
                    have hws2 : IntKind.i64.wrap ((last2 : Int) + 1) = (last2 : Int) + 1 := IntWalk.i64_in _ (by omega)
                    refine wp_plan (.H 0 (.H 1 (.H 2 (.H 3 (.H 4 (.H 5 (.H 6 (.H 7 (.H 8 (.H 9 (.H 10 (.H 11 (.H 12 (.H 13 (.H 14 (.H 15 (.H 16 (.H 17 (.H 18 (.H 19 (.H 20 (.H 21 (.H 22 (.H 23 (.H 24 (.H 25 (.H 26 (.H 27 (.H 28 (.H 29 (.H 30 (.H 31 (.H 32 (.H 33 (.H 34 (.H 35 (.H 36 (.H 37 (.H 38 (.E 39 true (.E 40 false (.E 41 false (.E 42 false .Z))))))))))))))))))))))))))))))))))))))))))) (Gr wt (tb24 :: xb :: M)) (by as_aux_lemma => kernel_rfl) (by as_aux_lemma => kernel_rfl) ?_
                    repeat (first | (refine plan_H rfl hS (fun K hK => ?_); go_simp; refine hK _ ?_; clear hK K) | (refine plan_E rfl (fun K hK => ?_); go_simp; (first | refine hK _ _ (fun _ => hS) ?_ | refine hK _ _ nofun ?_); clear hK K))
                    refine plan_Z ?_
                    clear hcx hcy hS hws1 hws2

                    have hin2 := HIN2.out
                    have hkd := (Kp.refl [] wt).drew
                    have homD := HOT.out.keep hkd
                    have otD := homD.tkn
                    rw [← htl2] at otD
                    have hqtk : qn < tk2.length := by have := hin2.tkl; omega
                    obtain ⟨tb, tcc, hte, htcc, -, htbl⟩ := own_some otD (by omega)
                    obtain rfl : ta = some ⟨tb, 0, none⟩ := by injection hte
                    obtain rfl : tc = tcc := by injection hte
                    have htc0 : ∃ y, wt.drew.cell? ⟨tb, qn, none⟩ = some y := by
                      have := Own.cellAt otD qn (by omega)
                      rw [List.getElem?_map, List.getElem?_eq_getElem hqtk] at this
                      exact ⟨_, this⟩
                    obtain ⟨y, htc0⟩ := htc0
                    have htf0 := Own.frozenAt otD qn (by omega)
                    have hq3 : (0 : Int) ≤ qn ∧ (qn : Int) < tk.length := by omega
                    obtain ⟨hq3, hq4⟩ := hq3
                    have hst := Own.stored otD qn (.bool true)
                    have hks : Kp [tb] wt.drew (wt.drew.setCell ⟨tb, qn, none⟩ (.bool true)) := (Kp.refl [tb] _).setCell (.inl (by simp)) _
                    have hso : Own (wt.drew.setCell ⟨tb, qn, none⟩ (.bool true)) w.heap.size 4 1 (.slice (some ⟨tb, 0, none⟩) tk2.length tc) (tk2.set qn true).length ((tk2.set qn true).map .bool) := by
                      rw [List.map_set, List.length_set]; exact hst
                    have homS := homD.chTk (by simpa [Value.ownBlock] using hks) hso
                    have hoc2 : wt.drew.setCell ⟨tb, qn, none⟩ (.bool true) = wt.drew.setCell ⟨tb, qn, none⟩ (.bool true) := rfl
                    have hrowD := own_kp HROW.out hkd (by simp)
                    have hitD := HITR.out.kp hkd (by simp)
                    have hrowS := own_kpT hrowD hks (own_notT (v := .slice (some ⟨tb, 0, none⟩) tk2.length tc) otD (by decide))
                    have hitS := hitD.kp hks (fun g hg hm => by have := HTB.out tb rfl; simp at hm; omega)
                    have h24D := hkd.heap h24 (by simp)
                    have h24S := hks.heap h24D (fun hm => own_notT otD (e' := 51) (by decide) tb (by simp [Value.ownBlock]) _ _ (by have h := h24D; rw [List.mem_singleton.1 hm] at h; exact h))
                    have HSTO := Lib.hid hst
                    have HSO := Lib.hid hso
                    have HOS := Lib.hid homS
                    have HRS := Lib.hid hrowS
                    have HIS := Lib.hid hitS
                    clear hst hso homS homD otD hrowS hitS hrowD hitD hkd h24 h24D hoc2
                    obtain ⟨p240, p241⟩ : (wt.drew.setCell ⟨tb, qn, none⟩ (.bool true)).cell? ⟨tb24, 0, none⟩ = some (.int .i64 (qn : Int)) ∧ tb24 < (wt.drew.setCell ⟨tb, qn, none⟩ (.bool true)).heap.size := ⟨cell_heap h24S 0, lt_of_heap h24S⟩
                    have p242 : wt.drew.cell? ⟨tb24, 0, none⟩ = some (.int .i64 (qn : Int)) := P24.out
                    have p243 : tb24 < wt.heap.size := L24.out
                    go_wp2_with fail
                    have hrs := HOS.out.rcv
                    refine (take_calls rp (qn : Int) (qn : Int) _ hrs (by omega) (by omega)).mono ?_
                    rintro e w7 ⟨rfl, hr7, hk7⟩
                    have htn : takeN (qn : Int) (qn : Int) = (qn : Int) + 1 := by unfold takeN; rw [if_pos (by omega)]
                    rw [htn] at hr7
                    have hom7 := HOS.out.recv hk7 hr7
                    have hrow7 := own_kpT HRS.out hk7 (fun s hs => by simp at hs; subst hs; exact cells_notT hrs.1 (by decide))
                    have hit7 := HIS.out.kp hk7 (fun g hg hm => by simp at hm; omega)
                    have hin7 := hin2.take (by omega) (by omega)
                    rw [Int.toNat_natCast] at hin7
                    have hlen7 : (tk2.set qn true).length = tk2.length := by simp
                    have HOM7 := Lib.hid hom7
                    have HIN7 := Lib.hid hin7
                    clear hom7 hin7 hin2 htn hlen7 hrs
                    go_wp2_with fail
                    go_roundw
                    case measure => simp [intOf]; omega
                    case rel => exact ⟨k + 1, qn, tk2.set qn true, by omega, rfl, by go_num, by rw [List.length_set]; exact htl2, by rw [← htl2]; exact HOM7.out.at_nx (by have := HNQ.out; omega), HIN7.out.at_nx (by have := HNQ.out; omega), hrow7, hit7⟩

                · obtain rfl : k = l.length := by omega
                  have hd : decide ((l.length : Int) < (l.length : Int)) = false := by simp
                  have HO2 := Lib.hid hom2
                  have HI2 := Lib.hid hin2
                  clear hom2 hin2 hrow hitr
                  go_wp2_with fail
                  refine (ack_calls rp (N1 + (l.length : Int)) wr HO2.out.rcv).mono ?_
                  rintro e w6 ⟨rfl, hk6⟩
                  have hom6 := HO2.out.keep hk6
                  generalize N1 + (l.length : Int) = N2 at *
                  by_cases hn0 : N2 = 0
                  · as_aux_lemma =>
                    have hz : (!(N2 == 0)) = false := by simp [hn0]
                    rw [hz]
                    obtain ⟨ak, ab, hak⟩ : ∃ ak ab, ackF N2 = ⟨ak, 0, ab, [], []⟩ := by
                      unfold ackF; split
                      · exact ⟨0, 0, rfl⟩
                      · exact ⟨_, _, rfl⟩
                    rw [hak]
                    unfold fcells
                    simp only
                    have hom9 := hom6.keep ((Kp.refl [] w6).alloc (.cells #[.int .i64 ak, .int .i64 0, .int .i64 ab, .slice none 0 0, .slice none 0 0] 25))
                    have HOM := Lib.hid hom9
                    have HIN := HI2
                    clear hom9 hom6 hak hz
                    have hht9 : tk2.length = tk.length := htl2
                    clear hn0
                    go_wp2_with fail
                    generalize w6.alloc (.cells #[.int .i64 ak, .int .i64 0, .int .i64 ab, .slice none 0 0, .slice none 0 0] 25) = w9 at *
                    have hgl9 := HIN.out.gl
                    have htk9 := HIN.out.tkl
                    have HTG := Lib.hid HIN.out.tkg
                    have otk := HOM.out.tkn
                    rw [← htl2] at otk
                    rw [← htl2] at HOM ⊢
                    have hht9 := Lib.hid htl2
                    clear htl2
                    have hgb : (gone : Int) ≤ 300 ∧ (tk2.length : Int) ≤ 301 := by omega
                    obtain ⟨hgb, hgb2⟩ := hgb
                    have HTK9 := Lib.hid htk9
                    clear htk9
                    go_loop [27] (fun v27 => ∃ k : Nat, 1 ≤ k ∧ k ≤ gone + 1 ∧ v27 = .int .i64 k) (fun v27 => gone + 1 - (intOf v27).toNat)
                    case atStart => exact ⟨1, by omega, by omega, rfl⟩
                    case round =>
                      as_aux_lemma =>
                      obtain ⟨k, hk1, hk2, rfl⟩ := hrel
                      by_cases hkg : k ≤ gone
                      · have htk := HTG.out k hk1 hkg
                        have hkl : k < tk2.length := by have := HTK9.out; omega
                        obtain ⟨tb, tcc, hte, -, -, htb⟩ := own_some otk (by omega)
                        obtain rfl : ta = some ⟨tb, 0, none⟩ := by injection hte
                        have hcell := Own.cellAt otk k (by omega)
                        rw [List.getElem?_map, htk] at hcell
                        simp only [Option.map_some] at hcell
                        have hk3 : (0 : Int) ≤ k ∧ (k : Int) < tk2.length ∧ (k : Int) ≤ gone := by omega
                        obtain ⟨hk3, hk4, hk5⟩ := hk3
                        have hk6 : decide ((tk2.length : Int) ≤ (k : Int)) = false := by rw [decide_eq_false_iff_not]; omega
                        clear htk hte
                        go_wp2_with fail
                        go_round
                        case measure => simp [intOf]; omega
                        case rel => exact ⟨k + 1, by omega, by omega, by go_num⟩
                      · obtain rfl : k = gone + 1 := by omega
                        have hd : decide (((gone + 1 : Nat) : Int) ≤ (gone : Int)) = false := by rw [decide_eq_false_iff_not]; omega
                        go_wp2_with fail
                        go_roundw
                        case measure => simp [intOf]; omega
                        case rel => exact ⟨i + 1, _, _, _, _, _, _, _, _, _, _, _, rfl, rfl, rfl, by go_num, HOM.out, HIN.out, by omega, by omega, by omega, by omega, by omega, by omega, by omega⟩

                  · as_aux_lemma =>
                    have hz : (!(N2 == 0)) = true := by simp [hn0]
                    have hak : ackF N2 = ⟨2, 0, N2 - 1, [], []⟩ := if_neg hn0
                    rw [hz, hak]
                    unfold fcells
                    simp only
                    have hk9 := (Kp.refl [] w6).alloc (.cells #[.int .i64 2, .int .i64 0, .int .i64 (N2 - 1), .slice none 0 0, .slice none 0 0] 25)
                    have h9 := heap_alloc_new w6 (.cells #[.int .i64 2, .int .i64 0, .int .i64 (N2 - 1), .slice none 0 0, .slice none 0 0] 25)
                    have hsz9 := World.size_alloc w6 (.cells #[.int .i64 2, .int .i64 0, .int .i64 (N2 - 1), .slice none 0 0, .slice none 0 0] 25)
                    have hom9 := hom6.keep hk9
                    have hin9 := HI2.out.ack hn0
                    rw [hak] at hin9
                    have HSZ := Lib.hid hsz9
                    have HIN := Lib.hid hin9
                    have HOM9 := Lib.hid hom9
                    clear hom6 hom9 hin9 hak hz hsz9 hn0
                    go_wp2_with (with_reducible refine stop_app ?_)
                    unfold Stop
                    generalize w6.alloc (.cells #[.int .i64 2, .int .i64 0, .int .i64 (N2 - 1), .slice none 0 0, .slice none 0 0] 25) = w9 at *
                    rw [← HSZ.out]
                    have hkB := (Kp.refl [] w9).alloc (.cells #[.int .i64 2, .int .i64 0, .int .i64 (N2 - 1), .slice none 0 0, .slice none 0 0] 25)
                    have homB := HOM9.out.keep hkB
                    obtain ⟨ck2, ok2, jk2⟩ := homB.aks
                    obtain ⟨i1, hi1', hy0, hy1, hy2⟩ := info_parts frinfo
                    have hb9 := homB.kp.size
                    refine wpList_app _ rfl _ _ 59 59 rfl w.heap.size 25 i1 _ 5 72 Tryd.underlying59 hi1' hy0 hy1 hy2 rfl (by omega) (.slice ka ks.length kc) ks.length ck2 rfl ok2 (.slice (some ⟨w9.heap.size, 0, none⟩) 1 1) 1 [.int .i64 2, .int .i64 0, .int .i64 (N2 - 1), .slice none 0 0, .slice none 0 0] rfl (Src.of_sl Tryd.underlying59 (sl_alloc w9 25 _ _ rfl 5 1 rfl) (by simp [Value.oneCell'])) (by omega) (by omega) hb9 ?_
                    intro v10 w10 ho10 hg10 hx10
                    obtain ⟨a10, c10, rfl⟩ := own_form ho10
                    have hk10 : Kp (Value.slice ka ks.length kc).ownBlock.toList (w9.alloc (.cells #[.int .i64 2, .int .i64 0, .int .i64 (N2 - 1), .slice none 0 0, .slice none 0 0] 25)) w10 := (Kp.refl _ _).grown hg10 (fun q hq => .inl (by simp [hq]))
                    have hom10 := homB.addAk (gs := [⟨2, 0, N2 - 1, [], []⟩]) ok2 jk2 (FrC.one (iv := .slice none 0 0) (tv := .slice none 0 0) (RwP.nil _ _) (Sl.of_own (Own.nil _ 0 0 1)) (fun g hg => by cases hg)) hk10 ho10 hx10
                    have HOM := Lib.hid hom10
                    have hkl9 : (ks ++ [(⟨2, 0, N2 - 1, [], []⟩ : Fr)]).length ≤ i + 1 := by simp; omega
                    clear hom10 homB ok2 jk2 ho10 hg10 hx10 hk10 hkB
                    generalize (ks ++ [(⟨2, 0, N2 - 1, [], []⟩ : Fr)]) = ks2 at *
                    have hgl9 := HIN.out.gl
                    have htk9 := HIN.out.tkl
                    have HTG := Lib.hid HIN.out.tkg
                    have otk := HOM.out.tkn
                    rw [← htl2] at otk
                    rw [← htl2] at HOM ⊢
                    have hht9 := Lib.hid htl2
                    clear htl2
                    have hgb : (gone : Int) ≤ 300 ∧ (tk2.length : Int) ≤ 301 := by omega
                    obtain ⟨hgb, hgb2⟩ := hgb
                    have HTK9 := Lib.hid htk9
                    clear htk9
                    go_wp2_with fail
                    go_loop [27] (fun v27 => ∃ k : Nat, 1 ≤ k ∧ k ≤ gone + 1 ∧ v27 = .int .i64 k) (fun v27 => gone + 1 - (intOf v27).toNat)
                    case atStart => exact ⟨1, by omega, by omega, rfl⟩
                    case round =>
                      as_aux_lemma =>
                      obtain ⟨k, hk1, hk2, rfl⟩ := hrel
                      by_cases hkg : k ≤ gone
                      · have htk := HTG.out k hk1 hkg
                        have hkl : k < tk2.length := by have := HTK9.out; omega
                        obtain ⟨tb, tcc, hte, -, -, htb⟩ := own_some otk (by omega)
                        obtain rfl : ta = some ⟨tb, 0, none⟩ := by injection hte
                        have hcell := Own.cellAt otk k (by omega)
                        rw [List.getElem?_map, htk] at hcell
                        simp only [Option.map_some] at hcell
                        have hk3 : (0 : Int) ≤ k ∧ (k : Int) < tk2.length ∧ (k : Int) ≤ gone := by omega
                        obtain ⟨hk3, hk4, hk5⟩ := hk3
                        have hk6 : decide ((tk2.length : Int) ≤ (k : Int)) = false := by rw [decide_eq_false_iff_not]; omega
                        clear htk hte
                        go_wp2_with fail
                        go_round
                        case measure => simp [intOf]; omega
                        case rel => exact ⟨k + 1, by omega, by omega, by go_num⟩
                      · obtain rfl : k = gone + 1 := by omega
                        have hd : decide (((gone + 1 : Nat) : Int) ≤ (gone : Int)) = false := by rw [decide_eq_false_iff_not]; omega
                        go_wp2_with fail
                        go_roundw
                        case measure => simp [intOf]; omega
                        case rel => exact ⟨i + 1, _, _, _, _, _, _, _, _, _, _, _, rfl, rfl, rfl, by go_num, HOM.out, HIN.out, by omega, by omega, by omega, by omega, by omega, by omega, by omega⟩
          · have e1 : (d == 1) = false := by simpa using hd1
            by_cases hd2 : d = 2
            · have e2 : (d == 2) = true := by simpa using hd2
              clear hd2 hd1 hd0
              as_aux_lemma =>
              by_cases hk0 : ks.length = 0
              · have hkd : decide (0 < (ks.length : Int)) = false := by rw [decide_eq_false_iff_not]; omega
                clear ok jk
                generalize hKL : ks.length = KL at *
                subst hk0
                have HKL := Lib.hid hKL
                clear hKL
                go_wp2_with fail
                generalize wr.alloc (.cells #[.int .i64 d, .int .i64 N, .slice ba B.length bc] 62) = wA at *

                have HOM : Hid _ := HO
                have HIN := HI
                have hKL' := HKL.out
                have hgl9 := HIN.out.gl
                have htk9 := HIN.out.tkl
                have HTG := Lib.hid HIN.out.tkg
                have otk := HOM.out.tkn
                have hgb : (gone : Int) ≤ 300 ∧ (tk.length : Int) ≤ 301 := by omega
                obtain ⟨hgb, hgb2⟩ := hgb
                have HTK9 := Lib.hid htk9
                clear htk9
                go_loop [27] (fun v27 => ∃ k : Nat, 1 ≤ k ∧ k ≤ gone + 1 ∧ v27 = .int .i64 k) (fun v27 => gone + 1 - (intOf v27).toNat)
                case atStart => exact ⟨1, by omega, by omega, rfl⟩
                case round =>
                  as_aux_lemma =>
                  obtain ⟨k, hk1, hk2, rfl⟩ := hrel
                  by_cases hkg : k ≤ gone
                  · have htk := HTG.out k hk1 hkg
                    have hkl : k < tk.length := by have := HTK9.out; omega
                    obtain ⟨tb, tcc, hte, -, -, htb⟩ := own_some otk (by omega)
                    obtain rfl : ta = some ⟨tb, 0, none⟩ := by injection hte
                    have hcell := Own.cellAt otk k (by omega)
                    rw [List.getElem?_map, htk] at hcell
                    simp only [Option.map_some] at hcell
                    have hk3 : (0 : Int) ≤ k ∧ (k : Int) < tk.length ∧ (k : Int) ≤ gone := by omega
                    obtain ⟨hk3, hk4, hk5⟩ := hk3
                    have hk6 : decide ((tk.length : Int) ≤ (k : Int)) = false := by rw [decide_eq_false_iff_not]; omega
                    clear htk hte
                    go_wp2_with fail
                    go_round
                    case measure => simp [intOf]; omega
                    case rel => exact ⟨k + 1, by omega, by omega, by go_num⟩
                  · obtain rfl : k = gone + 1 := by omega
                    have hd : decide (((gone + 1 : Nat) : Int) ≤ (gone : Int)) = false := by rw [decide_eq_false_iff_not]; omega
                    go_wp2_with fail
                    go_roundw
                    case measure => simp [intOf]; omega
                    case rel => exact ⟨i + 1, _, _, _, _, _, _, _, _, _, _, _, rfl, rfl, rfl, by go_num, HOM.out, HIN.out, by omega, by omega, by omega, by omega, by omega, by omega, by omega⟩

              · have hmj : m % ks.length < ks.length := Nat.mod_lt _ (by omega)
                have hax := HI.out.aks _ (List.getElem_mem hmj)
                have hlet := HI.out.let_go _ (List.getElem_mem hmj)
                obtain ⟨kb, ko, _, _, hke, hkb, _, _, hcb, _, _, _, _, _⟩ := frame_at (Sl.of_own ok) jk rfl (m % ks.length) hmj
                obtain rfl : ka = some ⟨kb, ko, none⟩ := hke
                obtain ⟨g2, hg2⟩ : ∃ g2 : Nat, (ks[m % ks.length]'hmj).b = g2 := ⟨_, (Int.toNat_of_nonneg hax.1).symm⟩
                rw [hg2] at hcb hlet
                have hg3 : g2 ≤ xs.length := by have := hax.2.1; rw [hg2] at this; omega
                have hkd : decide (0 < (ks.length : Int)) = true := by rw [decide_eq_true_eq]; omega
                have hkp : 0 < ks.length := by omega
                have hkn : (1 : Int) ≤ ks.length ∧ (0 : Int) ≤ (m : Int) % ks.length ∧ (m : Int) % ks.length < ks.length ∧ ((m : Int) % ks.length).toNat = m % ks.length ∧ (0 : Int) ≤ m ∧ (m : Int) ≤ 65535 := by
                  have h1 : (m : Int) % ks.length = ((m % ks.length : Nat) : Int) := by simp
                  rw [h1]; omega
                obtain ⟨hkn1, hkn2, hkn3, hkn4, hkn5, hkn6⟩ := hkn
                rw [Int.toNat_natCast] at hlet
                clear hg2 hax ok jk
                by_cases hgg : (gone : Int) < (g2 : Int)
                · rw [show max gone g2 = g2 by omega] at hlet
                  have HIN := Lib.hid hlet
                  clear hlet
                  go_wp2_with fail
                  generalize wr.alloc (.cells #[.int .i64 d, .int .i64 N, .slice ba B.length bc] 62) = wA at *

                  have HOM := HO
                  have hgl9 := HIN.out.gl
                  have htk9 := HIN.out.tkl
                  have HTG := Lib.hid HIN.out.tkg
                  have otk := HOM.out.tkn
                  have hgb : (g2 : Int) ≤ 300 ∧ (tk.length : Int) ≤ 301 := by omega
                  obtain ⟨hgb, hgb2⟩ := hgb
                  have HTK9 := Lib.hid htk9
                  clear htk9
                  go_loop [27] (fun v27 => ∃ k : Nat, 1 ≤ k ∧ k ≤ g2 + 1 ∧ v27 = .int .i64 k) (fun v27 => g2 + 1 - (intOf v27).toNat)
                  case atStart => exact ⟨1, by omega, by omega, rfl⟩
                  case round =>
                    as_aux_lemma =>
                    obtain ⟨k, hk1, hk2, rfl⟩ := hrel
                    by_cases hkg : k ≤ g2
                    · have htk := HTG.out k hk1 hkg
                      have hkl : k < tk.length := by have := HTK9.out; omega
                      obtain ⟨tb, tcc, hte, -, -, htb⟩ := own_some otk (by omega)
                      obtain rfl : ta = some ⟨tb, 0, none⟩ := by injection hte
                      have hcell := Own.cellAt otk k (by omega)
                      rw [List.getElem?_map, htk] at hcell
                      simp only [Option.map_some] at hcell
                      have hk3 : (0 : Int) ≤ k ∧ (k : Int) < tk.length ∧ (k : Int) ≤ g2 := by omega
                      obtain ⟨hk3, hk4, hk5⟩ := hk3
                      have hk6 : decide ((tk.length : Int) ≤ (k : Int)) = false := by rw [decide_eq_false_iff_not]; omega
                      clear htk hte
                      go_wp2_with fail
                      go_round
                      case measure => simp [intOf]; omega
                      case rel => exact ⟨k + 1, by omega, by omega, by go_num⟩
                    · obtain rfl : k = g2 + 1 := by omega
                      have hd : decide (((g2 + 1 : Nat) : Int) ≤ (g2 : Int)) = false := by rw [decide_eq_false_iff_not]; omega
                      go_wp2_with fail
                      go_roundw
                      case measure => simp [intOf]; omega
                      case rel => exact ⟨i + 1, _, _, _, _, _, _, _, _, _, _, _, rfl, rfl, rfl, by go_num, HOM.out, HIN.out, by omega, by omega, by omega, by omega, by omega, by omega, by omega⟩

                · rw [show max gone g2 = gone by omega] at hlet
                  have HIN := Lib.hid hlet
                  have hgg2 : (g2 : Int) ≤ gone := by omega
                  clear hlet
                  go_wp2_with fail
                  generalize wr.alloc (.cells #[.int .i64 d, .int .i64 N, .slice ba B.length bc] 62) = wA at *

                  have HOM := HO
                  have hgl9 := HIN.out.gl
                  have htk9 := HIN.out.tkl
                  have HTG := Lib.hid HIN.out.tkg
                  have otk := HOM.out.tkn
                  have hgb : (gone : Int) ≤ 300 ∧ (tk.length : Int) ≤ 301 := by omega
                  obtain ⟨hgb, hgb2⟩ := hgb
                  have HTK9 := Lib.hid htk9
                  clear htk9
                  go_loop [27] (fun v27 => ∃ k : Nat, 1 ≤ k ∧ k ≤ gone + 1 ∧ v27 = .int .i64 k) (fun v27 => gone + 1 - (intOf v27).toNat)
                  case atStart => exact ⟨1, by omega, by omega, rfl⟩
                  case round =>
                    as_aux_lemma =>
                    obtain ⟨k, hk1, hk2, rfl⟩ := hrel
                    by_cases hkg : k ≤ gone
                    · have htk := HTG.out k hk1 hkg
                      have hkl : k < tk.length := by have := HTK9.out; omega
                      obtain ⟨tb, tcc, hte, -, -, htb⟩ := own_some otk (by omega)
                      obtain rfl : ta = some ⟨tb, 0, none⟩ := by injection hte
                      have hcell := Own.cellAt otk k (by omega)
                      rw [List.getElem?_map, htk] at hcell
                      simp only [Option.map_some] at hcell
                      have hk3 : (0 : Int) ≤ k ∧ (k : Int) < tk.length ∧ (k : Int) ≤ gone := by omega
                      obtain ⟨hk3, hk4, hk5⟩ := hk3
                      have hk6 : decide ((tk.length : Int) ≤ (k : Int)) = false := by rw [decide_eq_false_iff_not]; omega
                      clear htk hte
                      go_wp2_with fail
                      go_round
                      case measure => simp [intOf]; omega
                      case rel => exact ⟨k + 1, by omega, by omega, by go_num⟩
                    · obtain rfl : k = gone + 1 := by omega
                      have hd : decide (((gone + 1 : Nat) : Int) ≤ (gone : Int)) = false := by rw [decide_eq_false_iff_not]; omega
                      go_wp2_with fail
                      go_roundw
                      case measure => simp [intOf]; omega
                      case rel => exact ⟨i + 1, _, _, _, _, _, _, _, _, _, _, _, rfl, rfl, rfl, by go_num, HOM.out, HIN.out, by omega, by omega, by omega, by omega, by omega, by omega, by omega⟩
            · have e2 : (d == 2) = false := by simpa using hd2
              by_cases hd3 : d = 3
              · have e3 : (d == 3) = true := by simpa using hd3
                clear hd3 hd2 hd1 hd0
                as_aux_lemma =>
                go_wp2_with fail
                generalize wr.alloc (.cells #[.int .i64 d, .int .i64 N, .slice ba B.length bc] 62) = wA at *

                refine (newReceiver_calls wA).mono ?_
                rintro e w5 ⟨rp5, rfl, hr5, hrp5, hk5⟩
                have HOM := Lib.hid (HO.out.anew hk5 hr5 hrp5)
                have HIN := Lib.hid HI.out.anew
                clear hr5 hk5 HO HI

                have hgl9 := HIN.out.gl
                have htk9 := HIN.out.tkl
                have HTG := Lib.hid HIN.out.tkg
                have otk := HOM.out.tkn
                have hgb : (gone : Int) ≤ 300 ∧ (tk.length : Int) ≤ 301 := by omega
                obtain ⟨hgb, hgb2⟩ := hgb
                have HTK9 := Lib.hid htk9
                clear htk9
                go_wp2_with fail
                go_loop [27] (fun v27 => ∃ k : Nat, 1 ≤ k ∧ k ≤ gone + 1 ∧ v27 = .int .i64 k) (fun v27 => gone + 1 - (intOf v27).toNat)
                case atStart => exact ⟨1, by omega, by omega, rfl⟩
                case round =>
                  as_aux_lemma =>
                  obtain ⟨k, hk1, hk2, rfl⟩ := hrel
                  by_cases hkg : k ≤ gone
                  · have htk := HTG.out k hk1 hkg
                    have hkl : k < tk.length := by have := HTK9.out; omega
                    obtain ⟨tb, tcc, hte, -, -, htb⟩ := own_some otk (by omega)
                    obtain rfl : ta = some ⟨tb, 0, none⟩ := by injection hte
                    have hcell := Own.cellAt otk k (by omega)
                    rw [List.getElem?_map, htk] at hcell
                    simp only [Option.map_some] at hcell
                    have hk3 : (0 : Int) ≤ k ∧ (k : Int) < tk.length ∧ (k : Int) ≤ gone := by omega
                    obtain ⟨hk3, hk4, hk5⟩ := hk3
                    have hk6 : decide ((tk.length : Int) ≤ (k : Int)) = false := by rw [decide_eq_false_iff_not]; omega
                    clear htk hte
                    go_wp2_with fail
                    go_round
                    case measure => simp [intOf]; omega
                    case rel => exact ⟨k + 1, by omega, by omega, by go_num⟩
                  · obtain rfl : k = gone + 1 := by omega
                    have hd : decide (((gone + 1 : Nat) : Int) ≤ (gone : Int)) = false := by rw [decide_eq_false_iff_not]; omega
                    go_wp2_with fail
                    go_roundw
                    case measure => simp [intOf]; omega
                    case rel => exact ⟨i + 1, _, _, _, _, _, _, _, _, _, _, _, rfl, rfl, rfl, by go_num, HOM.out, HIN.out, by omega, by omega, by omega, by omega, by omega, by omega, by omega⟩
              · have e3 : (d == 3) = false := by simpa using hd3
                by_cases hd4 : d = 4
                · have e4 : (d == 4) = true := by simpa using hd4
                  clear hd4 hd3 hd2 hd1 hd0
                  as_aux_lemma =>
                  by_cases h256 : B.length ≤ 256
                  · have hd256 : decide ((B.length : Int) ≤ 256) = true := by rw [decide_eq_true_eq]; omega
                    have hxn : (xs.length : Int) ≤ 300 := by omega
                    have hsA := World.size_alloc wr (.cells #[.int .i64 d, .int .i64 N, .slice ba B.length bc] 62)
                    have HSA := Lib.hid hsA
                    clear hsA
                    go_wp2_with (with_reducible refine stop_app ?_)
                    unfold Stop
                    generalize wr.alloc (.cells #[.int .i64 d, .int .i64 N, .slice ba B.length bc] 62) = wA at *

                    clear q0 q1 q2
                    rw [← HSA.out]
                    obtain ⟨i1, hi1', hy0, hy1, hy2⟩ := info_parts iteminfo
                    have hkB := (Kp.refl [] wA).alloc (.cells #[.int .i64 ((xs.length : Int) + 1), .slice ba B.length bc] 51)
                    have homB := HO.out.keep hkB
                    have oiB := own_kp oi hkB (by simp)
                    have iiB := ii.kp hkB (by simp)
                    have hb9 := homB.kp.size
                    refine wpList_app _ rfl _ _ 46 46 rfl w.heap.size 51 i1 _ 2 32 Tryd.underlying46 hi1' hy0 hy1 hy2 rfl (by omega) (.slice ia xs.length ic) xs.length ci rfl oiB (.slice (some ⟨wA.heap.size, 0, none⟩) 1 1) 1 [.int .i64 ((xs.length : Int) + 1), .slice ba B.length bc] rfl (Src.of_sl Tryd.underlying46 (sl_alloc wA 51 _ _ rfl 2 1 rfl) (by simp [Value.oneCell'])) (by omega) (by omega) hb9 ?_
                    intro v8 w8 ho8 hg8 hx8
                    obtain ⟨a8, c8, rfl⟩ := own_form ho8
                    have hk8 : Kp (Value.slice ia xs.length ic).ownBlock.toList (wA.alloc (.cells #[.int .i64 ((xs.length : Int) + 1), .slice ba B.length bc] 51)) w8 := (Kp.refl _ _).grown hg8 (fun q hq => .inl (by simp [hq]))
                    have hom8 := homB.addIt (x := ⟨(xs.length : Int) + 1, B⟩) oiB iiB (hbBA.kp0 hkB) hbP hk8 ho8
                    have hin8 := HI.out.item B h256
                    have HO8 := Lib.hid hom8
                    have hb8 := hom8.kp.size
                    have ot8 := hom8.tkn
                    clear hom8 homB oiB iiB ho8 hg8 hx8 hk8 oi of ok ii jf jk hkB
                    go_wp2_with (with_reducible refine stop_app ?_)
                    unfold Stop
                    have hkC := (Kp.refl [] w8).alloc (.cells #[.bool false] 4)
                    have homC := HO8.out.keep hkC
                    have otC := own_kp ot8 hkC (by simp)
                    obtain ⟨i2, hi2', hz0, hz1, hz2⟩ := info_parts boolinfo
                    have htl := HI.out.tkl
                    have hb9' := homC.kp.size
                    refine wpList_app _ rfl _ _ 60 60 rfl w.heap.size 4 i2 _ 1 1 Tryd.underlying60 hi2' hz0 hz1 hz2 rfl (by omega) (.slice ta tk.length tc) tk.length _ rfl otC (.slice (some ⟨w8.heap.size, 0, none⟩) 1 1) 1 [.bool false] rfl (Src.of_sl Tryd.underlying60 (sl_alloc w8 4 _ _ rfl 1 1 rfl) (by simp [Value.oneCell'])) (by omega) (by omega) hb9' ?_
                    intro v9 w9 ho9 hg9 hx9
                    obtain ⟨a9, c9, rfl⟩ := own_form ho9
                    have hk9 : Kp (Value.slice ta tk.length tc).ownBlock.toList (w8.alloc (.cells #[.bool false] 4)) w9 := (Kp.refl _ _).grown hg9 (fun q hq => .inl (by simp [hq]))
                    obtain ⟨tk2, htk2⟩ : ∃ t, t = tk ++ [false] := ⟨_, rfl⟩
                    have e2 : tk.length + 1 = tk2.length := by rw [htk2]; simp
                    have e3 : tk.map Value.bool ++ [.bool false] = tk2.map Value.bool := by rw [htk2]; simp
                    rw [e2, e3] at ho9
                    rw [e2]
                    have hom9 := homC.chTk hk9 ho9
                    rw [← htk2] at hin8
                    have HOM := Lib.hid hom9
                    have HIN := Lib.hid hin8
                    have hxl9 : (xs ++ [(⟨(xs.length : Int) + 1, B⟩ : It)]).length ≤ i + 1 := by simp; omega
                    have htl2 : tk2.length ≤ 301 := by omega
                    clear hom9 hin8 homC otC ho9 hg9 hx9 hk9 hkC ot8 htk2 e2 e3 htl
                    generalize (xs ++ [(⟨(xs.length : Int) + 1, B⟩ : It)]) = xs2 at *
                    have hgl9 := HIN.out.gl
                    have htk9 := HIN.out.tkl
                    have HTG := Lib.hid HIN.out.tkg
                    have otk := HOM.out.tkn
                    have hgb : (gone : Int) ≤ 300 ∧ (tk2.length : Int) ≤ 301 := by omega
                    obtain ⟨hgb, hgb2⟩ := hgb
                    have HTK9 := Lib.hid htk9
                    clear htk9
                    go_wp2_with fail
                    go_loop [27] (fun v27 => ∃ k : Nat, 1 ≤ k ∧ k ≤ gone + 1 ∧ v27 = .int .i64 k) (fun v27 => gone + 1 - (intOf v27).toNat)
                    case atStart => exact ⟨1, by omega, by omega, rfl⟩
                    case round =>
                      as_aux_lemma =>
                      obtain ⟨k, hk1, hk2, rfl⟩ := hrel
                      by_cases hkg : k ≤ gone
                      · have htk := HTG.out k hk1 hkg
                        have hkl : k < tk2.length := by have := HTK9.out; omega
                        obtain ⟨tb, tcc, hte, -, -, htb⟩ := own_some otk (by omega)
                        obtain rfl : a9 = some ⟨tb, 0, none⟩ := by injection hte
                        have hcell := Own.cellAt otk k (by omega)
                        rw [List.getElem?_map, htk] at hcell
                        simp only [Option.map_some] at hcell
                        have hk3 : (0 : Int) ≤ k ∧ (k : Int) < tk2.length ∧ (k : Int) ≤ gone := by omega
                        obtain ⟨hk3, hk4, hk5⟩ := hk3
                        have hk6 : decide ((tk2.length : Int) ≤ (k : Int)) = false := by rw [decide_eq_false_iff_not]; omega
                        clear htk hte
                        go_wp2_with fail
                        go_round
                        case measure => simp [intOf]; omega
                        case rel => exact ⟨k + 1, by omega, by omega, by go_num⟩
                      · obtain rfl : k = gone + 1 := by omega
                        have hd : decide (((gone + 1 : Nat) : Int) ≤ (gone : Int)) = false := by rw [decide_eq_false_iff_not]; omega
                        go_wp2_with fail
                        go_roundw
                        case measure => simp [intOf]; omega
                        case rel => exact ⟨i + 1, _, _, _, _, _, _, _, _, _, _, _, rfl, rfl, rfl, by go_num, HOM.out, HIN.out, by omega, by omega, by omega, by omega, by omega, by omega, by omega⟩

                  · have hd256 : decide ((B.length : Int) ≤ 256) = false := by rw [decide_eq_false_iff_not]; omega
                    go_wp2_with fail
                    generalize wr.alloc (.cells #[.int .i64 d, .int .i64 N, .slice ba B.length bc] 62) = wA at *

                    have HOM := HO
                    have HIN := HI
                    have hgl9 := HIN.out.gl
                    have htk9 := HIN.out.tkl
                    have HTG := Lib.hid HIN.out.tkg
                    have otk := HOM.out.tkn
                    have hgb : (gone : Int) ≤ 300 ∧ (tk.length : Int) ≤ 301 := by omega
                    obtain ⟨hgb, hgb2⟩ := hgb
                    have HTK9 := Lib.hid htk9
                    clear htk9
                    go_loop [27] (fun v27 => ∃ k : Nat, 1 ≤ k ∧ k ≤ gone + 1 ∧ v27 = .int .i64 k) (fun v27 => gone + 1 - (intOf v27).toNat)
                    case atStart => exact ⟨1, by omega, by omega, rfl⟩
                    case round =>
                      as_aux_lemma =>
                      obtain ⟨k, hk1, hk2, rfl⟩ := hrel
                      by_cases hkg : k ≤ gone
                      · have htk := HTG.out k hk1 hkg
                        have hkl : k < tk.length := by have := HTK9.out; omega
                        obtain ⟨tb, tcc, hte, -, -, htb⟩ := own_some otk (by omega)
                        obtain rfl : ta = some ⟨tb, 0, none⟩ := by injection hte
                        have hcell := Own.cellAt otk k (by omega)
                        rw [List.getElem?_map, htk] at hcell
                        simp only [Option.map_some] at hcell
                        have hk3 : (0 : Int) ≤ k ∧ (k : Int) < tk.length ∧ (k : Int) ≤ gone := by omega
                        obtain ⟨hk3, hk4, hk5⟩ := hk3
                        have hk6 : decide ((tk.length : Int) ≤ (k : Int)) = false := by rw [decide_eq_false_iff_not]; omega
                        clear htk hte
                        go_wp2_with fail
                        go_round
                        case measure => simp [intOf]; omega
                        case rel => exact ⟨k + 1, by omega, by omega, by go_num⟩
                      · obtain rfl : k = gone + 1 := by omega
                        have hd : decide (((gone + 1 : Nat) : Int) ≤ (gone : Int)) = false := by rw [decide_eq_false_iff_not]; omega
                        go_wp2_with fail
                        go_roundw
                        case measure => simp [intOf]; omega
                        case rel => exact ⟨i + 1, _, _, _, _, _, _, _, _, _, _, _, rfl, rfl, rfl, by go_num, HOM.out, HIN.out, by omega, by omega, by omega, by omega, by omega, by omega, by omega⟩
                · have e4 : (d == 4) = false := by simpa using hd4
                  clear hd4 hd3 hd2 hd1 hd0
                  as_aux_lemma =>
                  have hom9 := HO
                  have hin9 := HI
                  go_wp2_with fail
                  generalize wr.alloc (.cells #[.int .i64 d, .int .i64 N, .slice ba B.length bc] 62) = wA at *

                  have HOM := HO
                  have HIN := HI

                  have hgl9 := HIN.out.gl
                  have htk9 := HIN.out.tkl
                  have HTG := Lib.hid HIN.out.tkg
                  have otk := HOM.out.tkn
                  have hgb : (gone : Int) ≤ 300 ∧ (tk.length : Int) ≤ 301 := by omega
                  obtain ⟨hgb, hgb2⟩ := hgb
                  have HTK9 := Lib.hid htk9
                  clear htk9
                  go_loop [27] (fun v27 => ∃ k : Nat, 1 ≤ k ∧ k ≤ gone + 1 ∧ v27 = .int .i64 k) (fun v27 => gone + 1 - (intOf v27).toNat)
                  case atStart => exact ⟨1, by omega, by omega, rfl⟩
                  case round =>
                    as_aux_lemma =>
                    obtain ⟨k, hk1, hk2, rfl⟩ := hrel
                    by_cases hkg : k ≤ gone
                    · have htk := HTG.out k hk1 hkg
                      have hkl : k < tk.length := by have := HTK9.out; omega
                      obtain ⟨tb, tcc, hte, -, -, htb⟩ := own_some otk (by omega)
                      obtain rfl : ta = some ⟨tb, 0, none⟩ := by injection hte
                      have hcell := Own.cellAt otk k (by omega)
                      rw [List.getElem?_map, htk] at hcell
                      simp only [Option.map_some] at hcell
                      have hk3 : (0 : Int) ≤ k ∧ (k : Int) < tk.length ∧ (k : Int) ≤ gone := by omega
                      obtain ⟨hk3, hk4, hk5⟩ := hk3
                      have hk6 : decide ((tk.length : Int) ≤ (k : Int)) = false := by rw [decide_eq_false_iff_not]; omega
                      clear htk hte
                      go_wp2_with fail
                      go_round
                      case measure => simp [intOf]; omega
                      case rel => exact ⟨k + 1, by omega, by omega, by go_num⟩
                    · obtain rfl : k = gone + 1 := by omega
                      have hd : decide (((gone + 1 : Nat) : Int) ≤ (gone : Int)) = false := by rw [decide_eq_false_iff_not]; omega
                      go_wp2_with fail
                      go_roundw
                      case measure => simp [intOf]; omega
                      case rel => exact ⟨i + 1, _, _, _, _, _, _, _, _, _, _, _, rfl, rfl, rfl, by go_num, HOM.out, HIN.out, by omega, by omega, by omega, by omega, by omega, by omega, by omega⟩
      · obtain rfl : i = 300 := by omega
        have hd : decide (((300 : Nat) : Int) < (os.length : Int)) = true := by rw [decide_eq_true_eq]; omega
        go_wp2_with fail
        go_ret
        exact ⟨rfl, hom.kp⟩
    · obtain rfl : i = os.length := by omega
      have hd : decide ((os.length : Int) < (os.length : Int)) = false := by simp
      go_wp2_with fail
      go_ret
      exact ⟨rfl, hom.kp⟩
end Go.Proofs.YtddpefbpiehgeaaDoor
