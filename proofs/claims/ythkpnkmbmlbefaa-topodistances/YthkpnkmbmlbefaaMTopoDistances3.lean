/- Ythkpnkmbmlbefaa: part 3 of 6 of the proof that the law TopoDistances returns true for every input, its arguments reading as before. No condition. -/
import Derived.Test.YthkpnkmbmlbefaaMTopoDistances1
import Derived.Test.YthkpnkmbmlbefaaMTopoDistances2
import Derived.Laws.EntriesVeiled
namespace Go.Proofs.Ythkpnkmbmlbefaa.X
open Go.RowKit Go.Proofs.YthkpnkmbmlbefaaW.PrintWords Go.Proofs.YthkpnkmbmlbefaaW.PrintLast Go.Proofs.YthkpnkmbmlbefaaW.PrintMore
attribute [local go_sem] max2_int min2_int max_two min_two max_three min_three max_four min_four   -- for this text's walks alone
set_option linter.unusedVariables false
set_option linter.unusedSimpArgs false


/-! ### topo_neighbors: function 59 -/
mutual
def topo_neighbors.l0 : Nat → List (List Int) → List (S37) → Int → Int → Option ((List (List Int)))
 | 0, _, _, _, _ => none
 | k + 1, x3, x11, x12, x13 => if x13 < x12 then (if 0 ≤ x13 then (if x13 < (x11.length : Int) then (if 0 ≤ ((rd_T37 x11 x13).f0) then (if ((rd_T37 x11 x13).f0) < (x3.length : Int) then (if (rd_L3 x3 ((rd_T37 x11 x13).f0)).length < 17592186044416 then ((some (x3.set (((rd_T37 x11 x13).f0) : Int).toNat ((rd_L3 x3 ((rd_T37 x11 x13).f0)) ++ [(rd_T37 x11 x13).f2]) : List (List Int))).bind fun y141 => (if 0 ≤ ((rd_T37 x11 x13).f2) then (if ((rd_T37 x11 x13).f2) < (x3.length : Int) then (if (rd_L3 y141 ((rd_T37 x11 x13).f2)).length < 17592186044416 then (topo_neighbors.l0 k (y141.set (((rd_T37 x11 x13).f2) : Int).toNat ((rd_L3 y141 ((rd_T37 x11 x13).f2)) ++ [(rd_T37 x11 x13).f0])) x11 x12 (wrap64 (x13 + 1))) else (none)) else (none)) else (none))) else (none)) else (none)) else (none)) else (none)) else (none)) else (topo_neighbors.l1 k x3 (x3.length : Int) 0)
def topo_neighbors.l1 : Nat → List (List Int) → Int → Int → Option ((List (List Int)))
 | 0, _, _, _ => none
 | k + 1, x3, x45, x46 => if x46 < x45 then (if 0 ≤ x46 then (if x46 < (x3.length : Int) then ((slices_Sort_int_int.f (rd_L3 x3 x46)).bind fun t => (topo_neighbors.l1 k (x3.set x46.toNat t) x45 (wrap64 (x46 + 1)))) else (none)) else (none)) else (some x3)
end
def topo_neighbors.f (k : Nat) (a0_0 : Int) (l0_1 : List (S37)) : Option ((List (List Int))) := if 0 ≤ a0_0 then (if (a0_0 : Int).toNat ≤ 11728124029610 then (topo_neighbors.l0 k (List.replicate (a0_0 : Int).toNat []) l0_1 (l0_1.length : Int) 0) else (none)) else (none)
theorem topo_neighbors.mono_l : ∀ k, (∀ y0 y1 y2 y3, LeO (topo_neighbors.l0 k y0 y1 y2 y3) (topo_neighbors.l0 (k + 1) y0 y1 y2 y3)) ∧ (∀ y0 y1 y2, LeO (topo_neighbors.l1 k y0 y1 y2) (topo_neighbors.l1 (k + 1) y0 y1 y2))
 | 0 => ⟨fun _ _ _ _ r h => by simp [topo_neighbors.l0] at h, fun _ _ _ r h => by simp [topo_neighbors.l1] at h⟩
 | k + 1 => by
  obtain ⟨ih0, ih1⟩ := topo_neighbors.mono_l k
  refine ⟨?_, ?_⟩
  ·intro y0 y1 y2 y3
   unfold topo_neighbors.l0
   repeat' first
   | (with_reducible exact ih0 _ _ _ _)
   | (with_reducible exact ih1 _ _ _)
   | (with_reducible exact LeO.refl _)
   | (with_reducible exact LeO.none _)
   | (with_reducible refine LeO.ite ?_ ?_)
   | (with_reducible refine LeO.bind ?_ (fun _ => ?_))
   | exact ih0 _ _ _ _
   | exact ih1 _ _ _
   | exact LeO.none _
   | refine LeO.ite ?_ ?_
   | refine LeO.bind ?_ (fun _ => ?_)
  ·intro y0 y1 y2
   unfold topo_neighbors.l1
   repeat' first
   | (with_reducible exact ih0 _ _ _ _)
   | (with_reducible exact ih1 _ _ _)
   | (with_reducible exact LeO.refl _)
   | (with_reducible exact LeO.none _)
   | (with_reducible refine LeO.ite ?_ ?_)
   | (with_reducible refine LeO.bind ?_ (fun _ => ?_))
   | exact ih0 _ _ _ _
   | exact ih1 _ _ _
   | exact LeO.none _
   | refine LeO.ite ?_ ?_
   | refine LeO.bind ?_ (fun _ => ?_)
theorem topo_neighbors.mono : ∀ a0 a1 k, LeO (topo_neighbors.f k a0 a1) (topo_neighbors.f (k + 1) a0 a1) := by
 intro a0 a1 k
 obtain ⟨ih0, ih1⟩ := topo_neighbors.mono_l k
 unfold topo_neighbors.f
 repeat' first
   | (with_reducible exact ih0 _ _ _ _)
   | (with_reducible exact ih1 _ _ _)
   | (with_reducible exact LeO.refl _)
   | (with_reducible exact LeO.none _)
   | (with_reducible refine LeO.ite ?_ ?_)
   | (with_reducible refine LeO.bind ?_ (fun _ => ?_))
   | exact ih0 _ _ _ _
   | exact ih1 _ _ _
   | exact LeO.none _
   | refine LeO.ite ?_ ?_
   | refine LeO.bind ?_ (fun _ => ?_)
def topo_neighbors.T5 : Bool × List (List Nat × List Nat) := (true, [([], []), ([], []), ([1], [1]), ([], []), ([], []), ([4], [4]), ([3, 5], [3, 5]), ([6], [6]), ([], []), ([8], [8]), ([9], [9]), ([7, 10], [7, 10]), ([0, 2, 0, 1, 2, 3, 4, 5, 6, 7, 8, 9, 10, 11], [0, 2]), ([12, 11, 11, 0, 1, 2, 3, 4, 5, 6, 7, 8, 9, 10, 11], [11, 12])])
def topo_neighbors.B5 : List Nat := [0, 0, 2, 0, 0, 16, 56, 120, 0, 256, 768, 2040, 4095, 8191]
theorem topo_neighbors.tab5 : rtab .any (opsOf Try.f59 5) = topo_neighbors.T5 := by kernel_rfl
theorem topo_neighbors.bits5 : waitsOk topo_neighbors.T5.2 topo_neighbors.B5 = true := by kernel_rfl
def topo_neighbors.T6 : Bool × List (List Nat × List Nat) := (true, [([], []), ([], []), ([1], [1]), ([], []), ([], []), ([4], [4]), ([3, 5], [3, 5]), ([6], [6]), ([], []), ([8], [8]), ([9], [9]), ([7, 10], [7, 10]), ([0, 2, 0, 1, 2, 3, 4, 5, 6, 7, 8, 9, 10, 11], [0, 2]), ([12, 11, 11, 0, 1, 2, 3, 4, 5, 6, 7, 8, 9, 10, 11], [11, 12])])
def topo_neighbors.B6 : List Nat := [0, 0, 2, 0, 0, 16, 56, 120, 0, 256, 768, 2040, 4095, 8191]
theorem topo_neighbors.tab6 : rtab .any (opsOf Try.f59 6) = topo_neighbors.T6 := by kernel_rfl
theorem topo_neighbors.bits6 : waitsOk topo_neighbors.T6.2 topo_neighbors.B6 = true := by kernel_rfl
set_option maxHeartbeats 8000000 in
set_option maxRecDepth 100000 in
theorem topo_neighbors.calls (k : Nat) (a0_0 : Int) (A0_1 : Option Addr) (c0_1 : Nat) (l0_1 : List (S37)) (r : List (List Int)) (w : World) (hr0_1 : Kd.C k37 w A0_1 l0_1.length l0_1) (hc0_1 : l0_1.length ≤ c0_1) (h : topo_neighbors.f k a0_0 l0_1 = some r) :
  Calls Try.prog 59 #[.agg #[.int .i64 a0_0, .slice A0_1 l0_1.length c0_1]] w fun e w' => ∃ v0_ : Value, e = .returned (v0_) ∧ Kd.S (Kd.slice 3 (Kd.int .i64)) 30 w' w.heap.size (fun _ => True) v0_ r ∧ Below w.heap.size w w' := by
 have hu24 := Try.underlying24
 have hu37 := Try.underlying37
 have HR0_1 := Aside0.mk hr0_1
 have HC0_1 := Aside0.mk hc0_1
 clear hr0_1 hc0_1
 have HB := Aside0.mk (Below.refl w.heap.size w)
 have H : (if 0 ≤ a0_0 then (if (a0_0 : Int).toNat ≤ 11728124029610 then (topo_neighbors.l0 k (List.replicate (a0_0 : Int).toNat []) l0_1 (l0_1.length : Int) 0) else (none)) else (none)) = some r := h
 clear h
 by_cases c2 : 0 ≤ a0_0
 ·rw [if_pos c2] at H
  have c2b0 := eq_true c2
  have c2b1 : decide (0 ≤ a0_0) = true := decide_eq_true c2
  clear c2
  by_cases c3 : (a0_0 : Int).toNat ≤ 11728124029610
  ·rw [if_pos c3] at H
   have c3b0 := eq_true c3
   have c3b1 : decide ((a0_0 : Int).toNat ≤ 11728124029610) = true := decide_eq_true c3
   clear c3
   obtain ⟨y132, hy132⟩ : ∃ y_ : List (List Int), y_ = (List.replicate (a0_0 : Int).toNat []) := ⟨_, rfl⟩
   replace H : (topo_neighbors.l0 k y132 l0_1 (l0_1.length : Int) 0) = some r := by first | (rw [hy132]; with_reducible exact H) | (have H2_ := (Option.bind_some _ _).symm.trans H; rw [hy132]; with_reducible exact H2_) | (have H2_ := (Option.bind_some _ _).symm.trans H; with_reducible exact H2_) | with_reducible exact H | (rw [hy132]; exact H) | exact H
   have Ny132 := Aside0.mk hy132
   clear hy132
   have H' := Aside0.mk H
   clear H
   go_enter Try.func59, Try.ntmps59
   go_wp2_with (first | ((with_reducible refine gate_dst (N := 1) rfl ?_); refine box_event ?hg (N := 1) ?hd (cs := #[.int .i64 a0_0, .slice A0_1 l0_1.length c0_1]) (t := 24) ?hr ?_; (case hd => rfl); (case hg => rfl); (case hr => first | (go_simp; done) | (go_simp; rfl)); intro gb131 hg w4 hbox hb; have n0_ := Aside0.mk (below_step (by repeat (first | (with_reducible first | exact HB.out | apply below_alloc | apply pw_below_drewN | apply below_drew1) | exact HB.out)) hb); have n1_ := Aside0.mk (hbox); have n2_ := Aside0.mk ((by rw [hg]; exact (below_size (by repeat (first | (with_reducible first | exact HB.out | apply below_alloc | apply pw_below_drewN | apply below_drew1) | exact HB.out))) : w.heap.size ≤ gb131)); have n3_ := Aside0.mk ((by rw [hg]; exact (below_size (by repeat (first | (with_reducible first | exact HB.out | apply below_alloc | apply pw_below_drewN | apply below_drew1) | exact HB.out))) : w.heap.size ≤ gb131)); clear HB; have HB := n0_; have BK131 := n1_; have GW131 := n2_; have GE131 := n3_; clear n0_ n1_ n2_ n3_; clear hb hbox hg; have hcz5_0 : w4.cell? ⟨gb131, 0, none⟩ = some (.int .i64 a0_0) := (blk_cell BK131.out 0).trans rfl; have hcz5_1 : w4.cell? ⟨gb131, 1, none⟩ = some (.slice A0_1 l0_1.length c0_1) := (blk_cell BK131.out 1).trans rfl; have hfz5_0 := blk_frozen BK131.out 0; have hfz5_1 := blk_frozen BK131.out 1) | ((with_reducible refine gate_dst (N := 9) rfl ?_); refine Kd.S_make (Kd.slice 3 (Kd.int .i64)) _ 30 rfl (N := 9) rfl 41 _ _ rfl a0_0 rfl rfl Try.underlying41 (.slice none 0 0) 24 info30 rfl (by decide) (by omega) [] (ok := fun _ => True) (okp := fun _ => True) ⟨_, rfl, Kd.R_nil _ _ _ _ _⟩ (fun _ hk => hk) trivial (of_decide_eq_true (by first | (with_reducible assumption) | assumption)) (Nat.le_trans (Nat.mul_le_mul_right _ (of_decide_eq_true (by first | (with_reducible assumption) | assumption) : a0_0.toNat ≤ 11728124029610)) (by omega)) (Below.refl _ _) (Nat.le_refl _) ?_; intro v133 w6 ho7 hb hg_ hnew_; clear hg_ hnew_; (first | rw [← Ny132.out] at ho7 | (simp only [Int.reduceToNat] at ho7; rw [← Ny132.out] at ho7)); have n0_ := Aside0.mk (Kd.S_lower ho7 (below_size (by repeat (first | (with_reducible first | exact HB.out | apply below_alloc | apply pw_below_drewN | apply below_drew1 | refine below_set ?_ GE131.out) | exact HB.out)))); have n1_ := Aside0.mk (blk_below (g := gb131) (o := .cells #[.int .i64 a0_0, .slice A0_1 l0_1.length c0_1] 24 (0, 0)) (by (with_reducible repeat (first | refine blk_drewN ?_ _ | refine blk_drew ?_ | refine blk_alloc ?_ _)); exact BK131.out) hb); have n2_ := Aside0.mk (below_step (by repeat (first | (with_reducible first | exact HB.out | apply below_alloc | apply pw_below_drewN | apply below_drew1 | refine below_set ?_ GE131.out) | exact HB.out)) hb); clear BK131; clear HB; have HO134 := n0_; have BK131 := n1_; have HB := n2_; clear n0_ n1_ n2_; clear hb ho7; have hcz8_0 : w6.cell? ⟨gb131, 0, none⟩ = some (.int .i64 a0_0) := (blk_cell BK131.out 0).trans rfl; have hcz8_1 : w6.cell? ⟨gb131, 1, none⟩ = some (.slice A0_1 l0_1.length c0_1) := (blk_cell BK131.out 1).trans rfl; have hfz8_0 := blk_frozen BK131.out 0; have hfz8_1 := blk_frozen BK131.out 1))
   go_loopg [13] k (fun kq v13 w' => ∃ (x3_1 : List (List Int)) (x13_1 : Int), v13 = .int .i64 x13_1 ∧ Aside0 (topo_neighbors.l0 kq x3_1 l0_1 (l0_1.length : Int) x13_1 = some r) ∧ Aside0 (kq ≤ k) ∧ Aside0 (Kd.S (Kd.slice 3 (Kd.int .i64)) 30 w' w.heap.size (fun _ => True) v133 x3_1) ∧ Aside0 (w'.heap[gb131]? = some (.cells #[.int .i64 a0_0, (.slice A0_1 l0_1.length c0_1)] 24 (0, 0))) ∧ Aside0 (Below w.heap.size w w'))
   case atStart => exact ⟨(y132), (0), (by first | rfl | (simp; done) | (simp [*]; done)), H', ⟨Nat.le_refl _⟩, ⟨by exact HO134.out⟩, ⟨by exact BK131.out⟩, ⟨by exact HB.out⟩⟩
   case round =>
    clear H'
















    obtain ⟨x3_1, x13_1, rfl, HA, HK1, HO_3, BK131, HB⟩ := hrel
    cases gk with
    | zero => exact absurd HA.out (by simp [topo_neighbors.l0])
    | succ k1 =>
     have H := HA.out
     clear HA
     simp only [topo_neighbors.l0] at H
     by_cases c9 : x13_1 < (l0_1.length : Int)
     ·rw [if_pos c9] at H
      have c9b0 : decide (x13_1 < (l0_1.length : Int)) = true := decide_eq_true c9
      clear c9
      by_cases c10 : 0 ≤ x13_1
      ·rw [if_pos c10] at H
       have c10b0 : decide (0 ≤ x13_1) = true := decide_eq_true c10
       clear c10
       by_cases c11 : x13_1 < (l0_1.length : Int)
       ·rw [if_pos c11] at H
        have c11b0 : decide (x13_1 < (l0_1.length : Int)) = true := decide_eq_true c11
        clear c11
        by_cases c12 : 0 ≤ ((rd_T37 l0_1 x13_1).f0)
        ·rw [if_pos c12] at H
         have c12b0 : decide (0 ≤ ((rd_T37 l0_1 x13_1).f0)) = true := decide_eq_true c12
         clear c12
         by_cases c13 : ((rd_T37 l0_1 x13_1).f0) < (x3_1.length : Int)
         ·rw [if_pos c13] at H
          have c13b0 : decide (((rd_T37 l0_1 x13_1).f0) < (x3_1.length : Int)) = true := decide_eq_true c13
          clear c13
          by_cases c14 : (rd_L3 x3_1 ((rd_T37 l0_1 x13_1).f0)).length < 17592186044416
          ·rw [if_pos c14] at H
           have LMc14 := Aside0.mk c14
           clear c14
           obtain ⟨y138, hy138⟩ : ∃ y_ : List Int, y_ = ((rd_L3 x3_1 ((rd_T37 l0_1 x13_1).f0)) ++ [(rd_T37 l0_1 x13_1).f2]) := ⟨_, rfl⟩
           replace H : ((some (x3_1.set (((rd_T37 l0_1 x13_1).f0) : Int).toNat y138 : List (List Int))).bind fun y141 => (if 0 ≤ ((rd_T37 l0_1 x13_1).f2) then (if ((rd_T37 l0_1 x13_1).f2) < (x3_1.length : Int) then (if (rd_L3 y141 ((rd_T37 l0_1 x13_1).f2)).length < 17592186044416 then (topo_neighbors.l0 k1 (y141.set (((rd_T37 l0_1 x13_1).f2) : Int).toNat ((rd_L3 y141 ((rd_T37 l0_1 x13_1).f2)) ++ [(rd_T37 l0_1 x13_1).f0])) l0_1 (l0_1.length : Int) (wrap64 (x13_1 + 1))) else (none)) else (none)) else (none))) = some r := by first | (rw [hy138]; with_reducible exact H) | (have H2_ := (Option.bind_some _ _).symm.trans H; rw [hy138]; with_reducible exact H2_) | (have H2_ := (Option.bind_some _ _).symm.trans H; with_reducible exact H2_) | with_reducible exact H | (rw [hy138]; exact H) | exact H
           have Ny138 := Aside0.mk hy138
           clear hy138
           obtain ⟨y141, hy141⟩ : ∃ y_ : List (List Int), y_ = (x3_1.set (((rd_T37 l0_1 x13_1).f0) : Int).toNat y138) := ⟨_, rfl⟩
           replace H : (if 0 ≤ ((rd_T37 l0_1 x13_1).f2) then (if ((rd_T37 l0_1 x13_1).f2) < (x3_1.length : Int) then (if (rd_L3 y141 ((rd_T37 l0_1 x13_1).f2)).length < 17592186044416 then (topo_neighbors.l0 k1 (y141.set (((rd_T37 l0_1 x13_1).f2) : Int).toNat ((rd_L3 y141 ((rd_T37 l0_1 x13_1).f2)) ++ [(rd_T37 l0_1 x13_1).f0])) l0_1 (l0_1.length : Int) (wrap64 (x13_1 + 1))) else (none)) else (none)) else (none)) = some r := by first | (rw [hy141]; with_reducible exact H) | (have H2_ := (Option.bind_some _ _).symm.trans H; rw [hy141]; with_reducible exact H2_) | (have H2_ := (Option.bind_some _ _).symm.trans H; with_reducible exact H2_) | with_reducible exact H | (rw [hy141]; exact H) | exact H
           have Ny141 := Aside0.mk hy141
           clear hy141
           by_cases c16 : 0 ≤ ((rd_T37 l0_1 x13_1).f2)
           ·rw [if_pos c16] at H
            have c16b0 : decide (0 ≤ ((rd_T37 l0_1 x13_1).f2)) = true := decide_eq_true c16
            clear c16
            by_cases c17 : ((rd_T37 l0_1 x13_1).f2) < (x3_1.length : Int)
            ·rw [if_pos c17] at H
             have c17b0 : decide (((rd_T37 l0_1 x13_1).f2) < (x3_1.length : Int)) = true := decide_eq_true c17
             clear c17
             by_cases c18 : (rd_L3 y141 ((rd_T37 l0_1 x13_1).f2)).length < 17592186044416
             ·rw [if_pos c18] at H
              have LMc18 := Aside0.mk c18
              clear c18
              obtain ⟨y143, hy143⟩ : ∃ y_ : List Int, y_ = ((rd_L3 y141 ((rd_T37 l0_1 x13_1).f2)) ++ [(rd_T37 l0_1 x13_1).f0]) := ⟨_, rfl⟩
              replace H : (topo_neighbors.l0 k1 (y141.set (((rd_T37 l0_1 x13_1).f2) : Int).toNat y143) l0_1 (l0_1.length : Int) (wrap64 (x13_1 + 1))) = some r := by first | (rw [hy143]; with_reducible exact H) | (have H2_ := (Option.bind_some _ _).symm.trans H; rw [hy143]; with_reducible exact H2_) | (have H2_ := (Option.bind_some _ _).symm.trans H; with_reducible exact H2_) | with_reducible exact H | (rw [hy143]; exact H) | exact H
              have Ny143 := Aside0.mk hy143
              clear hy143
              obtain ⟨y146, hy146⟩ : ∃ y_ : List (List Int), y_ = (y141.set (((rd_T37 l0_1 x13_1).f2) : Int).toNat y143) := ⟨_, rfl⟩
              replace H : (topo_neighbors.l0 k1 y146 l0_1 (l0_1.length : Int) (wrap64 (x13_1 + 1))) = some r := by first | (rw [hy146]; with_reducible exact H) | (have H2_ := (Option.bind_some _ _).symm.trans H; rw [hy146]; with_reducible exact H2_) | (have H2_ := (Option.bind_some _ _).symm.trans H; with_reducible exact H2_) | with_reducible exact H | (rw [hy146]; exact H) | exact H
              have Ny146 := Aside0.mk hy146
              clear hy146
              have H' := Aside0.mk H
              clear H
              have p135 : 0 ≤ (x13_1 : Int) := of_decide_eq_true (by first | (with_reducible assumption) | assumption)
              have q135 : x13_1 < (l0_1.length : Int) := of_decide_eq_true (by first | (with_reducible assumption) | assumption)
              obtain ⟨ad135, e135, hx135_0, hx135_1, hx135_2, hx135_3⟩ := at_T37 HR0_1.out x13_1 p135 q135
              cases e135
              try replace hx135_0 := (HB.out.cell (World.block_lt_of_cell? w _ hx135_0)).trans hx135_0
              try replace hx135_1 := (HB.out.cell (World.block_lt_of_cell? w _ hx135_1)).trans hx135_1
              try replace hx135_2 := (HB.out.cell (World.block_lt_of_cell? w _ hx135_2)).trans hx135_2
              try replace hx135_3 := (HB.out.cell (World.block_lt_of_cell? w _ hx135_3)).trans hx135_3
              replace p135 := eq_true p135
              replace q135 := eq_true q135
              try go_wp2_with (first | ((with_reducible refine gate_dst (N := 5) rfl ?_); refine box_event ?hg (N := 5) ?hd (cs := #[.int .i64 0, .int .i64 0, .int .i64 0, .int .i64 0]) (t := 37) ?hr ?_; (case hd => rfl); (case hg => rfl); (case hr => first | (go_simp; done) | (go_simp; rfl)); intro gb136 hg w20 hbox hb; have n0_ := Aside0.mk (Kd.S_below (by (with_reducible repeat (first | apply Kd.S_alloc | apply Kd.S_drewN | apply Kd.S_drew)); exact HO_3.out) hb); have n1_ := Aside0.mk (blk_below (g := gb131) (o := .cells #[.int .i64 a0_0, .slice (some ad135) l0_1.length c0_1] 24 (0, 0)) (by (with_reducible repeat (first | refine blk_drewN ?_ _ | refine blk_drew ?_ | refine blk_alloc ?_ _)); exact BK131.out) hb); have n2_ := Aside0.mk (below_step (by repeat (first | (with_reducible first | exact HB.out | apply below_alloc | apply pw_below_drewN | apply below_drew1 | refine below_set ?_ GE131.out) | exact HB.out)) hb); have n3_ := Aside0.mk (hbox); have n4_ := Aside0.mk ((by rw [hg]; exact (below_size (by repeat (first | (with_reducible first | exact HB.out | apply below_alloc | apply pw_below_drewN | apply below_drew1 | refine below_set ?_ GE131.out) | exact HB.out))) : w.heap.size ≤ gb136)); have n5_ := Aside0.mk ((by rw [hg]; exact (below_size (by repeat (first | (with_reducible first | exact HB.out | apply below_alloc | apply pw_below_drewN | apply below_drew1 | refine below_set ?_ GE131.out) | exact HB.out))) : w.heap.size ≤ gb136)); have n6_ := Aside0.mk ((by rw [hg]; exact Nat.ne_of_lt (blk_lt (g := gb131) (o := .cells #[.int .i64 a0_0, .slice (some ad135) l0_1.length c0_1] 24 (0, 0)) (by (with_reducible repeat (first | refine blk_drewN ?_ _ | refine blk_drew ?_ | refine blk_alloc ?_ _)); exact BK131.out)) : gb131 ≠ gb136)); have n7_ := Aside0.mk ((by rw [hg]; exact Nat.ne_of_gt (blk_lt (g := gb131) (o := .cells #[.int .i64 a0_0, .slice (some ad135) l0_1.length c0_1] 24 (0, 0)) (by (with_reducible repeat (first | refine blk_drewN ?_ _ | refine blk_drew ?_ | refine blk_alloc ?_ _)); exact BK131.out)) : gb136 ≠ gb131)); clear HO_3; clear BK131; clear HB; have HO_3 := n0_; have BK131 := n1_; have HB := n2_; have BK136 := n3_; have GW136 := n4_; have GE136 := n5_; have NB131_136 := n6_; have NB136_131 := n7_; clear n0_ n1_ n2_ n3_ n4_ n5_ n6_ n7_; clear hb hbox hg; have hnb21 := NB136_131.out; have hnc21 := NB131_136.out; have hcz22_0 : w20.cell? ⟨gb136, 0, none⟩ = some (.int .i64 0) := (blk_cell BK136.out 0).trans rfl; have hcz22_1 : w20.cell? ⟨gb136, 1, none⟩ = some (.int .i64 0) := (blk_cell BK136.out 1).trans rfl; have hcz22_2 : w20.cell? ⟨gb136, 2, none⟩ = some (.int .i64 0) := (blk_cell BK136.out 2).trans rfl; have hcz22_3 : w20.cell? ⟨gb136, 3, none⟩ = some (.int .i64 0) := (blk_cell BK136.out 3).trans rfl; have hfz22_0 := blk_frozen BK136.out 0; have hfz22_1 := blk_frozen BK136.out 1; have hfz22_2 := blk_frozen BK136.out 2; have hfz22_3 := blk_frozen BK136.out 3))
              have n0_ : Aside0 (Kd.S (Kd.slice 3 (Kd.int .i64)) 30 ((((w20.setCell ⟨gb136, 0, none⟩ (.int .i64 ((rd_T37 l0_1 x13_1).f0))).setCell ⟨gb136, 1, none⟩ (.int .i64 ((rd_T37 l0_1 x13_1).f1))).setCell ⟨gb136, 2, none⟩ (.int .i64 ((rd_T37 l0_1 x13_1).f2))).setCell ⟨gb136, 3, none⟩ (.int .i64 ((rd_T37 l0_1 x13_1).f3))) w.heap.size (fun _ => True) v133 x3_1) := ⟨by exact Kd.S_mono (Kd.S_far (p := ⟨gb136, 3, none⟩) (Kd.S_far (p := ⟨gb136, 2, none⟩) (Kd.S_far (p := ⟨gb136, 1, none⟩) (Kd.S_far (p := ⟨gb136, 0, none⟩) (Kd.S_types HO_3.out BK136.out (by decide)) (fun _ hk => hk.2) (.int .i64 ((rd_T37 l0_1 x13_1).f0))) (fun _ hk => hk.2) (.int .i64 ((rd_T37 l0_1 x13_1).f1))) (fun _ hk => hk.2) (.int .i64 ((rd_T37 l0_1 x13_1).f2))) (fun _ hk => hk.2) (.int .i64 ((rd_T37 l0_1 x13_1).f3))) (fun _ hk => trivial)⟩
              have n1_ : Aside0 (((((w20.setCell ⟨gb136, 0, none⟩ (.int .i64 ((rd_T37 l0_1 x13_1).f0))).setCell ⟨gb136, 1, none⟩ (.int .i64 ((rd_T37 l0_1 x13_1).f1))).setCell ⟨gb136, 2, none⟩ (.int .i64 ((rd_T37 l0_1 x13_1).f2))).setCell ⟨gb136, 3, none⟩ (.int .i64 ((rd_T37 l0_1 x13_1).f3))).heap[gb131]? = some (.cells #[.int .i64 a0_0, .slice (some ad135) l0_1.length c0_1] 24 (0, 0))) := ⟨by (with_reducible repeat (first | refine blk_drewN ?_ _ | refine blk_drew ?_ | refine blk_alloc ?_ _)); refine blk_far ?_ NB131_136.out _; (with_reducible repeat (first | refine blk_drewN ?_ _ | refine blk_drew ?_ | refine blk_alloc ?_ _)); refine blk_far ?_ NB131_136.out _; (with_reducible repeat (first | refine blk_drewN ?_ _ | refine blk_drew ?_ | refine blk_alloc ?_ _)); refine blk_far ?_ NB131_136.out _; (with_reducible repeat (first | refine blk_drewN ?_ _ | refine blk_drew ?_ | refine blk_alloc ?_ _)); refine blk_far ?_ NB131_136.out _; exact BK131.out⟩
              have n2_ : Aside0 (((((w20.setCell ⟨gb136, 0, none⟩ (.int .i64 ((rd_T37 l0_1 x13_1).f0))).setCell ⟨gb136, 1, none⟩ (.int .i64 ((rd_T37 l0_1 x13_1).f1))).setCell ⟨gb136, 2, none⟩ (.int .i64 ((rd_T37 l0_1 x13_1).f2))).setCell ⟨gb136, 3, none⟩ (.int .i64 ((rd_T37 l0_1 x13_1).f3))).heap[gb136]? = some (.cells #[.int .i64 ((rd_T37 l0_1 x13_1).f0), .int .i64 ((rd_T37 l0_1 x13_1).f1), .int .i64 ((rd_T37 l0_1 x13_1).f2), .int .i64 ((rd_T37 l0_1 x13_1).f3)] 37 (0, 0))) := ⟨by (with_reducible repeat (first | refine blk_drewN ?_ _ | refine blk_drew ?_ | refine blk_alloc ?_ _)); refine blk_put (cs := #[.int .i64 ((rd_T37 l0_1 x13_1).f0), .int .i64 ((rd_T37 l0_1 x13_1).f1), .int .i64 ((rd_T37 l0_1 x13_1).f2), .int .i64 0]) ?_ 3 _ rfl; (with_reducible repeat (first | refine blk_drewN ?_ _ | refine blk_drew ?_ | refine blk_alloc ?_ _)); refine blk_put (cs := #[.int .i64 ((rd_T37 l0_1 x13_1).f0), .int .i64 ((rd_T37 l0_1 x13_1).f1), .int .i64 0, .int .i64 0]) ?_ 2 _ rfl; (with_reducible repeat (first | refine blk_drewN ?_ _ | refine blk_drew ?_ | refine blk_alloc ?_ _)); refine blk_put (cs := #[.int .i64 ((rd_T37 l0_1 x13_1).f0), .int .i64 0, .int .i64 0, .int .i64 0]) ?_ 1 _ rfl; (with_reducible repeat (first | refine blk_drewN ?_ _ | refine blk_drew ?_ | refine blk_alloc ?_ _)); refine blk_put (cs := #[.int .i64 0, .int .i64 0, .int .i64 0, .int .i64 0]) ?_ 0 _ rfl; exact BK136.out⟩
              have n3_ : Aside0 (Below w.heap.size w ((((w20.setCell ⟨gb136, 0, none⟩ (.int .i64 ((rd_T37 l0_1 x13_1).f0))).setCell ⟨gb136, 1, none⟩ (.int .i64 ((rd_T37 l0_1 x13_1).f1))).setCell ⟨gb136, 2, none⟩ (.int .i64 ((rd_T37 l0_1 x13_1).f2))).setCell ⟨gb136, 3, none⟩ (.int .i64 ((rd_T37 l0_1 x13_1).f3)))) := ⟨by repeat (first | (with_reducible first | exact HB.out | apply below_alloc | apply pw_below_drewN | apply below_drew1 | refine below_set ?_ GE131.out | refine below_set ?_ GE136.out) | exact HB.out)⟩




              generalize ((((w20.setCell ⟨gb136, 0, none⟩ (.int .i64 ((rd_T37 l0_1 x13_1).f0))).setCell ⟨gb136, 1, none⟩ (.int .i64 ((rd_T37 l0_1 x13_1).f1))).setCell ⟨gb136, 2, none⟩ (.int .i64 ((rd_T37 l0_1 x13_1).f2))).setCell ⟨gb136, 3, none⟩ (.int .i64 ((rd_T37 l0_1 x13_1).f3))) = w23 at n0_ n1_ n2_ n3_ ⊢
              have HO_3 := n0_
              have BK131 := n1_
              have BK136 := n2_
              have HB := n3_
              clear n0_ n1_ n2_ n3_
              have n0_ := Aside0.mk (Kd.S_drew HO_3.out)
              have n1_ := Aside0.mk (blk_drew BK131.out)
              have n2_ := Aside0.mk (blk_drew BK136.out)
              have n3_ := Aside0.mk (below_drew1 HB.out)
              clear HO_3
              clear BK131
              clear BK136
              clear HB
              have HO_3 := n0_
              have BK131 := n1_
              have BK136 := n2_
              have HB := n3_
              clear n0_ n1_ n2_ n3_
              obtain ⟨Ao25, co25, eo25⟩ := Kd.S_slice HO_3.out
              (first | subst eo25 | (injection eo25 with f1_ f2_ f3_; have f4_ := f1_.symm; have f5_ := f3_.symm; clear f1_ f2_ f3_; subst f4_; subst f5_))
              have p137 : 0 ≤ (((rd_T37 l0_1 x13_1).f0) : Int) := of_decide_eq_true (by first | (with_reducible assumption) | assumption)
              have q137 : ((rd_T37 l0_1 x13_1).f0) < (x3_1.length : Int) := of_decide_eq_true (by first | (with_reducible assumption) | assumption)
              obtain ⟨ad137, A137_0, c137_0, e137, hx137_0, hl137_0, hi137_0⟩ := at_L3 (Kd.S_reads' HO_3.out).2.2 ((rd_T37 l0_1 x13_1).f0) p137 q137
              cases e137
              obtain ⟨ce137, hce137, hMe137, hcc137⟩ := Kd.S_get HO_3.out [] ((rd_T37 l0_1 x13_1).f0) p137 (by first | exact q137 | exact of_decide_eq_true (by first | (with_reducible assumption) | assumption) | (have e_ := (Kd.S_reads' HO_3.out).1; omega))
              obtain ⟨ve137_0, rfl, ge137_0⟩ := hMe137
              have hv137_0 := hcc137 0 _ rfl
              rw [Nat.add_zero, show ((Kd.slice 3 (Kd.int .i64))).sz = 1 from rfl, Nat.mul_one] at hv137_0
              replace hv137_0 := Option.some.inj (hv137_0.symm.trans hx137_0)
              rw [hv137_0] at ge137_0
              have HL137_0 := Aside0.mk (show Kd.R (Kd.int .i64) 3 _ _ _ _ (rd_L3 x3_1 ((rd_T37 l0_1 x13_1).f0)) from ge137_0)
              clear hv137_0 ge137_0
              have HX137_0 := Aside0.mk hx137_0
              clear hcc137 hce137
              have HR137_0 := Aside0.mk hi137_0
              have HC137_0 := Aside0.mk hl137_0
              clear hi137_0 hl137_0
              replace p137 := eq_true p137
              replace q137 := eq_true q137
              obtain ⟨go26, co26, eo26, gb26, gl26, cl26, HG26⟩ := Kd.S_form HO_3.out (by have h_ : (((rd_T37 l0_1 x13_1).f0) : Int) < ((x3_1.length : Int) : Int) := of_decide_eq_true (by first | (with_reducible assumption) | assumption); have h2_ : 0 ≤ (((rd_T37 l0_1 x13_1).f0) : Int) := (of_decide_eq_true (by first | (with_reducible assumption) | assumption)); omega)
              (first | cases eo26 | (injection eo26 with ea_ en_ ec_; (first | subst ea_ | (injection ea_ with ea_; subst ea_)); subst ec_; clear en_))
              have GB26 := Aside0.mk gb26
              have GG26 := Aside0.mk HG26
              clear gb26 gl26 HG26
              (first | simp only [add_plain] at hx137_0 | skip)
              obtain ⟨oki26, ce26, hcl26, hM26, hcc26, _, _, hH26⟩ := Kd.S_elem HO_3.out [] (((rd_T37 l0_1 x13_1).f0) : Int) (of_decide_eq_true (by first | (with_reducible assumption) | assumption)) (by have h_ : (((rd_T37 l0_1 x13_1).f0) : Int) < ((x3_1.length : Int) : Int) := of_decide_eq_true (by first | (with_reducible assumption) | assumption); first | exact h_ | (have e_ := (Kd.S_reads' HO_3.out).1; omega) | simpa using h_)
              obtain ⟨ve26_0, rfl, ge26_0⟩ := hM26
              have hv26 := hcc26 0 _ rfl
              have hX26 := HX137_0.out
              (try simp only [add_plain] at hX26)
              (try simp only [Nat.add_zero] at hv26)
              (try rw [show ((Kd.slice 3 (Kd.int .i64))).sz = 1 from rfl, Nat.mul_one] at hv26)
              replace hv26 := Option.some.inj (hv26.symm.trans hX26)
              subst hv26
              clear hX26 hcc26 hcl26
              have UU26 := Aside0.mk (show Kd.R (Kd.int .i64) 3 _ w.heap.size oki26 (.slice A137_0 (rd_L3 x3_1 ((rd_T37 l0_1 x13_1).f0)).length c137_0) (rd_L3 x3_1 ((rd_T37 l0_1 x13_1).f0)) from ge26_0)
              have HH26 := Aside0.mk hH26
              have HN26 := Aside0.mk (Kd.S_reads' HO_3.out).1
              clear hH26 ge26_0
              refine start_ (n := 14) (S := fun w' => w'.cell? ⟨gb136, 0, none⟩ = some (.int .i64 ((rd_T37 l0_1 x13_1).f0)) ∧ w'.cell? ⟨gb136, 1, none⟩ = some (.int .i64 ((rd_T37 l0_1 x13_1).f1)) ∧ w'.cell? ⟨gb136, 2, none⟩ = some (.int .i64 ((rd_T37 l0_1 x13_1).f2)) ∧ w'.cell? ⟨gb136, 3, none⟩ = some (.int .i64 ((rd_T37 l0_1 x13_1).f3)) ∧ w'.cell? ⟨go26, (((rd_T37 l0_1 x13_1).f0)).toNat, none⟩ = some (.slice A137_0 (rd_L3 x3_1 ((rd_T37 l0_1 x13_1).f0)).length c137_0)) (ds := [13]) #[false, false, false, false, false, false, false, false, false, false, false, false, false, false] (by kernel_rfl) rfl rfl ⟨(blk_cell BK136.out 0).trans rfl, (blk_cell BK136.out 1).trans rfl, (blk_cell BK136.out 2).trans rfl, (blk_cell BK136.out 3).trans rfl, hx137_0⟩ (fun hHeld => ?_); refine with_tabW topo_neighbors.tab5 topo_neighbors.bits5 (fun HT_ HW_ => ?_)
              generalize w23.drew = w24 at HO_3 BK131 BK136 HB GG26 HH26 HL137_0 HR137_0 HX137_0 UU26 hx137_0 hHeld ⊢
              refine pure_ (i := 0) (N := some 17) (v := ?_) (a' := ?_) #[true, false, false, false, false, false, false, false, false, false, false, false, false, false] rfl rfl (any_of HT_.out (by kernel_rfl)) (fun _ _ _ h => h) (Or.inl ⟨by rfl, ?_⟩) ?_ ?_
              rotate_left
              ·intro w'
               go_simp
               with_reducible rfl
              rotate_left
              ·simp only [Act.put, List.setIfInBounds_toArray, List.set_cons_zero, List.set_cons_succ, i64_w, i32_w]
               rfl
              refine pure_ (i := 1) (N := some 18) (v := ?_) (a' := ?_) #[true, true, false, false, false, false, false, false, false, false, false, false, false, false] rfl rfl (any_of HT_.out (by kernel_rfl)) (fun _ _ _ h => h) (Or.inl ⟨by rfl, ?_⟩) ?_ ?_
              rotate_left
              ·intro w'
               go_simp
               with_reducible rfl
              rotate_left
              ·simp only [Act.put, List.setIfInBounds_toArray, List.set_cons_zero, List.set_cons_succ, i64_w, i32_w]
               rfl
              refine pure_ (i := 3) (N := some 20) (v := ?_) (a' := ?_) #[true, true, false, true, false, false, false, false, false, false, false, false, false, false] rfl rfl (any_of HT_.out (by kernel_rfl)) (fun _ _ _ h => h) (Or.inl ⟨by rfl, ?_⟩) ?_ ?_
              rotate_left
              ·intro w'
               go_simp
               with_reducible rfl
              rotate_left
              ·simp only [Act.put, List.setIfInBounds_toArray, List.set_cons_zero, List.set_cons_succ, i64_w, i32_w]
               rfl
              refine pure_ (i := 4) (N := some 21) (v := ?_) (a' := ?_) #[true, true, false, true, true, false, false, false, false, false, false, false, false, false] rfl rfl (any_of HT_.out (by kernel_rfl)) (fun _ _ _ h => h) (Or.inl ⟨by rfl, ?_⟩) ?_ ?_
              rotate_left
              ·intro w'
               go_simp
               with_reducible rfl
              rotate_left
              ·simp only [Act.put, List.setIfInBounds_toArray, List.set_cons_zero, List.set_cons_succ, i64_w, i32_w]
               rfl
              refine pure_ (i := 8) (N := some 25) (v := ?_) (a' := ?_) #[true, true, false, true, true, false, false, false, true, false, false, false, false, false] rfl rfl (any_of HT_.out (by kernel_rfl)) (fun _ _ _ h => h) (Or.inl ⟨by rfl, ?_⟩) ?_ ?_
              rotate_left
              ·intro w'
               go_simp
               with_reducible rfl
              rotate_left
              ·simp only [Act.put, List.setIfInBounds_toArray, List.set_cons_zero, List.set_cons_succ, i64_w, i32_w]
               rfl
              refine take_ (i := 2) (N := some 19) (v := ?_) (a' := ?_) #[true, true, true, true, true, false, false, false, true, false, false, false, false, false] rfl rfl (take_ofW HT_.out HW_.out (by kernel_rfl)) (fun _ _ _ h => h) (Or.inl ⟨by rfl, ?_⟩) hHeld ?_ ?_
              rotate_left
              ·rintro w' ⟨s0, s1, s2, s3, s4⟩
               go_simp
               with_reducible rfl
              rotate_left
              ·simp only [Act.put, List.setIfInBounds_toArray, List.set_cons_zero, List.set_cons_succ, i64_w, i32_w]
               rfl
              refine take_ (i := 5) (N := some 22) (v := ?_) (a' := ?_) #[true, true, true, true, true, true, false, false, true, false, false, false, false, false] rfl rfl (take_ofW HT_.out HW_.out (by kernel_rfl)) (fun _ _ _ h => h) (Or.inl ⟨by rfl, ?_⟩) hHeld ?_ ?_
              rotate_left
              ·rintro w' ⟨s0, s1, s2, s3, s4⟩
               go_simp
               with_reducible rfl
              rotate_left
              ·simp only [Act.put, List.setIfInBounds_toArray, List.set_cons_zero, List.set_cons_succ, i64_w, i32_w]
               rfl
              refine pure_ (i := 6) (N := some 23) (v := ?_) (a' := ?_) #[true, true, true, true, true, true, true, false, true, false, false, false, false, false] rfl rfl (any_of HT_.out (by kernel_rfl)) (fun _ _ _ h => h) (Or.inl ⟨by rfl, ?_⟩) ?_ ?_
              rotate_left
              ·intro w'
               go_simp
               with_reducible rfl
              rotate_left
              ·simp only [Act.put, List.setIfInBounds_toArray, List.set_cons_zero, List.set_cons_succ, i64_w, i32_w]
               rfl
              refine take_ (i := 7) (N := some 24) (v := ?_) (a' := ?_) #[true, true, true, true, true, true, true, true, true, false, false, false, false, false] rfl rfl (take_ofW HT_.out HW_.out (by kernel_rfl)) (fun _ _ _ h => h) (Or.inl ⟨by rfl, ?_⟩) hHeld ?_ ?_
              rotate_left
              ·rintro w' ⟨s0, s1, s2, s3, s4⟩
               go_simp
               with_reducible rfl
              rotate_left
              ·simp only [Act.put, List.setIfInBounds_toArray, List.set_cons_zero, List.set_cons_succ, i64_w, i32_w]
               rfl
              refine take_ (i := 9) (N := some 26) (v := ?_) (a' := ?_) #[true, true, true, true, true, true, true, true, true, true, false, false, false, false] rfl rfl (take_ofW HT_.out HW_.out (by kernel_rfl)) (fun _ _ _ h => h) (Or.inl ⟨by rfl, ?_⟩) hHeld ?_ ?_
              rotate_left
              ·rintro w' ⟨s0, s1, s2, s3, s4⟩
               go_simp
               with_reducible rfl
              rotate_left
              ·simp only [Act.put, List.setIfInBounds_toArray, List.set_cons_zero, List.set_cons_succ, i64_w, i32_w]
               rfl
              refine one_ (i := 10) (N := some 27) #[true, true, true, true, true, true, true, true, true, true, true, false, false, false] rfl rfl (one_of HT_.out (by kernel_rfl)) (by decide) (fun K hK => ?_)
              refine value_ (w1 := ?_) (v := ?_) (by rfl) rfl ?_ ?_
              rotate_left 2
              ·go_simp
               constructor
               ·rfl
               ·rfl
              refine hK.out _ _ ⟨(blk_cell (blk_alloc BK136.out _) 0).trans rfl, (blk_cell (blk_alloc BK136.out _) 1).trans rfl, (blk_cell (blk_alloc BK136.out _) 2).trans rfl, (blk_cell (blk_alloc BK136.out _) 3).trans rfl, (World.cell?_alloc_lt _ _ _ (World.block_lt_of_cell? _ _ (hHeld.2.2.2.2))).trans (hHeld.2.2.2.2)⟩ (fun hHeld => ?_)
              clear hK K
              refine norm_ (a' := ?_) ?_ ?_
              rotate_left
              ·show Act.put _ (some 27) _ = _
               simp only [Act.put, List.setIfInBounds_toArray, List.set_cons_zero, List.set_cons_succ, i64_w, i32_w]
               rfl
              refine one_ (i := 11) (N := some 28) #[true, true, true, true, true, true, true, true, true, true, true, true, false, false] rfl rfl (one_of HT_.out (by kernel_rfl)) (by decide) (fun K hK => ?_)
              refine Kd.R_append_step (Kd.int .i64) (w0 := w) w.heap.size (by rfl) (.tmp 24) (.tmp 27) 30 3 (.int .i64 0) 8 rfl Try.underlying30 info3 rfl (by decide) (by omega) (.slice A137_0 (rd_L3 x3_1 ((rd_T37 l0_1 x13_1).f0)).length c137_0) (rd_L3 x3_1 ((rd_T37 l0_1 x13_1).f0)) ((rd_T37 l0_1 x13_1).f2) [.int .i64 ((rd_T37 l0_1 x13_1).f2)] (fun k_ => oki26 k_ ∨ ((fun _ => True)) k_ ∧ w24.heap.size ≤ k_) (fun _ => False) rfl rfl ?aP (fun _ hk => hk.elim) ?aF ?aO ?aB ?aS ?aL ?_
              (case aP => exact rfl)
              (case aB => exact (by exact HB.out))
              (case aF => exact (fun k_ hk => .inr ⟨trivial, hk⟩))
              (case aO => exact (by exact Kd.R_mono UU26.out (fun _ hk => .inl hk)))
              (case aS => exact (below_size (by exact HB.out)))
              (case aL => have := LMc14.out; omega)
              intro v139 w27 ho hb hg hat
              (first | have HS4_ := Go.Proofs.YthkpnkmbmlbefaaW.PrintWords.cell_grown hg (hHeld.2.2.2.2) (by first | (rw [add_block]; exact (fun e_ => ((HL137_0.out.1 _ e_.symm).2) rfl)) | (show some (Addr.add _ _).block ≠ _; rw [add_block]; exact (fun e_ => ((HL137_0.out.1 _ e_.symm).2) rfl)) | exact (fun e_ => ((HL137_0.out.1 _ e_.symm).2) rfl)) | have HS4_ := Go.Proofs.YthkpnkmbmlbefaaW.PrintWords.cell_grown hg (cell_unalloc (hHeld.2.2.2.2) (by first | (rw [add_block]; exact Kd.S_lt HO_3.out _ rfl) | (show (Addr.add _ _).block < _; rw [add_block]; exact Kd.S_lt HO_3.out _ rfl) | exact Kd.S_lt HO_3.out _ rfl)) (by first | (rw [add_block]; exact (fun e_ => ((HL137_0.out.1 _ e_.symm).2) rfl)) | (show some (Addr.add _ _).block ≠ _; rw [add_block]; exact (fun e_ => ((HL137_0.out.1 _ e_.symm).2) rfl)) | exact (fun e_ => ((HL137_0.out.1 _ e_.symm).2) rfl)))
              rw [← Ny138.out] at ho
              have n0_ := Aside0.mk (blk_grown (g := gb131) (o := .cells #[.int .i64 a0_0, .slice (some ad135) l0_1.length c0_1] 24 (0, 0)) (by exact BK131.out) hg (Kd.R_ne HL137_0.out BK131.out (by decide)))
              have n1_ := Aside0.mk (blk_grown (g := gb136) (o := .cells #[.int .i64 ((rd_T37 l0_1 x13_1).f0), .int .i64 ((rd_T37 l0_1 x13_1).f1), .int .i64 ((rd_T37 l0_1 x13_1).f2), .int .i64 ((rd_T37 l0_1 x13_1).f3)] 37 (0, 0)) (by exact BK136.out) hg (Kd.R_ne HL137_0.out BK136.out (by decide)))
              have n2_ := Aside0.mk (hb)
              have n3_ := Aside0.mk (Kd.H_grown (Kd.H_widen (by repeat (first | exact HH26.out | refine Kd.H_alloc ?_ _ | refine Kd.H_drewN ?_ _ | refine Kd.H_drew ?_))) hg (fun k_ e_ => .inl (UU26.out.1 k_ e_)))
              have n4_ := Aside0.mk (ho)
              clear BK131
              clear BK136
              clear HB
              clear HH26
              clear HO_3
              clear UU26
              clear HL137_0
              have BK131 := n0_
              have BK136 := n1_
              have HB := n2_
              have HH26 := n3_
              have HO140 := n4_
              clear n0_ n1_ n2_ n3_ n4_
              clear ho hb hg hat
              have p15 : 0 ≤ (((rd_T37 l0_1 x13_1).f0) : Int) := of_decide_eq_true (by first | (with_reducible assumption) | assumption)
              have q15 : (((rd_T37 l0_1 x13_1).f0) : Int) < ((x3_1.length : Int) : Int) := of_decide_eq_true (by first | (with_reducible assumption) | assumption)
              replace p15 := eq_true p15
              replace q15 := eq_true q15
              obtain ⟨Ao30, co30, eo30⟩ := Kd.R_slice HO140.out
              (first | subst eo30 | (injection eo30 with f1_ f2_ f3_; have f4_ := f1_.symm; have f5_ := f3_.symm; clear f1_ f2_ f3_; subst f4_; subst f5_))
              obtain ⟨_, _, hraw28, _, _, hcc28, _⟩ := Kd.H_raw HH26.out (of_decide_eq_true (by first | (with_reducible assumption) | assumption)) (by have h_ : (((rd_T37 l0_1 x13_1).f0) : Int) < ((x3_1.length : Int) : Int) := of_decide_eq_true (by first | (with_reducible assumption) | assumption); first | exact h_ | (have e_ := (HN26.out); omega) | simpa using h_)
              obtain ⟨_, hfr28⟩ := Kd.H_at HH26.out (of_decide_eq_true (by first | (with_reducible assumption) | assumption)) (by have h_ : (((rd_T37 l0_1 x13_1).f0) : Int) < ((x3_1.length : Int) : Int) := of_decide_eq_true (by first | (with_reducible assumption) | assumption); first | exact h_ | (have e_ := (HN26.out); omega) | simpa using h_)
              have hx28_0 := hcc28 0 _ rfl
              have hf28_0 := hfr28 0
              (try simp only [Nat.add_zero] at hx28_0 hf28_0)
              (try rw [show ((Kd.slice 3 (Kd.int .i64))).sz = 1 from rfl, Nat.mul_one] at hx28_0)
              (try rw [show ((Kd.slice 3 (Kd.int .i64))).sz = 1 from rfl, Nat.mul_one] at hf28_0)
              have HP28 := Kd.S_seg0 HH26.out (of_decide_eq_true (by first | (with_reducible assumption) | assumption)) (by have h_ : (((rd_T37 l0_1 x13_1).f0) : Int) < ((x3_1.length : Int) : Int) := of_decide_eq_true (by first | (with_reducible assumption) | assumption); first | exact h_ | (have e_ := (HN26.out); omega) | simpa using h_) (seg := [.slice Ao30 y138.length co30]) (j := 0) (show 1 ≤ 1 from by decide) (x' := y138) (Kd.M_row HO140.out) (fun _ hk => hk)
              (try simp only [show ((Kd.slice 3 (Kd.int .i64))).sz = 1 from rfl, Nat.mul_one, Nat.add_zero] at HP28)
              clear hcc28 hfr28
              have HNB131_go26 := Aside0.mk (show gb131 ≠ go26 from by have h_ := Kd.R_ne hraw28 BK131.out (by decide); intro e_; exact h_ (by rw [e_]; rfl))
              have HNB136_go26 := Aside0.mk (show gb136 ≠ go26 from by have h_ := Kd.R_ne hraw28 BK136.out (by decide); intro e_; exact h_ (by rw [e_]; rfl))
              have HS28 := HP28.1
              rw [← Ny141.out] at HS28
              have HQ28 := Aside0.mk HS28
              obtain ⟨_, hgg28⟩ := Kd.R_typed hraw28 go26 rfl
              have GG28_ := Aside0.mk hgg28
              clear HP28 HS28 hgg28
              refine hK.out _ _ ⟨(blk_cell BK136.out 0).trans rfl, (blk_cell BK136.out 1).trans rfl, (blk_cell BK136.out 2).trans rfl, (blk_cell BK136.out 3).trans rfl, HS4_⟩ (fun hHeld => ?_)
              clear hK K
              refine norm_ (a' := ?_) ?_ ?_
              rotate_left
              ·show Act.put _ (some 28) _ = _
               simp only [Act.put, List.setIfInBounds_toArray, List.set_cons_zero, List.set_cons_succ, i64_w, i32_w]
               rfl
              refine pure_ (i := 12) (N := some 29) (v := ?_) (a' := ?_) #[true, true, true, true, true, true, true, true, true, true, true, true, true, false] rfl rfl (any_of HT_.out (by kernel_rfl)) (fun _ _ _ h => h) (Or.inl ⟨by rfl, ?_⟩) ?_ ?_
              rotate_left
              ·intro w'
               go_simp
               with_reducible rfl
              rotate_left
              ·simp only [Act.put, List.setIfInBounds_toArray, List.set_cons_zero, List.set_cons_succ, i64_w, i32_w]
               rfl
              refine last_ (i := 13) (N := none) #[true, true, true, true, true, true, true, true, true, true, true, true, true, true] rfl rfl (one_of HT_.out (by kernel_rfl)) (by decide) (fun K hK => ?_)
              refine skip_ (w1 := ?_) (by rfl) rfl ?_ ?_
              rotate_left
              ·go_simp
               rfl
              refine hK.out _ _ ?_
              clear hK K
              refine done_ (done_of HT_.out (by kernel_rfl)) ?_
              try go_wp2
              have n0_ : Aside0 (Kd.S (Kd.slice 3 (Kd.int .i64)) 30 (w27.setCell ⟨go26, (((rd_T37 l0_1 x13_1).f0) : Int).toNat, none⟩ (.slice Ao30 y138.length co30)) w.heap.size (fun _ => True) (.slice (some ⟨go26, 0, none⟩) x3_1.length co25) y141) := ⟨by exact HQ28.out⟩
              have n1_ : Aside0 ((w27.setCell ⟨go26, (((rd_T37 l0_1 x13_1).f0) : Int).toNat, none⟩ (.slice Ao30 y138.length co30)).heap[gb131]? = some (.cells #[.int .i64 a0_0, .slice (some ad135) l0_1.length c0_1] 24 (0, 0))) := ⟨by (with_reducible repeat (first | refine blk_drewN ?_ _ | refine blk_drew ?_ | refine blk_alloc ?_ _)); refine blk_far ?_ HNB131_go26.out _; exact BK131.out⟩
              have n2_ : Aside0 ((w27.setCell ⟨go26, (((rd_T37 l0_1 x13_1).f0) : Int).toNat, none⟩ (.slice Ao30 y138.length co30)).heap[gb136]? = some (.cells #[.int .i64 ((rd_T37 l0_1 x13_1).f0), .int .i64 ((rd_T37 l0_1 x13_1).f1), .int .i64 ((rd_T37 l0_1 x13_1).f2), .int .i64 ((rd_T37 l0_1 x13_1).f3)] 37 (0, 0))) := ⟨by (with_reducible repeat (first | refine blk_drewN ?_ _ | refine blk_drew ?_ | refine blk_alloc ?_ _)); refine blk_far ?_ HNB136_go26.out _; exact BK136.out⟩
              have n3_ : Aside0 (Below w.heap.size w (w27.setCell ⟨go26, (((rd_T37 l0_1 x13_1).f0) : Int).toNat, none⟩ (.slice Ao30 y138.length co30))) := ⟨by repeat (first | (with_reducible first | exact HB.out | apply below_alloc | apply pw_below_drewN | apply below_drew1 | refine below_set ?_ GB26.out | refine below_set ?_ GE131.out | refine below_set ?_ GE136.out) | exact HB.out)⟩




              (try rw [show ∀ n_ : Nat, (w27.drewN n_).setCell ⟨go26, (((rd_T37 l0_1 x13_1).f0) : Int).toNat, none⟩ (.slice Ao30 y138.length co30) = (w27.setCell ⟨go26, (((rd_T37 l0_1 x13_1).f0) : Int).toNat, none⟩ (.slice Ao30 y138.length co30)).drewN n_ from fun _ => rfl])
              generalize (w27.setCell ⟨go26, (((rd_T37 l0_1 x13_1).f0) : Int).toNat, none⟩ (.slice Ao30 y138.length co30)) = w31 at n0_ n1_ n2_ n3_ ⊢
              have HO_3 := n0_
              have BK131 := n1_
              have BK136 := n2_
              have HB := n3_
              clear n0_ n1_ n2_ n3_
              have n0_ := Aside0.mk (Kd.S_drew HO_3.out)
              have n1_ := Aside0.mk (blk_drew BK131.out)
              have n2_ := Aside0.mk (blk_drew BK136.out)
              have n3_ := Aside0.mk (below_drew1 HB.out)
              clear HO_3
              clear BK131
              clear BK136
              clear HB
              have HO_3 := n0_
              have BK131 := n1_
              have BK136 := n2_
              have HB := n3_
              clear n0_ n1_ n2_ n3_
              have p142 : 0 ≤ (((rd_T37 l0_1 x13_1).f2) : Int) := of_decide_eq_true (by first | (with_reducible assumption) | assumption)
              have q142 : ((rd_T37 l0_1 x13_1).f2) < (y141.length : Int) := (by have h_ : (((rd_T37 l0_1 x13_1).f2) : Int) < ((x3_1.length : Int) : Int) := of_decide_eq_true (by first | (with_reducible assumption) | assumption); first | (have e_ := (Kd.S_reads' HO_3.out).1; omega) | simpa only [Ny141.out, List.length_set] using h_)
              have ql142 : ((((rd_T37 l0_1 x13_1).f2) : Int) < ((x3_1.length : Int) : Int)) = True := eq_true (of_decide_eq_true (by first | (with_reducible assumption) | assumption))
              obtain ⟨ad142, A142_0, c142_0, e142, hx142_0, hl142_0, hi142_0⟩ := at_L3 (Kd.S_reads' HO_3.out).2.2 ((rd_T37 l0_1 x13_1).f2) p142 q142
              obtain rfl : (⟨go26, 0, none⟩ : Addr) = ad142 := (by injection e142)
              obtain ⟨ce142, hce142, hMe142, hcc142⟩ := Kd.S_get HO_3.out [] ((rd_T37 l0_1 x13_1).f2) p142 (by first | exact q142 | exact of_decide_eq_true (by first | (with_reducible assumption) | assumption) | (have e_ := (Kd.S_reads' HO_3.out).1; omega))
              obtain ⟨ve142_0, rfl, ge142_0⟩ := hMe142
              have hv142_0 := hcc142 0 _ rfl
              rw [Nat.add_zero, show ((Kd.slice 3 (Kd.int .i64))).sz = 1 from rfl, Nat.mul_one] at hv142_0
              replace hv142_0 := Option.some.inj (hv142_0.symm.trans hx142_0)
              rw [hv142_0] at ge142_0
              have HL142_0 := Aside0.mk (show Kd.R (Kd.int .i64) 3 _ _ _ _ (rd_L3 y141 ((rd_T37 l0_1 x13_1).f2)) from ge142_0)
              clear hv142_0 ge142_0
              have HX142_0 := Aside0.mk hx142_0
              clear hcc142 hce142
              (first | simp only [add_plain] at hx142_0 | simp only [add_at] at hx142_0 | simp only [Addr.add, Nat.zero_add] at hx142_0 | skip)
              have HR142_0 := Aside0.mk hi142_0
              have HC142_0 := Aside0.mk hl142_0
              clear hi142_0 hl142_0
              replace p142 := eq_true p142
              replace q142 := eq_true q142
              obtain ⟨oki33, ce33, hcl33, hM33, hcc33, _, _, hH33⟩ := Kd.S_elem HO_3.out [] (((rd_T37 l0_1 x13_1).f2) : Int) (of_decide_eq_true (by first | (with_reducible assumption) | assumption)) (by have h_ : (((rd_T37 l0_1 x13_1).f2) : Int) < ((x3_1.length : Int) : Int) := of_decide_eq_true (by first | (with_reducible assumption) | assumption); first | exact h_ | (have e_ := (Kd.S_reads' HO_3.out).1; omega) | simpa using h_)
              obtain ⟨ve33_0, rfl, ge33_0⟩ := hM33
              have hv33 := hcc33 0 _ rfl
              have hX33 := HX142_0.out
              (try simp only [add_plain] at hX33)
              (try simp only [Nat.add_zero] at hv33)
              (try rw [show ((Kd.slice 3 (Kd.int .i64))).sz = 1 from rfl, Nat.mul_one] at hv33)
              replace hv33 := Option.some.inj (hv33.symm.trans hX33)
              subst hv33
              clear hX33 hcc33 hcl33
              have UU33 := Aside0.mk (show Kd.R (Kd.int .i64) 3 _ w.heap.size oki33 (.slice A142_0 (rd_L3 y141 ((rd_T37 l0_1 x13_1).f2)).length c142_0) (rd_L3 y141 ((rd_T37 l0_1 x13_1).f2)) from ge33_0)
              have HH33 := Aside0.mk hH33
              have HN33 := Aside0.mk (Kd.S_reads' HO_3.out).1
              clear hH33 ge33_0
              refine start_ (n := 14) (S := fun w' => w'.cell? ⟨gb136, 0, none⟩ = some (.int .i64 ((rd_T37 l0_1 x13_1).f0)) ∧ w'.cell? ⟨gb136, 1, none⟩ = some (.int .i64 ((rd_T37 l0_1 x13_1).f1)) ∧ w'.cell? ⟨gb136, 2, none⟩ = some (.int .i64 ((rd_T37 l0_1 x13_1).f2)) ∧ w'.cell? ⟨gb136, 3, none⟩ = some (.int .i64 ((rd_T37 l0_1 x13_1).f3)) ∧ w'.cell? ⟨go26, (((rd_T37 l0_1 x13_1).f2)).toNat, none⟩ = some (.slice A142_0 (rd_L3 y141 ((rd_T37 l0_1 x13_1).f2)).length c142_0)) (ds := [13]) #[false, false, false, false, false, false, false, false, false, false, false, false, false, false] (by kernel_rfl) rfl rfl ⟨(blk_cell BK136.out 0).trans rfl, (blk_cell BK136.out 1).trans rfl, (blk_cell BK136.out 2).trans rfl, (blk_cell BK136.out 3).trans rfl, hx142_0⟩ (fun hHeld => ?_); refine with_tabW topo_neighbors.tab6 topo_neighbors.bits6 (fun HT_ HW_ => ?_)
              generalize w31.drew = w32 at HO_3 BK131 BK136 HB HH33 HL142_0 HQ28 HR142_0 HX142_0 UU33 hx142_0 hHeld ⊢
              refine pure_ (i := 0) (N := some 30) (v := ?_) (a' := ?_) #[true, false, false, false, false, false, false, false, false, false, false, false, false, false] rfl rfl (any_of HT_.out (by kernel_rfl)) (fun _ _ _ h => h) (Or.inl ⟨by rfl, ?_⟩) ?_ ?_
              rotate_left
              ·intro w'
               go_simp
               with_reducible rfl
              rotate_left
              ·simp only [Act.put, List.setIfInBounds_toArray, List.set_cons_zero, List.set_cons_succ, i64_w, i32_w]
               rfl
              refine pure_ (i := 1) (N := some 31) (v := ?_) (a' := ?_) #[true, true, false, false, false, false, false, false, false, false, false, false, false, false] rfl rfl (any_of HT_.out (by kernel_rfl)) (fun _ _ _ h => h) (Or.inl ⟨by rfl, ?_⟩) ?_ ?_
              rotate_left
              ·intro w'
               go_simp
               with_reducible rfl
              rotate_left
              ·simp only [Act.put, List.setIfInBounds_toArray, List.set_cons_zero, List.set_cons_succ, i64_w, i32_w]
               rfl
              refine pure_ (i := 3) (N := some 33) (v := ?_) (a' := ?_) #[true, true, false, true, false, false, false, false, false, false, false, false, false, false] rfl rfl (any_of HT_.out (by kernel_rfl)) (fun _ _ _ h => h) (Or.inl ⟨by rfl, ?_⟩) ?_ ?_
              rotate_left
              ·intro w'
               go_simp
               with_reducible rfl
              rotate_left
              ·simp only [Act.put, List.setIfInBounds_toArray, List.set_cons_zero, List.set_cons_succ, i64_w, i32_w]
               rfl
              refine pure_ (i := 4) (N := some 34) (v := ?_) (a' := ?_) #[true, true, false, true, true, false, false, false, false, false, false, false, false, false] rfl rfl (any_of HT_.out (by kernel_rfl)) (fun _ _ _ h => h) (Or.inl ⟨by rfl, ?_⟩) ?_ ?_
              rotate_left
              ·intro w'
               go_simp
               with_reducible rfl
              rotate_left
              ·simp only [Act.put, List.setIfInBounds_toArray, List.set_cons_zero, List.set_cons_succ, i64_w, i32_w]
               rfl
              refine pure_ (i := 8) (N := some 38) (v := ?_) (a' := ?_) #[true, true, false, true, true, false, false, false, true, false, false, false, false, false] rfl rfl (any_of HT_.out (by kernel_rfl)) (fun _ _ _ h => h) (Or.inl ⟨by rfl, ?_⟩) ?_ ?_
              rotate_left
              ·intro w'
               go_simp
               with_reducible rfl
              rotate_left
              ·simp only [Act.put, List.setIfInBounds_toArray, List.set_cons_zero, List.set_cons_succ, i64_w, i32_w]
               rfl
              refine take_ (i := 2) (N := some 32) (v := ?_) (a' := ?_) #[true, true, true, true, true, false, false, false, true, false, false, false, false, false] rfl rfl (take_ofW HT_.out HW_.out (by kernel_rfl)) (fun _ _ _ h => h) (Or.inl ⟨by rfl, ?_⟩) hHeld ?_ ?_
              rotate_left
              ·rintro w' ⟨s0, s1, s2, s3, s4⟩
               go_simp
               with_reducible rfl
              rotate_left
              ·simp only [Act.put, List.setIfInBounds_toArray, List.set_cons_zero, List.set_cons_succ, i64_w, i32_w]
               rfl
              refine take_ (i := 5) (N := some 35) (v := ?_) (a' := ?_) #[true, true, true, true, true, true, false, false, true, false, false, false, false, false] rfl rfl (take_ofW HT_.out HW_.out (by kernel_rfl)) (fun _ _ _ h => h) (Or.inl ⟨by rfl, ?_⟩) hHeld ?_ ?_
              rotate_left
              ·rintro w' ⟨s0, s1, s2, s3, s4⟩
               go_simp
               with_reducible rfl
              rotate_left
              ·simp only [Act.put, List.setIfInBounds_toArray, List.set_cons_zero, List.set_cons_succ, i64_w, i32_w]
               rfl
              refine pure_ (i := 6) (N := some 36) (v := ?_) (a' := ?_) #[true, true, true, true, true, true, true, false, true, false, false, false, false, false] rfl rfl (any_of HT_.out (by kernel_rfl)) (fun _ _ _ h => h) (Or.inl ⟨by rfl, ?_⟩) ?_ ?_
              rotate_left
              ·intro w'
               go_simp
               with_reducible rfl
              rotate_left
              ·simp only [Act.put, List.setIfInBounds_toArray, List.set_cons_zero, List.set_cons_succ, i64_w, i32_w]
               rfl
              refine take_ (i := 7) (N := some 37) (v := ?_) (a' := ?_) #[true, true, true, true, true, true, true, true, true, false, false, false, false, false] rfl rfl (take_ofW HT_.out HW_.out (by kernel_rfl)) (fun _ _ _ h => h) (Or.inl ⟨by rfl, ?_⟩) hHeld ?_ ?_
              rotate_left
              ·rintro w' ⟨s0, s1, s2, s3, s4⟩
               go_simp
               with_reducible rfl
              rotate_left
              ·simp only [Act.put, List.setIfInBounds_toArray, List.set_cons_zero, List.set_cons_succ, i64_w, i32_w]
               rfl
              refine take_ (i := 9) (N := some 39) (v := ?_) (a' := ?_) #[true, true, true, true, true, true, true, true, true, true, false, false, false, false] rfl rfl (take_ofW HT_.out HW_.out (by kernel_rfl)) (fun _ _ _ h => h) (Or.inl ⟨by rfl, ?_⟩) hHeld ?_ ?_
              rotate_left
              ·rintro w' ⟨s0, s1, s2, s3, s4⟩
               go_simp
               with_reducible rfl
              rotate_left
              ·simp only [Act.put, List.setIfInBounds_toArray, List.set_cons_zero, List.set_cons_succ, i64_w, i32_w]
               rfl
              refine one_ (i := 10) (N := some 40) #[true, true, true, true, true, true, true, true, true, true, true, false, false, false] rfl rfl (one_of HT_.out (by kernel_rfl)) (by decide) (fun K hK => ?_)
              refine value_ (w1 := ?_) (v := ?_) (by rfl) rfl ?_ ?_
              rotate_left 2
              ·go_simp
               constructor
               ·rfl
               ·rfl
              refine hK.out _ _ ⟨(blk_cell (blk_alloc BK136.out _) 0).trans rfl, (blk_cell (blk_alloc BK136.out _) 1).trans rfl, (blk_cell (blk_alloc BK136.out _) 2).trans rfl, (blk_cell (blk_alloc BK136.out _) 3).trans rfl, (World.cell?_alloc_lt _ _ _ (World.block_lt_of_cell? _ _ (hHeld.2.2.2.2))).trans (hHeld.2.2.2.2)⟩ (fun hHeld => ?_)
              clear hK K
              refine norm_ (a' := ?_) ?_ ?_
              rotate_left
              ·show Act.put _ (some 40) _ = _
               simp only [Act.put, List.setIfInBounds_toArray, List.set_cons_zero, List.set_cons_succ, i64_w, i32_w]
               rfl
              refine one_ (i := 11) (N := some 41) #[true, true, true, true, true, true, true, true, true, true, true, true, false, false] rfl rfl (one_of HT_.out (by kernel_rfl)) (by decide) (fun K hK => ?_)
              refine Kd.R_append_step (Kd.int .i64) (w0 := w) w.heap.size (by rfl) (.tmp 37) (.tmp 40) 30 3 (.int .i64 0) 8 rfl Try.underlying30 info3 rfl (by decide) (by omega) (.slice A142_0 (rd_L3 y141 ((rd_T37 l0_1 x13_1).f2)).length c142_0) (rd_L3 y141 ((rd_T37 l0_1 x13_1).f2)) ((rd_T37 l0_1 x13_1).f0) [.int .i64 ((rd_T37 l0_1 x13_1).f0)] (fun k_ => oki33 k_ ∨ ((fun _ => True)) k_ ∧ w32.heap.size ≤ k_) (fun _ => False) rfl rfl ?aP (fun _ hk => hk.elim) ?aF ?aO ?aB ?aS ?aL ?_
              (case aP => exact rfl)
              (case aB => exact (by exact HB.out))
              (case aF => exact (fun k_ hk => .inr ⟨trivial, hk⟩))
              (case aO => exact (by exact Kd.R_mono UU33.out (fun _ hk => .inl hk)))
              (case aS => exact (below_size (by exact HB.out)))
              (case aL => have := LMc18.out; omega)
              intro v144 w34 ho hb hg hat
              (first | have HS4_ := Go.Proofs.YthkpnkmbmlbefaaW.PrintWords.cell_grown hg (hHeld.2.2.2.2) (by first | (rw [add_block]; exact (fun e_ => ((HL142_0.out.1 _ e_.symm).2) rfl)) | (show some (Addr.add _ _).block ≠ _; rw [add_block]; exact (fun e_ => ((HL142_0.out.1 _ e_.symm).2) rfl)) | exact (fun e_ => ((HL142_0.out.1 _ e_.symm).2) rfl)) | have HS4_ := Go.Proofs.YthkpnkmbmlbefaaW.PrintWords.cell_grown hg (cell_unalloc (hHeld.2.2.2.2) (by first | (rw [add_block]; exact Kd.S_lt HO_3.out _ rfl) | (show (Addr.add _ _).block < _; rw [add_block]; exact Kd.S_lt HO_3.out _ rfl) | exact Kd.S_lt HO_3.out _ rfl)) (by first | (rw [add_block]; exact (fun e_ => ((HL142_0.out.1 _ e_.symm).2) rfl)) | (show some (Addr.add _ _).block ≠ _; rw [add_block]; exact (fun e_ => ((HL142_0.out.1 _ e_.symm).2) rfl)) | exact (fun e_ => ((HL142_0.out.1 _ e_.symm).2) rfl)))
              rw [← Ny143.out] at ho
              have n0_ := Aside0.mk (blk_grown (g := gb131) (o := .cells #[.int .i64 a0_0, .slice (some ad135) l0_1.length c0_1] 24 (0, 0)) (by exact BK131.out) hg (Kd.R_ne HL142_0.out BK131.out (by decide)))
              have n1_ := Aside0.mk (blk_grown (g := gb136) (o := .cells #[.int .i64 ((rd_T37 l0_1 x13_1).f0), .int .i64 ((rd_T37 l0_1 x13_1).f1), .int .i64 ((rd_T37 l0_1 x13_1).f2), .int .i64 ((rd_T37 l0_1 x13_1).f3)] 37 (0, 0)) (by exact BK136.out) hg (Kd.R_ne HL142_0.out BK136.out (by decide)))
              have n2_ := Aside0.mk (hb)
              have n3_ := Aside0.mk (Kd.H_grown (Kd.H_widen (by repeat (first | exact HH33.out | refine Kd.H_alloc ?_ _ | refine Kd.H_drewN ?_ _ | refine Kd.H_drew ?_))) hg (fun k_ e_ => .inl (UU33.out.1 k_ e_)))
              have n4_ := Aside0.mk (ho)
              clear BK131
              clear BK136
              clear HB
              clear HH33
              clear HO_3
              clear UU33
              clear HL142_0
              have BK131 := n0_
              have BK136 := n1_
              have HB := n2_
              have HH33 := n3_
              have HO145 := n4_
              clear n0_ n1_ n2_ n3_ n4_
              clear ho hb hg hat
              have p19 : 0 ≤ (((rd_T37 l0_1 x13_1).f2) : Int) := of_decide_eq_true (by first | (with_reducible assumption) | assumption)
              have q19 : (((rd_T37 l0_1 x13_1).f2) : Int) < ((x3_1.length : Int) : Int) := of_decide_eq_true (by first | (with_reducible assumption) | assumption)
              replace p19 := eq_true p19
              replace q19 := eq_true q19
              obtain ⟨Ao37, co37, eo37⟩ := Kd.R_slice HO145.out
              (first | subst eo37 | (injection eo37 with f1_ f2_ f3_; have f4_ := f1_.symm; have f5_ := f3_.symm; clear f1_ f2_ f3_; subst f4_; subst f5_))
              obtain ⟨_, _, hraw35, _, _, hcc35, _⟩ := Kd.H_raw HH33.out (of_decide_eq_true (by first | (with_reducible assumption) | assumption)) (by have h_ : (((rd_T37 l0_1 x13_1).f2) : Int) < ((x3_1.length : Int) : Int) := of_decide_eq_true (by first | (with_reducible assumption) | assumption); first | exact h_ | (have e_ := (HN33.out); omega) | simpa using h_)
              obtain ⟨_, hfr35⟩ := Kd.H_at HH33.out (of_decide_eq_true (by first | (with_reducible assumption) | assumption)) (by have h_ : (((rd_T37 l0_1 x13_1).f2) : Int) < ((x3_1.length : Int) : Int) := of_decide_eq_true (by first | (with_reducible assumption) | assumption); first | exact h_ | (have e_ := (HN33.out); omega) | simpa using h_)
              have hx35_0 := hcc35 0 _ rfl
              have hf35_0 := hfr35 0
              (try simp only [Nat.add_zero] at hx35_0 hf35_0)
              (try rw [show ((Kd.slice 3 (Kd.int .i64))).sz = 1 from rfl, Nat.mul_one] at hx35_0)
              (try rw [show ((Kd.slice 3 (Kd.int .i64))).sz = 1 from rfl, Nat.mul_one] at hf35_0)
              have HP35 := Kd.S_seg0 HH33.out (of_decide_eq_true (by first | (with_reducible assumption) | assumption)) (by have h_ : (((rd_T37 l0_1 x13_1).f2) : Int) < ((x3_1.length : Int) : Int) := of_decide_eq_true (by first | (with_reducible assumption) | assumption); first | exact h_ | (have e_ := (HN33.out); omega) | simpa using h_) (seg := [.slice Ao37 y143.length co37]) (j := 0) (show 1 ≤ 1 from by decide) (x' := y143) (Kd.M_row HO145.out) (fun _ hk => hk)
              (try simp only [show ((Kd.slice 3 (Kd.int .i64))).sz = 1 from rfl, Nat.mul_one, Nat.add_zero] at HP35)
              clear hcc35 hfr35
              have HNB131_go26 := Aside0.mk (show gb131 ≠ go26 from by have h_ := Kd.R_ne hraw35 BK131.out (by decide); intro e_; exact h_ (by rw [e_]; rfl))
              have HNB136_go26 := Aside0.mk (show gb136 ≠ go26 from by have h_ := Kd.R_ne hraw35 BK136.out (by decide); intro e_; exact h_ (by rw [e_]; rfl))
              have HS35 := HP35.1
              rw [← Ny146.out] at HS35
              have HQ35 := Aside0.mk HS35
              obtain ⟨_, hgg35⟩ := Kd.R_typed hraw35 go26 rfl
              have GG35_ := Aside0.mk hgg35
              clear HP35 HS35 hgg35
              refine hK.out _ _ ⟨(blk_cell BK136.out 0).trans rfl, (blk_cell BK136.out 1).trans rfl, (blk_cell BK136.out 2).trans rfl, (blk_cell BK136.out 3).trans rfl, HS4_⟩ (fun hHeld => ?_)
              clear hK K
              refine norm_ (a' := ?_) ?_ ?_
              rotate_left
              ·show Act.put _ (some 41) _ = _
               simp only [Act.put, List.setIfInBounds_toArray, List.set_cons_zero, List.set_cons_succ, i64_w, i32_w]
               rfl
              refine pure_ (i := 12) (N := some 42) (v := ?_) (a' := ?_) #[true, true, true, true, true, true, true, true, true, true, true, true, true, false] rfl rfl (any_of HT_.out (by kernel_rfl)) (fun _ _ _ h => h) (Or.inl ⟨by rfl, ?_⟩) ?_ ?_
              rotate_left
              ·intro w'
               go_simp
               with_reducible rfl
              rotate_left
              ·simp only [Act.put, List.setIfInBounds_toArray, List.set_cons_zero, List.set_cons_succ, i64_w, i32_w]
               rfl
              refine last_ (i := 13) (N := none) #[true, true, true, true, true, true, true, true, true, true, true, true, true, true] rfl rfl (one_of HT_.out (by kernel_rfl)) (by decide) (fun K hK => ?_)
              refine skip_ (w1 := ?_) (by rfl) rfl ?_ ?_
              rotate_left
              ·go_simp
               rfl
              refine hK.out _ _ ?_
              clear hK K
              refine done_ (done_of HT_.out (by kernel_rfl)) ?_
              try go_wp2
              go_roundg k1
              case measure => have := HK1.out; omega
              case rel => exact ⟨(y146), (wrap64 (x13_1 + 1)), (by first | rfl | (simp; done) | (simp [*]; done)), H', ⟨by have := HK1.out; omega⟩, ⟨by (with_reducible repeat (first | apply Kd.S_alloc | apply Kd.S_drewN | apply Kd.S_drew)); exact HQ35.out⟩, ⟨by (with_reducible repeat (first | refine blk_drewN ?_ _ | refine blk_drew ?_ | refine blk_alloc ?_ _)); refine blk_far ?_ HNB131_go26.out _; (with_reducible repeat (first | refine blk_drewN ?_ _ | refine blk_drew ?_ | refine blk_alloc ?_ _)); exact BK131.out⟩, ⟨by repeat (first | (with_reducible first | exact HB.out | apply below_alloc | apply pw_below_drewN | apply below_drew1 | refine below_set ?_ GB26.out | refine below_set ?_ GE131.out | refine below_set ?_ GE136.out) | exact HB.out)⟩⟩
             ·rw [if_neg c18] at H
              exact absurd H (by simp)
            ·rw [if_neg c17] at H
             exact absurd H (by simp)
           ·rw [if_neg c16] at H
            exact absurd H (by simp)
          ·rw [if_neg c14] at H
           exact absurd H (by simp)
         ·rw [if_neg c13] at H
          exact absurd H (by simp)
        ·rw [if_neg c12] at H
         exact absurd H (by simp)
       ·rw [if_neg c11] at H
        exact absurd H (by simp)
      ·rw [if_neg c10] at H
       exact absurd H (by simp)
     ·rw [if_neg c9] at H
      have c9b0 : decide (x13_1 < (l0_1.length : Int)) = false := decide_eq_false c9
      clear c9
      have H' := Aside0.mk H
      clear H
      obtain ⟨Ao38, co38, eo38⟩ := Kd.S_slice HO_3.out
      subst eo38
      go_wp2
      go_loopg [46] k1 (fun kq v46 w' => ∃ (x3_2 : List (List Int)) (x46_2 : Int), v46 = .int .i64 x46_2 ∧ Aside0 (topo_neighbors.l1 kq x3_2 (x3_1.length : Int) x46_2 = some r) ∧ Aside0 (kq ≤ k1) ∧ Aside0 (Kd.S (Kd.slice 3 (Kd.int .i64)) 30 w' w.heap.size (fun _ => True) (.slice Ao38 x3_1.length co38) x3_2) ∧ Aside0 (w'.heap[gb131]? = some (.cells #[.int .i64 a0_0, (.slice A0_1 l0_1.length c0_1)] 24 (0, 0))) ∧ Aside0 (Below w.heap.size w w') ∧ Aside0 (x3_2.length = x3_1.length))
      case atStart => exact ⟨x3_1, (0), (by first | rfl | (simp; done) | (simp [*]; done)), H', ⟨Nat.le_refl _⟩, ⟨by exact HO_3.out⟩, ⟨by exact BK131.out⟩, ⟨by exact HB.out⟩, ⟨rfl⟩⟩
      case round =>
       clear H'
       obtain ⟨x3_2, x46_2, rfl, HA, HK2, HO_3, BK131, HB, HLE⟩ := hrel
       cases gk with
       | zero => exact absurd HA.out (by simp [topo_neighbors.l1])
       | succ k2 =>
        have H := HA.out
        clear HA
        simp only [topo_neighbors.l1] at H
        by_cases c39 : x46_2 < (x3_1.length : Int)
        ·rw [if_pos c39] at H
         have c39b0 : decide (x46_2 < (x3_1.length : Int)) = true := decide_eq_true c39
         by_cases c40 : 0 ≤ x46_2
         ·rw [if_pos c40] at H
          have c40b0 : decide (0 ≤ x46_2) = true := decide_eq_true c40
          have c41 : x46_2 < (x3_2.length : Int) := by have := HLE.out; omega
          rw [if_pos c41] at H
          obtain ⟨t148, At, H⟩ := Option.bind_eq_some_iff.mp H
          have H' := Aside0.mk H
          clear H
          obtain ⟨ad148, ead148⟩ : ∃ ad, Ao38 = some ad := by
           obtain ⟨ad_, e_, _⟩ := (Kd.S_reads' HO_3.out).2.2.2.2 (by omega)
           exact ⟨ad_, e_⟩
          subst ead148
          obtain ⟨v148, hcell148, hcall148⟩ := Go.Proofs.Ythkpnkmbmlbefaa.HN.sort_elem HO_3.out HB.out x46_2 c40 c39 At
          have HCALL := Aside0.mk hcall148
          clear hcall148
          have p147 := eq_true c40
          have q147 := eq_true c39
          clear c39 c40 c41
          go_wp2_with (first | (go_at_call 88; (with_reducible refine HCALL.out.mono ?_); rintro e w41 ⟨rfl, hs_, hb_, hk_⟩; have n0_ := Aside0.mk hs_; have n1_ := Aside0.mk hb_; have n2_ := Aside0.mk (hk_ gb131 _ 24 BK131.out (by decide)); clear HO_3 HB BK131; have HO_3 := n0_; have HB := n1_; have BK131 := n2_; clear n0_ n1_ n2_ hs_ hb_ hk_))
          go_roundg k2
          case measure => have := HK1.out; have := HK2.out; omega
          case rel => exact ⟨x3_2.set x46_2.toNat t148, (wrap64 (x46_2 + 1)), (by first | rfl | (simp; done) | (simp [*]; done)), H', ⟨by have := HK1.out; have := HK2.out; omega⟩, ⟨by exact HO_3.out⟩, ⟨by exact BK131.out⟩, ⟨by exact HB.out⟩, ⟨by rw [List.length_set]; exact HLE.out⟩⟩
         ·rw [if_neg c40] at H
          exact absurd H (by simp)
        ·rw [if_neg c39] at H
         have c39b0 : decide (x46_2 < (x3_1.length : Int)) = false := decide_eq_false c39
         clear c39
         obtain rfl := Option.some.inj H
         go_wp2
         go_ret
         exact ⟨_, by first | rfl | (simp [errW_none, errW_some] <;> rfl) | (simp [*, errW_none, errW_some] <;> rfl), by exact HO_3.out, by exact HB.out⟩
  ·rw [if_neg c3] at H
   exact absurd H (by simp)
 ·rw [if_neg c2] at H
  exact absurd H (by simp)

end Go.Proofs.Ythkpnkmbmlbefaa.X

namespace Go.Proofs.Ythkpnkmbmlbefaa.X
open Go.RowKit Go.Proofs.YthkpnkmbmlbefaaW.PrintWords Go.Proofs.YthkpnkmbmlbefaaW.PrintLast Go.Proofs.YthkpnkmbmlbefaaW.PrintMore
attribute [local go_sem] max2_int min2_int max_two min_two max_three min_three max_four min_four   -- for this text's walks alone
set_option linter.unusedVariables false
set_option linter.unusedSimpArgs false

/-! ### topo_Dist: function 20 -/
def topo_Dist.f (k : Nat) (a0_0 : Int) (l0_1 : List (S37)) (a1 : Int) : Option (List Int) := (topo_knows.f k a0_0 l0_1 a1).bind fun t132 => (if t132 = true then ((topo_neighbors.f k a0_0 l0_1).bind fun t133 => ((topo_distances.f k t133 a1).bind fun t136 => (some t136))) else (some ([] : List Int)))
set_option maxHeartbeats 8000000 in
set_option maxRecDepth 100000 in
theorem topo_Dist.calls (k : Nat) (a0_0 : Int) (A0_1 : Option Addr) (c0_1 : Nat) (l0_1 : List (S37)) (a1 : Int) (r : List Int) (w : World) (hr0_1 : Kd.C k37 w A0_1 l0_1.length l0_1) (hc0_1 : l0_1.length ≤ c0_1) (h : topo_Dist.f k a0_0 l0_1 a1 = some r) :
  Calls Try.prog 20 #[.agg #[.int .i64 a0_0, .slice A0_1 l0_1.length c0_1], .int .i64 a1] w fun e w' => ∃ v0_ : Value, e = .returned (v0_) ∧ Kd.R (Kd.int .i64) 3 w' w.heap.size (fun _ => True) v0_ r ∧ Below w.heap.size w w' := by
 have hu24 := Try.underlying24
 have HR0_1 := Aside0.mk hr0_1
 have HC0_1 := Aside0.mk hc0_1
 clear hr0_1 hc0_1
 have HB := Aside0.mk (Below.refl w.heap.size w)
 have H : ((topo_knows.f k a0_0 l0_1 a1).bind fun t132 => (if t132 = true then ((topo_neighbors.f k a0_0 l0_1).bind fun t133 => ((topo_distances.f k t133 a1).bind fun t136 => (some t136))) else (some ([] : List Int)))) = some r := h
 clear h
 replace H := Option.bind_eq_some_iff.mp H
 obtain ⟨t132, A30, H⟩ := H
 replace H : (if t132 = true then ((topo_neighbors.f k a0_0 l0_1).bind fun t133 => ((topo_distances.f k t133 a1).bind fun t136 => (some t136))) else (some ([] : List Int))) = some r := H
 have A3 := Aside0.mk A30
 clear A30
 by_cases c4 : t132 = true
 ·subst c4
  have H1 : ((topo_neighbors.f k a0_0 l0_1).bind fun t133 => ((topo_distances.f k t133 a1).bind fun t136 => (some t136))) = some r := by rw [if_pos rfl] at H; exact H
  clear H
  have H := H1
  clear H1
  replace H := Option.bind_eq_some_iff.mp H
  obtain ⟨t133, A50, H⟩ := H
  replace H : ((topo_distances.f k t133 a1).bind fun t136 => (some t136)) = some r := H
  have A5 := Aside0.mk A50
  clear A50
  replace H := Option.bind_eq_some_iff.mp H
  obtain ⟨t136, A60, H⟩ := H
  replace H : (some t136) = some r := H
  have A6 := Aside0.mk A60
  clear A60
  obtain rfl := Option.some.inj H
  go_enter Try.func20, Try.ntmps20
  go_wp2_with (first | ((with_reducible refine gate_dst (N := 2) rfl ?_); refine box_event ?hg (N := 2) ?hd (cs := #[.int .i64 a0_0, .slice A0_1 l0_1.length c0_1]) (t := 24) ?hr ?_; (case hd => rfl); (case hg => rfl); (case hr => first | (go_simp; done) | (go_simp; rfl)); intro gb131 hg w7 hbox hb; have n0_ := Aside0.mk (below_step (by exact HB.out) hb); have n1_ := Aside0.mk (hbox); have n2_ := Aside0.mk ((by rw [hg]; exact (below_size (by exact HB.out)) : w.heap.size ≤ gb131)); have n3_ := Aside0.mk ((by rw [hg]; exact (below_size (by exact HB.out)) : w.heap.size ≤ gb131)); clear HB; have HB := n0_; have BK131 := n1_; have GW131 := n2_; have GE131 := n3_; clear n0_ n1_ n2_ n3_; clear hb hbox hg; have hcz8_0 : w7.cell? ⟨gb131, 0, none⟩ = some (.int .i64 a0_0) := (blk_cell BK131.out 0).trans rfl; have hcz8_1 : w7.cell? ⟨gb131, 1, none⟩ = some (.slice A0_1 l0_1.length c0_1) := (blk_cell BK131.out 1).trans rfl; have hfz8_0 := blk_frozen BK131.out 0; have hfz8_1 := blk_frozen BK131.out 1) | ((with_reducible refine gate_callee (f := 57) rfl ?_); refine goesL_ (some 7) rfl rfl Try.func57 (by kernel_rfl) rfl #[.agg #[.int .i64 a0_0, .slice A0_1 l0_1.length c0_1], .int .i64 a1] rfl (by (try simp only [List.map_toArray, List.map_cons, List.map_nil]); first | done | rfl | (simp only [List.length_drop, List.length_take]; rfl)) ?_; (with_reducible refine (topo_knows.calls k a0_0 _ _ l0_1 a1 true _ ?side1 ?side2 A3.out).mono ?_); (case side1 => exact (Kd.C_below HR0_1.out HB.out)); (case side2 => exact HC0_1.out); rintro e w9 ⟨rfl, hb⟩; refine ⟨_, rfl, ?_⟩; have n0_ := Aside0.mk (blk_below (g := gb131) (o := .cells #[.int .i64 a0_0, .slice A0_1 l0_1.length c0_1] 24 (0, 0)) (by exact BK131.out) hb); have n1_ := Aside0.mk (below_step (by exact HB.out) hb); clear BK131; clear HB; have BK131 := n0_; have HB := n1_; clear n0_ n1_; (try clear hb); (try clear hb2); (try clear hk); (try clear hi); have hcz10_0 : w9.cell? ⟨gb131, 0, none⟩ = some (.int .i64 a0_0) := (blk_cell BK131.out 0).trans rfl; have hcz10_1 : w9.cell? ⟨gb131, 1, none⟩ = some (.slice A0_1 l0_1.length c0_1) := (blk_cell BK131.out 1).trans rfl; have hfz10_0 := blk_frozen BK131.out 0; have hfz10_1 := blk_frozen BK131.out 1) | ((with_reducible refine gate_callee (f := 59) rfl ?_); refine goesL_ (some 10) rfl rfl Try.func59 (by kernel_rfl) rfl #[.agg #[.int .i64 a0_0, .slice A0_1 l0_1.length c0_1]] rfl (by (try simp only [List.map_toArray, List.map_cons, List.map_nil]); first | done | rfl | (simp only [List.length_drop, List.length_take]; rfl)) ?_; (with_reducible refine (topo_neighbors.calls k a0_0 _ _ l0_1 t133 _ ?side1 ?side2 A5.out).mono ?_); (case side1 => exact (Kd.C_below HR0_1.out HB.out)); (case side2 => exact HC0_1.out); rintro e w11 ⟨v134, rfl, ho0, hb⟩; refine ⟨_, rfl, ?_⟩; have n0_ := Aside0.mk (Kd.S_lower ho0 (below_size (by exact HB.out))); have n1_ := Aside0.mk (blk_below (g := gb131) (o := .cells #[.int .i64 a0_0, .slice A0_1 l0_1.length c0_1] 24 (0, 0)) (by exact BK131.out) hb); have n2_ := Aside0.mk (below_step (by exact HB.out) hb); clear BK131; clear HB; have HO135 := n0_; have BK131 := n1_; have HB := n2_; clear n0_ n1_ n2_; (try clear hb); (try clear hb2); (try clear hk); (try clear hi); (try clear ho0); obtain ⟨Ao12, co12, eo12⟩ := Kd.S_slice HO135.out; subst eo12) | ((with_reducible refine gate_callee (f := 58) rfl ?_); refine goesL_ (some 12) rfl rfl Try.func58 (by kernel_rfl) rfl #[.slice Ao12 t133.length co12, .int .i64 a1] rfl (by (try simp only [List.map_toArray, List.map_cons, List.map_nil]); first | done | rfl | (simp only [List.length_drop, List.length_take]; rfl)) ?_; (with_reducible refine (topo_distances.calls k _ _ t133 a1 t136 _ ?side1 ?side2 A6.out).mono ?_); (case side1 => repeat (first | exact (Kd.S_reads' HO135.out).2.2 | (with_reducible refine Kd.C_alloc ?_ _) | (with_reducible refine Kd.C_drewN ?_ _) | (with_reducible refine Kd.C_drew ?_))); (case side2 => exact (Kd.S_reads' HO135.out).2.1); rintro e w13 ⟨v137, rfl, ho0, hb⟩; refine ⟨_, rfl, ?_⟩; have n0_ := Aside0.mk (Kd.S_elder' (by exact HO135.out) (Kd.R_base ho0) hb); have n1_ := Aside0.mk (Kd.R_lower ho0 (below_size (by exact HB.out))); have n2_ := Aside0.mk (blk_below (g := gb131) (o := .cells #[.int .i64 a0_0, .slice A0_1 l0_1.length c0_1] 24 (0, 0)) (by exact BK131.out) hb); have n3_ := Aside0.mk (below_step (by exact HB.out) hb); clear HO135; clear BK131; clear HB; have HO135 := n0_; have HO138 := n1_; have BK131 := n2_; have HB := n3_; clear n0_ n1_ n2_ n3_; (try clear hb); (try clear hb2); (try clear hk); (try clear hi); (try clear ho0)))
  go_ret
  exact ⟨_, by first | rfl | (simp [errW_none, errW_some] <;> rfl) | (simp [*, errW_none, errW_some] <;> rfl), by exact HO138.out, by exact HB.out⟩
 ·replace c4 := Bool.eq_false_iff.mpr c4
  subst c4
  have H1 : (some ([] : List Int)) = some r := by rw [if_neg (show ¬ (false = true) by decide)] at H; exact H
  clear H
  have H := H1
  clear H1
  obtain rfl := Option.some.inj H
  go_enter Try.func20, Try.ntmps20
  go_wp2_with (first | ((with_reducible refine gate_dst (N := 2) rfl ?_); refine box_event ?hg (N := 2) ?hd (cs := #[.int .i64 a0_0, .slice A0_1 l0_1.length c0_1]) (t := 24) ?hr ?_; (case hd => rfl); (case hg => rfl); (case hr => first | (go_simp; done) | (go_simp; rfl)); intro gb131 hg w14 hbox hb; have n0_ := Aside0.mk (below_step (by exact HB.out) hb); have n1_ := Aside0.mk (hbox); have n2_ := Aside0.mk ((by rw [hg]; exact (below_size (by exact HB.out)) : w.heap.size ≤ gb131)); have n3_ := Aside0.mk ((by rw [hg]; exact (below_size (by exact HB.out)) : w.heap.size ≤ gb131)); clear HB; have HB := n0_; have BK131 := n1_; have GW131 := n2_; have GE131 := n3_; clear n0_ n1_ n2_ n3_; clear hb hbox hg; have hcz15_0 : w14.cell? ⟨gb131, 0, none⟩ = some (.int .i64 a0_0) := (blk_cell BK131.out 0).trans rfl; have hcz15_1 : w14.cell? ⟨gb131, 1, none⟩ = some (.slice A0_1 l0_1.length c0_1) := (blk_cell BK131.out 1).trans rfl; have hfz15_0 := blk_frozen BK131.out 0; have hfz15_1 := blk_frozen BK131.out 1) | ((with_reducible refine gate_callee (f := 57) rfl ?_); refine goesL_ (some 7) rfl rfl Try.func57 (by kernel_rfl) rfl #[.agg #[.int .i64 a0_0, .slice A0_1 l0_1.length c0_1], .int .i64 a1] rfl (by (try simp only [List.map_toArray, List.map_cons, List.map_nil]); first | done | rfl | (simp only [List.length_drop, List.length_take]; rfl)) ?_; (with_reducible refine (topo_knows.calls k a0_0 _ _ l0_1 a1 false _ ?side1 ?side2 A3.out).mono ?_); (case side1 => exact (Kd.C_below HR0_1.out HB.out)); (case side2 => exact HC0_1.out); rintro e w16 ⟨rfl, hb⟩; refine ⟨_, rfl, ?_⟩; have n0_ := Aside0.mk (blk_below (g := gb131) (o := .cells #[.int .i64 a0_0, .slice A0_1 l0_1.length c0_1] 24 (0, 0)) (by exact BK131.out) hb); have n1_ := Aside0.mk (below_step (by exact HB.out) hb); clear BK131; clear HB; have BK131 := n0_; have HB := n1_; clear n0_ n1_; (try clear hb); (try clear hb2); (try clear hk); (try clear hi)))
  go_ret
  exact ⟨_, by first | rfl | (simp [errW_none, errW_some] <;> rfl) | (simp [*, errW_none, errW_some] <;> rfl), by first | exact Kd.R_nil _ _ _ _ _ | exact Kd.N_nil _ _ _ _ _ | exact Kd.V_nil _ _ _ _ _ | exact Kd.Q_nil _ _ _ _ _ | exact Kd.S_nil _ _ _ _ _, by exact HB.out⟩

end Go.Proofs.Ythkpnkmbmlbefaa.X

/- visit (Comp$1): the recursive closure. -/
namespace Go.Proofs.Ythkpnkmbmlbefaa.HV
open Go.RowKit Go.Proofs.Ythkpnkmbmlbefaa.X Go.Proofs.YthkpnkmbmlbefaaW.PrintWords Go.Proofs.YthkpnkmbmlbefaaW.PrintLast Go.Proofs.YthkpnkmbmlbefaaW.PrintMore
mutual
def visit : Nat → List (List Int) → List Int → Int → Int → Option (List Int)
  | 0, _, _, _, _ => none
  | k + 1, next, comp, x, least => if 0 ≤ x then (if x < (comp.length : Int) then (if rd comp x ≥ 0 then some comp else (if x < (next.length : Int) then visits k next (rd_L3 next x) 0 (comp.set x.toNat least) least else none)) else none) else none
def visits : Nat → List (List Int) → List Int → Int → List Int → Int → Option (List Int)
  | 0, _, _, _, _, _ => none
  | k + 1, next, row, j, comp, least => if j < (row.length : Int) then (if 0 ≤ j then ((visit k next comp (rd row j) least).bind fun c => visits k next row (wrap64 (j + 1)) c least) else none) else some comp
end

theorem visit_mono_l : ∀ k, (∀ y0 y1 y2 y3, LeO (visit k y0 y1 y2 y3) (visit (k + 1) y0 y1 y2 y3)) ∧ (∀ y0 y1 y2 y3 y4, LeO (visits k y0 y1 y2 y3 y4) (visits (k + 1) y0 y1 y2 y3 y4))
  | 0 => ⟨fun _ _ _ _ r h => by simp [visit] at h, fun _ _ _ _ _ r h => by simp [visits] at h⟩
  | k + 1 => by
    obtain ⟨ih0, ih1⟩ := visit_mono_l k
    refine ⟨?_, ?_⟩
    · intro y0 y1 y2 y3
      unfold visit
      exact LeO.ite (LeO.ite (LeO.ite (LeO.refl _) (LeO.ite (ih1 _ _ _ _ _) (LeO.none _))) (LeO.none _)) (LeO.none _)
    · intro y0 y1 y2 y3 y4
      unfold visits
      exact LeO.ite (LeO.ite (LeO.bind (ih0 _ _ _ _) (fun _ => ih1 _ _ _ _ _)) (LeO.none _)) (LeO.refl _)
theorem visit_mono (k : Nat) (y0 : List (List Int)) (y1 : List Int) (y2 y3 : Int) : LeO (visit k y0 y1 y2 y3) (visit (k + 1) y0 y1 y2 y3) := (visit_mono_l k).1 _ _ _ _
/-- The closure's value. -/
def fv (gC gN gV : Nat) : Value := .func (.func 61) #[] #[.pointer (some ⟨gC, 0, none⟩), .pointer (some ⟨gN, 0, none⟩), .pointer (some ⟨gV, 0, none⟩)]
/-- What the closure has captured: the box of comp's slice, of next's, of its own value. -/
structure Cap (W : World) (gC gN gV : Nat) (vC vN : Value) : Prop where
  c : W.heap[gC]? = some (Obj.cells #[vC] 30 (0, 0))
  n : W.heap[gN]? = some (Obj.cells #[vN] 41 (0, 0))
  v : W.heap[gV]? = some (Obj.cells #[fv gC gN gV] 101 (0, 0))
def VisitCalls (k : Nat) : Prop := ∀ (x least : Int) (comp r : List Int) (next : List (List Int)) (w W : World) (gC gN gV gD cap : Nat) (A : Option Addr) (m c : Nat),
  Cap W gC gN gV (.slice (some ⟨gD, 0, none⟩) comp.length cap) (.slice A m c) → gC ≠ gD → gN ≠ gD → gV ≠ gD →
  Kd.R (Kd.int .i64) 3 W w.heap.size (fun k => k = gD) (.slice (some ⟨gD, 0, none⟩) comp.length cap) comp →
  Kd.F (Kd.slice 3 (Kd.int .i64)) W (fun k => k ≠ gD) A m next → Below w.heap.size w W → visit k next comp x least = some r →
  Calls Try.prog 61 #[.int .i64 x, .int .i64 least, .pointer (some ⟨gC, 0, none⟩), .pointer (some ⟨gN, 0, none⟩), .pointer (some ⟨gV, 0, none⟩)] W fun e w' =>
    e = .returned (.tuple #[]) ∧ r.length = comp.length ∧ Kd.R (Kd.int .i64) 3 w' w.heap.size (fun k => k = gD) (.slice (some ⟨gD, 0, none⟩) comp.length cap) r ∧ Below w.heap.size w w' ∧ Kept W w' (fun k => k = gD)
set_option maxHeartbeats 4000000 in
set_option maxRecDepth 100000 in
theorem visit_calls : ∀ k, ∀ k', k' ≤ k → VisitCalls k' := by
  intro k
  induction k with
  | zero => intro k' hk' x least comp r next w W gC gN gV gD cap A m c _ _ _ _ _ _ _ h; rw [Nat.le_zero.1 hk'] at h; simp [visit] at h
  | succ k ih =>
    intro k' hk' x least comp r next w W gC gN gV gD cap A m c hC hcd hnd hvd hR hF hB h
    cases k' with
    | zero => simp [visit] at h
    | succ k' =>
    have IH := Aside0.mk ih
    have HK := Aside0.mk (Nat.le_of_succ_le_succ hk')
    clear ih hk'
    have HB := Aside0.mk hB
    have HO := Aside0.mk hR
    have HF := Aside0.mk hF
    have CC := Aside0.mk hC.c
    have CN := Aside0.mk hC.n
    have CV := Aside0.mk hC.v
    clear hB hR hF hC
    have H := h
    clear h
    simp only [visit] at H
    by_cases c1 : ¬ (0 ≤ x)
    · rw [if_neg c1] at H; exact absurd H (by simp)
    replace c1 := Decidable.not_not.1 c1
    rw [if_pos c1] at H
    by_cases c2 : ¬ (x < (comp.length : Int))
    · rw [if_neg c2] at H; exact absurd H (by simp)
    replace c2 := Decidable.not_not.1 c2
    rw [if_pos c2] at H
    obtain ⟨hx_0, hf_0⟩ := Kd.R_celln 0 HO.out x c1 c2
    replace hx_0 : W.cell? ⟨gD, x.toNat, none⟩ = some (.int .i64 (rd comp x)) := hx_0
    have p1 := eq_true c1
    have p2 := eq_true c2
    have hcC : W.cell? ⟨gC, 0, none⟩ = some (.slice (some ⟨gD, 0, none⟩) comp.length cap) := (blk_cell CC.out 0).trans rfl
    by_cases c3 : rd comp x ≥ 0
    · rw [if_pos c3] at H
      obtain rfl := Option.some.inj H
      have c3b : decide (0 ≤ rd comp x) = true := decide_eq_true c3
      go_enter Try.func61, Try.ntmps61
      go_wp2
      (try simp only [Exit.inBlock, Exit.then])
      refine bodyPost_ret (results_none rfl _ _ _) rfl ?_
      first | exact ⟨rfl, rfl, HO.out, HB.out, Kept.refl _ _⟩ | exact ⟨rfl, HO.out, HB.out, Kept.refl _ _⟩
    · rw [if_neg c3] at H
      have c3b : decide (0 ≤ rd comp x) = false := decide_eq_false c3
      by_cases c4 : ¬ (x < (next.length : Int))
      · rw [if_neg c4] at H; exact absurd H (by simp)
      replace c4 := Decidable.not_not.1 c4
      rw [if_pos c4] at H
      have H' := Aside0.mk H
      clear H
      have GE := Aside0.mk (Kd.R_base HO.out gD rfl)
      have CC1 := Aside0.mk (blk_far CC.out hcd (p := ⟨gD, x.toNat, none⟩) (.int .i64 least))
      have CN1 := Aside0.mk (blk_far CN.out hnd (p := ⟨gD, x.toNat, none⟩) (.int .i64 least))
      have CV1 := Aside0.mk (blk_far CV.out hvd (p := ⟨gD, x.toNat, none⟩) (.int .i64 least))
      have HO1 := Aside0.mk (Kd.R_putn HO.out x least)
      have HF1 := Aside0.mk (Kd.F_far HF.out (p := ⟨gD, x.toNat, none⟩) (fun k hk => hk) (.int .i64 least))
      have HB1 := Aside0.mk (below_set (j := x.toNat) (v := .int .i64 least) HB.out GE.out)
      have K1 := Aside0.mk ((Kept.refl W (fun k => k = gD)).setCell (p := ⟨gD, x.toNat, none⟩) (.inl rfl) (.int .i64 least))
      have hm : next.length = m := Kd.F_len HF.out
      subst hm
      obtain ⟨ad, cs, eA, _, hFK, hcc, _⟩ := Kd.F_get HF1.out ([] : List Int) x c1 c4
      obtain ⟨A1, cc, rfl, hcc1, hF1⟩ := Kd.FK_slice_open hFK
      subst eA
      have hrow : (W.setCell ⟨gD, x.toNat, none⟩ (.int .i64 least)).cell? (ad.add x.toNat) = some (.slice A1 (rd_L3 next x).length cc) := by
        have := hcc 0 _ rfl
        rwa [show (Kd.slice 3 (Kd.int .i64)).sz = 1 from rfl, Nat.mul_one, Nat.add_zero] at this
      have HR1 := Aside0.mk hF1
      clear hFK hcc hF1
      have hcN1 : (W.setCell ⟨gD, x.toNat, none⟩ (.int .i64 least)).cell? ⟨gN, 0, none⟩ = some (.slice (some ad) next.length c) := (blk_cell CN1.out 0).trans rfl
      have p4 := eq_true c4
      go_enter Try.func61, Try.ntmps61
      go_wp2
      generalize W.setCell ⟨gD, x.toNat, none⟩ (.int .i64 least) = W1 at CC1 CN1 CV1 HO1 HF1 HB1 K1 hrow HR1 hcN1 ⊢
      have HO1' : Aside0 (Kd.R (Kd.int .i64) 3 W1 w.heap.size (fun k => k = gD) (.slice (some ⟨gD, 0, none⟩) (comp.set x.toNat least).length cap) (comp.set x.toNat least)) := ⟨by rw [List.length_set]; exact HO1.out⟩
      have hlen : Aside0 ((comp.set x.toNat least).length = comp.length) := ⟨by simp⟩
      generalize comp.set x.toNat least = comp1 at HO1' H' hlen
      have HR1' : Aside0 (Kd.F (Kd.int .i64) W1 (fun k => k ≠ gD) A1 (rd_L3 next x).length (rd_L3 next x)) := ⟨HR1.out⟩
      generalize rd_L3 next x = row at H' hrow HR1' ⊢
      clear HO1 HO hx_0 hf_0 hcC c3b hcc1 HR1 HB CC CN CV HF hrow hcN1 p1 p2 p4
      go_loopg [23] k' (fun kq v23 w' => ∃ (j : Int) (q : List Int), v23 = .int .i64 j ∧ Aside0 (visits kq next row j q least = some r) ∧ Aside0 (kq ≤ k') ∧ Aside0 (q.length = comp.length) ∧ Aside0 (Kd.R (Kd.int .i64) 3 w' w.heap.size (fun k => k = gD) (.slice (some ⟨gD, 0, none⟩) q.length cap) q) ∧ Aside0 (Kd.F (Kd.slice 3 (Kd.int .i64)) w' (fun k => k ≠ gD) (some ad) next.length next) ∧ Aside0 (Kd.F (Kd.int .i64) w' (fun k => k ≠ gD) A1 row.length row) ∧ Aside0 (Cap w' gC gN gV (.slice (some ⟨gD, 0, none⟩) comp.length cap) (.slice (some ad) next.length c)) ∧ Aside0 (Below w.heap.size w w') ∧ Aside0 (Kept W w' (fun k => k = gD)))
      case atStart => exact ⟨0, comp1, rfl, H', ⟨Nat.le_refl _⟩, hlen, HO1', HF1, HR1', ⟨⟨CC1.out, CN1.out, CV1.out⟩⟩, HB1, K1⟩
      case round =>
        clear H' HO1' hlen HF1 HR1' CC1 CN1 CV1 HB1 K1
        obtain ⟨j, q, rfl, HA, HK1, HL, HO, HF, HR, HC, HB, KK⟩ := hrel
        cases gk with
        | zero => exact absurd HA.out (by simp [visits])
        | succ k1 =>
          have H := HA.out
          clear HA
          simp only [visits] at H
          by_cases c5 : j < (row.length : Int)
          · rw [if_pos c5] at H
            have c5b : decide (j < (row.length : Int)) = true := decide_eq_true c5
            by_cases c6 : 0 ≤ j
            · rw [if_pos c6] at H
              obtain ⟨t, At, H⟩ := Option.bind_eq_some_iff.mp H
              obtain ⟨ad1, cs1, e1, _, hK1, hc1⟩ := Kd.C_get (Kd.F_now HR.out) 0 j c6 c5
              subst e1
              have hx1 : wr.cell? (ad1.add j.toNat) = some (.int .i64 (rd row j)) := by
                have hK2 : cs1 = [.int .i64 (rd row j)] := hK1
                subst hK2
                have := hc1 0 _ rfl
                rwa [show (Kd.int .i64).sz = 1 from rfl, Nat.mul_one, Nat.add_zero] at this
              have hcV : wr.cell? ⟨gV, 0, none⟩ = some (fv gC gN gV) := (blk_cell HC.out.v 0).trans rfl
              unfold fv at hcV
              have HCALL := Aside0.mk (IH.out k1 (by have := HK.out; have := HK1.out; omega) (rd row j) least q t next w wr gC gN gV gD cap (some ad) next.length c (by rw [HL.out]; exact HC.out) hcd hnd hvd HO.out HF.out HB.out At)
              have H' := Aside0.mk H
              clear H
              have p5 := eq_true c5
              have p6 := eq_true c6
              clear hK1 hc1
              go_wp2_with (first | (go_at_call 61; (with_reducible refine HCALL.out.mono ?_); rintro e w41 ⟨rfl, hl_, hs_, hb_, hk_⟩; have n0_ := Aside0.mk hs_; rw [← hl_] at n0_; have n1_ := Aside0.mk hb_; have n2_ := Aside0.mk (hl_.trans HL.out); have n3_ : Aside0 (Cap w41 gC gN gV (.slice (some ⟨gD, 0, none⟩) comp.length cap) (.slice (some ad) next.length c)) := ⟨⟨blk_kept HC.out.c hk_ hcd, blk_kept HC.out.n hk_ hnd, blk_kept HC.out.v hk_ hvd⟩⟩; have n4_ := Aside0.mk (Kd.F_kept HF.out hk_ (fun k_ h_ => h_)); have n5_ := Aside0.mk (Kd.F_kept HR.out hk_ (fun k_ h_ => h_)); have n6_ := Aside0.mk (KK.out.then_ hk_ (fun _ h_ => .inl h_)); clear HO HB HC HF HR KK hs_ hb_ hk_ hl_ hcV hx1))
              go_roundg k1
              case measure => have := HK1.out; omega
              case rel => exact ⟨wrap64 (j + 1), t, rfl, H', ⟨by have := HK1.out; omega⟩, n2_, n0_, n4_, n5_, n3_, n1_, n6_⟩
            · rw [if_neg c6] at H
              exact absurd H (by simp)
          · rw [if_neg c5] at H
            have c5b : decide (j < (row.length : Int)) = false := decide_eq_false c5
            obtain rfl := Option.some.inj H
            go_wp2
            refine bodyPost_end (results_none rfl _ _ _) rfl ?_
            exact ⟨rfl, HL.out, by have := HO.out; rw [HL.out] at this; exact this, HB.out, KK.out⟩
end Go.Proofs.Ythkpnkmbmlbefaa.HV

namespace Go.Proofs.Ythkpnkmbmlbefaa.X
open Go.RowKit Go.Proofs.YthkpnkmbmlbefaaW.PrintWords Go.Proofs.YthkpnkmbmlbefaaW.PrintLast Go.Proofs.YthkpnkmbmlbefaaW.PrintMore
attribute [local go_sem] max2_int min2_int max_two min_two max_three min_three max_four min_four   -- for this text's walks alone
set_option linter.unusedVariables false
set_option linter.unusedSimpArgs false


/-! ### topo_Comp: function 22 -/
mutual
def topo_Comp.l0 : Nat → List (List Int) → List Int → Int → Option (List Int)
 | 0, _, _, _ => none
 | k + 1, nx, c, i => if i < (c.length : Int) then (if 0 ≤ i then (topo_Comp.l0 k nx (c.set i.toNat (-1)) (wrap64 (i + 1))) else (none)) else (topo_Comp.l1 k nx c 0)
def topo_Comp.l1 : Nat → List (List Int) → List Int → Int → Option (List Int)
 | 0, _, _, _ => none
 | k + 1, nx, c, i => if i < (c.length : Int) then ((HV.visit k nx c i i).bind fun t => (topo_Comp.l1 k nx t (wrap64 (i + 1)))) else (some c)
end
def topo_Comp.f (k : Nat) (a0_0 : Int) (l0_1 : List (S37)) : Option (List Int) := (topo_Check.f k a0_0 l0_1).bind fun te => (if te = 0 then ((topo_neighbors.f k a0_0 l0_1).bind fun tn => (if 0 ≤ a0_0 then (if (a0_0 : Int).toNat ≤ 35184372088832 then (topo_Comp.l0 k tn (List.replicate (a0_0 : Int).toNat 0) 0) else (none)) else (none))) else (some ([] : List Int)))
theorem topo_Comp.mono_l : ∀ k, (∀ y0 y1 y2, LeO (topo_Comp.l0 k y0 y1 y2) (topo_Comp.l0 (k + 1) y0 y1 y2)) ∧ (∀ y0 y1 y2, LeO (topo_Comp.l1 k y0 y1 y2) (topo_Comp.l1 (k + 1) y0 y1 y2))
 | 0 => ⟨fun _ _ _ r h => by simp [topo_Comp.l0] at h, fun _ _ _ r h => by simp [topo_Comp.l1] at h⟩
 | k + 1 => by
  obtain ⟨ih0, ih1⟩ := topo_Comp.mono_l k
  refine ⟨?_, ?_⟩
  ·intro y0 y1 y2
   unfold topo_Comp.l0
   repeat' first
   | exact ih0 _ _ _
   | exact ih1 _ _ _
   | exact LeO.none _
   | refine LeO.ite ?_ ?_
  ·intro y0 y1 y2
   unfold topo_Comp.l1
   refine LeO.ite (LeO.bind (HV.visit_mono k _ _ _ _) (fun _ => ih1 _ _ _)) (LeO.refl _)
set_option maxHeartbeats 8000000 in
set_option maxRecDepth 100000 in
theorem topo_Comp.calls (k : Nat) (a0_0 : Int) (A0_1 : Option Addr) (c0_1 : Nat) (l0_1 : List (S37)) (r : List Int) (w : World) (hr0_1 : Kd.C k37 w A0_1 l0_1.length l0_1) (hc0_1 : l0_1.length ≤ c0_1) (h : topo_Comp.f k a0_0 l0_1 = some r) :
  Calls Try.prog 22 #[.agg #[.int .i64 a0_0, .slice A0_1 l0_1.length c0_1]] w fun e w' => ∃ v0_ : Value, e = .returned (v0_) ∧ Kd.R (Kd.int .i64) 3 w' w.heap.size (fun _ => True) v0_ r ∧ Below w.heap.size w w' := by
 have hu24 := Try.underlying24
 have HR0_1 := Aside0.mk hr0_1
 have HC0_1 := Aside0.mk hc0_1
 clear hr0_1 hc0_1
 have HB := Aside0.mk (Below.refl w.heap.size w)
 have H := h
 clear h
 unfold topo_Comp.f at H
 obtain ⟨te, AE0, H⟩ := Option.bind_eq_some_iff.mp H
 have AE := Aside0.mk AE0
 clear AE0
 by_cases c1 : te = 0
 ·rw [if_pos c1] at H
  have c1b0 : (te == 0) = true := beq_iff_eq.mpr c1
  have c1b1 : (te != 0) = false := bne_eq_false_iff_eq.mpr c1
  clear c1
  obtain ⟨tn, AN0, H⟩ := Option.bind_eq_some_iff.mp H
  have AN := Aside0.mk AN0
  clear AN0
  by_cases c2 : ¬ (0 ≤ a0_0)
  ·rw [if_neg c2] at H
   exact absurd H (by simp)
  replace c2 := Decidable.not_not.1 c2
  rw [if_pos c2] at H
  by_cases c3 : ¬ ((a0_0 : Int).toNat ≤ 35184372088832)
  ·rw [if_neg c3] at H
   exact absurd H (by simp)
  replace c3 := Decidable.not_not.1 c3
  rw [if_pos c3] at H
  obtain ⟨y0, hy0⟩ : ∃ y_ : List Int, y_ = (List.replicate (a0_0 : Int).toNat 0) := ⟨_, rfl⟩
  rw [← hy0] at H
  have NY := Aside0.mk hy0
  clear hy0
  have H' := Aside0.mk H
  clear H
  go_enter Try.func22, Try.ntmps22
  go_wp2_with (first | ((with_reducible refine gate_dst (N := 1) rfl ?_); refine box_event ?hg (N := 1) ?hd (cs := #[.int .i64 a0_0, .slice A0_1 l0_1.length c0_1]) (t := 24) ?hr ?_; (case hd => rfl); (case hg => rfl); (case hr => first | (go_simp; done) | (go_simp; rfl)); intro gb164 hg w5 hbox hb; have n0_ := Aside0.mk (below_step (by exact HB.out) hb); have n1_ := Aside0.mk (hbox); have n2_ := Aside0.mk ((by rw [hg]; exact (below_size (by exact HB.out)) : w.heap.size ≤ gb164)); have n3_ := Aside0.mk ((by rw [hg]; exact (below_size (by exact HB.out)) : w.heap.size ≤ gb164)); clear HB; have HB := n0_; have BK164 := n1_; have GW164 := n2_; have GE164 := n3_; clear n0_ n1_ n2_ n3_; clear hb hbox hg; have hcz6_0 : w5.cell? ⟨gb164, 0, none⟩ = some (.int .i64 a0_0) := (blk_cell BK164.out 0).trans rfl; have hcz6_1 : w5.cell? ⟨gb164, 1, none⟩ = some (.slice A0_1 l0_1.length c0_1) := (blk_cell BK164.out 1).trans rfl; have hfz6_0 := blk_frozen BK164.out 0; have hfz6_1 := blk_frozen BK164.out 1) | ((with_reducible refine gate_callee (f := 17) rfl ?_); refine goesL_ (some 9) rfl rfl Try.func17 (by kernel_rfl) rfl #[.agg #[.int .i64 a0_0, .slice A0_1 l0_1.length c0_1]] rfl (by (try simp only [List.map_toArray, List.map_cons, List.map_nil]); first | done | rfl | (simp only [List.length_drop, List.length_take]; rfl)) ?_; (with_reducible refine (topo_Check.calls k a0_0 _ _ l0_1 te _ ?side1 ?side2 AE.out).mono ?_); (case side1 => exact (Kd.C_below HR0_1.out HB.out)); (case side2 => exact HC0_1.out); rintro e w7 ⟨rfl, hb⟩; refine ⟨_, rfl, ?_⟩; have n0_ := Aside0.mk (blk_below (g := gb164) (o := .cells #[.int .i64 a0_0, .slice A0_1 l0_1.length c0_1] 24 (0, 0)) (by exact BK164.out) hb); have n1_ := Aside0.mk (below_step (by exact HB.out) hb); clear BK164; clear HB; have BK164 := n0_; have HB := n1_; clear n0_ n1_; (try clear hb); (try clear hb2); (try clear hk); (try clear hi); have hcz8_0 : w7.cell? ⟨gb164, 0, none⟩ = some (.int .i64 a0_0) := (blk_cell BK164.out 0).trans rfl; have hcz8_1 : w7.cell? ⟨gb164, 1, none⟩ = some (.slice A0_1 l0_1.length c0_1) := (blk_cell BK164.out 1).trans rfl; have hfz8_0 := blk_frozen BK164.out 0; have hfz8_1 := blk_frozen BK164.out 1) | ((with_reducible refine gate_callee (f := 59) rfl ?_); refine goesL_ (some 12) rfl rfl Try.func59 (by kernel_rfl) rfl #[.agg #[.int .i64 a0_0, .slice A0_1 l0_1.length c0_1]] rfl (by (try simp only [List.map_toArray, List.map_cons, List.map_nil]); first | done | rfl | (simp only [List.length_drop, List.length_take]; rfl)) ?_; (with_reducible refine (topo_neighbors.calls k a0_0 _ _ l0_1 tn _ ?side1 ?side2 AN.out).mono ?_); (case side1 => exact (Kd.C_below HR0_1.out HB.out)); (case side2 => exact HC0_1.out); rintro e w9 ⟨v167, rfl, ho0, hb⟩; refine ⟨_, rfl, ?_⟩; have n0_ := Aside0.mk (Kd.S_lower ho0 (below_size (by exact HB.out))); have n1_ := Aside0.mk (blk_below (g := gb164) (o := .cells #[.int .i64 a0_0, .slice A0_1 l0_1.length c0_1] 24 (0, 0)) (by exact BK164.out) hb); have n2_ := Aside0.mk (below_step (by exact HB.out) hb); clear BK164; clear HB; have HO168 := n0_; have BK164 := n1_; have HB := n2_; clear n0_ n1_ n2_; (try clear hb); (try clear hb2); (try clear hk); (try clear hi); (try clear ho0); have hcz10_0 : w9.cell? ⟨gb164, 0, none⟩ = some (.int .i64 a0_0) := (blk_cell BK164.out 0).trans rfl; have hcz10_1 : w9.cell? ⟨gb164, 1, none⟩ = some (.slice A0_1 l0_1.length c0_1) := (blk_cell BK164.out 1).trans rfl; have hfz10_0 := blk_frozen BK164.out 0; have hfz10_1 := blk_frozen BK164.out 1) | ((with_reducible refine gate_dst (N := 3) rfl ?_); refine box_event ?hg (N := 3) ?hd (cs := #[.slice none 0 0]) (t := 41) ?hr ?_; (case hd => rfl); (case hg => rfl); (case hr => first | (go_simp; done) | (go_simp; rfl)); intro gN hg w11 hbox hb; obtain ⟨An, cn, en⟩ := Kd.S_slice HO168.out; subst en; have NBN := Aside0.mk ((by rw [hg]; exact Nat.ne_of_lt (blk_lt BK164.out) : gb164 ≠ gN)); have GEN := Aside0.mk ((by rw [hg]; exact below_size HB.out : w.heap.size ≤ gN)); have FN := Aside0.mk (Kd.F_below (Kd.F_bound (Kd.S_F HO168.out)) hb); have LTN := Aside0.mk hg; have n1_ := Aside0.mk (blk_below (g := gb164) BK164.out hb); have n2_ := Aside0.mk (below_step HB.out hb); clear BK164; clear HB; have BK164 := n1_; have HB := n2_; clear n1_ n2_; have BKN := Aside0.mk hbox; clear hb hbox hg; have hcw_0 : (w11.setCell ⟨gN, 0, none⟩ (.slice An tn.length cn)).cell? ⟨gb164, 0, none⟩ = some (.int .i64 a0_0) := (blk_cell (blk_far BK164.out NBN.out _) 0).trans rfl; have hczN : w11.cell? ⟨gN, 0, none⟩ = some (.slice none 0 0) := (blk_cell BKN.out 0).trans rfl; have hfzN := blk_frozen BKN.out 0) | ((with_reducible refine gate_dst (N := 15) rfl ?_); refine Kd.R_make (Kd.int .i64) _ 3 rfl (N := 15) rfl 30 _ _ rfl a0_0 rfl rfl Try.underlying30 (.int .i64 0) 8 info3 rfl (by decide) (by omega) 0 (ok := fun _ => True) (okp := fun _ => True) rfl (fun _ hk => hk) trivial c2 (Nat.le_trans (Nat.mul_le_mul_right _ c3) (by omega)) (Below.refl _ _) (Nat.le_refl _) ?_; intro v15 w15 ho_ hb hg_ hnew_; clear hg_; (first | rw [← NY.out] at ho_ | (simp only [Int.reduceToNat] at ho_; rw [← NY.out] at ho_)); obtain ⟨Ac, cc, ec⟩ := Kd.R_slice ho_; subst ec; obtain ⟨b_, hb1_, hb2_⟩ := hnew_; obtain ⟨ad_, ea_⟩ : ∃ ad_, Ac = some ad_ := (by cases Ac with | none => cases hb1_ | some ad_ => exact ⟨_, rfl⟩); subst ea_; obtain ⟨gD, ea_⟩ := Kd.R_head ho_; subst ea_; have hgd_ : gD = b_ := Option.some.inj hb1_; subst hgd_; have hsz_ : w11.heap.size ≤ gD := Nat.le_trans (by simp [World.setCell]) hb2_; have n0_ := Aside0.mk (Kd.R_mono (Kd.R_tight rfl (Kd.R_lower ho_ (by first | exact Nat.le_trans (below_size HB.out) (by simp [World.setCell]) | skip))) (ok' := fun k => k = gD) (fun k hk => by injection hk)); have n1_ := Aside0.mk (blk_below (g := gN) (o := .cells #[.slice An tn.length cn] 41 (0, 0)) (blk_put (cs := #[.slice none 0 0]) BKN.out 0 _ rfl) hb); have n2_ := Aside0.mk (below_step (below_set HB.out GEN.out) hb); have n3_ : Aside0 (Kd.F (Kd.slice 3 (Kd.int .i64)) w15 (fun k => k ≠ gD) An tn.length tn) := ⟨Kd.F_mono (Kd.F_below (Kd.F_far FN.out (p := ⟨gN, 0, none⟩) (fun k hk => by have := LTN.out; have := hk.2; show k ≠ gN; omega) _) hb) (fun k hk => by have := hk.2; have := LTN.out; have := blk_lt BKN.out; omega)⟩; have n4_ : Aside0 (gN ≠ gD) := ⟨by have := blk_lt BKN.out; omega⟩; have n5_ := Aside0.mk (Kd.R_lt ho_ gD rfl); clear HB BKN FN hczN hcw_0 hfzN hb hsz_ hb1_ hb2_ ho_; have HO := n0_; have BKN := n1_; have HB := n2_; have FN := n3_; have NND := n4_; have LTD := n5_; clear n0_ n1_ n2_ n3_ n4_ n5_) | ((with_reducible refine gate_dst (N := 4) rfl ?_); refine box_event ?hg (N := 4) ?hd (cs := #[.slice none 0 0]) (t := 30) ?hr ?_; (case hd => rfl); (case hg => rfl); (case hr => first | (go_simp; done) | (go_simp; rfl)); intro gC hg w17 hbox hb; have NCD := Aside0.mk ((by rw [hg]; exact Nat.ne_of_gt LTD.out : gC ≠ gD)); have NNC := Aside0.mk ((by rw [hg]; exact Nat.ne_of_lt (blk_lt BKN.out) : gN ≠ gC)); have GEC := Aside0.mk ((by rw [hg]; exact below_size HB.out : w.heap.size ≤ gC)); have n0_ := Aside0.mk (Kd.R_far (Kd.R_below HO.out hb) (p := ⟨gC, 0, none⟩) (fun k hk => by rw [hk]; exact Ne.symm NCD.out) (.slice (some ⟨gD, 0, none⟩) y0.length cc)); have n1_ := Aside0.mk (blk_far (blk_below BKN.out hb) (p := ⟨gC, 0, none⟩) NNC.out (.slice (some ⟨gD, 0, none⟩) y0.length cc)); have n2_ := Aside0.mk (below_set (j := 0) (v := .slice (some ⟨gD, 0, none⟩) y0.length cc) (below_step HB.out hb) GEC.out); have n3_ := Aside0.mk (Kd.F_far (Kd.F_mono (Kd.F_bound (Kd.F_below (Kd.F_bound FN.out) hb)) (ok' := fun k => k ≠ gD ∧ k ≠ gC) (fun k hk => ⟨hk.1.1, by have := hk.1.2; rw [hg]; exact Nat.ne_of_lt this⟩)) (p := ⟨gC, 0, none⟩) (fun k hk => hk.2) (.slice (some ⟨gD, 0, none⟩) y0.length cc)); have n4_ := Aside0.mk (blk_put (cs := #[.slice none 0 0]) (cs' := #[.slice (some ⟨gD, 0, none⟩) y0.length cc]) hbox 0 _ rfl); have hczC : w17.cell? ⟨gC, 0, none⟩ = some (.slice none 0 0) := (blk_cell hbox 0).trans rfl; have hfzC := blk_frozen hbox 0; have hcwC : (w17.setCell ⟨gC, 0, none⟩ (.slice (some ⟨gD, 0, none⟩) y0.length cc)).cell? ⟨gC, 0, none⟩ = some (.slice (some ⟨gD, 0, none⟩) y0.length cc) := (blk_cell n4_.out 0).trans rfl; clear HB BKN FN HO hb hbox hg; have HO := n0_; have BKN := n1_; have HB := n2_; have FN := n3_; have BKC := n4_; clear n0_ n1_ n2_ n3_ n4_))
  have FN' := Aside0.mk (Kd.F_mono FN.out (ok' := fun k => k ≠ gD) (fun k hk => hk.1))
  generalize w17.setCell ⟨gC, 0, none⟩ (.slice (some ⟨gD, 0, none⟩) y0.length cc) = W17 at HO BKN HB FN' BKC hcwC ⊢
  clear FN hczC hfzC hcwC NNC GEC LTD LTN GEN NBN HR0_1 HC0_1
  go_loopg [18] k (fun kq v18 w' => ∃ (i : Int) (q : List Int), v18 = .int .i64 i ∧ Aside0 (topo_Comp.l0 kq tn q i = some r) ∧ Aside0 (kq ≤ k) ∧ Aside0 (q.length = y0.length) ∧ Aside0 (Kd.R (Kd.int .i64) 3 w' w.heap.size (fun k => k = gD) (.slice (some ⟨gD, 0, none⟩) y0.length cc) q) ∧ Aside0 (w'.heap[gN]? = some (.cells #[.slice An tn.length cn] 41 (0, 0))) ∧ Aside0 (w'.heap[gC]? = some (.cells #[.slice (some ⟨gD, 0, none⟩) y0.length cc] 30 (0, 0))) ∧ Aside0 (Kd.F (Kd.slice 3 (Kd.int .i64)) w' (fun k => k ≠ gD) An tn.length tn) ∧ Aside0 (Below w.heap.size w w'))
  case atStart => exact ⟨0, y0, rfl, H', ⟨Nat.le_refl _⟩, ⟨rfl⟩, HO, BKN, BKC, FN', HB⟩
  case round =>
   clear H' HO BKN BKC FN' HB
   obtain ⟨i, q, rfl, HA, HK1, HL, HO, BKN, BKC, FN, HB⟩ := hrel
   cases gk with
   | zero => exact absurd HA.out (by simp [topo_Comp.l0])
   | succ k1 =>
    have H := HA.out
    clear HA
    simp only [topo_Comp.l0] at H
    rw [HL.out] at H
    have hcC : wr.cell? ⟨gC, 0, none⟩ = some (.slice (some ⟨gD, 0, none⟩) y0.length cc) := (blk_cell BKC.out 0).trans rfl
    by_cases c5 : i < (y0.length : Int)
    ·rw [if_pos c5] at H
     have c5b : decide (i < (y0.length : Int)) = true := decide_eq_true c5
     by_cases c6 : 0 ≤ i
     ·rw [if_pos c6] at H
      have H' := Aside0.mk H
      clear H
      obtain ⟨hx, hf⟩ := Kd.R_celln 0 HO.out i c6 c5
      have GED := Aside0.mk (Kd.R_base HO.out gD rfl)
      have p5 := eq_true c5
      have p6 := eq_true c6
      go_wp2
      go_roundg k1
      case measure => have := HK1.out; omega
      case rel => exact ⟨wrap64 (i + 1), q.set i.toNat (-1), rfl, H', ⟨by have := HK1.out; omega⟩, ⟨by rw [List.length_set]; exact HL.out⟩, ⟨Kd.R_putn HO.out i (-1)⟩, ⟨blk_far BKN.out NND.out _⟩, ⟨blk_far BKC.out NCD.out _⟩, ⟨Kd.F_far FN.out (fun k hk => hk) _⟩, ⟨below_set HB.out GED.out⟩⟩
     ·rw [if_neg c6] at H
      exact absurd H (by simp)
    ·rw [if_neg c5] at H
     have c5b : decide (i < (y0.length : Int)) = false := decide_eq_false c5
     have H' := Aside0.mk H
     clear H
     go_wp2_with (first | ((with_reducible refine gate_dst (N := 6) rfl ?_); refine box_event ?hg (N := 6) ?hd (cs := #[.nilFunc]) (t := 101) ?hr ?_; (case hd => rfl); (case hg => rfl); (case hr => first | (go_simp; done) | (go_simp; rfl)); intro gV hg w27 hbox hb; have NVD := Aside0.mk ((by rw [hg]; exact Nat.ne_of_gt (Kd.R_lt HO.out gD rfl) : gV ≠ gD)); have NNV := Aside0.mk ((by rw [hg]; exact Nat.ne_of_lt (blk_lt BKN.out) : gN ≠ gV)); have NCV := Aside0.mk ((by rw [hg]; exact Nat.ne_of_lt (blk_lt BKC.out) : gC ≠ gV)); have GEV := Aside0.mk ((by rw [hg]; exact below_size HB.out : w.heap.size ≤ gV)); have n0_ := Aside0.mk (Kd.R_far (Kd.R_below HO.out hb) (p := ⟨gV, 0, none⟩) (fun k hk => by rw [hk]; exact Ne.symm NVD.out) (HV.fv gC gN gV)); have n1_ := Aside0.mk (blk_far (blk_below BKN.out hb) (p := ⟨gV, 0, none⟩) NNV.out (HV.fv gC gN gV)); have n5_ := Aside0.mk (blk_far (blk_below BKC.out hb) (p := ⟨gV, 0, none⟩) NCV.out (HV.fv gC gN gV)); have n2_ := Aside0.mk (below_set (j := 0) (v := HV.fv gC gN gV) (below_step HB.out hb) GEV.out); have n3_ := Aside0.mk (Kd.F_mono (Kd.F_far (Kd.F_mono (Kd.F_bound (Kd.F_below (Kd.F_bound FN.out) hb)) (ok' := fun k => k ≠ gD ∧ k ≠ gV) (fun k hk => ⟨hk.1.1, by have := hk.1.2; rw [hg]; exact Nat.ne_of_lt this⟩)) (p := ⟨gV, 0, none⟩) (fun k hk => hk.2) (HV.fv gC gN gV)) (ok' := fun k => k ≠ gD) (fun k hk => hk.1)); have n4_ := Aside0.mk (blk_put (cs := #[.nilFunc]) (cs' := #[HV.fv gC gN gV]) hbox 0 _ rfl); have hczV : w27.cell? ⟨gV, 0, none⟩ = some .nilFunc := (blk_cell hbox 0).trans rfl; have hfzV := blk_frozen hbox 0; have hcwC : (w27.setCell ⟨gV, 0, none⟩ (HV.fv gC gN gV)).cell? ⟨gC, 0, none⟩ = some (.slice (some ⟨gD, 0, none⟩) y0.length cc) := (blk_cell n5_.out 0).trans rfl; unfold HV.fv at hcwC; clear HB BKN FN HO BKC hb hbox hg; have HO := n0_; have BKN := n1_; have HB := n2_; have FN := n3_; have BKV := n4_; have BKC := n5_; clear n0_ n1_ n2_ n3_ n4_ n5_))
     have NCD' := NCD.out
     simp only [HV.fv] at HO BKN HB FN BKV BKC
     generalize w27.setCell ⟨gV, 0, none⟩ (.func (.func 61) #[] #[.pointer (some ⟨gC, 0, none⟩), .pointer (some ⟨gN, 0, none⟩), .pointer (some ⟨gV, 0, none⟩)]) = W27 at HO BKN HB FN BKV BKC hcwC ⊢
     go_loopg [28] k1 (fun kq v28 w' => ∃ (i : Int) (q : List Int), v28 = .int .i64 i ∧ Aside0 (topo_Comp.l1 kq tn q i = some r) ∧ Aside0 (kq ≤ k1) ∧ Aside0 (q.length = y0.length) ∧ Aside0 (Kd.R (Kd.int .i64) 3 w' w.heap.size (fun k => k = gD) (.slice (some ⟨gD, 0, none⟩) y0.length cc) q) ∧ Aside0 (HV.Cap w' gC gN gV (.slice (some ⟨gD, 0, none⟩) y0.length cc) (.slice An tn.length cn)) ∧ Aside0 (Kd.F (Kd.slice 3 (Kd.int .i64)) w' (fun k => k ≠ gD) An tn.length tn) ∧ Aside0 (Below w.heap.size w w'))
     case atStart => exact ⟨0, q, rfl, H', ⟨Nat.le_refl _⟩, HL, HO, ⟨⟨BKC.out, BKN.out, BKV.out⟩⟩, FN, HB⟩
     case round =>
      clear H' HO BKN BKC FN HB BKV HL hcwC hczV hfzV
      obtain ⟨i2, q2, rfl, HA, HK2, HL, HO, HC, FN, HB⟩ := hrel
      cases gk with
      | zero => exact absurd HA.out (by simp [topo_Comp.l1])
      | succ k2 =>
       have H := HA.out
       clear HA
       simp only [topo_Comp.l1] at H
       rw [HL.out] at H
       by_cases c7 : i2 < (y0.length : Int)
       ·rw [if_pos c7] at H
        have c7b : decide (i2 < (y0.length : Int)) = true := decide_eq_true c7
        obtain ⟨t, At, H⟩ := Option.bind_eq_some_iff.mp H
        have H' := Aside0.mk H
        clear H
        have hcV : wr.cell? ⟨gV, 0, none⟩ = some (HV.fv gC gN gV) := (blk_cell HC.out.v 0).trans rfl
        unfold HV.fv at hcV
        have HCALL := Aside0.mk (HV.visit_calls k2 k2 (Nat.le_refl _) i2 i2 q2 t tn w wr gC gN gV gD cc An tn.length cn (by rw [HL.out]; exact HC.out) NCD.out NND.out NVD.out (by rw [HL.out]; exact HO.out) FN.out HB.out At)
        go_wp2_with (first | (go_at_call 61; (with_reducible refine HCALL.out.mono ?_); rintro e w41 ⟨rfl, hl_, hs_, hb_, hk_⟩; have n0_ := Aside0.mk hs_; rw [HL.out] at n0_; have n1_ := Aside0.mk hb_; have n2_ := Aside0.mk (hl_.trans HL.out); have n3_ : Aside0 (HV.Cap w41 gC gN gV (.slice (some ⟨gD, 0, none⟩) y0.length cc) (.slice An tn.length cn)) := ⟨⟨blk_kept HC.out.c hk_ NCD.out, blk_kept HC.out.n hk_ NND.out, blk_kept HC.out.v hk_ NVD.out⟩⟩; have n4_ := Aside0.mk (Kd.F_kept FN.out hk_ (fun k_ h_ => h_)); clear HO HB HC FN hs_ hb_ hk_ hcV))
        go_roundg k2
        case measure => have := HK2.out; omega
        case rel => exact ⟨wrap64 (i2 + 1), t, by first | rfl | (simp; done) | (simp [*]; done), H', ⟨by have := HK2.out; omega⟩, n2_, n0_, n3_, n4_, n1_⟩
       ·rw [if_neg c7] at H
        have c7b : decide (i2 < (y0.length : Int)) = false := decide_eq_false c7
        obtain rfl := Option.some.inj H
        have hcC2 : wr.cell? ⟨gC, 0, none⟩ = some (.slice (some ⟨gD, 0, none⟩) y0.length cc) := (blk_cell HC.out.c 0).trans rfl
        go_wp2
        go_ret
        exact ⟨_, rfl, Kd.R_mono HO.out (fun _ _ => trivial), HB.out⟩
 ·rw [if_neg c1] at H
  have c1b0 : (te == 0) = false := beq_eq_false_iff_ne.mpr c1
  have c1b1 : (te != 0) = true := bne_iff_ne.mpr c1
  clear c1
  obtain rfl := Option.some.inj H
  go_enter Try.func22, Try.ntmps22
  go_wp2_with (first | ((with_reducible refine gate_dst (N := 1) rfl ?_); refine box_event ?hg (N := 1) ?hd (cs := #[.int .i64 a0_0, .slice A0_1 l0_1.length c0_1]) (t := 24) ?hr ?_; (case hd => rfl); (case hg => rfl); (case hr => first | (go_simp; done) | (go_simp; rfl)); intro gb164 hg w5 hbox hb; have n0_ := Aside0.mk (below_step (by exact HB.out) hb); have n1_ := Aside0.mk (hbox); have n2_ := Aside0.mk ((by rw [hg]; exact (below_size (by exact HB.out)) : w.heap.size ≤ gb164)); have n3_ := Aside0.mk ((by rw [hg]; exact (below_size (by exact HB.out)) : w.heap.size ≤ gb164)); clear HB; have HB := n0_; have BK164 := n1_; have GW164 := n2_; have GE164 := n3_; clear n0_ n1_ n2_ n3_; clear hb hbox hg; have hcz6_0 : w5.cell? ⟨gb164, 0, none⟩ = some (.int .i64 a0_0) := (blk_cell BK164.out 0).trans rfl; have hcz6_1 : w5.cell? ⟨gb164, 1, none⟩ = some (.slice A0_1 l0_1.length c0_1) := (blk_cell BK164.out 1).trans rfl; have hfz6_0 := blk_frozen BK164.out 0; have hfz6_1 := blk_frozen BK164.out 1) | ((with_reducible refine gate_callee (f := 17) rfl ?_); refine goesL_ (some 9) rfl rfl Try.func17 (by kernel_rfl) rfl #[.agg #[.int .i64 a0_0, .slice A0_1 l0_1.length c0_1]] rfl (by (try simp only [List.map_toArray, List.map_cons, List.map_nil]); first | done | rfl | (simp only [List.length_drop, List.length_take]; rfl)) ?_; (with_reducible refine (topo_Check.calls k a0_0 _ _ l0_1 te _ ?side1 ?side2 AE.out).mono ?_); (case side1 => exact (Kd.C_below HR0_1.out HB.out)); (case side2 => exact HC0_1.out); rintro e w7 ⟨rfl, hb⟩; refine ⟨_, rfl, ?_⟩; have n0_ := Aside0.mk (blk_below (g := gb164) (o := .cells #[.int .i64 a0_0, .slice A0_1 l0_1.length c0_1] 24 (0, 0)) (by exact BK164.out) hb); have n1_ := Aside0.mk (below_step (by exact HB.out) hb); clear BK164; clear HB; have BK164 := n0_; have HB := n1_; clear n0_ n1_; (try clear hb); (try clear hb2); (try clear hk); (try clear hi); have hcz8_0 : w7.cell? ⟨gb164, 0, none⟩ = some (.int .i64 a0_0) := (blk_cell BK164.out 0).trans rfl; have hcz8_1 : w7.cell? ⟨gb164, 1, none⟩ = some (.slice A0_1 l0_1.length c0_1) := (blk_cell BK164.out 1).trans rfl; have hfz8_0 := blk_frozen BK164.out 0; have hfz8_1 := blk_frozen BK164.out 1))
  go_ret
  exact ⟨_, by first | rfl | (simp [errW_none, errW_some] <;> rfl) | (simp [*, errW_none, errW_some] <;> rfl), by first | exact Kd.R_nil _ _ _ _ _ | exact Kd.N_nil _ _ _ _ _ | exact Kd.V_nil _ _ _ _ _ | exact Kd.Q_nil _ _ _ _ _ | exact Kd.S_nil _ _ _ _ _, by exact HB.out⟩

end Go.Proofs.Ythkpnkmbmlbefaa.X

namespace Go.Proofs.Ythkpnkmbmlbefaa.X
open Go.RowKit Go.Proofs.YthkpnkmbmlbefaaW.PrintWords Go.Proofs.YthkpnkmbmlbefaaW.PrintLast Go.Proofs.YthkpnkmbmlbefaaW.PrintMore
attribute [local go_sem] max2_int min2_int max_two min_two max_three min_three max_four min_four   -- for this text's walks alone
set_option linter.unusedVariables false
set_option linter.unusedSimpArgs false

/-! ### topo_Path: function 24 -/
mutual
def topo_Path.j0 : Nat → Int → Int → Bool → Int → List (S37) → Option (List Int)
 | 0, _, _, _, _, _ => none
 | k + 1, x1, x2, x21, x140000, x140001 => if x21 = true then (some ([] : List Int)) else ((topo_neighbors.f k x140000 x140001).bind fun t142 => ((topo_distances.f k t142 x2).bind fun t145 => (if 0 ≤ x1 then (if x1 < (t145.length : Int) then (if (rd t145 x1) < 0 then (some ([] : List Int)) else (topo_Path.l0 k x1 x2 t142 t145 (([x1] : List Int)))) else (none)) else (none))))
def topo_Path.l0 : Nat → Int → Int → List (List Int) → List Int → List Int → Option (List Int)
 | 0, _, _, _, _, _ => none
 | k + 1, x1, x2, x7, x8, x9 => if x1 = x2 then (some x9) else (if 0 ≤ x1 then (if x1 < (x7.length : Int) then (topo_Path.l1 k x1 x2 x7 x8 x9 (rd_L3 x7 x1) ((rd_L3 x7 x1).length : Int) 0) else (none)) else (none))
def topo_Path.l1 : Nat → Int → Int → List (List Int) → List Int → List Int → List Int → Int → Int → Option (List Int)
 | 0, _, _, _, _, _, _, _, _ => none
 | k + 1, x1, x2, x7, x8, x9, x40, x41, x42 => if x42 < x41 then (if 0 ≤ x42 then (if x42 < (x40.length : Int) then (if 0 ≤ (rd x40 x42) then (if (rd x40 x42) < (x8.length : Int) then (if 0 ≤ x1 then (if x1 < (x8.length : Int) then (if (rd x8 (rd x40 x42)) = (wrap64 ((rd x8 x1) - 1)) then (if x9.length < 17592186044416 then (topo_Path.l0 k (rd x40 x42) x2 x7 x8 (x9 ++ [rd x40 x42])) else (none)) else (topo_Path.l1 k x1 x2 x7 x8 x9 x40 x41 (wrap64 (x42 + 1)))) else (none)) else (none)) else (none)) else (none)) else (none)) else (none)) else (if x9.length < 17592186044416 then (topo_Path.l0 k x1 x2 x7 x8 (x9 ++ [x1])) else (none))
end
def topo_Path.f (k : Nat) (a0_0 : Int) (l0_1 : List (S37)) (a1 : Int) (a2 : Int) : Option (List Int) := (topo_knows.f k a0_0 l0_1 a1).bind fun t140 => (if t140 = true then ((topo_knows.f k a0_0 l0_1 a2).bind fun t141 => (topo_Path.j0 k a1 a2 (!t141) a0_0 l0_1)) else (topo_Path.j0 k a1 a2 true a0_0 l0_1))
theorem topo_Path.mono_l : ∀ k, (∀ y0 y1 y2 y3 y4, LeO (topo_Path.j0 k y0 y1 y2 y3 y4) (topo_Path.j0 (k + 1) y0 y1 y2 y3 y4)) ∧ (∀ y0 y1 y2 y3 y4, LeO (topo_Path.l0 k y0 y1 y2 y3 y4) (topo_Path.l0 (k + 1) y0 y1 y2 y3 y4)) ∧ (∀ y0 y1 y2 y3 y4 y5 y6 y7, LeO (topo_Path.l1 k y0 y1 y2 y3 y4 y5 y6 y7) (topo_Path.l1 (k + 1) y0 y1 y2 y3 y4 y5 y6 y7))
 | 0 => ⟨fun _ _ _ _ _ r h => by simp [topo_Path.j0] at h, fun _ _ _ _ _ r h => by simp [topo_Path.l0] at h, fun _ _ _ _ _ _ _ _ r h => by simp [topo_Path.l1] at h⟩
 | k + 1 => by
  obtain ⟨ih0, ih1, ih2⟩ := topo_Path.mono_l k
  refine ⟨?_, ?_, ?_⟩
  ·intro y0 y1 y2 y3 y4
   unfold topo_Path.j0
   repeat' first
   | (with_reducible exact ih0 _ _ _ _ _)
   | (with_reducible exact ih1 _ _ _ _ _)
   | (with_reducible exact ih2 _ _ _ _ _ _ _ _)
   | (with_reducible exact topo_distances.mono _ _ _)
   | (with_reducible exact topo_knows.mono _ _ _ _)
   | (with_reducible exact topo_neighbors.mono _ _ _)
   | (with_reducible exact LeO.refl _)
   | (with_reducible exact LeO.none _)
   | (with_reducible refine LeO.ite ?_ ?_)
   | (with_reducible refine LeO.bind ?_ (fun _ => ?_))
   | exact ih0 _ _ _ _ _
   | exact ih1 _ _ _ _ _
   | exact ih2 _ _ _ _ _ _ _ _
   | exact topo_distances.mono _ _ _
   | exact topo_knows.mono _ _ _ _
   | exact topo_neighbors.mono _ _ _
   | exact LeO.none _
   | refine LeO.ite ?_ ?_
   | refine LeO.bind ?_ (fun _ => ?_)
  ·intro y0 y1 y2 y3 y4
   unfold topo_Path.l0
   repeat' first
   | (with_reducible exact ih0 _ _ _ _ _)
   | (with_reducible exact ih1 _ _ _ _ _)
   | (with_reducible exact ih2 _ _ _ _ _ _ _ _)
   | (with_reducible exact topo_distances.mono _ _ _)
   | (with_reducible exact topo_knows.mono _ _ _ _)
   | (with_reducible exact topo_neighbors.mono _ _ _)
   | (with_reducible exact LeO.refl _)
   | (with_reducible exact LeO.none _)
   | (with_reducible refine LeO.ite ?_ ?_)
   | (with_reducible refine LeO.bind ?_ (fun _ => ?_))
   | exact ih0 _ _ _ _ _
   | exact ih1 _ _ _ _ _
   | exact ih2 _ _ _ _ _ _ _ _
   | exact topo_distances.mono _ _ _
   | exact topo_knows.mono _ _ _ _
   | exact topo_neighbors.mono _ _ _
   | exact LeO.none _
   | refine LeO.ite ?_ ?_
   | refine LeO.bind ?_ (fun _ => ?_)
  ·intro y0 y1 y2 y3 y4 y5 y6 y7
   unfold topo_Path.l1
   repeat' first
   | (with_reducible exact ih0 _ _ _ _ _)
   | (with_reducible exact ih1 _ _ _ _ _)
   | (with_reducible exact ih2 _ _ _ _ _ _ _ _)
   | (with_reducible exact topo_distances.mono _ _ _)
   | (with_reducible exact topo_knows.mono _ _ _ _)
   | (with_reducible exact topo_neighbors.mono _ _ _)
   | (with_reducible exact LeO.refl _)
   | (with_reducible exact LeO.none _)
   | (with_reducible refine LeO.ite ?_ ?_)
   | (with_reducible refine LeO.bind ?_ (fun _ => ?_))
   | exact ih0 _ _ _ _ _
   | exact ih1 _ _ _ _ _
   | exact ih2 _ _ _ _ _ _ _ _
   | exact topo_distances.mono _ _ _
   | exact topo_knows.mono _ _ _ _
   | exact topo_neighbors.mono _ _ _
   | exact LeO.none _
   | refine LeO.ite ?_ ?_
   | refine LeO.bind ?_ (fun _ => ?_)
set_option maxHeartbeats 8000000 in
set_option maxRecDepth 100000 in
theorem topo_Path.calls (k : Nat) (a0_0 : Int) (A0_1 : Option Addr) (c0_1 : Nat) (l0_1 : List (S37)) (a1 : Int) (a2 : Int) (r : List Int) (w : World) (hr0_1 : Kd.C k37 w A0_1 l0_1.length l0_1) (hc0_1 : l0_1.length ≤ c0_1) (h : topo_Path.f k a0_0 l0_1 a1 a2 = some r) :
  Calls Try.prog 24 #[.agg #[.int .i64 a0_0, .slice A0_1 l0_1.length c0_1], .int .i64 a1, .int .i64 a2] w fun e w' => ∃ v0_ : Value, e = .returned (v0_) ∧ Kd.R (Kd.int .i64) 3 w' w.heap.size (fun _ => True) v0_ r ∧ Below w.heap.size w w' := by
 have hu24 := Try.underlying24
 have HR0_1 := Aside0.mk hr0_1
 have HC0_1 := Aside0.mk hc0_1
 clear hr0_1 hc0_1
 have HB := Aside0.mk (Below.refl w.heap.size w)
 have H : ((topo_knows.f k a0_0 l0_1 a1).bind fun t140 => (if t140 = true then ((topo_knows.f k a0_0 l0_1 a2).bind fun t141 => (topo_Path.j0 k a1 a2 (!t141) a0_0 l0_1)) else (topo_Path.j0 k a1 a2 true a0_0 l0_1))) = some r := h
 clear h
 have HC4 := Aside0.mk H
 clear H
 go_enter Try.func24, Try.ntmps24
 go_upto_region 1 with (first | ((with_reducible refine gate_dst (N := 3) rfl ?_); refine box_event ?hg (N := 3) ?hd (cs := #[.int .i64 a0_0, .slice A0_1 l0_1.length c0_1]) (t := 24) ?hr ?_; (case hd => rfl); (case hg => rfl); (case hr => first | (go_simp; done) | (go_simp; rfl)); intro gb139 hg w5 hbox hb; have n0_ := Aside0.mk (below_step (by exact HB.out) hb); have n1_ := Aside0.mk (hbox); have n2_ := Aside0.mk ((by rw [hg]; exact (below_size (by exact HB.out)) : w.heap.size ≤ gb139)); have n3_ := Aside0.mk ((by rw [hg]; exact (below_size (by exact HB.out)) : w.heap.size ≤ gb139)); clear HB; have HB := n0_; have BK139 := n1_; have GW139 := n2_; have GE139 := n3_; clear n0_ n1_ n2_ n3_; clear hb hbox hg))
 repeat (go_quiet (first | ((with_reducible refine gate_dst (N := 3) rfl ?_); refine box_event ?hg (N := 3) ?hd (cs := #[.int .i64 a0_0, .slice A0_1 l0_1.length c0_1]) (t := 24) ?hr ?_; (case hd => rfl); (case hg => rfl); (case hr => first | (go_simp; done) | (go_simp; rfl)); intro gb139 hg w5 hbox hb; have n0_ := Aside0.mk (below_step (by exact HB.out) hb); have n1_ := Aside0.mk (hbox); have n2_ := Aside0.mk ((by rw [hg]; exact (below_size (by exact HB.out)) : w.heap.size ≤ gb139)); have n3_ := Aside0.mk ((by rw [hg]; exact (below_size (by exact HB.out)) : w.heap.size ≤ gb139)); clear HB; have HB := n0_; have BK139 := n1_; have GW139 := n2_; have GE139 := n3_; clear n0_ n1_ n2_ n3_; clear hb hbox hg)); go_upto_region 1 with (first | ((with_reducible refine gate_dst (N := 3) rfl ?_); refine box_event ?hg (N := 3) ?hd (cs := #[.int .i64 a0_0, .slice A0_1 l0_1.length c0_1]) (t := 24) ?hr ?_; (case hd => rfl); (case hg => rfl); (case hr => first | (go_simp; done) | (go_simp; rfl)); intro gb139 hg w5 hbox hb; have n0_ := Aside0.mk (below_step (by exact HB.out) hb); have n1_ := Aside0.mk (hbox); have n2_ := Aside0.mk ((by rw [hg]; exact (below_size (by exact HB.out)) : w.heap.size ≤ gb139)); have n3_ := Aside0.mk ((by rw [hg]; exact (below_size (by exact HB.out)) : w.heap.size ≤ gb139)); clear HB; have HB := n0_; have BK139 := n1_; have GW139 := n2_; have GE139 := n3_; clear n0_ n1_ n2_ n3_; clear hb hbox hg)))
 (try simp only [Act.put, List.setIfInBounds_toArray, List.set_cons_zero, List.set_cons_succ])
 go_cut [21] (fun v21 wc => ∃ (kq : Nat) (x21_3 : Bool), v21 = .bool x21_3 ∧ Aside0 (topo_Path.j0 kq a1 a2 x21_3 a0_0 l0_1 = some r) ∧ Aside0 (kq ≤ k) ∧ Aside0 (wc.heap[gb139]? = some (.cells #[.int .i64 a0_0, (.slice A0_1 l0_1.length c0_1)] 24 (0, 0))) ∧ Aside0 (Below w.heap.size w wc))
 case first =>
  have H := HC4.out
  clear HC4
  replace H := Option.bind_eq_some_iff.mp H
  obtain ⟨t140, A60, H⟩ := H
  replace H : (if t140 = true then ((topo_knows.f k a0_0 l0_1 a2).bind fun t141 => (topo_Path.j0 k a1 a2 (!t141) a0_0 l0_1)) else (topo_Path.j0 k a1 a2 true a0_0 l0_1)) = some r := H
  have A6 := Aside0.mk A60
  clear A60
  by_cases c7 : t140 = true
  ·subst c7
   have H1 : ((topo_knows.f k a0_0 l0_1 a2).bind fun t141 => (topo_Path.j0 k a1 a2 (!t141) a0_0 l0_1)) = some r := by rw [if_pos rfl] at H; exact H
   clear H
   have H := H1
   clear H1
   replace H := Option.bind_eq_some_iff.mp H
   obtain ⟨t141, A80, H⟩ := H
   replace H : (topo_Path.j0 k a1 a2 (!t141) a0_0 l0_1) = some r := H
   have A8 := Aside0.mk A80
   clear A80
   have H' := Aside0.mk H
   clear H
   have hcz9_0 : w5.cell? ⟨gb139, 0, none⟩ = some (.int .i64 a0_0) := (blk_cell BK139.out 0).trans rfl
   have hcz9_1 : w5.cell? ⟨gb139, 1, none⟩ = some (.slice A0_1 l0_1.length c0_1) := (blk_cell BK139.out 1).trans rfl
   have hfz9_0 := blk_frozen BK139.out 0
   have hfz9_1 := blk_frozen BK139.out 1
   go_wp2_with (first | (go_at_call 57; (with_reducible refine (topo_knows.calls k a0_0 _ _ l0_1 a1 true _ ?side1 ?side2 A6.out).mono ?_); (case side1 => exact (Kd.C_below HR0_1.out HB.out)); (case side2 => exact HC0_1.out); rintro e w10 ⟨rfl, hb⟩; have n0_ := Aside0.mk (blk_below (g := gb139) (o := .cells #[.int .i64 a0_0, .slice A0_1 l0_1.length c0_1] 24 (0, 0)) (by exact BK139.out) hb); have n1_ := Aside0.mk (below_step (by exact HB.out) hb); clear BK139; clear HB; have BK139 := n0_; have HB := n1_; clear n0_ n1_; have hcz11_0 : w10.cell? ⟨gb139, 0, none⟩ = some (.int .i64 a0_0) := (blk_cell BK139.out 0).trans rfl; have hcz11_1 : w10.cell? ⟨gb139, 1, none⟩ = some (.slice A0_1 l0_1.length c0_1) := (blk_cell BK139.out 1).trans rfl; have hfz11_0 := blk_frozen BK139.out 0; have hfz11_1 := blk_frozen BK139.out 1) | (go_at_call 57; (with_reducible refine (topo_knows.calls k a0_0 _ _ l0_1 a2 t141 _ ?side1 ?side2 A8.out).mono ?_); (case side1 => exact (Kd.C_below HR0_1.out HB.out)); (case side2 => exact HC0_1.out); rintro e w12 ⟨rfl, hb⟩; have n0_ := Aside0.mk (blk_below (g := gb139) (o := .cells #[.int .i64 a0_0, .slice A0_1 l0_1.length c0_1] 24 (0, 0)) (by exact BK139.out) hb); have n1_ := Aside0.mk (below_step (by exact HB.out) hb); clear BK139; clear HB; have BK139 := n0_; have HB := n1_; clear n0_ n1_; (try clear hi)))
   repeat (go_quiet (first | (go_at_call 57; (with_reducible refine (topo_knows.calls k a0_0 _ _ l0_1 a1 true _ ?side1 ?side2 A6.out).mono ?_); (case side1 => exact (Kd.C_below HR0_1.out HB.out)); (case side2 => exact HC0_1.out); rintro e w10 ⟨rfl, hb⟩; have n0_ := Aside0.mk (blk_below (g := gb139) (o := .cells #[.int .i64 a0_0, .slice A0_1 l0_1.length c0_1] 24 (0, 0)) (by exact BK139.out) hb); have n1_ := Aside0.mk (below_step (by exact HB.out) hb); clear BK139; clear HB; have BK139 := n0_; have HB := n1_; clear n0_ n1_; have hcz11_0 : w10.cell? ⟨gb139, 0, none⟩ = some (.int .i64 a0_0) := (blk_cell BK139.out 0).trans rfl; have hcz11_1 : w10.cell? ⟨gb139, 1, none⟩ = some (.slice A0_1 l0_1.length c0_1) := (blk_cell BK139.out 1).trans rfl; have hfz11_0 := blk_frozen BK139.out 0; have hfz11_1 := blk_frozen BK139.out 1) | (go_at_call 57; (with_reducible refine (topo_knows.calls k a0_0 _ _ l0_1 a2 t141 _ ?side1 ?side2 A8.out).mono ?_); (case side1 => exact (Kd.C_below HR0_1.out HB.out)); (case side2 => exact HC0_1.out); rintro e w12 ⟨rfl, hb⟩; have n0_ := Aside0.mk (blk_below (g := gb139) (o := .cells #[.int .i64 a0_0, .slice A0_1 l0_1.length c0_1] 24 (0, 0)) (by exact BK139.out) hb); have n1_ := Aside0.mk (below_step (by exact HB.out) hb); clear BK139; clear HB; have BK139 := n0_; have HB := n1_; clear n0_ n1_; (try clear hi))); try go_wp2_with (first | (go_at_call 57; (with_reducible refine (topo_knows.calls k a0_0 _ _ l0_1 a1 true _ ?side1 ?side2 A6.out).mono ?_); (case side1 => exact (Kd.C_below HR0_1.out HB.out)); (case side2 => exact HC0_1.out); rintro e w10 ⟨rfl, hb⟩; have n0_ := Aside0.mk (blk_below (g := gb139) (o := .cells #[.int .i64 a0_0, .slice A0_1 l0_1.length c0_1] 24 (0, 0)) (by exact BK139.out) hb); have n1_ := Aside0.mk (below_step (by exact HB.out) hb); clear BK139; clear HB; have BK139 := n0_; have HB := n1_; clear n0_ n1_; have hcz11_0 : w10.cell? ⟨gb139, 0, none⟩ = some (.int .i64 a0_0) := (blk_cell BK139.out 0).trans rfl; have hcz11_1 : w10.cell? ⟨gb139, 1, none⟩ = some (.slice A0_1 l0_1.length c0_1) := (blk_cell BK139.out 1).trans rfl; have hfz11_0 := blk_frozen BK139.out 0; have hfz11_1 := blk_frozen BK139.out 1) | (go_at_call 57; (with_reducible refine (topo_knows.calls k a0_0 _ _ l0_1 a2 t141 _ ?side1 ?side2 A8.out).mono ?_); (case side1 => exact (Kd.C_below HR0_1.out HB.out)); (case side2 => exact HC0_1.out); rintro e w12 ⟨rfl, hb⟩; have n0_ := Aside0.mk (blk_below (g := gb139) (o := .cells #[.int .i64 a0_0, .slice A0_1 l0_1.length c0_1] 24 (0, 0)) (by exact BK139.out) hb); have n1_ := Aside0.mk (below_step (by exact HB.out) hb); clear BK139; clear HB; have BK139 := n0_; have HB := n1_; clear n0_ n1_; (try clear hi))))
   go_meet
   case rel => exact ⟨_, (!t141), (by first | rfl | (simp; done) | (simp [*]; done)), H', ⟨by first | omega | exact Nat.le_refl _⟩, ⟨by exact BK139.out⟩, ⟨by exact HB.out⟩⟩
  ·replace c7 := Bool.eq_false_iff.mpr c7
   subst c7
   have H1 : (topo_Path.j0 k a1 a2 true a0_0 l0_1) = some r := by rw [if_neg (show ¬ (false = true) by decide)] at H; exact H
   clear H
   have H := H1
   clear H1
   have H' := Aside0.mk H
   clear H
   have hcz13_0 : w5.cell? ⟨gb139, 0, none⟩ = some (.int .i64 a0_0) := (blk_cell BK139.out 0).trans rfl
   have hcz13_1 : w5.cell? ⟨gb139, 1, none⟩ = some (.slice A0_1 l0_1.length c0_1) := (blk_cell BK139.out 1).trans rfl
   have hfz13_0 := blk_frozen BK139.out 0
   have hfz13_1 := blk_frozen BK139.out 1
   go_wp2_with (first | (go_at_call 57; (with_reducible refine (topo_knows.calls k a0_0 _ _ l0_1 a1 false _ ?side1 ?side2 A6.out).mono ?_); (case side1 => exact (Kd.C_below HR0_1.out HB.out)); (case side2 => exact HC0_1.out); rintro e w14 ⟨rfl, hb⟩; have n0_ := Aside0.mk (blk_below (g := gb139) (o := .cells #[.int .i64 a0_0, .slice A0_1 l0_1.length c0_1] 24 (0, 0)) (by exact BK139.out) hb); have n1_ := Aside0.mk (below_step (by exact HB.out) hb); clear BK139; clear HB; have BK139 := n0_; have HB := n1_; clear n0_ n1_; (try clear hi)))
   repeat (go_quiet (first | (go_at_call 57; (with_reducible refine (topo_knows.calls k a0_0 _ _ l0_1 a1 false _ ?side1 ?side2 A6.out).mono ?_); (case side1 => exact (Kd.C_below HR0_1.out HB.out)); (case side2 => exact HC0_1.out); rintro e w14 ⟨rfl, hb⟩; have n0_ := Aside0.mk (blk_below (g := gb139) (o := .cells #[.int .i64 a0_0, .slice A0_1 l0_1.length c0_1] 24 (0, 0)) (by exact BK139.out) hb); have n1_ := Aside0.mk (below_step (by exact HB.out) hb); clear BK139; clear HB; have BK139 := n0_; have HB := n1_; clear n0_ n1_; (try clear hi))); try go_wp2_with (first | (go_at_call 57; (with_reducible refine (topo_knows.calls k a0_0 _ _ l0_1 a1 false _ ?side1 ?side2 A6.out).mono ?_); (case side1 => exact (Kd.C_below HR0_1.out HB.out)); (case side2 => exact HC0_1.out); rintro e w14 ⟨rfl, hb⟩; have n0_ := Aside0.mk (blk_below (g := gb139) (o := .cells #[.int .i64 a0_0, .slice A0_1 l0_1.length c0_1] 24 (0, 0)) (by exact BK139.out) hb); have n1_ := Aside0.mk (below_step (by exact HB.out) hb); clear BK139; clear HB; have BK139 := n0_; have HB := n1_; clear n0_ n1_; (try clear hi))))
   go_meet
   case rel => exact ⟨_, (true), (by first | rfl | (simp; done) | (simp [*]; done)), H', ⟨by first | omega | exact Nat.le_refl _⟩, ⟨by exact BK139.out⟩, ⟨by exact HB.out⟩⟩
 case rest =>
  clear HC4















  obtain ⟨kq, x21_3, rfl, HA, HJ3, BK139, HB⟩ := hcut
  cases kq with
  | zero => exact absurd HA.out (by simp [topo_Path.j0])
  | succ kj3 =>
   have H := HA.out
   clear HA
   simp only [topo_Path.j0] at H
   by_cases c15 : x21_3 = true
   ·subst c15
    have H1 : (some ([] : List Int)) = some r := by rw [if_pos rfl] at H; exact H
    clear H
    have H := H1
    clear H1
    obtain rfl := Option.some.inj H
    go_wp2
    repeat (go_quiet (fail); try go_wp2)
    go_ret
    exact ⟨_, by first | rfl | (simp [errW_none, errW_some] <;> rfl) | (simp [*, errW_none, errW_some] <;> rfl), by first | exact Kd.R_nil _ _ _ _ _ | exact Kd.N_nil _ _ _ _ _ | exact Kd.V_nil _ _ _ _ _ | exact Kd.Q_nil _ _ _ _ _ | exact Kd.S_nil _ _ _ _ _, by exact HB.out⟩
   ·replace c15 := Bool.eq_false_iff.mpr c15
    subst c15
    have H1 : ((topo_neighbors.f kj3 a0_0 l0_1).bind fun t142 => ((topo_distances.f kj3 t142 a2).bind fun t145 => (if 0 ≤ a1 then (if a1 < (t145.length : Int) then (if (rd t145 a1) < 0 then (some ([] : List Int)) else (topo_Path.l0 kj3 a1 a2 t142 t145 (([a1] : List Int)))) else (none)) else (none)))) = some r := by rw [if_neg (show ¬ (false = true) by decide)] at H; exact H
    clear H
    have H := H1
    clear H1
    replace H := Option.bind_eq_some_iff.mp H
    obtain ⟨t142, A160, H⟩ := H
    replace H : ((topo_distances.f kj3 t142 a2).bind fun t145 => (if 0 ≤ a1 then (if a1 < (t145.length : Int) then (if (rd t145 a1) < 0 then (some ([] : List Int)) else (topo_Path.l0 kj3 a1 a2 t142 t145 (([a1] : List Int)))) else (none)) else (none))) = some r := H
    have A16 := Aside0.mk A160
    clear A160
    replace H := Option.bind_eq_some_iff.mp H
    obtain ⟨t145, A170, H⟩ := H
    replace H : (if 0 ≤ a1 then (if a1 < (t145.length : Int) then (if (rd t145 a1) < 0 then (some ([] : List Int)) else (topo_Path.l0 kj3 a1 a2 t142 t145 (([a1] : List Int)))) else (none)) else (none)) = some r := H
    have A17 := Aside0.mk A170
    clear A170
    by_cases c18 : 0 ≤ a1
    ·rw [if_pos c18] at H
     have c18b0 : decide (0 ≤ a1) = true := decide_eq_true c18
     clear c18
     by_cases c19 : a1 < (t145.length : Int)
     ·rw [if_pos c19] at H
      have c19b0 : decide (a1 < (t145.length : Int)) = true := decide_eq_true c19
      clear c19
      by_cases c20 : (rd t145 a1) < 0
      ·rw [if_pos c20] at H
       have c20b0 : decide ((rd t145 a1) < 0) = true := decide_eq_true c20
       clear c20
       obtain rfl := Option.some.inj H
       have hcz21_0 : wc.cell? ⟨gb139, 0, none⟩ = some (.int .i64 a0_0) := (blk_cell BK139.out 0).trans rfl
       have hcz21_1 : wc.cell? ⟨gb139, 1, none⟩ = some (.slice A0_1 l0_1.length c0_1) := (blk_cell BK139.out 1).trans rfl
       have hfz21_0 := blk_frozen BK139.out 0
       have hfz21_1 := blk_frozen BK139.out 1
       go_wp2_with (first | (go_at_call 59; (with_reducible refine (topo_neighbors.calls kj3 a0_0 _ _ l0_1 t142 _ ?side1 ?side2 A16.out).mono ?_); (case side1 => exact (Kd.C_below HR0_1.out HB.out)); (case side2 => exact HC0_1.out); rintro e w22 ⟨v143, rfl, ho0, hb⟩; have n0_ := Aside0.mk (Kd.S_lower ho0 (below_size (by exact HB.out))); have n1_ := Aside0.mk (blk_below (g := gb139) (o := .cells #[.int .i64 a0_0, .slice A0_1 l0_1.length c0_1] 24 (0, 0)) (by exact BK139.out) hb); have n2_ := Aside0.mk (below_step (by exact HB.out) hb); clear BK139; clear HB; have HO144 := n0_; have BK139 := n1_; have HB := n2_; clear n0_ n1_ n2_; obtain ⟨Ao23, co23, eo23⟩ := Kd.S_slice HO144.out; subst eo23) | (go_at_call 58; (with_reducible refine (topo_distances.calls kj3 _ _ t142 a2 t145 _ ?side1 ?side2 A17.out).mono ?_); (case side1 => repeat (first | exact (Kd.S_reads' HO144.out).2.2 | (with_reducible refine Kd.C_alloc ?_ _) | (with_reducible refine Kd.C_drewN ?_ _) | (with_reducible refine Kd.C_drew ?_))); (case side2 => exact (Kd.S_reads' HO144.out).2.1); rintro e w24 ⟨v146, rfl, ho0, hb⟩; have n0_ := Aside0.mk (Kd.S_elder' (by exact HO144.out) (Kd.R_base ho0) hb); have n1_ := Aside0.mk (Kd.R_lower ho0 (below_size (by exact HB.out))); have n2_ := Aside0.mk (blk_below (g := gb139) (o := .cells #[.int .i64 a0_0, .slice A0_1 l0_1.length c0_1] 24 (0, 0)) (by exact BK139.out) hb); have n3_ := Aside0.mk (below_step (by exact HB.out) hb); clear HO144; clear BK139; clear HB; have HO144 := n0_; have HO147 := n1_; have BK139 := n2_; have HB := n3_; clear n0_ n1_ n2_ n3_; obtain ⟨Ao25, co25, eo25⟩ := Kd.R_slice HO147.out; subst eo25; have p148 : 0 ≤ (a1 : Int) := of_decide_eq_true (by first | (with_reducible assumption) | assumption); have q148 : a1 < (t145.length : Int) := of_decide_eq_true (by first | (with_reducible assumption) | assumption); obtain ⟨ad148, e148, hx148_0⟩ := Kd.at_int (Kd.R_reads' HO147.out).2.2 a1 p148 q148; cases e148; replace p148 := eq_true p148; replace q148 := eq_true q148))
       repeat (go_quiet (first | (go_at_call 59; (with_reducible refine (topo_neighbors.calls kj3 a0_0 _ _ l0_1 t142 _ ?side1 ?side2 A16.out).mono ?_); (case side1 => exact (Kd.C_below HR0_1.out HB.out)); (case side2 => exact HC0_1.out); rintro e w22 ⟨v143, rfl, ho0, hb⟩; have n0_ := Aside0.mk (Kd.S_lower ho0 (below_size (by exact HB.out))); have n1_ := Aside0.mk (blk_below (g := gb139) (o := .cells #[.int .i64 a0_0, .slice A0_1 l0_1.length c0_1] 24 (0, 0)) (by exact BK139.out) hb); have n2_ := Aside0.mk (below_step (by exact HB.out) hb); clear BK139; clear HB; have HO144 := n0_; have BK139 := n1_; have HB := n2_; clear n0_ n1_ n2_; obtain ⟨Ao23, co23, eo23⟩ := Kd.S_slice HO144.out; subst eo23) | (go_at_call 58; (with_reducible refine (topo_distances.calls kj3 _ _ t142 a2 t145 _ ?side1 ?side2 A17.out).mono ?_); (case side1 => repeat (first | exact (Kd.S_reads' HO144.out).2.2 | (with_reducible refine Kd.C_alloc ?_ _) | (with_reducible refine Kd.C_drewN ?_ _) | (with_reducible refine Kd.C_drew ?_))); (case side2 => exact (Kd.S_reads' HO144.out).2.1); rintro e w24 ⟨v146, rfl, ho0, hb⟩; have n0_ := Aside0.mk (Kd.S_elder' (by exact HO144.out) (Kd.R_base ho0) hb); have n1_ := Aside0.mk (Kd.R_lower ho0 (below_size (by exact HB.out))); have n2_ := Aside0.mk (blk_below (g := gb139) (o := .cells #[.int .i64 a0_0, .slice A0_1 l0_1.length c0_1] 24 (0, 0)) (by exact BK139.out) hb); have n3_ := Aside0.mk (below_step (by exact HB.out) hb); clear HO144; clear BK139; clear HB; have HO144 := n0_; have HO147 := n1_; have BK139 := n2_; have HB := n3_; clear n0_ n1_ n2_ n3_; obtain ⟨Ao25, co25, eo25⟩ := Kd.R_slice HO147.out; subst eo25; have p148 : 0 ≤ (a1 : Int) := of_decide_eq_true (by first | (with_reducible assumption) | assumption); have q148 : a1 < (t145.length : Int) := of_decide_eq_true (by first | (with_reducible assumption) | assumption); obtain ⟨ad148, e148, hx148_0⟩ := Kd.at_int (Kd.R_reads' HO147.out).2.2 a1 p148 q148; cases e148; replace p148 := eq_true p148; replace q148 := eq_true q148)); try go_wp2_with (first | (go_at_call 59; (with_reducible refine (topo_neighbors.calls kj3 a0_0 _ _ l0_1 t142 _ ?side1 ?side2 A16.out).mono ?_); (case side1 => exact (Kd.C_below HR0_1.out HB.out)); (case side2 => exact HC0_1.out); rintro e w22 ⟨v143, rfl, ho0, hb⟩; have n0_ := Aside0.mk (Kd.S_lower ho0 (below_size (by exact HB.out))); have n1_ := Aside0.mk (blk_below (g := gb139) (o := .cells #[.int .i64 a0_0, .slice A0_1 l0_1.length c0_1] 24 (0, 0)) (by exact BK139.out) hb); have n2_ := Aside0.mk (below_step (by exact HB.out) hb); clear BK139; clear HB; have HO144 := n0_; have BK139 := n1_; have HB := n2_; clear n0_ n1_ n2_; obtain ⟨Ao23, co23, eo23⟩ := Kd.S_slice HO144.out; subst eo23) | (go_at_call 58; (with_reducible refine (topo_distances.calls kj3 _ _ t142 a2 t145 _ ?side1 ?side2 A17.out).mono ?_); (case side1 => repeat (first | exact (Kd.S_reads' HO144.out).2.2 | (with_reducible refine Kd.C_alloc ?_ _) | (with_reducible refine Kd.C_drewN ?_ _) | (with_reducible refine Kd.C_drew ?_))); (case side2 => exact (Kd.S_reads' HO144.out).2.1); rintro e w24 ⟨v146, rfl, ho0, hb⟩; have n0_ := Aside0.mk (Kd.S_elder' (by exact HO144.out) (Kd.R_base ho0) hb); have n1_ := Aside0.mk (Kd.R_lower ho0 (below_size (by exact HB.out))); have n2_ := Aside0.mk (blk_below (g := gb139) (o := .cells #[.int .i64 a0_0, .slice A0_1 l0_1.length c0_1] 24 (0, 0)) (by exact BK139.out) hb); have n3_ := Aside0.mk (below_step (by exact HB.out) hb); clear HO144; clear BK139; clear HB; have HO144 := n0_; have HO147 := n1_; have BK139 := n2_; have HB := n3_; clear n0_ n1_ n2_ n3_; obtain ⟨Ao25, co25, eo25⟩ := Kd.R_slice HO147.out; subst eo25; have p148 : 0 ≤ (a1 : Int) := of_decide_eq_true (by first | (with_reducible assumption) | assumption); have q148 : a1 < (t145.length : Int) := of_decide_eq_true (by first | (with_reducible assumption) | assumption); obtain ⟨ad148, e148, hx148_0⟩ := Kd.at_int (Kd.R_reads' HO147.out).2.2 a1 p148 q148; cases e148; replace p148 := eq_true p148; replace q148 := eq_true q148)))
       go_ret
       exact ⟨_, by first | rfl | (simp [errW_none, errW_some] <;> rfl) | (simp [*, errW_none, errW_some] <;> rfl), by first | exact Kd.R_nil _ _ _ _ _ | exact Kd.N_nil _ _ _ _ _ | exact Kd.V_nil _ _ _ _ _ | exact Kd.Q_nil _ _ _ _ _ | exact Kd.S_nil _ _ _ _ _, by exact HB.out⟩
      ·rw [if_neg c20] at H
       have c20b0 : decide ((rd t145 a1) < 0) = false := decide_eq_false c20
       clear c20
       obtain ⟨y149, hy149⟩ : ∃ y_ : List Int, y_ = (([a1] : List Int)) := ⟨_, rfl⟩
       replace H : (topo_Path.l0 kj3 a1 a2 t142 t145 y149) = some r := by first | (rw [hy149]; with_reducible exact H) | (have H2_ := (Option.bind_some _ _).symm.trans H; rw [hy149]; with_reducible exact H2_) | (have H2_ := (Option.bind_some _ _).symm.trans H; with_reducible exact H2_) | with_reducible exact H | (rw [hy149]; exact H) | exact H
       have Ny149 := Aside0.mk hy149
       clear hy149
       have H' := Aside0.mk H
       clear H
       have hcz26_0 : wc.cell? ⟨gb139, 0, none⟩ = some (.int .i64 a0_0) := (blk_cell BK139.out 0).trans rfl
       have hcz26_1 : wc.cell? ⟨gb139, 1, none⟩ = some (.slice A0_1 l0_1.length c0_1) := (blk_cell BK139.out 1).trans rfl
       have hfz26_0 := blk_frozen BK139.out 0
       have hfz26_1 := blk_frozen BK139.out 1
       go_wp2_with (first | (go_at_call 59; (with_reducible refine (topo_neighbors.calls kj3 a0_0 _ _ l0_1 t142 _ ?side1 ?side2 A16.out).mono ?_); (case side1 => exact (Kd.C_below HR0_1.out HB.out)); (case side2 => exact HC0_1.out); rintro e w27 ⟨v143, rfl, ho0, hb⟩; have n0_ := Aside0.mk (Kd.S_lower ho0 (below_size (by exact HB.out))); have n1_ := Aside0.mk (blk_below (g := gb139) (o := .cells #[.int .i64 a0_0, .slice A0_1 l0_1.length c0_1] 24 (0, 0)) (by exact BK139.out) hb); have n2_ := Aside0.mk (below_step (by exact HB.out) hb); clear BK139; clear HB; have HO144 := n0_; have BK139 := n1_; have HB := n2_; clear n0_ n1_ n2_; obtain ⟨Ao28, co28, eo28⟩ := Kd.S_slice HO144.out; subst eo28) | (go_at_call 58; (with_reducible refine (topo_distances.calls kj3 _ _ t142 a2 t145 _ ?side1 ?side2 A17.out).mono ?_); (case side1 => repeat (first | exact (Kd.S_reads' HO144.out).2.2 | (with_reducible refine Kd.C_alloc ?_ _) | (with_reducible refine Kd.C_drewN ?_ _) | (with_reducible refine Kd.C_drew ?_))); (case side2 => exact (Kd.S_reads' HO144.out).2.1); rintro e w29 ⟨v146, rfl, ho0, hb⟩; have n0_ := Aside0.mk (Kd.S_elder' (by exact HO144.out) (Kd.R_base ho0) hb); have n1_ := Aside0.mk (Kd.R_lower ho0 (below_size (by exact HB.out))); have n2_ := Aside0.mk (blk_below (g := gb139) (o := .cells #[.int .i64 a0_0, .slice A0_1 l0_1.length c0_1] 24 (0, 0)) (by exact BK139.out) hb); have n3_ := Aside0.mk (below_step (by exact HB.out) hb); clear HO144; clear BK139; clear HB; have HO144 := n0_; have HO147 := n1_; have BK139 := n2_; have HB := n3_; clear n0_ n1_ n2_ n3_; obtain ⟨Ao30, co30, eo30⟩ := Kd.R_slice HO147.out; subst eo30; have p148 : 0 ≤ (a1 : Int) := of_decide_eq_true (by first | (with_reducible assumption) | assumption); have q148 : a1 < (t145.length : Int) := of_decide_eq_true (by first | (with_reducible assumption) | assumption); obtain ⟨ad148, e148, hx148_0⟩ := Kd.at_int (Kd.R_reads' HO147.out).2.2 a1 p148 q148; cases e148; replace p148 := eq_true p148; replace q148 := eq_true q148) | ((with_reducible refine gate_dst (N := 33) rfl ?_); refine Kd.R_lit (Kd.int .i64) _ 3 ?hg (N := 33) ?hd (xs := ([a1] : List Int)) (inner := [.int .i64 a1]) (ok := fun _ => True) (okp := fun _ => True) ?hr ?hp (fun _ hk => hk) trivial (Below.refl _ _) (Nat.le_refl _) (by simp) ?_; (case hd => rfl); (case hg => rfl); (case hr => first | (go_simp; done) | (go_simp; rfl)); (case hp => exact (Reps.one (show Kd.M (Kd.int .i64) _ _ _ a1 [.int .i64 a1] from rfl) (Reps.none _ _))); intro v150 w31 ho32 hb hg_ hnew_; clear hg_ hnew_; (first | rw [← Ny149.out] at ho32 | (simp only [Int.reduceToNat] at ho32; rw [← Ny149.out] at ho32)); have n0_ := Aside0.mk (Kd.S_elder' (by exact HO144.out) (Kd.R_base ho32) hb); have n1_ := Aside0.mk (Kd.R_elder' (by exact HO147.out) (Kd.R_base ho32) hb); have n2_ := Aside0.mk (Kd.R_lower (Kd.R_new' ho32 (Kd.R_lt (by exact HO147.out))) (below_size (by exact HB.out))); have n3_ := Aside0.mk (blk_below (g := gb139) (o := .cells #[.int .i64 a0_0, .slice A0_1 l0_1.length c0_1] 24 (0, 0)) (by exact BK139.out) hb); have n4_ := Aside0.mk (below_step (by exact HB.out) hb); clear HO144; clear HO147; clear BK139; clear HB; have HO144 := n0_; have HO147 := n1_; have HO151 := n2_; have BK139 := n3_; have HB := n4_; clear n0_ n1_ n2_ n3_ n4_; clear hb ho32))
       repeat (go_quiet (first | (go_at_call 59; (with_reducible refine (topo_neighbors.calls kj3 a0_0 _ _ l0_1 t142 _ ?side1 ?side2 A16.out).mono ?_); (case side1 => exact (Kd.C_below HR0_1.out HB.out)); (case side2 => exact HC0_1.out); rintro e w27 ⟨v143, rfl, ho0, hb⟩; have n0_ := Aside0.mk (Kd.S_lower ho0 (below_size (by exact HB.out))); have n1_ := Aside0.mk (blk_below (g := gb139) (o := .cells #[.int .i64 a0_0, .slice A0_1 l0_1.length c0_1] 24 (0, 0)) (by exact BK139.out) hb); have n2_ := Aside0.mk (below_step (by exact HB.out) hb); clear BK139; clear HB; have HO144 := n0_; have BK139 := n1_; have HB := n2_; clear n0_ n1_ n2_; obtain ⟨Ao28, co28, eo28⟩ := Kd.S_slice HO144.out; subst eo28) | (go_at_call 58; (with_reducible refine (topo_distances.calls kj3 _ _ t142 a2 t145 _ ?side1 ?side2 A17.out).mono ?_); (case side1 => repeat (first | exact (Kd.S_reads' HO144.out).2.2 | (with_reducible refine Kd.C_alloc ?_ _) | (with_reducible refine Kd.C_drewN ?_ _) | (with_reducible refine Kd.C_drew ?_))); (case side2 => exact (Kd.S_reads' HO144.out).2.1); rintro e w29 ⟨v146, rfl, ho0, hb⟩; have n0_ := Aside0.mk (Kd.S_elder' (by exact HO144.out) (Kd.R_base ho0) hb); have n1_ := Aside0.mk (Kd.R_lower ho0 (below_size (by exact HB.out))); have n2_ := Aside0.mk (blk_below (g := gb139) (o := .cells #[.int .i64 a0_0, .slice A0_1 l0_1.length c0_1] 24 (0, 0)) (by exact BK139.out) hb); have n3_ := Aside0.mk (below_step (by exact HB.out) hb); clear HO144; clear BK139; clear HB; have HO144 := n0_; have HO147 := n1_; have BK139 := n2_; have HB := n3_; clear n0_ n1_ n2_ n3_; obtain ⟨Ao30, co30, eo30⟩ := Kd.R_slice HO147.out; subst eo30; have p148 : 0 ≤ (a1 : Int) := of_decide_eq_true (by first | (with_reducible assumption) | assumption); have q148 : a1 < (t145.length : Int) := of_decide_eq_true (by first | (with_reducible assumption) | assumption); obtain ⟨ad148, e148, hx148_0⟩ := Kd.at_int (Kd.R_reads' HO147.out).2.2 a1 p148 q148; cases e148; replace p148 := eq_true p148; replace q148 := eq_true q148) | ((with_reducible refine gate_dst (N := 33) rfl ?_); refine Kd.R_lit (Kd.int .i64) _ 3 ?hg (N := 33) ?hd (xs := ([a1] : List Int)) (inner := [.int .i64 a1]) (ok := fun _ => True) (okp := fun _ => True) ?hr ?hp (fun _ hk => hk) trivial (Below.refl _ _) (Nat.le_refl _) (by simp) ?_; (case hd => rfl); (case hg => rfl); (case hr => first | (go_simp; done) | (go_simp; rfl)); (case hp => exact (Reps.one (show Kd.M (Kd.int .i64) _ _ _ a1 [.int .i64 a1] from rfl) (Reps.none _ _))); intro v150 w31 ho32 hb hg_ hnew_; clear hg_ hnew_; (first | rw [← Ny149.out] at ho32 | (simp only [Int.reduceToNat] at ho32; rw [← Ny149.out] at ho32)); have n0_ := Aside0.mk (Kd.S_elder' (by exact HO144.out) (Kd.R_base ho32) hb); have n1_ := Aside0.mk (Kd.R_elder' (by exact HO147.out) (Kd.R_base ho32) hb); have n2_ := Aside0.mk (Kd.R_lower (Kd.R_new' ho32 (Kd.R_lt (by exact HO147.out))) (below_size (by exact HB.out))); have n3_ := Aside0.mk (blk_below (g := gb139) (o := .cells #[.int .i64 a0_0, .slice A0_1 l0_1.length c0_1] 24 (0, 0)) (by exact BK139.out) hb); have n4_ := Aside0.mk (below_step (by exact HB.out) hb); clear HO144; clear HO147; clear BK139; clear HB; have HO144 := n0_; have HO147 := n1_; have HO151 := n2_; have BK139 := n3_; have HB := n4_; clear n0_ n1_ n2_ n3_ n4_; clear hb ho32)); try go_wp2_with (first | (go_at_call 59; (with_reducible refine (topo_neighbors.calls kj3 a0_0 _ _ l0_1 t142 _ ?side1 ?side2 A16.out).mono ?_); (case side1 => exact (Kd.C_below HR0_1.out HB.out)); (case side2 => exact HC0_1.out); rintro e w27 ⟨v143, rfl, ho0, hb⟩; have n0_ := Aside0.mk (Kd.S_lower ho0 (below_size (by exact HB.out))); have n1_ := Aside0.mk (blk_below (g := gb139) (o := .cells #[.int .i64 a0_0, .slice A0_1 l0_1.length c0_1] 24 (0, 0)) (by exact BK139.out) hb); have n2_ := Aside0.mk (below_step (by exact HB.out) hb); clear BK139; clear HB; have HO144 := n0_; have BK139 := n1_; have HB := n2_; clear n0_ n1_ n2_; obtain ⟨Ao28, co28, eo28⟩ := Kd.S_slice HO144.out; subst eo28) | (go_at_call 58; (with_reducible refine (topo_distances.calls kj3 _ _ t142 a2 t145 _ ?side1 ?side2 A17.out).mono ?_); (case side1 => repeat (first | exact (Kd.S_reads' HO144.out).2.2 | (with_reducible refine Kd.C_alloc ?_ _) | (with_reducible refine Kd.C_drewN ?_ _) | (with_reducible refine Kd.C_drew ?_))); (case side2 => exact (Kd.S_reads' HO144.out).2.1); rintro e w29 ⟨v146, rfl, ho0, hb⟩; have n0_ := Aside0.mk (Kd.S_elder' (by exact HO144.out) (Kd.R_base ho0) hb); have n1_ := Aside0.mk (Kd.R_lower ho0 (below_size (by exact HB.out))); have n2_ := Aside0.mk (blk_below (g := gb139) (o := .cells #[.int .i64 a0_0, .slice A0_1 l0_1.length c0_1] 24 (0, 0)) (by exact BK139.out) hb); have n3_ := Aside0.mk (below_step (by exact HB.out) hb); clear HO144; clear BK139; clear HB; have HO144 := n0_; have HO147 := n1_; have BK139 := n2_; have HB := n3_; clear n0_ n1_ n2_ n3_; obtain ⟨Ao30, co30, eo30⟩ := Kd.R_slice HO147.out; subst eo30; have p148 : 0 ≤ (a1 : Int) := of_decide_eq_true (by first | (with_reducible assumption) | assumption); have q148 : a1 < (t145.length : Int) := of_decide_eq_true (by first | (with_reducible assumption) | assumption); obtain ⟨ad148, e148, hx148_0⟩ := Kd.at_int (Kd.R_reads' HO147.out).2.2 a1 p148 q148; cases e148; replace p148 := eq_true p148; replace q148 := eq_true q148) | ((with_reducible refine gate_dst (N := 33) rfl ?_); refine Kd.R_lit (Kd.int .i64) _ 3 ?hg (N := 33) ?hd (xs := ([a1] : List Int)) (inner := [.int .i64 a1]) (ok := fun _ => True) (okp := fun _ => True) ?hr ?hp (fun _ hk => hk) trivial (Below.refl _ _) (Nat.le_refl _) (by simp) ?_; (case hd => rfl); (case hg => rfl); (case hr => first | (go_simp; done) | (go_simp; rfl)); (case hp => exact (Reps.one (show Kd.M (Kd.int .i64) _ _ _ a1 [.int .i64 a1] from rfl) (Reps.none _ _))); intro v150 w31 ho32 hb hg_ hnew_; clear hg_ hnew_; (first | rw [← Ny149.out] at ho32 | (simp only [Int.reduceToNat] at ho32; rw [← Ny149.out] at ho32)); have n0_ := Aside0.mk (Kd.S_elder' (by exact HO144.out) (Kd.R_base ho32) hb); have n1_ := Aside0.mk (Kd.R_elder' (by exact HO147.out) (Kd.R_base ho32) hb); have n2_ := Aside0.mk (Kd.R_lower (Kd.R_new' ho32 (Kd.R_lt (by exact HO147.out))) (below_size (by exact HB.out))); have n3_ := Aside0.mk (blk_below (g := gb139) (o := .cells #[.int .i64 a0_0, .slice A0_1 l0_1.length c0_1] 24 (0, 0)) (by exact BK139.out) hb); have n4_ := Aside0.mk (below_step (by exact HB.out) hb); clear HO144; clear HO147; clear BK139; clear HB; have HO144 := n0_; have HO147 := n1_; have HO151 := n2_; have BK139 := n3_; have HB := n4_; clear n0_ n1_ n2_ n3_ n4_; clear hb ho32)))
       go_loopg [1, 9] kj3 (fun kq v1 v9 w' => ∃ (x1_2 : Int) (x9_2 : List Int), v1 = .int .i64 x1_2 ∧ Aside0 (topo_Path.l0 kq x1_2 a2 t142 t145 x9_2 = some r) ∧ Aside0 (kq ≤ kj3) ∧ Aside0 (Kd.S (Kd.slice 3 (Kd.int .i64)) 30 w' w.heap.size (fun k_ => some k_ ≠ ((.slice (some ad148) t145.length co30) : Value).ownBlock ∧ some k_ ≠ (v9 : Value).ownBlock) (.slice Ao28 t142.length co28) t142) ∧ Aside0 (Kd.R (Kd.int .i64) 3 w' w.heap.size (fun k_ => some k_ ≠ (v9 : Value).ownBlock) (.slice (some ad148) t145.length co30) t145) ∧ Aside0 (Kd.R (Kd.int .i64) 3 w' w.heap.size (fun k_ => some k_ ≠ ((.slice (some ad148) t145.length co30) : Value).ownBlock) v9 x9_2) ∧ Aside0 (w'.heap[gb139]? = some (.cells #[.int .i64 a0_0, (.slice A0_1 l0_1.length c0_1)] 24 (0, 0))) ∧ Aside0 (Below w.heap.size w w'))
       case atStart => exact ⟨(a1), (y149), (by first | rfl | (simp; done) | (simp [*]; done)), H', ⟨Nat.le_refl _⟩, ⟨by exact Kd.S_mono HO144.out (fun _ hk => ⟨hk.1.2, hk.2⟩)⟩, ⟨by exact Kd.R_mono HO147.out (fun _ hk => hk.2)⟩, ⟨by exact Kd.R_mono HO151.out (fun _ hk => hk.2)⟩, ⟨by exact BK139.out⟩, ⟨by exact HB.out⟩⟩
       case round =>
        clear H'










































        obtain ⟨x1_2, x9_2, rfl, HA, HK2, HO_7, HO_8, HO_9, BK139, HB⟩ := hrel
        cases gk with
        | zero => exact absurd HA.out (by simp [topo_Path.l0])
        | succ k2 =>
         have H := HA.out
         clear HA
         simp only [topo_Path.l0] at H
         by_cases c33 : x1_2 = a2
         ·rw [if_pos c33] at H
          have c33b0 : (x1_2 == a2) = true := beq_iff_eq.mpr c33
          have c33b1 : (x1_2 != a2) = false := bne_eq_false_iff_eq.mpr c33
          clear c33
          obtain rfl := Option.some.inj H
          go_wp2
          repeat (go_quiet (fail); try go_wp2)
          go_ret
          exact ⟨_, by first | rfl | (simp [errW_none, errW_some] <;> rfl) | (simp [*, errW_none, errW_some] <;> rfl), by exact Kd.R_mono HO_9.out (fun _ hk => trivial), by exact HB.out⟩
         ·rw [if_neg c33] at H
          have c33b0 : (x1_2 == a2) = false := beq_eq_false_iff_ne.mpr c33
          have c33b1 : (x1_2 != a2) = true := bne_iff_ne.mpr c33
          by_cases c34 : 0 ≤ x1_2
          ·rw [if_pos c34] at H
           have c34b0 : decide (0 ≤ x1_2) = true := decide_eq_true c34
           clear c34
           by_cases c35 : x1_2 < (t142.length : Int)
           ·rw [if_pos c35] at H
            have c35b0 : decide (x1_2 < (t142.length : Int)) = true := decide_eq_true c35
            clear c35
            have H' := Aside0.mk H
            clear H
            have p152 : 0 ≤ (x1_2 : Int) := of_decide_eq_true (by first | (with_reducible assumption) | assumption)
            have q152 : x1_2 < (t142.length : Int) := of_decide_eq_true (by first | (with_reducible assumption) | assumption)
            obtain ⟨ad152, A152_0, c152_0, e152, hx152_0, hl152_0, hi152_0⟩ := at_L3 (Kd.S_reads' HO_7.out).2.2 x1_2 p152 q152
            cases e152
            obtain ⟨ce152, hce152, hMe152, hcc152⟩ := Kd.S_get HO_7.out [] x1_2 p152 (by first | exact q152 | exact of_decide_eq_true (by first | (with_reducible assumption) | assumption) | (have e_ := (Kd.S_reads' HO_7.out).1; omega))
            obtain ⟨ve152_0, rfl, ge152_0⟩ := hMe152
            have hv152_0 := hcc152 0 _ rfl
            rw [Nat.add_zero, show ((Kd.slice 3 (Kd.int .i64))).sz = 1 from rfl, Nat.mul_one] at hv152_0
            replace hv152_0 := Option.some.inj (hv152_0.symm.trans hx152_0)
            rw [hv152_0] at ge152_0
            have HL152_0 := Aside0.mk (show Kd.R (Kd.int .i64) 3 _ _ _ _ (rd_L3 t142 x1_2) from ge152_0)
            clear hv152_0 ge152_0
            clear hcc152 hce152
            have HR152_0 := Aside0.mk hi152_0
            have HC152_0 := Aside0.mk hl152_0
            clear hi152_0 hl152_0
            replace p152 := eq_true p152
            replace q152 := eq_true q152
            go_wp2
            repeat (go_quiet (fail); try go_wp2)
            go_loopg [1, 42] k2 (fun kq v1 v42 w' => ∃ (x1_3 : Int) (x42_3 : Int), v1 = .int .i64 x1_3 ∧ v42 = .int .i64 x42_3 ∧ Aside0 (topo_Path.l1 kq x1_3 a2 t142 t145 x9_2 (rd_L3 t142 x1_2) ((rd_L3 t142 x1_2).length : Int) x42_3 = some r) ∧ Aside0 (kq ≤ k2) ∧ Aside0 (Kd.S (Kd.slice 3 (Kd.int .i64)) 30 w' w.heap.size (fun k_ => some k_ ≠ ((.slice (some ad148) t145.length co30) : Value).ownBlock ∧ some k_ ≠ (u9 : Value).ownBlock) (.slice (some ad152) t142.length co28) t142) ∧ Aside0 (Kd.R (Kd.int .i64) 3 w' w.heap.size (fun k_ => some k_ ≠ (u9 : Value).ownBlock) (.slice (some ad148) t145.length co30) t145) ∧ Aside0 (Kd.R (Kd.int .i64) 3 w' w.heap.size (fun k_ => some k_ ≠ ((.slice (some ad148) t145.length co30) : Value).ownBlock) u9 x9_2) ∧ Aside0 (w'.heap[gb139]? = some (.cells #[.int .i64 a0_0, (.slice A0_1 l0_1.length c0_1)] 24 (0, 0))) ∧ Aside0 (Kd.C (Kd.int .i64) w' A152_0 (rd_L3 t142 x1_2).length (rd_L3 t142 x1_2)) ∧ Aside0 (Below w.heap.size w w'))
            case atStart => exact ⟨(x1_2), (0), (by first | rfl | (simp; done) | (simp [*]; done)), (by first | rfl | (simp; done) | (simp [*]; done)), H', ⟨Nat.le_refl _⟩, ⟨by exact HO_7.out⟩, ⟨by exact HO_8.out⟩, ⟨by exact HO_9.out⟩, ⟨by exact BK139.out⟩, ⟨by repeat (first | (with_reducible exact HR152_0.out) | (with_reducible refine Kd.C_alloc ?_ _) | (with_reducible refine Kd.C_drewN ?_ _) | (with_reducible refine Kd.C_drew ?_) | exact HR152_0.out)⟩, ⟨by exact HB.out⟩⟩
            case round =>
             clear H'




























































             obtain ⟨x1_3, x42_3, rfl, rfl, HA, HK3, HO_7, HO_8, HO_9, BK139, HR152_0, HB⟩ := hrel
             cases gk with
             | zero => exact absurd HA.out (by simp [topo_Path.l1])
             | succ k3 =>
              have H := HA.out
              clear HA
              simp only [topo_Path.l1] at H
              by_cases c36 : x42_3 < ((rd_L3 t142 x1_2).length : Int)
              ·rw [if_pos c36] at H
               have c36b0 : decide (x42_3 < ((rd_L3 t142 x1_2).length : Int)) = true := decide_eq_true c36
               clear c36
               by_cases c37 : 0 ≤ x42_3
               ·rw [if_pos c37] at H
                have c37b0 : decide (0 ≤ x42_3) = true := decide_eq_true c37
                clear c37
                by_cases c38 : x42_3 < ((rd_L3 t142 x1_2).length : Int)
                ·rw [if_pos c38] at H
                 have c38b0 : decide (x42_3 < ((rd_L3 t142 x1_2).length : Int)) = true := decide_eq_true c38
                 clear c38
                 by_cases c39 : 0 ≤ (rd (rd_L3 t142 x1_2) x42_3)
                 ·rw [if_pos c39] at H
                  have c39b0 : decide (0 ≤ (rd (rd_L3 t142 x1_2) x42_3)) = true := decide_eq_true c39
                  clear c39
                  by_cases c40 : (rd (rd_L3 t142 x1_2) x42_3) < (t145.length : Int)
                  ·rw [if_pos c40] at H
                   have c40b0 : decide ((rd (rd_L3 t142 x1_2) x42_3) < (t145.length : Int)) = true := decide_eq_true c40
                   clear c40
                   by_cases c41 : 0 ≤ x1_3
                   ·rw [if_pos c41] at H
                    have c41b0 : decide (0 ≤ x1_3) = true := decide_eq_true c41
                    clear c41
                    by_cases c42 : x1_3 < (t145.length : Int)
                    ·rw [if_pos c42] at H
                     have c42b0 : decide (x1_3 < (t145.length : Int)) = true := decide_eq_true c42
                     clear c42
                     by_cases c43 : (rd t145 (rd (rd_L3 t142 x1_2) x42_3)) = (wrap64 ((rd t145 x1_3) - 1))
                     ·rw [if_pos c43] at H
                      have c43b0 : ((rd t145 (rd (rd_L3 t142 x1_2) x42_3)) == (wrap64 ((rd t145 x1_3) - 1))) = true := beq_iff_eq.mpr c43
                      have c43b1 : ((rd t145 (rd (rd_L3 t142 x1_2) x42_3)) != (wrap64 ((rd t145 x1_3) - 1))) = false := bne_eq_false_iff_eq.mpr c43
                      clear c43
                      by_cases c44 : x9_2.length < 17592186044416
                      ·rw [if_pos c44] at H
                       have LMc44 := Aside0.mk c44
                       clear c44
                       obtain ⟨y156, hy156⟩ : ∃ y_ : List Int, y_ = (x9_2 ++ [rd (rd_L3 t142 x1_2) x42_3]) := ⟨_, rfl⟩
                       replace H : (topo_Path.l0 k3 (rd (rd_L3 t142 x1_2) x42_3) a2 t142 t145 y156) = some r := by first | (rw [hy156]; with_reducible exact H) | (have H2_ := (Option.bind_some _ _).symm.trans H; rw [hy156]; with_reducible exact H2_) | (have H2_ := (Option.bind_some _ _).symm.trans H; with_reducible exact H2_) | with_reducible exact H | (rw [hy156]; exact H) | exact H
                       have Ny156 := Aside0.mk hy156
                       clear hy156
                       have H' := Aside0.mk H
                       clear H
                       have p153 : 0 ≤ (x42_3 : Int) := of_decide_eq_true (by first | (with_reducible assumption) | assumption)
                       have q153 : x42_3 < ((rd_L3 t142 x1_2).length : Int) := of_decide_eq_true (by first | (with_reducible assumption) | assumption)
                       obtain ⟨ad153, e153, hx153_0⟩ := Kd.at_int HR152_0.out x42_3 p153 q153
                       cases e153
                       try replace hx153_0 := (HB.out.cell (World.block_lt_of_cell? w _ hx153_0)).trans hx153_0
                       replace p153 := eq_true p153
                       replace q153 := eq_true q153
                       have p154 : 0 ≤ ((rd (rd_L3 t142 x1_2) x42_3) : Int) := of_decide_eq_true (by first | (with_reducible assumption) | assumption)
                       have q154 : (rd (rd_L3 t142 x1_2) x42_3) < (t145.length : Int) := of_decide_eq_true (by first | (with_reducible assumption) | assumption)
                       obtain ⟨ad154, e154, hx154_0⟩ := Kd.at_int (Kd.R_reads' HO_8.out).2.2 (rd (rd_L3 t142 x1_2) x42_3) p154 q154
                       obtain rfl : ad148 = ad154 := (by injection e154)
                       replace p154 := eq_true p154
                       replace q154 := eq_true q154
                       have p155 : 0 ≤ (x1_3 : Int) := of_decide_eq_true (by first | (with_reducible assumption) | assumption)
                       have q155 : x1_3 < (t145.length : Int) := of_decide_eq_true (by first | (with_reducible assumption) | assumption)
                       obtain ⟨ad155, e155, hx155_0⟩ := Kd.at_int (Kd.R_reads' HO_8.out).2.2 x1_3 p155 q155
                       obtain rfl : ad148 = ad155 := (by injection e155)
                       replace p155 := eq_true p155
                       replace q155 := eq_true q155
                       go_wp2_with (first | ((with_reducible refine gate_builtin (b := .append) (xs := #[.tmp 58, .tmp 60]) rfl ?_); at_builtin; refine Kd.R_append (Kd.int .i64) (w0 := w) w.heap.size rfl (.tmp 58) (.tmp 60) 30 3 (.int .i64 0) 8 rfl Try.underlying30 info3 rfl (by decide) (by omega) u9 x9_2 (rd (rd_L3 t142 x1_2) x42_3) [.int .i64 (rd (rd_L3 t142 x1_2) x42_3)] (fun k_ => some k_ ≠ (.slice (some ad148) t145.length co30 : Value).ownBlock) (fun _ => False) rfl rfl ?aP (fun _ hk => hk.elim) ?aF ?aO ?aB ?aS ?aL ?_; (case aP => exact rfl); (case aB => exact (by repeat (first | (with_reducible first | exact HB.out | apply below_alloc | apply pw_below_drewN | apply below_drew1 | refine below_set ?_ GE139.out) | exact HB.out))); (case aF => exact (fun k_ hk => Kd.fresh' (Kd.R_lt (by (with_reducible repeat (first | apply Kd.R_alloc | apply Kd.R_drewN | apply Kd.R_drew)); exact HO_8.out)) k_ hk)); (case aO => exact (by (with_reducible repeat (first | apply Kd.R_alloc | apply Kd.R_drewN | apply Kd.R_drew)); exact HO_9.out)); (case aS => exact (below_size (by repeat (first | (with_reducible first | exact HB.out | apply below_alloc | apply pw_below_drewN | apply below_drew1 | refine below_set ?_ GE139.out) | exact HB.out)))); (case aL => have := LMc44.out; omega); intro v157 w45 ho hb hg hat; rw [← Ny156.out] at ho; have n0_ := Aside0.mk (Kd.S_after (ok := (fun k_ => some k_ ≠ (.slice (some ad148) t145.length co30 : Value).ownBlock)) (by (with_reducible repeat (first | apply Kd.S_alloc | apply Kd.S_drewN | apply Kd.S_drew)); exact HO_7.out) hg hat); have n1_ := Aside0.mk (Kd.R_after (ok := (fun _ => True)) (by (with_reducible repeat (first | apply Kd.R_alloc | apply Kd.R_drewN | apply Kd.R_drew)); exact Kd.R_mono HO_8.out (fun _ hk => ⟨trivial, hk⟩)) hg hat); have n2_ := Aside0.mk (blk_grown (g := gb139) (o := .cells #[.int .i64 a0_0, .slice A0_1 l0_1.length c0_1] 24 (0, 0)) (by (with_reducible repeat (first | refine blk_drewN ?_ _ | refine blk_drew ?_ | refine blk_alloc ?_ _)); exact BK139.out) hg (Kd.R_ne HO_9.out BK139.out (by decide))); have n3_ := Aside0.mk (hb); have n4_ := Aside0.mk (ho); clear HO_7; clear HO_8; clear BK139; clear HB; clear HO_9; have HO_7 := n0_; have HO_8 := n1_; have BK139 := n2_; have HB := n3_; have HO158 := n4_; clear n0_ n1_ n2_ n3_ n4_; clear ho hb hg hat))
                       repeat (go_quiet (first | ((with_reducible refine gate_builtin (b := .append) (xs := #[.tmp 58, .tmp 60]) rfl ?_); at_builtin; refine Kd.R_append (Kd.int .i64) (w0 := w) w.heap.size rfl (.tmp 58) (.tmp 60) 30 3 (.int .i64 0) 8 rfl Try.underlying30 info3 rfl (by decide) (by omega) u9 x9_2 (rd (rd_L3 t142 x1_2) x42_3) [.int .i64 (rd (rd_L3 t142 x1_2) x42_3)] (fun k_ => some k_ ≠ (.slice (some ad148) t145.length co30 : Value).ownBlock) (fun _ => False) rfl rfl ?aP (fun _ hk => hk.elim) ?aF ?aO ?aB ?aS ?aL ?_; (case aP => exact rfl); (case aB => exact (by repeat (first | (with_reducible first | exact HB.out | apply below_alloc | apply pw_below_drewN | apply below_drew1 | refine below_set ?_ GE139.out) | exact HB.out))); (case aF => exact (fun k_ hk => Kd.fresh' (Kd.R_lt (by (with_reducible repeat (first | apply Kd.R_alloc | apply Kd.R_drewN | apply Kd.R_drew)); exact HO_8.out)) k_ hk)); (case aO => exact (by (with_reducible repeat (first | apply Kd.R_alloc | apply Kd.R_drewN | apply Kd.R_drew)); exact HO_9.out)); (case aS => exact (below_size (by repeat (first | (with_reducible first | exact HB.out | apply below_alloc | apply pw_below_drewN | apply below_drew1 | refine below_set ?_ GE139.out) | exact HB.out)))); (case aL => have := LMc44.out; omega); intro v157 w45 ho hb hg hat; rw [← Ny156.out] at ho; have n0_ := Aside0.mk (Kd.S_after (ok := (fun k_ => some k_ ≠ (.slice (some ad148) t145.length co30 : Value).ownBlock)) (by (with_reducible repeat (first | apply Kd.S_alloc | apply Kd.S_drewN | apply Kd.S_drew)); exact HO_7.out) hg hat); have n1_ := Aside0.mk (Kd.R_after (ok := (fun _ => True)) (by (with_reducible repeat (first | apply Kd.R_alloc | apply Kd.R_drewN | apply Kd.R_drew)); exact Kd.R_mono HO_8.out (fun _ hk => ⟨trivial, hk⟩)) hg hat); have n2_ := Aside0.mk (blk_grown (g := gb139) (o := .cells #[.int .i64 a0_0, .slice A0_1 l0_1.length c0_1] 24 (0, 0)) (by (with_reducible repeat (first | refine blk_drewN ?_ _ | refine blk_drew ?_ | refine blk_alloc ?_ _)); exact BK139.out) hg (Kd.R_ne HO_9.out BK139.out (by decide))); have n3_ := Aside0.mk (hb); have n4_ := Aside0.mk (ho); clear HO_7; clear HO_8; clear BK139; clear HB; clear HO_9; have HO_7 := n0_; have HO_8 := n1_; have BK139 := n2_; have HB := n3_; have HO158 := n4_; clear n0_ n1_ n2_ n3_ n4_; clear ho hb hg hat)); try go_wp2_with (first | ((with_reducible refine gate_builtin (b := .append) (xs := #[.tmp 58, .tmp 60]) rfl ?_); at_builtin; refine Kd.R_append (Kd.int .i64) (w0 := w) w.heap.size rfl (.tmp 58) (.tmp 60) 30 3 (.int .i64 0) 8 rfl Try.underlying30 info3 rfl (by decide) (by omega) u9 x9_2 (rd (rd_L3 t142 x1_2) x42_3) [.int .i64 (rd (rd_L3 t142 x1_2) x42_3)] (fun k_ => some k_ ≠ (.slice (some ad148) t145.length co30 : Value).ownBlock) (fun _ => False) rfl rfl ?aP (fun _ hk => hk.elim) ?aF ?aO ?aB ?aS ?aL ?_; (case aP => exact rfl); (case aB => exact (by repeat (first | (with_reducible first | exact HB.out | apply below_alloc | apply pw_below_drewN | apply below_drew1 | refine below_set ?_ GE139.out) | exact HB.out))); (case aF => exact (fun k_ hk => Kd.fresh' (Kd.R_lt (by (with_reducible repeat (first | apply Kd.R_alloc | apply Kd.R_drewN | apply Kd.R_drew)); exact HO_8.out)) k_ hk)); (case aO => exact (by (with_reducible repeat (first | apply Kd.R_alloc | apply Kd.R_drewN | apply Kd.R_drew)); exact HO_9.out)); (case aS => exact (below_size (by repeat (first | (with_reducible first | exact HB.out | apply below_alloc | apply pw_below_drewN | apply below_drew1 | refine below_set ?_ GE139.out) | exact HB.out)))); (case aL => have := LMc44.out; omega); intro v157 w45 ho hb hg hat; rw [← Ny156.out] at ho; have n0_ := Aside0.mk (Kd.S_after (ok := (fun k_ => some k_ ≠ (.slice (some ad148) t145.length co30 : Value).ownBlock)) (by (with_reducible repeat (first | apply Kd.S_alloc | apply Kd.S_drewN | apply Kd.S_drew)); exact HO_7.out) hg hat); have n1_ := Aside0.mk (Kd.R_after (ok := (fun _ => True)) (by (with_reducible repeat (first | apply Kd.R_alloc | apply Kd.R_drewN | apply Kd.R_drew)); exact Kd.R_mono HO_8.out (fun _ hk => ⟨trivial, hk⟩)) hg hat); have n2_ := Aside0.mk (blk_grown (g := gb139) (o := .cells #[.int .i64 a0_0, .slice A0_1 l0_1.length c0_1] 24 (0, 0)) (by (with_reducible repeat (first | refine blk_drewN ?_ _ | refine blk_drew ?_ | refine blk_alloc ?_ _)); exact BK139.out) hg (Kd.R_ne HO_9.out BK139.out (by decide))); have n3_ := Aside0.mk (hb); have n4_ := Aside0.mk (ho); clear HO_7; clear HO_8; clear BK139; clear HB; clear HO_9; have HO_7 := n0_; have HO_8 := n1_; have BK139 := n2_; have HB := n3_; have HO158 := n4_; clear n0_ n1_ n2_ n3_ n4_; clear ho hb hg hat)))
                       go_roundg k3
                       case measure => have := HJ3.out; have := HK2.out; have := HK3.out; omega
                       case rel => exact ⟨(rd (rd_L3 t142 x1_2) x42_3), (y156), (by first | rfl | (simp; done) | (simp [*]; done)), H', ⟨by have := HJ3.out; have := HK2.out; have := HK3.out; omega⟩, ⟨by exact HO_7.out⟩, ⟨by exact Kd.R_mono HO_8.out (fun _ hk => hk.2)⟩, ⟨by exact HO158.out⟩, ⟨by exact BK139.out⟩, ⟨by exact HB.out⟩⟩
                      ·rw [if_neg c44] at H
                       exact absurd H (by simp)
                     ·rw [if_neg c43] at H
                      have c43b0 : ((rd t145 (rd (rd_L3 t142 x1_2) x42_3)) == (wrap64 ((rd t145 x1_3) - 1))) = false := beq_eq_false_iff_ne.mpr c43
                      have c43b1 : ((rd t145 (rd (rd_L3 t142 x1_2) x42_3)) != (wrap64 ((rd t145 x1_3) - 1))) = true := bne_iff_ne.mpr c43
                      have H' := Aside0.mk H
                      clear H
                      have p153 : 0 ≤ (x42_3 : Int) := of_decide_eq_true (by first | (with_reducible assumption) | assumption)
                      have q153 : x42_3 < ((rd_L3 t142 x1_2).length : Int) := of_decide_eq_true (by first | (with_reducible assumption) | assumption)
                      obtain ⟨ad153, e153, hx153_0⟩ := Kd.at_int HR152_0.out x42_3 p153 q153
                      cases e153
                      try replace hx153_0 := (HB.out.cell (World.block_lt_of_cell? w _ hx153_0)).trans hx153_0
                      replace p153 := eq_true p153
                      replace q153 := eq_true q153
                      have p154 : 0 ≤ ((rd (rd_L3 t142 x1_2) x42_3) : Int) := of_decide_eq_true (by first | (with_reducible assumption) | assumption)
                      have q154 : (rd (rd_L3 t142 x1_2) x42_3) < (t145.length : Int) := of_decide_eq_true (by first | (with_reducible assumption) | assumption)
                      obtain ⟨ad154, e154, hx154_0⟩ := Kd.at_int (Kd.R_reads' HO_8.out).2.2 (rd (rd_L3 t142 x1_2) x42_3) p154 q154
                      obtain rfl : ad148 = ad154 := (by injection e154)
                      replace p154 := eq_true p154
                      replace q154 := eq_true q154
                      have p155 : 0 ≤ (x1_3 : Int) := of_decide_eq_true (by first | (with_reducible assumption) | assumption)
                      have q155 : x1_3 < (t145.length : Int) := of_decide_eq_true (by first | (with_reducible assumption) | assumption)
                      obtain ⟨ad155, e155, hx155_0⟩ := Kd.at_int (Kd.R_reads' HO_8.out).2.2 x1_3 p155 q155
                      obtain rfl : ad148 = ad155 := (by injection e155)
                      replace p155 := eq_true p155
                      replace q155 := eq_true q155
                      go_wp2
                      repeat (go_quiet (fail); try go_wp2)
                      go_roundg k3
                      case measure => have := HJ3.out; have := HK2.out; have := HK3.out; omega
                      case rel => exact ⟨(x1_3), (wrap64 (x42_3 + 1)), (by first | rfl | (simp; done) | (simp [*]; done)), (by first | rfl | (simp; done) | (simp [*]; done)), H', ⟨by have := HJ3.out; have := HK2.out; have := HK3.out; omega⟩, ⟨by (with_reducible repeat (first | apply Kd.S_alloc | apply Kd.S_drewN | apply Kd.S_drew)); exact HO_7.out⟩, ⟨by (with_reducible repeat (first | apply Kd.R_alloc | apply Kd.R_drewN | apply Kd.R_drew)); exact HO_8.out⟩, ⟨by (with_reducible repeat (first | apply Kd.R_alloc | apply Kd.R_drewN | apply Kd.R_drew)); exact HO_9.out⟩, ⟨by (with_reducible repeat (first | refine blk_drewN ?_ _ | refine blk_drew ?_ | refine blk_alloc ?_ _)); exact BK139.out⟩, ⟨by repeat (first | (with_reducible exact HR152_0.out) | (with_reducible refine Kd.C_alloc ?_ _) | (with_reducible refine Kd.C_drewN ?_ _) | (with_reducible refine Kd.C_drew ?_) | exact HR152_0.out)⟩, ⟨by repeat (first | (with_reducible first | exact HB.out | apply below_alloc | apply pw_below_drewN | apply below_drew1 | refine below_set ?_ GE139.out) | exact HB.out)⟩⟩
                    ·rw [if_neg c42] at H
                     exact absurd H (by simp)
                   ·rw [if_neg c41] at H
                    exact absurd H (by simp)
                  ·rw [if_neg c40] at H
                   exact absurd H (by simp)
                 ·rw [if_neg c39] at H
                  exact absurd H (by simp)
                ·rw [if_neg c38] at H
                 exact absurd H (by simp)
               ·rw [if_neg c37] at H
                exact absurd H (by simp)
              ·rw [if_neg c36] at H
               have c36b0 : decide (x42_3 < ((rd_L3 t142 x1_2).length : Int)) = false := decide_eq_false c36
               clear c36
               by_cases c46 : x9_2.length < 17592186044416
               ·rw [if_pos c46] at H
                have LMc46 := Aside0.mk c46
                clear c46
                obtain ⟨y159, hy159⟩ : ∃ y_ : List Int, y_ = (x9_2 ++ [x1_3]) := ⟨_, rfl⟩
                replace H : (topo_Path.l0 k3 x1_3 a2 t142 t145 y159) = some r := by first | (rw [hy159]; with_reducible exact H) | (have H2_ := (Option.bind_some _ _).symm.trans H; rw [hy159]; with_reducible exact H2_) | (have H2_ := (Option.bind_some _ _).symm.trans H; with_reducible exact H2_) | with_reducible exact H | (rw [hy159]; exact H) | exact H
                have Ny159 := Aside0.mk hy159
                clear hy159
                have H' := Aside0.mk H
                clear H
                go_wp2_with (first | ((with_reducible refine gate_builtin (b := .append) (xs := #[.tmp 58, .tmp 60]) rfl ?_); at_builtin; refine Kd.R_append (Kd.int .i64) (w0 := w) w.heap.size rfl (.tmp 58) (.tmp 60) 30 3 (.int .i64 0) 8 rfl Try.underlying30 info3 rfl (by decide) (by omega) u9 x9_2 x1_3 [.int .i64 x1_3] (fun k_ => some k_ ≠ (.slice (some ad148) t145.length co30 : Value).ownBlock) (fun _ => False) rfl rfl ?aP (fun _ hk => hk.elim) ?aF ?aO ?aB ?aS ?aL ?_; (case aP => exact rfl); (case aB => exact (by exact HB.out)); (case aF => exact (fun k_ hk => Kd.fresh' (Kd.R_lt (by exact HO_8.out)) k_ hk)); (case aO => exact (by exact HO_9.out)); (case aS => exact (below_size (by exact HB.out))); (case aL => have := LMc46.out; omega); intro v160 w47 ho hb hg hat; rw [← Ny159.out] at ho; have n0_ := Aside0.mk (Kd.S_after (ok := (fun k_ => some k_ ≠ (.slice (some ad148) t145.length co30 : Value).ownBlock)) (by exact HO_7.out) hg hat); have n1_ := Aside0.mk (Kd.R_after (ok := (fun _ => True)) (by exact Kd.R_mono HO_8.out (fun _ hk => ⟨trivial, hk⟩)) hg hat); have n2_ := Aside0.mk (blk_grown (g := gb139) (o := .cells #[.int .i64 a0_0, .slice A0_1 l0_1.length c0_1] 24 (0, 0)) (by exact BK139.out) hg (Kd.R_ne HO_9.out BK139.out (by decide))); have n3_ := Aside0.mk (hb); have n4_ := Aside0.mk (ho); clear HO_7; clear HO_8; clear BK139; clear HB; clear HO_9; have HO_7 := n0_; have HO_8 := n1_; have BK139 := n2_; have HB := n3_; have HO161 := n4_; clear n0_ n1_ n2_ n3_ n4_; clear ho hb hg hat))
                repeat (go_quiet (first | ((with_reducible refine gate_builtin (b := .append) (xs := #[.tmp 58, .tmp 60]) rfl ?_); at_builtin; refine Kd.R_append (Kd.int .i64) (w0 := w) w.heap.size rfl (.tmp 58) (.tmp 60) 30 3 (.int .i64 0) 8 rfl Try.underlying30 info3 rfl (by decide) (by omega) u9 x9_2 x1_3 [.int .i64 x1_3] (fun k_ => some k_ ≠ (.slice (some ad148) t145.length co30 : Value).ownBlock) (fun _ => False) rfl rfl ?aP (fun _ hk => hk.elim) ?aF ?aO ?aB ?aS ?aL ?_; (case aP => exact rfl); (case aB => exact (by exact HB.out)); (case aF => exact (fun k_ hk => Kd.fresh' (Kd.R_lt (by exact HO_8.out)) k_ hk)); (case aO => exact (by exact HO_9.out)); (case aS => exact (below_size (by exact HB.out))); (case aL => have := LMc46.out; omega); intro v160 w47 ho hb hg hat; rw [← Ny159.out] at ho; have n0_ := Aside0.mk (Kd.S_after (ok := (fun k_ => some k_ ≠ (.slice (some ad148) t145.length co30 : Value).ownBlock)) (by exact HO_7.out) hg hat); have n1_ := Aside0.mk (Kd.R_after (ok := (fun _ => True)) (by exact Kd.R_mono HO_8.out (fun _ hk => ⟨trivial, hk⟩)) hg hat); have n2_ := Aside0.mk (blk_grown (g := gb139) (o := .cells #[.int .i64 a0_0, .slice A0_1 l0_1.length c0_1] 24 (0, 0)) (by exact BK139.out) hg (Kd.R_ne HO_9.out BK139.out (by decide))); have n3_ := Aside0.mk (hb); have n4_ := Aside0.mk (ho); clear HO_7; clear HO_8; clear BK139; clear HB; clear HO_9; have HO_7 := n0_; have HO_8 := n1_; have BK139 := n2_; have HB := n3_; have HO161 := n4_; clear n0_ n1_ n2_ n3_ n4_; clear ho hb hg hat)); try go_wp2_with (first | ((with_reducible refine gate_builtin (b := .append) (xs := #[.tmp 58, .tmp 60]) rfl ?_); at_builtin; refine Kd.R_append (Kd.int .i64) (w0 := w) w.heap.size rfl (.tmp 58) (.tmp 60) 30 3 (.int .i64 0) 8 rfl Try.underlying30 info3 rfl (by decide) (by omega) u9 x9_2 x1_3 [.int .i64 x1_3] (fun k_ => some k_ ≠ (.slice (some ad148) t145.length co30 : Value).ownBlock) (fun _ => False) rfl rfl ?aP (fun _ hk => hk.elim) ?aF ?aO ?aB ?aS ?aL ?_; (case aP => exact rfl); (case aB => exact (by exact HB.out)); (case aF => exact (fun k_ hk => Kd.fresh' (Kd.R_lt (by exact HO_8.out)) k_ hk)); (case aO => exact (by exact HO_9.out)); (case aS => exact (below_size (by exact HB.out))); (case aL => have := LMc46.out; omega); intro v160 w47 ho hb hg hat; rw [← Ny159.out] at ho; have n0_ := Aside0.mk (Kd.S_after (ok := (fun k_ => some k_ ≠ (.slice (some ad148) t145.length co30 : Value).ownBlock)) (by exact HO_7.out) hg hat); have n1_ := Aside0.mk (Kd.R_after (ok := (fun _ => True)) (by exact Kd.R_mono HO_8.out (fun _ hk => ⟨trivial, hk⟩)) hg hat); have n2_ := Aside0.mk (blk_grown (g := gb139) (o := .cells #[.int .i64 a0_0, .slice A0_1 l0_1.length c0_1] 24 (0, 0)) (by exact BK139.out) hg (Kd.R_ne HO_9.out BK139.out (by decide))); have n3_ := Aside0.mk (hb); have n4_ := Aside0.mk (ho); clear HO_7; clear HO_8; clear BK139; clear HB; clear HO_9; have HO_7 := n0_; have HO_8 := n1_; have BK139 := n2_; have HB := n3_; have HO161 := n4_; clear n0_ n1_ n2_ n3_ n4_; clear ho hb hg hat)))
                go_roundg k3
                case measure => have := HJ3.out; have := HK2.out; have := HK3.out; omega
                case rel => exact ⟨(x1_3), (y159), (by first | rfl | (simp; done) | (simp [*]; done)), H', ⟨by have := HJ3.out; have := HK2.out; have := HK3.out; omega⟩, ⟨by exact HO_7.out⟩, ⟨by exact Kd.R_mono HO_8.out (fun _ hk => hk.2)⟩, ⟨by exact HO161.out⟩, ⟨by exact BK139.out⟩, ⟨by exact HB.out⟩⟩
               ·rw [if_neg c46] at H
                exact absurd H (by simp)
           ·rw [if_neg c35] at H
            exact absurd H (by simp)
          ·rw [if_neg c34] at H
           exact absurd H (by simp)
     ·rw [if_neg c19] at H
      exact absurd H (by simp)
    ·rw [if_neg c18] at H
     exact absurd H (by simp)

end Go.Proofs.Ythkpnkmbmlbefaa.X

namespace Go.Proofs.Ythkpnkmbmlbefaa.X
open Go.RowKit Go.Proofs.YthkpnkmbmlbefaaW.PrintWords Go.Proofs.YthkpnkmbmlbefaaW.PrintLast Go.Proofs.YthkpnkmbmlbefaaW.PrintMore
attribute [local go_sem] max2_int min2_int max_two min_two max_three min_three max_four min_four   -- for this text's walks alone
set_option linter.unusedVariables false
set_option linter.unusedSimpArgs false

/-! ### slices_Max_int_int: function 63 -/
def slices_Max_int_int.l0 : Nat → List Int → Int → Int → Option (Int)
 | 0, _, _, _ => none
 | k + 1, x0, x3, x4 => if x4 < (x0.length : Int) then (if 0 ≤ x4 then (slices_Max_int_int.l0 k x0 (mx x3 (rd x0 x4)) (wrap64 (x4 + 1))) else (none)) else (some x3)
def slices_Max_int_int.f (k : Nat) (l0 : List Int) : Option (Int) := if (l0.length : Int) < 1 then (none) else (if 0 < (l0.length : Int) then (slices_Max_int_int.l0 k l0 (rd l0 0) 1) else (none))
theorem slices_Max_int_int.mono_l : ∀ k, (∀ y0 y1 y2, LeO (slices_Max_int_int.l0 k y0 y1 y2) (slices_Max_int_int.l0 (k + 1) y0 y1 y2))
 | 0 => fun _ _ _ r h => by simp [slices_Max_int_int.l0] at h
 | k + 1 => by
  have ih0 := slices_Max_int_int.mono_l k
  ·intro y0 y1 y2
   unfold slices_Max_int_int.l0
   repeat' first
   | (with_reducible exact ih0 _ _ _)
   | (with_reducible exact LeO.refl _)
   | (with_reducible exact LeO.none _)
   | (with_reducible refine LeO.ite ?_ ?_)
   | (with_reducible refine LeO.bind ?_ (fun _ => ?_))
   | exact ih0 _ _ _
   | exact LeO.none _
   | refine LeO.ite ?_ ?_
   | refine LeO.bind ?_ (fun _ => ?_)
theorem slices_Max_int_int.mono : ∀ a0 k, LeO (slices_Max_int_int.f k a0) (slices_Max_int_int.f (k + 1) a0) := by
 intro a0 k
 have ih0 := slices_Max_int_int.mono_l k
 unfold slices_Max_int_int.f
 repeat' first
   | (with_reducible exact ih0 _ _ _)
   | (with_reducible exact LeO.refl _)
   | (with_reducible exact LeO.none _)
   | (with_reducible refine LeO.ite ?_ ?_)
   | (with_reducible refine LeO.bind ?_ (fun _ => ?_))
   | exact ih0 _ _ _
   | exact LeO.none _
   | refine LeO.ite ?_ ?_
   | refine LeO.bind ?_ (fun _ => ?_)
set_option maxHeartbeats 8000000 in
set_option maxRecDepth 100000 in
theorem slices_Max_int_int.calls (k : Nat) (A0 : Option Addr) (c0 : Nat) (l0 : List Int) (r : Int) (w : World) (hr0 : Kd.C (Kd.int .i64) w A0 l0.length l0) (hc0 : l0.length ≤ c0) (h : slices_Max_int_int.f k l0 = some r) :
  Calls Try.prog 63 #[.slice A0 l0.length c0] w fun e w' => e = .returned (.int .i64 r) ∧ Below w.heap.size w w' := by
 have HR0 := Aside0.mk hr0
 have HC0 := Aside0.mk hc0
 clear hr0 hc0
 have HB := Aside0.mk (Below.refl w.heap.size w)
 have H : (if (l0.length : Int) < 1 then (none) else (if 0 < (l0.length : Int) then (slices_Max_int_int.l0 k l0 (rd l0 0) 1) else (none))) = some r := h
 clear h
 by_cases c2 : (l0.length : Int) < 1
 ·rw [if_pos c2] at H
  exact absurd H (by simp)
 ·rw [if_neg c2] at H
  have c2b0 : decide ((l0.length : Int) < 1) = false := decide_eq_false c2
  have c2b1 : decide (l0.length < 1) = false := decide_eq_false (by omega)
  clear c2
  by_cases c3 : 0 < (l0.length : Int)
  ·rw [if_pos c3] at H
   have c3b0 : decide (0 < (l0.length : Int)) = true := decide_eq_true c3
   have c3b1 : decide (0 < l0.length) = true := decide_eq_true (by omega)
   clear c3
   have H' := Aside0.mk H
   clear H
   have p162 : 0 ≤ (0 : Int) := (by omega)
   have q162 : 0 < (l0.length : Int) := of_decide_eq_true (by first | (with_reducible assumption) | assumption)
   obtain ⟨ad162, e162, hx162_0⟩ := Kd.at_int HR0.out 0 p162 q162
   cases e162
   have qi162 : (0 < l0.length) = True := eq_true (by omega)
   (try rw [show ((0 : Int)).toNat = 0 from rfl] at hx162_0)
   (try rw [Addr.add_zero'] at hx162_0)
   replace p162 := eq_true p162
   replace q162 := eq_true q162
   go_enter Try.func63, Try.ntmps63
   go_wp2
   go_loopg [3, 4] k (fun kq v3 v4 w' => ∃ (x3_1 : Int) (x4_1 : Int), v3 = .int .i64 x3_1 ∧ v4 = .int .i64 x4_1 ∧ Aside0 (slices_Max_int_int.l0 kq l0 x3_1 x4_1 = some r) ∧ Aside0 (kq ≤ k) ∧ Aside0 (Below w.heap.size w w'))
   case atStart => exact ⟨(rd l0 0), (1), (by first | rfl | (simp; done) | (simp [*]; done)), (by first | rfl | (simp; done) | (simp [*]; done)), H', ⟨Nat.le_refl _⟩, ⟨by repeat (first | (with_reducible first | exact HB.out | apply below_alloc | apply pw_below_drewN | apply below_drew1) | exact HB.out)⟩⟩
   case round =>
    clear H'
    try clear p1
    try clear q1
    try clear hx1
    try clear qi1
    try clear c2
    try clear c2b0
    try clear c2b1
    try clear p2
    try clear c3
    try clear c3b0
    try clear c3b1
    try clear hx162_0
    try clear p162
    try clear q162
    obtain ⟨x3_1, x4_1, rfl, rfl, HA, HK1, HB⟩ := hrel
    cases gk with
    | zero => exact absurd HA.out (by simp [slices_Max_int_int.l0])
    | succ k1 =>
     have H := HA.out
     clear HA
     simp only [slices_Max_int_int.l0] at H
     by_cases c4 : x4_1 < (l0.length : Int)
     ·rw [if_pos c4] at H
      have c4b0 : decide (x4_1 < (l0.length : Int)) = true := decide_eq_true c4
      clear c4
      by_cases c5 : 0 ≤ x4_1
      ·rw [if_pos c5] at H
       have c5b0 : decide (0 ≤ x4_1) = true := decide_eq_true c5
       clear c5
       obtain ⟨ji6, hji6⟩ : ∃ j_ : Int, (mx x3_1 (rd l0 x4_1)) = j_ := ⟨_, rfl⟩
       replace H : (slices_Max_int_int.l0 k1 l0 ji6 (wrap64 (x4_1 + 1))) = some r := by first | (rw [hji6] at H; exact H) | (simp only [hji6] at H ⊢; exact H)
       have hji6_ : (if x3_1 < (rd l0 x4_1) then (rd l0 x4_1) else x3_1) = ji6 := hji6
       have H' := Aside0.mk H
       clear H
       have p163 : 0 ≤ (x4_1 : Int) := of_decide_eq_true (by first | (with_reducible assumption) | assumption)
       have q163 : x4_1 < (l0.length : Int) := of_decide_eq_true (by first | (with_reducible assumption) | assumption)
       obtain ⟨ad163, e163, hx163_0⟩ := Kd.at_int HR0.out x4_1 p163 q163
       obtain rfl : ad162 = ad163 := (by injection e163)
       try replace hx163_0 := (HB.out.cell (World.block_lt_of_cell? w _ hx163_0)).trans hx163_0
       replace p163 := eq_true p163
       replace q163 := eq_true q163
       go_wp2
       go_roundg k1
       case measure => have := HK1.out; omega
       case rel => exact ⟨(ji6), (wrap64 (x4_1 + 1)), (by first | rfl | (simp; done) | (simp only [← hji6] <;> (first | rfl | simp)) | (simp [*]; done)), (by first | rfl | (simp; done) | (simp [*]; done)), H', ⟨by have := HK1.out; omega⟩, ⟨by repeat (first | (with_reducible first | exact HB.out | apply below_alloc | apply pw_below_drewN | apply below_drew1) | exact HB.out)⟩⟩
      ·rw [if_neg c5] at H
       exact absurd H (by simp)
     ·rw [if_neg c4] at H
      have c4b0 : decide (x4_1 < (l0.length : Int)) = false := decide_eq_false c4
      clear c4
      obtain rfl := Option.some.inj H
      go_wp2
      go_ret
      exact ⟨by first | rfl | (simp [errW_none, errW_some] <;> rfl) | (simp [*, errW_none, errW_some] <;> rfl), by repeat (first | (with_reducible first | exact HB.out | apply below_alloc | apply pw_below_drewN | apply below_drew1) | exact HB.out)⟩
  ·rw [if_neg c3] at H
   exact absurd H (by simp)

end Go.Proofs.Ythkpnkmbmlbefaa.X

namespace Go.Proofs.Ythkpnkmbmlbefaa.X
open Go.RowKit Go.Proofs.YthkpnkmbmlbefaaW.PrintWords Go.Proofs.YthkpnkmbmlbefaaW.PrintLast Go.Proofs.YthkpnkmbmlbefaaW.PrintMore
attribute [local go_sem] max2_int min2_int max_two min_two max_three min_three max_four min_four   -- for this text's walks alone
set_option linter.unusedVariables false
set_option linter.unusedSimpArgs false

/-! ### topo_Diameter: function 26 -/
def topo_Diameter.l0 : Nat → List (List Int) → Int → Int → Int → Option (Int)
 | 0, _, _, _, _ => none
 | k + 1, x3, x4, x12, x13 => if x13 < x12 then ((topo_distances.f k x3 x13).bind fun t169 => ((slices_Max_int_int.f k t169).bind fun t172 => (topo_Diameter.l0 k x3 (mx x4 t172) x12 (wrap64 (x13 + 1))))) else (some x4)
def topo_Diameter.f (k : Nat) (a0_0 : Int) (l0_1 : List (S37)) : Option (Int) := (topo_Check.f k a0_0 l0_1).bind fun t165 => (if t165 = 0 then ((topo_neighbors.f k a0_0 l0_1).bind fun t166 => (topo_Diameter.l0 k t166 0 a0_0 0)) else (some 0))
theorem topo_Diameter.mono_l : ∀ k, (∀ y0 y1 y2 y3, LeO (topo_Diameter.l0 k y0 y1 y2 y3) (topo_Diameter.l0 (k + 1) y0 y1 y2 y3))
 | 0 => fun _ _ _ _ r h => by simp [topo_Diameter.l0] at h
 | k + 1 => by
  have ih0 := topo_Diameter.mono_l k
  ·intro y0 y1 y2 y3
   unfold topo_Diameter.l0
   repeat' first
   | (with_reducible exact ih0 _ _ _ _)
   | (with_reducible exact slices_Max_int_int.mono _ _)
   | (with_reducible exact topo_Check.mono _ _ _)
   | (with_reducible exact topo_distances.mono _ _ _)
   | (with_reducible exact topo_neighbors.mono _ _ _)
   | (with_reducible exact LeO.refl _)
   | (with_reducible exact LeO.none _)
   | (with_reducible refine LeO.ite ?_ ?_)
   | (with_reducible refine LeO.bind ?_ (fun _ => ?_))
   | exact ih0 _ _ _ _
   | exact slices_Max_int_int.mono _ _
   | exact topo_Check.mono _ _ _
   | exact topo_distances.mono _ _ _
   | exact topo_neighbors.mono _ _ _
   | exact LeO.none _
   | refine LeO.ite ?_ ?_
   | refine LeO.bind ?_ (fun _ => ?_)
set_option maxHeartbeats 8000000 in
set_option maxRecDepth 100000 in
theorem topo_Diameter.calls (k : Nat) (a0_0 : Int) (A0_1 : Option Addr) (c0_1 : Nat) (l0_1 : List (S37)) (r : Int) (w : World) (hr0_1 : Kd.C k37 w A0_1 l0_1.length l0_1) (hc0_1 : l0_1.length ≤ c0_1) (h : topo_Diameter.f k a0_0 l0_1 = some r) :
  Calls Try.prog 26 #[.agg #[.int .i64 a0_0, .slice A0_1 l0_1.length c0_1]] w fun e w' => e = .returned (.int .i64 r) ∧ Below w.heap.size w w' := by
 have hu24 := Try.underlying24
 have HR0_1 := Aside0.mk hr0_1
 have HC0_1 := Aside0.mk hc0_1
 clear hr0_1 hc0_1
 have HB := Aside0.mk (Below.refl w.heap.size w)
 have H : ((topo_Check.f k a0_0 l0_1).bind fun t165 => (if t165 = 0 then ((topo_neighbors.f k a0_0 l0_1).bind fun t166 => (topo_Diameter.l0 k t166 0 a0_0 0)) else (some 0))) = some r := h
 clear h
 replace H := Option.bind_eq_some_iff.mp H
 obtain ⟨t165, A20, H⟩ := H
 replace H : (if t165 = 0 then ((topo_neighbors.f k a0_0 l0_1).bind fun t166 => (topo_Diameter.l0 k t166 0 a0_0 0)) else (some 0)) = some r := H
 have A2 := Aside0.mk A20
 clear A20
 by_cases c3 : t165 = 0
 ·rw [if_pos c3] at H
  have c3b0 : (t165 == 0) = true := beq_iff_eq.mpr c3
  have c3b1 : (t165 != 0) = false := bne_eq_false_iff_eq.mpr c3
  clear c3
  replace H := Option.bind_eq_some_iff.mp H
  obtain ⟨t166, A40, H⟩ := H
  replace H : (topo_Diameter.l0 k t166 0 a0_0 0) = some r := H
  have A4 := Aside0.mk A40
  clear A40
  have H' := Aside0.mk H
  clear H
  go_enter Try.func26, Try.ntmps26
  go_wp2_with (first | ((with_reducible refine gate_dst (N := 1) rfl ?_); refine box_event ?hg (N := 1) ?hd (cs := #[.int .i64 a0_0, .slice A0_1 l0_1.length c0_1]) (t := 24) ?hr ?_; (case hd => rfl); (case hg => rfl); (case hr => first | (go_simp; done) | (go_simp; rfl)); intro gb164 hg w5 hbox hb; have n0_ := Aside0.mk (below_step (by exact HB.out) hb); have n1_ := Aside0.mk (hbox); have n2_ := Aside0.mk ((by rw [hg]; exact (below_size (by exact HB.out)) : w.heap.size ≤ gb164)); have n3_ := Aside0.mk ((by rw [hg]; exact (below_size (by exact HB.out)) : w.heap.size ≤ gb164)); clear HB; have HB := n0_; have BK164 := n1_; have GW164 := n2_; have GE164 := n3_; clear n0_ n1_ n2_ n3_; clear hb hbox hg; have hcz6_0 : w5.cell? ⟨gb164, 0, none⟩ = some (.int .i64 a0_0) := (blk_cell BK164.out 0).trans rfl; have hcz6_1 : w5.cell? ⟨gb164, 1, none⟩ = some (.slice A0_1 l0_1.length c0_1) := (blk_cell BK164.out 1).trans rfl; have hfz6_0 := blk_frozen BK164.out 0; have hfz6_1 := blk_frozen BK164.out 1) | ((with_reducible refine gate_callee (f := 17) rfl ?_); refine goesL_ (some 7) rfl rfl Try.func17 (by kernel_rfl) rfl #[.agg #[.int .i64 a0_0, .slice A0_1 l0_1.length c0_1]] rfl (by (try simp only [List.map_toArray, List.map_cons, List.map_nil]); first | done | rfl | (simp only [List.length_drop, List.length_take]; rfl)) ?_; (with_reducible refine (topo_Check.calls k a0_0 _ _ l0_1 t165 _ ?side1 ?side2 A2.out).mono ?_); (case side1 => exact (Kd.C_below HR0_1.out HB.out)); (case side2 => exact HC0_1.out); rintro e w7 ⟨rfl, hb⟩; refine ⟨_, rfl, ?_⟩; have n0_ := Aside0.mk (blk_below (g := gb164) (o := .cells #[.int .i64 a0_0, .slice A0_1 l0_1.length c0_1] 24 (0, 0)) (by exact BK164.out) hb); have n1_ := Aside0.mk (below_step (by exact HB.out) hb); clear BK164; clear HB; have BK164 := n0_; have HB := n1_; clear n0_ n1_; have hcz8_0 : w7.cell? ⟨gb164, 0, none⟩ = some (.int .i64 a0_0) := (blk_cell BK164.out 0).trans rfl; have hcz8_1 : w7.cell? ⟨gb164, 1, none⟩ = some (.slice A0_1 l0_1.length c0_1) := (blk_cell BK164.out 1).trans rfl; have hfz8_0 := blk_frozen BK164.out 0; have hfz8_1 := blk_frozen BK164.out 1) | ((with_reducible refine gate_callee (f := 59) rfl ?_); refine goesL_ (some 10) rfl rfl Try.func59 (by kernel_rfl) rfl #[.agg #[.int .i64 a0_0, .slice A0_1 l0_1.length c0_1]] rfl (by (try simp only [List.map_toArray, List.map_cons, List.map_nil]); first | done | rfl | (simp only [List.length_drop, List.length_take]; rfl)) ?_; (with_reducible refine (topo_neighbors.calls k a0_0 _ _ l0_1 t166 _ ?side1 ?side2 A4.out).mono ?_); (case side1 => exact (Kd.C_below HR0_1.out HB.out)); (case side2 => exact HC0_1.out); rintro e w9 ⟨v167, rfl, ho0, hb⟩; refine ⟨_, rfl, ?_⟩; have n0_ := Aside0.mk (Kd.S_lower ho0 (below_size (by exact HB.out))); have n1_ := Aside0.mk (blk_below (g := gb164) (o := .cells #[.int .i64 a0_0, .slice A0_1 l0_1.length c0_1] 24 (0, 0)) (by exact BK164.out) hb); have n2_ := Aside0.mk (below_step (by exact HB.out) hb); clear BK164; clear HB; have HO168 := n0_; have BK164 := n1_; have HB := n2_; clear n0_ n1_ n2_; have hcz10_0 : w9.cell? ⟨gb164, 0, none⟩ = some (.int .i64 a0_0) := (blk_cell BK164.out 0).trans rfl; have hcz10_1 : w9.cell? ⟨gb164, 1, none⟩ = some (.slice A0_1 l0_1.length c0_1) := (blk_cell BK164.out 1).trans rfl; have hfz10_0 := blk_frozen BK164.out 0; have hfz10_1 := blk_frozen BK164.out 1))
  go_loopg [4, 13] k (fun kq v4 v13 w' => ∃ (x4_1 : Int) (x13_1 : Int), v4 = .int .i64 x4_1 ∧ v13 = .int .i64 x13_1 ∧ Aside0 (topo_Diameter.l0 kq t166 x4_1 a0_0 x13_1 = some r) ∧ Aside0 (kq ≤ k) ∧ Aside0 (Kd.S (Kd.slice 3 (Kd.int .i64)) 30 w' w.heap.size (fun _ => True) v167 t166) ∧ Aside0 (w'.heap[gb164]? = some (.cells #[.int .i64 a0_0, (.slice A0_1 l0_1.length c0_1)] 24 (0, 0))) ∧ Aside0 (Below w.heap.size w w'))
  case atStart => exact ⟨(0), (0), (by first | rfl | (simp; done) | (simp [*]; done)), (by first | rfl | (simp; done) | (simp [*]; done)), H', ⟨Nat.le_refl _⟩, ⟨by exact HO168.out⟩, ⟨by exact BK164.out⟩, ⟨by exact HB.out⟩⟩
  case round =>
   clear H'



















   obtain ⟨x4_1, x13_1, rfl, rfl, HA, HK1, HO_3, BK164, HB⟩ := hrel
   cases gk with
   | zero => exact absurd HA.out (by simp [topo_Diameter.l0])
   | succ k1 =>
    have H := HA.out
    clear HA
    simp only [topo_Diameter.l0] at H
    by_cases c11 : x13_1 < a0_0
    ·rw [if_pos c11] at H
     have c11b0 : decide (x13_1 < a0_0) = true := decide_eq_true c11
     clear c11
     replace H := Option.bind_eq_some_iff.mp H
     obtain ⟨t169, A120, H⟩ := H
     replace H : ((slices_Max_int_int.f k1 t169).bind fun t172 => (topo_Diameter.l0 k1 t166 (mx x4_1 t172) a0_0 (wrap64 (x13_1 + 1)))) = some r := H
     have A12 := Aside0.mk A120
     clear A120
     replace H := Option.bind_eq_some_iff.mp H
     obtain ⟨t172, A130, H⟩ := H
     replace H : (topo_Diameter.l0 k1 t166 (mx x4_1 t172) a0_0 (wrap64 (x13_1 + 1))) = some r := H
     have A13 := Aside0.mk A130
     clear A130
     obtain ⟨ji14, hji14⟩ : ∃ j_ : Int, (mx x4_1 t172) = j_ := ⟨_, rfl⟩
     replace H : (topo_Diameter.l0 k1 t166 ji14 a0_0 (wrap64 (x13_1 + 1))) = some r := by first | (rw [hji14] at H; exact H) | (simp only [hji14] at H ⊢; exact H)
     (try rw [hji14] at A12)
     (try rw [hji14] at A13)
     have hji14_ : (if x4_1 < t172 then t172 else x4_1) = ji14 := hji14
     have H' := Aside0.mk H
     clear H
     obtain ⟨Ao15, co15, eo15⟩ := Kd.S_slice HO_3.out
     subst eo15
     go_wp2_with (first | ((with_reducible refine gate_callee (f := 58) rfl ?_); refine goesL_ (some 19) rfl rfl Try.func58 (by kernel_rfl) rfl #[.slice Ao15 t166.length co15, .int .i64 x13_1] rfl (by (try simp only [List.map_toArray, List.map_cons, List.map_nil]); first | done | rfl | (simp only [List.length_drop, List.length_take]; rfl)) ?_; (with_reducible refine (topo_distances.calls k1 _ _ t166 x13_1 t169 _ ?side1 ?side2 A12.out).mono ?_); (case side1 => repeat (first | exact (Kd.S_reads' HO_3.out).2.2 | (with_reducible refine Kd.C_alloc ?_ _) | (with_reducible refine Kd.C_drewN ?_ _) | (with_reducible refine Kd.C_drew ?_))); (case side2 => exact (Kd.S_reads' HO_3.out).2.1); rintro e w16 ⟨v170, rfl, ho0, hb⟩; refine ⟨_, rfl, ?_⟩; have n0_ := Aside0.mk (Kd.S_elder' (by exact HO_3.out) (Kd.R_base ho0) hb); have n1_ := Aside0.mk (Kd.R_lower ho0 (below_size (by exact HB.out))); have n2_ := Aside0.mk (blk_below (g := gb164) (o := .cells #[.int .i64 a0_0, .slice A0_1 l0_1.length c0_1] 24 (0, 0)) (by exact BK164.out) hb); have n3_ := Aside0.mk (below_step (by exact HB.out) hb); clear HO_3; clear BK164; clear HB; have HO_3 := n0_; have HO171 := n1_; have BK164 := n2_; have HB := n3_; clear n0_ n1_ n2_ n3_; obtain ⟨Ao17, co17, eo17⟩ := Kd.R_slice HO171.out; subst eo17) | ((with_reducible refine gate_callee (f := 63) rfl ?_); refine goesL_ (some 20) rfl rfl Try.func63 (by kernel_rfl) rfl #[.slice Ao17 t169.length co17] rfl (by (try simp only [List.map_toArray, List.map_cons, List.map_nil]); first | done | rfl | (simp only [List.length_drop, List.length_take]; rfl)) ?_; (with_reducible refine (slices_Max_int_int.calls k1 _ _ t169 t172 _ ?side1 ?side2 A13.out).mono ?_); (case side1 => repeat (first | exact (Kd.R_reads' HO171.out).2.2 | (with_reducible refine Kd.C_alloc ?_ _) | (with_reducible refine Kd.C_drewN ?_ _) | (with_reducible refine Kd.C_drew ?_))); (case side2 => exact (Kd.R_reads' HO171.out).2.1); rintro e w18 ⟨rfl, hb⟩; refine ⟨_, rfl, ?_⟩; have n0_ := Aside0.mk (Kd.S_below (by exact HO_3.out) hb); have n1_ := Aside0.mk (Kd.R_below (by exact HO171.out) hb); have n2_ := Aside0.mk (blk_below (g := gb164) (o := .cells #[.int .i64 a0_0, .slice A0_1 l0_1.length c0_1] 24 (0, 0)) (by exact BK164.out) hb); have n3_ := Aside0.mk (below_step (by exact HB.out) hb); clear HO_3; clear HO171; clear BK164; clear HB; have HO_3 := n0_; have HO171 := n1_; have BK164 := n2_; have HB := n3_; clear n0_ n1_ n2_ n3_; (try clear hi)))
     go_roundg k1
     case measure => have := HK1.out; omega
     case rel => exact ⟨(ji14), (wrap64 (x13_1 + 1)), (by first | rfl | (simp; done) | (simp only [← hji14] <;> (first | rfl | simp)) | (simp [*]; done)), (by first | rfl | (simp; done) | (simp [*]; done)), H', ⟨by have := HK1.out; omega⟩, ⟨by exact Kd.S_mono HO_3.out (fun _ hk => trivial)⟩, ⟨by exact BK164.out⟩, ⟨by exact HB.out⟩⟩
    ·rw [if_neg c11] at H
     have c11b0 : decide (x13_1 < a0_0) = false := decide_eq_false c11
     clear c11
     obtain rfl := Option.some.inj H
     go_wp2
     go_ret
     exact ⟨by first | rfl | (simp [errW_none, errW_some] <;> rfl) | (simp [*, errW_none, errW_some] <;> rfl), by exact HB.out⟩
 ·rw [if_neg c3] at H
  have c3b0 : (t165 == 0) = false := beq_eq_false_iff_ne.mpr c3
  have c3b1 : (t165 != 0) = true := bne_iff_ne.mpr c3
  obtain rfl := Option.some.inj H
  go_enter Try.func26, Try.ntmps26
  go_wp2_with (first | ((with_reducible refine gate_dst (N := 1) rfl ?_); refine box_event ?hg (N := 1) ?hd (cs := #[.int .i64 a0_0, .slice A0_1 l0_1.length c0_1]) (t := 24) ?hr ?_; (case hd => rfl); (case hg => rfl); (case hr => first | (go_simp; done) | (go_simp; rfl)); intro gb164 hg w19 hbox hb; have n0_ := Aside0.mk (below_step (by exact HB.out) hb); have n1_ := Aside0.mk (hbox); have n2_ := Aside0.mk ((by rw [hg]; exact (below_size (by exact HB.out)) : w.heap.size ≤ gb164)); have n3_ := Aside0.mk ((by rw [hg]; exact (below_size (by exact HB.out)) : w.heap.size ≤ gb164)); clear HB; have HB := n0_; have BK164 := n1_; have GW164 := n2_; have GE164 := n3_; clear n0_ n1_ n2_ n3_; clear hb hbox hg; have hcz20_0 : w19.cell? ⟨gb164, 0, none⟩ = some (.int .i64 a0_0) := (blk_cell BK164.out 0).trans rfl; have hcz20_1 : w19.cell? ⟨gb164, 1, none⟩ = some (.slice A0_1 l0_1.length c0_1) := (blk_cell BK164.out 1).trans rfl; have hfz20_0 := blk_frozen BK164.out 0; have hfz20_1 := blk_frozen BK164.out 1) | ((with_reducible refine gate_callee (f := 17) rfl ?_); refine goesL_ (some 7) rfl rfl Try.func17 (by kernel_rfl) rfl #[.agg #[.int .i64 a0_0, .slice A0_1 l0_1.length c0_1]] rfl (by (try simp only [List.map_toArray, List.map_cons, List.map_nil]); first | done | rfl | (simp only [List.length_drop, List.length_take]; rfl)) ?_; (with_reducible refine (topo_Check.calls k a0_0 _ _ l0_1 t165 _ ?side1 ?side2 A2.out).mono ?_); (case side1 => exact (Kd.C_below HR0_1.out HB.out)); (case side2 => exact HC0_1.out); rintro e w21 ⟨rfl, hb⟩; refine ⟨_, rfl, ?_⟩; have n0_ := Aside0.mk (blk_below (g := gb164) (o := .cells #[.int .i64 a0_0, .slice A0_1 l0_1.length c0_1] 24 (0, 0)) (by exact BK164.out) hb); have n1_ := Aside0.mk (below_step (by exact HB.out) hb); clear BK164; clear HB; have BK164 := n0_; have HB := n1_; clear n0_ n1_; (try clear hi)))
  go_ret
  exact ⟨by first | rfl | (simp [errW_none, errW_some] <;> rfl) | (simp [*, errW_none, errW_some] <;> rfl), by exact HB.out⟩

end Go.Proofs.Ythkpnkmbmlbefaa.X

namespace Go.Proofs.Ythkpnkmbmlbefaa.X
open Go.RowKit Go.Proofs.YthkpnkmbmlbefaaW.PrintWords Go.Proofs.YthkpnkmbmlbefaaW.PrintLast Go.Proofs.YthkpnkmbmlbefaaW.PrintMore
attribute [local go_sem] max2_int min2_int max_two min_two max_three min_three max_four min_four   -- for this text's walks alone
set_option linter.unusedVariables false
set_option linter.unusedSimpArgs false

theorem eqA92 (d : Nat) (w : World) (x0 y0 : Int) (x1 y1 : Int) :
  (Op.equalIn (d + 2) 92 (.agg #[.int .i64 x0, .int .i64 x1]) (.agg #[.int .i64 y0, .int .i64 y1])).run Try.prog w = .ok (x0 == y0 && (x1 == y1)) w := by
 refine eqA_of Try.underlying92 (by kernel_rfl) ?_
 refine eqf_cons (by rfl) (by go_simp; rfl) (by go_simp; rfl) (by go_simp) ?_
 exact eqf_last (by rfl) (by go_simp; rfl) (by go_simp; rfl) (by go_simp)
end Go.Proofs.Ythkpnkmbmlbefaa.X
