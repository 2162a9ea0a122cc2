/- Ythkpnkmbmlbefaa: part 5 of 6 of the proof that the law TopoRenumbers returns true for every input, its arguments reading as before. No condition. -/
import Derived.Test.YthkpnkmbmlbefaaMTopoRenumbers1
import Derived.Test.YthkpnkmbmlbefaaMTopoRenumbers4
import Derived.Test.YthkpnkmbmlbefaaMTopoRenumbers2
import Derived.Test.YthkpnkmbmlbefaaMTopoRenumbers3
import Derived.KernelRfl
namespace Go.Proofs.Ythkpnkmbmlbefaa.X
open Go.RowKit Go.Proofs.YthkpnkmbmlbefaaW.PrintWords Go.Proofs.YthkpnkmbmlbefaaW.PrintLast Go.Proofs.YthkpnkmbmlbefaaW.PrintMore
attribute [local go_sem] max2_int min2_int max_two min_two max_three min_three max_four min_four   -- for this text's walks alone
set_option linter.unusedVariables false
set_option linter.unusedSimpArgs false

/-! ### timesynclaw18_TopoRenumbers: function 6 -/
mutual
def timesynclaw18_TopoRenumbers.j0 : Nat → Bool → Int → List (S37) → Int → Option (Bool)
 | 0, _, _, _, _ => none
 | k + 1, x22, x358000, x358001, x359000 => if x22 = true then ((timesynclaw18_awake.f k).bind fun t361 => (some t361)) else (timesynclaw18_TopoRenumbers.l0 k x358001 (x358001.length : Int) 0 x358000 x358001 x359000 x358000 ([] : List (S37)))
def timesynclaw18_TopoRenumbers.l0 : Nat → List (S37) → Int → Int → Int → List (S37) → Int → Int → List (S37) → Option (Bool)
 | 0, _, _, _, _, _, _, _, _ => none
 | k + 1, x29, x30, x31, x358000, x358001, x359000, x363000, x363001 => if x31 < x30 then (if 0 ≤ x31 then (if x31 < (x29.length : Int) then ((timesynclaw18_TopoRenumbers_1.f ((rd_T37 x29 x31).f2) x359000 x358000 x358001).bind fun t365 => ((timesynclaw18_TopoRenumbers_1.f ((rd_T37 x29 x31).f0) x359000 x358000 x358001).bind fun t366 => (if x363001.length < 4398046511104 then (timesynclaw18_TopoRenumbers.l0 k x29 x30 (wrap64 (x31 + 1)) x358000 x358001 x359000 x363000 (x363001 ++ [(⟨t365, (rd_T37 x29 x31).f3, t366, (rd_T37 x29 x31).f1⟩ : S37)])) else (none)))) else (none)) else (none)) else ((api_Edge.f x363001).bind fun t370 => ((timesynclaw18_sound.f k x358000 x358001).bind fun bt371 => ((timesynclaw18_sound.f k x363000 t370).bind fun bt375 => (if bt371.2 = true then (if bt375.2 = true then ((topo_Check.f k x363000 t370).bind fun t379 => (if t379 = 0 then ((topo_Diameter.f k x358000 x358001).bind fun t380 => ((topo_Diameter.f k x363000 t370).bind fun t381 => (timesynclaw18_TopoRenumbers.j2 k bt371.1 bt375.1 (t380 != t381) x358000 x358001 x359000))) else (timesynclaw18_TopoRenumbers.j2 k bt371.1 bt375.1 true x358000 x358001 x359000))) else (timesynclaw18_TopoRenumbers.j2 k bt371.1 bt375.1 true x358000 x358001 x359000)) else (timesynclaw18_TopoRenumbers.j2 k bt371.1 bt375.1 true x358000 x358001 x359000)))))
def timesynclaw18_TopoRenumbers.j2 : Nat → List (List Int) → List (List Int) → Bool → Int → List (S37) → Int → Option (Bool)
 | 0, _, _, _, _, _, _ => none
 | k + 1, x9, x11, x84, x358000, x358001, x359000 => if x84 = true then (none) else (timesynclaw18_TopoRenumbers.l1 k x9 x11 (x9.length : Int) 0 x358000 x358001 x359000)
def timesynclaw18_TopoRenumbers.l1 : Nat → List (List Int) → List (List Int) → Int → Int → Int → List (S37) → Int → Option (Bool)
 | 0, _, _, _, _, _, _, _ => none
 | k + 1, x9, x11, x86, x87, x358000, x358001, x359000 => if x87 < x86 then (if 0 ≤ x87 then (if x87 < (x9.length : Int) then (timesynclaw18_TopoRenumbers.l2 k x9 x11 x87 x86 x87 (rd_L3 x9 x87) ((rd_L3 x9 x87).length : Int) 0 x358000 x358001 x359000) else (none)) else (none)) else ((timesynclaw18_awake.f k).bind fun t382 => (some t382))
def timesynclaw18_TopoRenumbers.l2 : Nat → List (List Int) → List (List Int) → Int → Int → Int → List Int → Int → Int → Int → List (S37) → Int → Option (Bool)
 | 0, _, _, _, _, _, _, _, _, _, _, _ => none
 | k + 1, x9, x11, x13, x86, x87, x93, x94, x95, x358000, x358001, x359000 => if x95 < x94 then (if 0 ≤ x95 then (if x95 < (x93.length : Int) then ((timesynclaw18_TopoRenumbers_1.f x13 x359000 x358000 x358001).bind fun t385 => (if 0 ≤ t385 then (if t385 < (x11.length : Int) then ((timesynclaw18_TopoRenumbers_1.f x95 x359000 x358000 x358001).bind fun t387 => (if 0 ≤ t387 then (if t387 < ((rd_L3 x11 t385).length : Int) then (if (rd (rd_L3 x11 t385) t387) = (rd x93 x95) then (timesynclaw18_TopoRenumbers.l2 k x9 x11 x13 x86 x87 x93 x94 (wrap64 (x95 + 1)) x358000 x358001 x359000) else (none)) else (none)) else (none))) else (none)) else (none))) else (none)) else (none)) else (timesynclaw18_TopoRenumbers.l1 k x9 x11 x86 (wrap64 (x87 + 1)) x358000 x358001 x359000)
end
def timesynclaw18_TopoRenumbers.f (k : Nat) (a0_0 : Int) (l0_1 : List (S37)) (a1 : Int) : Option (Bool) := (timesynclaw18_long.f a0_0 l0_1).bind fun t359 => (if t359 = true then (timesynclaw18_TopoRenumbers.j0 k true a0_0 l0_1 a1) else ((topo_Check.f k a0_0 l0_1).bind fun t360 => (timesynclaw18_TopoRenumbers.j0 k (t360 != 0) a0_0 l0_1 a1)))
def timesynclaw18_TopoRenumbers.T8 : Bool × List (List Nat × List Nat) := (true, [([], []), ([0], [0]), ([], []), ([], []), ([3], [3]), ([2, 4], [2, 4]), ([], []), ([6], [6]), ([], []), ([], []), ([9], [9]), ([8, 10, 5], [8, 10]), ([], []), ([12], [12]), ([5, 7, 11, 13], [5, 7, 11, 13]), ([14], [14]), ([1, 15, 11], [1, 15]), ([0, 1, 2, 3, 4, 5, 6, 7, 8, 9, 10, 11, 12, 13, 14, 15, 16], []), ([17, 16, 16, 0, 1, 2, 3, 4, 5, 6, 7, 8, 9, 10, 11, 12, 13, 14, 15, 16], [16, 17])])
def timesynclaw18_TopoRenumbers.B8 : List Nat := [0, 1, 0, 0, 8, 28, 0, 64, 0, 0, 512, 1852, 0, 4096, 16380, 32764, 65535, 131071, 262143]
theorem timesynclaw18_TopoRenumbers.tab8 : rtab .any (opsOf Try.f6 8) = timesynclaw18_TopoRenumbers.T8 := by kernel_rfl
theorem timesynclaw18_TopoRenumbers.bits8 : waitsOk timesynclaw18_TopoRenumbers.T8.2 timesynclaw18_TopoRenumbers.B8 = true := by kernel_rfl
def timesynclaw18_TopoRenumbers.T13 : Bool × List (List Nat × List Nat) := (true, [([], []), ([0], [0]), ([1], [1]), ([2], [2]), ([3, 2], [2, 3]), ([2, 4], [2, 4]), ([5, 2], [5]), ([6], [6]), ([7, 6, 6], [6, 7]), ([8, 6], [6, 8]), ([6, 9], [6, 9]), ([10, 8], [10]), ([11], [11]), ([12, 11, 11], [11, 12]), ([11], [11]), ([14, 13, 11], [11, 14]), ([13, 15, 11], [11, 13, 15]), ([11, 16], [11, 16])])
def timesynclaw18_TopoRenumbers.B13 : List Nat := [0, 1, 3, 7, 15, 31, 63, 127, 255, 511, 1023, 2047, 4095, 8191, 4095, 32767, 65535, 131071]
theorem timesynclaw18_TopoRenumbers.tab13 : rtab .any (opsOf Try.f6 13) = timesynclaw18_TopoRenumbers.T13 := by kernel_rfl
theorem timesynclaw18_TopoRenumbers.bits13 : waitsOk timesynclaw18_TopoRenumbers.T13.2 timesynclaw18_TopoRenumbers.B13 = true := by kernel_rfl
def timesynclaw18_TopoRenumbers.T21 : Bool × List (List Nat × List Nat) := (true, [([], []), ([], []), ([], []), ([1, 2], [1, 2]), ([0, 3], [0, 3]), ([4], [4]), ([], []), ([], []), ([6, 7, 3], [6, 7]), ([5, 8], [5, 8]), ([9], [9]), ([], []), ([10, 11], [10, 11])])
def timesynclaw18_TopoRenumbers.B21 : List Nat := [0, 0, 0, 6, 15, 31, 0, 0, 206, 511, 1023, 0, 4095]
theorem timesynclaw18_TopoRenumbers.tab21 : rtab .any (opsOf Try.f6 21) = timesynclaw18_TopoRenumbers.T21 := by kernel_rfl
theorem timesynclaw18_TopoRenumbers.bits21 : waitsOk timesynclaw18_TopoRenumbers.T21.2 timesynclaw18_TopoRenumbers.B21 = true := by kernel_rfl
set_option maxHeartbeats 8000000 in
set_option maxRecDepth 100000 in
theorem timesynclaw18_TopoRenumbers.calls (k : Nat) (a0_0 : Int) (A0_1 : Option Addr) (c0_1 : Nat) (l0_1 : List (S37)) (a1 : Int) (r : Bool) (w : World) (hr0_1 : Kd.C k37 w A0_1 l0_1.length l0_1) (hc0_1 : l0_1.length ≤ c0_1) (h : timesynclaw18_TopoRenumbers.f k a0_0 l0_1 a1 = some r) :
  Calls Try.prog 6 #[.agg #[.int .i64 a0_0, .slice A0_1 l0_1.length c0_1], .int .u8 a1] w fun e w' => e = .returned (.bool r) ∧ Below w.heap.size w w' := by
 have hu24 := Try.underlying24
 have hu37 := Try.underlying37
 have HR0_1 := Aside0.mk hr0_1
 have HC0_1 := Aside0.mk hc0_1
 clear hr0_1 hc0_1
 have HB := Aside0.mk (Below.refl w.heap.size w)
 have H : ((timesynclaw18_long.f a0_0 l0_1).bind fun t359 => (if t359 = true then (timesynclaw18_TopoRenumbers.j0 k true a0_0 l0_1 a1) else ((topo_Check.f k a0_0 l0_1).bind fun t360 => (timesynclaw18_TopoRenumbers.j0 k (t360 != 0) a0_0 l0_1 a1)))) = some r := h
 clear h
 have HC3 := Aside0.mk H
 clear H
 go_enter Try.func6, Try.ntmps6
 go_upto_region 1 with (first | ((with_reducible refine gate_dst (N := 2) rfl ?_); refine box_event ?hg (N := 2) ?hd (cs := #[.int .i64 a0_0, .slice A0_1 l0_1.length c0_1]) (t := 24) ?hr ?_; (case hd => rfl); (case hg => rfl); (case hr => first | (go_simp; done) | (go_simp; rfl)); intro gb357 hg w4 hbox hb; have n0_ := Aside0.mk (below_step (by repeat (first | (with_reducible first | exact HB.out | apply below_alloc | apply pw_below_drewN | apply below_drew1) | exact HB.out)) hb); have n1_ := Aside0.mk (hbox); have n2_ := Aside0.mk ((by rw [hg]; exact (below_size (by repeat (first | (with_reducible first | exact HB.out | apply below_alloc | apply pw_below_drewN | apply below_drew1) | exact HB.out))) : w.heap.size ≤ gb357)); have n3_ := Aside0.mk ((by rw [hg]; exact (below_size (by repeat (first | (with_reducible first | exact HB.out | apply below_alloc | apply pw_below_drewN | apply below_drew1) | exact HB.out))) : w.heap.size ≤ gb357)); clear HB; have HB := n0_; have BK357 := n1_; have GW357 := n2_; have GE357 := n3_; clear n0_ n1_ n2_ n3_; clear hb hbox hg) | ((with_reducible refine gate_dst (N := 3) rfl ?_); refine box_event ?hg (N := 3) ?hd (cs := #[.int .u8 a1]) (t := 5) ?hr ?_; (case hd => rfl); (case hg => rfl); (case hr => first | (go_simp; done) | (go_simp; rfl)); intro gb358 hg w5 hbox hb; have n0_ := Aside0.mk (blk_below (g := gb357) (o := .cells #[.int .i64 a0_0, .slice A0_1 l0_1.length c0_1] 24 (0, 0)) (by (with_reducible repeat (first | refine blk_drewN ?_ _ | refine blk_drew ?_ | refine blk_alloc ?_ _)); exact BK357.out) hb); have n1_ := Aside0.mk (below_step (by repeat (first | (with_reducible first | exact HB.out | apply below_alloc | apply pw_below_drewN | apply below_drew1 | refine below_set ?_ GE357.out) | exact HB.out)) hb); have n2_ := Aside0.mk (hbox); have n3_ := Aside0.mk ((by rw [hg]; exact (below_size (by repeat (first | (with_reducible first | exact HB.out | apply below_alloc | apply pw_below_drewN | apply below_drew1 | refine below_set ?_ GE357.out) | exact HB.out))) : w.heap.size ≤ gb358)); have n4_ := Aside0.mk ((by rw [hg]; exact (below_size (by repeat (first | (with_reducible first | exact HB.out | apply below_alloc | apply pw_below_drewN | apply below_drew1 | refine below_set ?_ GE357.out) | exact HB.out))) : w.heap.size ≤ gb358)); have n5_ := Aside0.mk ((by rw [hg]; exact Nat.ne_of_lt (blk_lt (g := gb357) (o := .cells #[.int .i64 a0_0, .slice A0_1 l0_1.length c0_1] 24 (0, 0)) (by (with_reducible repeat (first | refine blk_drewN ?_ _ | refine blk_drew ?_ | refine blk_alloc ?_ _)); exact BK357.out)) : gb357 ≠ gb358)); have n6_ := Aside0.mk ((by rw [hg]; exact Nat.ne_of_gt (blk_lt (g := gb357) (o := .cells #[.int .i64 a0_0, .slice A0_1 l0_1.length c0_1] 24 (0, 0)) (by (with_reducible repeat (first | refine blk_drewN ?_ _ | refine blk_drew ?_ | refine blk_alloc ?_ _)); exact BK357.out)) : gb358 ≠ gb357)); clear BK357; clear HB; have BK357 := n0_; have HB := n1_; have BK358 := n2_; have GW358 := n3_; have GE358 := n4_; have NB357_358 := n5_; have NB358_357 := n6_; clear n0_ n1_ n2_ n3_ n4_ n5_ n6_; clear hb hbox hg))
 (try simp only [Act.put, List.setIfInBounds_toArray, List.set_cons_zero, List.set_cons_succ])
 go_cut [22] (fun v22 wc => ∃ (kq : Nat) (x22_2 : Bool), v22 = .bool x22_2 ∧ Aside0 (timesynclaw18_TopoRenumbers.j0 kq x22_2 a0_0 l0_1 a1 = some r) ∧ Aside0 (kq ≤ k) ∧ Aside0 (wc.heap[gb357]? = some (.cells #[.int .i64 a0_0, (.slice A0_1 l0_1.length c0_1)] 24 (0, 0))) ∧ Aside0 (wc.heap[gb358]? = some (.cells #[.int .u8 a1] 5 (0, 0))) ∧ Aside0 (Below w.heap.size w wc))
 case first =>
  have H := HC3.out
  clear HC3
  replace H := Option.bind_eq_some_iff.mp H
  obtain ⟨t359, A60, H⟩ := H
  replace H : (if t359 = true then (timesynclaw18_TopoRenumbers.j0 k true a0_0 l0_1 a1) else ((topo_Check.f k a0_0 l0_1).bind fun t360 => (timesynclaw18_TopoRenumbers.j0 k (t360 != 0) a0_0 l0_1 a1))) = some r := H
  have A6 := Aside0.mk A60
  clear A60
  by_cases c7 : t359 = true
  ·subst c7
   have H1 : (timesynclaw18_TopoRenumbers.j0 k true a0_0 l0_1 a1) = some r := by rw [if_pos rfl] at H; exact H
   clear H
   have H := H1
   clear H1
   have H' := Aside0.mk H
   clear H
   have hnb8 := NB357_358.out
   have hnc8 := NB358_357.out
   have hcz9_0 : w5.cell? ⟨gb357, 0, none⟩ = some (.int .i64 a0_0) := (blk_cell BK357.out 0).trans rfl
   have hcz9_1 : w5.cell? ⟨gb357, 1, none⟩ = some (.slice A0_1 l0_1.length c0_1) := (blk_cell BK357.out 1).trans rfl
   have hfz9_0 := blk_frozen BK357.out 0
   have hfz9_1 := blk_frozen BK357.out 1
   go_wp2_with (first | ((with_reducible refine gate_callee (f := 15) rfl ?_); refine goesL_ (some 17) rfl rfl Try.func15 (by kernel_rfl) rfl #[.agg #[.int .i64 a0_0, .slice A0_1 l0_1.length c0_1]] rfl (by (try simp only [List.map_toArray, List.map_cons, List.map_nil]); first | done | rfl | (simp only [List.length_drop, List.length_take]; rfl)) ?_; (with_reducible refine (timesynclaw18_long.calls a0_0 _ _ l0_1 true _ ?side1 ?side2 A6.out).mono ?_); (case side1 => repeat (first | exact (Kd.C_below HR0_1.out HB.out) | (with_reducible refine Kd.C_alloc ?_ _) | (with_reducible refine Kd.C_drewN ?_ _) | (with_reducible refine Kd.C_drew ?_))); (case side2 => exact HC0_1.out); rintro e w10 ⟨rfl, hb⟩; refine ⟨_, rfl, ?_⟩; have n0_ := Aside0.mk (blk_below (g := gb357) (o := .cells #[.int .i64 a0_0, .slice A0_1 l0_1.length c0_1] 24 (0, 0)) (by (with_reducible repeat (first | refine blk_drewN ?_ _ | refine blk_drew ?_ | refine blk_alloc ?_ _)); exact BK357.out) hb); have n1_ := Aside0.mk (blk_below (g := gb358) (o := .cells #[.int .u8 a1] 5 (0, 0)) (by (with_reducible repeat (first | refine blk_drewN ?_ _ | refine blk_drew ?_ | refine blk_alloc ?_ _)); exact BK358.out) hb); have n2_ := Aside0.mk (below_step (by repeat (first | (with_reducible first | exact HB.out | apply below_alloc | apply pw_below_drewN | apply below_drew1 | refine below_set ?_ GE357.out | refine below_set ?_ GE358.out) | exact HB.out)) hb); clear BK357; clear BK358; clear HB; have BK357 := n0_; have BK358 := n1_; have HB := n2_; clear n0_ n1_ n2_; (try clear hb); (try clear hb2); (try clear hk); (try clear hi)))
   go_meet
   case rel => exact ⟨_, (true), (by first | rfl | (simp; done) | (simp [*]; done)), H', ⟨by first | omega | exact Nat.le_refl _⟩, ⟨by (with_reducible repeat (first | refine blk_drewN ?_ _ | refine blk_drew ?_ | refine blk_alloc ?_ _)); exact BK357.out⟩, ⟨by (with_reducible repeat (first | refine blk_drewN ?_ _ | refine blk_drew ?_ | refine blk_alloc ?_ _)); exact BK358.out⟩, ⟨by repeat (first | (with_reducible first | exact HB.out | apply below_alloc | apply pw_below_drewN | apply below_drew1 | refine below_set ?_ GE357.out | refine below_set ?_ GE358.out) | exact HB.out)⟩⟩
  ·replace c7 := Bool.eq_false_iff.mpr c7
   subst c7
   have H1 : ((topo_Check.f k a0_0 l0_1).bind fun t360 => (timesynclaw18_TopoRenumbers.j0 k (t360 != 0) a0_0 l0_1 a1)) = some r := by rw [if_neg (show ¬ (false = true) by decide)] at H; exact H
   clear H
   have H := H1
   clear H1
   replace H := Option.bind_eq_some_iff.mp H
   obtain ⟨t360, A110, H⟩ := H
   replace H : (timesynclaw18_TopoRenumbers.j0 k (t360 != 0) a0_0 l0_1 a1) = some r := H
   have A11 := Aside0.mk A110
   clear A110
   have H' := Aside0.mk H
   clear H
   have hnb12 := NB357_358.out
   have hnc12 := NB358_357.out
   have hcz13_0 : w5.cell? ⟨gb357, 0, none⟩ = some (.int .i64 a0_0) := (blk_cell BK357.out 0).trans rfl
   have hcz13_1 : w5.cell? ⟨gb357, 1, none⟩ = some (.slice A0_1 l0_1.length c0_1) := (blk_cell BK357.out 1).trans rfl
   have hfz13_0 := blk_frozen BK357.out 0
   have hfz13_1 := blk_frozen BK357.out 1
   go_wp2_with (first | ((with_reducible refine gate_callee (f := 15) rfl ?_); refine goesL_ (some 17) rfl rfl Try.func15 (by kernel_rfl) rfl #[.agg #[.int .i64 a0_0, .slice A0_1 l0_1.length c0_1]] rfl (by (try simp only [List.map_toArray, List.map_cons, List.map_nil]); first | done | rfl | (simp only [List.length_drop, List.length_take]; rfl)) ?_; (with_reducible refine (timesynclaw18_long.calls a0_0 _ _ l0_1 false _ ?side1 ?side2 A6.out).mono ?_); (case side1 => repeat (first | exact (Kd.C_below HR0_1.out HB.out) | (with_reducible refine Kd.C_alloc ?_ _) | (with_reducible refine Kd.C_drewN ?_ _) | (with_reducible refine Kd.C_drew ?_))); (case side2 => exact HC0_1.out); rintro e w14 ⟨rfl, hb⟩; refine ⟨_, rfl, ?_⟩; have n0_ := Aside0.mk (blk_below (g := gb357) (o := .cells #[.int .i64 a0_0, .slice A0_1 l0_1.length c0_1] 24 (0, 0)) (by (with_reducible repeat (first | refine blk_drewN ?_ _ | refine blk_drew ?_ | refine blk_alloc ?_ _)); exact BK357.out) hb); have n1_ := Aside0.mk (blk_below (g := gb358) (o := .cells #[.int .u8 a1] 5 (0, 0)) (by (with_reducible repeat (first | refine blk_drewN ?_ _ | refine blk_drew ?_ | refine blk_alloc ?_ _)); exact BK358.out) hb); have n2_ := Aside0.mk (below_step (by repeat (first | (with_reducible first | exact HB.out | apply below_alloc | apply pw_below_drewN | apply below_drew1 | refine below_set ?_ GE357.out | refine below_set ?_ GE358.out) | exact HB.out)) hb); clear BK357; clear BK358; clear HB; have BK357 := n0_; have BK358 := n1_; have HB := n2_; clear n0_ n1_ n2_; (try clear hb); (try clear hb2); (try clear hk); (try clear hi); have hcz15_0 : w14.cell? ⟨gb357, 0, none⟩ = some (.int .i64 a0_0) := (blk_cell BK357.out 0).trans rfl; have hcz15_1 : w14.cell? ⟨gb357, 1, none⟩ = some (.slice A0_1 l0_1.length c0_1) := (blk_cell BK357.out 1).trans rfl; have hfz15_0 := blk_frozen BK357.out 0; have hfz15_1 := blk_frozen BK357.out 1) | (go_at_call 17; (with_reducible refine (topo_Check.calls k a0_0 _ _ l0_1 t360 _ ?side1 ?side2 A11.out).mono ?_); (case side1 => repeat (first | exact (Kd.C_below HR0_1.out HB.out) | (with_reducible refine Kd.C_alloc ?_ _) | (with_reducible refine Kd.C_drewN ?_ _) | (with_reducible refine Kd.C_drew ?_))); (case side2 => exact HC0_1.out); rintro e w16 ⟨rfl, hb⟩; have n0_ := Aside0.mk (blk_below (g := gb357) (o := .cells #[.int .i64 a0_0, .slice A0_1 l0_1.length c0_1] 24 (0, 0)) (by (with_reducible repeat (first | refine blk_drewN ?_ _ | refine blk_drew ?_ | refine blk_alloc ?_ _)); exact BK357.out) hb); have n1_ := Aside0.mk (blk_below (g := gb358) (o := .cells #[.int .u8 a1] 5 (0, 0)) (by (with_reducible repeat (first | refine blk_drewN ?_ _ | refine blk_drew ?_ | refine blk_alloc ?_ _)); exact BK358.out) hb); have n2_ := Aside0.mk (below_step (by repeat (first | (with_reducible first | exact HB.out | apply below_alloc | apply pw_below_drewN | apply below_drew1 | refine below_set ?_ GE357.out | refine below_set ?_ GE358.out) | exact HB.out)) hb); clear BK357; clear BK358; clear HB; have BK357 := n0_; have BK358 := n1_; have HB := n2_; clear n0_ n1_ n2_; (try clear hb); (try clear hb2); (try clear hk); (try clear hi)))
   go_meet
   case rel => exact ⟨_, ((t360 != 0)), (by first | rfl | (simp; done) | (simp [*]; done)), H', ⟨by first | omega | exact Nat.le_refl _⟩, ⟨by (with_reducible repeat (first | refine blk_drewN ?_ _ | refine blk_drew ?_ | refine blk_alloc ?_ _)); exact BK357.out⟩, ⟨by (with_reducible repeat (first | refine blk_drewN ?_ _ | refine blk_drew ?_ | refine blk_alloc ?_ _)); exact BK358.out⟩, ⟨by repeat (first | (with_reducible first | exact HB.out | apply below_alloc | apply pw_below_drewN | apply below_drew1 | refine below_set ?_ GE357.out | refine below_set ?_ GE358.out) | exact HB.out)⟩⟩
 case rest =>
  clear HC3
  try clear c1
  try clear p2
  try clear c6
  try clear c7
  try clear c8
  try clear c12
  try clear c15
  try clear hcz13_0
  try clear hcz13_1
  try clear hcz15_0
  try clear hcz15_1
  try clear hcz9_0
  try clear hcz9_1
  try clear hfz13_0
  try clear hfz13_1
  try clear hfz15_0
  try clear hfz15_1
  try clear hfz9_0
  try clear hfz9_1
  obtain ⟨kq, x22_2, rfl, HA, HJ2, BK357, BK358, HB⟩ := hcut
  cases kq with
  | zero => exact absurd HA.out (by simp [timesynclaw18_TopoRenumbers.j0])
  | succ kj2 =>
   have H := HA.out
   clear HA
   simp only [timesynclaw18_TopoRenumbers.j0] at H
   by_cases c17 : x22_2 = true
   ·subst c17
    have H1 : ((timesynclaw18_awake.f kj2).bind fun t361 => (some t361)) = some r := by rw [if_pos rfl] at H; exact H
    clear H
    have H := H1
    clear H1
    replace H := Option.bind_eq_some_iff.mp H
    obtain ⟨t361, A180, H⟩ := H
    replace H : (some t361) = some r := H
    have A18 := Aside0.mk A180
    clear A180
    obtain rfl := Option.some.inj H
    go_wp2_with (first | ((with_reducible refine gate_callee (f := 16) rfl ?_); refine goesL_ (some 23) rfl rfl Try.func16 (by kernel_rfl) rfl #[] rfl (by (try simp only [List.map_toArray, List.map_cons, List.map_nil]); first | done | rfl | (simp only [List.length_drop, List.length_take]; rfl)) ?_; (with_reducible refine (timesynclaw18_awake.calls kj2  t361 _ A18.out).mono ?_); rintro e w19 ⟨rfl, hb⟩; refine ⟨_, rfl, ?_⟩; have n0_ := Aside0.mk (blk_below (g := gb357) (o := .cells #[.int .i64 a0_0, .slice A0_1 l0_1.length c0_1] 24 (0, 0)) (by (with_reducible repeat (first | refine blk_drewN ?_ _ | refine blk_drew ?_ | refine blk_alloc ?_ _)); exact BK357.out) hb); have n1_ := Aside0.mk (blk_below (g := gb358) (o := .cells #[.int .u8 a1] 5 (0, 0)) (by (with_reducible repeat (first | refine blk_drewN ?_ _ | refine blk_drew ?_ | refine blk_alloc ?_ _)); exact BK358.out) hb); have n2_ := Aside0.mk (below_step (by repeat (first | (with_reducible first | exact HB.out | apply below_alloc | apply pw_below_drewN | apply below_drew1 | refine below_set ?_ GE357.out | refine below_set ?_ GE358.out) | exact HB.out)) hb); clear BK357; clear BK358; clear HB; have BK357 := n0_; have BK358 := n1_; have HB := n2_; clear n0_ n1_ n2_; (try clear hb); (try clear hb2); (try clear hk); (try clear hi)))
    go_ret
    exact ⟨by first | rfl | (simp [errW_none, errW_some] <;> rfl) | (simp [*, errW_none, errW_some] <;> rfl), by repeat (first | (with_reducible first | exact HB.out | apply below_alloc | apply pw_below_drewN | apply below_drew1 | refine below_set ?_ GE357.out | refine below_set ?_ GE358.out) | exact HB.out)⟩
   ·replace c17 := Bool.eq_false_iff.mpr c17
    subst c17
    have H1 : (timesynclaw18_TopoRenumbers.l0 kj2 l0_1 (l0_1.length : Int) 0 a0_0 l0_1 a1 a0_0 ([] : List (S37))) = some r := by rw [if_neg (show ¬ (false = true) by decide)] at H; exact H
    clear H
    have H := H1
    clear H1
    have H' := Aside0.mk H
    clear H
    have hnb20 := NB357_358.out
    have hnc20 := NB358_357.out
    have hcz21_0 : wc.cell? ⟨gb357, 0, none⟩ = some (.int .i64 a0_0) := (blk_cell BK357.out 0).trans rfl
    have hcz21_1 : wc.cell? ⟨gb357, 1, none⟩ = some (.slice A0_1 l0_1.length c0_1) := (blk_cell BK357.out 1).trans rfl
    have hfz21_0 := blk_frozen BK357.out 0
    have hfz21_1 := blk_frozen BK357.out 1
    go_wp2_with (first | ((with_reducible refine gate_dst (N := 6) rfl ?_); refine box_event ?hg (N := 6) ?hd (cs := #[.int .i64 0, .slice none 0 0]) (t := 24) ?hr ?_; (case hd => rfl); (case hg => rfl); (case hr => first | (go_simp; done) | (go_simp; rfl)); intro gb362 hg w22 hbox hb; have n0_ := Aside0.mk (blk_below (g := gb357) (o := .cells #[.int .i64 a0_0, .slice A0_1 l0_1.length c0_1] 24 (0, 0)) (by (with_reducible repeat (first | refine blk_drewN ?_ _ | refine blk_drew ?_ | refine blk_alloc ?_ _)); exact BK357.out) hb); have n1_ := Aside0.mk (blk_below (g := gb358) (o := .cells #[.int .u8 a1] 5 (0, 0)) (by (with_reducible repeat (first | refine blk_drewN ?_ _ | refine blk_drew ?_ | refine blk_alloc ?_ _)); exact BK358.out) hb); have n2_ := Aside0.mk (below_step (by repeat (first | (with_reducible first | exact HB.out | apply below_alloc | apply pw_below_drewN | apply below_drew1 | refine below_set ?_ GE357.out | refine below_set ?_ GE358.out) | exact HB.out)) hb); have n3_ := Aside0.mk (hbox); have n4_ := Aside0.mk ((by rw [hg]; exact (below_size (by repeat (first | (with_reducible first | exact HB.out | apply below_alloc | apply pw_below_drewN | apply below_drew1 | refine below_set ?_ GE357.out | refine below_set ?_ GE358.out) | exact HB.out))) : w.heap.size ≤ gb362)); have n5_ := Aside0.mk ((by rw [hg]; exact (below_size (by repeat (first | (with_reducible first | exact HB.out | apply below_alloc | apply pw_below_drewN | apply below_drew1 | refine below_set ?_ GE357.out | refine below_set ?_ GE358.out) | exact HB.out))) : w.heap.size ≤ gb362)); have n6_ := Aside0.mk ((by rw [hg]; exact Nat.ne_of_lt (blk_lt (g := gb357) (o := .cells #[.int .i64 a0_0, .slice A0_1 l0_1.length c0_1] 24 (0, 0)) (by (with_reducible repeat (first | refine blk_drewN ?_ _ | refine blk_drew ?_ | refine blk_alloc ?_ _)); exact BK357.out)) : gb357 ≠ gb362)); have n7_ := Aside0.mk ((by rw [hg]; exact Nat.ne_of_gt (blk_lt (g := gb357) (o := .cells #[.int .i64 a0_0, .slice A0_1 l0_1.length c0_1] 24 (0, 0)) (by (with_reducible repeat (first | refine blk_drewN ?_ _ | refine blk_drew ?_ | refine blk_alloc ?_ _)); exact BK357.out)) : gb362 ≠ gb357)); have n8_ := Aside0.mk ((by rw [hg]; exact Nat.ne_of_lt (blk_lt (g := gb358) (o := .cells #[.int .u8 a1] 5 (0, 0)) (by (with_reducible repeat (first | refine blk_drewN ?_ _ | refine blk_drew ?_ | refine blk_alloc ?_ _)); exact BK358.out)) : gb358 ≠ gb362)); have n9_ := Aside0.mk ((by rw [hg]; exact Nat.ne_of_gt (blk_lt (g := gb358) (o := .cells #[.int .u8 a1] 5 (0, 0)) (by (with_reducible repeat (first | refine blk_drewN ?_ _ | refine blk_drew ?_ | refine blk_alloc ?_ _)); exact BK358.out)) : gb362 ≠ gb358)); clear BK357; clear BK358; clear HB; have BK357 := n0_; have BK358 := n1_; have HB := n2_; have BK362 := n3_; have GW362 := n4_; have GE362 := n5_; have NB357_362 := n6_; have NB362_357 := n7_; have NB358_362 := n8_; have NB362_358 := n9_; clear n0_ n1_ n2_ n3_ n4_ n5_ n6_ n7_ n8_ n9_; clear hb hbox hg; have hnb23 := NB362_357.out; have hnc23 := NB357_362.out; have hnb24 := NB362_358.out; have hnc24 := NB358_362.out; have hcz25_0 : w22.cell? ⟨gb362, 0, none⟩ = some (.int .i64 0) := (blk_cell BK362.out 0).trans rfl; have hcz25_1 : w22.cell? ⟨gb362, 1, none⟩ = some (.slice none 0 0) := (blk_cell BK362.out 1).trans rfl; have hfz25_0 := blk_frozen BK362.out 0; have hfz25_1 := blk_frozen BK362.out 1; have hcz26_0 : w22.cell? ⟨gb357, 0, none⟩ = some (.int .i64 a0_0) := (blk_cell BK357.out 0).trans rfl; have hcz26_1 : w22.cell? ⟨gb357, 1, none⟩ = some (.slice A0_1 l0_1.length c0_1) := (blk_cell BK357.out 1).trans rfl; have hfz26_0 := blk_frozen BK357.out 0; have hfz26_1 := blk_frozen BK357.out 1))
    go_loopg [31] kj2 (fun kq v31 w' => ∃ (x31_2 : Int) (x363001_2 : List (S37)) (u363001 : Value), v31 = .int .i64 x31_2 ∧ Aside0 (timesynclaw18_TopoRenumbers.l0 kq l0_1 (l0_1.length : Int) x31_2 a0_0 l0_1 a1 a0_0 x363001_2 = some r) ∧ Aside0 (kq ≤ kj2) ∧ Aside0 (Kd.R k37 37 w' w.heap.size (fun _ => True) u363001 x363001_2) ∧ Aside0 (w'.heap[gb357]? = some (.cells #[.int .i64 a0_0, (.slice A0_1 l0_1.length c0_1)] 24 (0, 0))) ∧ Aside0 (w'.heap[gb358]? = some (.cells #[.int .u8 a1] 5 (0, 0))) ∧ Aside0 (w'.heap[gb362]? = some (.cells #[.int .i64 a0_0, u363001] 24 (0, 0))) ∧ Aside0 (Below w.heap.size w w'))
    case atStart => exact ⟨(0), (([] : List (S37))), (.slice none 0 0), (by first | rfl | (simp; done) | (simp [*]; done)), H', ⟨Nat.le_refl _⟩, ⟨by first | exact Kd.R_nil _ _ _ _ _ | exact Kd.N_nil _ _ _ _ _ | exact Kd.V_nil _ _ _ _ _ | exact Kd.Q_nil _ _ _ _ _ | exact Kd.S_nil _ _ _ _ _⟩, ⟨by (with_reducible repeat (first | refine blk_drewN ?_ _ | refine blk_drew ?_ | refine blk_alloc ?_ _)); refine blk_far ?_ NB357_362.out _; (with_reducible repeat (first | refine blk_drewN ?_ _ | refine blk_drew ?_ | refine blk_alloc ?_ _)); refine blk_far ?_ NB357_362.out _; (with_reducible repeat (first | refine blk_drewN ?_ _ | refine blk_drew ?_ | refine blk_alloc ?_ _)); exact BK357.out⟩, ⟨by (with_reducible repeat (first | refine blk_drewN ?_ _ | refine blk_drew ?_ | refine blk_alloc ?_ _)); refine blk_far ?_ NB358_362.out _; (with_reducible repeat (first | refine blk_drewN ?_ _ | refine blk_drew ?_ | refine blk_alloc ?_ _)); refine blk_far ?_ NB358_362.out _; (with_reducible repeat (first | refine blk_drewN ?_ _ | refine blk_drew ?_ | refine blk_alloc ?_ _)); exact BK358.out⟩, ⟨by (with_reducible repeat (first | refine blk_drewN ?_ _ | refine blk_drew ?_ | refine blk_alloc ?_ _)); refine blk_put (cs := #[.int .i64 a0_0, .slice none 0 0]) ?_ 1 _ rfl; (with_reducible repeat (first | refine blk_drewN ?_ _ | refine blk_drew ?_ | refine blk_alloc ?_ _)); refine blk_put (cs := #[.int .i64 0, .slice none 0 0]) ?_ 0 _ rfl; (with_reducible repeat (first | refine blk_drewN ?_ _ | refine blk_drew ?_ | refine blk_alloc ?_ _)); exact BK362.out⟩, ⟨by repeat (first | (with_reducible first | exact HB.out | apply below_alloc | apply pw_below_drewN | apply below_drew1 | refine below_set ?_ GE357.out | refine below_set ?_ GE358.out | refine below_set ?_ GE362.out) | exact HB.out)⟩⟩
    case round =>
     clear H'
     try clear c1
     try clear c2
     try clear p2
     try clear c6
     try clear c7
     try clear c8
     try clear c12
     try clear c15
     try clear c16
     try clear c17
     try clear c20
     try clear c23
     try clear c24
     try clear hcz13_0
     try clear hcz13_1
     try clear hcz15_0
     try clear hcz15_1
     try clear hcz21_0
     try clear hcz21_1
     try clear hcz25_0
     try clear hcz25_1
     try clear hcz26_0
     try clear hcz26_1
     try clear hcz9_0
     try clear hcz9_1
     try clear hfz13_0
     try clear hfz13_1
     try clear hfz15_0
     try clear hfz15_1
     try clear hfz21_0
     try clear hfz21_1
     try clear hfz25_0
     try clear hfz25_1
     try clear hfz26_0
     try clear hfz26_1
     try clear hfz9_0
     try clear hfz9_1
     try clear p2
     obtain ⟨x31_2, x363001_2, u363001, rfl, HA, HK2, HO_363001, BK357, BK358, BK362, HB⟩ := hrel
     cases gk with
     | zero => exact absurd HA.out (by simp [timesynclaw18_TopoRenumbers.l0])
     | succ k2 =>
      have H := HA.out
      clear HA
      simp only [timesynclaw18_TopoRenumbers.l0] at H
      by_cases c27 : x31_2 < (l0_1.length : Int)
      ·rw [if_pos c27] at H
       have c27b0 : decide (x31_2 < (l0_1.length : Int)) = true := decide_eq_true c27
       clear c27
       by_cases c28 : 0 ≤ x31_2
       ·rw [if_pos c28] at H
        have c28b0 : decide (0 ≤ x31_2) = true := decide_eq_true c28
        clear c28
        by_cases c29 : x31_2 < (l0_1.length : Int)
        ·rw [if_pos c29] at H
         have c29b0 : decide (x31_2 < (l0_1.length : Int)) = true := decide_eq_true c29
         clear c29
         replace H := Option.bind_eq_some_iff.mp H
         obtain ⟨t365, A300, H⟩ := H
         replace H : ((timesynclaw18_TopoRenumbers_1.f ((rd_T37 l0_1 x31_2).f0) a1 a0_0 l0_1).bind fun t366 => (if x363001_2.length < 4398046511104 then (timesynclaw18_TopoRenumbers.l0 k2 l0_1 (l0_1.length : Int) (wrap64 (x31_2 + 1)) a0_0 l0_1 a1 a0_0 (x363001_2 ++ [(⟨t365, (rd_T37 l0_1 x31_2).f3, t366, (rd_T37 l0_1 x31_2).f1⟩ : S37)])) else (none))) = some r := H
         have A30 := Aside0.mk A300
         clear A300
         replace H := Option.bind_eq_some_iff.mp H
         obtain ⟨t366, A310, H⟩ := H
         replace H : (if x363001_2.length < 4398046511104 then (timesynclaw18_TopoRenumbers.l0 k2 l0_1 (l0_1.length : Int) (wrap64 (x31_2 + 1)) a0_0 l0_1 a1 a0_0 (x363001_2 ++ [(⟨t365, (rd_T37 l0_1 x31_2).f3, t366, (rd_T37 l0_1 x31_2).f1⟩ : S37)])) else (none)) = some r := H
         have A31 := Aside0.mk A310
         clear A310
         by_cases c32 : x363001_2.length < 4398046511104
         ·rw [if_pos c32] at H
          have LMc32 := Aside0.mk c32
          clear c32
          obtain ⟨y367, hy367⟩ : ∃ y_ : List (S37), y_ = (x363001_2 ++ [(⟨t365, (rd_T37 l0_1 x31_2).f3, t366, (rd_T37 l0_1 x31_2).f1⟩ : S37)]) := ⟨_, rfl⟩
          replace H : (timesynclaw18_TopoRenumbers.l0 k2 l0_1 (l0_1.length : Int) (wrap64 (x31_2 + 1)) a0_0 l0_1 a1 a0_0 y367) = some r := by first | (rw [hy367]; with_reducible exact H) | (have H2_ := (Option.bind_some _ _).symm.trans H; rw [hy367]; with_reducible exact H2_) | (have H2_ := (Option.bind_some _ _).symm.trans H; with_reducible exact H2_) | with_reducible exact H | (rw [hy367]; exact H) | exact H
          have Ny367 := Aside0.mk hy367
          clear hy367
          have H' := Aside0.mk H
          clear H
          have p363 : 0 ≤ (x31_2 : Int) := of_decide_eq_true (by first | (with_reducible assumption) | assumption)
          have q363 : x31_2 < (l0_1.length : Int) := of_decide_eq_true (by first | (with_reducible assumption) | assumption)
          obtain ⟨ad363, e363, hx363_0, hx363_1, hx363_2, hx363_3⟩ := at_T37 HR0_1.out x31_2 p363 q363
          cases e363
          try replace hx363_0 := (HB.out.cell (World.block_lt_of_cell? w _ hx363_0)).trans hx363_0
          try replace hx363_1 := (HB.out.cell (World.block_lt_of_cell? w _ hx363_1)).trans hx363_1
          try replace hx363_2 := (HB.out.cell (World.block_lt_of_cell? w _ hx363_2)).trans hx363_2
          try replace hx363_3 := (HB.out.cell (World.block_lt_of_cell? w _ hx363_3)).trans hx363_3
          replace p363 := eq_true p363
          replace q363 := eq_true q363
          try go_wp2_with (first | ((with_reducible refine gate_dst (N := 8) rfl ?_); refine box_event ?hg (N := 8) ?hd (cs := #[.int .i64 0, .int .i64 0, .int .i64 0, .int .i64 0]) (t := 37) ?hr ?_; (case hd => rfl); (case hg => rfl); (case hr => first | (go_simp; done) | (go_simp; rfl)); intro gb364 hg w33 hbox hb; have n0_ := Aside0.mk (Kd.R_below (Kd.R_elderB (by (with_reducible repeat (first | apply Kd.R_alloc | apply Kd.R_drewN | apply Kd.R_drew)); exact HO_363001.out) gb364 (Nat.le_of_eq hg.symm)) hb); have n1_ := Aside0.mk (blk_below (g := gb357) (o := .cells #[.int .i64 a0_0, .slice (some ad363) l0_1.length c0_1] 24 (0, 0)) (by (with_reducible repeat (first | refine blk_drewN ?_ _ | refine blk_drew ?_ | refine blk_alloc ?_ _)); exact BK357.out) hb); have n2_ := Aside0.mk (blk_below (g := gb358) (o := .cells #[.int .u8 a1] 5 (0, 0)) (by (with_reducible repeat (first | refine blk_drewN ?_ _ | refine blk_drew ?_ | refine blk_alloc ?_ _)); exact BK358.out) hb); have n3_ := Aside0.mk (blk_below (g := gb362) (o := .cells #[.int .i64 a0_0, u363001] 24 (0, 0)) (by (with_reducible repeat (first | refine blk_drewN ?_ _ | refine blk_drew ?_ | refine blk_alloc ?_ _)); exact BK362.out) hb); have n4_ := Aside0.mk (below_step (by repeat (first | (with_reducible first | exact HB.out | apply below_alloc | apply pw_below_drewN | apply below_drew1 | refine below_set ?_ GE357.out | refine below_set ?_ GE358.out | refine below_set ?_ GE362.out) | exact HB.out)) hb); have n5_ := Aside0.mk (hbox); have n6_ := Aside0.mk ((by rw [hg]; exact (below_size (by repeat (first | (with_reducible first | exact HB.out | apply below_alloc | apply pw_below_drewN | apply below_drew1 | refine below_set ?_ GE357.out | refine below_set ?_ GE358.out | refine below_set ?_ GE362.out) | exact HB.out))) : w.heap.size ≤ gb364)); have n7_ := Aside0.mk ((by rw [hg]; exact (below_size (by repeat (first | (with_reducible first | exact HB.out | apply below_alloc | apply pw_below_drewN | apply below_drew1 | refine below_set ?_ GE357.out | refine below_set ?_ GE358.out | refine below_set ?_ GE362.out) | exact HB.out))) : w.heap.size ≤ gb364)); have n8_ := Aside0.mk ((by rw [hg]; exact Nat.ne_of_lt (blk_lt (g := gb357) (o := .cells #[.int .i64 a0_0, .slice (some ad363) l0_1.length c0_1] 24 (0, 0)) (by (with_reducible repeat (first | refine blk_drewN ?_ _ | refine blk_drew ?_ | refine blk_alloc ?_ _)); exact BK357.out)) : gb357 ≠ gb364)); have n9_ := Aside0.mk ((by rw [hg]; exact Nat.ne_of_gt (blk_lt (g := gb357) (o := .cells #[.int .i64 a0_0, .slice (some ad363) l0_1.length c0_1] 24 (0, 0)) (by (with_reducible repeat (first | refine blk_drewN ?_ _ | refine blk_drew ?_ | refine blk_alloc ?_ _)); exact BK357.out)) : gb364 ≠ gb357)); have n10_ := Aside0.mk ((by rw [hg]; exact Nat.ne_of_lt (blk_lt (g := gb358) (o := .cells #[.int .u8 a1] 5 (0, 0)) (by (with_reducible repeat (first | refine blk_drewN ?_ _ | refine blk_drew ?_ | refine blk_alloc ?_ _)); exact BK358.out)) : gb358 ≠ gb364)); have n11_ := Aside0.mk ((by rw [hg]; exact Nat.ne_of_gt (blk_lt (g := gb358) (o := .cells #[.int .u8 a1] 5 (0, 0)) (by (with_reducible repeat (first | refine blk_drewN ?_ _ | refine blk_drew ?_ | refine blk_alloc ?_ _)); exact BK358.out)) : gb364 ≠ gb358)); have n12_ := Aside0.mk ((by rw [hg]; exact Nat.ne_of_lt (blk_lt (g := gb362) (o := .cells #[.int .i64 a0_0, u363001] 24 (0, 0)) (by (with_reducible repeat (first | refine blk_drewN ?_ _ | refine blk_drew ?_ | refine blk_alloc ?_ _)); exact BK362.out)) : gb362 ≠ gb364)); have n13_ := Aside0.mk ((by rw [hg]; exact Nat.ne_of_gt (blk_lt (g := gb362) (o := .cells #[.int .i64 a0_0, u363001] 24 (0, 0)) (by (with_reducible repeat (first | refine blk_drewN ?_ _ | refine blk_drew ?_ | refine blk_alloc ?_ _)); exact BK362.out)) : gb364 ≠ gb362)); clear HO_363001; clear BK357; clear BK358; clear BK362; clear HB; have HO_363001 := n0_; have BK357 := n1_; have BK358 := n2_; have BK362 := n3_; have HB := n4_; have BK364 := n5_; have GW364 := n6_; have GE364 := n7_; have NB357_364 := n8_; have NB364_357 := n9_; have NB358_364 := n10_; have NB364_358 := n11_; have NB362_364 := n12_; have NB364_362 := n13_; clear n0_ n1_ n2_ n3_ n4_ n5_ n6_ n7_ n8_ n9_ n10_ n11_ n12_ n13_; clear hb hbox hg; have hnb34 := NB364_357.out; have hnc34 := NB357_364.out; have hnb35 := NB364_358.out; have hnc35 := NB358_364.out; have hnb36 := NB364_362.out; have hnc36 := NB362_364.out; have hcz37_0 : w33.cell? ⟨gb364, 0, none⟩ = some (.int .i64 0) := (blk_cell BK364.out 0).trans rfl; have hcz37_1 : w33.cell? ⟨gb364, 1, none⟩ = some (.int .i64 0) := (blk_cell BK364.out 1).trans rfl; have hcz37_2 : w33.cell? ⟨gb364, 2, none⟩ = some (.int .i64 0) := (blk_cell BK364.out 2).trans rfl; have hcz37_3 : w33.cell? ⟨gb364, 3, none⟩ = some (.int .i64 0) := (blk_cell BK364.out 3).trans rfl; have hfz37_0 := blk_frozen BK364.out 0; have hfz37_1 := blk_frozen BK364.out 1; have hfz37_2 := blk_frozen BK364.out 2; have hfz37_3 := blk_frozen BK364.out 3))
          have n0_ : Aside0 (Kd.R k37 37 ((((w33.setCell ⟨gb364, 0, none⟩ (.int .i64 ((rd_T37 l0_1 x31_2).f0))).setCell ⟨gb364, 1, none⟩ (.int .i64 ((rd_T37 l0_1 x31_2).f1))).setCell ⟨gb364, 2, none⟩ (.int .i64 ((rd_T37 l0_1 x31_2).f2))).setCell ⟨gb364, 3, none⟩ (.int .i64 ((rd_T37 l0_1 x31_2).f3))) w.heap.size (fun k_ => k_ ≠ gb364) u363001 x363001_2) := ⟨by (with_reducible repeat (first | apply Kd.R_alloc | apply Kd.R_drewN | apply Kd.R_drew)); exact Kd.R_mono (Kd.R_far (p := ⟨gb364, 3, none⟩) (Kd.R_far (p := ⟨gb364, 2, none⟩) (Kd.R_far (p := ⟨gb364, 1, none⟩) (Kd.R_far (p := ⟨gb364, 0, none⟩) (Kd.R_mono HO_363001.out (fun k_ hk => (⟨hk, hk.2⟩ : _ ∧ k_ ≠ gb364))) (fun _ hk => hk.2) (.int .i64 ((rd_T37 l0_1 x31_2).f0))) (fun _ hk => hk.2) (.int .i64 ((rd_T37 l0_1 x31_2).f1))) (fun _ hk => hk.2) (.int .i64 ((rd_T37 l0_1 x31_2).f2))) (fun _ hk => hk.2) (.int .i64 ((rd_T37 l0_1 x31_2).f3))) (fun _ hk => hk.1.2)⟩
          have n1_ : Aside0 (((((w33.setCell ⟨gb364, 0, none⟩ (.int .i64 ((rd_T37 l0_1 x31_2).f0))).setCell ⟨gb364, 1, none⟩ (.int .i64 ((rd_T37 l0_1 x31_2).f1))).setCell ⟨gb364, 2, none⟩ (.int .i64 ((rd_T37 l0_1 x31_2).f2))).setCell ⟨gb364, 3, none⟩ (.int .i64 ((rd_T37 l0_1 x31_2).f3))).heap[gb357]? = some (.cells #[.int .i64 a0_0, .slice (some ad363) l0_1.length c0_1] 24 (0, 0))) := ⟨by (with_reducible repeat (first | refine blk_drewN ?_ _ | refine blk_drew ?_ | refine blk_alloc ?_ _)); refine blk_far ?_ NB357_364.out _; (with_reducible repeat (first | refine blk_drewN ?_ _ | refine blk_drew ?_ | refine blk_alloc ?_ _)); refine blk_far ?_ NB357_364.out _; (with_reducible repeat (first | refine blk_drewN ?_ _ | refine blk_drew ?_ | refine blk_alloc ?_ _)); refine blk_far ?_ NB357_364.out _; (with_reducible repeat (first | refine blk_drewN ?_ _ | refine blk_drew ?_ | refine blk_alloc ?_ _)); refine blk_far ?_ NB357_364.out _; (with_reducible repeat (first | refine blk_drewN ?_ _ | refine blk_drew ?_ | refine blk_alloc ?_ _)); exact BK357.out⟩
          have n2_ : Aside0 (((((w33.setCell ⟨gb364, 0, none⟩ (.int .i64 ((rd_T37 l0_1 x31_2).f0))).setCell ⟨gb364, 1, none⟩ (.int .i64 ((rd_T37 l0_1 x31_2).f1))).setCell ⟨gb364, 2, none⟩ (.int .i64 ((rd_T37 l0_1 x31_2).f2))).setCell ⟨gb364, 3, none⟩ (.int .i64 ((rd_T37 l0_1 x31_2).f3))).heap[gb358]? = some (.cells #[.int .u8 a1] 5 (0, 0))) := ⟨by (with_reducible repeat (first | refine blk_drewN ?_ _ | refine blk_drew ?_ | refine blk_alloc ?_ _)); refine blk_far ?_ NB358_364.out _; (with_reducible repeat (first | refine blk_drewN ?_ _ | refine blk_drew ?_ | refine blk_alloc ?_ _)); refine blk_far ?_ NB358_364.out _; (with_reducible repeat (first | refine blk_drewN ?_ _ | refine blk_drew ?_ | refine blk_alloc ?_ _)); refine blk_far ?_ NB358_364.out _; (with_reducible repeat (first | refine blk_drewN ?_ _ | refine blk_drew ?_ | refine blk_alloc ?_ _)); refine blk_far ?_ NB358_364.out _; (with_reducible repeat (first | refine blk_drewN ?_ _ | refine blk_drew ?_ | refine blk_alloc ?_ _)); exact BK358.out⟩
          have n3_ : Aside0 (((((w33.setCell ⟨gb364, 0, none⟩ (.int .i64 ((rd_T37 l0_1 x31_2).f0))).setCell ⟨gb364, 1, none⟩ (.int .i64 ((rd_T37 l0_1 x31_2).f1))).setCell ⟨gb364, 2, none⟩ (.int .i64 ((rd_T37 l0_1 x31_2).f2))).setCell ⟨gb364, 3, none⟩ (.int .i64 ((rd_T37 l0_1 x31_2).f3))).heap[gb362]? = some (.cells #[.int .i64 a0_0, u363001] 24 (0, 0))) := ⟨by (with_reducible repeat (first | refine blk_drewN ?_ _ | refine blk_drew ?_ | refine blk_alloc ?_ _)); refine blk_far ?_ NB362_364.out _; (with_reducible repeat (first | refine blk_drewN ?_ _ | refine blk_drew ?_ | refine blk_alloc ?_ _)); refine blk_far ?_ NB362_364.out _; (with_reducible repeat (first | refine blk_drewN ?_ _ | refine blk_drew ?_ | refine blk_alloc ?_ _)); refine blk_far ?_ NB362_364.out _; (with_reducible repeat (first | refine blk_drewN ?_ _ | refine blk_drew ?_ | refine blk_alloc ?_ _)); refine blk_far ?_ NB362_364.out _; (with_reducible repeat (first | refine blk_drewN ?_ _ | refine blk_drew ?_ | refine blk_alloc ?_ _)); exact BK362.out⟩
          have n4_ : Aside0 (((((w33.setCell ⟨gb364, 0, none⟩ (.int .i64 ((rd_T37 l0_1 x31_2).f0))).setCell ⟨gb364, 1, none⟩ (.int .i64 ((rd_T37 l0_1 x31_2).f1))).setCell ⟨gb364, 2, none⟩ (.int .i64 ((rd_T37 l0_1 x31_2).f2))).setCell ⟨gb364, 3, none⟩ (.int .i64 ((rd_T37 l0_1 x31_2).f3))).heap[gb364]? = some (.cells #[.int .i64 ((rd_T37 l0_1 x31_2).f0), .int .i64 ((rd_T37 l0_1 x31_2).f1), .int .i64 ((rd_T37 l0_1 x31_2).f2), .int .i64 ((rd_T37 l0_1 x31_2).f3)] 37 (0, 0))) := ⟨by (with_reducible repeat (first | refine blk_drewN ?_ _ | refine blk_drew ?_ | refine blk_alloc ?_ _)); refine blk_put (cs := #[.int .i64 ((rd_T37 l0_1 x31_2).f0), .int .i64 ((rd_T37 l0_1 x31_2).f1), .int .i64 ((rd_T37 l0_1 x31_2).f2), .int .i64 0]) ?_ 3 _ rfl; (with_reducible repeat (first | refine blk_drewN ?_ _ | refine blk_drew ?_ | refine blk_alloc ?_ _)); refine blk_put (cs := #[.int .i64 ((rd_T37 l0_1 x31_2).f0), .int .i64 ((rd_T37 l0_1 x31_2).f1), .int .i64 0, .int .i64 0]) ?_ 2 _ rfl; (with_reducible repeat (first | refine blk_drewN ?_ _ | refine blk_drew ?_ | refine blk_alloc ?_ _)); refine blk_put (cs := #[.int .i64 ((rd_T37 l0_1 x31_2).f0), .int .i64 0, .int .i64 0, .int .i64 0]) ?_ 1 _ rfl; (with_reducible repeat (first | refine blk_drewN ?_ _ | refine blk_drew ?_ | refine blk_alloc ?_ _)); refine blk_put (cs := #[.int .i64 0, .int .i64 0, .int .i64 0, .int .i64 0]) ?_ 0 _ rfl; (with_reducible repeat (first | refine blk_drewN ?_ _ | refine blk_drew ?_ | refine blk_alloc ?_ _)); exact BK364.out⟩
          have n5_ : Aside0 (Below w.heap.size w ((((w33.setCell ⟨gb364, 0, none⟩ (.int .i64 ((rd_T37 l0_1 x31_2).f0))).setCell ⟨gb364, 1, none⟩ (.int .i64 ((rd_T37 l0_1 x31_2).f1))).setCell ⟨gb364, 2, none⟩ (.int .i64 ((rd_T37 l0_1 x31_2).f2))).setCell ⟨gb364, 3, none⟩ (.int .i64 ((rd_T37 l0_1 x31_2).f3)))) := ⟨by repeat (first | (with_reducible first | exact HB.out | apply below_alloc | apply pw_below_drewN | apply below_drew1 | refine below_set ?_ GE357.out | refine below_set ?_ GE358.out | refine below_set ?_ GE362.out | refine below_set ?_ GE364.out) | exact HB.out)⟩
          (try clear HO_363001)
          (try clear BK357)
          (try clear BK358)
          (try clear BK362)
          (try clear BK364)
          (try clear HB)
          generalize ((((w33.setCell ⟨gb364, 0, none⟩ (.int .i64 ((rd_T37 l0_1 x31_2).f0))).setCell ⟨gb364, 1, none⟩ (.int .i64 ((rd_T37 l0_1 x31_2).f1))).setCell ⟨gb364, 2, none⟩ (.int .i64 ((rd_T37 l0_1 x31_2).f2))).setCell ⟨gb364, 3, none⟩ (.int .i64 ((rd_T37 l0_1 x31_2).f3))) = w38 at n0_ n1_ n2_ n3_ n4_ n5_ ⊢
          have HO_363001 := n0_
          have BK357 := n1_
          have BK358 := n2_
          have BK362 := n3_
          have BK364 := n4_
          have HB := n5_
          clear n0_ n1_ n2_ n3_ n4_ n5_
          have n0_ := Aside0.mk (Kd.R_drew HO_363001.out)
          have n1_ := Aside0.mk (blk_drew BK357.out)
          have n2_ := Aside0.mk (blk_drew BK358.out)
          have n3_ := Aside0.mk (blk_drew BK362.out)
          have n4_ := Aside0.mk (blk_drew BK364.out)
          have n5_ := Aside0.mk (below_drew1 HB.out)
          clear HO_363001
          clear BK357
          clear BK358
          clear BK362
          clear BK364
          clear HB
          have HO_363001 := n0_
          have BK357 := n1_
          have BK358 := n2_
          have BK362 := n3_
          have BK364 := n4_
          have HB := n5_
          clear n0_ n1_ n2_ n3_ n4_ n5_
          refine start_ (n := 19) (S := fun w' => w'.cell? ⟨gb362, 0, none⟩ = some (.int .i64 a0_0) ∧ w'.cell? ⟨gb362, 1, none⟩ = some (u363001) ∧ w'.cell? ⟨gb364, 0, none⟩ = some (.int .i64 ((rd_T37 l0_1 x31_2).f0)) ∧ w'.cell? ⟨gb364, 1, none⟩ = some (.int .i64 ((rd_T37 l0_1 x31_2).f1)) ∧ w'.cell? ⟨gb364, 2, none⟩ = some (.int .i64 ((rd_T37 l0_1 x31_2).f2)) ∧ w'.cell? ⟨gb364, 3, none⟩ = some (.int .i64 ((rd_T37 l0_1 x31_2).f3))) (ds := [18]) #[false, false, false, false, false, false, false, false, false, false, false, false, false, false, false, false, false, false, false] (by kernel_rfl) rfl rfl ⟨(blk_cell BK362.out 0).trans rfl, (blk_cell BK362.out 1).trans rfl, (blk_cell BK364.out 0).trans rfl, (blk_cell BK364.out 1).trans rfl, (blk_cell BK364.out 2).trans rfl, (blk_cell BK364.out 3).trans rfl⟩ (fun hHeld => ?_); refine with_tabW timesynclaw18_TopoRenumbers.tab8 timesynclaw18_TopoRenumbers.bits8 (fun HT_ HW_ => ?_)
          generalize w38.drew = w39 at HO_363001 BK357 BK358 BK362 BK364 HB hHeld ⊢
          refine pure_ (i := 0) (N := some 35) (v := ?_) (a' := ?_) #[true, false, false, false, false, false, false, false, false, false, false, false, false, false, false, false, false, false, false] rfl rfl (any_of HT_.out (by kernel_rfl)) (fun _ _ _ h => h) (Or.inl ⟨by rfl, ?_⟩) ?_ ?_
          rotate_left
          ·intro w'
           go_simp
           with_reducible rfl
          rotate_left
          ·simp only [Act.put, List.setIfInBounds_toArray, List.set_cons_zero, List.set_cons_succ, i64_w, i32_w]
           rfl
          refine pure_ (i := 2) (N := some 37) (v := ?_) (a' := ?_) #[true, false, true, false, false, false, false, false, false, false, false, false, false, false, false, false, false, false, false] rfl rfl (any_of HT_.out (by kernel_rfl)) (fun _ _ _ h => h) (Or.inl ⟨by rfl, ?_⟩) ?_ ?_
          rotate_left
          ·intro w'
           go_simp
           with_reducible rfl
          rotate_left
          ·simp only [Act.put, List.setIfInBounds_toArray, List.set_cons_zero, List.set_cons_succ, i64_w, i32_w]
           rfl
          refine pure_ (i := 3) (N := some 38) (v := ?_) (a' := ?_) #[true, false, true, true, false, false, false, false, false, false, false, false, false, false, false, false, false, false, false] rfl rfl (any_of HT_.out (by kernel_rfl)) (fun _ _ _ h => h) (Or.inl ⟨by rfl, ?_⟩) ?_ ?_
          rotate_left
          ·intro w'
           go_simp
           with_reducible rfl
          rotate_left
          ·simp only [Act.put, List.setIfInBounds_toArray, List.set_cons_zero, List.set_cons_succ, i64_w, i32_w]
           rfl
          refine pure_ (i := 6) (N := some 41) (v := ?_) (a' := ?_) #[true, false, true, true, false, false, true, false, false, false, false, false, false, false, false, false, false, false, false] rfl rfl (any_of HT_.out (by kernel_rfl)) (fun _ _ _ h => h) (Or.inl ⟨by rfl, ?_⟩) ?_ ?_
          rotate_left
          ·intro w'
           go_simp
           with_reducible rfl
          rotate_left
          ·simp only [Act.put, List.setIfInBounds_toArray, List.set_cons_zero, List.set_cons_succ, i64_w, i32_w]
           rfl
          refine pure_ (i := 8) (N := some 43) (v := ?_) (a' := ?_) #[true, false, true, true, false, false, true, false, true, false, false, false, false, false, false, false, false, false, false] rfl rfl (any_of HT_.out (by kernel_rfl)) (fun _ _ _ h => h) (Or.inl ⟨by rfl, ?_⟩) ?_ ?_
          rotate_left
          ·intro w'
           go_simp
           with_reducible rfl
          rotate_left
          ·simp only [Act.put, List.setIfInBounds_toArray, List.set_cons_zero, List.set_cons_succ, i64_w, i32_w]
           rfl
          refine pure_ (i := 9) (N := some 44) (v := ?_) (a' := ?_) #[true, false, true, true, false, false, true, false, true, true, false, false, false, false, false, false, false, false, false] rfl rfl (any_of HT_.out (by kernel_rfl)) (fun _ _ _ h => h) (Or.inl ⟨by rfl, ?_⟩) ?_ ?_
          rotate_left
          ·intro w'
           go_simp
           with_reducible rfl
          rotate_left
          ·simp only [Act.put, List.setIfInBounds_toArray, List.set_cons_zero, List.set_cons_succ, i64_w, i32_w]
           rfl
          refine pure_ (i := 12) (N := some 47) (v := ?_) (a' := ?_) #[true, false, true, true, false, false, true, false, true, true, false, false, true, false, false, false, false, false, false] rfl rfl (any_of HT_.out (by kernel_rfl)) (fun _ _ _ h => h) (Or.inl ⟨by rfl, ?_⟩) ?_ ?_
          rotate_left
          ·intro w'
           go_simp
           with_reducible rfl
          rotate_left
          ·simp only [Act.put, List.setIfInBounds_toArray, List.set_cons_zero, List.set_cons_succ, i64_w, i32_w]
           rfl
          refine take_ (i := 1) (N := some 36) (v := ?_) (a' := ?_) #[true, true, true, true, false, false, true, false, true, true, false, false, true, false, false, false, false, false, false] rfl rfl (take_ofW HT_.out HW_.out (by kernel_rfl)) (fun _ _ _ h => h) (Or.inl ⟨by rfl, ?_⟩) hHeld ?_ ?_
          rotate_left
          ·rintro w' ⟨s0, s1, s2, s3, s4, s5⟩
           go_simp
           with_reducible rfl
          rotate_left
          ·simp only [Act.put, List.setIfInBounds_toArray, List.set_cons_zero, List.set_cons_succ, i64_w, i32_w]
           rfl
          refine take_ (i := 4) (N := some 39) (v := ?_) (a' := ?_) #[true, true, true, true, true, false, true, false, true, true, false, false, true, false, false, false, false, false, false] rfl rfl (take_ofW HT_.out HW_.out (by kernel_rfl)) (fun _ _ _ h => h) (Or.inl ⟨by rfl, ?_⟩) hHeld ?_ ?_
          rotate_left
          ·rintro w' ⟨s0, s1, s2, s3, s4, s5⟩
           go_simp
           with_reducible rfl
          rotate_left
          ·simp only [Act.put, List.setIfInBounds_toArray, List.set_cons_zero, List.set_cons_succ, i64_w, i32_w]
           rfl
          refine take_ (i := 7) (N := some 42) (v := ?_) (a' := ?_) #[true, true, true, true, true, false, true, true, true, true, false, false, true, false, false, false, false, false, false] rfl rfl (take_ofW HT_.out HW_.out (by kernel_rfl)) (fun _ _ _ h => h) (Or.inl ⟨by rfl, ?_⟩) hHeld ?_ ?_
          rotate_left
          ·rintro w' ⟨s0, s1, s2, s3, s4, s5⟩
           go_simp
           with_reducible rfl
          rotate_left
          ·simp only [Act.put, List.setIfInBounds_toArray, List.set_cons_zero, List.set_cons_succ, i64_w, i32_w]
           rfl
          refine take_ (i := 10) (N := some 45) (v := ?_) (a' := ?_) #[true, true, true, true, true, false, true, true, true, true, true, false, true, false, false, false, false, false, false] rfl rfl (take_ofW HT_.out HW_.out (by kernel_rfl)) (fun _ _ _ h => h) (Or.inl ⟨by rfl, ?_⟩) hHeld ?_ ?_
          rotate_left
          ·rintro w' ⟨s0, s1, s2, s3, s4, s5⟩
           go_simp
           with_reducible rfl
          rotate_left
          ·simp only [Act.put, List.setIfInBounds_toArray, List.set_cons_zero, List.set_cons_succ, i64_w, i32_w]
           rfl
          refine take_ (i := 13) (N := some 48) (v := ?_) (a' := ?_) #[true, true, true, true, true, false, true, true, true, true, true, false, true, true, false, false, false, false, false] rfl rfl (take_ofW HT_.out HW_.out (by kernel_rfl)) (fun _ _ _ h => h) (Or.inl ⟨by rfl, ?_⟩) hHeld ?_ ?_
          rotate_left
          ·rintro w' ⟨s0, s1, s2, s3, s4, s5⟩
           go_simp
           with_reducible rfl
          rotate_left
          ·simp only [Act.put, List.setIfInBounds_toArray, List.set_cons_zero, List.set_cons_succ, i64_w, i32_w]
           rfl
          refine one_ (i := 5) (N := some 40) #[true, true, true, true, true, true, true, true, true, true, true, false, true, true, false, false, false, false, false] rfl rfl (one_of HT_.out (by kernel_rfl)) (by decide) (fun K hK => ?_)
          refine Go.Proofs.Ythkpnkmbmlbefaa.HG.goesC_ #[.pointer (some ⟨gb358, 0, none⟩), .pointer (some ⟨gb357, 0, none⟩)] Try.func28 (by kernel_rfl) rfl #[.int .i64 ((rd_T37 l0_1 x31_2).f2), .pointer (some ⟨gb358, 0, none⟩), .pointer (some ⟨gb357, 0, none⟩)] (by rfl) rfl rfl rfl (by first | rfl | (simp only [List.map_toArray, List.map_cons, List.map_nil]; rfl)) ?_
          with_reducible refine (timesynclaw18_TopoRenumbers_1.calls (v2_ := ?v21_) ((rd_T37 l0_1 x31_2).f2) gb358 a1 gb357 a0_0 l0_1 t365 _ ?side1 ?side2 A30.out).mono ?_
          (case side1 => exact (by (with_reducible repeat (first | refine blk_drewN ?_ _ | refine blk_drew ?_ | refine blk_alloc ?_ _)); exact BK358.out))
          (case side2 => exact (by (with_reducible repeat (first | refine blk_drewN ?_ _ | refine blk_drew ?_ | refine blk_alloc ?_ _)); exact BK357.out))
          rintro e w' ⟨rfl, ⟨nd, rfl⟩⟩
          refine ⟨_, rfl, ?_⟩
          refine hK.out _ _ ⟨(blk_cell BK362.out 0).trans rfl, (blk_cell BK362.out 1).trans rfl, (blk_cell BK364.out 0).trans rfl, (blk_cell BK364.out 1).trans rfl, (blk_cell BK364.out 2).trans rfl, (blk_cell BK364.out 3).trans rfl⟩ (fun hHeld => ?_)
          clear hK K
          refine norm_ (a' := ?_) ?_ ?_
          rotate_left
          ·show Act.put _ (some 40) _ = _
           simp only [Act.put, List.setIfInBounds_toArray, List.set_cons_zero, List.set_cons_succ, i64_w, i32_w]
           rfl
          refine one_ (i := 11) (N := some 46) #[true, true, true, true, true, true, true, true, true, true, true, true, true, true, false, false, false, false, false] rfl rfl (one_of HT_.out (by kernel_rfl)) (by decide) (fun K hK => ?_)
          refine Go.Proofs.Ythkpnkmbmlbefaa.HG.goesC_ #[.pointer (some ⟨gb358, 0, none⟩), .pointer (some ⟨gb357, 0, none⟩)] Try.func28 (by kernel_rfl) rfl #[.int .i64 ((rd_T37 l0_1 x31_2).f0), .pointer (some ⟨gb358, 0, none⟩), .pointer (some ⟨gb357, 0, none⟩)] (by rfl) rfl rfl rfl (by first | rfl | (simp only [List.map_toArray, List.map_cons, List.map_nil]; rfl)) ?_
          with_reducible refine (timesynclaw18_TopoRenumbers_1.calls (v2_ := ?v22_) ((rd_T37 l0_1 x31_2).f0) gb358 a1 gb357 a0_0 l0_1 t366 _ ?side1 ?side2 A31.out).mono ?_
          (case side1 => exact (by (with_reducible repeat (first | refine blk_drewN ?_ _ | refine blk_drew ?_ | refine blk_alloc ?_ _)); exact BK358.out))
          (case side2 => exact (by (with_reducible repeat (first | refine blk_drewN ?_ _ | refine blk_drew ?_ | refine blk_alloc ?_ _)); exact BK357.out))
          rintro e w' ⟨rfl, ⟨nd, rfl⟩⟩
          refine ⟨_, rfl, ?_⟩
          refine hK.out _ _ ⟨(blk_cell BK362.out 0).trans rfl, (blk_cell BK362.out 1).trans rfl, (blk_cell BK364.out 0).trans rfl, (blk_cell BK364.out 1).trans rfl, (blk_cell BK364.out 2).trans rfl, (blk_cell BK364.out 3).trans rfl⟩ (fun hHeld => ?_)
          clear hK K
          refine norm_ (a' := ?_) ?_ ?_
          rotate_left
          ·show Act.put _ (some 46) _ = _
           simp only [Act.put, List.setIfInBounds_toArray, List.set_cons_zero, List.set_cons_succ, i64_w, i32_w]
           rfl
          refine pure_ (i := 14) (N := some 49) (v := ?_) (a' := ?_) #[true, true, true, true, true, true, true, true, true, true, true, true, true, true, true, false, false, false, false] rfl rfl (any_of HT_.out (by kernel_rfl)) (fun _ _ _ h => h) (Or.inl ⟨by rfl, ?_⟩) ?_ ?_
          rotate_left
          ·intro w'
           go_simp
           with_reducible rfl
          rotate_left
          ·simp only [Act.put, List.setIfInBounds_toArray, List.set_cons_zero, List.set_cons_succ, i64_w, i32_w]
           rfl
          refine one_ (i := 15) (N := some 50) #[true, true, true, true, true, true, true, true, true, true, true, true, true, true, true, true, false, false, false] rfl rfl (one_of HT_.out (by kernel_rfl)) (by decide) (fun K hK => ?_)
          refine value_ (w1 := ?_) (v := ?_) (by rfl) rfl ?_ ?_
          rotate_left 2
          ·go_simp
           constructor
           ·rfl
           ·rfl
          refine hK.out _ _ ⟨(blk_cell (blk_alloc BK362.out _) 0).trans rfl, (blk_cell (blk_alloc BK362.out _) 1).trans rfl, (blk_cell (blk_alloc BK364.out _) 0).trans rfl, (blk_cell (blk_alloc BK364.out _) 1).trans rfl, (blk_cell (blk_alloc BK364.out _) 2).trans rfl, (blk_cell (blk_alloc BK364.out _) 3).trans rfl⟩ (fun hHeld => ?_)
          clear hK K
          refine norm_ (a' := ?_) ?_ ?_
          rotate_left
          ·show Act.put _ (some 50) _ = _
           simp only [Act.put, List.setIfInBounds_toArray, List.set_cons_zero, List.set_cons_succ, i64_w, i32_w]
           rfl
          refine one_ (i := 16) (N := some 51) #[true, true, true, true, true, true, true, true, true, true, true, true, true, true, true, true, true, false, false] rfl rfl (one_of HT_.out (by kernel_rfl)) (by decide) (fun K hK => ?_)
          refine Kd.R_append_step k37 (w0 := w) w.heap.size (by rfl) (.tmp 36) (.tmp 50) 22 37 (.agg #[(.int .i64 0), (.int .i64 0), (.int .i64 0), (.int .i64 0)]) 32 rfl Try.underlying22 info37 rfl (by decide) (by omega) u363001 x363001_2 (⟨t365, (rd_T37 l0_1 x31_2).f3, t366, (rd_T37 l0_1 x31_2).f1⟩ : S37) [.int .i64 t365, .int .i64 ((rd_T37 l0_1 x31_2).f3), .int .i64 t366, .int .i64 ((rd_T37 l0_1 x31_2).f1)] (fun k_ => k_ ≠ gb364) (fun _ => False) rfl rfl ?aP (fun _ hk => hk.elim) ?aF ?aO ?aB ?aS ?aL ?_
          (case aP => exact k37_mkM _ _ _ (⟨t365, (rd_T37 l0_1 x31_2).f3, t366, (rd_T37 l0_1 x31_2).f1⟩ : S37))
          (case aB => exact (by repeat (first | (with_reducible first | exact HB.out | apply below_alloc | apply pw_below_drewN | apply below_drew1 | refine below_set ?_ GE357.out | refine below_set ?_ GE358.out | refine below_set ?_ GE362.out | refine below_set ?_ GE364.out) | exact HB.out)))
          (case aF => exact (fun k_ hk => Kd.freshB (g := gb364) (o := .cells #[.int .i64 ((rd_T37 l0_1 x31_2).f0), .int .i64 ((rd_T37 l0_1 x31_2).f1), .int .i64 ((rd_T37 l0_1 x31_2).f2), .int .i64 ((rd_T37 l0_1 x31_2).f3)] 37 (0, 0)) (by (with_reducible repeat (first | refine blk_drewN ?_ _ | refine blk_drew ?_ | refine blk_alloc ?_ _)); exact BK364.out) k_ hk))
          (case aO => exact (by (with_reducible repeat (first | apply Kd.R_alloc | apply Kd.R_drewN | apply Kd.R_drew)); exact HO_363001.out))
          (case aS => exact (below_size (by repeat (first | (with_reducible first | exact HB.out | apply below_alloc | apply pw_below_drewN | apply below_drew1 | refine below_set ?_ GE357.out | refine below_set ?_ GE358.out | refine below_set ?_ GE362.out | refine below_set ?_ GE364.out) | exact HB.out))))
          (case aL => have := LMc32.out; omega)
          intro v368 w40 ho hb hg hat
          rw [← Ny367.out] at ho
          have n0_ := Aside0.mk (blk_grown (g := gb357) (o := .cells #[.int .i64 a0_0, .slice (some ad363) l0_1.length c0_1] 24 (0, 0)) (by (with_reducible repeat (first | refine blk_drewN ?_ _ | refine blk_drew ?_ | refine blk_alloc ?_ _)); exact BK357.out) hg (Kd.R_ne HO_363001.out BK357.out (by decide)))
          have n1_ := Aside0.mk (blk_grown (g := gb358) (o := .cells #[.int .u8 a1] 5 (0, 0)) (by (with_reducible repeat (first | refine blk_drewN ?_ _ | refine blk_drew ?_ | refine blk_alloc ?_ _)); exact BK358.out) hg (Kd.R_ne HO_363001.out BK358.out (by decide)))
          have n2_ := Aside0.mk (blk_grown (g := gb362) (o := .cells #[.int .i64 a0_0, u363001] 24 (0, 0)) (by (with_reducible repeat (first | refine blk_drewN ?_ _ | refine blk_drew ?_ | refine blk_alloc ?_ _)); exact BK362.out) hg (Kd.R_ne HO_363001.out BK362.out (by decide)))
          have n3_ := Aside0.mk (blk_grown (g := gb364) (o := .cells #[.int .i64 ((rd_T37 l0_1 x31_2).f0), .int .i64 ((rd_T37 l0_1 x31_2).f1), .int .i64 ((rd_T37 l0_1 x31_2).f2), .int .i64 ((rd_T37 l0_1 x31_2).f3)] 37 (0, 0)) (by (with_reducible repeat (first | refine blk_drewN ?_ _ | refine blk_drew ?_ | refine blk_alloc ?_ _)); exact BK364.out) hg (Kd.R_away HO_363001.out (fun _ hk => hk)))
          have n4_ := Aside0.mk (hb)
          have n5_ := Aside0.mk (ho)
          clear BK357
          clear BK358
          clear BK362
          clear BK364
          clear HB
          clear HO_363001
          have BK357 := n0_
          have BK358 := n1_
          have BK362 := n2_
          have BK364 := n3_
          have HB := n4_
          have HO369 := n5_
          clear n0_ n1_ n2_ n3_ n4_ n5_
          clear ho hb hg hat
          obtain ⟨Ao41, co41, eo41⟩ := Kd.R_slice HO369.out
          (first | subst eo41 | (injection eo41 with f1_ f2_ f3_; have f4_ := f1_.symm; have f5_ := f3_.symm; clear f1_ f2_ f3_; subst f4_; subst f5_))
          refine hK.out _ _ ⟨(blk_cell BK362.out 0).trans rfl, (blk_cell BK362.out 1).trans rfl, (blk_cell BK364.out 0).trans rfl, (blk_cell BK364.out 1).trans rfl, (blk_cell BK364.out 2).trans rfl, (blk_cell BK364.out 3).trans rfl⟩ (fun hHeld => ?_)
          clear hK K
          refine norm_ (a' := ?_) ?_ ?_
          rotate_left
          ·show Act.put _ (some 51) _ = _
           simp only [Act.put, List.setIfInBounds_toArray, List.set_cons_zero, List.set_cons_succ, i64_w, i32_w]
           rfl
          refine pure_ (i := 17) (N := some 52) (v := ?_) (a' := ?_) #[true, true, true, true, true, true, true, true, true, true, true, true, true, true, true, true, true, true, false] rfl rfl (any_of HT_.out (by kernel_rfl)) (fun _ _ _ h => h) (Or.inl ⟨by rfl, ?_⟩) ?_ ?_
          rotate_left
          ·intro w'
           go_simp
           with_reducible rfl
          rotate_left
          ·simp only [Act.put, List.setIfInBounds_toArray, List.set_cons_zero, List.set_cons_succ, i64_w, i32_w]
           rfl
          refine last_ (i := 18) (N := none) #[true, true, true, true, true, true, true, true, true, true, true, true, true, true, true, true, true, true, true] rfl rfl (one_of HT_.out (by kernel_rfl)) (by decide) (fun K hK => ?_)
          have hs42 : w40.cell? ⟨gb362, 1, none⟩ = some (u363001) := (blk_cell BK362.out 1).trans rfl
          have hfs42 := blk_frozen BK362.out 1
          have hns42_0 := NB357_362.out
          have hns42_1 := NB358_362.out
          have hns42_3 := NB364_362.out
          have hms42_0 := NB362_357.out
          have hms42_1 := NB362_358.out
          have hms42_3 := NB362_364.out
          refine skip_ (w1 := ?_) (by rfl) rfl ?_ ?_
          rotate_left
          ·go_simp
           rfl
          refine hK.out _ _ ?_
          clear hK K
          refine done_ (done_of HT_.out (by kernel_rfl)) ?_
          try go_wp2
          go_roundg k2
          case measure => have := HJ2.out; have := HK2.out; omega
          case rel => exact ⟨(wrap64 (x31_2 + 1)), (y367), (.slice Ao41 y367.length co41), (by first | rfl | (simp; done) | (simp [*]; done)), H', ⟨by have := HJ2.out; have := HK2.out; omega⟩, ⟨by (with_reducible repeat (first | apply Kd.R_alloc | apply Kd.R_drewN | apply Kd.R_drew)); exact Kd.R_mono (Kd.R_far (p := ⟨gb362, 1, none⟩) (Kd.R_types HO369.out BK362.out (by decide)) (fun _ hk => hk.2) (.slice Ao41 y367.length co41)) (fun _ hk => trivial)⟩, ⟨by (with_reducible repeat (first | refine blk_drewN ?_ _ | refine blk_drew ?_ | refine blk_alloc ?_ _)); refine blk_far ?_ NB357_362.out _; (with_reducible repeat (first | refine blk_drewN ?_ _ | refine blk_drew ?_ | refine blk_alloc ?_ _)); exact BK357.out⟩, ⟨by (with_reducible repeat (first | refine blk_drewN ?_ _ | refine blk_drew ?_ | refine blk_alloc ?_ _)); refine blk_far ?_ NB358_362.out _; (with_reducible repeat (first | refine blk_drewN ?_ _ | refine blk_drew ?_ | refine blk_alloc ?_ _)); exact BK358.out⟩, ⟨by (with_reducible repeat (first | refine blk_drewN ?_ _ | refine blk_drew ?_ | refine blk_alloc ?_ _)); refine blk_put (cs := #[.int .i64 a0_0, u363001]) ?_ 1 _ rfl; (with_reducible repeat (first | refine blk_drewN ?_ _ | refine blk_drew ?_ | refine blk_alloc ?_ _)); exact BK362.out⟩, ⟨by repeat (first | (with_reducible first | exact HB.out | apply below_alloc | apply pw_below_drewN | apply below_drew1 | refine below_set ?_ GE357.out | refine below_set ?_ GE358.out | refine below_set ?_ GE362.out | refine below_set ?_ GE364.out) | exact HB.out)⟩⟩
         ·rw [if_neg c32] at H
          exact absurd H (by simp)
        ·rw [if_neg c29] at H
         exact absurd H (by simp)
       ·rw [if_neg c28] at H
        exact absurd H (by simp)
      ·rw [if_neg c27] at H
       have c27b0 : decide (x31_2 < (l0_1.length : Int)) = false := decide_eq_false c27
       clear c27
       replace H := Option.bind_eq_some_iff.mp H
       obtain ⟨t370, A430, H⟩ := H
       replace H : ((timesynclaw18_sound.f k2 a0_0 l0_1).bind fun bt371 => ((timesynclaw18_sound.f k2 a0_0 t370).bind fun bt375 => (if bt371.2 = true then (if bt375.2 = true then ((topo_Check.f k2 a0_0 t370).bind fun t379 => (if t379 = 0 then ((topo_Diameter.f k2 a0_0 l0_1).bind fun t380 => ((topo_Diameter.f k2 a0_0 t370).bind fun t381 => (timesynclaw18_TopoRenumbers.j2 k2 bt371.1 bt375.1 (t380 != t381) a0_0 l0_1 a1))) else (timesynclaw18_TopoRenumbers.j2 k2 bt371.1 bt375.1 true a0_0 l0_1 a1))) else (timesynclaw18_TopoRenumbers.j2 k2 bt371.1 bt375.1 true a0_0 l0_1 a1)) else (timesynclaw18_TopoRenumbers.j2 k2 bt371.1 bt375.1 true a0_0 l0_1 a1)))) = some r := H
       have A43 := Aside0.mk A430
       clear A430
       replace H := Option.bind_eq_some_iff.mp H
       obtain ⟨⟨t371, t374⟩, A440, H⟩ := H
       replace H : ((timesynclaw18_sound.f k2 a0_0 t370).bind fun bt375 => (if t374 = true then (if bt375.2 = true then ((topo_Check.f k2 a0_0 t370).bind fun t379 => (if t379 = 0 then ((topo_Diameter.f k2 a0_0 l0_1).bind fun t380 => ((topo_Diameter.f k2 a0_0 t370).bind fun t381 => (timesynclaw18_TopoRenumbers.j2 k2 t371 bt375.1 (t380 != t381) a0_0 l0_1 a1))) else (timesynclaw18_TopoRenumbers.j2 k2 t371 bt375.1 true a0_0 l0_1 a1))) else (timesynclaw18_TopoRenumbers.j2 k2 t371 bt375.1 true a0_0 l0_1 a1)) else (timesynclaw18_TopoRenumbers.j2 k2 t371 bt375.1 true a0_0 l0_1 a1))) = some r := H
       have A44 := Aside0.mk A440
       clear A440
       replace H := Option.bind_eq_some_iff.mp H
       obtain ⟨⟨t375, t378⟩, A450, H⟩ := H
       replace H : (if t374 = true then (if t378 = true then ((topo_Check.f k2 a0_0 t370).bind fun t379 => (if t379 = 0 then ((topo_Diameter.f k2 a0_0 l0_1).bind fun t380 => ((topo_Diameter.f k2 a0_0 t370).bind fun t381 => (timesynclaw18_TopoRenumbers.j2 k2 t371 t375 (t380 != t381) a0_0 l0_1 a1))) else (timesynclaw18_TopoRenumbers.j2 k2 t371 t375 true a0_0 l0_1 a1))) else (timesynclaw18_TopoRenumbers.j2 k2 t371 t375 true a0_0 l0_1 a1)) else (timesynclaw18_TopoRenumbers.j2 k2 t371 t375 true a0_0 l0_1 a1)) = some r := H
       have A45 := Aside0.mk A450
       clear A450
       have HC46 := Aside0.mk H
       clear H
       have hnb47 := NB362_357.out
       have hnc47 := NB357_362.out
       have hnb48 := NB362_358.out
       have hnc48 := NB358_362.out
       have hcz49_0 : wr.cell? ⟨gb362, 0, none⟩ = some (.int .i64 a0_0) := (blk_cell BK362.out 0).trans rfl
       have hcz49_1 : wr.cell? ⟨gb362, 1, none⟩ = some (u363001) := (blk_cell BK362.out 1).trans rfl
       have hfz49_0 := blk_frozen BK362.out 0
       have hfz49_1 := blk_frozen BK362.out 1
       obtain ⟨Ao50, co50, eo50⟩ := Kd.R_slice HO_363001.out
       subst eo50
       go_upto_region 13 with (first | ((with_reducible refine gate_callee (f := 29) rfl ?_); refine goesL_ (some 56) rfl rfl Try.func29 (by kernel_rfl) rfl #[.slice Ao50 x363001_2.length co50] rfl (by (try simp only [List.map_toArray, List.map_cons, List.map_nil]); first | done | rfl | (simp only [List.length_drop, List.length_take]; rfl)) ?_; (with_reducible refine (api_Edge.calls (fun k_ => some k_ = (.slice Ao50 x363001_2.length co50 : Value).ownBlock) (.slice Ao50 x363001_2.length co50) x363001_2 t370 w _ ?side1 ?side2 A43.out).mono ?_); (case side1 => repeat (first | (with_reducible first | exact HB.out | apply below_alloc | apply pw_below_drewN | apply below_drew1 | refine below_set ?_ GE357.out | refine below_set ?_ GE358.out | refine below_set ?_ GE362.out) | exact HB.out)); (case side2 => exact Kd.R_tight rfl HO_363001.out); rintro e w51 ⟨rfl, hy0, hb, hkp⟩; refine ⟨_, rfl, ?_⟩; have n0_ := Aside0.mk (Kd.R_reok rfl hy0 (fun k_ e_ => HO_363001.out.1 k_ e_)); have n1_ := Aside0.mk (blk_kept (by (with_reducible repeat (first | refine blk_drewN ?_ _ | refine blk_drew ?_ | refine blk_alloc ?_ _)); exact BK357.out) hkp (fun hs_ => (fun e_ => (Kd.R_ne HO_363001.out BK357.out (by decide)) e_) hs_)); have n2_ := Aside0.mk (blk_kept (by (with_reducible repeat (first | refine blk_drewN ?_ _ | refine blk_drew ?_ | refine blk_alloc ?_ _)); exact BK358.out) hkp (fun hs_ => (fun e_ => (Kd.R_ne HO_363001.out BK358.out (by decide)) e_) hs_)); have n3_ := Aside0.mk (blk_kept (by (with_reducible repeat (first | refine blk_drewN ?_ _ | refine blk_drew ?_ | refine blk_alloc ?_ _)); exact BK362.out) hkp (fun hs_ => (fun e_ => (Kd.R_ne HO_363001.out BK362.out (by decide)) e_) hs_)); have n4_ := Aside0.mk (hb); clear HO_363001; clear BK357; clear BK358; clear BK362; clear HB; have HO_363001 := n0_; have BK357 := n1_; have BK358 := n2_; have BK362 := n3_; have HB := n4_; clear n0_ n1_ n2_ n3_ n4_; (try clear hb); (try clear hkp); (try clear hy0); have hnb52 := NB357_358.out; have hnc52 := NB358_357.out; have hcz53_0 : w51.cell? ⟨gb357, 0, none⟩ = some (.int .i64 a0_0) := (blk_cell BK357.out 0).trans rfl; have hcz53_1 : w51.cell? ⟨gb357, 1, none⟩ = some (.slice A0_1 l0_1.length c0_1) := (blk_cell BK357.out 1).trans rfl; have hfz53_0 := blk_frozen BK357.out 0; have hfz53_1 := blk_frozen BK357.out 1) | ((with_reducible refine gate_callee (f := 30) rfl ?_); refine goesL_ (some 59) rfl rfl Try.func30 (by kernel_rfl) rfl #[.agg #[.int .i64 a0_0, .slice A0_1 l0_1.length c0_1]] rfl (by (try simp only [List.map_toArray, List.map_cons, List.map_nil]); first | done | rfl | (simp only [List.length_drop, List.length_take]; rfl)) ?_; (with_reducible refine (timesynclaw18_sound.calls k2 a0_0 _ _ l0_1 t371 t374 _ ?side1 ?side2 A44.out).mono ?_); (case side1 => repeat (first | exact (Kd.C_below HR0_1.out HB.out) | (with_reducible refine Kd.C_alloc ?_ _) | (with_reducible refine Kd.C_drewN ?_ _) | (with_reducible refine Kd.C_drew ?_))); (case side2 => exact HC0_1.out); rintro e w54 ⟨v372, rfl, ho0, hb⟩; refine ⟨_, rfl, ?_⟩; have n0_ := Aside0.mk (Kd.R_below (by (with_reducible repeat (first | apply Kd.R_alloc | apply Kd.R_drewN | apply Kd.R_drew)); exact HO_363001.out) hb); have n1_ := Aside0.mk (Kd.S_lower ho0 (below_size (by repeat (first | (with_reducible first | exact HB.out | apply below_alloc | apply pw_below_drewN | apply below_drew1 | refine below_set ?_ GE357.out | refine below_set ?_ GE358.out | refine below_set ?_ GE362.out) | exact HB.out)))); have n2_ := Aside0.mk (blk_below (g := gb357) (o := .cells #[.int .i64 a0_0, .slice A0_1 l0_1.length c0_1] 24 (0, 0)) (by (with_reducible repeat (first | refine blk_drewN ?_ _ | refine blk_drew ?_ | refine blk_alloc ?_ _)); exact BK357.out) hb); have n3_ := Aside0.mk (blk_below (g := gb358) (o := .cells #[.int .u8 a1] 5 (0, 0)) (by (with_reducible repeat (first | refine blk_drewN ?_ _ | refine blk_drew ?_ | refine blk_alloc ?_ _)); exact BK358.out) hb); have n4_ := Aside0.mk (blk_below (g := gb362) (o := .cells #[.int .i64 a0_0, .slice Ao50 x363001_2.length co50] 24 (0, 0)) (by (with_reducible repeat (first | refine blk_drewN ?_ _ | refine blk_drew ?_ | refine blk_alloc ?_ _)); exact BK362.out) hb); have n5_ := Aside0.mk (below_step (by repeat (first | (with_reducible first | exact HB.out | apply below_alloc | apply pw_below_drewN | apply below_drew1 | refine below_set ?_ GE357.out | refine below_set ?_ GE358.out | refine below_set ?_ GE362.out) | exact HB.out)) hb); clear HO_363001; clear BK357; clear BK358; clear BK362; clear HB; have HO_363001 := n0_; have HO373 := n1_; have BK357 := n2_; have BK358 := n3_; have BK362 := n4_; have HB := n5_; clear n0_ n1_ n2_ n3_ n4_ n5_; (try clear hb); (try clear hb2); (try clear hk); (try clear hi); (try clear ho0); have hcz55_0 : w54.cell? ⟨gb362, 0, none⟩ = some (.int .i64 a0_0) := (blk_cell BK362.out 0).trans rfl; have hcz55_1 : w54.cell? ⟨gb362, 1, none⟩ = some (.slice Ao50 x363001_2.length co50) := (blk_cell BK362.out 1).trans rfl; have hfz55_0 := blk_frozen BK362.out 0; have hfz55_1 := blk_frozen BK362.out 1) | ((with_reducible refine gate_callee (f := 30) rfl ?_); refine goesL_ (some 64) rfl rfl Try.func30 (by kernel_rfl) rfl #[.agg #[.int .i64 a0_0, .slice Ao50 t370.length co50]] rfl (by (try simp only [List.map_toArray, List.map_cons, List.map_nil]); first | done | (rw [show t370.length = x363001_2.length from (Kd.R_reads' HO_363001.out).1.symm] <;> rfl) | rfl | (simp only [List.length_drop, List.length_take]; rfl)) ?_; (with_reducible refine (timesynclaw18_sound.calls k2 a0_0 _ _ t370 t375 t378 _ ?side1 ?side2 A45.out).mono ?_); (case side1 => repeat (first | exact (Kd.R_reads' HO_363001.out).2.2 | (with_reducible refine Kd.C_alloc ?_ _) | (with_reducible refine Kd.C_drewN ?_ _) | (with_reducible refine Kd.C_drew ?_))); (case side2 => rw [show t370.length = x363001_2.length from (Kd.R_reads' HO_363001.out).1.symm]; exact (Kd.R_reads' HO_363001.out).2.1); rintro e w56 ⟨v376, rfl, ho0, hb⟩; refine ⟨_, rfl, ?_⟩; have n0_ := Aside0.mk (Kd.R_below (by (with_reducible repeat (first | apply Kd.R_alloc | apply Kd.R_drewN | apply Kd.R_drew)); exact HO_363001.out) hb); have n1_ := Aside0.mk (Kd.S_elder' (by (with_reducible repeat (first | apply Kd.S_alloc | apply Kd.S_drewN | apply Kd.S_drew)); exact HO373.out) (Kd.S_base ho0) hb); have n2_ := Aside0.mk (Kd.S_lower (Kd.S_new' ho0 (Kd.S_lt (by (with_reducible repeat (first | apply Kd.S_alloc | apply Kd.S_drewN | apply Kd.S_drew)); exact HO373.out))) (below_size (by repeat (first | (with_reducible first | exact HB.out | apply below_alloc | apply pw_below_drewN | apply below_drew1 | refine below_set ?_ GE357.out | refine below_set ?_ GE358.out | refine below_set ?_ GE362.out) | exact HB.out)))); have n3_ := Aside0.mk (blk_below (g := gb357) (o := .cells #[.int .i64 a0_0, .slice A0_1 l0_1.length c0_1] 24 (0, 0)) (by (with_reducible repeat (first | refine blk_drewN ?_ _ | refine blk_drew ?_ | refine blk_alloc ?_ _)); exact BK357.out) hb); have n4_ := Aside0.mk (blk_below (g := gb358) (o := .cells #[.int .u8 a1] 5 (0, 0)) (by (with_reducible repeat (first | refine blk_drewN ?_ _ | refine blk_drew ?_ | refine blk_alloc ?_ _)); exact BK358.out) hb); have n5_ := Aside0.mk (blk_below (g := gb362) (o := .cells #[.int .i64 a0_0, .slice Ao50 x363001_2.length co50] 24 (0, 0)) (by (with_reducible repeat (first | refine blk_drewN ?_ _ | refine blk_drew ?_ | refine blk_alloc ?_ _)); exact BK362.out) hb); have n6_ := Aside0.mk (below_step (by repeat (first | (with_reducible first | exact HB.out | apply below_alloc | apply pw_below_drewN | apply below_drew1 | refine below_set ?_ GE357.out | refine below_set ?_ GE358.out | refine below_set ?_ GE362.out) | exact HB.out)) hb); clear HO_363001; clear HO373; clear BK357; clear BK358; clear BK362; clear HB; have HO_363001 := n0_; have HO373 := n1_; have HO377 := n2_; have BK357 := n3_; have BK358 := n4_; have BK362 := n5_; have HB := n6_; clear n0_ n1_ n2_ n3_ n4_ n5_ n6_; (try clear hb); (try clear hb2); (try clear hk); (try clear hi); (try clear ho0)))
       (try simp only [Act.put, List.setIfInBounds_toArray, List.set_cons_zero, List.set_cons_succ])
       go_cut [84] (fun v84 wc => ∃ (kq : Nat) (x84_45 : Bool), v84 = .bool x84_45 ∧ Aside0 (timesynclaw18_TopoRenumbers.j2 kq t371 t375 x84_45 a0_0 l0_1 a1 = some r) ∧ Aside0 (kq ≤ k2) ∧ Aside0 (Kd.S (Kd.slice 3 (Kd.int .i64)) 30 wc w.heap.size (fun k_ => some k_ ≠ (v376 : Value).ownBlock) v372 t371) ∧ Aside0 (Kd.S (Kd.slice 3 (Kd.int .i64)) 30 wc w.heap.size (fun k_ => some k_ ≠ (v372 : Value).ownBlock) v376 t375) ∧ Aside0 (Kd.R k37 37 wc w.heap.size (fun _ => True) (.slice Ao50 x363001_2.length co50) t370) ∧ Aside0 (wc.heap[gb357]? = some (.cells #[.int .i64 a0_0, (.slice A0_1 l0_1.length c0_1)] 24 (0, 0))) ∧ Aside0 (wc.heap[gb358]? = some (.cells #[.int .u8 a1] 5 (0, 0))) ∧ Aside0 (wc.heap[gb362]? = some (.cells #[.int .i64 a0_0, (.slice Ao50 x363001_2.length co50)] 24 (0, 0))) ∧ Aside0 (Below w.heap.size w wc))
       case first =>
        have H := HC46.out
        clear HC46
        by_cases c57 : t374 = true
        ·subst c57
         have H1 : (if t378 = true then ((topo_Check.f k2 a0_0 t370).bind fun t379 => (if t379 = 0 then ((topo_Diameter.f k2 a0_0 l0_1).bind fun t380 => ((topo_Diameter.f k2 a0_0 t370).bind fun t381 => (timesynclaw18_TopoRenumbers.j2 k2 t371 t375 (t380 != t381) a0_0 l0_1 a1))) else (timesynclaw18_TopoRenumbers.j2 k2 t371 t375 true a0_0 l0_1 a1))) else (timesynclaw18_TopoRenumbers.j2 k2 t371 t375 true a0_0 l0_1 a1)) = some r := by rw [if_pos rfl] at H; exact H
         clear H
         have H := H1
         clear H1
         by_cases c58 : t378 = true
         ·subst c58
          have H1 : ((topo_Check.f k2 a0_0 t370).bind fun t379 => (if t379 = 0 then ((topo_Diameter.f k2 a0_0 l0_1).bind fun t380 => ((topo_Diameter.f k2 a0_0 t370).bind fun t381 => (timesynclaw18_TopoRenumbers.j2 k2 t371 t375 (t380 != t381) a0_0 l0_1 a1))) else (timesynclaw18_TopoRenumbers.j2 k2 t371 t375 true a0_0 l0_1 a1))) = some r := by rw [if_pos rfl] at H; exact H
          clear H
          have H := H1
          clear H1
          replace H := Option.bind_eq_some_iff.mp H
          obtain ⟨t379, A590, H⟩ := H
          replace H : (if t379 = 0 then ((topo_Diameter.f k2 a0_0 l0_1).bind fun t380 => ((topo_Diameter.f k2 a0_0 t370).bind fun t381 => (timesynclaw18_TopoRenumbers.j2 k2 t371 t375 (t380 != t381) a0_0 l0_1 a1))) else (timesynclaw18_TopoRenumbers.j2 k2 t371 t375 true a0_0 l0_1 a1)) = some r := H
          have A59 := Aside0.mk A590
          clear A590
          by_cases c60 : t379 = 0
          ·rw [if_pos c60] at H
           have c60b0 : (t379 == 0) = true := beq_iff_eq.mpr c60
           have c60b1 : (t379 != 0) = false := bne_eq_false_iff_eq.mpr c60
           clear c60
           (first | rw [c60b0] | (simp only [i64_w, i32_w]; rw [c60b0]) | skip)
           replace H := Option.bind_eq_some_iff.mp H
           obtain ⟨t380, A610, H⟩ := H
           replace H : ((topo_Diameter.f k2 a0_0 t370).bind fun t381 => (timesynclaw18_TopoRenumbers.j2 k2 t371 t375 (t380 != t381) a0_0 l0_1 a1)) = some r := H
           have A61 := Aside0.mk A610
           clear A610
           replace H := Option.bind_eq_some_iff.mp H
           obtain ⟨t381, A620, H⟩ := H
           replace H : (timesynclaw18_TopoRenumbers.j2 k2 t371 t375 (t380 != t381) a0_0 l0_1 a1) = some r := H
           have A62 := Aside0.mk A620
           clear A620
           have H' := Aside0.mk H
           clear H
           try go_wp2
           have n0_ := Aside0.mk (Kd.R_drew HO_363001.out)
           have n1_ := Aside0.mk (Kd.S_drew HO373.out)
           have n2_ := Aside0.mk (Kd.S_drew HO377.out)
           have n3_ := Aside0.mk (blk_drew BK357.out)
           have n4_ := Aside0.mk (blk_drew BK358.out)
           have n5_ := Aside0.mk (blk_drew BK362.out)
           have n6_ := Aside0.mk (below_drew1 HB.out)
           clear HO_363001
           clear HO373
           clear HO377
           clear BK357
           clear BK358
           clear BK362
           clear HB
           have HO_363001 := n0_
           have HO373 := n1_
           have HO377 := n2_
           have BK357 := n3_
           have BK358 := n4_
           have BK362 := n5_
           have HB := n6_
           clear n0_ n1_ n2_ n3_ n4_ n5_ n6_
           refine start_ (n := 18) (S := fun w' => w'.cell? ⟨gb362, 0, none⟩ = some (.int .i64 a0_0) ∧ w'.cell? ⟨gb362, 1, none⟩ = some (.slice Ao50 x363001_2.length co50) ∧ w'.cell? ⟨gb357, 0, none⟩ = some (.int .i64 a0_0) ∧ w'.cell? ⟨gb357, 1, none⟩ = some (.slice A0_1 l0_1.length c0_1)) (ds := []) #[false, false, false, false, false, false, false, false, false, false, false, false, false, false, false, false, false, false] (by kernel_rfl) rfl rfl ⟨(blk_cell BK362.out 0).trans rfl, (blk_cell BK362.out 1).trans rfl, (blk_cell BK357.out 0).trans rfl, (blk_cell BK357.out 1).trans rfl⟩ (fun hHeld => ?_); refine with_tabW timesynclaw18_TopoRenumbers.tab13 timesynclaw18_TopoRenumbers.bits13 (fun HT_ HW_ => ?_)
           generalize w56.drew = w63 at HO_363001 HO373 HO377 BK357 BK358 BK362 HB hHeld ⊢
           refine pure_ (i := 0) (N := some 67) (v := ?_) (a' := ?_) #[true, false, false, false, false, false, false, false, false, false, false, false, false, false, false, false, false, false] rfl rfl (any_of HT_.out (by kernel_rfl)) (fun _ _ _ h => h) (Or.inl ⟨by rfl, ?_⟩) ?_ ?_
           rotate_left
           ·intro w'
            go_simp
            with_reducible rfl
           rotate_left
           ·simp only [Act.put, List.setIfInBounds_toArray, List.set_cons_zero, List.set_cons_succ, i64_w, i32_w]
            rfl
           refine pure_ (i := 1) (N := some 68) (v := ?_) (a' := ?_) #[true, true, false, false, false, false, false, false, false, false, false, false, false, false, false, false, false, false] rfl rfl (any_of HT_.out (by kernel_rfl)) (fun _ _ _ h => h) (Or.inl ⟨by rfl, ?_⟩) ?_ ?_
           rotate_left
           ·intro w'
            go_simp
            with_reducible rfl
           rotate_left
           ·simp only [Act.put, List.setIfInBounds_toArray, List.set_cons_zero, List.set_cons_succ, i64_w, i32_w]
            rfl
           refine pure_ (i := 2) (N := some 69) (v := ?_) (a' := ?_) #[true, true, true, false, false, false, false, false, false, false, false, false, false, false, false, false, false, false] rfl rfl (any_of HT_.out (by kernel_rfl)) (fun _ _ _ h => h) (Or.inl ⟨by rfl, ?_⟩) ?_ ?_
           rotate_left
           ·intro w'
            go_simp
            with_reducible rfl
           rotate_left
           ·simp only [Act.put, List.setIfInBounds_toArray, List.set_cons_zero, List.set_cons_succ, i64_w, i32_w]
            rfl
           refine pure_ (i := 3) (N := some 70) (v := ?_) (a' := ?_) #[true, true, true, true, false, false, false, false, false, false, false, false, false, false, false, false, false, false] rfl rfl (any_of HT_.out (by kernel_rfl)) (fun _ _ _ h => h) (Or.inl ⟨by rfl, ?_⟩) ?_ ?_
           rotate_left
           ·intro w'
            go_simp
            with_reducible rfl
           rotate_left
           ·simp only [Act.put, List.setIfInBounds_toArray, List.set_cons_zero, List.set_cons_succ, i64_w, i32_w]
            rfl
           refine pure_ (i := 4) (N := some 71) (v := ?_) (a' := ?_) #[true, true, true, true, true, false, false, false, false, false, false, false, false, false, false, false, false, false] rfl rfl (any_of HT_.out (by kernel_rfl)) (fun _ _ _ h => h) (Or.inl ⟨by rfl, ?_⟩) ?_ ?_
           rotate_left
           ·intro w'
            go_simp
            with_reducible rfl
           rotate_left
           ·simp only [Act.put, List.setIfInBounds_toArray, List.set_cons_zero, List.set_cons_succ, i64_w, i32_w]
            rfl
           refine pure_ (i := 5) (N := some 72) (v := ?_) (a' := ?_) #[true, true, true, true, true, true, false, false, false, false, false, false, false, false, false, false, false, false] rfl rfl (any_of HT_.out (by kernel_rfl)) (fun _ _ _ h => h) (Or.inl ⟨by rfl, ?_⟩) ?_ ?_
           rotate_left
           ·intro w'
            go_simp
            with_reducible rfl
           rotate_left
           ·simp only [Act.put, List.setIfInBounds_toArray, List.set_cons_zero, List.set_cons_succ, i64_w, i32_w]
            rfl
           refine pure_ (i := 6) (N := some 73) (v := ?_) (a' := ?_) #[true, true, true, true, true, true, true, false, false, false, false, false, false, false, false, false, false, false] rfl rfl (any_of HT_.out (by kernel_rfl)) (fun _ _ _ h => h) (Or.inl ⟨by rfl, ?_⟩) ?_ ?_
           rotate_left
           ·intro w'
            go_simp
            with_reducible rfl
           rotate_left
           ·simp only [Act.put, List.setIfInBounds_toArray, List.set_cons_zero, List.set_cons_succ, i64_w, i32_w]
            rfl
           refine take_ (i := 7) (N := some 74) (v := ?_) (a' := ?_) #[true, true, true, true, true, true, true, true, false, false, false, false, false, false, false, false, false, false] rfl rfl (take_ofW HT_.out HW_.out (by kernel_rfl)) (fun _ _ _ h => h) (Or.inl ⟨by rfl, ?_⟩) hHeld ?_ ?_
           rotate_left
           ·rintro w' ⟨s0, s1, s2, s3⟩
            go_simp
            with_reducible rfl
           rotate_left
           ·simp only [Act.put, List.setIfInBounds_toArray, List.set_cons_zero, List.set_cons_succ, i64_w, i32_w]
            rfl
           refine one_ (i := 8) (N := some 75) #[true, true, true, true, true, true, true, true, true, false, false, false, false, false, false, false, false, false] rfl rfl (one_of HT_.out (by kernel_rfl)) (by decide) (fun K hK => ?_)
           refine goes_ Try.func17 (by kernel_rfl) rfl #[.agg #[.int .i64 a0_0, .slice Ao50 t370.length co50]] (by rfl) rfl rfl (by (try simp only [List.map_toArray, List.map_cons, List.map_nil]); first | done | (rw [show t370.length = x363001_2.length from (Kd.R_reads' HO_363001.out).1.symm] <;> rfl) | rfl | (simp only [List.length_drop, List.length_take]; rfl)) ?_
           with_reducible refine (topo_Check.calls k2 a0_0 _ _ t370 t379 _ ?side1 ?side2 A59.out).mono ?_
           (case side1 => repeat (first | exact (Kd.R_reads' HO_363001.out).2.2 | (with_reducible refine Kd.C_alloc ?_ _) | (with_reducible refine Kd.C_drewN ?_ _) | (with_reducible refine Kd.C_drew ?_)))
           (case side2 => rw [show t370.length = x363001_2.length from (Kd.R_reads' HO_363001.out).1.symm]; exact (Kd.R_reads' HO_363001.out).2.1)
           rintro e w64 ⟨rfl, hb⟩
           refine ⟨_, rfl, ?_⟩
           have n0_ := Aside0.mk (Kd.R_below (by (with_reducible repeat (first | apply Kd.R_alloc | apply Kd.R_drewN | apply Kd.R_drew)); exact HO_363001.out) hb)
           have n1_ := Aside0.mk (Kd.S_below (by (with_reducible repeat (first | apply Kd.S_alloc | apply Kd.S_drewN | apply Kd.S_drew)); exact HO373.out) hb)
           have n2_ := Aside0.mk (Kd.S_below (by (with_reducible repeat (first | apply Kd.S_alloc | apply Kd.S_drewN | apply Kd.S_drew)); exact HO377.out) hb)
           have n3_ := Aside0.mk (blk_below (g := gb357) (o := .cells #[.int .i64 a0_0, .slice A0_1 l0_1.length c0_1] 24 (0, 0)) (by (with_reducible repeat (first | refine blk_drewN ?_ _ | refine blk_drew ?_ | refine blk_alloc ?_ _)); exact BK357.out) hb)
           have n4_ := Aside0.mk (blk_below (g := gb358) (o := .cells #[.int .u8 a1] 5 (0, 0)) (by (with_reducible repeat (first | refine blk_drewN ?_ _ | refine blk_drew ?_ | refine blk_alloc ?_ _)); exact BK358.out) hb)
           have n5_ := Aside0.mk (blk_below (g := gb362) (o := .cells #[.int .i64 a0_0, .slice Ao50 x363001_2.length co50] 24 (0, 0)) (by (with_reducible repeat (first | refine blk_drewN ?_ _ | refine blk_drew ?_ | refine blk_alloc ?_ _)); exact BK362.out) hb)
           have n6_ := Aside0.mk (below_step (by repeat (first | (with_reducible first | exact HB.out | apply below_alloc | apply pw_below_drewN | apply below_drew1 | refine below_set ?_ GE357.out | refine below_set ?_ GE358.out | refine below_set ?_ GE362.out) | exact HB.out)) hb)
           clear HO_363001
           clear HO373
           clear HO377
           clear BK357
           clear BK358
           clear BK362
           clear HB
           have HO_363001 := n0_
           have HO373 := n1_
           have HO377 := n2_
           have BK357 := n3_
           have BK358 := n4_
           have BK362 := n5_
           have HB := n6_
           clear n0_ n1_ n2_ n3_ n4_ n5_ n6_
           (try clear hb)
           (try clear hb2)
           (try clear hk)
           (try clear hi)
           refine hK.out _ _ ⟨(blk_cell BK362.out 0).trans rfl, (blk_cell BK362.out 1).trans rfl, (blk_cell BK357.out 0).trans rfl, (blk_cell BK357.out 1).trans rfl⟩ (fun hHeld => ?_)
           clear hK K
           refine norm_ (a' := ?_) ?_ ?_
           rotate_left
           ·show Act.put _ (some 75) _ = _
            simp only [Act.put, List.setIfInBounds_toArray, List.set_cons_zero, List.set_cons_succ, i64_w, i32_w]
            rfl
           refine pure_ (i := 9) (N := some 76) (v := ?_) (a' := ?_) #[true, true, true, true, true, true, true, true, true, true, false, false, false, false, false, false, false, false] rfl rfl (any_of HT_.out (by kernel_rfl)) (fun _ _ _ h => h) (Or.inl ⟨by rfl, ?_⟩) ?_ ?_
           rotate_left
           ·intro w'
            go_simp
            with_reducible rfl
           rotate_left
           ·simp only [Act.put, List.setIfInBounds_toArray, List.set_cons_zero, List.set_cons_succ, i64_w, i32_w]
            rfl
           refine pure_ (i := 10) (N := some 77) (v := ?_) (a' := ?_) #[true, true, true, true, true, true, true, true, true, true, true, false, false, false, false, false, false, false] rfl rfl (any_of HT_.out (by kernel_rfl)) (fun _ _ _ h => h) (Or.inl ⟨by rfl, ?_⟩) ?_ ?_
           rotate_left
           ·intro w'
            go_simp
            with_reducible rfl
           rotate_left
           ·simp only [Act.put, List.setIfInBounds_toArray, List.set_cons_zero, List.set_cons_succ, i64_w, i32_w]
            rfl
           refine pure_ (i := 11) (N := some 78) (v := ?_) (a' := ?_) #[true, true, true, true, true, true, true, true, true, true, true, true, false, false, false, false, false, false] rfl rfl (any_of HT_.out (by kernel_rfl)) (fun _ _ _ h => h) (Or.inl ⟨by rfl, ?_⟩) ?_ ?_
           rotate_left
           ·intro w'
            go_simp
            with_reducible rfl
           rotate_left
           ·simp only [Act.put, List.setIfInBounds_toArray, List.set_cons_zero, List.set_cons_succ, i64_w, i32_w]
            rfl
           refine take_ (i := 12) (N := some 79) (v := ?_) (a' := ?_) #[true, true, true, true, true, true, true, true, true, true, true, true, true, false, false, false, false, false] rfl rfl (take_ofW HT_.out HW_.out (by kernel_rfl)) (fun _ _ _ h => h) (Or.inl ⟨by rfl, ?_⟩) hHeld ?_ ?_
           rotate_left
           ·rintro w' ⟨s0, s1, s2, s3⟩
            go_simp
            with_reducible rfl
           rotate_left
           ·simp only [Act.put, List.setIfInBounds_toArray, List.set_cons_zero, List.set_cons_succ, i64_w, i32_w]
            rfl
           refine take_ (i := 14) (N := some 81) (v := ?_) (a' := ?_) #[true, true, true, true, true, true, true, true, true, true, true, true, true, false, true, false, false, false] rfl rfl (take_ofW HT_.out HW_.out (by kernel_rfl)) (fun _ _ _ h => h) (Or.inl ⟨by rfl, ?_⟩) hHeld ?_ ?_
           rotate_left
           ·rintro w' ⟨s0, s1, s2, s3⟩
            go_simp
            with_reducible rfl
           rotate_left
           ·simp only [Act.put, List.setIfInBounds_toArray, List.set_cons_zero, List.set_cons_succ, i64_w, i32_w]
            rfl
           refine one_ (i := 13) (N := some 80) #[true, true, true, true, true, true, true, true, true, true, true, true, true, true, true, false, false, false] rfl rfl (one_of HT_.out (by kernel_rfl)) (by decide) (fun K hK => ?_)
           refine goes_ Try.func26 (by kernel_rfl) rfl #[.agg #[.int .i64 a0_0, .slice A0_1 l0_1.length c0_1]] (by rfl) rfl rfl (by (try simp only [List.map_toArray, List.map_cons, List.map_nil]); first | done | rfl | (simp only [List.length_drop, List.length_take]; rfl)) ?_
           with_reducible refine (topo_Diameter.calls k2 a0_0 _ _ l0_1 t380 _ ?side1 ?side2 A61.out).mono ?_
           (case side1 => repeat (first | exact (Kd.C_below HR0_1.out HB.out) | (with_reducible refine Kd.C_alloc ?_ _) | (with_reducible refine Kd.C_drewN ?_ _) | (with_reducible refine Kd.C_drew ?_)))
           (case side2 => exact HC0_1.out)
           rintro e w65 ⟨rfl, hb⟩
           refine ⟨_, rfl, ?_⟩
           have n0_ := Aside0.mk (Kd.R_below (by (with_reducible repeat (first | apply Kd.R_alloc | apply Kd.R_drewN | apply Kd.R_drew)); exact HO_363001.out) hb)
           have n1_ := Aside0.mk (Kd.S_below (by (with_reducible repeat (first | apply Kd.S_alloc | apply Kd.S_drewN | apply Kd.S_drew)); exact HO373.out) hb)
           have n2_ := Aside0.mk (Kd.S_below (by (with_reducible repeat (first | apply Kd.S_alloc | apply Kd.S_drewN | apply Kd.S_drew)); exact HO377.out) hb)
           have n3_ := Aside0.mk (blk_below (g := gb357) (o := .cells #[.int .i64 a0_0, .slice A0_1 l0_1.length c0_1] 24 (0, 0)) (by (with_reducible repeat (first | refine blk_drewN ?_ _ | refine blk_drew ?_ | refine blk_alloc ?_ _)); exact BK357.out) hb)
           have n4_ := Aside0.mk (blk_below (g := gb358) (o := .cells #[.int .u8 a1] 5 (0, 0)) (by (with_reducible repeat (first | refine blk_drewN ?_ _ | refine blk_drew ?_ | refine blk_alloc ?_ _)); exact BK358.out) hb)
           have n5_ := Aside0.mk (blk_below (g := gb362) (o := .cells #[.int .i64 a0_0, .slice Ao50 x363001_2.length co50] 24 (0, 0)) (by (with_reducible repeat (first | refine blk_drewN ?_ _ | refine blk_drew ?_ | refine blk_alloc ?_ _)); exact BK362.out) hb)
           have n6_ := Aside0.mk (below_step (by repeat (first | (with_reducible first | exact HB.out | apply below_alloc | apply pw_below_drewN | apply below_drew1 | refine below_set ?_ GE357.out | refine below_set ?_ GE358.out | refine below_set ?_ GE362.out) | exact HB.out)) hb)
           clear HO_363001
           clear HO373
           clear HO377
           clear BK357
           clear BK358
           clear BK362
           clear HB
           have HO_363001 := n0_
           have HO373 := n1_
           have HO377 := n2_
           have BK357 := n3_
           have BK358 := n4_
           have BK362 := n5_
           have HB := n6_
           clear n0_ n1_ n2_ n3_ n4_ n5_ n6_
           (try clear hb)
           (try clear hb2)
           (try clear hk)
           (try clear hi)
           refine hK.out _ _ ⟨(blk_cell BK362.out 0).trans rfl, (blk_cell BK362.out 1).trans rfl, (blk_cell BK357.out 0).trans rfl, (blk_cell BK357.out 1).trans rfl⟩ (fun hHeld => ?_)
           clear hK K
           refine norm_ (a' := ?_) ?_ ?_
           rotate_left
           ·show Act.put _ (some 80) _ = _
            simp only [Act.put, List.setIfInBounds_toArray, List.set_cons_zero, List.set_cons_succ, i64_w, i32_w]
            rfl
           refine one_ (i := 15) (N := some 82) #[true, true, true, true, true, true, true, true, true, true, true, true, true, true, true, true, false, false] rfl rfl (one_of HT_.out (by kernel_rfl)) (by decide) (fun K hK => ?_)
           refine goes_ Try.func26 (by kernel_rfl) rfl #[.agg #[.int .i64 a0_0, .slice Ao50 t370.length co50]] (by rfl) rfl rfl (by (try simp only [List.map_toArray, List.map_cons, List.map_nil]); first | done | (rw [show t370.length = x363001_2.length from (Kd.R_reads' HO_363001.out).1.symm] <;> rfl) | rfl | (simp only [List.length_drop, List.length_take]; rfl)) ?_
           with_reducible refine (topo_Diameter.calls k2 a0_0 _ _ t370 t381 _ ?side1 ?side2 A62.out).mono ?_
           (case side1 => repeat (first | exact (Kd.R_reads' HO_363001.out).2.2 | (with_reducible refine Kd.C_alloc ?_ _) | (with_reducible refine Kd.C_drewN ?_ _) | (with_reducible refine Kd.C_drew ?_)))
           (case side2 => rw [show t370.length = x363001_2.length from (Kd.R_reads' HO_363001.out).1.symm]; exact (Kd.R_reads' HO_363001.out).2.1)
           rintro e w66 ⟨rfl, hb⟩
           refine ⟨_, rfl, ?_⟩
           have n0_ := Aside0.mk (Kd.R_below (by (with_reducible repeat (first | apply Kd.R_alloc | apply Kd.R_drewN | apply Kd.R_drew)); exact HO_363001.out) hb)
           have n1_ := Aside0.mk (Kd.S_below (by (with_reducible repeat (first | apply Kd.S_alloc | apply Kd.S_drewN | apply Kd.S_drew)); exact HO373.out) hb)
           have n2_ := Aside0.mk (Kd.S_below (by (with_reducible repeat (first | apply Kd.S_alloc | apply Kd.S_drewN | apply Kd.S_drew)); exact HO377.out) hb)
           have n3_ := Aside0.mk (blk_below (g := gb357) (o := .cells #[.int .i64 a0_0, .slice A0_1 l0_1.length c0_1] 24 (0, 0)) (by (with_reducible repeat (first | refine blk_drewN ?_ _ | refine blk_drew ?_ | refine blk_alloc ?_ _)); exact BK357.out) hb)
           have n4_ := Aside0.mk (blk_below (g := gb358) (o := .cells #[.int .u8 a1] 5 (0, 0)) (by (with_reducible repeat (first | refine blk_drewN ?_ _ | refine blk_drew ?_ | refine blk_alloc ?_ _)); exact BK358.out) hb)
           have n5_ := Aside0.mk (blk_below (g := gb362) (o := .cells #[.int .i64 a0_0, .slice Ao50 x363001_2.length co50] 24 (0, 0)) (by (with_reducible repeat (first | refine blk_drewN ?_ _ | refine blk_drew ?_ | refine blk_alloc ?_ _)); exact BK362.out) hb)
           have n6_ := Aside0.mk (below_step (by repeat (first | (with_reducible first | exact HB.out | apply below_alloc | apply pw_below_drewN | apply below_drew1 | refine below_set ?_ GE357.out | refine below_set ?_ GE358.out | refine below_set ?_ GE362.out) | exact HB.out)) hb)
           clear HO_363001
           clear HO373
           clear HO377
           clear BK357
           clear BK358
           clear BK362
           clear HB
           have HO_363001 := n0_
           have HO373 := n1_
           have HO377 := n2_
           have BK357 := n3_
           have BK358 := n4_
           have BK362 := n5_
           have HB := n6_
           clear n0_ n1_ n2_ n3_ n4_ n5_ n6_
           (try clear hb)
           (try clear hb2)
           (try clear hk)
           (try clear hi)
           refine hK.out _ _ ⟨(blk_cell BK362.out 0).trans rfl, (blk_cell BK362.out 1).trans rfl, (blk_cell BK357.out 0).trans rfl, (blk_cell BK357.out 1).trans rfl⟩ (fun hHeld => ?_)
           clear hK K
           refine norm_ (a' := ?_) ?_ ?_
           rotate_left
           ·show Act.put _ (some 82) _ = _
            simp only [Act.put, List.setIfInBounds_toArray, List.set_cons_zero, List.set_cons_succ, i64_w, i32_w]
            rfl
           refine pure_ (i := 16) (N := some 83) (v := ?_) (a' := ?_) #[true, true, true, true, true, true, true, true, true, true, true, true, true, true, true, true, true, false] rfl rfl (any_of HT_.out (by kernel_rfl)) (fun _ _ _ h => h) (Or.inl ⟨by rfl, ?_⟩) ?_ ?_
           rotate_left
           ·intro w'
            go_simp
            with_reducible rfl
           rotate_left
           ·simp only [Act.put, List.setIfInBounds_toArray, List.set_cons_zero, List.set_cons_succ, i64_w, i32_w]
            rfl
           refine pure_ (i := 17) (N := some 84) (v := ?_) (a' := ?_) #[true, true, true, true, true, true, true, true, true, true, true, true, true, true, true, true, true, true] rfl rfl (any_of HT_.out (by kernel_rfl)) (fun _ _ _ h => h) (Or.inl ⟨by rfl, ?_⟩) ?_ ?_
           rotate_left
           ·intro w'
            go_simp
            with_reducible rfl
           rotate_left
           ·simp only [Act.put, List.setIfInBounds_toArray, List.set_cons_zero, List.set_cons_succ, i64_w, i32_w]
            rfl
           refine done_ (done_of HT_.out (by kernel_rfl)) ?_
           try go_wp2
           go_meet
           case rel => exact ⟨_, ((t380 != t381)), (by first | rfl | (simp; done) | (simp [*]; done)), H', ⟨by have := HJ2.out; have := HK2.out; first | omega | exact Nat.le_refl _⟩, ⟨by (with_reducible repeat (first | apply Kd.S_alloc | apply Kd.S_drewN | apply Kd.S_drew)); exact Kd.S_mono HO373.out (fun _ hk => hk.2)⟩, ⟨by (with_reducible repeat (first | apply Kd.S_alloc | apply Kd.S_drewN | apply Kd.S_drew)); exact Kd.S_mono HO377.out (fun _ hk => hk.2)⟩, ⟨by (with_reducible repeat (first | apply Kd.R_alloc | apply Kd.R_drewN | apply Kd.R_drew)); exact HO_363001.out⟩, ⟨by (with_reducible repeat (first | refine blk_drewN ?_ _ | refine blk_drew ?_ | refine blk_alloc ?_ _)); exact BK357.out⟩, ⟨by (with_reducible repeat (first | refine blk_drewN ?_ _ | refine blk_drew ?_ | refine blk_alloc ?_ _)); exact BK358.out⟩, ⟨by (with_reducible repeat (first | refine blk_drewN ?_ _ | refine blk_drew ?_ | refine blk_alloc ?_ _)); exact BK362.out⟩, ⟨by repeat (first | (with_reducible first | exact HB.out | apply below_alloc | apply pw_below_drewN | apply below_drew1 | refine below_set ?_ GE357.out | refine below_set ?_ GE358.out | refine below_set ?_ GE362.out) | exact HB.out)⟩⟩
          ·rw [if_neg c60] at H
           have c60b0 : (t379 == 0) = false := beq_eq_false_iff_ne.mpr c60
           have c60b1 : (t379 != 0) = true := bne_iff_ne.mpr c60
           (first | rw [c60b0] | (simp only [i64_w, i32_w]; rw [c60b0]) | skip)
           have H' := Aside0.mk H
           clear H
           try go_wp2
           have n0_ := Aside0.mk (Kd.R_drew HO_363001.out)
           have n1_ := Aside0.mk (Kd.S_drew HO373.out)
           have n2_ := Aside0.mk (Kd.S_drew HO377.out)
           have n3_ := Aside0.mk (blk_drew BK357.out)
           have n4_ := Aside0.mk (blk_drew BK358.out)
           have n5_ := Aside0.mk (blk_drew BK362.out)
           have n6_ := Aside0.mk (below_drew1 HB.out)
           clear HO_363001
           clear HO373
           clear HO377
           clear BK357
           clear BK358
           clear BK362
           clear HB
           have HO_363001 := n0_
           have HO373 := n1_
           have HO377 := n2_
           have BK357 := n3_
           have BK358 := n4_
           have BK362 := n5_
           have HB := n6_
           clear n0_ n1_ n2_ n3_ n4_ n5_ n6_
           refine start_ (n := 18) (S := fun w' => w'.cell? ⟨gb362, 0, none⟩ = some (.int .i64 a0_0) ∧ w'.cell? ⟨gb362, 1, none⟩ = some (.slice Ao50 x363001_2.length co50)) (ds := []) #[false, false, false, false, false, false, false, false, false, false, false, false, false, false, false, false, false, false] (by kernel_rfl) rfl rfl ⟨(blk_cell BK362.out 0).trans rfl, (blk_cell BK362.out 1).trans rfl⟩ (fun hHeld => ?_); refine with_tabW timesynclaw18_TopoRenumbers.tab13 timesynclaw18_TopoRenumbers.bits13 (fun HT_ HW_ => ?_)
           generalize w56.drew = w67 at HO_363001 HO373 HO377 BK357 BK358 BK362 HB hHeld ⊢
           refine pure_ (i := 0) (N := some 67) (v := ?_) (a' := ?_) #[true, false, false, false, false, false, false, false, false, false, false, false, false, false, false, false, false, false] rfl rfl (any_of HT_.out (by kernel_rfl)) (fun _ _ _ h => h) (Or.inl ⟨by rfl, ?_⟩) ?_ ?_
           rotate_left
           ·intro w'
            go_simp
            with_reducible rfl
           rotate_left
           ·simp only [Act.put, List.setIfInBounds_toArray, List.set_cons_zero, List.set_cons_succ, i64_w, i32_w]
            rfl
           refine pure_ (i := 1) (N := some 68) (v := ?_) (a' := ?_) #[true, true, false, false, false, false, false, false, false, false, false, false, false, false, false, false, false, false] rfl rfl (any_of HT_.out (by kernel_rfl)) (fun _ _ _ h => h) (Or.inl ⟨by rfl, ?_⟩) ?_ ?_
           rotate_left
           ·intro w'
            go_simp
            with_reducible rfl
           rotate_left
           ·simp only [Act.put, List.setIfInBounds_toArray, List.set_cons_zero, List.set_cons_succ, i64_w, i32_w]
            rfl
           refine pure_ (i := 2) (N := some 69) (v := ?_) (a' := ?_) #[true, true, true, false, false, false, false, false, false, false, false, false, false, false, false, false, false, false] rfl rfl (any_of HT_.out (by kernel_rfl)) (fun _ _ _ h => h) (Or.inl ⟨by rfl, ?_⟩) ?_ ?_
           rotate_left
           ·intro w'
            go_simp
            with_reducible rfl
           rotate_left
           ·simp only [Act.put, List.setIfInBounds_toArray, List.set_cons_zero, List.set_cons_succ, i64_w, i32_w]
            rfl
           refine pure_ (i := 3) (N := some 70) (v := ?_) (a' := ?_) #[true, true, true, true, false, false, false, false, false, false, false, false, false, false, false, false, false, false] rfl rfl (any_of HT_.out (by kernel_rfl)) (fun _ _ _ h => h) (Or.inl ⟨by rfl, ?_⟩) ?_ ?_
           rotate_left
           ·intro w'
            go_simp
            with_reducible rfl
           rotate_left
           ·simp only [Act.put, List.setIfInBounds_toArray, List.set_cons_zero, List.set_cons_succ, i64_w, i32_w]
            rfl
           refine pure_ (i := 4) (N := some 71) (v := ?_) (a' := ?_) #[true, true, true, true, true, false, false, false, false, false, false, false, false, false, false, false, false, false] rfl rfl (any_of HT_.out (by kernel_rfl)) (fun _ _ _ h => h) (Or.inl ⟨by rfl, ?_⟩) ?_ ?_
           rotate_left
           ·intro w'
            go_simp
            with_reducible rfl
           rotate_left
           ·simp only [Act.put, List.setIfInBounds_toArray, List.set_cons_zero, List.set_cons_succ, i64_w, i32_w]
            rfl
           refine pure_ (i := 5) (N := some 72) (v := ?_) (a' := ?_) #[true, true, true, true, true, true, false, false, false, false, false, false, false, false, false, false, false, false] rfl rfl (any_of HT_.out (by kernel_rfl)) (fun _ _ _ h => h) (Or.inl ⟨by rfl, ?_⟩) ?_ ?_
           rotate_left
           ·intro w'
            go_simp
            with_reducible rfl
           rotate_left
           ·simp only [Act.put, List.setIfInBounds_toArray, List.set_cons_zero, List.set_cons_succ, i64_w, i32_w]
            rfl
           refine pure_ (i := 6) (N := some 73) (v := ?_) (a' := ?_) #[true, true, true, true, true, true, true, false, false, false, false, false, false, false, false, false, false, false] rfl rfl (any_of HT_.out (by kernel_rfl)) (fun _ _ _ h => h) (Or.inl ⟨by rfl, ?_⟩) ?_ ?_
           rotate_left
           ·intro w'
            go_simp
            with_reducible rfl
           rotate_left
           ·simp only [Act.put, List.setIfInBounds_toArray, List.set_cons_zero, List.set_cons_succ, i64_w, i32_w]
            rfl
           refine take_ (i := 7) (N := some 74) (v := ?_) (a' := ?_) #[true, true, true, true, true, true, true, true, false, false, false, false, false, false, false, false, false, false] rfl rfl (take_ofW HT_.out HW_.out (by kernel_rfl)) (fun _ _ _ h => h) (Or.inl ⟨by rfl, ?_⟩) hHeld ?_ ?_
           rotate_left
           ·rintro w' ⟨s0, s1⟩
            go_simp
            with_reducible rfl
           rotate_left
           ·simp only [Act.put, List.setIfInBounds_toArray, List.set_cons_zero, List.set_cons_succ, i64_w, i32_w]
            rfl
           refine one_ (i := 8) (N := some 75) #[true, true, true, true, true, true, true, true, true, false, false, false, false, false, false, false, false, false] rfl rfl (one_of HT_.out (by kernel_rfl)) (by decide) (fun K hK => ?_)
           refine goes_ Try.func17 (by kernel_rfl) rfl #[.agg #[.int .i64 a0_0, .slice Ao50 t370.length co50]] (by rfl) rfl rfl (by (try simp only [List.map_toArray, List.map_cons, List.map_nil]); first | done | (rw [show t370.length = x363001_2.length from (Kd.R_reads' HO_363001.out).1.symm] <;> rfl) | rfl | (simp only [List.length_drop, List.length_take]; rfl)) ?_
           with_reducible refine (topo_Check.calls k2 a0_0 _ _ t370 t379 _ ?side1 ?side2 A59.out).mono ?_
           (case side1 => repeat (first | exact (Kd.R_reads' HO_363001.out).2.2 | (with_reducible refine Kd.C_alloc ?_ _) | (with_reducible refine Kd.C_drewN ?_ _) | (with_reducible refine Kd.C_drew ?_)))
           (case side2 => rw [show t370.length = x363001_2.length from (Kd.R_reads' HO_363001.out).1.symm]; exact (Kd.R_reads' HO_363001.out).2.1)
           rintro e w68 ⟨rfl, hb⟩
           refine ⟨_, rfl, ?_⟩
           have n0_ := Aside0.mk (Kd.R_below (by (with_reducible repeat (first | apply Kd.R_alloc | apply Kd.R_drewN | apply Kd.R_drew)); exact HO_363001.out) hb)
           have n1_ := Aside0.mk (Kd.S_below (by (with_reducible repeat (first | apply Kd.S_alloc | apply Kd.S_drewN | apply Kd.S_drew)); exact HO373.out) hb)
           have n2_ := Aside0.mk (Kd.S_below (by (with_reducible repeat (first | apply Kd.S_alloc | apply Kd.S_drewN | apply Kd.S_drew)); exact HO377.out) hb)
           have n3_ := Aside0.mk (blk_below (g := gb357) (o := .cells #[.int .i64 a0_0, .slice A0_1 l0_1.length c0_1] 24 (0, 0)) (by (with_reducible repeat (first | refine blk_drewN ?_ _ | refine blk_drew ?_ | refine blk_alloc ?_ _)); exact BK357.out) hb)
           have n4_ := Aside0.mk (blk_below (g := gb358) (o := .cells #[.int .u8 a1] 5 (0, 0)) (by (with_reducible repeat (first | refine blk_drewN ?_ _ | refine blk_drew ?_ | refine blk_alloc ?_ _)); exact BK358.out) hb)
           have n5_ := Aside0.mk (blk_below (g := gb362) (o := .cells #[.int .i64 a0_0, .slice Ao50 x363001_2.length co50] 24 (0, 0)) (by (with_reducible repeat (first | refine blk_drewN ?_ _ | refine blk_drew ?_ | refine blk_alloc ?_ _)); exact BK362.out) hb)
           have n6_ := Aside0.mk (below_step (by repeat (first | (with_reducible first | exact HB.out | apply below_alloc | apply pw_below_drewN | apply below_drew1 | refine below_set ?_ GE357.out | refine below_set ?_ GE358.out | refine below_set ?_ GE362.out) | exact HB.out)) hb)
           clear HO_363001
           clear HO373
           clear HO377
           clear BK357
           clear BK358
           clear BK362
           clear HB
           have HO_363001 := n0_
           have HO373 := n1_
           have HO377 := n2_
           have BK357 := n3_
           have BK358 := n4_
           have BK362 := n5_
           have HB := n6_
           clear n0_ n1_ n2_ n3_ n4_ n5_ n6_
           (try clear hb)
           (try clear hb2)
           (try clear hk)
           (try clear hi)
           refine hK.out _ _ ⟨(blk_cell BK362.out 0).trans rfl, (blk_cell BK362.out 1).trans rfl⟩ (fun hHeld => ?_)
           clear hK K
           refine norm_ (a' := ?_) ?_ ?_
           rotate_left
           ·show Act.put _ (some 75) _ = _
            simp only [Act.put, List.setIfInBounds_toArray, List.set_cons_zero, List.set_cons_succ, i64_w, i32_w]
            rfl
           refine pure_ (i := 9) (N := some 76) (v := ?_) (a' := ?_) #[true, true, true, true, true, true, true, true, true, true, false, false, false, false, false, false, false, false] rfl rfl (any_of HT_.out (by kernel_rfl)) (fun _ _ _ h => h) (Or.inl ⟨by rfl, ?_⟩) ?_ ?_
           rotate_left
           ·intro w'
            go_simp
            with_reducible rfl
           rotate_left
           ·simp only [Act.put, List.setIfInBounds_toArray, List.set_cons_zero, List.set_cons_succ, i64_w, i32_w]
            rfl
           refine pure_ (i := 10) (N := some 77) (v := ?_) (a' := ?_) #[true, true, true, true, true, true, true, true, true, true, true, false, false, false, false, false, false, false] rfl rfl (any_of HT_.out (by kernel_rfl)) (fun _ _ _ h => h) (Or.inl ⟨by rfl, ?_⟩) ?_ ?_
           rotate_left
           ·intro w'
            go_simp
            with_reducible rfl
           rotate_left
           ·simp only [Act.put, List.setIfInBounds_toArray, List.set_cons_zero, List.set_cons_succ, i64_w, i32_w]
            rfl
           refine pure_ (i := 11) (N := some 78) (v := ?_) (a' := ?_) #[true, true, true, true, true, true, true, true, true, true, true, true, false, false, false, false, false, false] rfl rfl (any_of HT_.out (by kernel_rfl)) (fun _ _ _ h => h) (Or.inl ⟨by rfl, ?_⟩) ?_ ?_
           rotate_left
           ·intro w'
            go_simp
            with_reducible rfl
           rotate_left
           ·simp only [Act.put, List.setIfInBounds_toArray, List.set_cons_zero, List.set_cons_succ, i64_w, i32_w]
            rfl
           refine pure_ (i := 12) (N := some 79) (v := undef) (a' := ?_) #[true, true, true, true, true, true, true, true, true, true, true, true, true, false, false, false, false, false] rfl rfl (any_of HT_.out (by kernel_rfl)) (fun _ _ _ h => h) (Or.inr ⟨by rfl, rfl⟩) ?_ ?_
           rotate_left
           ·simp only [Act.put, List.setIfInBounds_toArray, List.set_cons_zero, List.set_cons_succ, i64_w, i32_w]
            rfl
           refine pure_ (i := 13) (N := some 80) (v := undef) (a' := ?_) #[true, true, true, true, true, true, true, true, true, true, true, true, true, true, false, false, false, false] rfl rfl (any_of HT_.out (by kernel_rfl)) (fun _ _ _ h => h) (Or.inr ⟨by rfl, rfl⟩) ?_ ?_
           rotate_left
           ·simp only [Act.put, List.setIfInBounds_toArray, List.set_cons_zero, List.set_cons_succ, i64_w, i32_w]
            rfl
           refine pure_ (i := 14) (N := some 81) (v := undef) (a' := ?_) #[true, true, true, true, true, true, true, true, true, true, true, true, true, true, true, false, false, false] rfl rfl (any_of HT_.out (by kernel_rfl)) (fun _ _ _ h => h) (Or.inr ⟨by rfl, rfl⟩) ?_ ?_
           rotate_left
           ·simp only [Act.put, List.setIfInBounds_toArray, List.set_cons_zero, List.set_cons_succ, i64_w, i32_w]
            rfl
           refine pure_ (i := 15) (N := some 82) (v := undef) (a' := ?_) #[true, true, true, true, true, true, true, true, true, true, true, true, true, true, true, true, false, false] rfl rfl (any_of HT_.out (by kernel_rfl)) (fun _ _ _ h => h) (Or.inr ⟨by rfl, rfl⟩) ?_ ?_
           rotate_left
           ·simp only [Act.put, List.setIfInBounds_toArray, List.set_cons_zero, List.set_cons_succ, i64_w, i32_w]
            rfl
           refine pure_ (i := 16) (N := some 83) (v := undef) (a' := ?_) #[true, true, true, true, true, true, true, true, true, true, true, true, true, true, true, true, true, false] rfl rfl (any_of HT_.out (by kernel_rfl)) (fun _ _ _ h => h) (Or.inr ⟨by rfl, rfl⟩) ?_ ?_
           rotate_left
           ·simp only [Act.put, List.setIfInBounds_toArray, List.set_cons_zero, List.set_cons_succ, i64_w, i32_w]
            rfl
           refine pure_ (i := 17) (N := some 84) (v := ?_) (a' := ?_) #[true, true, true, true, true, true, true, true, true, true, true, true, true, true, true, true, true, true] rfl rfl (any_of HT_.out (by kernel_rfl)) (fun _ _ _ h => h) (Or.inl ⟨by rfl, ?_⟩) ?_ ?_
           rotate_left
           ·intro w'
            go_simp
            with_reducible rfl
           rotate_left
           ·simp only [Act.put, List.setIfInBounds_toArray, List.set_cons_zero, List.set_cons_succ, i64_w, i32_w]
            rfl
           refine done_ (done_of HT_.out (by kernel_rfl)) ?_
           try go_wp2
           go_meet
           case rel => exact ⟨_, (true), (by first | rfl | (simp; done) | (simp [*]; done)), H', ⟨by have := HJ2.out; have := HK2.out; first | omega | exact Nat.le_refl _⟩, ⟨by (with_reducible repeat (first | apply Kd.S_alloc | apply Kd.S_drewN | apply Kd.S_drew)); exact Kd.S_mono HO373.out (fun _ hk => hk.2)⟩, ⟨by (with_reducible repeat (first | apply Kd.S_alloc | apply Kd.S_drewN | apply Kd.S_drew)); exact Kd.S_mono HO377.out (fun _ hk => hk.2)⟩, ⟨by (with_reducible repeat (first | apply Kd.R_alloc | apply Kd.R_drewN | apply Kd.R_drew)); exact HO_363001.out⟩, ⟨by (with_reducible repeat (first | refine blk_drewN ?_ _ | refine blk_drew ?_ | refine blk_alloc ?_ _)); exact BK357.out⟩, ⟨by (with_reducible repeat (first | refine blk_drewN ?_ _ | refine blk_drew ?_ | refine blk_alloc ?_ _)); exact BK358.out⟩, ⟨by (with_reducible repeat (first | refine blk_drewN ?_ _ | refine blk_drew ?_ | refine blk_alloc ?_ _)); exact BK362.out⟩, ⟨by repeat (first | (with_reducible first | exact HB.out | apply below_alloc | apply pw_below_drewN | apply below_drew1 | refine below_set ?_ GE357.out | refine below_set ?_ GE358.out | refine below_set ?_ GE362.out) | exact HB.out)⟩⟩
         ·replace c58 := Bool.eq_false_iff.mpr c58
          subst c58
          have H1 : (timesynclaw18_TopoRenumbers.j2 k2 t371 t375 true a0_0 l0_1 a1) = some r := by rw [if_neg (show ¬ (false = true) by decide)] at H; exact H
          clear H
          have H := H1
          clear H1
          have H' := Aside0.mk H
          clear H
          try go_wp2
          have n0_ := Aside0.mk (Kd.R_drew HO_363001.out)
          have n1_ := Aside0.mk (Kd.S_drew HO373.out)
          have n2_ := Aside0.mk (Kd.S_drew HO377.out)
          have n3_ := Aside0.mk (blk_drew BK357.out)
          have n4_ := Aside0.mk (blk_drew BK358.out)
          have n5_ := Aside0.mk (blk_drew BK362.out)
          have n6_ := Aside0.mk (below_drew1 HB.out)
          clear HO_363001
          clear HO373
          clear HO377
          clear BK357
          clear BK358
          clear BK362
          clear HB
          have HO_363001 := n0_
          have HO373 := n1_
          have HO377 := n2_
          have BK357 := n3_
          have BK358 := n4_
          have BK362 := n5_
          have HB := n6_
          clear n0_ n1_ n2_ n3_ n4_ n5_ n6_
          refine start_ (n := 18) (S := fun w' => True) (ds := []) #[false, false, false, false, false, false, false, false, false, false, false, false, false, false, false, false, false, false] (by kernel_rfl) rfl rfl trivial (fun hHeld => ?_); refine with_tabW timesynclaw18_TopoRenumbers.tab13 timesynclaw18_TopoRenumbers.bits13 (fun HT_ HW_ => ?_)
          generalize w56.drew = w69 at HO_363001 HO373 HO377 BK357 BK358 BK362 HB hHeld ⊢
          refine pure_ (i := 0) (N := some 67) (v := ?_) (a' := ?_) #[true, false, false, false, false, false, false, false, false, false, false, false, false, false, false, false, false, false] rfl rfl (any_of HT_.out (by kernel_rfl)) (fun _ _ _ h => h) (Or.inl ⟨by rfl, ?_⟩) ?_ ?_
          rotate_left
          ·intro w'
           go_simp
           with_reducible rfl
          rotate_left
          ·simp only [Act.put, List.setIfInBounds_toArray, List.set_cons_zero, List.set_cons_succ, i64_w, i32_w]
           rfl
          refine pure_ (i := 1) (N := some 68) (v := ?_) (a' := ?_) #[true, true, false, false, false, false, false, false, false, false, false, false, false, false, false, false, false, false] rfl rfl (any_of HT_.out (by kernel_rfl)) (fun _ _ _ h => h) (Or.inl ⟨by rfl, ?_⟩) ?_ ?_
          rotate_left
          ·intro w'
           go_simp
           with_reducible rfl
          rotate_left
          ·simp only [Act.put, List.setIfInBounds_toArray, List.set_cons_zero, List.set_cons_succ, i64_w, i32_w]
           rfl
          refine pure_ (i := 2) (N := some 69) (v := ?_) (a' := ?_) #[true, true, true, false, false, false, false, false, false, false, false, false, false, false, false, false, false, false] rfl rfl (any_of HT_.out (by kernel_rfl)) (fun _ _ _ h => h) (Or.inl ⟨by rfl, ?_⟩) ?_ ?_
          rotate_left
          ·intro w'
           go_simp
           with_reducible rfl
          rotate_left
          ·simp only [Act.put, List.setIfInBounds_toArray, List.set_cons_zero, List.set_cons_succ, i64_w, i32_w]
           rfl
          refine pure_ (i := 3) (N := some 70) (v := ?_) (a' := ?_) #[true, true, true, true, false, false, false, false, false, false, false, false, false, false, false, false, false, false] rfl rfl (any_of HT_.out (by kernel_rfl)) (fun _ _ _ h => h) (Or.inl ⟨by rfl, ?_⟩) ?_ ?_
          rotate_left
          ·intro w'
           go_simp
           with_reducible rfl
          rotate_left
          ·simp only [Act.put, List.setIfInBounds_toArray, List.set_cons_zero, List.set_cons_succ, i64_w, i32_w]
           rfl
          refine pure_ (i := 4) (N := some 71) (v := ?_) (a' := ?_) #[true, true, true, true, true, false, false, false, false, false, false, false, false, false, false, false, false, false] rfl rfl (any_of HT_.out (by kernel_rfl)) (fun _ _ _ h => h) (Or.inl ⟨by rfl, ?_⟩) ?_ ?_
          rotate_left
          ·intro w'
           go_simp
           with_reducible rfl
          rotate_left
          ·simp only [Act.put, List.setIfInBounds_toArray, List.set_cons_zero, List.set_cons_succ, i64_w, i32_w]
           rfl
          refine pure_ (i := 5) (N := some 72) (v := ?_) (a' := ?_) #[true, true, true, true, true, true, false, false, false, false, false, false, false, false, false, false, false, false] rfl rfl (any_of HT_.out (by kernel_rfl)) (fun _ _ _ h => h) (Or.inl ⟨by rfl, ?_⟩) ?_ ?_
          rotate_left
          ·intro w'
           go_simp
           with_reducible rfl
          rotate_left
          ·simp only [Act.put, List.setIfInBounds_toArray, List.set_cons_zero, List.set_cons_succ, i64_w, i32_w]
           rfl
          refine pure_ (i := 6) (N := some 73) (v := ?_) (a' := ?_) #[true, true, true, true, true, true, true, false, false, false, false, false, false, false, false, false, false, false] rfl rfl (any_of HT_.out (by kernel_rfl)) (fun _ _ _ h => h) (Or.inl ⟨by rfl, ?_⟩) ?_ ?_
          rotate_left
          ·intro w'
           go_simp
           with_reducible rfl
          rotate_left
          ·simp only [Act.put, List.setIfInBounds_toArray, List.set_cons_zero, List.set_cons_succ, i64_w, i32_w]
           rfl
          refine pure_ (i := 7) (N := some 74) (v := undef) (a' := ?_) #[true, true, true, true, true, true, true, true, false, false, false, false, false, false, false, false, false, false] rfl rfl (any_of HT_.out (by kernel_rfl)) (fun _ _ _ h => h) (Or.inr ⟨by rfl, rfl⟩) ?_ ?_
          rotate_left
          ·simp only [Act.put, List.setIfInBounds_toArray, List.set_cons_zero, List.set_cons_succ, i64_w, i32_w]
           rfl
          refine pure_ (i := 8) (N := some 75) (v := undef) (a' := ?_) #[true, true, true, true, true, true, true, true, true, false, false, false, false, false, false, false, false, false] rfl rfl (any_of HT_.out (by kernel_rfl)) (fun _ _ _ h => h) (Or.inr ⟨by rfl, rfl⟩) ?_ ?_
          rotate_left
          ·simp only [Act.put, List.setIfInBounds_toArray, List.set_cons_zero, List.set_cons_succ, i64_w, i32_w]
           rfl
          refine pure_ (i := 9) (N := some 76) (v := undef) (a' := ?_) #[true, true, true, true, true, true, true, true, true, true, false, false, false, false, false, false, false, false] rfl rfl (any_of HT_.out (by kernel_rfl)) (fun _ _ _ h => h) (Or.inr ⟨by rfl, rfl⟩) ?_ ?_
          rotate_left
          ·simp only [Act.put, List.setIfInBounds_toArray, List.set_cons_zero, List.set_cons_succ, i64_w, i32_w]
           rfl
          refine pure_ (i := 10) (N := some 77) (v := ?_) (a' := ?_) #[true, true, true, true, true, true, true, true, true, true, true, false, false, false, false, false, false, false] rfl rfl (any_of HT_.out (by kernel_rfl)) (fun _ _ _ h => h) (Or.inl ⟨by rfl, ?_⟩) ?_ ?_
          rotate_left
          ·intro w'
           go_simp
           with_reducible rfl
          rotate_left
          ·simp only [Act.put, List.setIfInBounds_toArray, List.set_cons_zero, List.set_cons_succ, i64_w, i32_w]
           rfl
          refine pure_ (i := 11) (N := some 78) (v := ?_) (a' := ?_) #[true, true, true, true, true, true, true, true, true, true, true, true, false, false, false, false, false, false] rfl rfl (any_of HT_.out (by kernel_rfl)) (fun _ _ _ h => h) (Or.inl ⟨by rfl, ?_⟩) ?_ ?_
          rotate_left
          ·intro w'
           go_simp
           with_reducible rfl
          rotate_left
          ·simp only [Act.put, List.setIfInBounds_toArray, List.set_cons_zero, List.set_cons_succ, i64_w, i32_w]
           rfl
          refine pure_ (i := 12) (N := some 79) (v := undef) (a' := ?_) #[true, true, true, true, true, true, true, true, true, true, true, true, true, false, false, false, false, false] rfl rfl (any_of HT_.out (by kernel_rfl)) (fun _ _ _ h => h) (Or.inr ⟨by rfl, rfl⟩) ?_ ?_
          rotate_left
          ·simp only [Act.put, List.setIfInBounds_toArray, List.set_cons_zero, List.set_cons_succ, i64_w, i32_w]
           rfl
          refine pure_ (i := 13) (N := some 80) (v := undef) (a' := ?_) #[true, true, true, true, true, true, true, true, true, true, true, true, true, true, false, false, false, false] rfl rfl (any_of HT_.out (by kernel_rfl)) (fun _ _ _ h => h) (Or.inr ⟨by rfl, rfl⟩) ?_ ?_
          rotate_left
          ·simp only [Act.put, List.setIfInBounds_toArray, List.set_cons_zero, List.set_cons_succ, i64_w, i32_w]
           rfl
          refine pure_ (i := 14) (N := some 81) (v := undef) (a' := ?_) #[true, true, true, true, true, true, true, true, true, true, true, true, true, true, true, false, false, false] rfl rfl (any_of HT_.out (by kernel_rfl)) (fun _ _ _ h => h) (Or.inr ⟨by rfl, rfl⟩) ?_ ?_
          rotate_left
          ·simp only [Act.put, List.setIfInBounds_toArray, List.set_cons_zero, List.set_cons_succ, i64_w, i32_w]
           rfl
          refine pure_ (i := 15) (N := some 82) (v := undef) (a' := ?_) #[true, true, true, true, true, true, true, true, true, true, true, true, true, true, true, true, false, false] rfl rfl (any_of HT_.out (by kernel_rfl)) (fun _ _ _ h => h) (Or.inr ⟨by rfl, rfl⟩) ?_ ?_
          rotate_left
          ·simp only [Act.put, List.setIfInBounds_toArray, List.set_cons_zero, List.set_cons_succ, i64_w, i32_w]
           rfl
          refine pure_ (i := 16) (N := some 83) (v := undef) (a' := ?_) #[true, true, true, true, true, true, true, true, true, true, true, true, true, true, true, true, true, false] rfl rfl (any_of HT_.out (by kernel_rfl)) (fun _ _ _ h => h) (Or.inr ⟨by rfl, rfl⟩) ?_ ?_
          rotate_left
          ·simp only [Act.put, List.setIfInBounds_toArray, List.set_cons_zero, List.set_cons_succ, i64_w, i32_w]
           rfl
          refine pure_ (i := 17) (N := some 84) (v := ?_) (a' := ?_) #[true, true, true, true, true, true, true, true, true, true, true, true, true, true, true, true, true, true] rfl rfl (any_of HT_.out (by kernel_rfl)) (fun _ _ _ h => h) (Or.inl ⟨by rfl, ?_⟩) ?_ ?_
          rotate_left
          ·intro w'
           go_simp
           with_reducible rfl
          rotate_left
          ·simp only [Act.put, List.setIfInBounds_toArray, List.set_cons_zero, List.set_cons_succ, i64_w, i32_w]
           rfl
          refine done_ (done_of HT_.out (by kernel_rfl)) ?_
          try go_wp2
          go_meet
          case rel => exact ⟨_, (true), (by first | rfl | (simp; done) | (simp [*]; done)), H', ⟨by have := HJ2.out; have := HK2.out; first | omega | exact Nat.le_refl _⟩, ⟨by (with_reducible repeat (first | apply Kd.S_alloc | apply Kd.S_drewN | apply Kd.S_drew)); exact Kd.S_mono HO373.out (fun _ hk => hk.2)⟩, ⟨by (with_reducible repeat (first | apply Kd.S_alloc | apply Kd.S_drewN | apply Kd.S_drew)); exact Kd.S_mono HO377.out (fun _ hk => hk.2)⟩, ⟨by (with_reducible repeat (first | apply Kd.R_alloc | apply Kd.R_drewN | apply Kd.R_drew)); exact HO_363001.out⟩, ⟨by (with_reducible repeat (first | refine blk_drewN ?_ _ | refine blk_drew ?_ | refine blk_alloc ?_ _)); exact BK357.out⟩, ⟨by (with_reducible repeat (first | refine blk_drewN ?_ _ | refine blk_drew ?_ | refine blk_alloc ?_ _)); exact BK358.out⟩, ⟨by (with_reducible repeat (first | refine blk_drewN ?_ _ | refine blk_drew ?_ | refine blk_alloc ?_ _)); exact BK362.out⟩, ⟨by repeat (first | (with_reducible first | exact HB.out | apply below_alloc | apply pw_below_drewN | apply below_drew1 | refine below_set ?_ GE357.out | refine below_set ?_ GE358.out | refine below_set ?_ GE362.out) | exact HB.out)⟩⟩
        ·replace c57 := Bool.eq_false_iff.mpr c57
         subst c57
         have H1 : (timesynclaw18_TopoRenumbers.j2 k2 t371 t375 true a0_0 l0_1 a1) = some r := by rw [if_neg (show ¬ (false = true) by decide)] at H; exact H
         clear H
         have H := H1
         clear H1
         have H' := Aside0.mk H
         clear H
         try go_wp2
         have n0_ := Aside0.mk (Kd.R_drew HO_363001.out)
         have n1_ := Aside0.mk (Kd.S_drew HO373.out)
         have n2_ := Aside0.mk (Kd.S_drew HO377.out)
         have n3_ := Aside0.mk (blk_drew BK357.out)
         have n4_ := Aside0.mk (blk_drew BK358.out)
         have n5_ := Aside0.mk (blk_drew BK362.out)
         have n6_ := Aside0.mk (below_drew1 HB.out)
         clear HO_363001
         clear HO373
         clear HO377
         clear BK357
         clear BK358
         clear BK362
         clear HB
         have HO_363001 := n0_
         have HO373 := n1_
         have HO377 := n2_
         have BK357 := n3_
         have BK358 := n4_
         have BK362 := n5_
         have HB := n6_
         clear n0_ n1_ n2_ n3_ n4_ n5_ n6_
         refine start_ (n := 18) (S := fun w' => True) (ds := []) #[false, false, false, false, false, false, false, false, false, false, false, false, false, false, false, false, false, false] (by kernel_rfl) rfl rfl trivial (fun hHeld => ?_); refine with_tabW timesynclaw18_TopoRenumbers.tab13 timesynclaw18_TopoRenumbers.bits13 (fun HT_ HW_ => ?_)
         generalize w56.drew = w70 at HO_363001 HO373 HO377 BK357 BK358 BK362 HB hHeld ⊢
         refine pure_ (i := 0) (N := some 67) (v := ?_) (a' := ?_) #[true, false, false, false, false, false, false, false, false, false, false, false, false, false, false, false, false, false] rfl rfl (any_of HT_.out (by kernel_rfl)) (fun _ _ _ h => h) (Or.inl ⟨by rfl, ?_⟩) ?_ ?_
         rotate_left
         ·intro w'
          go_simp
          with_reducible rfl
         rotate_left
         ·simp only [Act.put, List.setIfInBounds_toArray, List.set_cons_zero, List.set_cons_succ, i64_w, i32_w]
          rfl
         refine pure_ (i := 1) (N := some 68) (v := ?_) (a' := ?_) #[true, true, false, false, false, false, false, false, false, false, false, false, false, false, false, false, false, false] rfl rfl (any_of HT_.out (by kernel_rfl)) (fun _ _ _ h => h) (Or.inl ⟨by rfl, ?_⟩) ?_ ?_
         rotate_left
         ·intro w'
          go_simp
          with_reducible rfl
         rotate_left
         ·simp only [Act.put, List.setIfInBounds_toArray, List.set_cons_zero, List.set_cons_succ, i64_w, i32_w]
          rfl
         refine pure_ (i := 2) (N := some 69) (v := ?_) (a' := ?_) #[true, true, true, false, false, false, false, false, false, false, false, false, false, false, false, false, false, false] rfl rfl (any_of HT_.out (by kernel_rfl)) (fun _ _ _ h => h) (Or.inl ⟨by rfl, ?_⟩) ?_ ?_
         rotate_left
         ·intro w'
          go_simp
          with_reducible rfl
         rotate_left
         ·simp only [Act.put, List.setIfInBounds_toArray, List.set_cons_zero, List.set_cons_succ, i64_w, i32_w]
          rfl
         refine pure_ (i := 3) (N := some 70) (v := undef) (a' := ?_) #[true, true, true, true, false, false, false, false, false, false, false, false, false, false, false, false, false, false] rfl rfl (any_of HT_.out (by kernel_rfl)) (fun _ _ _ h => h) (Or.inr ⟨by rfl, rfl⟩) ?_ ?_
         rotate_left
         ·simp only [Act.put, List.setIfInBounds_toArray, List.set_cons_zero, List.set_cons_succ, i64_w, i32_w]
          rfl
         refine pure_ (i := 4) (N := some 71) (v := undef) (a' := ?_) #[true, true, true, true, true, false, false, false, false, false, false, false, false, false, false, false, false, false] rfl rfl (any_of HT_.out (by kernel_rfl)) (fun _ _ _ h => h) (Or.inr ⟨by rfl, rfl⟩) ?_ ?_
         rotate_left
         ·simp only [Act.put, List.setIfInBounds_toArray, List.set_cons_zero, List.set_cons_succ, i64_w, i32_w]
          rfl
         refine pure_ (i := 5) (N := some 72) (v := ?_) (a' := ?_) #[true, true, true, true, true, true, false, false, false, false, false, false, false, false, false, false, false, false] rfl rfl (any_of HT_.out (by kernel_rfl)) (fun _ _ _ h => h) (Or.inl ⟨by rfl, ?_⟩) ?_ ?_
         rotate_left
         ·intro w'
          go_simp
          with_reducible rfl
         rotate_left
         ·simp only [Act.put, List.setIfInBounds_toArray, List.set_cons_zero, List.set_cons_succ, i64_w, i32_w]
          rfl
         refine pure_ (i := 6) (N := some 73) (v := ?_) (a' := ?_) #[true, true, true, true, true, true, true, false, false, false, false, false, false, false, false, false, false, false] rfl rfl (any_of HT_.out (by kernel_rfl)) (fun _ _ _ h => h) (Or.inl ⟨by rfl, ?_⟩) ?_ ?_
         rotate_left
         ·intro w'
          go_simp
          with_reducible rfl
         rotate_left
         ·simp only [Act.put, List.setIfInBounds_toArray, List.set_cons_zero, List.set_cons_succ, i64_w, i32_w]
          rfl
         refine pure_ (i := 7) (N := some 74) (v := undef) (a' := ?_) #[true, true, true, true, true, true, true, true, false, false, false, false, false, false, false, false, false, false] rfl rfl (any_of HT_.out (by kernel_rfl)) (fun _ _ _ h => h) (Or.inr ⟨by rfl, rfl⟩) ?_ ?_
         rotate_left
         ·simp only [Act.put, List.setIfInBounds_toArray, List.set_cons_zero, List.set_cons_succ, i64_w, i32_w]
          rfl
         refine pure_ (i := 8) (N := some 75) (v := undef) (a' := ?_) #[true, true, true, true, true, true, true, true, true, false, false, false, false, false, false, false, false, false] rfl rfl (any_of HT_.out (by kernel_rfl)) (fun _ _ _ h => h) (Or.inr ⟨by rfl, rfl⟩) ?_ ?_
         rotate_left
         ·simp only [Act.put, List.setIfInBounds_toArray, List.set_cons_zero, List.set_cons_succ, i64_w, i32_w]
          rfl
         refine pure_ (i := 9) (N := some 76) (v := undef) (a' := ?_) #[true, true, true, true, true, true, true, true, true, true, false, false, false, false, false, false, false, false] rfl rfl (any_of HT_.out (by kernel_rfl)) (fun _ _ _ h => h) (Or.inr ⟨by rfl, rfl⟩) ?_ ?_
         rotate_left
         ·simp only [Act.put, List.setIfInBounds_toArray, List.set_cons_zero, List.set_cons_succ, i64_w, i32_w]
          rfl
         refine pure_ (i := 10) (N := some 77) (v := ?_) (a' := ?_) #[true, true, true, true, true, true, true, true, true, true, true, false, false, false, false, false, false, false] rfl rfl (any_of HT_.out (by kernel_rfl)) (fun _ _ _ h => h) (Or.inl ⟨by rfl, ?_⟩) ?_ ?_
         rotate_left
         ·intro w'
          go_simp
          with_reducible rfl
         rotate_left
         ·simp only [Act.put, List.setIfInBounds_toArray, List.set_cons_zero, List.set_cons_succ, i64_w, i32_w]
          rfl
         refine pure_ (i := 11) (N := some 78) (v := ?_) (a' := ?_) #[true, true, true, true, true, true, true, true, true, true, true, true, false, false, false, false, false, false] rfl rfl (any_of HT_.out (by kernel_rfl)) (fun _ _ _ h => h) (Or.inl ⟨by rfl, ?_⟩) ?_ ?_
         rotate_left
         ·intro w'
          go_simp
          with_reducible rfl
         rotate_left
         ·simp only [Act.put, List.setIfInBounds_toArray, List.set_cons_zero, List.set_cons_succ, i64_w, i32_w]
          rfl
         refine pure_ (i := 12) (N := some 79) (v := undef) (a' := ?_) #[true, true, true, true, true, true, true, true, true, true, true, true, true, false, false, false, false, false] rfl rfl (any_of HT_.out (by kernel_rfl)) (fun _ _ _ h => h) (Or.inr ⟨by rfl, rfl⟩) ?_ ?_
         rotate_left
         ·simp only [Act.put, List.setIfInBounds_toArray, List.set_cons_zero, List.set_cons_succ, i64_w, i32_w]
          rfl
         refine pure_ (i := 13) (N := some 80) (v := undef) (a' := ?_) #[true, true, true, true, true, true, true, true, true, true, true, true, true, true, false, false, false, false] rfl rfl (any_of HT_.out (by kernel_rfl)) (fun _ _ _ h => h) (Or.inr ⟨by rfl, rfl⟩) ?_ ?_
         rotate_left
         ·simp only [Act.put, List.setIfInBounds_toArray, List.set_cons_zero, List.set_cons_succ, i64_w, i32_w]
          rfl
         refine pure_ (i := 14) (N := some 81) (v := undef) (a' := ?_) #[true, true, true, true, true, true, true, true, true, true, true, true, true, true, true, false, false, false] rfl rfl (any_of HT_.out (by kernel_rfl)) (fun _ _ _ h => h) (Or.inr ⟨by rfl, rfl⟩) ?_ ?_
         rotate_left
         ·simp only [Act.put, List.setIfInBounds_toArray, List.set_cons_zero, List.set_cons_succ, i64_w, i32_w]
          rfl
         refine pure_ (i := 15) (N := some 82) (v := undef) (a' := ?_) #[true, true, true, true, true, true, true, true, true, true, true, true, true, true, true, true, false, false] rfl rfl (any_of HT_.out (by kernel_rfl)) (fun _ _ _ h => h) (Or.inr ⟨by rfl, rfl⟩) ?_ ?_
         rotate_left
         ·simp only [Act.put, List.setIfInBounds_toArray, List.set_cons_zero, List.set_cons_succ, i64_w, i32_w]
          rfl
         refine pure_ (i := 16) (N := some 83) (v := undef) (a' := ?_) #[true, true, true, true, true, true, true, true, true, true, true, true, true, true, true, true, true, false] rfl rfl (any_of HT_.out (by kernel_rfl)) (fun _ _ _ h => h) (Or.inr ⟨by rfl, rfl⟩) ?_ ?_
         rotate_left
         ·simp only [Act.put, List.setIfInBounds_toArray, List.set_cons_zero, List.set_cons_succ, i64_w, i32_w]
          rfl
         refine pure_ (i := 17) (N := some 84) (v := ?_) (a' := ?_) #[true, true, true, true, true, true, true, true, true, true, true, true, true, true, true, true, true, true] rfl rfl (any_of HT_.out (by kernel_rfl)) (fun _ _ _ h => h) (Or.inl ⟨by rfl, ?_⟩) ?_ ?_
         rotate_left
         ·intro w'
          go_simp
          with_reducible rfl
         rotate_left
         ·simp only [Act.put, List.setIfInBounds_toArray, List.set_cons_zero, List.set_cons_succ, i64_w, i32_w]
          rfl
         refine done_ (done_of HT_.out (by kernel_rfl)) ?_
         try go_wp2
         go_meet
         case rel => exact ⟨_, (true), (by first | rfl | (simp; done) | (simp [*]; done)), H', ⟨by have := HJ2.out; have := HK2.out; first | omega | exact Nat.le_refl _⟩, ⟨by (with_reducible repeat (first | apply Kd.S_alloc | apply Kd.S_drewN | apply Kd.S_drew)); exact Kd.S_mono HO373.out (fun _ hk => hk.2)⟩, ⟨by (with_reducible repeat (first | apply Kd.S_alloc | apply Kd.S_drewN | apply Kd.S_drew)); exact Kd.S_mono HO377.out (fun _ hk => hk.2)⟩, ⟨by (with_reducible repeat (first | apply Kd.R_alloc | apply Kd.R_drewN | apply Kd.R_drew)); exact HO_363001.out⟩, ⟨by (with_reducible repeat (first | refine blk_drewN ?_ _ | refine blk_drew ?_ | refine blk_alloc ?_ _)); exact BK357.out⟩, ⟨by (with_reducible repeat (first | refine blk_drewN ?_ _ | refine blk_drew ?_ | refine blk_alloc ?_ _)); exact BK358.out⟩, ⟨by (with_reducible repeat (first | refine blk_drewN ?_ _ | refine blk_drew ?_ | refine blk_alloc ?_ _)); exact BK362.out⟩, ⟨by repeat (first | (with_reducible first | exact HB.out | apply below_alloc | apply pw_below_drewN | apply below_drew1 | refine below_set ?_ GE357.out | refine below_set ?_ GE358.out | refine below_set ?_ GE362.out) | exact HB.out)⟩⟩
       case rest =>
        clear HC46
        try clear c1
        try clear c2
        try clear p2
        try clear c5
        try clear c6
        try clear c17
        try clear c26
        try clear c57
        try clear c58
        try clear c60
        try clear c60b0
        try clear c60b1
        obtain ⟨kq, x84_45, rfl, HA, HJ45, HO_9, HO_11, HO_363001, BK357, BK358, BK362, HB⟩ := hcut
        have hl363001_45 := (Kd.R_reads' HO_363001.out).1
        rw [hl363001_45] at HO_363001
        (try simp only [hl363001_45])
        (try simp only [hl363001_45] at BK357)
        (try simp only [hl363001_45] at BK358)
        (try simp only [hl363001_45] at BK362)
        (try simp only [hl363001_45] at HO_9)
        (try simp only [hl363001_45] at HO_11)
        cases kq with
        | zero => exact absurd HA.out (by simp [timesynclaw18_TopoRenumbers.j2])
        | succ kj45 =>
         have H := HA.out
         clear HA
         simp only [timesynclaw18_TopoRenumbers.j2] at H
         by_cases c71 : x84_45 = true
         ·subst c71
          have H1 : (none) = some r := by rw [if_pos rfl] at H; exact H
          clear H
          have H := H1
          clear H1
          exact absurd H (by simp)
         ·replace c71 := Bool.eq_false_iff.mpr c71
          subst c71
          have H1 : (timesynclaw18_TopoRenumbers.l1 kj45 t371 t375 (t371.length : Int) 0 a0_0 l0_1 a1) = some r := by rw [if_neg (show ¬ (false = true) by decide)] at H; exact H
          clear H
          have H := H1
          clear H1
          have H' := Aside0.mk H
          clear H
          obtain ⟨Ao72, co72, eo72⟩ := Kd.S_slice HO_9.out
          subst eo72
          go_wp2
          go_loopg [87] kj45 (fun kq v87 w' => ∃ (x87_4 : Int), v87 = .int .i64 x87_4 ∧ Aside0 (timesynclaw18_TopoRenumbers.l1 kq t371 t375 (t371.length : Int) x87_4 a0_0 l0_1 a1 = some r) ∧ Aside0 (kq ≤ kj45) ∧ Aside0 (Kd.S (Kd.slice 3 (Kd.int .i64)) 30 w' w.heap.size (fun k_ => some k_ ≠ (v376 : Value).ownBlock) (.slice Ao72 t371.length co72) t371) ∧ Aside0 (Kd.S (Kd.slice 3 (Kd.int .i64)) 30 w' w.heap.size (fun k_ => some k_ ≠ ((.slice Ao72 t371.length co72) : Value).ownBlock) v376 t375) ∧ Aside0 (Kd.R k37 37 w' w.heap.size (fun _ => True) (.slice Ao50 t370.length co50) t370) ∧ Aside0 (w'.heap[gb357]? = some (.cells #[.int .i64 a0_0, (.slice A0_1 l0_1.length c0_1)] 24 (0, 0))) ∧ Aside0 (w'.heap[gb358]? = some (.cells #[.int .u8 a1] 5 (0, 0))) ∧ Aside0 (w'.heap[gb362]? = some (.cells #[.int .i64 a0_0, (.slice Ao50 t370.length co50)] 24 (0, 0))) ∧ Aside0 (Below w.heap.size w w'))
          case atStart => exact ⟨(0), (by first | rfl | (simp; done) | (simp [*]; done)), H', ⟨Nat.le_refl _⟩, ⟨by (try simp only [hl363001_45]); (with_reducible repeat (first | apply Kd.S_alloc | apply Kd.S_drewN | apply Kd.S_drew)); exact HO_9.out⟩, ⟨by (try simp only [hl363001_45]); (with_reducible repeat (first | apply Kd.S_alloc | apply Kd.S_drewN | apply Kd.S_drew)); exact HO_11.out⟩, ⟨by (try simp only [hl363001_45]); (with_reducible repeat (first | apply Kd.R_alloc | apply Kd.R_drewN | apply Kd.R_drew)); exact HO_363001.out⟩, ⟨by (try simp only [hl363001_45]); (with_reducible repeat (first | refine blk_drewN ?_ _ | refine blk_drew ?_ | refine blk_alloc ?_ _)); exact BK357.out⟩, ⟨by (try simp only [hl363001_45]); (with_reducible repeat (first | refine blk_drewN ?_ _ | refine blk_drew ?_ | refine blk_alloc ?_ _)); exact BK358.out⟩, ⟨by (try simp only [hl363001_45]); (with_reducible repeat (first | refine blk_drewN ?_ _ | refine blk_drew ?_ | refine blk_alloc ?_ _)); exact BK362.out⟩, ⟨by repeat (first | (with_reducible first | exact HB.out | apply below_alloc | apply pw_below_drewN | apply below_drew1 | refine below_set ?_ GE357.out | refine below_set ?_ GE358.out | refine below_set ?_ GE362.out) | exact HB.out)⟩⟩
          case round =>
           clear H'
           try clear c1
           try clear c2
           try clear p2
           try clear c5
           try clear c6
           try clear c7
           try clear c17
           try clear c26
           try clear c57
           try clear c58
           try clear c60
           try clear c60b0
           try clear c60b1
           try clear c71
           try clear p2
           obtain ⟨x87_4, rfl, HA, HK4, HO_9, HO_11, HO_363001, BK357, BK358, BK362, HB⟩ := hrel
           cases gk with
           | zero => exact absurd HA.out (by simp [timesynclaw18_TopoRenumbers.l1])
           | succ k4 =>
            have H := HA.out
            clear HA
            simp only [timesynclaw18_TopoRenumbers.l1] at H
            by_cases c73 : x87_4 < (t371.length : Int)
            ·rw [if_pos c73] at H
             have c73b0 : decide (x87_4 < (t371.length : Int)) = true := decide_eq_true c73
             clear c73
             (try (have c73r0 := c73b0; simp only [hl363001_45] at c73r0))
             by_cases c74 : 0 ≤ x87_4
             ·rw [if_pos c74] at H
              have c74b0 : decide (0 ≤ x87_4) = true := decide_eq_true c74
              clear c74
              (try (have c74r0 := c74b0; simp only [hl363001_45] at c74r0))
              by_cases c75 : x87_4 < (t371.length : Int)
              ·rw [if_pos c75] at H
               have c75b0 : decide (x87_4 < (t371.length : Int)) = true := decide_eq_true c75
               clear c75
               (try (have c75r0 := c75b0; simp only [hl363001_45] at c75r0))
               have H' := Aside0.mk H
               clear H
               have p383 : 0 ≤ (x87_4 : Int) := of_decide_eq_true (by first | (with_reducible assumption) | assumption)
               have q383 : x87_4 < (t371.length : Int) := of_decide_eq_true (by first | (with_reducible assumption) | assumption)
               obtain ⟨ad383, A383_0, c383_0, e383, hx383_0, hl383_0, hi383_0⟩ := at_L3 (Kd.S_reads' HO_9.out).2.2 x87_4 p383 q383
               cases e383
               obtain ⟨ce383, hce383, hMe383, hcc383⟩ := Kd.S_get HO_9.out [] x87_4 p383 (by first | exact q383 | exact of_decide_eq_true (by first | (with_reducible assumption) | assumption) | (have e_ := (Kd.S_reads' HO_9.out).1; omega))
               obtain ⟨ve383_0, rfl, ge383_0⟩ := hMe383
               have hv383_0 := hcc383 0 _ rfl
               rw [Nat.add_zero, show ((Kd.slice 3 (Kd.int .i64))).sz = 1 from rfl, Nat.mul_one] at hv383_0
               replace hv383_0 := Option.some.inj (hv383_0.symm.trans hx383_0)
               rw [hv383_0] at ge383_0
               have HL383_0 := Aside0.mk (show Kd.R (Kd.int .i64) 3 _ _ _ _ (rd_L3 t371 x87_4) from ge383_0)
               clear hv383_0 ge383_0
               clear hcc383 hce383
               have HR383_0 := Aside0.mk hi383_0
               have HC383_0 := Aside0.mk hl383_0
               clear hi383_0 hl383_0
               replace p383 := eq_true p383
               replace q383 := eq_true q383
               go_wp2
               go_loopg [95] k4 (fun kq v95 w' => ∃ (x95_5 : Int), v95 = .int .i64 x95_5 ∧ Aside0 (timesynclaw18_TopoRenumbers.l2 kq t371 t375 x87_4 (t371.length : Int) x87_4 (rd_L3 t371 x87_4) ((rd_L3 t371 x87_4).length : Int) x95_5 a0_0 l0_1 a1 = some r) ∧ Aside0 (kq ≤ k4) ∧ Aside0 (Kd.S (Kd.slice 3 (Kd.int .i64)) 30 w' w.heap.size (fun k_ => some k_ ≠ (v376 : Value).ownBlock) (.slice (some ad383) t371.length co72) t371) ∧ Aside0 (Kd.S (Kd.slice 3 (Kd.int .i64)) 30 w' w.heap.size (fun k_ => some k_ ≠ ((.slice (some ad383) t371.length co72) : Value).ownBlock) v376 t375) ∧ Aside0 (Kd.R k37 37 w' w.heap.size (fun _ => True) (.slice Ao50 t370.length co50) t370) ∧ Aside0 (w'.heap[gb357]? = some (.cells #[.int .i64 a0_0, (.slice A0_1 l0_1.length c0_1)] 24 (0, 0))) ∧ Aside0 (w'.heap[gb358]? = some (.cells #[.int .u8 a1] 5 (0, 0))) ∧ Aside0 (w'.heap[gb362]? = some (.cells #[.int .i64 a0_0, (.slice Ao50 t370.length co50)] 24 (0, 0))) ∧ Aside0 (Kd.C (Kd.int .i64) w' A383_0 (rd_L3 t371 x87_4).length (rd_L3 t371 x87_4)) ∧ Aside0 (Below w.heap.size w w'))
               case atStart => exact ⟨(0), (by first | rfl | (simp; done) | (simp [*]; done)), H', ⟨Nat.le_refl _⟩, ⟨by (try simp only [hl363001_45]); (with_reducible repeat (first | apply Kd.S_alloc | apply Kd.S_drewN | apply Kd.S_drew)); exact HO_9.out⟩, ⟨by (try simp only [hl363001_45]); (with_reducible repeat (first | apply Kd.S_alloc | apply Kd.S_drewN | apply Kd.S_drew)); exact HO_11.out⟩, ⟨by (try simp only [hl363001_45]); (with_reducible repeat (first | apply Kd.R_alloc | apply Kd.R_drewN | apply Kd.R_drew)); exact HO_363001.out⟩, ⟨by (try simp only [hl363001_45]); (with_reducible repeat (first | refine blk_drewN ?_ _ | refine blk_drew ?_ | refine blk_alloc ?_ _)); exact BK357.out⟩, ⟨by (try simp only [hl363001_45]); (with_reducible repeat (first | refine blk_drewN ?_ _ | refine blk_drew ?_ | refine blk_alloc ?_ _)); exact BK358.out⟩, ⟨by (try simp only [hl363001_45]); (with_reducible repeat (first | refine blk_drewN ?_ _ | refine blk_drew ?_ | refine blk_alloc ?_ _)); exact BK362.out⟩, ⟨by repeat (first | (with_reducible exact HR383_0.out) | (with_reducible refine Kd.C_alloc ?_ _) | (with_reducible refine Kd.C_drewN ?_ _) | (with_reducible refine Kd.C_drew ?_) | exact HR383_0.out)⟩, ⟨by repeat (first | (with_reducible first | exact HB.out | apply below_alloc | apply pw_below_drewN | apply below_drew1 | refine below_set ?_ GE357.out | refine below_set ?_ GE358.out | refine below_set ?_ GE362.out) | exact HB.out)⟩⟩
               case round =>
                clear H'
                try clear c1
                try clear c2
                try clear p2
                try clear c3
                try clear p3
                try clear q3
                try clear hx3
                try clear c5
                try clear c6
                try clear c7
                try clear c17
                try clear c26
                try clear c38
                try clear p38
                try clear q38
                try clear hx38
                try clear c57
                try clear c58
                try clear c60
                try clear c60b0
                try clear c60b1
                try clear c71
                try clear c73
                try clear c73b0
                try clear c74
                try clear c74b0
                try clear c75
                try clear c75b0
                try clear hx383_0
                try clear p2
                try clear p383
                try clear q383
                obtain ⟨x95_5, rfl, HA, HK5, HO_9, HO_11, HO_363001, BK357, BK358, BK362, HR383_0, HB⟩ := hrel
                cases gk with
                | zero => exact absurd HA.out (by simp [timesynclaw18_TopoRenumbers.l2])
                | succ k5 =>
                 have H := HA.out
                 clear HA
                 simp only [timesynclaw18_TopoRenumbers.l2] at H
                 by_cases c76 : x95_5 < ((rd_L3 t371 x87_4).length : Int)
                 ·rw [if_pos c76] at H
                  have c76b0 : decide (x95_5 < ((rd_L3 t371 x87_4).length : Int)) = true := decide_eq_true c76
                  clear c76
                  (try (have c76r0 := c76b0; simp only [hl363001_45] at c76r0))
                  by_cases c77 : 0 ≤ x95_5
                  ·rw [if_pos c77] at H
                   have c77b0 : decide (0 ≤ x95_5) = true := decide_eq_true c77
                   clear c77
                   (try (have c77r0 := c77b0; simp only [hl363001_45] at c77r0))
                   by_cases c78 : x95_5 < ((rd_L3 t371 x87_4).length : Int)
                   ·rw [if_pos c78] at H
                    have c78b0 : decide (x95_5 < ((rd_L3 t371 x87_4).length : Int)) = true := decide_eq_true c78
                    clear c78
                    (try (have c78r0 := c78b0; simp only [hl363001_45] at c78r0))
                    replace H := Option.bind_eq_some_iff.mp H
                    obtain ⟨t385, A790, H⟩ := H
                    replace H : (if 0 ≤ t385 then (if t385 < (t375.length : Int) then ((timesynclaw18_TopoRenumbers_1.f x95_5 a1 a0_0 l0_1).bind fun t387 => (if 0 ≤ t387 then (if t387 < ((rd_L3 t375 t385).length : Int) then (if (rd (rd_L3 t375 t385) t387) = (rd (rd_L3 t371 x87_4) x95_5) then (timesynclaw18_TopoRenumbers.l2 k5 t371 t375 x87_4 (t371.length : Int) x87_4 (rd_L3 t371 x87_4) ((rd_L3 t371 x87_4).length : Int) (wrap64 (x95_5 + 1)) a0_0 l0_1 a1) else (none)) else (none)) else (none))) else (none)) else (none)) = some r := H
                    have A79 := Aside0.mk A790
                    clear A790
                    by_cases c80 : 0 ≤ t385
                    ·rw [if_pos c80] at H
                     have c80b0 : decide (0 ≤ t385) = true := decide_eq_true c80
                     clear c80
                     (try (have c80r0 := c80b0; simp only [hl363001_45] at c80r0))
                     by_cases c81 : t385 < (t375.length : Int)
                     ·rw [if_pos c81] at H
                      have c81b0 : decide (t385 < (t375.length : Int)) = true := decide_eq_true c81
                      clear c81
                      (try (have c81r0 := c81b0; simp only [hl363001_45] at c81r0))
                      replace H := Option.bind_eq_some_iff.mp H
                      obtain ⟨t387, A820, H⟩ := H
                      replace H : (if 0 ≤ t387 then (if t387 < ((rd_L3 t375 t385).length : Int) then (if (rd (rd_L3 t375 t385) t387) = (rd (rd_L3 t371 x87_4) x95_5) then (timesynclaw18_TopoRenumbers.l2 k5 t371 t375 x87_4 (t371.length : Int) x87_4 (rd_L3 t371 x87_4) ((rd_L3 t371 x87_4).length : Int) (wrap64 (x95_5 + 1)) a0_0 l0_1 a1) else (none)) else (none)) else (none)) = some r := H
                      have A82 := Aside0.mk A820
                      clear A820
                      by_cases c83 : 0 ≤ t387
                      ·rw [if_pos c83] at H
                       have c83b0 : decide (0 ≤ t387) = true := decide_eq_true c83
                       clear c83
                       (try (have c83r0 := c83b0; simp only [hl363001_45] at c83r0))
                       by_cases c84 : t387 < ((rd_L3 t375 t385).length : Int)
                       ·rw [if_pos c84] at H
                        have c84b0 : decide (t387 < ((rd_L3 t375 t385).length : Int)) = true := decide_eq_true c84
                        clear c84
                        (try (have c84r0 := c84b0; simp only [hl363001_45] at c84r0))
                        by_cases c85 : (rd (rd_L3 t375 t385) t387) = (rd (rd_L3 t371 x87_4) x95_5)
                        ·rw [if_pos c85] at H
                         have c85b0 : ((rd (rd_L3 t375 t385) t387) == (rd (rd_L3 t371 x87_4) x95_5)) = true := beq_iff_eq.mpr c85
                         have c85b1 : ((rd (rd_L3 t375 t385) t387) != (rd (rd_L3 t371 x87_4) x95_5)) = false := bne_eq_false_iff_eq.mpr c85
                         clear c85
                         (try (have c85r0 := c85b0; simp only [hl363001_45] at c85r0))
                         (try (have c85r1 := c85b1; simp only [hl363001_45] at c85r1))
                         have H' := Aside0.mk H
                         clear H
                         have p384 : 0 ≤ (x95_5 : Int) := of_decide_eq_true (by first | (with_reducible assumption) | assumption)
                         have q384 : x95_5 < ((rd_L3 t371 x87_4).length : Int) := of_decide_eq_true (by first | (with_reducible assumption) | assumption)
                         obtain ⟨ad384, e384, hx384_0⟩ := Kd.at_int HR383_0.out x95_5 p384 q384
                         cases e384
                         try replace hx384_0 := (HB.out.cell (World.block_lt_of_cell? w _ hx384_0)).trans hx384_0
                         replace p384 := eq_true p384
                         replace q384 := eq_true q384
                         try go_wp2
                         have n0_ := Aside0.mk (Kd.S_drew HO_9.out)
                         have n1_ := Aside0.mk (Kd.S_drew HO_11.out)
                         have n2_ := Aside0.mk (Kd.R_drew HO_363001.out)
                         have n3_ := Aside0.mk (blk_drew BK357.out)
                         have n4_ := Aside0.mk (blk_drew BK358.out)
                         have n5_ := Aside0.mk (blk_drew BK362.out)
                         have n6_ := Aside0.mk (Kd.C_drew HR383_0.out)
                         have n7_ := Aside0.mk (below_drew1 HB.out)
                         clear HO_9
                         clear HO_11
                         clear HO_363001
                         clear BK357
                         clear BK358
                         clear BK362
                         clear HR383_0
                         clear HB
                         have HO_9 := n0_
                         have HO_11 := n1_
                         have HO_363001 := n2_
                         have BK357 := n3_
                         have BK358 := n4_
                         have BK362 := n5_
                         have HR383_0 := n6_
                         have HB := n7_
                         clear n0_ n1_ n2_ n3_ n4_ n5_ n6_ n7_
                         have p386 : 0 ≤ (t385 : Int) := of_decide_eq_true (by first | (with_reducible assumption) | assumption)
                         have q386 : t385 < (t375.length : Int) := of_decide_eq_true (by first | (with_reducible assumption) | assumption)
                         obtain ⟨Aq_, cq_, eq_⟩ := Kd.S_slice HO_11.out
                         subst eq_
                         obtain ⟨ad386, A386_0, c386_0, e386, hx386_0, hl386_0, hi386_0⟩ := at_L3 (Kd.S_reads' HO_11.out).2.2 t385 p386 q386
                         cases e386
                         obtain ⟨ce386, hce386, hMe386, hcc386⟩ := Kd.S_get HO_11.out [] t385 p386 (by first | exact q386 | exact of_decide_eq_true (by first | (with_reducible assumption) | assumption) | (have e_ := (Kd.S_reads' HO_11.out).1; omega))
                         obtain ⟨ve386_0, rfl, ge386_0⟩ := hMe386
                         have hv386_0 := hcc386 0 _ rfl
                         rw [Nat.add_zero, show ((Kd.slice 3 (Kd.int .i64))).sz = 1 from rfl, Nat.mul_one] at hv386_0
                         replace hv386_0 := Option.some.inj (hv386_0.symm.trans hx386_0)
                         rw [hv386_0] at ge386_0
                         have HL386_0 := Aside0.mk (show Kd.R (Kd.int .i64) 3 _ _ _ _ (rd_L3 t375 t385) from ge386_0)
                         clear hv386_0 ge386_0
                         clear hcc386 hce386
                         have HR386_0 := Aside0.mk hi386_0
                         have HC386_0 := Aside0.mk hl386_0
                         clear hi386_0 hl386_0
                         replace p386 := eq_true p386
                         replace q386 := eq_true q386
                         have p388 : 0 ≤ (t387 : Int) := of_decide_eq_true (by first | (with_reducible assumption) | assumption)
                         have q388 : t387 < ((rd_L3 t375 t385).length : Int) := of_decide_eq_true (by first | (with_reducible assumption) | assumption)
                         obtain ⟨ad388, e388, hx388_0⟩ := Kd.at_int (by repeat (first | (with_reducible exact HR386_0.out) | (with_reducible refine Kd.C_alloc ?_ _) | (with_reducible refine Kd.C_drewN ?_ _) | (with_reducible refine Kd.C_drew ?_) | exact HR386_0.out)) t387 p388 q388
                         cases e388
                         replace p388 := eq_true p388
                         replace q388 := eq_true q388
                         refine start_ (n := 13) (S := fun w' => w'.cell? (ad386.add (t385).toNat) = some (.slice (some ad388) (rd_L3 t375 t385).length c386_0) ∧ w'.cell? (ad388.add (t387).toNat) = some (.int .i64 (rd (rd_L3 t375 t385) t387))) (ds := []) #[false, false, false, false, false, false, false, false, false, false, false, false, false] (by kernel_rfl) rfl rfl ⟨hx386_0, hx388_0⟩ (fun hHeld => ?_); refine with_tabW timesynclaw18_TopoRenumbers.tab21 timesynclaw18_TopoRenumbers.bits21 (fun HT_ HW_ => ?_)
                         generalize wr.drew = w86 at HO_9 HO_11 HO_363001 BK357 BK358 BK362 HR383_0 HB HL386_0 HR386_0 hx386_0 hx388_0 hHeld ⊢
                         refine pure_ (i := 0) (N := some 100) (v := ?_) (a' := ?_) #[true, false, false, false, false, false, false, false, false, false, false, false, false] rfl rfl (any_of HT_.out (by kernel_rfl)) (fun _ _ _ h => h) (Or.inl ⟨by rfl, ?_⟩) ?_ ?_
                         rotate_left
                         ·intro w'
                          go_simp
                          with_reducible rfl
                         rotate_left
                         ·simp only [Act.put, List.setIfInBounds_toArray, List.set_cons_zero, List.set_cons_succ, i64_w, i32_w]
                          rfl
                         refine pure_ (i := 1) (N := some 101) (v := ?_) (a' := ?_) #[true, true, false, false, false, false, false, false, false, false, false, false, false] rfl rfl (any_of HT_.out (by kernel_rfl)) (fun _ _ _ h => h) (Or.inl ⟨by rfl, ?_⟩) ?_ ?_
                         rotate_left
                         ·intro w'
                          go_simp
                          with_reducible rfl
                         rotate_left
                         ·simp only [Act.put, List.setIfInBounds_toArray, List.set_cons_zero, List.set_cons_succ, i64_w, i32_w]
                          rfl
                         refine pure_ (i := 2) (N := some 102) (v := ?_) (a' := ?_) #[true, true, true, false, false, false, false, false, false, false, false, false, false] rfl rfl (any_of HT_.out (by kernel_rfl)) (fun _ _ _ h => h) (Or.inl ⟨by rfl, ?_⟩) ?_ ?_
                         rotate_left
                         ·intro w'
                          go_simp
                          with_reducible rfl
                         rotate_left
                         ·simp only [Act.put, List.setIfInBounds_toArray, List.set_cons_zero, List.set_cons_succ, i64_w, i32_w]
                          rfl
                         refine pure_ (i := 6) (N := some 106) (v := ?_) (a' := ?_) #[true, true, true, false, false, false, true, false, false, false, false, false, false] rfl rfl (any_of HT_.out (by kernel_rfl)) (fun _ _ _ h => h) (Or.inl ⟨by rfl, ?_⟩) ?_ ?_
                         rotate_left
                         ·intro w'
                          go_simp
                          with_reducible rfl
                         rotate_left
                         ·simp only [Act.put, List.setIfInBounds_toArray, List.set_cons_zero, List.set_cons_succ, i64_w, i32_w]
                          rfl
                         refine pure_ (i := 7) (N := some 107) (v := ?_) (a' := ?_) #[true, true, true, false, false, false, true, true, false, false, false, false, false] rfl rfl (any_of HT_.out (by kernel_rfl)) (fun _ _ _ h => h) (Or.inl ⟨by rfl, ?_⟩) ?_ ?_
                         rotate_left
                         ·intro w'
                          go_simp
                          with_reducible rfl
                         rotate_left
                         ·simp only [Act.put, List.setIfInBounds_toArray, List.set_cons_zero, List.set_cons_succ, i64_w, i32_w]
                          rfl
                         refine pure_ (i := 11) (N := some 111) (v := ?_) (a' := ?_) #[true, true, true, false, false, false, true, true, false, false, false, true, false] rfl rfl (any_of HT_.out (by kernel_rfl)) (fun _ _ _ h => h) (Or.inl ⟨by rfl, ?_⟩) ?_ ?_
                         rotate_left
                         ·intro w'
                          go_simp
                          with_reducible rfl
                         rotate_left
                         ·simp only [Act.put, List.setIfInBounds_toArray, List.set_cons_zero, List.set_cons_succ, i64_w, i32_w]
                          rfl
                         refine one_ (i := 3) (N := some 103) #[true, true, true, true, false, false, true, true, false, false, false, true, false] rfl rfl (one_of HT_.out (by kernel_rfl)) (by decide) (fun K hK => ?_)
                         refine Go.Proofs.Ythkpnkmbmlbefaa.HG.goesC_ #[.pointer (some ⟨gb358, 0, none⟩), .pointer (some ⟨gb357, 0, none⟩)] Try.func28 (by kernel_rfl) rfl #[.int .i64 x87_4, .pointer (some ⟨gb358, 0, none⟩), .pointer (some ⟨gb357, 0, none⟩)] (by rfl) rfl rfl rfl (by first | rfl | (simp only [List.map_toArray, List.map_cons, List.map_nil]; rfl)) ?_
                         with_reducible refine (timesynclaw18_TopoRenumbers_1.calls (v2_ := ?v23_) x87_4 gb358 a1 gb357 a0_0 l0_1 t385 _ ?side1 ?side2 A79.out).mono ?_
                         (case side1 => exact (by (with_reducible repeat (first | refine blk_drewN ?_ _ | refine blk_drew ?_ | refine blk_alloc ?_ _)); exact BK358.out))
                         (case side2 => exact (by (with_reducible repeat (first | refine blk_drewN ?_ _ | refine blk_drew ?_ | refine blk_alloc ?_ _)); exact BK357.out))
                         rintro e w' ⟨rfl, ⟨nd, rfl⟩⟩
                         refine ⟨_, rfl, ?_⟩
                         obtain ⟨Ao87, co87, eo87⟩ := Kd.S_slice HO_11.out
                         (first | subst eo87 | (injection eo87 with f1_ f2_ f3_; have f4_ := f1_.symm; have f5_ := f3_.symm; clear f1_ f2_ f3_; subst f4_; subst f5_))
                         refine hK.out _ _ ⟨hHeld.1, hHeld.2⟩ (fun hHeld => ?_)
                         clear hK K
                         refine norm_ (a' := ?_) ?_ ?_
                         rotate_left
                         ·show Act.put _ (some 103) _ = _
                          simp only [Act.put, List.setIfInBounds_toArray, List.set_cons_zero, List.set_cons_succ, i64_w, i32_w]
                          rfl
                         refine pure_ (i := 4) (N := some 104) (v := ?_) (a' := ?_) #[true, true, true, true, true, false, true, true, false, false, false, true, false] rfl rfl (any_of HT_.out (by kernel_rfl)) (fun _ _ _ h => h) (Or.inl ⟨by rfl, ?_⟩) ?_ ?_
                         rotate_left
                         ·intro w'
                          go_simp
                          with_reducible rfl
                         rotate_left
                         ·simp only [Act.put, List.setIfInBounds_toArray, List.set_cons_zero, List.set_cons_succ, i64_w, i32_w]
                          rfl
                         refine take_ (i := 5) (N := some 105) (v := ?_) (a' := ?_) #[true, true, true, true, true, true, true, true, false, false, false, true, false] rfl rfl (take_ofW HT_.out HW_.out (by kernel_rfl)) (fun _ _ _ h => h) (Or.inl ⟨by rfl, ?_⟩) hHeld ?_ ?_
                         rotate_left
                         ·rintro w' ⟨s0, s1⟩
                          go_simp
                          with_reducible rfl
                         rotate_left
                         ·simp only [Act.put, List.setIfInBounds_toArray, List.set_cons_zero, List.set_cons_succ, i64_w, i32_w]
                          rfl
                         refine one_ (i := 8) (N := some 108) #[true, true, true, true, true, true, true, true, true, false, false, true, false] rfl rfl (one_of HT_.out (by kernel_rfl)) (by decide) (fun K hK => ?_)
                         refine Go.Proofs.Ythkpnkmbmlbefaa.HG.goesC_ #[.pointer (some ⟨gb358, 0, none⟩), .pointer (some ⟨gb357, 0, none⟩)] Try.func28 (by kernel_rfl) rfl #[.int .i64 x95_5, .pointer (some ⟨gb358, 0, none⟩), .pointer (some ⟨gb357, 0, none⟩)] (by rfl) rfl rfl rfl (by first | rfl | (simp only [List.map_toArray, List.map_cons, List.map_nil]; rfl)) ?_
                         with_reducible refine (timesynclaw18_TopoRenumbers_1.calls (v2_ := ?v24_) x95_5 gb358 a1 gb357 a0_0 l0_1 t387 _ ?side1 ?side2 A82.out).mono ?_
                         (case side1 => exact (by (with_reducible repeat (first | refine blk_drewN ?_ _ | refine blk_drew ?_ | refine blk_alloc ?_ _)); exact BK358.out))
                         (case side2 => exact (by (with_reducible repeat (first | refine blk_drewN ?_ _ | refine blk_drew ?_ | refine blk_alloc ?_ _)); exact BK357.out))
                         rintro e w' ⟨rfl, ⟨nd, rfl⟩⟩
                         refine ⟨_, rfl, ?_⟩
                         refine hK.out _ _ ⟨hHeld.1, hHeld.2⟩ (fun hHeld => ?_)
                         clear hK K
                         refine norm_ (a' := ?_) ?_ ?_
                         rotate_left
                         ·show Act.put _ (some 108) _ = _
                          simp only [Act.put, List.setIfInBounds_toArray, List.set_cons_zero, List.set_cons_succ, i64_w, i32_w]
                          rfl
                         refine pure_ (i := 9) (N := some 109) (v := ?_) (a' := ?_) #[true, true, true, true, true, true, true, true, true, true, false, true, false] rfl rfl (any_of HT_.out (by kernel_rfl)) (fun _ _ _ h => h) (Or.inl ⟨by rfl, ?_⟩) ?_ ?_
                         rotate_left
                         ·intro w'
                          go_simp
                          with_reducible rfl
                         rotate_left
                         ·simp only [Act.put, List.setIfInBounds_toArray, List.set_cons_zero, List.set_cons_succ, i64_w, i32_w]
                          rfl
                         refine take_ (i := 10) (N := some 110) (v := ?_) (a' := ?_) #[true, true, true, true, true, true, true, true, true, true, true, true, false] rfl rfl (take_ofW HT_.out HW_.out (by kernel_rfl)) (fun _ _ _ h => h) (Or.inl ⟨by rfl, ?_⟩) hHeld ?_ ?_
                         rotate_left
                         ·rintro w' ⟨s0, s1⟩
                          go_simp
                          with_reducible rfl
                         rotate_left
                         ·simp only [Act.put, List.setIfInBounds_toArray, List.set_cons_zero, List.set_cons_succ, i64_w, i32_w]
                          rfl
                         refine pure_ (i := 12) (N := some 112) (v := ?_) (a' := ?_) #[true, true, true, true, true, true, true, true, true, true, true, true, true] rfl rfl (any_of HT_.out (by kernel_rfl)) (fun _ _ _ h => h) (Or.inl ⟨by rfl, ?_⟩) ?_ ?_
                         rotate_left
                         ·intro w'
                          go_simp
                          with_reducible rfl
                         rotate_left
                         ·simp only [Act.put, List.setIfInBounds_toArray, List.set_cons_zero, List.set_cons_succ, i64_w, i32_w]
                          rfl
                         refine done_ (done_of HT_.out (by kernel_rfl)) ?_
                         try go_wp2
                         go_roundg k5
                         case measure => have := HJ2.out; have := HK2.out; have := HJ45.out; have := HK4.out; have := HK5.out; omega
                         case rel => exact ⟨(wrap64 (x95_5 + 1)), (by first | rfl | (simp; done) | (simp [*]; done)), H', ⟨by have := HJ2.out; have := HK2.out; have := HJ45.out; have := HK4.out; have := HK5.out; omega⟩, ⟨by (try simp only [hl363001_45]); (with_reducible repeat (first | apply Kd.S_alloc | apply Kd.S_drewN | apply Kd.S_drew)); exact HO_9.out⟩, ⟨by (try simp only [hl363001_45]); (with_reducible repeat (first | apply Kd.S_alloc | apply Kd.S_drewN | apply Kd.S_drew)); exact HO_11.out⟩, ⟨by (try simp only [hl363001_45]); (with_reducible repeat (first | apply Kd.R_alloc | apply Kd.R_drewN | apply Kd.R_drew)); exact HO_363001.out⟩, ⟨by (try simp only [hl363001_45]); (with_reducible repeat (first | refine blk_drewN ?_ _ | refine blk_drew ?_ | refine blk_alloc ?_ _)); exact BK357.out⟩, ⟨by (try simp only [hl363001_45]); (with_reducible repeat (first | refine blk_drewN ?_ _ | refine blk_drew ?_ | refine blk_alloc ?_ _)); exact BK358.out⟩, ⟨by (try simp only [hl363001_45]); (with_reducible repeat (first | refine blk_drewN ?_ _ | refine blk_drew ?_ | refine blk_alloc ?_ _)); exact BK362.out⟩, ⟨by repeat (first | (with_reducible exact HR383_0.out) | (with_reducible refine Kd.C_alloc ?_ _) | (with_reducible refine Kd.C_drewN ?_ _) | (with_reducible refine Kd.C_drew ?_) | exact HR383_0.out)⟩, ⟨by repeat (first | (with_reducible first | exact HB.out | apply below_alloc | apply pw_below_drewN | apply below_drew1 | refine below_set ?_ GE357.out | refine below_set ?_ GE358.out | refine below_set ?_ GE362.out) | exact HB.out)⟩⟩
                        ·rw [if_neg c85] at H
                         exact absurd H (by simp)
                       ·rw [if_neg c84] at H
                        exact absurd H (by simp)
                      ·rw [if_neg c83] at H
                       exact absurd H (by simp)
                     ·rw [if_neg c81] at H
                      exact absurd H (by simp)
                    ·rw [if_neg c80] at H
                     exact absurd H (by simp)
                   ·rw [if_neg c78] at H
                    exact absurd H (by simp)
                  ·rw [if_neg c77] at H
                   exact absurd H (by simp)
                 ·rw [if_neg c76] at H
                  have c76b0 : decide (x95_5 < ((rd_L3 t371 x87_4).length : Int)) = false := decide_eq_false c76
                  clear c76
                  (try (have c76r0 := c76b0; simp only [hl363001_45] at c76r0))
                  have H' := Aside0.mk H
                  clear H
                  go_wp2
                  go_roundg k5
                  case measure => have := HJ2.out; have := HK2.out; have := HJ45.out; have := HK4.out; have := HK5.out; omega
                  case rel => exact ⟨(wrap64 (x87_4 + 1)), (by first | rfl | (simp; done) | (simp [*]; done)), H', ⟨by have := HJ2.out; have := HK2.out; have := HJ45.out; have := HK4.out; have := HK5.out; omega⟩, ⟨by (try simp only [hl363001_45]); (with_reducible repeat (first | apply Kd.S_alloc | apply Kd.S_drewN | apply Kd.S_drew)); exact HO_9.out⟩, ⟨by (try simp only [hl363001_45]); (with_reducible repeat (first | apply Kd.S_alloc | apply Kd.S_drewN | apply Kd.S_drew)); exact HO_11.out⟩, ⟨by (try simp only [hl363001_45]); (with_reducible repeat (first | apply Kd.R_alloc | apply Kd.R_drewN | apply Kd.R_drew)); exact HO_363001.out⟩, ⟨by (try simp only [hl363001_45]); (with_reducible repeat (first | refine blk_drewN ?_ _ | refine blk_drew ?_ | refine blk_alloc ?_ _)); exact BK357.out⟩, ⟨by (try simp only [hl363001_45]); (with_reducible repeat (first | refine blk_drewN ?_ _ | refine blk_drew ?_ | refine blk_alloc ?_ _)); exact BK358.out⟩, ⟨by (try simp only [hl363001_45]); (with_reducible repeat (first | refine blk_drewN ?_ _ | refine blk_drew ?_ | refine blk_alloc ?_ _)); exact BK362.out⟩, ⟨by repeat (first | (with_reducible first | exact HB.out | apply below_alloc | apply pw_below_drewN | apply below_drew1 | refine below_set ?_ GE357.out | refine below_set ?_ GE358.out | refine below_set ?_ GE362.out) | exact HB.out)⟩⟩
              ·rw [if_neg c75] at H
               exact absurd H (by simp)
             ·rw [if_neg c74] at H
              exact absurd H (by simp)
            ·rw [if_neg c73] at H
             have c73b0 : decide (x87_4 < (t371.length : Int)) = false := decide_eq_false c73
             clear c73
             (try (have c73r0 := c73b0; simp only [hl363001_45] at c73r0))
             replace H := Option.bind_eq_some_iff.mp H
             obtain ⟨t382, A880, H⟩ := H
             replace H : (some t382) = some r := H
             have A88 := Aside0.mk A880
             clear A880
             obtain rfl := Option.some.inj H
             go_wp2_with (first | ((with_reducible refine gate_callee (f := 16) rfl ?_); refine goesL_ (some 115) rfl rfl Try.func16 (by kernel_rfl) rfl #[] rfl (by (try simp only [List.map_toArray, List.map_cons, List.map_nil]); first | done | rfl | (simp only [List.length_drop, List.length_take]; rfl)) ?_; (with_reducible refine (timesynclaw18_awake.calls k4  t382 _ A88.out).mono ?_); rintro e w89 ⟨rfl, hb⟩; refine ⟨_, rfl, ?_⟩; have n0_ := Aside0.mk (Kd.S_below (by (with_reducible repeat (first | apply Kd.S_alloc | apply Kd.S_drewN | apply Kd.S_drew)); exact HO_9.out) hb); have n1_ := Aside0.mk (Kd.S_below (by (with_reducible repeat (first | apply Kd.S_alloc | apply Kd.S_drewN | apply Kd.S_drew)); exact HO_11.out) hb); have n2_ := Aside0.mk (Kd.R_below (by (with_reducible repeat (first | apply Kd.R_alloc | apply Kd.R_drewN | apply Kd.R_drew)); exact HO_363001.out) hb); have n3_ := Aside0.mk (blk_below (g := gb357) (o := .cells #[.int .i64 a0_0, .slice A0_1 l0_1.length c0_1] 24 (0, 0)) (by (with_reducible repeat (first | refine blk_drewN ?_ _ | refine blk_drew ?_ | refine blk_alloc ?_ _)); exact BK357.out) hb); have n4_ := Aside0.mk (blk_below (g := gb358) (o := .cells #[.int .u8 a1] 5 (0, 0)) (by (with_reducible repeat (first | refine blk_drewN ?_ _ | refine blk_drew ?_ | refine blk_alloc ?_ _)); exact BK358.out) hb); have n5_ := Aside0.mk (blk_below (g := gb362) (o := .cells #[.int .i64 a0_0, .slice Ao50 t370.length co50] 24 (0, 0)) (by (with_reducible repeat (first | refine blk_drewN ?_ _ | refine blk_drew ?_ | refine blk_alloc ?_ _)); exact BK362.out) hb); have n6_ := Aside0.mk (below_step (by repeat (first | (with_reducible first | exact HB.out | apply below_alloc | apply pw_below_drewN | apply below_drew1 | refine below_set ?_ GE357.out | refine below_set ?_ GE358.out | refine below_set ?_ GE362.out) | exact HB.out)) hb); clear HO_9; clear HO_11; clear HO_363001; clear BK357; clear BK358; clear BK362; clear HB; have HO_9 := n0_; have HO_11 := n1_; have HO_363001 := n2_; have BK357 := n3_; have BK358 := n4_; have BK362 := n5_; have HB := n6_; clear n0_ n1_ n2_ n3_ n4_ n5_ n6_; (try clear hb); (try clear hb2); (try clear hk); (try clear hi)))
             go_ret
             exact ⟨by first | rfl | (simp [errW_none, errW_some] <;> rfl) | (simp [*, errW_none, errW_some] <;> rfl), by repeat (first | (with_reducible first | exact HB.out | apply below_alloc | apply pw_below_drewN | apply below_drew1 | refine below_set ?_ GE357.out | refine below_set ?_ GE358.out | refine below_set ?_ GE362.out) | exact HB.out)⟩

end Go.Proofs.Ythkpnkmbmlbefaa.X

namespace Go.Proofs.Ythkpnkmbmlbefaa.X
open Go.RowKit Go.Proofs.YthkpnkmbmlbefaaW.PrintWords Go.Proofs.YthkpnkmbmlbefaaW.PrintLast Go.Proofs.YthkpnkmbmlbefaaW.PrintMore
attribute [local go_sem] max2_int min2_int max_two min_two max_three min_three max_four min_four   -- for this text's walks alone
set_option linter.unusedVariables false
set_option linter.unusedSimpArgs false

def WFi64 (x : Int) : Prop := (Lit.int .i64 x).wf = true
def WF37 (x : S37) : Prop := WFi64 x.f0 ∧ WFi64 x.f1 ∧ WFi64 x.f2 ∧ WFi64 x.f3
def WFL37 (x : List (S37)) : Prop := x.length ≤ 9223372036854775807 ∧ ∀ y ∈ x, WF37 y
def WF24 (x : S24) : Prop := WFi64 x.f0 ∧ WFL37 x.f1
def WFu8 (x : Int) : Prop := (Lit.int .u8 x).wf = true
end Go.Proofs.Ythkpnkmbmlbefaa.X

/- Plain words of this seat: rounds, wrapped numbers, lists by index; the check of graphs: the program's and the reference's tell the same. -/
namespace Go.Proofs.Ythkpnkmbmlbefaa.PB
open Go.RowKit Go.Proofs.Ythkpnkmbmlbefaa.X Go.Proofs.YthkpnkmbmlbefaaW.PrintWords Go.Proofs.YthkpnkmbmlbefaaW.PrintLast

section
variable {α β : Type} {f g h : Nat → Option α} {r : α} {c : Prop} [Decidable c]
theorem Ev.pos (hc : c) (h : Ev f r) : Ev (fun n => if c then f n else g n) r := Ev.congr (fun _ => if_pos hc) h
theorem Ev.neg (hc : ¬ c) (h : Ev g r) : Ev (fun n => if c then f n else g n) r := Ev.congr (fun _ => if_neg hc) h
theorem Ev.ite_ (h1 : c → Ev f r) (h2 : ¬ c → Ev g r) : Ev (fun n => if c then f n else g n) r := by
  by_cases hc : c
  · exact Ev.pos hc (h1 hc)
  · exact Ev.neg hc (h2 hc)
theorem Ev.bind' {g : Nat → Option α} {f : Nat → α → Option β} {r : β} (a : α) (h : Ev g a) (k : Ev (fun n => f n a) r) : Ev (fun n => (g n).bind (f n)) r := Ev.bind h k
theorem Ev.some_bind {f : Nat → α → Option β} {a : α} {r : β} (k : Ev (fun n => f n a) r) : Ev (fun n => (some a).bind (f n)) r := k
theorem Ev.const {x : Option α} (h : x = some r) : Ev (fun _ => x) r := ⟨0, fun _ _ => h⟩
theorem Ev.uniq {r r' : α} (h : Ev f r) (h' : Ev f r') : r = r' := by
  obtain ⟨K, h⟩ := h
  obtain ⟨K', h'⟩ := h'
  have h1 := h (max K K') (by omega)
  have h2 := h' (max K K') (by omega)
  rw [h1] at h2
  exact Option.some.inj h2
end
theorem wrap_id {x : Int} (h0 : -9223372036854775808 ≤ x) (h1 : x < 9223372036854775808) : wrap64 x = x := by
  unfold wrap64; omega
theorem wrap_nat {i : Nat} (h : i < 9223372036854775807) : wrap64 ((i : Int) + 1) = ((i + 1 : Nat) : Int) := by
  rw [wrap_id (by omega) (by omega)]; rfl
theorem rd37 (l : List S37) (i : Nat) : rd_T37 l (i : Int) = l.getD i z37 := by simp [rd_T37]
theorem rdI (l : List Int) (i : Nat) : rd l (i : Int) = l.getD i 0 := by simp [rd]
theorem rdL3 (l : List (List Int)) (i : Nat) : rd_L3 l (i : Int) = l.getD i [] := by simp [rd_L3]

/-! ### Rows of numbers alike -/
theorem eq_from (x y : List Int) (hx : x.length < 9223372036854775807) (he : x.length = y.length) : ∀ d i, i + d = x.length → Ev (fun k => slices_Equal_int_int.l0 k x y x.length i) (decide (x.drop i = y.drop i)) := by
  intro d
  induction d with
  | zero =>
    intro i hi
    refine Ev.step (fun k => by rw [slices_Equal_int_int.l0]) ?_
    refine Ev.neg (by omega) (Ev.const ?_)
    rw [List.drop_of_length_le (by omega), List.drop_of_length_le (by omega)]
    simp
  | succ d ih =>
    intro i hi
    refine Ev.step (fun k => by rw [slices_Equal_int_int.l0]) ?_
    refine Ev.pos (by omega) (Ev.pos (by omega) (Ev.pos (by omega) (Ev.pos (by omega) ?_)))
    rw [rdI, rdI]
    have e1 : x.drop i = x.getD i 0 :: x.drop (i + 1) := by
      rw [List.drop_eq_getElem_cons (by omega)]; simp [List.getD, show i < x.length by omega]
    have e2 : y.drop i = y.getD i 0 :: y.drop (i + 1) := by
      rw [List.drop_eq_getElem_cons (by omega)]; simp [List.getD, show i < y.length by omega]
    refine Ev.ite_ (fun h => ?_) (fun h => Ev.const ?_)
    · rw [wrap_nat (by omega), e1, e2]
      have := ih (i + 1) (by omega)
      rw [h]
      simp only [List.cons.injEq, true_and]
      exact this
    · rw [e1, e2]
      have : ¬ (x.getD i 0 :: x.drop (i + 1) = y.getD i 0 :: y.drop (i + 1)) := fun q => h (by injection q)
      simp only [this, decide_false]
theorem eq_ints (x y : List Int) (hx : x.length < 9223372036854775807) : Ev (fun k => slices_Equal_int_int.f k x y) (decide (x = y)) := by
  unfold slices_Equal_int_int.f
  refine Ev.ite_ (fun h => ?_) (fun h => Ev.const ?_)
  · have he : x.length = y.length := by omega
    have := eq_from x y hx he x.length 0 (by omega)
    simpa using this
  · have : ¬ x = y := fun e => h (by rw [e])
    simp [this]

/-! ### Check -/
/-- An edge with its ends within the limits. -/
def OkE (a : Int) (e : S37) : Prop := 0 ≤ e.f0 ∧ e.f0 < a ∧ 0 ≤ e.f2 ∧ e.f2 < a ∧ 1 ≤ e.f1 ∧ e.f1 ≤ 8 ∧ 1 ≤ e.f3 ∧ e.f3 ≤ 8
instance (a : Int) (e : S37) : Decidable (OkE a e) := by unfold OkE; infer_instance
def hasEnd (e : S37) (q : Int × Int) : Prop := (e.f0 = q.1 ∧ e.f1 = q.2) ∨ (e.f2 = q.1 ∧ e.f3 = q.2)
instance (e : S37) (q : Int × Int) : Decidable (hasEnd e q) := by unfold hasEnd; infer_instance
/-- One of the n edges from j on has this end. -/
def usedFrom (l : List S37) (q : Int × Int) : Nat → Nat → Bool
  | 0, _ => false
  | d + 1, j => if hasEnd (l.getD j z37) q then true else usedFrom l q d (j + 1)
def chkFrom (a : Int) (l : List S37) : Nat → Nat → Int
  | 0, _ => 0
  | d + 1, i => if OkE a (l.getD i z37) then (if (l.getD i z37).f0 = (l.getD i z37).f2 then 18 else if usedFrom l ((l.getD i z37).f0, (l.getD i z37).f1) i 0 = true then 10 else if usedFrom l ((l.getD i z37).f2, (l.getD i z37).f3) i 0 = true then 10 else chkFrom a l d (i + 1)) else 3
def chk (a : Int) (l : List S37) : Int := if a < 1 ∨ a > 24 then 3 else if (l.length : Int) > 64 then 6 else chkFrom a l l.length 0
theorem usedFrom_iff (l : List S37) (q : Int × Int) : ∀ d j, usedFrom l q d j = true ↔ ∃ i, j ≤ i ∧ i < j + d ∧ hasEnd (l.getD i z37) q
  | 0, j => by simp [usedFrom]; omega
  | d + 1, j => by
    unfold usedFrom
    by_cases h : hasEnd (l.getD j z37) q
    · rw [if_pos h]
      exact ⟨fun _ => ⟨j, by omega, by omega, h⟩, fun _ => rfl⟩
    · rw [if_neg h, usedFrom_iff l q d (j + 1)]
      constructor
      · rintro ⟨i, h1, h2, h3⟩; exact ⟨i, by omega, by omega, h3⟩
      · rintro ⟨i, h1, h2, h3⟩
        refine ⟨i, ?_, by omega, h3⟩
        rcases Nat.lt_or_ge j i with q | q
        · omega
        · obtain rfl : i = j := by omega
          exact absurd h3 h
theorem impl_from (a : Int) (l : List S37) (hn : l.length ≤ 64) : ∀ d i ks, i + d = l.length → (∀ q, q ∈ ks ↔ usedFrom l q i 0 = true) → Ev (fun k => topo_Check.l0 k l i a ks) (chkFrom a l d i) := by
  intro d
  induction d with
  | zero =>
    intro i ks hi _
    refine Ev.step (fun k => by rw [topo_Check.l0]) ?_
    exact Ev.neg (by omega) (Ev.const rfl)
  | succ d ih =>
    intro i ks hi hks
    refine Ev.step (fun k => by rw [topo_Check.l0]) ?_
    refine Ev.pos (by omega) (Ev.pos (by omega) (Ev.pos (by omega) ?_))
    rw [rd37]
    unfold topo_ends.f
    refine Ev.some_bind ?_
    dsimp only
    have hnext := ih (i + 1) ((((l.getD i z37).f2, (l.getD i z37).f3)) :: ((l.getD i z37).f0, (l.getD i z37).f1) :: ks) (by omega) (fun q => by
      rw [usedFrom_iff]
      simp only [List.mem_cons]
      rw [hks q, usedFrom_iff]
      constructor
      · rintro (h | h | ⟨j, h1, h2, h3⟩)
        · exact ⟨i, by omega, by omega, .inr (by rw [h]; exact ⟨rfl, rfl⟩)⟩
        · exact ⟨i, by omega, by omega, .inl (by rw [h]; exact ⟨rfl, rfl⟩)⟩
        · exact ⟨j, by omega, by omega, h3⟩
      · rintro ⟨j, h1, h2, h3⟩
        by_cases hj : j = i
        · subst hj
          rcases h3 with ⟨h3, h4⟩ | ⟨h3, h4⟩
          · exact .inr (.inl (by rw [h3, h4]))
          · exact .inl (by rw [h3, h4])
        · exact .inr (.inr ⟨j, h1, by omega, h3⟩))
    have k1 := hks ((l.getD i z37).f0, (l.getD i z37).f1)
    have k2 := hks ((l.getD i z37).f2, (l.getD i z37).f3)
    unfold chkFrom
    generalize l.getD i z37 = e at *
    have bad : ¬ OkE a e → ∀ r : Int, Ev (fun _ : Nat => some 3) (if OkE a e then r else 3) := fun h r => by rw [if_neg h]; exact Ev.const rfl
    refine Ev.step (fun k => by rw [topo_Check.l1]) ?_
    refine Ev.pos rfl (Ev.ite_ (fun h1 => bad (by unfold OkE; omega) _) (fun h1 => Ev.ite_ (fun h2 => bad (by unfold OkE; omega) _) (fun h2 => Ev.ite_ (fun h3 => bad (by unfold OkE; omega) _) (fun h3 => Ev.ite_ (fun h4 => bad (by unfold OkE; omega) _) (fun h4 => ?_)))))
    refine Ev.step (fun k => by rw [topo_Check.l1]) ?_
    refine Ev.neg (by decide) (Ev.pos rfl (Ev.ite_ (fun h5 => bad (by unfold OkE; omega) _) (fun h5 => Ev.ite_ (fun h6 => bad (by unfold OkE; omega) _) (fun h6 => Ev.ite_ (fun h7 => bad (by unfold OkE; omega) _) (fun h7 => Ev.ite_ (fun h8 => bad (by unfold OkE; omega) _) (fun h8 => ?_))))))
    refine Ev.step (fun k => by rw [topo_Check.l1]) ?_
    refine Ev.neg (by decide) (Ev.neg (by decide) ?_)
    rw [if_pos (by unfold OkE; omega)]
    refine Ev.ite_ (fun h9 => ?_) (fun h9 => ?_)
    · rw [if_pos h9]; exact Ev.const rfl
    · rw [if_neg h9]
      refine Ev.ite_ (fun h10 => ?_) (fun h10 => ?_)
      · rw [if_pos (k1.1 h10)]; exact Ev.const rfl
      · rw [if_neg (fun q => h10 (k1.2 q))]
        refine Ev.ite_ (fun h11 => ?_) (fun h11 => ?_)
        · rw [if_pos (k2.1 h11)]; exact Ev.const rfl
        · rw [if_neg (fun q => h11 (k2.2 q)), wrap_nat (by omega)]
          exact hnext
theorem impl_check (a : Int) (l : List S37) : Ev (fun k => topo_Check.f k a l) (chk a l) := by
  unfold topo_Check.f chk
  refine Ev.ite_ (fun h => ?_) (fun h => ?_)
  · rw [if_pos (.inl h)]
    refine Ev.step (fun k => by rw [topo_Check.j0]) ?_
    exact Ev.pos rfl (Ev.const rfl)
  · refine Ev.step (fun k => by rw [topo_Check.j0]) ?_
    refine Ev.ite_ (fun h1 => ?_) (fun h1 => ?_)
    · rw [if_pos (.inr (of_decide_eq_true h1))]; exact Ev.const rfl
    · have h1' : ¬ a > 24 := by simpa using h1
      rw [if_neg (by omega)]
      refine Ev.pos (by omega) (Ev.ite_ (fun h2 => ?_) (fun h2 => ?_))
      · rw [if_pos h2]; exact Ev.const rfl
      · rw [if_neg h2]
        exact impl_from a l (by omega) l.length 0 [] (by omega) (fun q => by simp [usedFrom])
end Go.Proofs.Ythkpnkmbmlbefaa.PB

/- Distances in a graph, as the chapter's rules determine them; the search in waves, the reference's rounds, and the way down give what they determine. -/
namespace Go.Proofs.Ythkpnkmbmlbefaa.PB
open Go.RowKit Go.Proofs.Ythkpnkmbmlbefaa Go.Proofs.Ythkpnkmbmlbefaa.X Go.Proofs.YthkpnkmbmlbefaaW.PrintWords Go.Proofs.YthkpnkmbmlbefaaW.PrintLast
structure IsDist (N : Nat) (adj : Nat → Nat → Prop) (a : Nat) (d : Nat → Int) : Prop where
  zero : d a = 0
  only : ∀ x, x < N → d x = 0 → x = a
  low : ∀ x, x < N → -1 ≤ d x
  edge : ∀ x y, adj x y → 0 ≤ d x → 0 ≤ d y ∧ d y ≤ d x + 1
  back : ∀ x, x < N → 0 < d x → ∃ y, adj y x ∧ d y = d x - 1
section
variable {N : Nat} {adj : Nat → Nat → Prop} {a : Nat} {d d' : Nat → Int}
theorem IsDist.le (hr : ∀ x y, adj x y → x < N ∧ y < N) (h : IsDist N adj a d) (h' : IsDist N adj a d') : ∀ (n : Nat) (x : Nat), x < N → d x = n → 0 ≤ d' x ∧ d' x ≤ n
  | 0, x, hx, e => by
    have := h.only x hx (by simpa using e)
    subst this
    have := h'.zero
    omega
  | n + 1, x, hx, e => by
    obtain ⟨y, ha, hy⟩ := h.back x hx (by omega)
    have h1 := IsDist.le hr h h' n y (hr _ _ ha).1 (by omega)
    have h2 := h'.edge y x ha h1.1
    omega
theorem IsDist.uniq (hr : ∀ x y, adj x y → x < N ∧ y < N) (h : IsDist N adj a d) (h' : IsDist N adj a d') (x : Nat) (hx : x < N) : d x = d' x := by
  have l1 := h.low x hx
  have l2 := h'.low x hx
  rcases Int.lt_or_le (d x) 0 with q | q
  · rcases Int.lt_or_le (d' x) 0 with q' | q'
    · omega
    · have := h'.le hr h (d' x).toNat x hx (by omega)
      omega
  · have h1 := h.le hr h' (d x).toNat x hx (by omega)
    have h2 := h'.le hr h (d' x).toNat x hx (by omega)
    omega
theorem pigeon : ∀ (N n : Nat) (f : Nat → Nat), (∀ i, i < n → f i < N) → (∀ i j, i < n → j < n → f i = f j → i = j) → n ≤ N
  | 0, n, f, h, _ => by
    rcases Nat.eq_zero_or_pos n with h0 | h0
    · omega
    · exact absurd (h 0 h0) (by omega)
  | N + 1, n, f, h, hi => by
    by_cases q : ∃ i, i < n ∧ f i = N
    · obtain ⟨i0, h0, e0⟩ := q
      have := pigeon N (n - 1) (fun j => if j < i0 then f j else f (j + 1)) (fun j hj => by
        split
        · rename_i hlt
          have h1 := h j (by omega)
          have h2 : f j ≠ N := fun e => by have := hi j i0 (by omega) h0 (by omega); omega
          omega
        · rename_i hlt
          have h1 := h (j + 1) (by omega)
          have h2 : f (j + 1) ≠ N := fun e => by have := hi (j + 1) i0 (by omega) h0 (by omega); omega
          omega) (fun i j hi' hj' e => by
        split at e <;> split at e
        · exact hi i j (by omega) (by omega) e
        · have := hi i (j + 1) (by omega) (by omega) e; omega
        · have := hi (i + 1) j (by omega) (by omega) e; omega
        · have := hi (i + 1) (j + 1) (by omega) (by omega) e; omega)
      omega
    · have := pigeon N n f (fun i hi' => by
        have h1 := h i hi'
        have h2 : f i ≠ N := fun e => q ⟨i, hi', e⟩
        omega) hi
      omega
theorem IsDist.levels (hr : ∀ x y, adj x y → x < N ∧ y < N) (h : IsDist N adj a d) : ∀ (n : Nat) (x : Nat), x < N → d x = n → ∀ k : Nat, k ≤ n → ∃ y, y < N ∧ d y = k
  | 0, x, hx, e, k, hk => ⟨x, hx, by omega⟩
  | n + 1, x, hx, e, k, hk => by
    by_cases q : k = n + 1
    · exact ⟨x, hx, by omega⟩
    · obtain ⟨y, ha, hy⟩ := h.back x hx (by omega)
      exact IsDist.levels hr h n y (hr _ _ ha).1 (by omega) k (by omega)
theorem IsDist.lt (hr : ∀ x y, adj x y → x < N ∧ y < N) (h : IsDist N adj a d) (x : Nat) (hx : x < N) : d x < N := by
  rcases Int.lt_or_le (d x) 0 with q | q
  · omega
  · have h1 := h.levels hr (d x).toNat x hx (by omega)
    have h2 : ∀ k : Nat, ∃ y, k ≤ (d x).toNat → (y < N ∧ d y = k) := fun k => by
      by_cases hk : k ≤ (d x).toNat
      · obtain ⟨y, hy⟩ := h1 k hk
        exact ⟨y, fun _ => hy⟩
      · exact ⟨0, fun h => absurd h hk⟩
    have := pigeon N ((d x).toNat + 1) (fun k => Classical.choose (h2 k)) (fun i hi => (Classical.choose_spec (h2 i) (by omega)).1) (fun i j hi hj e => by
      have e1 := (Classical.choose_spec (h2 i) (by omega)).2
      have e2 := (Classical.choose_spec (h2 j) (by omega)).2
      rw [e] at e1
      omega)
    omega
end
section
variable {N : Nat} {adj : Nat → Nat → Prop} {a : Nat}
def gd (l : List Int) (i : Nat) : Int := l.getD i 0
theorem gd_set {l : List Int} {i : Nat} (h : i < l.length) (v : Int) (j : Nat) : gd (l.set i v) j = if j = i then v else gd l j := by
  unfold gd
  by_cases q : j = i
  · subst q; simp [h]
  · rw [if_neg q]; simp [List.getD, Ne.symm q]
def push (x : Nat) (s : List Int × List Nat) (y : Nat) : List Int × List Nat := if gd s.1 y < 0 then (s.1.set y (gd s.1 x + 1), s.2 ++ [y]) else s
structure Base (N : Nat) (adj : Nat → Nat → Prop) (a : Nat) (d : List Int) (w : List Nat) : Prop where
  len : d.length = N
  node : ∀ x ∈ w, x < N ∧ 0 ≤ gd d x
  zero : gd d a = 0
  only : ∀ x, x < N → gd d x = 0 → x = a
  low : ∀ x, x < N → -1 ≤ gd d x
  back : ∀ x, x < N → 0 < gd d x → ∃ y, adj y x ∧ gd d y = gd d x - 1
  order : w.Pairwise (fun x y => gd d x ≤ gd d y)
structure Outer (N : Nat) (adj : Nat → Nat → Prop) (a : Nat) (d : List Int) (w : List Nat) : Prop extends Base N adj a d w where
  closed : ∀ z, z < N → 0 ≤ gd d z → z ∈ w ∨ ∀ y, adj z y → 0 ≤ gd d y ∧ gd d y ≤ gd d z + 1
  head : ∀ x ∈ w, ∀ z, z < N → gd d z ≤ gd d x + 1
structure Inner (N : Nat) (adj : Nat → Nat → Prop) (a : Nat) (x : Nat) (done : List Nat) (d : List Int) (w : List Nat) : Prop extends Base N adj a d w where
  hx : x < N ∧ 0 ≤ gd d x
  closed : ∀ z, z < N → 0 ≤ gd d z → z ∈ w ∨ z = x ∨ ∀ y, adj z y → 0 ≤ gd d y ∧ gd d y ≤ gd d z + 1
  did : ∀ y ∈ done, 0 ≤ gd d y ∧ gd d y ≤ gd d x + 1
  top : ∀ z, z < N → gd d z ≤ gd d x + 1
  wave : ∀ u ∈ w, gd d x ≤ gd d u
theorem Inner.push (hr : ∀ x y, adj x y → x < N ∧ y < N) {x : Nat} {done : List Nat} {d : List Int} {w : List Nat} (h : Inner N adj a x done d w) {y : Nat} (hy : adj x y) :
    Inner N adj a x (y :: done) (push x (d, w) y).1 (push x (d, w) y).2 := by
  have hyN := (hr _ _ hy).2
  unfold PB.push
  by_cases q : gd d y < 0
  · simp only [if_pos q]
    have g : ∀ j, gd (d.set y (gd d x + 1)) j = if j = y then gd d x + 1 else gd d j := fun j => gd_set (by rw [h.len]; exact hyN) _ j
    have hxy : x ≠ y := fun e => by subst e; have := h.hx.2; omega
    have gp : ∀ j, 0 ≤ gd d j → gd (d.set y (gd d x + 1)) j = gd d j := fun j hj => by
      rw [g, if_neg (fun e => by subst e; omega)]
    have gx : gd (d.set y (gd d x + 1)) x = gd d x := gp x h.hx.2
    have gy : gd (d.set y (gd d x + 1)) y = gd d x + 1 := by rw [g, if_pos rfl]
    have hx0 := h.hx.2
    refine { len := by simp [h.len], node := ?_, zero := ?_, only := ?_, low := ?_, back := ?_, order := ?_, hx := ⟨h.hx.1, by rw [gx]; exact hx0⟩, closed := ?_, did := ?_, top := ?_, wave := ?_ }
    · intro u hu
      rcases List.mem_append.1 hu with hu | hu
      · have := h.node u hu
        rw [gp u this.2]; exact this
      · obtain rfl := List.mem_singleton.1 hu
        rw [gy]; exact ⟨hyN, by omega⟩
    · rw [gp a (by have := h.zero; omega)]; exact h.zero
    · intro u hu e
      rw [g] at e
      split at e
      · omega
      · exact h.only u hu e
    · intro u hu
      rw [g]
      split
      · omega
      · exact h.low u hu
    · intro u hu e
      rw [g] at e ⊢
      split at e
      · rename_i q2
        subst q2
        rw [if_pos rfl]
        exact ⟨x, hy, by rw [gx]; omega⟩
      · rename_i q2
        rw [if_neg q2]
        obtain ⟨v, hv, e2⟩ := h.back u hu e
        exact ⟨v, hv, by rw [gp v (by omega)]; exact e2⟩
    · refine List.pairwise_append.2 ⟨?_, by simp, ?_⟩
      · refine (List.Pairwise.and_mem.1 h.order).imp ?_
        rintro u v ⟨hu, hv, huv⟩
        rw [gp u (h.node u hu).2, gp v (h.node v hv).2]; exact huv
      · intro u hu v hv
        obtain rfl := List.mem_singleton.1 hv
        rw [gp u (h.node u hu).2, gy]
        exact h.top u (h.node u hu).1
    · intro z hz e
      rw [g] at e
      split at e
      · rename_i q2
        exact .inl (by simp [q2])
      · rcases h.closed z hz e with q3 | q3 | q3
        · exact .inl (by simp [q3])
        · exact .inr (.inl q3)
        · refine .inr (.inr fun v hv => ?_)
          have := q3 v hv
          rw [gp v this.1, gp z e]
          exact this
    · intro v hv
      rw [gx]
      rcases List.mem_cons.1 hv with rfl | hv
      · rw [gy]; omega
      · have := h.did v hv
        rw [gp v this.1]; exact this
    · intro z hz
      rw [gx, g]
      split
      · omega
      · exact h.top z hz
    · intro u hu
      rw [gx]
      rcases List.mem_append.1 hu with hu | hu
      · rw [gp u (h.node u hu).2]; exact h.wave u hu
      · obtain rfl := List.mem_singleton.1 hu
        rw [gy]; omega
  · simp only [if_neg q]
    exact { h with
      did := fun v hv => by
        rcases List.mem_cons.1 hv with rfl | hv
        · exact ⟨by omega, h.top v hyN⟩
        · exact h.did v hv }
theorem Outer.inner {x : Nat} {d : List Int} {w : List Nat} (h : Outer N adj a d (x :: w)) : Inner N adj a x [] d w :=
  { len := h.len, node := fun u hu => h.node u (List.mem_cons_of_mem _ hu), zero := h.zero, only := h.only, low := h.low, back := h.back, order := (List.pairwise_cons.1 h.order).2,
    hx := h.node x List.mem_cons_self, closed := fun z hz e => by
      rcases h.closed z hz e with q | q
      · rcases List.mem_cons.1 q with q | q
        · exact .inr (.inl q)
        · exact .inl q
      · exact .inr (.inr q)
    did := fun y hy => by simp at hy
    top := h.head x List.mem_cons_self
    wave := (List.pairwise_cons.1 h.order).1 }
theorem Inner.outer {x : Nat} {done : List Nat} {d : List Int} {w : List Nat} (h : Inner N adj a x done d w) (hd : ∀ y, adj x y → y ∈ done) : Outer N adj a d w :=
  { h with
    closed := fun z hz e => by
      rcases h.closed z hz e with q | q | q
      · exact .inl q
      · subst q
        exact .inr fun y hy => h.did y (hd y hy)
      · exact .inr q
    head := fun u hu z hz => by have := h.top z hz; have := h.wave u hu; omega }
theorem Outer.dist {d : List Int} (h : Outer N adj a d []) (hr : ∀ x y, adj x y → x < N ∧ y < N) : IsDist N adj a (gd d) :=
  { zero := h.zero, only := h.only, low := h.low, back := h.back, edge := fun x y hxy e => by
      rcases h.closed x (hr _ _ hxy).1 e with q | q
      · simp at q
      · exact q y hxy }
theorem Outer.init (ha : a < N) : Outer N adj a ((List.replicate N (-1)).set a 0) [a] := by
  have g : ∀ j, gd ((List.replicate N (-1)).set a 0) j = if j = a then 0 else gd (List.replicate N (-1)) j := fun j => gd_set (by simpa using ha) _ j
  have gn : ∀ j, j < N → gd (List.replicate N (-1)) j = -1 := fun j hj => by simp [gd, List.getD, hj]
  have ga : gd ((List.replicate N (-1)).set a 0) a = 0 := by rw [g, if_pos rfl]
  refine { len := by simp, node := fun x hx => ?_, zero := ga, only := fun x hx e => ?_, low := fun x hx => ?_, back := fun x hx e => ?_, order := by simp, closed := fun z hz e => ?_, head := fun x hx z hz => ?_ }
  · obtain rfl := List.mem_singleton.1 hx
    exact ⟨ha, by omega⟩
  · rw [g] at e
    split at e
    · assumption
    · rw [gn x hx] at e; omega
  · rw [g]; split
    · omega
    · rw [gn x hx]; omega
  · rw [g] at e
    split at e
    · omega
    · rw [gn x hx] at e; omega
  · rw [g] at e
    split at e
    · rename_i q; simp [q]
    · rw [gn z hz] at e; omega
  · obtain rfl := List.mem_singleton.1 hx
    rw [ga, g]; split
    · omega
    · rw [gn z hz]; omega
/-- How many are without a number. -/
def negs (d : List Int) : Nat := d.countP (fun v => decide (v < 0))
theorem push_size {x y : Nat} {d : List Int} {w : List Nat} (hy : y < d.length) (hx : 0 ≤ gd d x) : negs (push x (d, w) y).1 + (push x (d, w) y).2.length = negs d + w.length := by
  unfold push
  by_cases q : gd d y < 0
  · simp only [if_pos q]
    have : negs (d.set y (gd d x + 1)) + 1 = negs d := by
      unfold negs
      rw [List.countP_set hy]
      have e : d[y] = gd d y := by simp [gd, hy]
      rw [e]
      have hp : 0 < d.countP (fun v => decide (v < 0)) := List.countP_pos_iff.2 ⟨d[y], List.getElem_mem hy, by rw [e]; simpa using q⟩
      rw [if_pos (by simpa using q), if_neg (by simp; omega)]
      omega
    simp only [List.length_append, List.length_singleton]
    omega
  · simp only [if_neg q]
end
/-! Rounds of the reference. -/
section
def better (d e : Int) : Int := if e ≥ 0 ∧ (d < 0 ∨ e + 1 < d) then e + 1 else d
def upd (d : List Int) (x y : Nat) : List Int := d.set x (better (gd d x) (gd d y))
def relax (d : List Int) (p : Nat × Nat) : List Int := upd (upd d p.1 p.2) p.2 p.1
def adjOf (es : List (Nat × Nat)) (x y : Nat) : Prop := (x, y) ∈ es ∨ (y, x) ∈ es
variable {N : Nat} {adj : Nat → Nat → Prop} {a : Nat} {D : Nat → Int}
structure Over (N : Nat) (D : Nat → Int) (e : List Int) : Prop where
  len : e.length = N
  over : ∀ x, x < N → gd e x = -1 ∨ (0 ≤ D x ∧ D x ≤ gd e x)
theorem Over.upd (hD : IsDist N adj a D) (hr : ∀ x y, adj x y → x < N ∧ y < N) (hs : ∀ x y, adj x y → adj y x) {e : List Int} (h : Over N D e) {x y : Nat} (hxy : adj x y) :
    Over N D (upd e x y) ∧ (∀ z, z < N → 0 ≤ D z → gd e z = D z → gd (upd e x y) z = D z) ∧ (0 ≤ D y → gd e y = D y → D x = D y + 1 → gd (upd e x y) x = D x) := by
  obtain ⟨hx, hy⟩ := hr _ _ hxy
  have g : ∀ j, gd (PB.upd e x y) j = if j = x then better (gd e x) (gd e y) else gd e j := fun j => gd_set (by rw [h.len]; exact hx) _ j
  have ex := h.over x hx
  have ey := h.over y hy
  have lx := hD.low x hx
  have key : 0 ≤ gd e y → 0 ≤ D x ∧ D x ≤ gd e y + 1 := fun q => by
    have := hD.edge y x (hs _ _ hxy) (by omega)
    omega
  refine ⟨⟨by simp [PB.upd, h.len], fun z hz => ?_⟩, fun z hz h0 e1 => ?_, fun h0 e1 e2 => ?_⟩
  · rw [g]
    split
    · rename_i q; subst q
      unfold better
      split
      · rename_i c; have := key c.1; omega
      · exact ex
    · exact h.over z hz
  · rw [g]
    split
    · rename_i q; subst q
      unfold better
      split
      · rename_i c; have := key c.1; omega
      · exact e1
    · exact e1
  · rw [g, if_pos rfl]
    unfold better
    split
    · omega
    · omega
theorem Over.relax (hD : IsDist N adj a D) (hr : ∀ x y, adj x y → x < N ∧ y < N) (hs : ∀ x y, adj x y → adj y x) {e : List Int} (h : Over N D e) {p : Nat × Nat} (hp : adj p.1 p.2) :
    Over N D (relax e p) ∧ (∀ z, z < N → 0 ≤ D z → gd e z = D z → gd (relax e p) z = D z) ∧ (∀ x y, (p = (x, y) ∨ p = (y, x)) → 0 ≤ D y → gd e y = D y → D x = D y + 1 → gd (relax e p) x = D x) := by
  obtain ⟨h1, k1, r1⟩ := h.upd hD hr hs hp
  obtain ⟨h2, k2, r2⟩ := h1.upd hD hr hs (hs _ _ hp)
  refine ⟨h2, fun z hz h0 e1 => k2 z hz h0 (k1 z hz h0 e1), fun x y hxy h0 e1 e2 => ?_⟩
  rcases hxy with rfl | rfl
  · exact k2 _ (hr _ _ hp).1 (by omega) (r1 h0 e1 e2)
  · exact r2 h0 (k1 _ (hr _ _ hp).1 h0 e1) e2
def rounds (es : List (Nat × Nat)) : Nat → List Int → List Int
  | 0, d => d
  | n + 1, d => rounds es n (es.foldl relax d)
end
/-! The closure that goes down. -/
section
variable {N : Nat} {adj : Nat → Nat → Prop}
inductive Conn (adj : Nat → Nat → Prop) : Nat → Nat → Prop
  | refl (x : Nat) : Conn adj x x
  | step {x y z : Nat} : Conn adj x y → adj y z → Conn adj x z
theorem Conn.trans {x y z : Nat} (h : Conn adj x y) (k : Conn adj y z) : Conn adj x z := by
  induction k with
  | refl => exact h
  | step _ e ih => exact ih.step e
theorem Conn.symm (hs : ∀ x y, adj x y → adj y x) {x y : Nat} (h : Conn adj x y) : Conn adj y x := by
  induction h with
  | refl => exact .refl _
  | step _ e ih => exact ((Conn.refl _).step (hs _ _ e)).trans ih
/-- What one way down has done. -/
structure Down (N : Nat) (adj : Nat → Nat → Prop) (x : Nat) (least : Int) (c r : List Int) : Prop where
  len : r.length = N
  old : ∀ z, 0 ≤ gd c z → gd r z = gd c z
  new : ∀ z, z < N → gd c z < 0 → gd r z = gd c z ∨ (gd r z = least ∧ (∀ y, adj z y → 0 ≤ gd r y) ∧ Conn adj x z)
theorem Down.trans {x : Nat} {least : Int} {c r q : List Int} (h0 : 0 ≤ least) (h : Down N adj x least c r) (k : Down N adj x least r q) : Down N adj x least c q :=
  ⟨k.len, fun z hz => by have := h.old z hz; rw [k.old z (by omega), this], fun z hz e => by
    rcases h.new z hz e with e1 | ⟨e1, e2, e3⟩
    · rcases k.new z hz (by omega) with e4 | e4
      · exact .inl (by omega)
      · exact .inr e4
    · exact .inr ⟨by rw [k.old z (by omega), e1], fun y hy => by rw [k.old y (e2 y hy)]; exact e2 y hy, e3⟩⟩
end
section
variable {N : Nat}
/-- What the rows of neighbors say. -/
structure Rows (N : Nat) (next : List (List Int)) (adj : Nat → Nat → Prop) : Prop where
  len : next.length = N
  short : ∀ x, x < N → (next.getD x []).length < 4611686018427387904
  mem : ∀ x, x < N → ∀ y ∈ next.getD x [], ∃ z : Nat, y = z ∧ z < N ∧ adj x z
  all : ∀ x y, adj x y → x < N ∧ y < N ∧ (y : Int) ∈ next.getD x []
variable {next : List (List Int)} {adj : Nat → Nat → Prop}
theorem getD_in {α : Type} {l : List α} {j : Nat} (h : j < l.length) (d : α) : l.getD j d ∈ l := by
  rw [List.getD_eq_getElem?_getD, List.getElem?_eq_getElem h]; exact List.getElem_mem h
theorem Down.refl {x : Nat} {least : Int} {c : List Int} (h : c.length = N) : Down N adj x least c c := ⟨h, fun _ _ => rfl, fun _ _ _ => .inl rfl⟩
theorem Down.from {x y : Nat} {least : Int} {c r : List Int} (h : Down N adj y least c r) (hc : Conn adj x y) : Down N adj x least c r :=
  ⟨h.len, h.old, fun z hz e => by
    rcases h.new z hz e with q | ⟨q1, q2, q3⟩
    · exact .inl q
    · exact .inr ⟨q1, q2, hc.trans q3⟩⟩
theorem negs_set {c : List Int} {x : Nat} (hx : x < c.length) (hn : gd c x < 0) {v : Int} (hv : 0 ≤ v) : negs (c.set x v) + 1 = negs c := by
  unfold negs
  rw [List.countP_set hx]
  have e : c[x] = gd c x := by simp [gd, hx]
  rw [e]
  have hp : 0 < c.countP (fun v => decide (v < 0)) := List.countP_pos_iff.2 ⟨c[x], List.getElem_mem hx, by rw [e]; simpa using hn⟩
  rw [if_pos (by simpa using hn), if_neg (by simp; omega)]
  omega
/-- After the first i nodes have been visited. -/
structure Comps (N : Nat) (adj : Nat → Nat → Prop) (i : Nat) (c : List Int) : Prop where
  len : c.length = N
  low : ∀ z, z < N → -1 ≤ gd c z
  seen : ∀ z, z < i → z < N → 0 ≤ gd c z
  lab : ∀ z, z < N → 0 ≤ gd c z → ∃ b : Nat, gd c z = b ∧ b ≤ z ∧ b < N ∧ gd c b = b ∧ Conn adj b z
  edge : ∀ z y, adj z y → 0 ≤ gd c z → gd c y = gd c z
theorem Comps.init (hr : ∀ x y, adj x y → x < N ∧ y < N) : Comps N adj 0 (List.replicate N (-1)) := by
  have gn : ∀ j, j < N → gd (List.replicate N (-1)) j = -1 := fun j hj => by simp [gd, List.getD, hj]
  exact ⟨by simp, fun z hz => by rw [gn z hz]; omega, fun z hz => by omega, fun z hz h => by rw [gn z hz] at h; omega, fun z y h h1 => by
    rw [gn z (hr _ _ h).1] at h1; omega⟩
theorem Comps.conn {i : Nat} {c : List Int} (h : Comps N adj i c) {x y : Nat} (hc : Conn adj x y) (h0 : 0 ≤ gd c x) : gd c y = gd c x := by
  induction hc with
  | refl => rfl
  | step _ e ih => rw [h.edge _ _ e (by omega), ih]
theorem Comps.step (hs : ∀ x y, adj x y → adj y x) (hr : ∀ x y, adj x y → x < N ∧ y < N) {i : Nat} {c r : List Int} (h : Comps N adj i c) (hi : i < N) (hd : Down N adj i (i : Int) c r) (h0 : 0 ≤ gd r i) : Comps N adj (i + 1) r := by
  have key : ∀ z, z < N → gd c z < 0 → 0 ≤ gd r z → gd r z = i ∧ (∀ y, adj z y → 0 ≤ gd r y) ∧ Conn adj i z ∧ i ≤ z := fun z hz e1 e2 => by
    rcases hd.new z hz e1 with q | ⟨q1, q2, q3⟩
    · omega
    · refine ⟨q1, q2, q3, ?_⟩
      rcases Nat.lt_or_ge z i with q | q
      · have := h.seen z q hz; omega
      · exact q
  have hci : ∀ z, z < N → gd c z < 0 → 0 ≤ gd r z → gd c i < 0 := fun z hz e1 e2 => by
    rcases Int.lt_or_le (gd c i) 0 with q | q
    · exact q
    · have := h.conn (key z hz e1 e2).2.2.1 q; omega
  refine ⟨hd.len, fun z hz => ?_, fun z hz hz' => ?_, fun z hz e => ?_, fun z y hzy e => ?_⟩
  · rcases Int.lt_or_le (gd c z) 0 with q | q
    · rcases hd.new z hz q with q1 | q1
      · have := h.low z hz; omega
      · omega
    · rw [hd.old z q]; omega
  · by_cases q : z = i
    · subst q; exact h0
    · have := h.seen z (by omega) hz'
      rw [hd.old z this]; exact this
  · rcases Int.lt_or_le (gd c z) 0 with q | q
    · obtain ⟨k1, k2, k3, k4⟩ := key z hz q e
      exact ⟨i, k1, k4, hi, (key i hi (hci z hz q e) h0).1, k3⟩
    · obtain ⟨b, k1, k2, k3, k4, k5⟩ := h.lab z hz q
      exact ⟨b, by rw [hd.old z q, k1], k2, k3, by rw [hd.old b (by omega), k4], k5⟩
  · obtain ⟨hz, hy⟩ := hr _ _ hzy
    rcases Int.lt_or_le (gd c z) 0 with q | q
    · obtain ⟨k1, k2, k3, k4⟩ := key z hz q e
      have hy0 := k2 y hzy
      rcases Int.lt_or_le (gd c y) 0 with q2 | q2
      · rw [(key y hy q2 hy0).1, k1]
      · have := h.edge y z (hs _ _ hzy) q2; omega
    · have := h.edge z y hzy q
      rw [hd.old y (by omega), hd.old z q, this]
theorem IsDist.conn (hr : ∀ x y, adj x y → x < N ∧ y < N) {a : Nat} {d : Nat → Int} (h : IsDist N adj a d) {x : Nat} (hx : x < N) : 0 ≤ d x ↔ Conn adj a x := by
  constructor
  · intro h0
    have : ∀ (n : Nat) (x : Nat), x < N → d x = n → Conn adj a x := by
      intro n
      induction n with
      | zero => intro x hx e; rw [h.only x hx (by omega)]; exact .refl _
      | succ n ih =>
        intro x hx e
        obtain ⟨y, ha, hy⟩ := h.back x hx (by omega)
        exact (ih y (hr _ _ ha).1 (by omega)).step ha
    exact this (d x).toNat x hx (by omega)
  · intro hc
    clear hx
    induction hc with
    | refl => rw [h.zero]; omega
    | step _ e ih => exact (h.edge _ _ e ih).1
/-- The label is the least node that is not out of reach. -/
theorem Comps.least (hs : ∀ x y, adj x y → adj y x) (hr : ∀ x y, adj x y → x < N ∧ y < N) {c : List Int} (h : Comps N adj N c) {i : Nat} (hi : i < N) {d : Nat → Int} (hd : IsDist N adj i d) :
    ∃ b : Nat, gd c i = b ∧ b < N ∧ 0 ≤ d b ∧ ∀ k, k < N → 0 ≤ d k → b ≤ k := by
  obtain ⟨b, h1, h2, h3, h4, h5⟩ := h.lab i hi (h.seen i hi hi)
  refine ⟨b, h1, h3, (hd.conn hr h3).2 (h5.symm hs), fun k hk h0 => ?_⟩
  have := h.conn ((hd.conn hr hk).1 h0) (h.seen i hi hi)
  obtain ⟨b', k1, k2, _⟩ := h.lab k hk (h.seen k hk hk)
  omega
end
end Go.Proofs.Ythkpnkmbmlbefaa.PB

/- The rows of neighbors: what the program's rows hold, in order. -/
namespace Go.Proofs.Ythkpnkmbmlbefaa.PB
open Go.RowKit Go.Proofs.Ythkpnkmbmlbefaa Go.Proofs.Ythkpnkmbmlbefaa.X Go.Proofs.YthkpnkmbmlbefaaW.PrintWords Go.Proofs.YthkpnkmbmlbefaaW.PrintLast

/-! ### What a valid graph is -/
/-- A graph that the check lets pass. -/
structure Valid (a : Int) (l : List S37) : Prop where
  pos : 1 ≤ a
  most : a ≤ 24
  few : l.length ≤ 64
  ok : ∀ i, i < l.length → OkE a (l.getD i z37)
  loop : ∀ i, i < l.length → (l.getD i z37).f0 ≠ (l.getD i z37).f2
  once0 : ∀ i j, j < i → i < l.length → ¬ hasEnd (l.getD j z37) ((l.getD i z37).f0, (l.getD i z37).f1)
  once1 : ∀ i j, j < i → i < l.length → ¬ hasEnd (l.getD j z37) ((l.getD i z37).f2, (l.getD i z37).f3)
theorem chkFrom_ok {a : Int} {l : List S37} : ∀ {d i}, i + d = l.length → chkFrom a l d i = 0 → ∀ i', i ≤ i' → i' < l.length → OkE a (l.getD i' z37) ∧ (l.getD i' z37).f0 ≠ (l.getD i' z37).f2 ∧ (∀ j, j < i' → ¬ hasEnd (l.getD j z37) ((l.getD i' z37).f0, (l.getD i' z37).f1)) ∧ (∀ j, j < i' → ¬ hasEnd (l.getD j z37) ((l.getD i' z37).f2, (l.getD i' z37).f3))
  | 0, i, hi, _, i', h1, h2 => by omega
  | d + 1, i, hi, h, i', h1, h2 => by
    unfold chkFrom at h
    split at h
    · rename_i hok
      split at h
      · omega
      · rename_i hloop
        split at h
        · omega
        · rename_i hu1
          split at h
          · omega
          · rename_i hu2
            rw [usedFrom_iff] at hu1 hu2
            by_cases q : i' = i
            · subst q
              exact ⟨hok, hloop, fun j hj hh => hu1 ⟨j, by omega, by omega, hh⟩, fun j hj hh => hu2 ⟨j, by omega, by omega, hh⟩⟩
            · exact chkFrom_ok (by omega) h i' (by omega) h2
    · omega
theorem chk_valid {a : Int} {l : List S37} (h : chk a l = 0) : Valid a l := by
  unfold chk at h
  split at h
  · omega
  · split at h
    · omega
    · have k := chkFrom_ok (i := 0) (by omega) h
      exact ⟨by omega, by omega, by omega, fun i hi => (k i (by omega) hi).1, fun i hi => (k i (by omega) hi).2.1, fun i j hj hi => (k i (by omega) hi).2.2.1 j hj, fun i j hj hi => (k i (by omega) hi).2.2.2 j hj⟩

/-! ### The edges as pairs of nodes -/
def es (l : List S37) : List (Nat × Nat) := l.map fun e => (e.f0.toNat, e.f2.toNat)
theorem OkE.nat {a : Int} {e : S37} (h : OkE a e) : ∃ x y : Nat, e.f0 = x ∧ e.f2 = y ∧ x < a.toNat ∧ y < a.toNat := by
  unfold OkE at h
  exact ⟨e.f0.toNat, e.f2.toNat, by omega, by omega, by omega, by omega⟩
theorem Valid.mem {a : Int} {l : List S37} (h : Valid a l) {e : S37} (he : e ∈ l) : OkE a e ∧ e.f0 ≠ e.f2 := by
  obtain ⟨i, hi, rfl⟩ := List.mem_iff_getElem.1 he
  have h1 := h.ok i hi
  have h2 := h.loop i hi
  rw [List.getD_eq_getElem?_getD, List.getElem?_eq_getElem hi, Option.getD_some] at h1 h2
  exact ⟨h1, h2⟩
theorem Valid.range {a : Int} {l : List S37} (h : Valid a l) (x y : Nat) (hxy : adjOf (es l) x y) : x < a.toNat ∧ y < a.toNat := by
  have key : ∀ u v : Nat, (u, v) ∈ es l → u < a.toNat ∧ v < a.toNat := fun u v hu => by
    obtain ⟨e, he, e1⟩ := List.mem_map.1 hu
    obtain ⟨x', y', h1, h2, h3, h4⟩ := (h.mem he).1.nat
    injection e1 with e1 e2
    omega
  rcases hxy with q | q
  · exact key _ _ q
  · exact (key _ _ q).symm

/-! ### The rows -/
def addE (rows : List (List Int)) (e : S37) : List (List Int) :=
  let r1 := rows.set e.f0.toNat (rows.getD e.f0.toNat [] ++ [e.f2])
  r1.set e.f2.toNat (r1.getD e.f2.toNat [] ++ [e.f0])
structure Raw (N : Nat) (l : List S37) (i : Nat) (rows : List (List Int)) : Prop where
  len : rows.length = N
  short : ∀ x, x < N → (rows.getD x []).length ≤ 2 * i
  mem : ∀ x, x < N → ∀ y : Int, y ∈ rows.getD x [] ↔ ∃ j, j < i ∧ (((l.getD j z37).f0 = x ∧ (l.getD j z37).f2 = y) ∨ ((l.getD j z37).f2 = x ∧ (l.getD j z37).f0 = y))
theorem getD_set {α : Type} {l : List α} {i : Nat} (h : i < l.length) (v : α) (j : Nat) (z : α) : (l.set i v).getD j z = if j = i then v else l.getD j z := by
  by_cases q : j = i
  · subst q; simp [h]
  · rw [if_neg q]; simp [List.getD, Ne.symm q]
theorem Raw.step {N : Nat} {a : Int} {l : List S37} {i : Nat} {rows : List (List Int)} (h : Raw N l i rows) (hok : OkE a (l.getD i z37)) (hN : N = a.toNat) : Raw N l (i + 1) (addE rows (l.getD i z37)) := by
  obtain ⟨u, v, hu, hv, hul, hvl⟩ := hok.nat
  subst hN
  have hlen := h.len
  unfold addE
  simp only [hu, hv, Int.toNat_natCast]
  have g1 : ∀ j, (rows.set u (rows.getD u [] ++ [(v : Int)])).getD j [] = if j = u then rows.getD u [] ++ [(v : Int)] else rows.getD j [] := fun j => getD_set (by omega) _ _ _
  have g2 : ∀ j (w : List Int), ((rows.set u (rows.getD u [] ++ [(v : Int)])).set v w).getD j [] = if j = v then w else (rows.set u (rows.getD u [] ++ [(v : Int)])).getD j [] := fun j w => getD_set (by rw [List.length_set]; omega) _ _ _
  refine ⟨by simp [hlen], fun x hx => ?_, fun x hx y => ?_⟩
  · have h1 := h.short x hx
    have h2 := h.short u hul
    have h3 := h.short v hvl
    rw [g2]
    split
    · rw [List.length_append, g1]
      split
      · rw [List.length_append]; simp; simp at h2; omega
      · simp; simp at h3; omega
    · rw [g1]
      split
      · rw [List.length_append]; simp; simp at h2; omega
      · omega
  · have hm := h.mem x hx y
    have split_ : (∃ j, j < i + 1 ∧ (((l.getD j z37).f0 = x ∧ (l.getD j z37).f2 = y) ∨ ((l.getD j z37).f2 = x ∧ (l.getD j z37).f0 = y))) ↔ (y ∈ rows.getD x [] ∨ ((u : Int) = x ∧ (v : Int) = y) ∨ ((v : Int) = x ∧ (u : Int) = y)) := by
      rw [hm]
      constructor
      · rintro ⟨j, hj, hh⟩
        by_cases q : j = i
        · subst q; rw [hu, hv] at hh; exact .inr hh
        · exact .inl ⟨j, by omega, hh⟩
      · rintro (⟨j, hj, hh⟩ | hh)
        · exact ⟨j, by omega, hh⟩
        · exact ⟨i, by omega, by rw [hu, hv]; exact hh⟩
    rw [split_, g2]
    by_cases q1 : x = v
    · subst q1
      rw [if_pos rfl, List.mem_append, g1]
      by_cases q2 : x = u
      · subst q2
        rw [if_pos rfl, List.mem_append]
        simp only [List.mem_singleton]
        constructor
        · rintro ((h1 | h1) | h1)
          · exact .inl h1
          · exact .inr (.inl ⟨by simp, h1.symm⟩)
          · exact .inr (.inl ⟨by simp, h1.symm⟩)
        · rintro (h1 | h1 | h1)
          · exact .inl (.inl h1)
          · exact .inr h1.2.symm
          · exact .inr h1.2.symm
      · rw [if_neg q2]
        simp only [List.mem_singleton]
        constructor
        · rintro (h1 | h1)
          · exact .inl h1
          · exact .inr (.inr ⟨by simp, h1.symm⟩)
        · rintro (h1 | h1 | h1)
          · exact .inl h1
          · exact absurd h1.1 (by omega)
          · exact .inr h1.2.symm
    · rw [if_neg q1, g1]
      by_cases q2 : x = u
      · subst q2
        rw [if_pos rfl, List.mem_append]
        simp only [List.mem_singleton]
        constructor
        · rintro (h1 | h1)
          · exact .inl h1
          · exact .inr (.inl ⟨by simp, h1.symm⟩)
        · rintro (h1 | h1 | h1)
          · exact .inl h1
          · exact .inr h1.2.symm
          · exact absurd h1.1 (by omega)
      · rw [if_neg q2]
        constructor
        · exact .inl
        · rintro (h1 | h1 | h1)
          · exact h1
          · exact absurd h1.1 (by omega)
          · exact absurd h1.1 (by omega)
theorem Raw.init (N : Nat) (l : List S37) : Raw N l 0 (List.replicate N []) :=
  ⟨by simp, fun x hx => by simp [List.getD, hx], fun x hx y => by simp [List.getD, hx]⟩
def rawFrom (l : List S37) : Nat → Nat → List (List Int) → List (List Int)
  | 0, _, rows => rows
  | d + 1, i, rows => rawFrom l d (i + 1) (addE rows (l.getD i z37))
def sortI (l : List Int) : List Int := l.mergeSort fun x y => decide (x ≤ y)
theorem sortI_sorted (z : List Int) : (sortI z).Pairwise (· ≤ ·) := by
  have := List.pairwise_mergeSort (le := fun a b : Int => decide (a ≤ b)) (fun a b c h1 h2 => by simp at *; omega) (fun a b => by simp; omega) z
  exact this.imp (fun h => by simpa using h)
theorem sortI_is {x y : List Int} (h : x.Perm y) (hs : y.Pairwise (· ≤ ·)) : sortI x = y :=
  List.Perm.eq_of_pairwise (fun _ _ _ _ h1 h2 => Int.le_antisymm h1 h2) (sortI_sorted x) hs ((List.mergeSort_perm x _).trans h)
theorem sortI_len (l : List Int) : (sortI l).length = l.length := (List.mergeSort_perm l _).length_eq
theorem sortI_mem {l : List Int} {y : Int} : y ∈ sortI l ↔ y ∈ l := (List.mergeSort_perm l _).mem_iff
def nb (a : Int) (l : List S37) : List (List Int) := (rawFrom l l.length 0 (List.replicate a.toNat [])).map sortI
theorem rawFrom_raw {N : Nat} {a : Int} {l : List S37} (h : Valid a l) (hN : N = a.toNat) : ∀ d i rows, i + d = l.length → Raw N l i rows → Raw N l l.length (rawFrom l d i rows)
  | 0, i, rows, hi, hr => by
    obtain rfl : i = l.length := by omega
    exact hr
  | d + 1, i, rows, hi, hr => rawFrom_raw h hN d (i + 1) _ (by omega) (hr.step (h.ok i (by omega)) hN)
theorem nb_get (a : Int) (l : List S37) (x : Nat) : (nb a l).getD x [] = sortI ((rawFrom l l.length 0 (List.replicate a.toNat [])).getD x []) := by
  unfold nb
  simp only [List.getD_eq_getElem?_getD, List.getElem?_map]
  cases (rawFrom l l.length 0 (List.replicate a.toNat []))[x]? with
  | none => simp [sortI]
  | some r => rfl
theorem Valid.raw {a : Int} {l : List S37} (h : Valid a l) : Raw a.toNat l l.length (rawFrom l l.length 0 (List.replicate a.toNat [])) := rawFrom_raw h rfl _ _ _ (by omega) (Raw.init _ _)
theorem Valid.nb_mem {a : Int} {l : List S37} (h : Valid a l) {x : Nat} (hx : x < a.toNat) (y : Int) : y ∈ (nb a l).getD x [] ↔ ∃ z : Nat, y = z ∧ z < a.toNat ∧ adjOf (es l) x z := by
  rw [nb_get, sortI_mem, h.raw.mem x hx]
  constructor
  · rintro ⟨j, hj, hh⟩
    obtain ⟨u, v, hu, hv, hul, hvl⟩ := (h.ok j hj).nat
    have hm : (u, v) ∈ es l := List.mem_map.2 ⟨l.getD j z37, getD_in hj _, by rw [hu, hv]; rfl⟩
    rw [hu, hv] at hh
    rcases hh with ⟨h1, h2⟩ | ⟨h1, h2⟩
    · obtain rfl : u = x := by omega
      exact ⟨v, h2.symm, hvl, .inl hm⟩
    · obtain rfl : v = x := by omega
      exact ⟨u, h2.symm, hul, .inr hm⟩
  · rintro ⟨z, rfl, hz, hadj⟩
    rcases hadj with q | q
    · obtain ⟨e, he, e1⟩ := List.mem_map.1 q
      obtain ⟨j, hj, e2⟩ := List.mem_iff_getElem.1 he
      obtain ⟨u, v, hu, hv, _, _⟩ := (h.mem he).1.nat
      injection e1 with e3 e4
      refine ⟨j, hj, .inl ?_⟩
      rw [List.getD_eq_getElem?_getD, List.getElem?_eq_getElem hj, Option.getD_some, e2]
      omega
    · obtain ⟨e, he, e1⟩ := List.mem_map.1 q
      obtain ⟨j, hj, e2⟩ := List.mem_iff_getElem.1 he
      obtain ⟨u, v, hu, hv, _, _⟩ := (h.mem he).1.nat
      injection e1 with e3 e4
      refine ⟨j, hj, .inr ?_⟩
      rw [List.getD_eq_getElem?_getD, List.getElem?_eq_getElem hj, Option.getD_some, e2]
      omega
theorem Valid.nb_len {a : Int} {l : List S37} (h : Valid a l) : (nb a l).length = a.toNat := by
  unfold nb; rw [List.length_map]; exact h.raw.len
theorem Valid.nb_short {a : Int} {l : List S37} (h : Valid a l) {x : Nat} (hx : x < a.toNat) : ((nb a l).getD x []).length ≤ 128 := by
  rw [nb_get, sortI_len]
  have := h.raw.short x hx
  have := h.few
  omega
theorem Valid.rows {a : Int} {l : List S37} (h : Valid a l) : Rows a.toNat (nb a l) (adjOf (es l)) :=
  ⟨h.nb_len, fun x hx => by have := h.nb_short hx; omega, fun x hx y hy => (h.nb_mem hx y).1 hy, fun x y hxy => ⟨(h.range x y hxy).1, (h.range x y hxy).2, (h.nb_mem (h.range x y hxy).1 y).2 ⟨y, rfl, (h.range x y hxy).2, hxy⟩⟩⟩
theorem sort_loop (rows : List (List Int)) (hsh : ∀ x, x < rows.length → (rows.getD x []).length ≤ 128) (hn : rows.length ≤ 24) : ∀ d i (cur : List (List Int)), i + d = rows.length → cur = (rows.take i).map sortI ++ rows.drop i → Ev (fun k => topo_neighbors.l1 k cur rows.length i) (rows.map sortI) := by
  intro d
  induction d with
  | zero =>
    intro i cur hi hc
    refine Ev.step (fun k => by rw [topo_neighbors.l1]) ?_
    refine Ev.neg (by omega) (Ev.const ?_)
    rw [hc, List.take_of_length_le (by omega), List.drop_of_length_le (by omega), List.append_nil]
  | succ d ih =>
    intro i cur hi hc
    have hil : i < rows.length := by omega
    have hlen : cur.length = rows.length := by rw [hc]; simp; omega
    have hget : cur.getD i [] = rows.getD i [] := by
      rw [hc]
      simp [List.getD, List.getElem?_append, Nat.min_eq_left (Nat.le_of_lt hil)]
    refine Ev.step (fun k => by rw [topo_neighbors.l1]) ?_
    refine Ev.pos (by omega) (Ev.pos (by omega) (Ev.pos (by omega) (Ev.bind' (sortI (rows.getD i [])) (Ev.const ?_) ?_)))
    · rw [rdL3, hget]
      unfold slices_Sort_int_int.f
      rw [if_pos (by have := hsh i hil; omega)]
      rfl
    · rw [wrap_nat (by omega), Int.toNat_natCast]
      refine ih (i + 1) _ (by omega) ?_
      rw [hc]
      apply List.ext_getElem?
      intro j
      have hmin : min i rows.length = i := by omega
      have hmin2 : min (i + 1) rows.length = i + 1 := by omega
      simp only [List.getElem?_set, List.getElem?_append, List.length_map, List.length_take, List.getElem?_map, List.getElem?_take, List.getElem?_drop, List.length_append, List.length_drop, hmin, hmin2]
      by_cases q1 : i = j
      · subst q1
        simp [hil, List.getD]
        omega
      · rw [if_neg q1]
        by_cases q2 : j < i
        · simp [q2, show j < i + 1 by omega]
        · have q3 : ¬ j < i + 1 := by omega
          simp only [q2, q3, if_false]
          congr 1
          omega
theorem impl_nb_from {a : Int} {l : List S37} (h : Valid a l) (r : List (List Int)) : ∀ d i rows, i + d = l.length → Raw a.toNat l i rows → Ev (fun k => topo_neighbors.l1 k (rawFrom l d i rows) ((rawFrom l d i rows).length : Int) 0) r → Ev (fun k => topo_neighbors.l0 k rows l l.length i) r := by
  intro d
  induction d with
  | zero =>
    intro i rows hi hr hk
    refine Ev.step (fun k => by rw [topo_neighbors.l0]) ?_
    exact Ev.neg (by omega) hk
  | succ d ih =>
    intro i rows hi hr hk
    have hil : i < l.length := by omega
    have hok := h.ok i hil
    have hfew := h.few
    obtain ⟨u, v, hu, hv, hul, hvl⟩ := hok.nat
    have hlen := hr.len
    have hst := hr.step hok rfl
    have s1 := hr.short u hul
    have s2 := hst.short v hvl
    refine Ev.step (fun k => by rw [topo_neighbors.l0]) ?_
    have hk2 := ih (i + 1) (addE rows (l.getD i z37)) (by omega) hst hk
    unfold addE at hk2 hst s2
    simp only [hu, hv, Int.toNat_natCast] at hk2 s2
    refine Ev.pos (by omega) (Ev.pos (by omega) (Ev.pos (by omega) ?_))
    rw [rd37, hu, hv, wrap_nat (by omega)]
    simp only [rdL3, Int.toNat_natCast]
    refine Ev.pos (by omega) (Ev.pos (by omega) (Ev.pos (by omega) (Ev.some_bind (Ev.pos (by omega) (Ev.pos (by omega) (Ev.pos ?_ ?_))))))
    · rw [getD_set (by omega)]
      have s3 := hr.short v hvl
      split
      · rw [List.length_append]; simp; simp at s1; omega
      · omega
    · exact hk2
theorem impl_nb {a : Int} {l : List S37} (h : Valid a l) : Ev (fun k => topo_neighbors.f k a l) (nb a l) := by
  unfold topo_neighbors.f
  have h1 := h.pos
  have h2 := h.most
  refine Ev.pos (by omega) (Ev.pos (by omega) (impl_nb_from h _ l.length 0 _ (by omega) (Raw.init _ _) ?_))
  have hr := h.raw
  refine sort_loop _ (fun x hx => ?_) (by rw [hr.len]; omega) _ 0 _ (Nat.zero_add _) (by simp)
  have := hr.short x (by rw [← hr.len]; exact hx)
  have := h.few
  omega
end Go.Proofs.Ythkpnkmbmlbefaa.PB

/- The examples of the chapter on graphs, reckoned. -/
namespace Go.Proofs.Ythkpnkmbmlbefaa.PB
open Go.RowKit Go.Proofs.Ythkpnkmbmlbefaa Go.Proofs.Ythkpnkmbmlbefaa.X Go.Proofs.YthkpnkmbmlbefaaW.PrintWords Go.Proofs.YthkpnkmbmlbefaaW.PrintLast
def exG : List S37 := [⟨0, 1, 2, 1⟩, ⟨3, 1, 2, 2⟩, ⟨0, 2, 1, 1⟩]
theorem exG_valid : Valid 4 exG := chk_valid (by kernel_rfl)
theorem ex0_valid : Valid 2 [] := chk_valid (by kernel_rfl)
theorem exG_nb : nb 4 exG = [[1, 2], [0], [0, 3], [2]] := by
  have h : rawFrom exG exG.length 0 (List.replicate (4 : Int).toNat []) = [[2, 1], [0], [0, 3], [2]] := by kernel_rfl
  unfold nb
  rw [h]
  simp only [List.map_cons, List.map_nil]
  rw [sortI_is (x := [2, 1]) (y := [1, 2]) (by decide) (by decide), sortI_is (x := [0]) (y := [0]) (by decide) (by decide), sortI_is (x := [0, 3]) (y := [0, 3]) (by decide) (by decide), sortI_is (x := [2]) (y := [2]) (by decide) (by decide)]
theorem ex0_nb : nb 2 [] = [[], []] := by
  unfold nb
  rw [show rawFrom [] ([] : List S37).length 0 (List.replicate (2 : Int).toNat []) = [[], []] by kernel_rfl]
  simp [sortI]
theorem exN : Ev (fun k => topo_neighbors.f k 4 exG) [[1, 2], [0], [0, 3], [2]] := exG_nb ▸ impl_nb exG_valid
theorem ex0N : Ev (fun k => topo_neighbors.f k 2 []) [[], []] := ex0_nb ▸ impl_nb ex0_valid
theorem exC : Ev (fun k => topo_Check.f k 4 exG) 0 := impl_check 4 exG
theorem ex0C : Ev (fun k => topo_Check.f k 2 []) 0 := impl_check 2 []
theorem ex_peer : Ev (fun k => topo_Peer.f k 4 exG 2 2) (3, 1, true) :=
  Ev.of (fun k => topo_Peer.mono _ _ _ _ k) (show topo_Peer.f 60 4 exG 2 2 = some (3, 1, true) by kernel_rfl)
theorem ex_knows (x : Int) (h : 0 ≤ x ∧ x < 4) : Ev (fun k => topo_knows.f k 4 exG x) true := by
  unfold topo_knows.f
  exact Ev.bind' _ exC (Ev.pos rfl (Ev.pos h.1 (Ev.const (by simp [h.2]))))
theorem ex_dist : Ev (fun k => topo_Dist.f k 4 exG 3) [2, 3, 1, 0] := by
  unfold topo_Dist.f
  exact Ev.bind' _ (ex_knows 3 (by decide)) (Ev.pos rfl (Ev.bind' _ exN (Ev.bind' _ (Ev.of (fun k => topo_distances.mono _ _ k) (show topo_distances.f 60 [[1, 2], [0], [0, 3], [2]] 3 = some [2, 3, 1, 0] by kernel_rfl)) (Ev.const rfl))))
theorem ex0_dist : Ev (fun k => topo_Dist.f k 2 [] 0) [0, -1] := by
  unfold topo_Dist.f topo_knows.f
  exact Ev.bind' true (Ev.bind' _ ex0C (Ev.pos rfl (Ev.pos (by decide) (Ev.const (by decide))))) (Ev.pos rfl (Ev.bind' _ ex0N (Ev.bind' _ (Ev.of (fun k => topo_distances.mono _ _ k) (show topo_distances.f 60 [[], []] 0 = some [0, -1] by kernel_rfl)) (Ev.const rfl))))
theorem ex_path : Ev (fun k => topo_Path.f k 4 exG 3 1) [3, 2, 0, 1] := by
  unfold topo_Path.f
  refine Ev.bind' _ (ex_knows 3 (by decide)) (Ev.pos rfl (Ev.bind' _ (ex_knows 1 (by decide)) ?_))
  refine Ev.step (fun k => by rw [topo_Path.j0]) ?_
  refine Ev.neg (by decide) (Ev.bind' _ exN (Ev.bind' _ (Ev.of (fun k => topo_distances.mono _ _ k) (show topo_distances.f 60 [[1, 2], [0], [0, 3], [2]] 1 = some [1, 0, 2, 3] by kernel_rfl)) ?_))
  refine Ev.pos (by decide) (Ev.pos (by decide) (Ev.neg (by decide) ?_))
  exact Ev.of (fun k => (topo_Path.mono_l k).2.1 _ _ _ _ _) (show topo_Path.l0 60 3 1 [[1, 2], [0], [0, 3], [2]] [1, 0, 2, 3] [3] = some [3, 2, 0, 1] by kernel_rfl)
theorem ex0_comp : Ev (fun k => topo_Comp.f k 2 []) [0, 1] := by
  unfold topo_Comp.f
  refine Ev.bind' _ ex0C (Ev.pos rfl (Ev.bind' _ ex0N (Ev.pos (by decide) (Ev.pos (by decide) ?_))))
  exact Ev.of (fun k => (topo_Comp.mono_l k).1 _ _ _) (show topo_Comp.l0 60 [[], []] (List.replicate (2 : Int).toNat 0) 0 = some [0, 1] by kernel_rfl)
theorem ex_diam : Ev (fun k => topo_Diameter.f k 4 exG) 3 := by
  unfold topo_Diameter.f
  refine Ev.bind' _ exC (Ev.pos rfl (Ev.bind' _ exN ?_))
  exact Ev.of (fun k => topo_Diameter.mono_l k _ _ _ _) (show topo_Diameter.l0 60 [[1, 2], [0], [0, 3], [2]] 0 4 0 = some 3 by kernel_rfl)
theorem eq_true' (x : List Int) (hx : x.length < 9223372036854775807) : Ev (fun k => slices_Equal_int_int.f k x x) true := by
  have := eq_ints x x hx
  simpa using this
theorem awake18 : Ev (fun k => timesynclaw18_awake.f k) true := by
  unfold timesynclaw18_awake.f
  refine Ev.some_bind (Ev.bind' (3, 1, true) ex_peer (Ev.pos rfl (Ev.pos rfl (Ev.pos rfl (Ev.bind' _ ex_dist (Ev.bind' _ (eq_true' _ (by decide)) (Ev.pos rfl (Ev.bind' _ ex_path (Ev.bind' _ (eq_true' _ (by decide)) (Ev.pos rfl (Ev.bind' _ ex0_dist (Ev.bind' _ (eq_true' _ (by decide)) (Ev.pos rfl ?_)))))))))))))
  exact Ev.bind' _ ex0_comp (Ev.bind' _ (eq_true' _ (by decide)) (Ev.pos rfl (Ev.bind' _ ex_diam (Ev.const rfl))))
theorem awake18' : Ev (fun k => (timesynclaw18_awake.f k).bind fun t => some t) true := Ev.bind' true awake18 (Ev.const rfl)
end Go.Proofs.Ythkpnkmbmlbefaa.PB

/- Distances: the program's search in waves and the reference's rounds give the numbers that the chapter's rules determine. -/
namespace Go.Proofs.Ythkpnkmbmlbefaa.PB
open Go.RowKit Go.Proofs.Ythkpnkmbmlbefaa Go.Proofs.Ythkpnkmbmlbefaa.X Go.Proofs.YthkpnkmbmlbefaaW.PrintWords Go.Proofs.YthkpnkmbmlbefaaW.PrintLast

theorem rd_gd (l : List Int) (i : Nat) : rd l (i : Int) = gd l i := rdI l i
theorem fill_set (i d : Nat) : (List.replicate i (-1 : Int) ++ List.replicate (d + 1) 0).set i (-1) = List.replicate (i + 1) (-1) ++ List.replicate d 0 := by
  rw [List.set_append_right _ _ (by simp), List.length_replicate, Nat.sub_self, List.replicate_succ, List.set_cons_zero, List.replicate_succ', List.append_assoc]
  rfl
theorem set_nat {l : List Int} {v : Int} (x : Nat) : l.set ((x : Int)).toNat v = l.set x v := by rw [Int.toNat_natCast]
/-! ### The search in waves -/
def toI (w : List Nat) : List Int := w.map fun n : Nat => (n : Int)
theorem toI_len (w : List Nat) : (toI w).length = w.length := by simp [toI]
section
variable {N a : Nat} {next : List (List Int)} {adj : Nat → Nat → Prop}
theorem push_high {x y : Nat} {d : List Int} {w : List Nat} (hlen : d.length = N) (hx : x < N) (hy : y < N) (hx0 : 0 ≤ gd d x) (h : ∀ z, z < N → gd d z + (negs d : Int) < N) (z : Nat) (hz : z < N) : gd (push x (d, w) y).1 z + (negs (push x (d, w) y).1 : Int) < N := by
  have hs := push_size (x := x) (y := y) (d := d) (w := w) (by omega) hx0
  unfold push at hs ⊢
  by_cases q : gd d y < 0
  · simp only [if_pos q] at hs ⊢
    rw [List.length_append, List.length_singleton] at hs
    rw [gd_set (by omega)]
    have h1 := h x hx
    have h2 := h z hz
    split <;> omega
  · simp only [if_neg q]
    exact h z hz
theorem bfs_ok (hR : Rows N next adj) (hN : N ≤ 24) : ∀ (m : Nat) (d : List Int) (w : List Nat), m ≤ 24 → Outer N adj a d w → negs d + w.length ≤ m → (∀ z, z < N → gd d z + (negs d : Int) < N) →
    ∃ r, Ev (fun k => topo_distances.l1 k next d (toI w)) r ∧ Outer N adj a r [] := by
  intro m
  induction m with
  | zero =>
    intro d w _ h hm _
    have hw : w = [] := List.length_eq_zero_iff.1 (by omega)
    subst hw
    refine ⟨d, ?_, h⟩
    refine Ev.step (fun k => by rw [topo_distances.l1]) ?_
    exact Ev.neg (by simp [toI]) (Ev.const rfl)
  | succ m ih =>
    intro d w hm24 h hm hhigh
    cases w with
    | nil =>
      refine ⟨d, ?_, h⟩
      refine Ev.step (fun k => by rw [topo_distances.l1]) ?_
      exact Ev.neg (by simp [toI]) (Ev.const rfl)
    | cons x w =>
      have hr : ∀ u v, adj u v → u < N ∧ v < N := fun u v q => ⟨(hR.all u v q).1, (hR.all u v q).2.1⟩
      have hx := (h.node x List.mem_cons_self).1
      have hrow := hR.mem x hx
      have hsh := hR.short x hx
      have hnl := hR.len
      rw [List.length_cons] at hm
      have hI : ∀ e j done d w, j + e = (next.getD x []).length → Inner N adj a x done d w → (∀ i, i < j → ∀ z : Nat, (next.getD x []).getD i 0 = z → z ∈ done) → negs d + w.length ≤ m → (∀ z, z < N → gd d z + (negs d : Int) < N) →
          ∃ r, Ev (fun k => topo_distances.l2 k next d (toI w) x (next.getD x []) (next.getD x []).length j) r ∧ Outer N adj a r [] := by
        intro e
        induction e with
        | zero =>
          intro j done d w hj hin hdone hm2 hh
          obtain ⟨r, h1, h2⟩ := ih d w (by omega) (hin.outer (fun y hy => by
            obtain ⟨_, _, hmem⟩ := hR.all x y hy
            obtain ⟨i, hi, he⟩ := List.mem_iff_getElem.1 hmem
            refine hdone i (by omega) y ?_
            rw [List.getD_eq_getElem?_getD, List.getElem?_eq_getElem hi, Option.getD_some, he])) hm2 hh
          refine ⟨r, ?_, h2⟩
          refine Ev.step (fun k => by rw [topo_distances.l2]) ?_
          exact Ev.neg (by omega) h1
        | succ e ihe =>
          intro j done d w hj hin hdone hm2 hh
          have hjl : j < (next.getD x []).length := by omega
          obtain ⟨y, hy, hyN, hadj⟩ := hrow ((next.getD x []).getD j 0) (getD_in hjl 0)
          have hlen := hin.len
          have hx0 := hin.hx.2
          have hsz := push_size (x := x) (y := y) (d := d) (w := w) (by omega) hx0
          have hhi := push_high (w := w) hlen hx hyN hx0 hh
          have hin2 := hin.push hr hadj
          obtain ⟨r, h1, h2⟩ := ihe (j + 1) (y :: done) (push x (d, w) y).1 (push x (d, w) y).2 (by omega) hin2 (fun i hi z hz => by
            by_cases q : i = j
            · subst q
              have : z = y := by rw [hy] at hz; omega
              subst this; exact List.mem_cons_self
            · exact List.mem_cons_of_mem _ (hdone i (by omega) z hz)) (by omega) hhi
          refine ⟨r, ?_, h2⟩
          refine Ev.step (fun k => by rw [topo_distances.l2]) ?_
          refine Ev.pos (by omega) (Ev.pos (by omega) (Ev.pos (by omega) ?_))
          rw [rdI, hy, rd_gd, rd_gd, wrap_nat (by omega), set_nat]
          unfold push at h1
          have b1 := hh x hx
          refine Ev.pos (by omega) (Ev.pos (by omega) (Ev.ite_ (fun q => ?_) (fun q => ?_)))
          · simp only [if_pos q] at h1
            refine Ev.pos (by omega) (Ev.pos (by omega) (Ev.pos (by rw [toI_len]; omega) ?_))
            rw [wrap_id (by omega) (by omega), show toI w ++ [(y : Int)] = toI (w ++ [y]) by simp [toI]]
            exact h1
          · simp only [if_neg q] at h1
            exact h1
      obtain ⟨r, h1, h2⟩ := hI _ 0 [] d w (Nat.zero_add _) h.inner (fun i hi => by omega) (by omega) hhigh
      refine ⟨r, ?_, h2⟩
      refine Ev.step (fun k => by rw [topo_distances.l1]) ?_
      have e1 : rd (toI (x :: w)) 0 = (x : Int) := rfl
      have e2 : (toI (x :: w)).drop ((1 : Int)).toNat = toI w := rfl
      rw [e1, e2, rdL3]
      refine Ev.pos (by rw [toI_len, List.length_cons]; omega) (Ev.pos (by rw [toI_len, List.length_cons]; omega) (Ev.pos (by rw [toI_len, List.length_cons]; omega) (Ev.pos (by omega) (Ev.pos (by omega) h1))))
theorem fill_ok (hN : N ≤ 24) {x1 : Int} {r : List Int} (hr : Ev (fun k => if 0 ≤ x1 then (if x1 < ((List.replicate N (-1 : Int)).length : Int) then (topo_distances.l1 k next ((List.replicate N (-1 : Int)).set x1.toNat 0) [x1]) else none) else none) r) :
    ∀ d i, i + d = N → Ev (fun k => topo_distances.l0 k next x1 (List.replicate i (-1 : Int) ++ List.replicate d 0) (N : Int) i) r := by
  intro d
  induction d with
  | zero =>
    intro i hi
    refine Ev.step (fun k => by rw [topo_distances.l0]) ?_
    obtain rfl : i = N := by omega
    rw [List.replicate_zero, List.append_nil]
    exact Ev.neg (by omega) hr
  | succ d ih =>
    intro i hi
    refine Ev.step (fun k => by rw [topo_distances.l0]) ?_
    refine Ev.pos (by omega) (Ev.pos (by omega) (Ev.pos (by simp; omega) ?_))
    rw [wrap_nat (by omega), set_nat, fill_set]
    exact ih (i + 1) (by omega)
theorem negs_init (ha : a < N) : negs ((List.replicate N (-1 : Int)).set a 0) + 1 = N := by
  have := negs_set (c := List.replicate N (-1 : Int)) (x := a) (by simpa using ha) (by simp [gd, List.getD, ha]) (v := 0) (by omega)
  rw [this]
  simp [negs, List.countP_replicate]
theorem distances_ok (hR : Rows N next adj) (hN : N ≤ 24) (ha : a < N) : ∃ r, Ev (fun k => topo_distances.f k next a) r ∧ r.length = N ∧ IsDist N adj a (gd r) := by
  have hr : ∀ u v, adj u v → u < N ∧ v < N := fun u v q => ⟨(hR.all u v q).1, (hR.all u v q).2.1⟩
  have hn := negs_init ha
  have h0 : Outer N adj a ((List.replicate N (-1 : Int)).set a 0) [a] := Outer.init ha
  have g : ∀ j, gd ((List.replicate N (-1)).set a 0) j = if j = a then 0 else gd (List.replicate N (-1)) j := fun j => gd_set (by simpa using ha) _ j
  have gn : ∀ j, j < N → gd (List.replicate N (-1)) j = -1 := fun j hj => by simp [gd, List.getD, hj]
  obtain ⟨r, h1, h2⟩ := bfs_ok hR hN N _ _ hN h0 (by simp; omega) (fun z hz => by rw [g]; split
                                                                                  · omega
                                                                                  · rw [gn z hz]; omega)
  refine ⟨r, ?_, h2.len, h2.dist hr⟩
  unfold topo_distances.f
  have hnl := hR.len
  rw [hnl]
  refine Ev.pos (by omega) (Ev.pos (by omega) (Ev.some_bind ?_))
  rw [Int.toNat_natCast, List.length_replicate]
  have := fill_ok (next := next) (x1 := (a : Int)) hN (r := r) (Ev.pos (by omega) (Ev.pos (by simpa using ha) (by rw [set_nat]; exact h1))) N 0 (by omega)
  simpa using this
end
/-- The distances that the chapter determines. -/
theorem Valid.dist {a : Int} {l : List S37} (h : Valid a l) {x : Nat} (hx : x < a.toNat) : ∃ r, Ev (fun k => topo_distances.f k (nb a l) x) r ∧ r.length = a.toNat ∧ IsDist a.toNat (adjOf (es l)) x (gd r) :=
  distances_ok h.rows (by have := h.most; omega) hx
open Classical in
noncomputable def dst (a : Int) (l : List S37) (x : Nat) : List Int := if h : Valid a l ∧ x < a.toNat then Classical.choose (h.1.dist h.2) else []
theorem Valid.dst_ev {a : Int} {l : List S37} (h : Valid a l) {x : Nat} (hx : x < a.toNat) : Ev (fun k => topo_distances.f k (nb a l) x) (dst a l x) := by
  unfold dst; rw [dif_pos ⟨h, hx⟩]; exact (Classical.choose_spec (h.dist hx)).1
theorem Valid.dst_len {a : Int} {l : List S37} (h : Valid a l) {x : Nat} (hx : x < a.toNat) : (dst a l x).length = a.toNat := by
  unfold dst; rw [dif_pos ⟨h, hx⟩]; exact (Classical.choose_spec (h.dist hx)).2.1
theorem Valid.dst_is {a : Int} {l : List S37} (h : Valid a l) {x : Nat} (hx : x < a.toNat) : IsDist a.toNat (adjOf (es l)) x (gd (dst a l x)) := by
  unfold dst; rw [dif_pos ⟨h, hx⟩]; exact (Classical.choose_spec (h.dist hx)).2.2
/-! ### knows, Dist -/
def isNode (a x : Int) : Prop := 0 ≤ x ∧ x < a
instance (a x : Int) : Decidable (isNode a x) := by unfold isNode; infer_instance
theorem impl_knows (a : Int) (l : List S37) (x : Int) : Ev (fun k => topo_knows.f k a l x) (decide (chk a l = 0 ∧ isNode a x)) := by
  unfold topo_knows.f
  refine Ev.bind' _ (impl_check a l) (Ev.ite_ (fun h => Ev.ite_ (fun h1 => Ev.const ?_) (fun h1 => Ev.const ?_)) (fun h => Ev.const ?_))
  · simp only [h, isNode, true_and]
    congr 1
    by_cases q : x < a <;> simp [q] <;> omega
  · have : ¬ (chk a l = 0 ∧ isNode a x) := fun q => h1 q.2.1
    simp [this]
  · simp [h]
/-- The answer of Dist. -/
noncomputable def distR (a : Int) (l : List S37) (x : Int) : List Int := if chk a l = 0 ∧ isNode a x then dst a l x.toNat else []
theorem impl_dist (a : Int) (l : List S37) (x : Int) : Ev (fun k => topo_Dist.f k a l x) (distR a l x) := by
  unfold topo_Dist.f distR
  refine Ev.bind' _ (impl_knows a l x) (Ev.ite_ (fun h => ?_) (fun h => ?_))
  · have h := of_decide_eq_true h
    rw [if_pos h]
    have hv := chk_valid h.1
    have hx := h.2
    unfold isNode at hx
    have := hv.dst_ev (x := x.toNat) (by omega)
    rw [Int.toNat_of_nonneg hx.1] at this
    exact Ev.bind' _ (impl_nb hv) (Ev.bind' _ this (Ev.const rfl))
  · rw [if_neg (by simpa using h)]
    exact Ev.const rfl
/-! ### The reference's rounds -/
/-- Numbers within bounds. -/
def Small (N c : Nat) (d : List Int) : Prop := d.length = N ∧ ∀ x, x < N → -1 ≤ gd d x ∧ gd d x ≤ c
theorem Small.upd {N c : Nat} {d : List Int} (h : Small N c d) {x y : Nat} (hx : x < N) (hy : y < N) : Small N (c + 1) (upd d x y) := by
  refine ⟨by simp [PB.upd, h.1], fun z hz => ?_⟩
  have h1 := h.2 z hz
  have h2 := h.2 y hy
  have h3 := h.2 x hx
  unfold PB.upd
  rw [gd_set (by rw [h.1]; exact hx)]
  split
  · unfold better
    split <;> omega
  · omega
theorem Small.relax {N c : Nat} {d : List Int} (h : Small N c d) {p : Nat × Nat} (hx : p.1 < N) (hy : p.2 < N) : Small N (c + 2) (relax d p) := (h.upd hx hy).upd hy hx
end Go.Proofs.Ythkpnkmbmlbefaa.PB

/- Components, paths, the diameter: the program and the reference give the same. -/
namespace Go.Proofs.Ythkpnkmbmlbefaa.PB
open Go.RowKit Go.Proofs.Ythkpnkmbmlbefaa Go.Proofs.Ythkpnkmbmlbefaa.X Go.Proofs.YthkpnkmbmlbefaaW.PrintWords Go.Proofs.YthkpnkmbmlbefaaW.PrintLast
/-! ### Components -/
theorem distR_valid {a : Int} {l : List S37} (h : chk a l = 0) {i : Nat} (hi : i < a.toNat) : distR a l i = dst a l i := by
  unfold distR
  rw [if_pos ⟨h, by unfold isNode; omega⟩, Int.toNat_natCast]
/-! ### The diameter -/
def mxFrom (d : List Int) : Nat → Nat → Int → Int
  | 0, _, v => v
  | e + 1, j, v => mxFrom d e (j + 1) (mx v (gd d j))
theorem mx_assoc (u v w : Int) : mx (mx u v) w = mx u (mx v w) := by
  unfold mx; repeat' split
  all_goals omega
theorem mxFrom_mx (d : List Int) : ∀ e j (u v : Int), mxFrom d e j (mx u v) = mx u (mxFrom d e j v)
  | 0, j, u, v => rfl
  | e + 1, j, u, v => by
    unfold mxFrom
    rw [mx_assoc, mxFrom_mx d e (j + 1) u]
theorem max_l0 (d : List Int) (hd : d.length ≤ 24) : ∀ e j v, j + e = d.length → Ev (fun k => slices_Max_int_int.l0 k d v j) (mxFrom d e j v) := by
  intro e
  induction e with
  | zero =>
    intro j v hj
    refine Ev.step (fun k => by rw [slices_Max_int_int.l0]) ?_
    exact Ev.neg (by omega) (Ev.const rfl)
  | succ e ih =>
    intro j v hj
    refine Ev.step (fun k => by rw [slices_Max_int_int.l0]) ?_
    rw [rd_gd, wrap_nat (by omega)]
    exact Ev.pos (by omega) (Ev.pos (by omega) (ih (j + 1) _ (by omega)))
/-! ### Paths -/
def joins (e : S37) (x y : Int) : Prop := (e.f0 = x ∧ e.f2 = y) ∨ (e.f0 = y ∧ e.f2 = x)
instance (e : S37) (x y : Int) : Decidable (joins e x y) := by unfold joins; infer_instance
section
variable {a : Int} {l : List S37} {d : List Int} {acc : List Int} {r : List Int}
end
end Go.Proofs.Ythkpnkmbmlbefaa.PB

/- The rows of distances of all nodes; the diameter as the greatest of them; a valid graph passes the check. -/
namespace Go.Proofs.Ythkpnkmbmlbefaa.PB
open Go.RowKit Go.Proofs.Ythkpnkmbmlbefaa Go.Proofs.Ythkpnkmbmlbefaa.X Go.Proofs.YthkpnkmbmlbefaaW.PrintWords Go.Proofs.YthkpnkmbmlbefaaW.PrintLast Go.Proofs.YthkpnkmbmlbefaaW.PrintMore
theorem chkFrom_valid {a : Int} {l : List S37} (h : Valid a l) : ∀ d i, i + d = l.length → chkFrom a l d i = 0
  | 0, _, _ => rfl
  | d + 1, i, hi => by
    unfold chkFrom
    rw [if_pos (h.ok i (by omega)), if_neg (h.loop i (by omega)), if_neg (fun q => ?_), if_neg (fun q => ?_)]
    · exact chkFrom_valid h d (i + 1) (by omega)
    · rw [usedFrom_iff] at q
      obtain ⟨j, _, h2, h3⟩ := q
      exact h.once1 i j (by omega) (by omega) h3
    · rw [usedFrom_iff] at q
      obtain ⟨j, _, h2, h3⟩ := q
      exact h.once0 i j (by omega) (by omega) h3
theorem valid_chk {a : Int} {l : List S37} (h : Valid a l) : chk a l = 0 := by
  have h1 := h.pos
  have h2 := h.most
  have h3 := h.few
  unfold chk
  rw [if_neg (by omega), if_neg (by omega)]
  exact chkFrom_valid h _ _ (by omega)
/-! ### All rows -/
noncomputable def rowsFrom (a : Int) (l : List S37) : Nat → Nat → List (List Int)
  | 0, _ => []
  | d + 1, i => dst a l i :: rowsFrom a l d (i + 1)
theorem rowsFrom_len (a : Int) (l : List S37) : ∀ d i, (rowsFrom a l d i).length = d
  | 0, _ => rfl
  | d + 1, i => by simp [rowsFrom, rowsFrom_len a l d (i + 1)]
theorem rowsFrom_get (a : Int) (l : List S37) : ∀ d i j, j < d → (rowsFrom a l d i).getD j [] = dst a l (i + j)
  | 0, _, _, h => by omega
  | d + 1, i, 0, _ => by simp [rowsFrom]
  | d + 1, i, j + 1, h => by
    have := rowsFrom_get a l d (i + 1) j (by omega)
    unfold rowsFrom
    rw [List.getD_cons_succ, this]
    congr 1
    omega
noncomputable def allRows (a : Int) (l : List S37) : List (List Int) := rowsFrom a l a.toNat 0
theorem allRows_len (a : Int) (l : List S37) : (allRows a l).length = a.toNat := rowsFrom_len _ _ _ _
theorem allRows_get (a : Int) (l : List S37) {i : Nat} (hi : i < a.toNat) : (allRows a l).getD i [] = dst a l i := by
  unfold allRows; rw [rowsFrom_get a l _ _ _ hi, Nat.zero_add]
theorem sound_l0 {a : Int} {l : List S37} (h0 : chk a l = 0) : ∀ d i acc, i + d = a.toNat → acc.length ≤ i → Ev (fun k => timesynclaw18_sound.l0 k acc a i a l) (acc ++ rowsFrom a l d i, true) := by
  have h := chk_valid h0
  have hmost := h.most
  intro d
  induction d with
  | zero =>
    intro i acc hi ha
    refine Ev.step (fun k => by rw [timesynclaw18_sound.l0]) ?_
    exact Ev.neg (by omega) (Ev.const (by simp [rowsFrom]))
  | succ d ih =>
    intro i acc hi ha
    have hia : i < a.toNat := by omega
    have hlen := h.dst_len hia
    have hd := impl_dist a l i
    rw [distR_valid h0 hia] at hd
    refine Ev.step (fun k => by rw [timesynclaw18_sound.l0]) ?_
    refine Ev.pos (by omega) (Ev.bind' _ hd (Ev.pos (by omega) (Ev.pos (by omega) ?_)))
    rw [wrap_nat (by omega)]
    have := ih (i + 1) (acc ++ [dst a l i]) (by omega) (by simp; omega)
    simpa [rowsFrom] using this
theorem sound_ok {a : Int} {l : List S37} (h0 : chk a l = 0) : Ev (fun k => timesynclaw18_sound.f k a l) (allRows a l, true) := by
  unfold timesynclaw18_sound.f
  have := sound_l0 h0 a.toNat 0 [] (by omega) (by simp)
  simpa [allRows] using this
/-! ### The diameter -/
theorem mxFrom_ge (d : List Int) : ∀ e j v, v ≤ mxFrom d e j v ∧ ∀ k, j ≤ k → k < j + e → gd d k ≤ mxFrom d e j v
  | 0, j, v => ⟨Int.le_refl _, fun k h1 h2 => by omega⟩
  | e + 1, j, v => by
    have ih := mxFrom_ge d e (j + 1) (mx v (gd d j))
    unfold mxFrom
    have h1 : v ≤ mx v (gd d j) := by unfold mx; split <;> omega
    have h2 : gd d j ≤ mx v (gd d j) := by unfold mx; split <;> omega
    refine ⟨by omega, fun k h3 h4 => ?_⟩
    by_cases q : k = j
    · subst q; omega
    · exact ih.2 k (by omega) (by omega)
theorem mxFrom_is (d : List Int) : ∀ e j v, mxFrom d e j v = v ∨ ∃ k, j ≤ k ∧ k < j + e ∧ mxFrom d e j v = gd d k
  | 0, j, v => .inl rfl
  | e + 1, j, v => by
    unfold mxFrom
    rcases mxFrom_is d e (j + 1) (mx v (gd d j)) with h | ⟨k, h1, h2, h3⟩
    · by_cases q : v < gd d j
      · exact .inr ⟨j, by omega, by omega, by rw [h]; unfold mx; rw [if_pos q]⟩
      · exact .inl (by rw [h]; unfold mx; rw [if_neg q])
    · exact .inr ⟨k, by omega, by omega, h3⟩
/-- The greatest number of all rows, and not below m. -/
def Greatest (a : Int) (l : List S37) (i : Nat) (m r : Int) : Prop :=
  m ≤ r ∧ (∀ j z, i ≤ j → j < a.toNat → z < a.toNat → gd (dst a l j) z ≤ r) ∧ (r = m ∨ ∃ j z, i ≤ j ∧ j < a.toNat ∧ z < a.toNat ∧ r = gd (dst a l j) z)
theorem diam_l0 {a : Int} {l : List S37} (h0 : chk a l = 0) : ∀ e i m, i + e = a.toNat → ∃ r, Ev (fun k => topo_Diameter.l0 k (nb a l) m a i) r ∧ Greatest a l i m r := by
  have h := chk_valid h0
  have hmost := h.most
  intro e
  induction e with
  | zero =>
    intro i m hi
    refine ⟨m, ?_, Int.le_refl _, fun j z h1 h2 => by omega, .inl rfl⟩
    refine Ev.step (fun k => by rw [topo_Diameter.l0]) ?_
    exact Ev.neg (by omega) (Ev.const rfl)
  | succ e ih =>
    intro i m hi
    have hia : i < a.toNat := by omega
    have hlen := h.dst_len hia
    obtain ⟨r, h1, g1, g2, g3⟩ := ih (i + 1) (mxFrom (dst a l i) a.toNat 0 m) (by omega)
    have u1 := mxFrom_ge (dst a l i) a.toNat 0 m
    refine ⟨r, ?_, by omega, fun j z k1 k2 k3 => ?_, ?_⟩
    · refine Ev.step (fun k => by rw [topo_Diameter.l0]) ?_
      obtain ⟨n, hn⟩ : ∃ n, a.toNat = n + 1 := ⟨a.toNat - 1, by omega⟩
      refine Ev.pos (by omega) (Ev.bind' _ (h.dst_ev hia) (Ev.bind' (mxFrom (dst a l i) n 1 (gd (dst a l i) 0)) ?_ ?_))
      · unfold slices_Max_int_int.f
        exact Ev.neg (by omega) (Ev.pos (by omega) (max_l0 _ (by omega) n 1 _ (by omega)))
      · rw [wrap_nat (by omega), ← mxFrom_mx]
        rw [hn] at h1
        exact h1
    · by_cases q : j = i
      · subst q
        have := u1.2 z (by omega) (by omega)
        omega
      · exact g2 j z (by omega) k2 k3
    · rcases g3 with g3 | ⟨j, z, k1, k2, k3, k4⟩
      · rcases mxFrom_is (dst a l i) a.toNat 0 m with u | ⟨k, k1, k2, k3⟩
        · exact .inl (by rw [g3, u])
        · exact .inr ⟨i, k, by omega, hia, by omega, by rw [g3, k3]⟩
      · exact .inr ⟨j, z, by omega, k2, k3, k4⟩
theorem diam_ok {a : Int} {l : List S37} (h0 : chk a l = 0) : ∃ r, Ev (fun k => topo_Diameter.f k a l) r ∧ Greatest a l 0 0 r := by
  have h := chk_valid h0
  obtain ⟨r, h1, h2⟩ := diam_l0 h0 a.toNat 0 0 (by omega)
  refine ⟨r, ?_, h2⟩
  unfold topo_Diameter.f
  exact Ev.bind' _ (impl_check a l) (Ev.pos h0 (Ev.bind' _ (impl_nb h) h1))
end Go.Proofs.Ythkpnkmbmlbefaa.PB

/- The pure statement of TopoRenumbers: distances are renumbered with the nodes; neither the order of the edges nor their direction matters. -/
namespace Go.Proofs.Ythkpnkmbmlbefaa.PureTopoRenumbers
open Go.RowKit Go.Proofs.Ythkpnkmbmlbefaa.X Go.Proofs.Ythkpnkmbmlbefaa.PB Go.Proofs.YthkpnkmbmlbefaaW.PrintWords Go.Proofs.YthkpnkmbmlbefaaW.PrintLast Go.Proofs.YthkpnkmbmlbefaaW.PrintMore
/-- The node's new number, b being the shift. -/
def sN (N b x : Nat) : Nat := if x + b < N then x + b else x + b - N
theorem sN_lt {N b x : Nat} (hb : b < N) (hx : x < N) : sN N b x < N := by unfold sN; split <;> omega
theorem sN_inj {N b x y : Nat} (hb : b < N) (hx : x < N) (hy : y < N) (h : sN N b x = sN N b y) : x = y := by
  unfold sN at h; split at h <;> split at h <;> omega
theorem sN_sur {N b y : Nat} (hb : b < N) (hy : y < N) : ∃ x, x < N ∧ sN N b x = y := by
  by_cases q : b ≤ y
  · exact ⟨y - b, by omega, by unfold sN; rw [if_pos (by omega)]; omega⟩
  · exact ⟨y + N - b, by omega, by unfold sN; rw [if_neg (by omega)]; omega⟩
theorem other_ok {a by_ : Int} (ha : 1 ≤ a) (hm : a ≤ 24) (h1 : 0 ≤ by_ ∧ by_ ≤ 255) (l : List S37) (x : Nat) (hx : x < a.toNat) : timesynclaw18_TopoRenumbers_1.f x by_ a l = some (sN a.toNat (by_.toNat % a.toNat) x : Nat) := by
  obtain ⟨N, rfl⟩ : ∃ N : Nat, a = N := ⟨a.toNat, by omega⟩
  simp only [Int.toNat_natCast] at hx ⊢
  unfold timesynclaw18_TopoRenumbers_1.f
  rw [if_neg (by omega), wrap_id (x := by_) (by omega) (by omega), wrap_id (by omega) (by omega)]
  congr 1
  have e1 : (x : Int) + by_ = ((x + by_.toNat : Nat) : Int) := by omega
  rw [e1, Int.tmod_eq_emod_of_nonneg (by omega)]
  have e3 : (x + by_.toNat) % N = sN N (by_.toNat % N) x := by
    have hb : by_.toNat % N < N := Nat.mod_lt _ (by omega)
    rw [Nat.add_mod, Nat.mod_eq_of_lt hx]
    unfold sN
    split
    · rw [Nat.mod_eq_of_lt (by omega)]
    · rw [Nat.mod_eq_sub_mod (by omega), Nat.mod_eq_of_lt (by omega)]
  rw [← Int.natCast_emod, e3]
/-- The edge with its nodes' new numbers, turned round. -/
def turn (N b : Nat) (e : S37) : S37 := ⟨(sN N b e.f2.toNat : Nat), e.f3, (sN N b e.f0.toNat : Nat), e.f1⟩
def hl (a : Int) (b : Nat) (l : List S37) : List S37 := (l.map (turn a.toNat b)).reverse
theorem hl_get {a : Int} {b : Nat} {l : List S37} {i : Nat} (hi : i < l.length) : (hl a b l).getD i z37 = turn a.toNat b (l.getD (l.length - 1 - i) z37) := by
  unfold hl
  have h2 : l.length - 1 - i < l.length := by omega
  simp [List.getD, hi, h2]
section
variable {a : Int} {l : List S37} (h : Valid a l) {b : Nat} (hb : b < a.toNat)
include h hb
omit hb in
theorem apart (p q : Nat) (hp : p < l.length) (hq : q < l.length) (hne : p ≠ q) : ¬ hasEnd (l.getD q z37) ((l.getD p z37).f0, (l.getD p z37).f1) ∧ ¬ hasEnd (l.getD q z37) ((l.getD p z37).f2, (l.getD p z37).f3) := by
  rcases Nat.lt_or_ge q p with k | k
  · exact ⟨h.once0 p q k hp, h.once1 p q k hp⟩
  · have k1 := h.once0 q p (by omega) hq
    have k2 := h.once1 q p (by omega) hq
    unfold hasEnd at *
    simp only at *
    exact ⟨fun u => by omega, fun u => by omega⟩
theorem hl_valid : Valid a (hl a b l) := by
  have hlen : (hl a b l).length = l.length := by simp [hl]
  have inj : ∀ x y : Int, 0 ≤ x → x < a → 0 ≤ y → y < a → ((sN a.toNat b x.toNat : Nat) : Int) = ((sN a.toNat b y.toNat : Nat) : Int) → x = y := fun x y h1 h2 h3 h4 e => by
    have := sN_inj (N := a.toNat) (x := x.toNat) (y := y.toNat) hb (by omega) (by omega) (by omega)
    omega
  have noend : ∀ p q, p < l.length → q < l.length → p ≠ q → ¬ hasEnd (turn a.toNat b (l.getD q z37)) ((turn a.toNat b (l.getD p z37)).f0, (turn a.toNat b (l.getD p z37)).f1) ∧ ¬ hasEnd (turn a.toNat b (l.getD q z37)) ((turn a.toNat b (l.getD p z37)).f2, (turn a.toNat b (l.getD p z37)).f3) := fun p q hp hq hne => by
    have k := apart h p q hp hq hne
    have o1 := h.ok p hp
    have o2 := h.ok q hq
    unfold OkE at o1 o2
    unfold hasEnd turn at *
    simp only at *
    refine ⟨fun u => ?_, fun u => ?_⟩
    · rcases u with ⟨u1, u2⟩ | ⟨u1, u2⟩
      · exact k.2 (.inr ⟨inj _ _ (by omega) (by omega) (by omega) (by omega) u1, u2⟩)
      · exact k.2 (.inl ⟨inj _ _ (by omega) (by omega) (by omega) (by omega) u1, u2⟩)
    · rcases u with ⟨u1, u2⟩ | ⟨u1, u2⟩
      · exact k.1 (.inr ⟨inj _ _ (by omega) (by omega) (by omega) (by omega) u1, u2⟩)
      · exact k.1 (.inl ⟨inj _ _ (by omega) (by omega) (by omega) (by omega) u1, u2⟩)
  refine ⟨h.pos, h.most, by rw [hlen]; exact h.few, fun i hi => ?_, fun i hi => ?_, fun i j hj hi => ?_, fun i j hj hi => ?_⟩
  · rw [hl_get (by omega)]
    have o := h.ok (l.length - 1 - i) (by omega)
    unfold OkE at o
    have s1 := sN_lt (N := a.toNat) hb (x := (l.getD (l.length - 1 - i) z37).f2.toNat) (by omega)
    have s2 := sN_lt (N := a.toNat) hb (x := (l.getD (l.length - 1 - i) z37).f0.toNat) (by omega)
    unfold OkE turn
    simp only
    omega
  · rw [hl_get (by omega)]
    have o := h.ok (l.length - 1 - i) (by omega)
    have lo := h.loop (l.length - 1 - i) (by omega)
    unfold OkE at o
    unfold turn
    simp only
    exact fun e => lo (inj _ _ (by omega) (by omega) (by omega) (by omega) e).symm
  · rw [hl_get (by omega), hl_get (by omega)]
    exact (noend _ _ (by omega) (by omega) (by omega)).1
  · rw [hl_get (by omega), hl_get (by omega)]
    exact (noend _ _ (by omega) (by omega) (by omega)).2
theorem hl_adj (u v : Nat) (hu : u < a.toNat) (hv : v < a.toNat) : adjOf (es (hl a b l)) (sN a.toNat b u) (sN a.toNat b v) ↔ adjOf (es l) u v := by
  have key : ∀ p q, p < a.toNat → q < a.toNat → ((sN a.toNat b p, sN a.toNat b q) ∈ es (hl a b l) ↔ (q, p) ∈ es l) := fun p q hp hq => by
    unfold es hl
    rw [List.map_reverse, List.mem_reverse, List.map_map]
    constructor
    · intro hm
      obtain ⟨e, he, e1⟩ := List.mem_map.1 hm
      obtain ⟨x, y, h1, h2, h3, h4⟩ := (h.mem he).1.nat
      simp only [Function.comp, turn, h1, h2, Int.toNat_natCast, Prod.mk.injEq] at e1
      have i1 := sN_inj hb h4 hp e1.1
      have i2 := sN_inj hb h3 hq e1.2
      exact List.mem_map.2 ⟨e, he, by rw [h1, h2, Int.toNat_natCast, Int.toNat_natCast, i1, i2]⟩
    · intro hm
      obtain ⟨e, he, e1⟩ := List.mem_map.1 hm
      injection e1 with e1 e2
      exact List.mem_map.2 ⟨e, he, by simp only [Function.comp, turn, Int.toNat_natCast, e1, e2]⟩
  unfold adjOf
  rw [key u v hu hv, key v u hv hu]
  exact Or.comm
theorem hl_dst (x z : Nat) (hx : x < a.toNat) (hz : z < a.toNat) : gd (dst a (hl a b l) (sN a.toNat b x)) (sN a.toNat b z) = gd (dst a l x) z := by
  have hv := hl_valid h hb
  have hsx := sN_lt hb hx
  have hD := hv.dst_is hsx
  have hI : IsDist a.toNat (adjOf (es l)) x (fun z => gd (dst a (hl a b l) (sN a.toNat b x)) (sN a.toNat b z)) := by
    refine ⟨hD.zero, fun y hy e => sN_inj hb hy hx (hD.only _ (sN_lt hb hy) e), fun y hy => hD.low _ (sN_lt hb hy), fun u v huv e => ?_, fun y hy e => ?_⟩
    · have hr := h.range u v huv
      exact hD.edge _ _ ((hl_adj h hb u v hr.1 hr.2).2 huv) e
    · obtain ⟨w, hw, e2⟩ := hD.back _ (sN_lt hb hy) e
      obtain ⟨u, hu, rfl⟩ := sN_sur hb (hv.range _ _ hw).1
      exact ⟨u, (hl_adj h hb u y hu hy).1 hw, e2⟩
  exact (IsDist.uniq h.range hI (h.dst_is hx) z hz)
end
section
variable {a by_ : Int} {l : List S37} (h0 : chk a l = 0) (h1 : 0 ≤ by_ ∧ by_ ≤ 255)
include h0 h1
theorem l2_ok {x : Nat} (hx : x < a.toNat) {r : Bool} (hk : Ev (fun k => timesynclaw18_TopoRenumbers.l1 k (allRows a l) (allRows a (hl a (by_.toNat % a.toNat) l)) a.toNat (wrap64 ((x : Int) + 1)) a l by_) r) :
    ∀ d j, j + d = a.toNat → Ev (fun k => timesynclaw18_TopoRenumbers.l2 k (allRows a l) (allRows a (hl a (by_.toNat % a.toNat) l)) x a.toNat x (dst a l x) (dst a l x).length j a l by_) r := by
  have h := chk_valid h0
  have hpos := h.pos
  have hmost := h.most
  have hlen := h.dst_len hx
  have hb : by_.toNat % a.toNat < a.toNat := Nat.mod_lt _ (by omega)
  have hv := hl_valid h hb
  intro d
  induction d with
  | zero =>
    intro j hj
    refine Ev.step (fun k => by rw [timesynclaw18_TopoRenumbers.l2]) ?_
    exact Ev.neg (by omega) hk
  | succ d ih =>
    intro j hj
    have hj' : j < a.toNat := by omega
    have s1 := sN_lt hb hx
    have s2 := sN_lt hb hj'
    have hl1 := hv.dst_len s1
    have hal := allRows_len a (hl a (by_.toNat % a.toNat) l)
    refine Ev.step (fun k => by rw [timesynclaw18_TopoRenumbers.l2]) ?_
    rw [other_ok hpos hmost h1 l x hx, other_ok hpos hmost h1 l j hj', wrap_nat (by omega)]
    refine Ev.pos (by omega) (Ev.pos (by omega) (Ev.pos (by omega) (Ev.some_bind (Ev.pos (by omega) (Ev.pos (by omega) (Ev.some_bind ?_))))))
    rw [rdL3, allRows_get a _ s1, rd_gd, rd_gd, hl_dst h hb x j hx hj']
    exact Ev.pos (by omega) (Ev.pos (by omega) (Ev.pos rfl (ih (j + 1) (by omega))))
theorem l1_ok : ∀ d i, i + d = a.toNat → Ev (fun k => timesynclaw18_TopoRenumbers.l1 k (allRows a l) (allRows a (hl a (by_.toNat % a.toNat) l)) a.toNat i a l by_) true := by
  have h := chk_valid h0
  have hmost := h.most
  have hal := allRows_len a l
  intro d
  induction d with
  | zero =>
    intro i hi
    refine Ev.step (fun k => by rw [timesynclaw18_TopoRenumbers.l1]) ?_
    exact Ev.neg (by omega) awake18'
  | succ d ih =>
    intro i hi
    have hia : i < a.toNat := by omega
    refine Ev.step (fun k => by rw [timesynclaw18_TopoRenumbers.l1]) ?_
    rw [rdL3, allRows_get a l hia]
    refine Ev.pos (by omega) (Ev.pos (by omega) (Ev.pos (by omega) (l2_ok h0 h1 hia ?_ a.toNat 0 (by omega))))
    rw [wrap_nat (by omega)]
    exact ih (i + 1) (by omega)
omit h1 in
theorem diam_same2 {r r' : Int} (hr : Greatest a l 0 0 r) (hr' : Greatest a (hl a (by_.toNat % a.toNat) l) 0 0 r') : r = r' := by
  have h := chk_valid h0
  have hpos := h.pos
  have hb : by_.toNat % a.toNat < a.toNat := Nat.mod_lt _ (by omega)
  obtain ⟨a1, a2, a3⟩ := hr
  obtain ⟨b1, b2, b3⟩ := hr'
  have l1 : r ≤ r' := by
    rcases a3 with e | ⟨j, z, _, k2, k3, e⟩
    · omega
    · have := b2 (sN a.toNat (by_.toNat % a.toNat) j) (sN a.toNat (by_.toNat % a.toNat) z) (Nat.zero_le _) (sN_lt hb k2) (sN_lt hb k3)
      rw [hl_dst h hb j z k2 k3] at this
      omega
  have l2 : r' ≤ r := by
    rcases b3 with e | ⟨j, z, _, k2, k3, e⟩
    · omega
    · obtain ⟨j', hj, rfl⟩ := sN_sur hb k2
      obtain ⟨z', hz, rfl⟩ := sN_sur hb k3
      rw [hl_dst h hb j' z' hj hz] at e
      have := a2 j' z' (Nat.zero_le _) hj hz
      omega
  omega
theorem l0_ok : ∀ d i, i + d = l.length → Ev (fun k => timesynclaw18_TopoRenumbers.l0 k l l.length i a l by_ a ((l.take i).map (turn a.toNat (by_.toNat % a.toNat)))) true := by
  have h := chk_valid h0
  have hpos := h.pos
  have hmost := h.most
  have hfew := h.few
  have hb : by_.toNat % a.toNat < a.toNat := Nat.mod_lt _ (by omega)
  intro d
  induction d with
  | zero =>
    intro i hi
    refine Ev.step (fun k => by rw [timesynclaw18_TopoRenumbers.l0]) ?_
    rw [List.take_of_length_le (by omega)]
    have hv := hl_valid h hb
    have hc := valid_chk hv
    obtain ⟨r, r1, r2⟩ := diam_ok h0
    obtain ⟨r', r3, r4⟩ := diam_ok hc
    have hcc := impl_check a (hl a (by_.toNat % a.toNat) l)
    rw [hc] at hcc
    refine Ev.neg (by omega) (Ev.bind' (hl a (by_.toNat % a.toNat) l) (Ev.const ?_) (Ev.bind' _ (sound_ok h0) (Ev.bind' _ (sound_ok hc) (Ev.pos rfl (Ev.pos rfl (Ev.bind' _ hcc (Ev.pos rfl (Ev.bind' _ r1 (Ev.bind' _ r3 ?_)))))))))
    · unfold api_Edge.f
      rw [if_pos (by simp; omega)]
      rfl
    · have hd := diam_same2 h0 r2 r4
      subst hd
      refine Ev.step (fun k => by rw [timesynclaw18_TopoRenumbers.j2]) ?_
      dsimp only
      rw [allRows_len]
      exact Ev.neg (by simp) (l1_ok h0 h1 a.toNat 0 (by omega))
  | succ d ih =>
    intro i hi
    have hil : i < l.length := by omega
    obtain ⟨u, v, hu, hv, hul, hvl⟩ := (h.ok i hil).nat
    refine Ev.step (fun k => by rw [timesynclaw18_TopoRenumbers.l0]) ?_
    rw [rd37, hu, hv, other_ok hpos hmost h1 l u hul, other_ok hpos hmost h1 l v hvl, wrap_nat (by omega)]
    refine Ev.pos (by omega) (Ev.pos (by omega) (Ev.pos (by omega) (Ev.some_bind (Ev.some_bind (Ev.pos (by simp; omega) ?_)))))
    have := ih (i + 1) (by omega)
    have e1 : l.take (i + 1) = l.take i ++ [l.getD i z37] := by
      rw [List.take_add_one]; simp [List.getD, hil]
    rw [e1, List.map_append] at this
    have e2 : (⟨((sN a.toNat (by_.toNat % a.toNat) v : Nat) : Int), (l.getD i z37).f3, ((sN a.toNat (by_.toNat % a.toNat) u : Nat) : Int), (l.getD i z37).f1⟩ : S37) = turn a.toNat (by_.toNat % a.toNat) (l.getD i z37) := by
      unfold turn; rw [hu, hv, Int.toNat_natCast, Int.toNat_natCast]
    rw [e2]
    exact this
end
theorem TopoRenumbers : ∀ (x0 : S24) (a1 : Int), WF24 x0 → WFu8 a1 → ∃ k, timesynclaw18_TopoRenumbers.f k x0.f0 x0.f1 a1 = some true := by
  intro g x _ hx
  have hx' : 0 ≤ x ∧ x ≤ 255 := by
    simp [WFu8, Lit.wf] at hx
    have h1 : IntKind.u8.min = 0 := by decide
    have h2 : IntKind.u8.max = 255 := by decide
    omega
  refine Ev.rounds ?_
  unfold timesynclaw18_TopoRenumbers.f timesynclaw18_long.f
  have T : Ev (fun k => timesynclaw18_TopoRenumbers.j0 k true g.f0 g.f1 x) true := by
    refine Ev.step (fun k => by rw [timesynclaw18_TopoRenumbers.j0]) ?_
    exact Ev.pos rfl awake18'
  refine Ev.some_bind (Ev.ite_ (fun _ => T) (fun _ => Ev.bind' _ (impl_check g.f0 g.f1) ?_))
  by_cases h0 : chk g.f0 g.f1 = 0
  · rw [h0]
    refine Ev.step (fun k => by rw [timesynclaw18_TopoRenumbers.j0]) ?_
    have := l0_ok h0 hx' g.f1.length 0 (by omega)
    exact Ev.neg (by simp) this
  · have : (chk g.f0 g.f1 != 0) = true := bne_iff_ne.mpr h0
    rw [this]; exact T
end Go.Proofs.Ythkpnkmbmlbefaa.PureTopoRenumbers
