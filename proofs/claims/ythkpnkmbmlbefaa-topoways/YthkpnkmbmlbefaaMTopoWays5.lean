/- Ythkpnkmbmlbefaa: part 5 of 6 of the proof that the law TopoWays returns true for every input, its arguments reading as before. No condition. -/
import Derived.Test.YthkpnkmbmlbefaaMTopoWays1
import Derived.Test.YthkpnkmbmlbefaaMTopoWays4
import Derived.Test.YthkpnkmbmlbefaaMTopoWays2
import Derived.Test.YthkpnkmbmlbefaaMTopoWays3
namespace Go.Proofs.Ythkpnkmbmlbefaa.X
open Go.RowKit Go.Proofs.YthkpnkmbmlbefaaW.PrintWords Go.Proofs.YthkpnkmbmlbefaaW.PrintLast Go.Proofs.YthkpnkmbmlbefaaW.PrintMore
attribute [local go_sem] max2_int min2_int max_two min_two max_three min_three max_four min_four   -- for this text's walks alone
set_option linter.unusedVariables false
set_option linter.unusedSimpArgs false

/-! ### timesynclaw18_TopoWays: function 5 -/
mutual
def timesynclaw18_TopoWays.j0 : Nat → Int → Int → Bool → Int → List (S37) → Option (Bool)
 | 0, _, _, _, _, _ => none
 | k + 1, x1, x2, x22, x321000, x321001 => if x22 = true then ((timesynclaw18_awake.f k).bind fun t323 => (some t323)) else (if x321000 = 0 then (none) else ((topo_Path.f k x321000 x321001 (Int.tmod (wrap64 (x1)) x321000) (Int.tmod (wrap64 (x2)) x321000)).bind fun t324 => ((topo_Dist.f k x321000 x321001 (Int.tmod (wrap64 (x2)) x321000)).bind fun t327 => (if (t327.length : Int) = x321000 then (if 0 ≤ (Int.tmod (wrap64 (x1)) x321000) then (if (Int.tmod (wrap64 (x1)) x321000) < (t327.length : Int) then (if (rd t327 (Int.tmod (wrap64 (x1)) x321000)) < 0 then (if (t324.length : Int) = 0 then ((timesynclaw18_awake.f k).bind fun t331 => (some t331)) else (none)) else (if (t324.length : Int) = (wrap64 ((rd t327 (Int.tmod (wrap64 (x1)) x321000)) + 1)) then (if 0 < (t324.length : Int) then (if (rd t324 0) = (Int.tmod (wrap64 (x1)) x321000) then (if 0 ≤ (wrap64 ((t324.length : Int) - 1)) then (if (wrap64 ((t324.length : Int) - 1)) < (t324.length : Int) then (timesynclaw18_TopoWays.j1 k t324 t327 ((rd t324 (wrap64 ((t324.length : Int) - 1))) != (Int.tmod (wrap64 (x2)) x321000)) x321000 x321001) else (none)) else (none)) else (timesynclaw18_TopoWays.j1 k t324 t327 true x321000 x321001)) else (none)) else (timesynclaw18_TopoWays.j1 k t324 t327 true x321000 x321001))) else (none)) else (none)) else (none)))))
def timesynclaw18_TopoWays.j1 : Nat → List Int → List Int → Bool → Int → List (S37) → Option (Bool)
 | 0, _, _, _, _, _ => none
 | k + 1, x9, x10, x81, x321000, x321001 => if x81 = true then (none) else (if 0 ≤ (wrap64 ((x9.length : Int) - 1)) then (if (wrap64 ((x9.length : Int) - 1)) ≤ (x9.length : Int) then ((some (x9.take ((wrap64 ((x9.length : Int) - 1)) : Int).toNat : List Int)).bind fun y335 => (timesynclaw18_TopoWays.l0 k x9 x10 y335 (y335.length : Int) 0 x321000 x321001)) else (none)) else (none))
def timesynclaw18_TopoWays.l0 : Nat → List Int → List Int → List Int → Int → Int → Int → List (S37) → Option (Bool)
 | 0, _, _, _, _, _, _, _ => none
 | k + 1, x9, x10, x86, x87, x88, x321000, x321001 => if x88 < x87 then (if 0 ≤ x88 then (if x88 < (x86.length : Int) then (timesynclaw18_TopoWays.l1 k x9 x10 x88 (rd x86 x88) x321000 x86 x87 x88 x321001 (x321001.length : Int) 0 x321000 x321001) else (none)) else (none)) else ((timesynclaw18_awake.f k).bind fun t339 => (some t339))
def timesynclaw18_TopoWays.l1 : Nat → List Int → List Int → Int → Int → Int → List Int → Int → Int → List (S37) → Int → Int → Int → List (S37) → Option (Bool)
 | 0, _, _, _, _, _, _, _, _, _, _, _, _, _ => none
 | k + 1, x9, x10, x11, x12, x13, x86, x87, x88, x96, x97, x98, x321000, x321001 => if x98 < x97 then (if 0 ≤ x98 then (if x98 < (x96.length : Int) then (if ((rd_T37 x96 x98).f0) = x12 then (if 0 ≤ ((rd_T37 x96 x98).f2) then (if ((rd_T37 x96 x98).f2) < (x10.length : Int) then (if 0 ≤ x12 then (if x12 < (x10.length : Int) then (timesynclaw18_TopoWays.j4 k x9 x10 x11 x12 x13 x86 x87 x88 x96 x97 x98 ((rd x10 ((rd_T37 x96 x98).f2)) == (wrap64 ((rd x10 x12) - 1))) x321000 x321001 ((rd_T37 x96 x98).f0) ((rd_T37 x96 x98).f1) ((rd_T37 x96 x98).f2) ((rd_T37 x96 x98).f3)) else (none)) else (none)) else (none)) else (none)) else (timesynclaw18_TopoWays.j4 k x9 x10 x11 x12 x13 x86 x87 x88 x96 x97 x98 false x321000 x321001 ((rd_T37 x96 x98).f0) ((rd_T37 x96 x98).f1) ((rd_T37 x96 x98).f2) ((rd_T37 x96 x98).f3))) else (none)) else (none)) else (if 0 ≤ (wrap64 (x11 + 1)) then (if (wrap64 (x11 + 1)) < (x9.length : Int) then (if (rd x9 (wrap64 (x11 + 1))) = x13 then (if x13 = x321000 then (none) else (timesynclaw18_TopoWays.l0 k x9 x10 x86 x87 (wrap64 (x88 + 1)) x321000 x321001)) else (none)) else (none)) else (none))
def timesynclaw18_TopoWays.j4 : Nat → List Int → List Int → Int → Int → Int → List Int → Int → Int → List (S37) → Int → Int → Bool → Int → List (S37) → Int → Int → Int → Int → Option (Bool)
 | 0, _, _, _, _, _, _, _, _, _, _, _, _, _, _, _, _, _, _ => none
 | k + 1, x9, x10, x11, x12, x13, x86, x87, x88, x96, x97, x98, x118, x321000, x321001, x344000, x344001, x344002, x344003 => if x118 = true then (if x344002 = x12 then (if 0 ≤ x344000 then (if x344000 < (x10.length : Int) then (if 0 ≤ x12 then (if x12 < (x10.length : Int) then (if (rd x10 x344000) = (wrap64 ((rd x10 x12) - 1)) then (timesynclaw18_TopoWays.l1 k x9 x10 x11 x12 (mn (mn x13 x344002) x344000) x86 x87 x88 x96 x97 (wrap64 (x98 + 1)) x321000 x321001) else (timesynclaw18_TopoWays.l1 k x9 x10 x11 x12 (mn x13 x344002) x86 x87 x88 x96 x97 (wrap64 (x98 + 1)) x321000 x321001)) else (none)) else (none)) else (none)) else (none)) else (timesynclaw18_TopoWays.l1 k x9 x10 x11 x12 (mn x13 x344002) x86 x87 x88 x96 x97 (wrap64 (x98 + 1)) x321000 x321001)) else (if x344002 = x12 then (if 0 ≤ x344000 then (if x344000 < (x10.length : Int) then (if 0 ≤ x12 then (if x12 < (x10.length : Int) then (if (rd x10 x344000) = (wrap64 ((rd x10 x12) - 1)) then (timesynclaw18_TopoWays.l1 k x9 x10 x11 x12 (mn x13 x344000) x86 x87 x88 x96 x97 (wrap64 (x98 + 1)) x321000 x321001) else (timesynclaw18_TopoWays.l1 k x9 x10 x11 x12 x13 x86 x87 x88 x96 x97 (wrap64 (x98 + 1)) x321000 x321001)) else (none)) else (none)) else (none)) else (none)) else (timesynclaw18_TopoWays.l1 k x9 x10 x11 x12 x13 x86 x87 x88 x96 x97 (wrap64 (x98 + 1)) x321000 x321001))
end
def timesynclaw18_TopoWays.f (k : Nat) (a0_0 : Int) (l0_1 : List (S37)) (a1 : Int) (a2 : Int) : Option (Bool) := (timesynclaw18_long.f a0_0 l0_1).bind fun t321 => (if t321 = true then (timesynclaw18_TopoWays.j0 k a1 a2 true a0_0 l0_1) else ((topo_Check.f k a0_0 l0_1).bind fun t322 => (timesynclaw18_TopoWays.j0 k a1 a2 (t322 != 0) a0_0 l0_1)))
def timesynclaw18_TopoWays.T3 : Bool × List (List Nat × List Nat) := (true, [([], []), ([0], [0]), ([], []), ([2], [2]), ([1, 3], [1, 3]), ([], []), ([5], [5]), ([], []), ([7], [7]), ([6, 8], [6, 8]), ([4, 0, 1, 2, 3, 4], [4]), ([9, 10, 0, 1, 2, 3, 4, 5, 6, 7, 8, 9, 10], [9])])
def timesynclaw18_TopoWays.B3 : List Nat := [0, 1, 0, 4, 15, 0, 32, 0, 128, 480, 31, 2047]
theorem timesynclaw18_TopoWays.tab3 : rtab .any (opsOf Try.f5 3) = timesynclaw18_TopoWays.T3 := by kernel_rfl
theorem timesynclaw18_TopoWays.bits3 : waitsOk timesynclaw18_TopoWays.T3.2 timesynclaw18_TopoWays.B3 = true := by kernel_rfl
def timesynclaw18_TopoWays.T4 : Bool × List (List Nat × List Nat) := (true, [([], []), ([], []), ([], []), ([0, 1, 2], [0, 1, 2]), ([], []), ([], []), ([4, 5, 3], [4, 5]), ([3, 6, 0, 1, 2, 3], [3]), ([6, 7, 0, 1, 2, 3, 4, 5, 6, 7], [6])])
def timesynclaw18_TopoWays.B4 : List Nat := [0, 0, 0, 7, 0, 0, 63, 127, 255]
theorem timesynclaw18_TopoWays.tab4 : rtab .any (opsOf Try.f5 4) = timesynclaw18_TopoWays.T4 := by kernel_rfl
theorem timesynclaw18_TopoWays.bits4 : waitsOk timesynclaw18_TopoWays.T4.2 timesynclaw18_TopoWays.B4 = true := by kernel_rfl
def timesynclaw18_TopoWays.T18 : Bool × List (List Nat × List Nat) := (true, [([], []), ([0], [0]), ([], []), ([1, 2], [1, 2]), ([3], [3]), ([4], [4]), ([4], [4]), ([6, 4], [4, 6]), ([5, 7, 4], [4, 5, 7]), ([8, 4], [4, 8]), ([4], [4]), ([4], [4]), ([10, 11, 4], [4, 10, 11]), ([12, 4], [4, 12]), ([13, 4], [4, 13]), ([9, 14, 4], [4, 9, 14]), ([4, 15], [4, 15])])
def timesynclaw18_TopoWays.B18 : List Nat := [0, 1, 0, 7, 15, 31, 31, 95, 255, 511, 31, 31, 3103, 7199, 15391, 32767, 65535]
theorem timesynclaw18_TopoWays.tab18 : rtab .any (opsOf Try.f5 18) = timesynclaw18_TopoWays.T18 := by kernel_rfl
theorem timesynclaw18_TopoWays.bits18 : waitsOk timesynclaw18_TopoWays.T18.2 timesynclaw18_TopoWays.B18 = true := by kernel_rfl
def timesynclaw18_TopoWays.T20 : Bool × List (List Nat × List Nat) := (true, [([], []), ([0], [0]), ([], []), ([1, 2], [1, 2]), ([3], [3]), ([4], [4]), ([4], [4]), ([6, 4], [4, 6]), ([5, 7, 4], [4, 5, 7]), ([8, 4], [4, 8]), ([4], [4]), ([4], [4]), ([10, 11, 4], [4, 10, 11]), ([12, 4], [4, 12]), ([13, 4], [4, 13]), ([9, 14, 4], [4, 9, 14]), ([4, 15], [4, 15])])
def timesynclaw18_TopoWays.B20 : List Nat := [0, 1, 0, 7, 15, 31, 31, 95, 255, 511, 31, 31, 3103, 7199, 15391, 32767, 65535]
theorem timesynclaw18_TopoWays.tab20 : rtab .any (opsOf Try.f5 20) = timesynclaw18_TopoWays.T20 := by kernel_rfl
theorem timesynclaw18_TopoWays.bits20 : waitsOk timesynclaw18_TopoWays.T20.2 timesynclaw18_TopoWays.B20 = true := by kernel_rfl
set_option maxHeartbeats 8000000 in
set_option maxRecDepth 100000 in
theorem timesynclaw18_TopoWays.calls (k : Nat) (a0_0 : Int) (A0_1 : Option Addr) (c0_1 : Nat) (l0_1 : List (S37)) (a1 : Int) (a2 : Int) (r : Bool) (w : World) (hr0_1 : Kd.C k37 w A0_1 l0_1.length l0_1) (hc0_1 : l0_1.length ≤ c0_1) (h : timesynclaw18_TopoWays.f k a0_0 l0_1 a1 a2 = some r) :
  Calls Try.prog 5 #[.agg #[.int .i64 a0_0, .slice A0_1 l0_1.length c0_1], .int .u8 a1, .int .u8 a2] w fun e w' => e = .returned (.bool r) ∧ Below w.heap.size w w' := by
 have hu24 := Try.underlying24
 have hu37 := Try.underlying37
 have HR0_1 := Aside0.mk hr0_1
 have HC0_1 := Aside0.mk hc0_1
 clear hr0_1 hc0_1
 have HB := Aside0.mk (Below.refl w.heap.size w)
 have H : ((timesynclaw18_long.f a0_0 l0_1).bind fun t321 => (if t321 = true then (timesynclaw18_TopoWays.j0 k a1 a2 true a0_0 l0_1) else ((topo_Check.f k a0_0 l0_1).bind fun t322 => (timesynclaw18_TopoWays.j0 k a1 a2 (t322 != 0) a0_0 l0_1)))) = some r := h
 clear h
 have HC4 := Aside0.mk H
 clear H
 go_enter Try.func5, Try.ntmps5
 go_upto_region 1 with (first | ((with_reducible refine gate_dst (N := 3) rfl ?_); (try (refine gate_guard (by rfl) ?_; dsimp only)); refine box_event ?hg (N := 3) ?hd (cs := #[.int .i64 a0_0, .slice A0_1 l0_1.length c0_1]) (t := 24) ?hr ?_; (case hd => rfl); (case hg => rfl); (case hr => first | (go_simp; done) | (go_simp; rfl)); intro gb320 hg w5 hbox hb; have n0_ := Aside0.mk (below_step (by exact HB.out) hb); have n1_ := Aside0.mk (hbox); have n2_ := Aside0.mk ((by rw [hg]; exact (below_size (by exact HB.out)) : w.heap.size ≤ gb320)); have n3_ := Aside0.mk ((by rw [hg]; exact (below_size (by exact HB.out)) : w.heap.size ≤ gb320)); clear HB; have HB := n0_; have BK320 := n1_; have GW320 := n2_; have GE320 := n3_; clear n0_ n1_ n2_ n3_; clear hb hbox hg))
 (try simp only [Act.put, List.setIfInBounds_toArray, List.set_cons_zero, List.set_cons_succ])
 go_cut [22] (fun v22 wc => ∃ (kq : Nat) (x22_3 : Bool), v22 = .bool x22_3 ∧ Aside0 (timesynclaw18_TopoWays.j0 kq a1 a2 x22_3 a0_0 l0_1 = some r) ∧ Aside0 (kq ≤ k) ∧ Aside0 (wc.heap[gb320]? = some (.cells #[.int .i64 a0_0, (.slice A0_1 l0_1.length c0_1)] 24 (0, 0))) ∧ Aside0 (Below w.heap.size w wc))
 case first =>
  have H := HC4.out
  clear HC4
  replace H := Option.bind_eq_some_iff.mp H
  obtain ⟨t321, A60, H⟩ := H
  replace H : (if t321 = true then (timesynclaw18_TopoWays.j0 k a1 a2 true a0_0 l0_1) else ((topo_Check.f k a0_0 l0_1).bind fun t322 => (timesynclaw18_TopoWays.j0 k a1 a2 (t322 != 0) a0_0 l0_1))) = some r := H
  have A6 := Aside0.mk A60
  clear A60
  by_cases c7 : t321 = true
  ·subst c7
   have H1 : (timesynclaw18_TopoWays.j0 k a1 a2 true a0_0 l0_1) = some r := by rw [if_pos rfl] at H; exact H
   clear H
   have H := H1
   clear H1
   have H' := Aside0.mk H
   clear H
   have hcz8_0 : w5.cell? ⟨gb320, 0, none⟩ = some (.int .i64 a0_0) := (blk_cell BK320.out 0).trans rfl
   have hcz8_1 : w5.cell? ⟨gb320, 1, none⟩ = some (.slice A0_1 l0_1.length c0_1) := (blk_cell BK320.out 1).trans rfl
   have hfz8_0 := blk_frozen BK320.out 0
   have hfz8_1 := blk_frozen BK320.out 1
   go_wp2_with (first | ((with_reducible refine gate_callee (f := 15) rfl ?_); refine goesL_ (some 17) rfl rfl Try.func15 (by kernel_rfl) rfl #[.agg #[.int .i64 a0_0, .slice A0_1 l0_1.length c0_1]] rfl (by (try simp only [List.map_toArray, List.map_cons, List.map_nil]); first | done | rfl | (simp only [List.length_drop, List.length_take]; rfl)) ?_; (with_reducible refine (timesynclaw18_long.calls a0_0 _ _ l0_1 true _ ?side1 ?side2 A6.out).mono ?_); (case side1 => exact (Kd.C_below HR0_1.out HB.out)); (case side2 => exact HC0_1.out); rintro e w9 ⟨rfl, hb⟩; refine ⟨_, rfl, ?_⟩; have n0_ := Aside0.mk (blk_below (g := gb320) (o := .cells #[.int .i64 a0_0, .slice A0_1 l0_1.length c0_1] 24 (0, 0)) (by exact BK320.out) hb); have n1_ := Aside0.mk (below_step (by exact HB.out) hb); clear BK320; clear HB; have BK320 := n0_; have HB := n1_; clear n0_ n1_; (try clear hi)))
   go_meet
   case rel => exact ⟨_, (true), (by first | rfl | (simp; done) | (simp [*]; done)), H', ⟨by first | omega | exact Nat.le_refl _⟩, ⟨by exact BK320.out⟩, ⟨by exact HB.out⟩⟩
  ·replace c7 := Bool.eq_false_iff.mpr c7
   subst c7
   have H1 : ((topo_Check.f k a0_0 l0_1).bind fun t322 => (timesynclaw18_TopoWays.j0 k a1 a2 (t322 != 0) a0_0 l0_1)) = some r := by rw [if_neg (show ¬ (false = true) by decide)] at H; exact H
   clear H
   have H := H1
   clear H1
   replace H := Option.bind_eq_some_iff.mp H
   obtain ⟨t322, A100, H⟩ := H
   replace H : (timesynclaw18_TopoWays.j0 k a1 a2 (t322 != 0) a0_0 l0_1) = some r := H
   have A10 := Aside0.mk A100
   clear A100
   have H' := Aside0.mk H
   clear H
   have hcz11_0 : w5.cell? ⟨gb320, 0, none⟩ = some (.int .i64 a0_0) := (blk_cell BK320.out 0).trans rfl
   have hcz11_1 : w5.cell? ⟨gb320, 1, none⟩ = some (.slice A0_1 l0_1.length c0_1) := (blk_cell BK320.out 1).trans rfl
   have hfz11_0 := blk_frozen BK320.out 0
   have hfz11_1 := blk_frozen BK320.out 1
   go_wp2_with (first | ((with_reducible refine gate_callee (f := 15) rfl ?_); refine goesL_ (some 17) rfl rfl Try.func15 (by kernel_rfl) rfl #[.agg #[.int .i64 a0_0, .slice A0_1 l0_1.length c0_1]] rfl (by (try simp only [List.map_toArray, List.map_cons, List.map_nil]); first | done | rfl | (simp only [List.length_drop, List.length_take]; rfl)) ?_; (with_reducible refine (timesynclaw18_long.calls a0_0 _ _ l0_1 false _ ?side1 ?side2 A6.out).mono ?_); (case side1 => exact (Kd.C_below HR0_1.out HB.out)); (case side2 => exact HC0_1.out); rintro e w12 ⟨rfl, hb⟩; refine ⟨_, rfl, ?_⟩; have n0_ := Aside0.mk (blk_below (g := gb320) (o := .cells #[.int .i64 a0_0, .slice A0_1 l0_1.length c0_1] 24 (0, 0)) (by exact BK320.out) hb); have n1_ := Aside0.mk (below_step (by exact HB.out) hb); clear BK320; clear HB; have BK320 := n0_; have HB := n1_; clear n0_ n1_; have hcz13_0 : w12.cell? ⟨gb320, 0, none⟩ = some (.int .i64 a0_0) := (blk_cell BK320.out 0).trans rfl; have hcz13_1 : w12.cell? ⟨gb320, 1, none⟩ = some (.slice A0_1 l0_1.length c0_1) := (blk_cell BK320.out 1).trans rfl; have hfz13_0 := blk_frozen BK320.out 0; have hfz13_1 := blk_frozen BK320.out 1) | (go_at_call 17; (with_reducible refine (topo_Check.calls k a0_0 _ _ l0_1 t322 _ ?side1 ?side2 A10.out).mono ?_); (case side1 => exact (Kd.C_below HR0_1.out HB.out)); (case side2 => exact HC0_1.out); rintro e w14 ⟨rfl, hb⟩; have n0_ := Aside0.mk (blk_below (g := gb320) (o := .cells #[.int .i64 a0_0, .slice A0_1 l0_1.length c0_1] 24 (0, 0)) (by exact BK320.out) hb); have n1_ := Aside0.mk (below_step (by exact HB.out) hb); clear BK320; clear HB; have BK320 := n0_; have HB := n1_; clear n0_ n1_; (try clear hi)))
   go_meet
   case rel => exact ⟨_, ((t322 != 0)), (by first | rfl | (simp; done) | (simp [*]; done)), H', ⟨by first | omega | exact Nat.le_refl _⟩, ⟨by exact BK320.out⟩, ⟨by exact HB.out⟩⟩
 case rest =>
  clear HC4
















  obtain ⟨kq, x22_3, rfl, HA, HJ3, BK320, HB⟩ := hcut
  cases kq with
  | zero => exact absurd HA.out (by simp [timesynclaw18_TopoWays.j0])
  | succ kj3 =>
   have H := HA.out
   clear HA
   simp only [timesynclaw18_TopoWays.j0] at H
   by_cases c15 : x22_3 = true
   ·subst c15
    have H1 : ((timesynclaw18_awake.f kj3).bind fun t323 => (some t323)) = some r := by rw [if_pos rfl] at H; exact H
    clear H
    have H := H1
    clear H1
    replace H := Option.bind_eq_some_iff.mp H
    obtain ⟨t323, A160, H⟩ := H
    replace H : (some t323) = some r := H
    have A16 := Aside0.mk A160
    clear A160
    obtain rfl := Option.some.inj H
    go_wp2_with (first | ((with_reducible refine gate_callee (f := 16) rfl ?_); refine goesL_ (some 23) rfl rfl Try.func16 (by kernel_rfl) rfl #[] rfl (by (try simp only [List.map_toArray, List.map_cons, List.map_nil]); first | done | rfl | (simp only [List.length_drop, List.length_take]; rfl)) ?_; (with_reducible refine (timesynclaw18_awake.calls kj3  t323 _ A16.out).mono ?_); rintro e w17 ⟨rfl, hb⟩; refine ⟨_, rfl, ?_⟩; have n0_ := Aside0.mk (blk_below (g := gb320) (o := .cells #[.int .i64 a0_0, .slice A0_1 l0_1.length c0_1] 24 (0, 0)) (by (with_reducible repeat (first | refine blk_drewN ?_ _ | refine blk_drew ?_ | refine blk_alloc ?_ _)); exact BK320.out) hb); have n1_ := Aside0.mk (below_step (by repeat (first | (with_reducible first | exact HB.out | apply below_alloc | apply pw_below_drewN | apply below_drew1 | refine below_set ?_ GE320.out) | exact HB.out)) hb); clear BK320; clear HB; have BK320 := n0_; have HB := n1_; clear n0_ n1_; (try clear hi)))
    go_ret
    exact ⟨by first | rfl | (simp [errW_none, errW_some] <;> rfl) | (simp [*, errW_none, errW_some] <;> rfl), by exact HB.out⟩
   ·replace c15 := Bool.eq_false_iff.mpr c15
    subst c15
    have H1 : (if a0_0 = 0 then (none) else ((topo_Path.f kj3 a0_0 l0_1 (Int.tmod (wrap64 (a1)) a0_0) (Int.tmod (wrap64 (a2)) a0_0)).bind fun t324 => ((topo_Dist.f kj3 a0_0 l0_1 (Int.tmod (wrap64 (a2)) a0_0)).bind fun t327 => (if (t327.length : Int) = a0_0 then (if 0 ≤ (Int.tmod (wrap64 (a1)) a0_0) then (if (Int.tmod (wrap64 (a1)) a0_0) < (t327.length : Int) then (if (rd t327 (Int.tmod (wrap64 (a1)) a0_0)) < 0 then (if (t324.length : Int) = 0 then ((timesynclaw18_awake.f kj3).bind fun t331 => (some t331)) else (none)) else (if (t324.length : Int) = (wrap64 ((rd t327 (Int.tmod (wrap64 (a1)) a0_0)) + 1)) then (if 0 < (t324.length : Int) then (if (rd t324 0) = (Int.tmod (wrap64 (a1)) a0_0) then (if 0 ≤ (wrap64 ((t324.length : Int) - 1)) then (if (wrap64 ((t324.length : Int) - 1)) < (t324.length : Int) then (timesynclaw18_TopoWays.j1 kj3 t324 t327 ((rd t324 (wrap64 ((t324.length : Int) - 1))) != (Int.tmod (wrap64 (a2)) a0_0)) a0_0 l0_1) else (none)) else (none)) else (timesynclaw18_TopoWays.j1 kj3 t324 t327 true a0_0 l0_1)) else (none)) else (timesynclaw18_TopoWays.j1 kj3 t324 t327 true a0_0 l0_1))) else (none)) else (none)) else (none))))) = some r := by rw [if_neg (show ¬ (false = true) by decide)] at H; exact H
    clear H
    have H := H1
    clear H1
    by_cases c18 : a0_0 = 0
    ·rw [if_pos c18] at H
     exact absurd H (by simp)
    ·rw [if_neg c18] at H
     have c18b0 : (a0_0 == 0) = false := beq_eq_false_iff_ne.mpr c18
     have c18b1 : (a0_0 != 0) = true := bne_iff_ne.mpr c18
     replace H := Option.bind_eq_some_iff.mp H
     obtain ⟨t324, A190, H⟩ := H
     replace H : ((topo_Dist.f kj3 a0_0 l0_1 (Int.tmod (wrap64 (a2)) a0_0)).bind fun t327 => (if (t327.length : Int) = a0_0 then (if 0 ≤ (Int.tmod (wrap64 (a1)) a0_0) then (if (Int.tmod (wrap64 (a1)) a0_0) < (t327.length : Int) then (if (rd t327 (Int.tmod (wrap64 (a1)) a0_0)) < 0 then (if (t324.length : Int) = 0 then ((timesynclaw18_awake.f kj3).bind fun t331 => (some t331)) else (none)) else (if (t324.length : Int) = (wrap64 ((rd t327 (Int.tmod (wrap64 (a1)) a0_0)) + 1)) then (if 0 < (t324.length : Int) then (if (rd t324 0) = (Int.tmod (wrap64 (a1)) a0_0) then (if 0 ≤ (wrap64 ((t324.length : Int) - 1)) then (if (wrap64 ((t324.length : Int) - 1)) < (t324.length : Int) then (timesynclaw18_TopoWays.j1 kj3 t324 t327 ((rd t324 (wrap64 ((t324.length : Int) - 1))) != (Int.tmod (wrap64 (a2)) a0_0)) a0_0 l0_1) else (none)) else (none)) else (timesynclaw18_TopoWays.j1 kj3 t324 t327 true a0_0 l0_1)) else (none)) else (timesynclaw18_TopoWays.j1 kj3 t324 t327 true a0_0 l0_1))) else (none)) else (none)) else (none))) = some r := H
     have A19 := Aside0.mk A190
     clear A190
     replace H := Option.bind_eq_some_iff.mp H
     obtain ⟨t327, A200, H⟩ := H
     replace H : (if (t327.length : Int) = a0_0 then (if 0 ≤ (Int.tmod (wrap64 (a1)) a0_0) then (if (Int.tmod (wrap64 (a1)) a0_0) < (t327.length : Int) then (if (rd t327 (Int.tmod (wrap64 (a1)) a0_0)) < 0 then (if (t324.length : Int) = 0 then ((timesynclaw18_awake.f kj3).bind fun t331 => (some t331)) else (none)) else (if (t324.length : Int) = (wrap64 ((rd t327 (Int.tmod (wrap64 (a1)) a0_0)) + 1)) then (if 0 < (t324.length : Int) then (if (rd t324 0) = (Int.tmod (wrap64 (a1)) a0_0) then (if 0 ≤ (wrap64 ((t324.length : Int) - 1)) then (if (wrap64 ((t324.length : Int) - 1)) < (t324.length : Int) then (timesynclaw18_TopoWays.j1 kj3 t324 t327 ((rd t324 (wrap64 ((t324.length : Int) - 1))) != (Int.tmod (wrap64 (a2)) a0_0)) a0_0 l0_1) else (none)) else (none)) else (timesynclaw18_TopoWays.j1 kj3 t324 t327 true a0_0 l0_1)) else (none)) else (timesynclaw18_TopoWays.j1 kj3 t324 t327 true a0_0 l0_1))) else (none)) else (none)) else (none)) = some r := H
     have A20 := Aside0.mk A200
     clear A200
     by_cases c21 : (t327.length : Int) = a0_0
     ·rw [if_pos c21] at H
      have c21b0 : ((t327.length : Int) == a0_0) = true := beq_iff_eq.mpr c21
      have c21b1 : ((t327.length : Int) != a0_0) = false := bne_eq_false_iff_eq.mpr c21
      clear c21
      obtain ⟨ji22, hji22⟩ : ∃ j_ : Int, (Int.tmod (wrap64 (a1)) a0_0) = j_ := ⟨_, rfl⟩
      replace H : (if 0 ≤ (ji22) then (if (ji22) < (t327.length : Int) then (if (rd t327 (ji22)) < 0 then (if (t324.length : Int) = 0 then ((timesynclaw18_awake.f kj3).bind fun t331 => (some t331)) else (none)) else (if (t324.length : Int) = (wrap64 ((rd t327 (ji22)) + 1)) then (if 0 < (t324.length : Int) then (if (rd t324 0) = (ji22) then (if 0 ≤ (wrap64 ((t324.length : Int) - 1)) then (if (wrap64 ((t324.length : Int) - 1)) < (t324.length : Int) then (timesynclaw18_TopoWays.j1 kj3 t324 t327 ((rd t324 (wrap64 ((t324.length : Int) - 1))) != (Int.tmod (wrap64 (a2)) a0_0)) a0_0 l0_1) else (none)) else (none)) else (timesynclaw18_TopoWays.j1 kj3 t324 t327 true a0_0 l0_1)) else (none)) else (timesynclaw18_TopoWays.j1 kj3 t324 t327 true a0_0 l0_1))) else (none)) else (none)) = some r := by first | (rw [hji22] at H; exact H) | (simp only [hji22] at H ⊢; exact H)
      (try rw [hji22] at A19)
      (try rw [hji22] at A20)
      by_cases c23 : 0 ≤ (ji22)
      ·rw [if_pos c23] at H
       have c23b0 : decide (0 ≤ (ji22)) = true := decide_eq_true c23
       clear c23
       by_cases c24 : (ji22) < (t327.length : Int)
       ·rw [if_pos c24] at H
        have c24b0 : decide ((ji22) < (t327.length : Int)) = true := decide_eq_true c24
        clear c24
        by_cases c25 : (rd t327 (ji22)) < 0
        ·rw [if_pos c25] at H
         have c25b0 : decide ((rd t327 (ji22)) < 0) = true := decide_eq_true c25
         clear c25
         by_cases c26 : (t324.length : Int) = 0
         ·rw [if_pos c26] at H
          have c26b0 : ((t324.length : Int) == 0) = true := beq_iff_eq.mpr c26
          have c26b1 : ((t324.length : Int) != 0) = false := bne_eq_false_iff_eq.mpr c26
          clear c26
          replace H := Option.bind_eq_some_iff.mp H
          obtain ⟨t331, A270, H⟩ := H
          replace H : (some t331) = some r := H
          have A27 := Aside0.mk A270
          clear A270
          obtain rfl := Option.some.inj H
          try go_wp2
          have n0_ := Aside0.mk (blk_drew BK320.out)
          have n1_ := Aside0.mk (below_drew1 HB.out)
          clear BK320
          clear HB
          have BK320 := n0_
          have HB := n1_
          clear n0_ n1_
          refine start_ (n := 12) (S := fun w' => w'.cell? ⟨gb320, 0, none⟩ = some (.int .i64 a0_0) ∧ w'.cell? ⟨gb320, 1, none⟩ = some (.slice A0_1 l0_1.length c0_1)) (ds := []) #[false, false, false, false, false, false, false, false, false, false, false, false] (by kernel_rfl) rfl rfl ⟨(blk_cell BK320.out 0).trans rfl, (blk_cell BK320.out 1).trans rfl⟩ (fun hHeld => ?_); refine with_tabW timesynclaw18_TopoWays.tab3 timesynclaw18_TopoWays.bits3 (fun HT_ HW_ => ?_)
          generalize wc.drew = w28 at BK320 HB hHeld ⊢
          refine pure_ (i := 0) (N := some 24) (v := ?_) (a' := ?_) #[true, false, false, false, false, false, false, false, false, false, false, false] rfl rfl (any_of HT_.out (by kernel_rfl)) (fun _ _ _ h => h) (Or.inl ⟨by rfl, ?_⟩) ?_ ?_
          rotate_left
          ·intro w'
           go_simp
           with_reducible rfl
          rotate_left
          ·simp only [Act.put, List.setIfInBounds_toArray, List.set_cons_zero, List.set_cons_succ, i64_w, i32_w]
           rfl
          refine pure_ (i := 1) (N := some 25) (v := ?_) (a' := ?_) #[true, true, false, false, false, false, false, false, false, false, false, false] rfl rfl (any_of HT_.out (by kernel_rfl)) (fun _ _ _ h => h) (Or.inl ⟨by rfl, ?_⟩) ?_ ?_
          rotate_left
          ·intro w'
           go_simp
           with_reducible rfl
          rotate_left
          ·simp only [Act.put, List.setIfInBounds_toArray, List.set_cons_zero, List.set_cons_succ, i64_w, i32_w]
           rfl
          refine pure_ (i := 2) (N := some 26) (v := ?_) (a' := ?_) #[true, true, true, false, false, false, false, false, false, false, false, false] rfl rfl (any_of HT_.out (by kernel_rfl)) (fun _ _ _ h => h) (Or.inl ⟨by rfl, ?_⟩) ?_ ?_
          rotate_left
          ·intro w'
           go_simp
           with_reducible rfl
          rotate_left
          ·simp only [Act.put, List.setIfInBounds_toArray, List.set_cons_zero, List.set_cons_succ, i64_w, i32_w]
           rfl
          refine pure_ (i := 5) (N := some 29) (v := ?_) (a' := ?_) #[true, true, true, false, false, true, false, false, false, false, false, false] rfl rfl (any_of HT_.out (by kernel_rfl)) (fun _ _ _ h => h) (Or.inl ⟨by rfl, ?_⟩) ?_ ?_
          rotate_left
          ·intro w'
           go_simp
           with_reducible rfl
          rotate_left
          ·simp only [Act.put, List.setIfInBounds_toArray, List.set_cons_zero, List.set_cons_succ, i64_w, i32_w]
           rfl
          refine pure_ (i := 6) (N := some 30) (v := ?_) (a' := ?_) #[true, true, true, false, false, true, true, false, false, false, false, false] rfl rfl (any_of HT_.out (by kernel_rfl)) (fun _ _ _ h => h) (Or.inl ⟨by rfl, ?_⟩) ?_ ?_
          rotate_left
          ·intro w'
           go_simp
           with_reducible rfl
          rotate_left
          ·simp only [Act.put, List.setIfInBounds_toArray, List.set_cons_zero, List.set_cons_succ, i64_w, i32_w]
           rfl
          refine pure_ (i := 7) (N := some 31) (v := ?_) (a' := ?_) #[true, true, true, false, false, true, true, true, false, false, false, false] rfl rfl (any_of HT_.out (by kernel_rfl)) (fun _ _ _ h => h) (Or.inl ⟨by rfl, ?_⟩) ?_ ?_
          rotate_left
          ·intro w'
           go_simp
           with_reducible rfl
          rotate_left
          ·simp only [Act.put, List.setIfInBounds_toArray, List.set_cons_zero, List.set_cons_succ, i64_w, i32_w]
           rfl
          refine take_ (i := 3) (N := some 27) (v := ?_) (a' := ?_) #[true, true, true, true, false, true, true, true, false, false, false, false] rfl rfl (take_ofW HT_.out HW_.out (by kernel_rfl)) (fun _ _ _ h => h) (Or.inl ⟨by rfl, ?_⟩) hHeld ?_ ?_
          rotate_left
          ·rintro w' ⟨s0, s1⟩
           go_simp
           with_reducible rfl
          rotate_left
          ·simp only [Act.put, List.setIfInBounds_toArray, List.set_cons_zero, List.set_cons_succ, i64_w, i32_w]
           rfl
          refine pure_ (i := 4) (N := some 28) (v := ?_) (a' := ?_) #[true, true, true, true, true, true, true, true, false, false, false, false] rfl rfl (any_of HT_.out (by kernel_rfl)) (fun _ _ _ h => h) (Or.inl ⟨by rfl, ?_⟩) ?_ ?_
          rotate_left
          ·intro w'
           go_simp
           with_reducible rfl
          rotate_left
          ·simp only [Act.put, List.setIfInBounds_toArray, List.set_cons_zero, List.set_cons_succ, i64_w, i32_w]
           rfl
          refine pure_ (i := 10) (N := some 7) (v := ?_) (a' := ?_) #[true, true, true, true, true, true, true, true, false, false, true, false] rfl rfl (any_of HT_.out (by kernel_rfl)) (fun _ _ _ h => h) (Or.inl ⟨by rfl, ?_⟩) ?_ ?_
          rotate_left
          ·intro w'
           go_simp
           with_reducible rfl
          rotate_left
          ·simp only [Act.put, List.setIfInBounds_toArray, List.set_cons_zero, List.set_cons_succ, i64_w, i32_w]
           rfl
          refine take_ (i := 8) (N := some 32) (v := ?_) (a' := ?_) #[true, true, true, true, true, true, true, true, true, false, true, false] rfl rfl (take_ofW HT_.out HW_.out (by kernel_rfl)) (fun _ _ _ h => h) (Or.inl ⟨by rfl, ?_⟩) hHeld ?_ ?_
          rotate_left
          ·rintro w' ⟨s0, s1⟩
           go_simp
           with_reducible rfl
          rotate_left
          ·simp only [Act.put, List.setIfInBounds_toArray, List.set_cons_zero, List.set_cons_succ, i64_w, i32_w]
           rfl
          refine pure_ (i := 9) (N := some 33) (v := ?_) (a' := ?_) #[true, true, true, true, true, true, true, true, true, true, true, false] rfl rfl (any_of HT_.out (by kernel_rfl)) (fun _ _ _ h => h) (Or.inl ⟨by rfl, ?_⟩) ?_ ?_
          rotate_left
          ·intro w'
           go_simp
           with_reducible rfl
          rotate_left
          ·simp only [Act.put, List.setIfInBounds_toArray, List.set_cons_zero, List.set_cons_succ, i64_w, i32_w]
           rfl
          refine pure_ (i := 11) (N := some 8) (v := ?_) (a' := ?_) #[true, true, true, true, true, true, true, true, true, true, true, true] rfl rfl (any_of HT_.out (by kernel_rfl)) (fun _ _ _ h => h) (Or.inl ⟨by rfl, ?_⟩) ?_ ?_
          rotate_left
          ·intro w'
           go_simp
           with_reducible rfl
          rotate_left
          ·simp only [Act.put, List.setIfInBounds_toArray, List.set_cons_zero, List.set_cons_succ, i64_w, i32_w]
           rfl
          refine done_ (done_of HT_.out (by kernel_rfl)) ?_
          try go_wp2
          have n0_ := Aside0.mk (blk_drew BK320.out)
          have n1_ := Aside0.mk (below_drew1 HB.out)
          clear BK320
          clear HB
          have BK320 := n0_
          have HB := n1_
          clear n0_ n1_
          refine start_ (n := 9) (S := fun w' => w'.cell? ⟨gb320, 0, none⟩ = some (.int .i64 a0_0) ∧ w'.cell? ⟨gb320, 1, none⟩ = some (.slice A0_1 l0_1.length c0_1)) (ds := []) #[false, false, false, false, false, false, false, false, false] (by kernel_rfl) rfl rfl ⟨(blk_cell BK320.out 0).trans rfl, (blk_cell BK320.out 1).trans rfl⟩ (fun hHeld => ?_); refine with_tabW timesynclaw18_TopoWays.tab4 timesynclaw18_TopoWays.bits4 (fun HT_ HW_ => ?_)
          generalize w28.drew = w29 at BK320 HB hHeld ⊢
          refine pure_ (i := 1) (N := some 35) (v := ?_) (a' := ?_) #[false, true, false, false, false, false, false, false, false] rfl rfl (any_of HT_.out (by kernel_rfl)) (fun _ _ _ h => h) (Or.inl ⟨by rfl, ?_⟩) ?_ ?_
          rotate_left
          ·intro w'
           go_simp
           with_reducible rfl
          rotate_left
          ·simp only [Act.put, List.setIfInBounds_toArray, List.set_cons_zero, List.set_cons_succ, i64_w, i32_w]
           rfl
          refine pure_ (i := 2) (N := some 36) (v := ?_) (a' := ?_) #[false, true, true, false, false, false, false, false, false] rfl rfl (any_of HT_.out (by kernel_rfl)) (fun _ _ _ h => h) (Or.inl ⟨by rfl, ?_⟩) ?_ ?_
          rotate_left
          ·intro w'
           go_simp
           with_reducible rfl
          rotate_left
          ·simp only [Act.put, List.setIfInBounds_toArray, List.set_cons_zero, List.set_cons_succ, i64_w, i32_w]
           rfl
          refine pure_ (i := 5) (N := some 39) (v := ?_) (a' := ?_) #[false, true, true, false, false, true, false, false, false] rfl rfl (any_of HT_.out (by kernel_rfl)) (fun _ _ _ h => h) (Or.inl ⟨by rfl, ?_⟩) ?_ ?_
          rotate_left
          ·intro w'
           go_simp
           with_reducible rfl
          rotate_left
          ·simp only [Act.put, List.setIfInBounds_toArray, List.set_cons_zero, List.set_cons_succ, i64_w, i32_w]
           rfl
          refine take_ (i := 0) (N := some 34) (v := ?_) (a' := ?_) #[true, true, true, false, false, true, false, false, false] rfl rfl (take_ofW HT_.out HW_.out (by kernel_rfl)) (fun _ _ _ h => h) (Or.inl ⟨by rfl, ?_⟩) hHeld ?_ ?_
          rotate_left
          ·rintro w' ⟨s0, s1⟩
           go_simp
           with_reducible rfl
          rotate_left
          ·simp only [Act.put, List.setIfInBounds_toArray, List.set_cons_zero, List.set_cons_succ, i64_w, i32_w]
           rfl
          refine take_ (i := 4) (N := some 38) (v := ?_) (a' := ?_) #[true, true, true, false, true, true, false, false, false] rfl rfl (take_ofW HT_.out HW_.out (by kernel_rfl)) (fun _ _ _ h => h) (Or.inl ⟨by rfl, ?_⟩) hHeld ?_ ?_
          rotate_left
          ·rintro w' ⟨s0, s1⟩
           go_simp
           with_reducible rfl
          rotate_left
          ·simp only [Act.put, List.setIfInBounds_toArray, List.set_cons_zero, List.set_cons_succ, i64_w, i32_w]
           rfl
          refine one_ (i := 3) (N := some 37) #[true, true, true, true, true, true, false, false, false] rfl rfl (one_of HT_.out (by kernel_rfl)) (by decide) (fun K hK => ?_)
          refine goes_ Try.func24 (by kernel_rfl) rfl #[.agg #[.int .i64 a0_0, .slice A0_1 l0_1.length c0_1], .int .i64 ji22, .int .i64 (Int.tmod (wrap64 (a2)) a0_0)] (by rfl) rfl rfl (by (try simp only [List.map_toArray, List.map_cons, List.map_nil]); first | done | (simp only [hji22]; rfl) | rfl | (simp only [List.length_drop, List.length_take]; rfl)) ?_
          with_reducible refine (topo_Path.calls kj3 a0_0 _ _ l0_1 ji22 (Int.tmod (wrap64 (a2)) a0_0) t324 _ ?side1 ?side2 A19.out).mono ?_
          (case side1 => exact (Kd.C_below HR0_1.out HB.out))
          (case side2 => exact HC0_1.out)
          rintro e w30 ⟨v325, rfl, ho0, hb⟩
          refine ⟨_, rfl, ?_⟩
          have n0_ := Aside0.mk (Kd.R_lower ho0 (below_size (by exact HB.out)))
          have n1_ := Aside0.mk (blk_below (g := gb320) (o := .cells #[.int .i64 a0_0, .slice A0_1 l0_1.length c0_1] 24 (0, 0)) (by exact BK320.out) hb)
          have n2_ := Aside0.mk (below_step (by exact HB.out) hb)
          clear BK320
          clear HB
          have HO326 := n0_
          have BK320 := n1_
          have HB := n2_
          clear n0_ n1_ n2_





          refine hK.out _ _ ⟨(blk_cell BK320.out 0).trans rfl, (blk_cell BK320.out 1).trans rfl⟩ (fun hHeld => ?_)
          clear hK K
          refine norm_ (a' := ?_) ?_ ?_
          rotate_left
          ·show Act.put _ (some 37) _ = _
           simp only [Act.put, List.setIfInBounds_toArray, List.set_cons_zero, List.set_cons_succ, i64_w, i32_w]
           rfl
          refine one_ (i := 6) (N := some 40) #[true, true, true, true, true, true, true, false, false] rfl rfl (one_of HT_.out (by kernel_rfl)) (by decide) (fun K hK => ?_)
          refine goes_ Try.func20 (by kernel_rfl) rfl #[.agg #[.int .i64 a0_0, .slice A0_1 l0_1.length c0_1], .int .i64 (Int.tmod (wrap64 (a2)) a0_0)] (by rfl) rfl rfl (by (try simp only [List.map_toArray, List.map_cons, List.map_nil]); first | done | rfl | (simp only [List.length_drop, List.length_take]; rfl)) ?_
          with_reducible refine (topo_Dist.calls kj3 a0_0 _ _ l0_1 (Int.tmod (wrap64 (a2)) a0_0) t327 _ ?side1 ?side2 A20.out).mono ?_
          (case side1 => exact (Kd.C_below HR0_1.out HB.out))
          (case side2 => exact HC0_1.out)
          rintro e w31 ⟨v328, rfl, ho0, hb⟩
          refine ⟨_, rfl, ?_⟩
          have n0_ := Aside0.mk (Kd.R_elder' (by exact HO326.out) (Kd.R_base ho0) hb)
          have n1_ := Aside0.mk (Kd.R_lower (Kd.R_new' ho0 (Kd.R_lt (by exact HO326.out))) (below_size (by exact HB.out)))
          have n2_ := Aside0.mk (blk_below (g := gb320) (o := .cells #[.int .i64 a0_0, .slice A0_1 l0_1.length c0_1] 24 (0, 0)) (by exact BK320.out) hb)
          have n3_ := Aside0.mk (below_step (by exact HB.out) hb)
          clear HO326
          clear BK320
          clear HB
          have HO326 := n0_
          have HO329 := n1_
          have BK320 := n2_
          have HB := n3_
          clear n0_ n1_ n2_ n3_





          refine hK.out _ _ ⟨(blk_cell BK320.out 0).trans rfl, (blk_cell BK320.out 1).trans rfl⟩ (fun hHeld => ?_)
          clear hK K
          refine norm_ (a' := ?_) ?_ ?_
          rotate_left
          ·show Act.put _ (some 40) _ = _
           simp only [Act.put, List.setIfInBounds_toArray, List.set_cons_zero, List.set_cons_succ, i64_w, i32_w]
           rfl
          refine pure_ (i := 7) (N := some 9) (v := ?_) (a' := ?_) #[true, true, true, true, true, true, true, true, false] rfl rfl (any_of HT_.out (by kernel_rfl)) (fun _ _ _ h => h) (Or.inl ⟨by rfl, ?_⟩) ?_ ?_
          rotate_left
          ·intro w'
           go_simp
           with_reducible rfl
          rotate_left
          ·simp only [Act.put, List.setIfInBounds_toArray, List.set_cons_zero, List.set_cons_succ, i64_w, i32_w]
           rfl
          refine pure_ (i := 8) (N := some 10) (v := ?_) (a' := ?_) #[true, true, true, true, true, true, true, true, true] rfl rfl (any_of HT_.out (by kernel_rfl)) (fun _ _ _ h => h) (Or.inl ⟨by rfl, ?_⟩) ?_ ?_
          rotate_left
          ·intro w'
           go_simp
           with_reducible rfl
          rotate_left
          ·simp only [Act.put, List.setIfInBounds_toArray, List.set_cons_zero, List.set_cons_succ, i64_w, i32_w]
           rfl
          refine done_ (done_of HT_.out (by kernel_rfl)) ?_
          obtain ⟨Ao32, co32, eo32⟩ := Kd.R_slice HO329.out
          subst eo32
          have hcz33_0 : w31.cell? ⟨gb320, 0, none⟩ = some (.int .i64 a0_0) := (blk_cell BK320.out 0).trans rfl
          have hcz33_1 : w31.cell? ⟨gb320, 1, none⟩ = some (.slice A0_1 l0_1.length c0_1) := (blk_cell BK320.out 1).trans rfl
          have hfz33_0 := blk_frozen BK320.out 0
          have hfz33_1 := blk_frozen BK320.out 1
          have p330 : 0 ≤ ((ji22) : Int) := of_decide_eq_true (by first | (with_reducible assumption) | assumption)
          have q330 : (ji22) < (t327.length : Int) := of_decide_eq_true (by first | (with_reducible assumption) | assumption)
          obtain ⟨ad330, e330, hx330_0⟩ := Kd.at_int (Kd.R_reads' HO329.out).2.2 (ji22) p330 q330
          cases e330
          replace p330 := eq_true p330
          replace q330 := eq_true q330
          obtain ⟨Ao34, co34, eo34⟩ := Kd.R_slice HO326.out
          subst eo34
          try go_wp2_with (first | (go_at_call 16; (with_reducible refine (timesynclaw18_awake.calls kj3  t331 _ A27.out).mono ?_); rintro e w35 ⟨rfl, hb⟩; have n0_ := Aside0.mk (Kd.R_below (by (with_reducible repeat (first | apply Kd.R_alloc | apply Kd.R_drewN | apply Kd.R_drew)); exact HO326.out) hb); have n1_ := Aside0.mk (Kd.R_below (by (with_reducible repeat (first | apply Kd.R_alloc | apply Kd.R_drewN | apply Kd.R_drew)); exact HO329.out) hb); have n2_ := Aside0.mk (blk_below (g := gb320) (o := .cells #[.int .i64 a0_0, .slice A0_1 l0_1.length c0_1] 24 (0, 0)) (by (with_reducible repeat (first | refine blk_drewN ?_ _ | refine blk_drew ?_ | refine blk_alloc ?_ _)); exact BK320.out) hb); have n3_ := Aside0.mk (below_step (by repeat (first | (with_reducible first | exact HB.out | apply below_alloc | apply pw_below_drewN | apply below_drew1 | refine below_set ?_ GE320.out) | exact HB.out)) hb); clear HO326; clear HO329; clear BK320; clear HB; have HO326 := n0_; have HO329 := n1_; have BK320 := n2_; have HB := n3_; clear n0_ n1_ n2_ n3_; (try clear hi)))
          go_ret
          exact ⟨by first | rfl | (simp [errW_none, errW_some] <;> rfl) | (simp only [← hji22]; first | rfl | (simp [errW_none, errW_some] <;> rfl)) | (simp [*, errW_none, errW_some] <;> rfl), by exact HB.out⟩
         ·rw [if_neg c26] at H
          exact absurd H (by simp)
        ·rw [if_neg c25] at H
         have c25b0 : decide ((rd t327 (ji22)) < 0) = false := decide_eq_false c25
         clear c25
         have HC36 := Aside0.mk H
         clear H
         try go_wp2
         have n0_ := Aside0.mk (blk_drew BK320.out)
         have n1_ := Aside0.mk (below_drew1 HB.out)
         clear BK320
         clear HB
         have BK320 := n0_
         have HB := n1_
         clear n0_ n1_
         refine start_ (n := 12) (S := fun w' => w'.cell? ⟨gb320, 0, none⟩ = some (.int .i64 a0_0) ∧ w'.cell? ⟨gb320, 1, none⟩ = some (.slice A0_1 l0_1.length c0_1)) (ds := []) #[false, false, false, false, false, false, false, false, false, false, false, false] (by kernel_rfl) rfl rfl ⟨(blk_cell BK320.out 0).trans rfl, (blk_cell BK320.out 1).trans rfl⟩ (fun hHeld => ?_); refine with_tabW timesynclaw18_TopoWays.tab3 timesynclaw18_TopoWays.bits3 (fun HT_ HW_ => ?_)
         generalize wc.drew = w37 at BK320 HB hHeld ⊢
         refine pure_ (i := 0) (N := some 24) (v := ?_) (a' := ?_) #[true, false, false, false, false, false, false, false, false, false, false, false] rfl rfl (any_of HT_.out (by kernel_rfl)) (fun _ _ _ h => h) (Or.inl ⟨by rfl, ?_⟩) ?_ ?_
         rotate_left
         ·intro w'
          go_simp
          with_reducible rfl
         rotate_left
         ·simp only [Act.put, List.setIfInBounds_toArray, List.set_cons_zero, List.set_cons_succ, i64_w, i32_w]
          rfl
         refine pure_ (i := 1) (N := some 25) (v := ?_) (a' := ?_) #[true, true, false, false, false, false, false, false, false, false, false, false] rfl rfl (any_of HT_.out (by kernel_rfl)) (fun _ _ _ h => h) (Or.inl ⟨by rfl, ?_⟩) ?_ ?_
         rotate_left
         ·intro w'
          go_simp
          with_reducible rfl
         rotate_left
         ·simp only [Act.put, List.setIfInBounds_toArray, List.set_cons_zero, List.set_cons_succ, i64_w, i32_w]
          rfl
         refine pure_ (i := 2) (N := some 26) (v := ?_) (a' := ?_) #[true, true, true, false, false, false, false, false, false, false, false, false] rfl rfl (any_of HT_.out (by kernel_rfl)) (fun _ _ _ h => h) (Or.inl ⟨by rfl, ?_⟩) ?_ ?_
         rotate_left
         ·intro w'
          go_simp
          with_reducible rfl
         rotate_left
         ·simp only [Act.put, List.setIfInBounds_toArray, List.set_cons_zero, List.set_cons_succ, i64_w, i32_w]
          rfl
         refine pure_ (i := 5) (N := some 29) (v := ?_) (a' := ?_) #[true, true, true, false, false, true, false, false, false, false, false, false] rfl rfl (any_of HT_.out (by kernel_rfl)) (fun _ _ _ h => h) (Or.inl ⟨by rfl, ?_⟩) ?_ ?_
         rotate_left
         ·intro w'
          go_simp
          with_reducible rfl
         rotate_left
         ·simp only [Act.put, List.setIfInBounds_toArray, List.set_cons_zero, List.set_cons_succ, i64_w, i32_w]
          rfl
         refine pure_ (i := 6) (N := some 30) (v := ?_) (a' := ?_) #[true, true, true, false, false, true, true, false, false, false, false, false] rfl rfl (any_of HT_.out (by kernel_rfl)) (fun _ _ _ h => h) (Or.inl ⟨by rfl, ?_⟩) ?_ ?_
         rotate_left
         ·intro w'
          go_simp
          with_reducible rfl
         rotate_left
         ·simp only [Act.put, List.setIfInBounds_toArray, List.set_cons_zero, List.set_cons_succ, i64_w, i32_w]
          rfl
         refine pure_ (i := 7) (N := some 31) (v := ?_) (a' := ?_) #[true, true, true, false, false, true, true, true, false, false, false, false] rfl rfl (any_of HT_.out (by kernel_rfl)) (fun _ _ _ h => h) (Or.inl ⟨by rfl, ?_⟩) ?_ ?_
         rotate_left
         ·intro w'
          go_simp
          with_reducible rfl
         rotate_left
         ·simp only [Act.put, List.setIfInBounds_toArray, List.set_cons_zero, List.set_cons_succ, i64_w, i32_w]
          rfl
         refine take_ (i := 3) (N := some 27) (v := ?_) (a' := ?_) #[true, true, true, true, false, true, true, true, false, false, false, false] rfl rfl (take_ofW HT_.out HW_.out (by kernel_rfl)) (fun _ _ _ h => h) (Or.inl ⟨by rfl, ?_⟩) hHeld ?_ ?_
         rotate_left
         ·rintro w' ⟨s0, s1⟩
          go_simp
          with_reducible rfl
         rotate_left
         ·simp only [Act.put, List.setIfInBounds_toArray, List.set_cons_zero, List.set_cons_succ, i64_w, i32_w]
          rfl
         refine pure_ (i := 4) (N := some 28) (v := ?_) (a' := ?_) #[true, true, true, true, true, true, true, true, false, false, false, false] rfl rfl (any_of HT_.out (by kernel_rfl)) (fun _ _ _ h => h) (Or.inl ⟨by rfl, ?_⟩) ?_ ?_
         rotate_left
         ·intro w'
          go_simp
          with_reducible rfl
         rotate_left
         ·simp only [Act.put, List.setIfInBounds_toArray, List.set_cons_zero, List.set_cons_succ, i64_w, i32_w]
          rfl
         refine pure_ (i := 10) (N := some 7) (v := ?_) (a' := ?_) #[true, true, true, true, true, true, true, true, false, false, true, false] rfl rfl (any_of HT_.out (by kernel_rfl)) (fun _ _ _ h => h) (Or.inl ⟨by rfl, ?_⟩) ?_ ?_
         rotate_left
         ·intro w'
          go_simp
          with_reducible rfl
         rotate_left
         ·simp only [Act.put, List.setIfInBounds_toArray, List.set_cons_zero, List.set_cons_succ, i64_w, i32_w]
          rfl
         refine take_ (i := 8) (N := some 32) (v := ?_) (a' := ?_) #[true, true, true, true, true, true, true, true, true, false, true, false] rfl rfl (take_ofW HT_.out HW_.out (by kernel_rfl)) (fun _ _ _ h => h) (Or.inl ⟨by rfl, ?_⟩) hHeld ?_ ?_
         rotate_left
         ·rintro w' ⟨s0, s1⟩
          go_simp
          with_reducible rfl
         rotate_left
         ·simp only [Act.put, List.setIfInBounds_toArray, List.set_cons_zero, List.set_cons_succ, i64_w, i32_w]
          rfl
         refine pure_ (i := 9) (N := some 33) (v := ?_) (a' := ?_) #[true, true, true, true, true, true, true, true, true, true, true, false] rfl rfl (any_of HT_.out (by kernel_rfl)) (fun _ _ _ h => h) (Or.inl ⟨by rfl, ?_⟩) ?_ ?_
         rotate_left
         ·intro w'
          go_simp
          with_reducible rfl
         rotate_left
         ·simp only [Act.put, List.setIfInBounds_toArray, List.set_cons_zero, List.set_cons_succ, i64_w, i32_w]
          rfl
         refine pure_ (i := 11) (N := some 8) (v := ?_) (a' := ?_) #[true, true, true, true, true, true, true, true, true, true, true, true] rfl rfl (any_of HT_.out (by kernel_rfl)) (fun _ _ _ h => h) (Or.inl ⟨by rfl, ?_⟩) ?_ ?_
         rotate_left
         ·intro w'
          go_simp
          with_reducible rfl
         rotate_left
         ·simp only [Act.put, List.setIfInBounds_toArray, List.set_cons_zero, List.set_cons_succ, i64_w, i32_w]
          rfl
         refine done_ (done_of HT_.out (by kernel_rfl)) ?_
         try go_wp2
         have n0_ := Aside0.mk (blk_drew BK320.out)
         have n1_ := Aside0.mk (below_drew1 HB.out)
         clear BK320
         clear HB
         have BK320 := n0_
         have HB := n1_
         clear n0_ n1_
         refine start_ (n := 9) (S := fun w' => w'.cell? ⟨gb320, 0, none⟩ = some (.int .i64 a0_0) ∧ w'.cell? ⟨gb320, 1, none⟩ = some (.slice A0_1 l0_1.length c0_1)) (ds := []) #[false, false, false, false, false, false, false, false, false] (by kernel_rfl) rfl rfl ⟨(blk_cell BK320.out 0).trans rfl, (blk_cell BK320.out 1).trans rfl⟩ (fun hHeld => ?_); refine with_tabW timesynclaw18_TopoWays.tab4 timesynclaw18_TopoWays.bits4 (fun HT_ HW_ => ?_)
         generalize w37.drew = w38 at BK320 HB hHeld ⊢
         refine pure_ (i := 1) (N := some 35) (v := ?_) (a' := ?_) #[false, true, false, false, false, false, false, false, false] rfl rfl (any_of HT_.out (by kernel_rfl)) (fun _ _ _ h => h) (Or.inl ⟨by rfl, ?_⟩) ?_ ?_
         rotate_left
         ·intro w'
          go_simp
          with_reducible rfl
         rotate_left
         ·simp only [Act.put, List.setIfInBounds_toArray, List.set_cons_zero, List.set_cons_succ, i64_w, i32_w]
          rfl
         refine pure_ (i := 2) (N := some 36) (v := ?_) (a' := ?_) #[false, true, true, false, false, false, false, false, false] rfl rfl (any_of HT_.out (by kernel_rfl)) (fun _ _ _ h => h) (Or.inl ⟨by rfl, ?_⟩) ?_ ?_
         rotate_left
         ·intro w'
          go_simp
          with_reducible rfl
         rotate_left
         ·simp only [Act.put, List.setIfInBounds_toArray, List.set_cons_zero, List.set_cons_succ, i64_w, i32_w]
          rfl
         refine pure_ (i := 5) (N := some 39) (v := ?_) (a' := ?_) #[false, true, true, false, false, true, false, false, false] rfl rfl (any_of HT_.out (by kernel_rfl)) (fun _ _ _ h => h) (Or.inl ⟨by rfl, ?_⟩) ?_ ?_
         rotate_left
         ·intro w'
          go_simp
          with_reducible rfl
         rotate_left
         ·simp only [Act.put, List.setIfInBounds_toArray, List.set_cons_zero, List.set_cons_succ, i64_w, i32_w]
          rfl
         refine take_ (i := 0) (N := some 34) (v := ?_) (a' := ?_) #[true, true, true, false, false, true, false, false, false] rfl rfl (take_ofW HT_.out HW_.out (by kernel_rfl)) (fun _ _ _ h => h) (Or.inl ⟨by rfl, ?_⟩) hHeld ?_ ?_
         rotate_left
         ·rintro w' ⟨s0, s1⟩
          go_simp
          with_reducible rfl
         rotate_left
         ·simp only [Act.put, List.setIfInBounds_toArray, List.set_cons_zero, List.set_cons_succ, i64_w, i32_w]
          rfl
         refine take_ (i := 4) (N := some 38) (v := ?_) (a' := ?_) #[true, true, true, false, true, true, false, false, false] rfl rfl (take_ofW HT_.out HW_.out (by kernel_rfl)) (fun _ _ _ h => h) (Or.inl ⟨by rfl, ?_⟩) hHeld ?_ ?_
         rotate_left
         ·rintro w' ⟨s0, s1⟩
          go_simp
          with_reducible rfl
         rotate_left
         ·simp only [Act.put, List.setIfInBounds_toArray, List.set_cons_zero, List.set_cons_succ, i64_w, i32_w]
          rfl
         refine one_ (i := 3) (N := some 37) #[true, true, true, true, true, true, false, false, false] rfl rfl (one_of HT_.out (by kernel_rfl)) (by decide) (fun K hK => ?_)
         refine goes_ Try.func24 (by kernel_rfl) rfl #[.agg #[.int .i64 a0_0, .slice A0_1 l0_1.length c0_1], .int .i64 ji22, .int .i64 (Int.tmod (wrap64 (a2)) a0_0)] (by rfl) rfl rfl (by (try simp only [List.map_toArray, List.map_cons, List.map_nil]); first | done | (simp only [hji22]; rfl) | rfl | (simp only [List.length_drop, List.length_take]; rfl)) ?_
         with_reducible refine (topo_Path.calls kj3 a0_0 _ _ l0_1 ji22 (Int.tmod (wrap64 (a2)) a0_0) t324 _ ?side1 ?side2 A19.out).mono ?_
         (case side1 => exact (Kd.C_below HR0_1.out HB.out))
         (case side2 => exact HC0_1.out)
         rintro e w39 ⟨v325, rfl, ho0, hb⟩
         refine ⟨_, rfl, ?_⟩
         have n0_ := Aside0.mk (Kd.R_lower ho0 (below_size (by exact HB.out)))
         have n1_ := Aside0.mk (blk_below (g := gb320) (o := .cells #[.int .i64 a0_0, .slice A0_1 l0_1.length c0_1] 24 (0, 0)) (by exact BK320.out) hb)
         have n2_ := Aside0.mk (below_step (by exact HB.out) hb)
         clear BK320
         clear HB
         have HO326 := n0_
         have BK320 := n1_
         have HB := n2_
         clear n0_ n1_ n2_





         refine hK.out _ _ ⟨(blk_cell BK320.out 0).trans rfl, (blk_cell BK320.out 1).trans rfl⟩ (fun hHeld => ?_)
         clear hK K
         refine norm_ (a' := ?_) ?_ ?_
         rotate_left
         ·show Act.put _ (some 37) _ = _
          simp only [Act.put, List.setIfInBounds_toArray, List.set_cons_zero, List.set_cons_succ, i64_w, i32_w]
          rfl
         refine one_ (i := 6) (N := some 40) #[true, true, true, true, true, true, true, false, false] rfl rfl (one_of HT_.out (by kernel_rfl)) (by decide) (fun K hK => ?_)
         refine goes_ Try.func20 (by kernel_rfl) rfl #[.agg #[.int .i64 a0_0, .slice A0_1 l0_1.length c0_1], .int .i64 (Int.tmod (wrap64 (a2)) a0_0)] (by rfl) rfl rfl (by (try simp only [List.map_toArray, List.map_cons, List.map_nil]); first | done | rfl | (simp only [List.length_drop, List.length_take]; rfl)) ?_
         with_reducible refine (topo_Dist.calls kj3 a0_0 _ _ l0_1 (Int.tmod (wrap64 (a2)) a0_0) t327 _ ?side1 ?side2 A20.out).mono ?_
         (case side1 => exact (Kd.C_below HR0_1.out HB.out))
         (case side2 => exact HC0_1.out)
         rintro e w40 ⟨v328, rfl, ho0, hb⟩
         refine ⟨_, rfl, ?_⟩
         have n0_ := Aside0.mk (Kd.R_elder' (by exact HO326.out) (Kd.R_base ho0) hb)
         have n1_ := Aside0.mk (Kd.R_lower (Kd.R_new' ho0 (Kd.R_lt (by exact HO326.out))) (below_size (by exact HB.out)))
         have n2_ := Aside0.mk (blk_below (g := gb320) (o := .cells #[.int .i64 a0_0, .slice A0_1 l0_1.length c0_1] 24 (0, 0)) (by exact BK320.out) hb)
         have n3_ := Aside0.mk (below_step (by exact HB.out) hb)
         clear HO326
         clear BK320
         clear HB
         have HO326 := n0_
         have HO329 := n1_
         have BK320 := n2_
         have HB := n3_
         clear n0_ n1_ n2_ n3_





         refine hK.out _ _ ⟨(blk_cell BK320.out 0).trans rfl, (blk_cell BK320.out 1).trans rfl⟩ (fun hHeld => ?_)
         clear hK K
         refine norm_ (a' := ?_) ?_ ?_
         rotate_left
         ·show Act.put _ (some 40) _ = _
          simp only [Act.put, List.setIfInBounds_toArray, List.set_cons_zero, List.set_cons_succ, i64_w, i32_w]
          rfl
         refine pure_ (i := 7) (N := some 9) (v := ?_) (a' := ?_) #[true, true, true, true, true, true, true, true, false] rfl rfl (any_of HT_.out (by kernel_rfl)) (fun _ _ _ h => h) (Or.inl ⟨by rfl, ?_⟩) ?_ ?_
         rotate_left
         ·intro w'
          go_simp
          with_reducible rfl
         rotate_left
         ·simp only [Act.put, List.setIfInBounds_toArray, List.set_cons_zero, List.set_cons_succ, i64_w, i32_w]
          rfl
         refine pure_ (i := 8) (N := some 10) (v := ?_) (a' := ?_) #[true, true, true, true, true, true, true, true, true] rfl rfl (any_of HT_.out (by kernel_rfl)) (fun _ _ _ h => h) (Or.inl ⟨by rfl, ?_⟩) ?_ ?_
         rotate_left
         ·intro w'
          go_simp
          with_reducible rfl
         rotate_left
         ·simp only [Act.put, List.setIfInBounds_toArray, List.set_cons_zero, List.set_cons_succ, i64_w, i32_w]
          rfl
         refine done_ (done_of HT_.out (by kernel_rfl)) ?_
         obtain ⟨Ao41, co41, eo41⟩ := Kd.R_slice HO329.out
         subst eo41
         have hcz42_0 : w40.cell? ⟨gb320, 0, none⟩ = some (.int .i64 a0_0) := (blk_cell BK320.out 0).trans rfl
         have hcz42_1 : w40.cell? ⟨gb320, 1, none⟩ = some (.slice A0_1 l0_1.length c0_1) := (blk_cell BK320.out 1).trans rfl
         have hfz42_0 := blk_frozen BK320.out 0
         have hfz42_1 := blk_frozen BK320.out 1
         have p330 : 0 ≤ ((ji22) : Int) := of_decide_eq_true (by first | (with_reducible assumption) | assumption)
         have q330 : (ji22) < (t327.length : Int) := of_decide_eq_true (by first | (with_reducible assumption) | assumption)
         obtain ⟨ad330, e330, hx330_0⟩ := Kd.at_int (Kd.R_reads' HO329.out).2.2 (ji22) p330 q330
         cases e330
         replace p330 := eq_true p330
         replace q330 := eq_true q330
         go_upto_region 9 with (fail)
         go_cut [81] (fun v81 wc => ∃ (kq : Nat) (x81_35 : Bool), v81 = .bool x81_35 ∧ Aside0 (timesynclaw18_TopoWays.j1 kq t324 t327 x81_35 a0_0 l0_1 = some r) ∧ Aside0 (kq ≤ kj3) ∧ Aside0 (Kd.R (Kd.int .i64) 3 wc w.heap.size (fun k_ => some k_ ≠ ((.slice (some ad330) t327.length co41) : Value).ownBlock) v325 t324) ∧ Aside0 (Kd.R (Kd.int .i64) 3 wc w.heap.size (fun k_ => some k_ ≠ (v325 : Value).ownBlock) (.slice (some ad330) t327.length co41) t327) ∧ Aside0 (wc.heap[gb320]? = some (.cells #[.int .i64 a0_0, (.slice A0_1 l0_1.length c0_1)] 24 (0, 0))) ∧ Aside0 (Below w.heap.size w wc))
         case first =>
          have H := HC36.out
          clear HC36
          by_cases c43 : (t324.length : Int) = (wrap64 ((rd t327 (ji22)) + 1))
          ·rw [if_pos c43] at H
           have c43b0 : ((t324.length : Int) == (wrap64 ((rd t327 (ji22)) + 1))) = true := beq_iff_eq.mpr c43
           have c43b1 : ((t324.length : Int) != (wrap64 ((rd t327 (ji22)) + 1))) = false := bne_eq_false_iff_eq.mpr c43
           clear c43
           (first | rw [c43b0] | (simp only [i64_w, i32_w]; rw [c43b0]) | skip)
           by_cases c44 : 0 < (t324.length : Int)
           ·rw [if_pos c44] at H
            have c44b0 : decide (0 < (t324.length : Int)) = true := decide_eq_true c44
            have c44b1 : decide (0 < t324.length) = true := decide_eq_true (by omega)
            clear c44
            by_cases c45 : (rd t324 0) = (ji22)
            ·rw [if_pos c45] at H
             have c45b0 : ((rd t324 0) == (ji22)) = true := beq_iff_eq.mpr c45
             have c45b1 : ((rd t324 0) != (ji22)) = false := bne_eq_false_iff_eq.mpr c45
             clear c45
             obtain ⟨ji46, hji46⟩ : ∃ j_ : Int, (wrap64 ((t324.length : Int) - 1)) = j_ := ⟨_, rfl⟩
             replace H : (if 0 ≤ (ji46) then (if (ji46) < (t324.length : Int) then (timesynclaw18_TopoWays.j1 kj3 t324 t327 ((rd t324 (ji46)) != (Int.tmod (wrap64 (a2)) a0_0)) a0_0 l0_1) else (none)) else (none)) = some r := by first | (rw [hji46] at H; exact H) | (simp only [hji46] at H ⊢; exact H)
             have hji46w : (IntKind.i64.wrap ((t324.length : Int) - 1)) = ji46 := (i64_w _).trans hji46
             by_cases c47 : 0 ≤ (ji46)
             ·rw [if_pos c47] at H
              have c47b0 : decide (0 ≤ (ji46)) = true := decide_eq_true c47
              clear c47
              by_cases c48 : (ji46) < (t324.length : Int)
              ·rw [if_pos c48] at H
               have c48b0 : decide ((ji46) < (t324.length : Int)) = true := decide_eq_true c48
               clear c48
               have H' := Aside0.mk H
               clear H
               obtain ⟨Ao49, co49, eo49⟩ := Kd.R_slice HO326.out
               subst eo49
               have p332 : 0 ≤ ((ji22) : Int) := of_decide_eq_true (by first | (with_reducible assumption) | assumption)
               have q332 : (ji22) < (t327.length : Int) := of_decide_eq_true (by first | (with_reducible assumption) | assumption)
               obtain ⟨ad332, e332, hx332_0⟩ := Kd.at_int (Kd.R_reads' HO329.out).2.2 (ji22) p332 q332
               obtain rfl : ad330 = ad332 := (by injection e332)
               replace p332 := eq_true p332
               replace q332 := eq_true q332
               have p333 : 0 ≤ (0 : Int) := (by omega)
               have q333 : 0 < (t324.length : Int) := of_decide_eq_true (by first | (with_reducible assumption) | assumption)
               obtain ⟨ad333, e333, hx333_0⟩ := Kd.at_int (Kd.R_reads' HO326.out).2.2 0 p333 q333
               cases e333
               have qi333 : (0 < t324.length) = True := eq_true (by omega)
               (try rw [show ((0 : Int)).toNat = 0 from rfl] at hx333_0)
               (try rw [Addr.add_zero'] at hx333_0)
               replace p333 := eq_true p333
               replace q333 := eq_true q333
               have p334 : 0 ≤ ((ji46) : Int) := of_decide_eq_true (by first | (with_reducible assumption) | assumption)
               have q334 : (ji46) < (t324.length : Int) := of_decide_eq_true (by first | (with_reducible assumption) | assumption)
               obtain ⟨ad334, e334, hx334_0⟩ := Kd.at_int (Kd.R_reads' HO326.out).2.2 (ji46) p334 q334
               obtain rfl : ad333 = ad334 := (by injection e334)
               replace p334 := eq_true p334
               replace q334 := eq_true q334
               go_wp2
               go_meet
               case rel => exact ⟨_, (((rd t324 (ji46)) != (Int.tmod (wrap64 (a2)) a0_0))), (by first | rfl | (simp; done) | (simp only [← hji46] <;> (first | rfl | simp)) | (simp [*]; done)), H', ⟨by have := HJ3.out; first | omega | exact Nat.le_refl _⟩, ⟨by exact Kd.R_mono HO326.out (fun _ hk => hk.2)⟩, ⟨by exact Kd.R_mono HO329.out (fun _ hk => hk.2)⟩, ⟨by exact BK320.out⟩, ⟨by exact HB.out⟩⟩
              ·rw [if_neg c48] at H
               exact absurd H (by simp)
             ·rw [if_neg c47] at H
              exact absurd H (by simp)
            ·rw [if_neg c45] at H
             have c45b0 : ((rd t324 0) == (ji22)) = false := beq_eq_false_iff_ne.mpr c45
             have c45b1 : ((rd t324 0) != (ji22)) = true := bne_iff_ne.mpr c45
             have H' := Aside0.mk H
             clear H
             obtain ⟨Ao50, co50, eo50⟩ := Kd.R_slice HO326.out
             subst eo50
             have p332 : 0 ≤ ((ji22) : Int) := of_decide_eq_true (by first | (with_reducible assumption) | assumption)
             have q332 : (ji22) < (t327.length : Int) := of_decide_eq_true (by first | (with_reducible assumption) | assumption)
             obtain ⟨ad332, e332, hx332_0⟩ := Kd.at_int (Kd.R_reads' HO329.out).2.2 (ji22) p332 q332
             obtain rfl : ad330 = ad332 := (by injection e332)
             replace p332 := eq_true p332
             replace q332 := eq_true q332
             have p333 : 0 ≤ (0 : Int) := (by omega)
             have q333 : 0 < (t324.length : Int) := of_decide_eq_true (by first | (with_reducible assumption) | assumption)
             obtain ⟨ad333, e333, hx333_0⟩ := Kd.at_int (Kd.R_reads' HO326.out).2.2 0 p333 q333
             cases e333
             have qi333 : (0 < t324.length) = True := eq_true (by omega)
             (try rw [show ((0 : Int)).toNat = 0 from rfl] at hx333_0)
             (try rw [Addr.add_zero'] at hx333_0)
             replace p333 := eq_true p333
             replace q333 := eq_true q333
             go_wp2
             go_meet
             case rel => exact ⟨_, (true), (by first | rfl | (simp; done) | (simp [*]; done)), H', ⟨by have := HJ3.out; first | omega | exact Nat.le_refl _⟩, ⟨by exact Kd.R_mono HO326.out (fun _ hk => hk.2)⟩, ⟨by exact Kd.R_mono HO329.out (fun _ hk => hk.2)⟩, ⟨by exact BK320.out⟩, ⟨by exact HB.out⟩⟩
           ·rw [if_neg c44] at H
            exact absurd H (by simp)
          ·rw [if_neg c43] at H
           have c43b0 : ((t324.length : Int) == (wrap64 ((rd t327 (ji22)) + 1))) = false := beq_eq_false_iff_ne.mpr c43
           have c43b1 : ((t324.length : Int) != (wrap64 ((rd t327 (ji22)) + 1))) = true := bne_iff_ne.mpr c43
           (first | rw [c43b0] | (simp only [i64_w, i32_w]; rw [c43b0]) | skip)
           have H' := Aside0.mk H
           clear H
           obtain ⟨Ao51, co51, eo51⟩ := Kd.R_slice HO326.out
           subst eo51
           have p332 : 0 ≤ ((ji22) : Int) := of_decide_eq_true (by first | (with_reducible assumption) | assumption)
           have q332 : (ji22) < (t327.length : Int) := of_decide_eq_true (by first | (with_reducible assumption) | assumption)
           obtain ⟨ad332, e332, hx332_0⟩ := Kd.at_int (Kd.R_reads' HO329.out).2.2 (ji22) p332 q332
           obtain rfl : ad330 = ad332 := (by injection e332)
           replace p332 := eq_true p332
           replace q332 := eq_true q332
           go_wp2
           go_meet
           case rel => exact ⟨_, (true), (by first | rfl | (simp; done) | (simp [*]; done)), H', ⟨by have := HJ3.out; first | omega | exact Nat.le_refl _⟩, ⟨by exact Kd.R_mono HO326.out (fun _ hk => hk.2)⟩, ⟨by exact Kd.R_mono HO329.out (fun _ hk => hk.2)⟩, ⟨by exact BK320.out⟩, ⟨by exact HB.out⟩⟩
         case rest =>
          clear HC36


















































          obtain ⟨kq, x81_35, rfl, HA, HJ35, HO_9, HO_10, BK320, HB⟩ := hcut
          cases kq with
          | zero => exact absurd HA.out (by simp [timesynclaw18_TopoWays.j1])
          | succ kj35 =>
           have H := HA.out
           clear HA
           simp only [timesynclaw18_TopoWays.j1] at H
           by_cases c52 : x81_35 = true
           ·subst c52
            have H1 : (none) = some r := by rw [if_pos rfl] at H; exact H
            clear H
            have H := H1
            clear H1
            exact absurd H (by simp)
           ·replace c52 := Bool.eq_false_iff.mpr c52
            subst c52
            have H1 : (if 0 ≤ (wrap64 ((t324.length : Int) - 1)) then (if (wrap64 ((t324.length : Int) - 1)) ≤ (t324.length : Int) then ((some (t324.take ((wrap64 ((t324.length : Int) - 1)) : Int).toNat : List Int)).bind fun y335 => (timesynclaw18_TopoWays.l0 kj35 t324 t327 y335 (y335.length : Int) 0 a0_0 l0_1)) else (none)) else (none)) = some r := by rw [if_neg (show ¬ (false = true) by decide)] at H; exact H
            clear H
            have H := H1
            clear H1
            obtain ⟨ji53, hji53⟩ : ∃ j_ : Int, (wrap64 ((t324.length : Int) - 1)) = j_ := ⟨_, rfl⟩
            replace H : (if 0 ≤ (ji53) then (if (ji53) ≤ (t324.length : Int) then ((some (t324.take ((ji53) : Int).toNat : List Int)).bind fun y335 => (timesynclaw18_TopoWays.l0 kj35 t324 t327 y335 (y335.length : Int) 0 a0_0 l0_1)) else (none)) else (none)) = some r := by first | (rw [hji53] at H; exact H) | (simp only [hji53] at H ⊢; exact H)
            have hji53w : (IntKind.i64.wrap ((t324.length : Int) - 1)) = ji53 := (i64_w _).trans hji53
            by_cases c54 : 0 ≤ (ji53)
            ·rw [if_pos c54] at H
             have c54b0 := eq_true c54
             have c54b1 : decide (0 ≤ (ji53)) = true := decide_eq_true c54
             clear c54
             by_cases c55 : (ji53) ≤ (t324.length : Int)
             ·rw [if_pos c55] at H
              have c55b0 := eq_true c55
              have c55b1 : decide ((ji53) ≤ (t324.length : Int)) = true := decide_eq_true c55
              clear c55
              obtain ⟨y335, hy335⟩ : ∃ y_ : List Int, y_ = (t324.take ((ji53) : Int).toNat) := ⟨_, rfl⟩
              replace H : (timesynclaw18_TopoWays.l0 kj35 t324 t327 y335 (y335.length : Int) 0 a0_0 l0_1) = some r := by first | (rw [hy335]; with_reducible exact H) | (have H2_ := (Option.bind_some _ _).symm.trans H; rw [hy335]; with_reducible exact H2_) | (have H2_ := (Option.bind_some _ _).symm.trans H; with_reducible exact H2_) | with_reducible exact H | (rw [hy335]; exact H) | exact H
              have Ny335 := Aside0.mk hy335
              clear hy335
              have H' := Aside0.mk H
              clear H
              obtain ⟨Ao56, co56, eo56⟩ := Kd.R_slice HO_9.out
              subst eo56
              have q57 : ((ji53) : Int) ≤ ((t324.length : Int) : Int) := of_decide_eq_true (by first | (with_reducible assumption) | assumption)
              obtain ⟨i057, hi057, _, hsz57, _⟩ := info_parts info3
              have hroom57 : t324.length ≤ co56 := (Kd.R_reads' HO_9.out).2.1
              have hC57 : Kd.C (Kd.int .i64) _ Ao56 t324.length t324 := (Kd.R_reads' HO_9.out).2.2
              have hcut57 := cut_to (P := Try.prog) 30 3 .i64 Try.underlying30 hi057 Ao56 t324.length co56 (ji53) (of_decide_eq_true (by first | (with_reducible assumption) | assumption)) q57 hroom57
              have hr57 := Kd.C_take (m := ((ji53) : Int).toNat) hC57 (by omega)
              have hy57 : y335.length = ((ji53) : Int).toNat := (by rw [Ny335.out, List.length_take]; omega)
              rw [← Ny335.out] at hr57
              rw [← hy57] at hcut57
              have HR338 := Aside0.mk hr57
              have HC338 := Aside0.mk (show y335.length ≤ co56 from by omega)
              clear hr57 hC57 hroom57 hi057 hsz57
              have KY57 := Aside0.mk hy57
              clear hy57
              have KL57 := Aside0.mk (show ((ji53) : Int).toNat ≤ t324.length from by omega)
              replace q57 := eq_true q57
              go_wp2
              go_loopg [88] kj35 (fun kq v88 w' => ∃ (x88_3 : Int), v88 = .int .i64 x88_3 ∧ Aside0 (timesynclaw18_TopoWays.l0 kq t324 t327 y335 (y335.length : Int) x88_3 a0_0 l0_1 = some r) ∧ Aside0 (kq ≤ kj35) ∧ Aside0 (Kd.R (Kd.int .i64) 3 w' w.heap.size (fun k_ => some k_ ≠ ((.slice (some ad330) t327.length co41) : Value).ownBlock) (.slice Ao56 t324.length co56) t324) ∧ Aside0 (Kd.R (Kd.int .i64) 3 w' w.heap.size (fun k_ => some k_ ≠ ((.slice Ao56 t324.length co56) : Value).ownBlock) (.slice (some ad330) t327.length co41) t327) ∧ Aside0 (w'.heap[gb320]? = some (.cells #[.int .i64 a0_0, (.slice A0_1 l0_1.length c0_1)] 24 (0, 0))) ∧ Aside0 (Below w.heap.size w w'))
              case atStart => exact ⟨(0), (by first | rfl | (simp; done) | (simp [*]; done)), H', ⟨Nat.le_refl _⟩, ⟨by exact HO_9.out⟩, ⟨by exact HO_10.out⟩, ⟨by exact BK320.out⟩, ⟨by exact HB.out⟩⟩
              case round =>
               clear H'



































































               obtain ⟨x88_3, rfl, HA, HK3, HO_9, HO_10, BK320, HB⟩ := hrel
               cases gk with
               | zero => exact absurd HA.out (by simp [timesynclaw18_TopoWays.l0])
               | succ k3 =>
                have H := HA.out
                clear HA
                simp only [timesynclaw18_TopoWays.l0] at H
                by_cases c58 : x88_3 < (y335.length : Int)
                ·rw [if_pos c58] at H
                 have c58b0 : decide (x88_3 < (y335.length : Int)) = true := decide_eq_true c58
                 clear c58
                 by_cases c59 : 0 ≤ x88_3
                 ·rw [if_pos c59] at H
                  have c59b0 : decide (0 ≤ x88_3) = true := decide_eq_true c59
                  clear c59
                  by_cases c60 : x88_3 < (y335.length : Int)
                  ·rw [if_pos c60] at H
                   have c60b0 : decide (x88_3 < (y335.length : Int)) = true := decide_eq_true c60
                   clear c60
                   have H' := Aside0.mk H
                   clear H
                   have p340 : 0 ≤ (x88_3 : Int) := of_decide_eq_true (by first | (with_reducible assumption) | assumption)
                   have q340 : x88_3 < (y335.length : Int) := of_decide_eq_true (by first | (with_reducible assumption) | assumption)
                   have hrt_ : Kd.C (Kd.int .i64) wr Ao56 y335.length y335 := by
                    have h1_ := Kd.C_take (m := y335.length) (Kd.R_reads' HO_9.out).2.2 (by have := KY57.out; have := KL57.out; omega)
                    rwa [show t324.take y335.length = y335 by rw [KY57.out]; exact Ny335.out.symm] at h1_
                   obtain ⟨ad340, e340, hx340_0⟩ := Kd.at_int hrt_ x88_3 p340 q340
                   cases e340
                   try replace hx340_0 := (HB.out.cell (World.block_lt_of_cell? w _ hx340_0)).trans hx340_0
                   replace p340 := eq_true p340
                   replace q340 := eq_true q340
                   have hcz61_0 : wr.cell? ⟨gb320, 0, none⟩ = some (.int .i64 a0_0) := (blk_cell BK320.out 0).trans rfl
                   have hcz61_1 : wr.cell? ⟨gb320, 1, none⟩ = some (.slice A0_1 l0_1.length c0_1) := (blk_cell BK320.out 1).trans rfl
                   have hfz61_0 := blk_frozen BK320.out 0
                   have hfz61_1 := blk_frozen BK320.out 1
                   go_wp2
                   go_loopg [13, 98] k3 (fun kq v13 v98 w' => ∃ (x13_4 : Int) (x98_4 : Int), v13 = .int .i64 x13_4 ∧ v98 = .int .i64 x98_4 ∧ Aside0 (timesynclaw18_TopoWays.l1 kq t324 t327 x88_3 (rd y335 x88_3) x13_4 y335 (y335.length : Int) x88_3 l0_1 (l0_1.length : Int) x98_4 a0_0 l0_1 = some r) ∧ Aside0 (kq ≤ k3) ∧ Aside0 (Kd.R (Kd.int .i64) 3 w' w.heap.size (fun k_ => some k_ ≠ ((.slice (some ad330) t327.length co41) : Value).ownBlock) (.slice (some ad340) t324.length co56) t324) ∧ Aside0 (Kd.R (Kd.int .i64) 3 w' w.heap.size (fun k_ => some k_ ≠ ((.slice (some ad340) t324.length co56) : Value).ownBlock) (.slice (some ad330) t327.length co41) t327) ∧ Aside0 (w'.heap[gb320]? = some (.cells #[.int .i64 a0_0, (.slice A0_1 l0_1.length c0_1)] 24 (0, 0))) ∧ Aside0 (Below w.heap.size w w'))
                   case atStart => exact ⟨(a0_0), (0), (by first | rfl | (simp; done) | (simp [*]; done)), (by first | rfl | (simp; done) | (simp [*]; done)), H', ⟨Nat.le_refl _⟩, ⟨by exact HO_9.out⟩, ⟨by exact HO_10.out⟩, ⟨by exact BK320.out⟩, ⟨by exact HB.out⟩⟩
                   case round =>
                    clear H'





















































































                    obtain ⟨x13_4, x98_4, rfl, rfl, HA, HK4, HO_9, HO_10, BK320, HB⟩ := hrel
                    cases gk with
                    | zero => exact absurd HA.out (by simp [timesynclaw18_TopoWays.l1])
                    | succ k4 =>
                     have H := HA.out
                     clear HA
                     simp only [timesynclaw18_TopoWays.l1] at H
                     by_cases c62 : x98_4 < (l0_1.length : Int)
                     ·rw [if_pos c62] at H
                      have c62b0 : decide (x98_4 < (l0_1.length : Int)) = true := decide_eq_true c62
                      clear c62
                      by_cases c63 : 0 ≤ x98_4
                      ·rw [if_pos c63] at H
                       have c63b0 : decide (0 ≤ x98_4) = true := decide_eq_true c63
                       clear c63
                       by_cases c64 : x98_4 < (l0_1.length : Int)
                       ·rw [if_pos c64] at H
                        have c64b0 : decide (x98_4 < (l0_1.length : Int)) = true := decide_eq_true c64
                        clear c64
                        have HC65 := Aside0.mk H
                        clear H
                        have p342 : 0 ≤ (x98_4 : Int) := of_decide_eq_true (by first | (with_reducible assumption) | assumption)
                        have q342 : x98_4 < (l0_1.length : Int) := of_decide_eq_true (by first | (with_reducible assumption) | assumption)
                        obtain ⟨ad342, e342, hx342_0, hx342_1, hx342_2, hx342_3⟩ := at_T37 HR0_1.out x98_4 p342 q342
                        cases e342
                        try replace hx342_0 := (HB.out.cell (World.block_lt_of_cell? w _ hx342_0)).trans hx342_0
                        try replace hx342_1 := (HB.out.cell (World.block_lt_of_cell? w _ hx342_1)).trans hx342_1
                        try replace hx342_2 := (HB.out.cell (World.block_lt_of_cell? w _ hx342_2)).trans hx342_2
                        try replace hx342_3 := (HB.out.cell (World.block_lt_of_cell? w _ hx342_3)).trans hx342_3
                        replace p342 := eq_true p342
                        replace q342 := eq_true q342
                        go_upto_region 18 with (first | ((with_reducible refine gate_dst (N := 15) rfl ?_); (try (refine gate_guard (by rfl) ?_; dsimp only)); refine box_event ?hg (N := 15) ?hd (cs := #[.int .i64 0, .int .i64 0, .int .i64 0, .int .i64 0]) (t := 37) ?hr ?_; (case hd => rfl); (case hg => rfl); (case hr => first | (go_simp; done) | (go_simp; rfl)); intro gb343 hg w66 hbox hb; have n0_ := Aside0.mk (Kd.R_below (by exact HO_9.out) hb); have n1_ := Aside0.mk (Kd.R_below (by exact HO_10.out) hb); have n2_ := Aside0.mk (blk_below (g := gb320) (o := .cells #[.int .i64 a0_0, .slice (some ad342) l0_1.length c0_1] 24 (0, 0)) (by exact BK320.out) hb); have n3_ := Aside0.mk (below_step (by exact HB.out) hb); have n4_ := Aside0.mk (hbox); have n5_ := Aside0.mk ((by rw [hg]; exact (below_size (by exact HB.out)) : w.heap.size ≤ gb343)); have n6_ := Aside0.mk ((by rw [hg]; exact (below_size (by exact HB.out)) : w.heap.size ≤ gb343)); have n7_ := Aside0.mk ((by rw [hg]; exact Nat.ne_of_lt (blk_lt (g := gb320) (o := .cells #[.int .i64 a0_0, .slice (some ad342) l0_1.length c0_1] 24 (0, 0)) (by exact BK320.out)) : gb320 ≠ gb343)); have n8_ := Aside0.mk ((by rw [hg]; exact Nat.ne_of_gt (blk_lt (g := gb320) (o := .cells #[.int .i64 a0_0, .slice (some ad342) l0_1.length c0_1] 24 (0, 0)) (by exact BK320.out)) : gb343 ≠ gb320)); clear HO_9; clear HO_10; clear BK320; clear HB; have HO_9 := n0_; have HO_10 := n1_; have BK320 := n2_; have HB := n3_; have BK343 := n4_; have GW343 := n5_; have GE343 := n6_; have NB320_343 := n7_; have NB343_320 := n8_; clear n0_ n1_ n2_ n3_ n4_ n5_ n6_ n7_ n8_; clear hb hbox hg; have hnb67 := NB343_320.out; have hnc67 := NB320_343.out; have hcz68_0 : w66.cell? ⟨gb343, 0, none⟩ = some (.int .i64 0) := (blk_cell BK343.out 0).trans rfl; have hcz68_1 : w66.cell? ⟨gb343, 1, none⟩ = some (.int .i64 0) := (blk_cell BK343.out 1).trans rfl; have hcz68_2 : w66.cell? ⟨gb343, 2, none⟩ = some (.int .i64 0) := (blk_cell BK343.out 2).trans rfl; have hcz68_3 : w66.cell? ⟨gb343, 3, none⟩ = some (.int .i64 0) := (blk_cell BK343.out 3).trans rfl; have hfz68_0 := blk_frozen BK343.out 0; have hfz68_1 := blk_frozen BK343.out 1; have hfz68_2 := blk_frozen BK343.out 2; have hfz68_3 := blk_frozen BK343.out 3))
                        (try simp only [Act.put, List.setIfInBounds_toArray, List.set_cons_zero, List.set_cons_succ])
                        go_cut [118] (fun v118 wc => ∃ (kq : Nat) (x118_64 : Bool), v118 = .bool x118_64 ∧ Aside0 (timesynclaw18_TopoWays.j4 kq t324 t327 x88_3 (rd y335 x88_3) x13_4 y335 (y335.length : Int) x88_3 l0_1 (l0_1.length : Int) x98_4 x118_64 a0_0 l0_1 ((rd_T37 l0_1 x98_4).f0) ((rd_T37 l0_1 x98_4).f1) ((rd_T37 l0_1 x98_4).f2) ((rd_T37 l0_1 x98_4).f3) = some r) ∧ Aside0 (kq ≤ k4) ∧ Aside0 (Kd.R (Kd.int .i64) 3 wc w.heap.size (fun k_ => some k_ ≠ ((.slice (some ad330) t327.length co41) : Value).ownBlock) (.slice (some ad340) t324.length co56) t324) ∧ Aside0 (Kd.R (Kd.int .i64) 3 wc w.heap.size (fun k_ => some k_ ≠ ((.slice (some ad340) t324.length co56) : Value).ownBlock) (.slice (some ad330) t327.length co41) t327) ∧ Aside0 (wc.heap[gb320]? = some (.cells #[.int .i64 a0_0, (.slice (some ad342) l0_1.length c0_1)] 24 (0, 0))) ∧ Aside0 (wc.heap[gb343]? = some (.cells #[.int .i64 ((rd_T37 l0_1 x98_4).f0), .int .i64 ((rd_T37 l0_1 x98_4).f1), .int .i64 ((rd_T37 l0_1 x98_4).f2), .int .i64 ((rd_T37 l0_1 x98_4).f3)] 37 (0, 0))) ∧ Aside0 (Below w.heap.size w wc))
                        case first =>
                         have H := HC65.out
                         clear HC65
                         by_cases c69 : ((rd_T37 l0_1 x98_4).f0) = (rd y335 x88_3)
                         ·rw [if_pos c69] at H
                          have c69b0 : (((rd_T37 l0_1 x98_4).f0) == (rd y335 x88_3)) = true := beq_iff_eq.mpr c69
                          have c69b1 : (((rd_T37 l0_1 x98_4).f0) != (rd y335 x88_3)) = false := bne_eq_false_iff_eq.mpr c69
                          clear c69
                          (first | rw [c69b0] | (simp only [i64_w, i32_w]; rw [c69b0]) | skip)
                          by_cases c70 : 0 ≤ ((rd_T37 l0_1 x98_4).f2)
                          ·rw [if_pos c70] at H
                           have c70b0 : decide (0 ≤ ((rd_T37 l0_1 x98_4).f2)) = true := decide_eq_true c70
                           clear c70
                           by_cases c71 : ((rd_T37 l0_1 x98_4).f2) < (t327.length : Int)
                           ·rw [if_pos c71] at H
                            have c71b0 : decide (((rd_T37 l0_1 x98_4).f2) < (t327.length : Int)) = true := decide_eq_true c71
                            clear c71
                            by_cases c72 : 0 ≤ (rd y335 x88_3)
                            ·rw [if_pos c72] at H
                             have c72b0 : decide (0 ≤ (rd y335 x88_3)) = true := decide_eq_true c72
                             clear c72
                             by_cases c73 : (rd y335 x88_3) < (t327.length : Int)
                             ·rw [if_pos c73] at H
                              have c73b0 : decide ((rd y335 x88_3) < (t327.length : Int)) = true := decide_eq_true c73
                              clear c73
                              have H' := Aside0.mk H
                              clear H
                              try go_wp2
                              have n0_ : Aside0 (Kd.R (Kd.int .i64) 3 ((((w66.setCell ⟨gb343, 0, none⟩ (.int .i64 ((rd_T37 l0_1 x98_4).f0))).setCell ⟨gb343, 1, none⟩ (.int .i64 ((rd_T37 l0_1 x98_4).f1))).setCell ⟨gb343, 2, none⟩ (.int .i64 ((rd_T37 l0_1 x98_4).f2))).setCell ⟨gb343, 3, none⟩ (.int .i64 ((rd_T37 l0_1 x98_4).f3))) w.heap.size (fun k_ => some k_ ≠ (.slice (some ad330) t327.length co41 : Value).ownBlock) (.slice (some ad340) t324.length co56) t324) := ⟨by exact Kd.R_mono (Kd.R_far (p := ⟨gb343, 3, none⟩) (Kd.R_far (p := ⟨gb343, 2, none⟩) (Kd.R_far (p := ⟨gb343, 1, none⟩) (Kd.R_far (p := ⟨gb343, 0, none⟩) (Kd.R_types HO_9.out BK343.out (by decide)) (fun _ hk => hk.2) (.int .i64 ((rd_T37 l0_1 x98_4).f0))) (fun _ hk => hk.2) (.int .i64 ((rd_T37 l0_1 x98_4).f1))) (fun _ hk => hk.2) (.int .i64 ((rd_T37 l0_1 x98_4).f2))) (fun _ hk => hk.2) (.int .i64 ((rd_T37 l0_1 x98_4).f3))) (fun _ hk => hk.1)⟩
                              have n1_ : Aside0 (Kd.R (Kd.int .i64) 3 ((((w66.setCell ⟨gb343, 0, none⟩ (.int .i64 ((rd_T37 l0_1 x98_4).f0))).setCell ⟨gb343, 1, none⟩ (.int .i64 ((rd_T37 l0_1 x98_4).f1))).setCell ⟨gb343, 2, none⟩ (.int .i64 ((rd_T37 l0_1 x98_4).f2))).setCell ⟨gb343, 3, none⟩ (.int .i64 ((rd_T37 l0_1 x98_4).f3))) w.heap.size (fun k_ => some k_ ≠ (.slice (some ad340) t324.length co56 : Value).ownBlock) (.slice (some ad330) t327.length co41) t327) := ⟨by exact Kd.R_mono (Kd.R_far (p := ⟨gb343, 3, none⟩) (Kd.R_far (p := ⟨gb343, 2, none⟩) (Kd.R_far (p := ⟨gb343, 1, none⟩) (Kd.R_far (p := ⟨gb343, 0, none⟩) (Kd.R_types HO_10.out BK343.out (by decide)) (fun _ hk => hk.2) (.int .i64 ((rd_T37 l0_1 x98_4).f0))) (fun _ hk => hk.2) (.int .i64 ((rd_T37 l0_1 x98_4).f1))) (fun _ hk => hk.2) (.int .i64 ((rd_T37 l0_1 x98_4).f2))) (fun _ hk => hk.2) (.int .i64 ((rd_T37 l0_1 x98_4).f3))) (fun _ hk => hk.1)⟩
                              have n2_ : Aside0 (((((w66.setCell ⟨gb343, 0, none⟩ (.int .i64 ((rd_T37 l0_1 x98_4).f0))).setCell ⟨gb343, 1, none⟩ (.int .i64 ((rd_T37 l0_1 x98_4).f1))).setCell ⟨gb343, 2, none⟩ (.int .i64 ((rd_T37 l0_1 x98_4).f2))).setCell ⟨gb343, 3, none⟩ (.int .i64 ((rd_T37 l0_1 x98_4).f3))).heap[gb320]? = some (.cells #[.int .i64 a0_0, .slice (some ad342) l0_1.length c0_1] 24 (0, 0))) := ⟨by (with_reducible repeat (first | refine blk_drewN ?_ _ | refine blk_drew ?_ | refine blk_alloc ?_ _)); refine blk_far ?_ NB320_343.out _; (with_reducible repeat (first | refine blk_drewN ?_ _ | refine blk_drew ?_ | refine blk_alloc ?_ _)); refine blk_far ?_ NB320_343.out _; (with_reducible repeat (first | refine blk_drewN ?_ _ | refine blk_drew ?_ | refine blk_alloc ?_ _)); refine blk_far ?_ NB320_343.out _; (with_reducible repeat (first | refine blk_drewN ?_ _ | refine blk_drew ?_ | refine blk_alloc ?_ _)); refine blk_far ?_ NB320_343.out _; exact BK320.out⟩
                              have n3_ : Aside0 (((((w66.setCell ⟨gb343, 0, none⟩ (.int .i64 ((rd_T37 l0_1 x98_4).f0))).setCell ⟨gb343, 1, none⟩ (.int .i64 ((rd_T37 l0_1 x98_4).f1))).setCell ⟨gb343, 2, none⟩ (.int .i64 ((rd_T37 l0_1 x98_4).f2))).setCell ⟨gb343, 3, none⟩ (.int .i64 ((rd_T37 l0_1 x98_4).f3))).heap[gb343]? = some (.cells #[.int .i64 ((rd_T37 l0_1 x98_4).f0), .int .i64 ((rd_T37 l0_1 x98_4).f1), .int .i64 ((rd_T37 l0_1 x98_4).f2), .int .i64 ((rd_T37 l0_1 x98_4).f3)] 37 (0, 0))) := ⟨by (with_reducible repeat (first | refine blk_drewN ?_ _ | refine blk_drew ?_ | refine blk_alloc ?_ _)); refine blk_put (cs := #[.int .i64 ((rd_T37 l0_1 x98_4).f0), .int .i64 ((rd_T37 l0_1 x98_4).f1), .int .i64 ((rd_T37 l0_1 x98_4).f2), .int .i64 0]) ?_ 3 _ rfl; (with_reducible repeat (first | refine blk_drewN ?_ _ | refine blk_drew ?_ | refine blk_alloc ?_ _)); refine blk_put (cs := #[.int .i64 ((rd_T37 l0_1 x98_4).f0), .int .i64 ((rd_T37 l0_1 x98_4).f1), .int .i64 0, .int .i64 0]) ?_ 2 _ rfl; (with_reducible repeat (first | refine blk_drewN ?_ _ | refine blk_drew ?_ | refine blk_alloc ?_ _)); refine blk_put (cs := #[.int .i64 ((rd_T37 l0_1 x98_4).f0), .int .i64 0, .int .i64 0, .int .i64 0]) ?_ 1 _ rfl; (with_reducible repeat (first | refine blk_drewN ?_ _ | refine blk_drew ?_ | refine blk_alloc ?_ _)); refine blk_put (cs := #[.int .i64 0, .int .i64 0, .int .i64 0, .int .i64 0]) ?_ 0 _ rfl; exact BK343.out⟩
                              have n4_ : Aside0 (Below w.heap.size w ((((w66.setCell ⟨gb343, 0, none⟩ (.int .i64 ((rd_T37 l0_1 x98_4).f0))).setCell ⟨gb343, 1, none⟩ (.int .i64 ((rd_T37 l0_1 x98_4).f1))).setCell ⟨gb343, 2, none⟩ (.int .i64 ((rd_T37 l0_1 x98_4).f2))).setCell ⟨gb343, 3, none⟩ (.int .i64 ((rd_T37 l0_1 x98_4).f3)))) := ⟨by repeat (first | (with_reducible first | exact HB.out | apply below_alloc | apply pw_below_drewN | apply below_drew1 | refine below_set ?_ GE320.out | refine below_set ?_ GE343.out) | exact HB.out)⟩





                              generalize ((((w66.setCell ⟨gb343, 0, none⟩ (.int .i64 ((rd_T37 l0_1 x98_4).f0))).setCell ⟨gb343, 1, none⟩ (.int .i64 ((rd_T37 l0_1 x98_4).f1))).setCell ⟨gb343, 2, none⟩ (.int .i64 ((rd_T37 l0_1 x98_4).f2))).setCell ⟨gb343, 3, none⟩ (.int .i64 ((rd_T37 l0_1 x98_4).f3))) = w74 at n0_ n1_ n2_ n3_ n4_ ⊢
                              have HO_9 := n0_
                              have HO_10 := n1_
                              have BK320 := n2_
                              have BK343 := n3_
                              have HB := n4_
                              clear n0_ n1_ n2_ n3_ n4_
                              have n0_ := Aside0.mk (Kd.R_drew HO_9.out)
                              have n1_ := Aside0.mk (Kd.R_drew HO_10.out)
                              have n2_ := Aside0.mk (blk_drew BK320.out)
                              have n3_ := Aside0.mk (blk_drew BK343.out)
                              have n4_ := Aside0.mk (below_drew1 HB.out)
                              clear HO_9
                              clear HO_10
                              clear BK320
                              clear BK343
                              clear HB
                              have HO_9 := n0_
                              have HO_10 := n1_
                              have BK320 := n2_
                              have BK343 := n3_
                              have HB := n4_
                              clear n0_ n1_ n2_ n3_ n4_
                              have p344 : 0 ≤ (((rd_T37 l0_1 x98_4).f2) : Int) := of_decide_eq_true (by first | (with_reducible assumption) | assumption)
                              have q344 : ((rd_T37 l0_1 x98_4).f2) < (t327.length : Int) := of_decide_eq_true (by first | (with_reducible assumption) | assumption)
                              obtain ⟨ad344, e344, hx344_0⟩ := Kd.at_int (Kd.R_reads' HO_10.out).2.2 ((rd_T37 l0_1 x98_4).f2) p344 q344
                              obtain rfl : ad330 = ad344 := (by injection e344)
                              replace p344 := eq_true p344
                              replace q344 := eq_true q344
                              have p345 : 0 ≤ ((rd y335 x88_3) : Int) := of_decide_eq_true (by first | (with_reducible assumption) | assumption)
                              have q345 : (rd y335 x88_3) < (t327.length : Int) := of_decide_eq_true (by first | (with_reducible assumption) | assumption)
                              obtain ⟨ad345, e345, hx345_0⟩ := Kd.at_int (Kd.R_reads' HO_10.out).2.2 (rd y335 x88_3) p345 q345
                              obtain rfl : ad330 = ad345 := (by injection e345)
                              replace p345 := eq_true p345
                              replace q345 := eq_true q345
                              refine start_ (n := 17) (S := fun w' => w'.cell? ⟨gb343, 0, none⟩ = some (.int .i64 ((rd_T37 l0_1 x98_4).f0)) ∧ w'.cell? ⟨gb343, 1, none⟩ = some (.int .i64 ((rd_T37 l0_1 x98_4).f1)) ∧ w'.cell? ⟨gb343, 2, none⟩ = some (.int .i64 ((rd_T37 l0_1 x98_4).f2)) ∧ w'.cell? ⟨gb343, 3, none⟩ = some (.int .i64 ((rd_T37 l0_1 x98_4).f3)) ∧ w'.cell? (ad330.add (((rd_T37 l0_1 x98_4).f2)).toNat) = some (.int .i64 (rd t327 ((rd_T37 l0_1 x98_4).f2))) ∧ w'.cell? (ad330.add ((rd y335 x88_3)).toNat) = some (.int .i64 (rd t327 (rd y335 x88_3)))) (ds := []) #[false, false, false, false, false, false, false, false, false, false, false, false, false, false, false, false, false] (by kernel_rfl) rfl rfl ⟨(blk_cell BK343.out 0).trans rfl, (blk_cell BK343.out 1).trans rfl, (blk_cell BK343.out 2).trans rfl, (blk_cell BK343.out 3).trans rfl, hx344_0, hx345_0⟩ (fun hHeld => ?_); refine with_tabW timesynclaw18_TopoWays.tab18 timesynclaw18_TopoWays.bits18 (fun HT_ HW_ => ?_)
                              generalize w74.drew = w75 at HO_9 HO_10 BK320 BK343 HB hx344_0 hx345_0 hHeld ⊢
                              refine pure_ (i := 0) (N := some 102) (v := ?_) (a' := ?_) #[true, false, false, false, false, false, false, false, false, false, false, false, false, false, false, false, false] rfl rfl (any_of HT_.out (by kernel_rfl)) (fun _ _ _ h => h) (Or.inl ⟨by rfl, ?_⟩) ?_ ?_
                              rotate_left
                              ·intro w'
                               go_simp
                               with_reducible rfl
                              rotate_left
                              ·simp only [Act.put, List.setIfInBounds_toArray, List.set_cons_zero, List.set_cons_succ, i64_w, i32_w]
                               rfl
                              refine pure_ (i := 2) (N := some 104) (v := ?_) (a' := ?_) #[true, false, true, false, false, false, false, false, false, false, false, false, false, false, false, false, false] rfl rfl (any_of HT_.out (by kernel_rfl)) (fun _ _ _ h => h) (Or.inl ⟨by rfl, ?_⟩) ?_ ?_
                              rotate_left
                              ·intro w'
                               go_simp
                               with_reducible rfl
                              rotate_left
                              ·simp only [Act.put, List.setIfInBounds_toArray, List.set_cons_zero, List.set_cons_succ, i64_w, i32_w]
                               rfl
                              refine take_ (i := 1) (N := some 103) (v := ?_) (a' := ?_) #[true, true, true, false, false, false, false, false, false, false, false, false, false, false, false, false, false] rfl rfl (take_ofW HT_.out HW_.out (by kernel_rfl)) (fun _ _ _ h => h) (Or.inl ⟨by rfl, ?_⟩) hHeld ?_ ?_
                              rotate_left
                              ·rintro w' ⟨s0, s1, s2, s3, s4, s5⟩
                               go_simp
                               with_reducible rfl
                              rotate_left
                              ·simp only [Act.put, List.setIfInBounds_toArray, List.set_cons_zero, List.set_cons_succ, i64_w, i32_w]
                               rfl
                              refine pure_ (i := 3) (N := some 105) (v := ?_) (a' := ?_) #[true, true, true, true, false, false, false, false, false, false, false, false, false, false, false, false, false] rfl rfl (any_of HT_.out (by kernel_rfl)) (fun _ _ _ h => h) (Or.inl ⟨by rfl, ?_⟩) ?_ ?_
                              rotate_left
                              ·intro w'
                               go_simp
                               with_reducible rfl
                              rotate_left
                              ·simp only [Act.put, List.setIfInBounds_toArray, List.set_cons_zero, List.set_cons_succ, i64_w, i32_w]
                               rfl
                              refine pure_ (i := 4) (N := some 106) (v := ?_) (a' := ?_) #[true, true, true, true, true, false, false, false, false, false, false, false, false, false, false, false, false] rfl rfl (any_of HT_.out (by kernel_rfl)) (fun _ _ _ h => h) (Or.inl ⟨by rfl, ?_⟩) ?_ ?_
                              rotate_left
                              ·intro w'
                               go_simp
                               with_reducible rfl
                              rotate_left
                              ·simp only [Act.put, List.setIfInBounds_toArray, List.set_cons_zero, List.set_cons_succ, i64_w, i32_w]
                               rfl
                              refine pure_ (i := 5) (N := some 107) (v := ?_) (a' := ?_) #[true, true, true, true, true, true, false, false, false, false, false, false, false, false, false, false, false] rfl rfl (any_of HT_.out (by kernel_rfl)) (fun _ _ _ h => h) (Or.inl ⟨by rfl, ?_⟩) ?_ ?_
                              rotate_left
                              ·intro w'
                               go_simp
                               with_reducible rfl
                              rotate_left
                              ·simp only [Act.put, List.setIfInBounds_toArray, List.set_cons_zero, List.set_cons_succ, i64_w, i32_w]
                               rfl
                              refine pure_ (i := 6) (N := some 108) (v := ?_) (a' := ?_) #[true, true, true, true, true, true, true, false, false, false, false, false, false, false, false, false, false] rfl rfl (any_of HT_.out (by kernel_rfl)) (fun _ _ _ h => h) (Or.inl ⟨by rfl, ?_⟩) ?_ ?_
                              rotate_left
                              ·intro w'
                               go_simp
                               with_reducible rfl
                              rotate_left
                              ·simp only [Act.put, List.setIfInBounds_toArray, List.set_cons_zero, List.set_cons_succ, i64_w, i32_w]
                               rfl
                              refine pure_ (i := 10) (N := some 112) (v := ?_) (a' := ?_) #[true, true, true, true, true, true, true, false, false, false, true, false, false, false, false, false, false] rfl rfl (any_of HT_.out (by kernel_rfl)) (fun _ _ _ h => h) (Or.inl ⟨by rfl, ?_⟩) ?_ ?_
                              rotate_left
                              ·intro w'
                               go_simp
                               with_reducible rfl
                              rotate_left
                              ·simp only [Act.put, List.setIfInBounds_toArray, List.set_cons_zero, List.set_cons_succ, i64_w, i32_w]
                               rfl
                              refine pure_ (i := 11) (N := some 113) (v := ?_) (a' := ?_) #[true, true, true, true, true, true, true, false, false, false, true, true, false, false, false, false, false] rfl rfl (any_of HT_.out (by kernel_rfl)) (fun _ _ _ h => h) (Or.inl ⟨by rfl, ?_⟩) ?_ ?_
                              rotate_left
                              ·intro w'
                               go_simp
                               with_reducible rfl
                              rotate_left
                              ·simp only [Act.put, List.setIfInBounds_toArray, List.set_cons_zero, List.set_cons_succ, i64_w, i32_w]
                               rfl
                              refine pure_ (i := 12) (N := some 114) (v := ?_) (a' := ?_) #[true, true, true, true, true, true, true, false, false, false, true, true, true, false, false, false, false] rfl rfl (any_of HT_.out (by kernel_rfl)) (fun _ _ _ h => h) (Or.inl ⟨by rfl, ?_⟩) ?_ ?_
                              rotate_left
                              ·intro w'
                               go_simp
                               with_reducible rfl
                              rotate_left
                              ·simp only [Act.put, List.setIfInBounds_toArray, List.set_cons_zero, List.set_cons_succ, i64_w, i32_w]
                               rfl
                              refine take_ (i := 7) (N := some 109) (v := ?_) (a' := ?_) #[true, true, true, true, true, true, true, true, false, false, true, true, true, false, false, false, false] rfl rfl (take_ofW HT_.out HW_.out (by kernel_rfl)) (fun _ _ _ h => h) (Or.inl ⟨by rfl, ?_⟩) hHeld ?_ ?_
                              rotate_left
                              ·rintro w' ⟨s0, s1, s2, s3, s4, s5⟩
                               go_simp
                               with_reducible rfl
                              rotate_left
                              ·simp only [Act.put, List.setIfInBounds_toArray, List.set_cons_zero, List.set_cons_succ, i64_w, i32_w]
                               rfl
                              refine pure_ (i := 8) (N := some 110) (v := ?_) (a' := ?_) #[true, true, true, true, true, true, true, true, true, false, true, true, true, false, false, false, false] rfl rfl (any_of HT_.out (by kernel_rfl)) (fun _ _ _ h => h) (Or.inl ⟨by rfl, ?_⟩) ?_ ?_
                              rotate_left
                              ·intro w'
                               go_simp
                               with_reducible rfl
                              rotate_left
                              ·simp only [Act.put, List.setIfInBounds_toArray, List.set_cons_zero, List.set_cons_succ, i64_w, i32_w]
                               rfl
                              refine take_ (i := 9) (N := some 111) (v := ?_) (a' := ?_) #[true, true, true, true, true, true, true, true, true, true, true, true, true, false, false, false, false] rfl rfl (take_ofW HT_.out HW_.out (by kernel_rfl)) (fun _ _ _ h => h) (Or.inl ⟨by rfl, ?_⟩) hHeld ?_ ?_
                              rotate_left
                              ·rintro w' ⟨s0, s1, s2, s3, s4, s5⟩
                               go_simp
                               with_reducible rfl
                              rotate_left
                              ·simp only [Act.put, List.setIfInBounds_toArray, List.set_cons_zero, List.set_cons_succ, i64_w, i32_w]
                               rfl
                              refine take_ (i := 13) (N := some 115) (v := ?_) (a' := ?_) #[true, true, true, true, true, true, true, true, true, true, true, true, true, true, false, false, false] rfl rfl (take_ofW HT_.out HW_.out (by kernel_rfl)) (fun _ _ _ h => h) (Or.inl ⟨by rfl, ?_⟩) hHeld ?_ ?_
                              rotate_left
                              ·rintro w' ⟨s0, s1, s2, s3, s4, s5⟩
                               go_simp
                               with_reducible rfl
                              rotate_left
                              ·simp only [Act.put, List.setIfInBounds_toArray, List.set_cons_zero, List.set_cons_succ, i64_w, i32_w]
                               rfl
                              refine pure_ (i := 14) (N := some 116) (v := ?_) (a' := ?_) #[true, true, true, true, true, true, true, true, true, true, true, true, true, true, true, false, false] rfl rfl (any_of HT_.out (by kernel_rfl)) (fun _ _ _ h => h) (Or.inl ⟨by rfl, ?_⟩) ?_ ?_
                              rotate_left
                              ·intro w'
                               go_simp
                               with_reducible rfl
                              rotate_left
                              ·simp only [Act.put, List.setIfInBounds_toArray, List.set_cons_zero, List.set_cons_succ, i64_w, i32_w]
                               rfl
                              refine pure_ (i := 15) (N := some 117) (v := ?_) (a' := ?_) #[true, true, true, true, true, true, true, true, true, true, true, true, true, true, true, true, false] rfl rfl (any_of HT_.out (by kernel_rfl)) (fun _ _ _ h => h) (Or.inl ⟨by rfl, ?_⟩) ?_ ?_
                              rotate_left
                              ·intro w'
                               go_simp
                               with_reducible rfl
                              rotate_left
                              ·simp only [Act.put, List.setIfInBounds_toArray, List.set_cons_zero, List.set_cons_succ, i64_w, i32_w]
                               rfl
                              refine pure_ (i := 16) (N := some 118) (v := ?_) (a' := ?_) #[true, true, true, true, true, true, true, true, true, true, true, true, true, true, true, true, true] rfl rfl (any_of HT_.out (by kernel_rfl)) (fun _ _ _ h => h) (Or.inl ⟨by rfl, ?_⟩) ?_ ?_
                              rotate_left
                              ·intro w'
                               go_simp
                               with_reducible rfl
                              rotate_left
                              ·simp only [Act.put, List.setIfInBounds_toArray, List.set_cons_zero, List.set_cons_succ, i64_w, i32_w]
                               rfl
                              refine done_ (done_of HT_.out (by kernel_rfl)) ?_
                              try go_wp2
                              go_meet
                              case rel => exact ⟨_, (((rd t327 ((rd_T37 l0_1 x98_4).f2)) == (wrap64 ((rd t327 (rd y335 x88_3)) - 1)))), (by first | rfl | (simp; done) | (simp [*]; done)), H', ⟨by have := HJ3.out; have := HJ35.out; have := HK3.out; have := HK4.out; first | omega | exact Nat.le_refl _⟩, ⟨by exact HO_9.out⟩, ⟨by exact HO_10.out⟩, ⟨by exact BK320.out⟩, ⟨by exact BK343.out⟩, ⟨by exact HB.out⟩⟩
                             ·rw [if_neg c73] at H
                              exact absurd H (by simp)
                            ·rw [if_neg c72] at H
                             exact absurd H (by simp)
                           ·rw [if_neg c71] at H
                            exact absurd H (by simp)
                          ·rw [if_neg c70] at H
                           exact absurd H (by simp)
                         ·rw [if_neg c69] at H
                          have c69b0 : (((rd_T37 l0_1 x98_4).f0) == (rd y335 x88_3)) = false := beq_eq_false_iff_ne.mpr c69
                          have c69b1 : (((rd_T37 l0_1 x98_4).f0) != (rd y335 x88_3)) = true := bne_iff_ne.mpr c69
                          (first | rw [c69b0] | (simp only [i64_w, i32_w]; rw [c69b0]) | skip)
                          have H' := Aside0.mk H
                          clear H
                          try go_wp2
                          have n0_ : Aside0 (Kd.R (Kd.int .i64) 3 ((((w66.setCell ⟨gb343, 0, none⟩ (.int .i64 ((rd_T37 l0_1 x98_4).f0))).setCell ⟨gb343, 1, none⟩ (.int .i64 ((rd_T37 l0_1 x98_4).f1))).setCell ⟨gb343, 2, none⟩ (.int .i64 ((rd_T37 l0_1 x98_4).f2))).setCell ⟨gb343, 3, none⟩ (.int .i64 ((rd_T37 l0_1 x98_4).f3))) w.heap.size (fun k_ => some k_ ≠ (.slice (some ad330) t327.length co41 : Value).ownBlock) (.slice (some ad340) t324.length co56) t324) := ⟨by exact Kd.R_mono (Kd.R_far (p := ⟨gb343, 3, none⟩) (Kd.R_far (p := ⟨gb343, 2, none⟩) (Kd.R_far (p := ⟨gb343, 1, none⟩) (Kd.R_far (p := ⟨gb343, 0, none⟩) (Kd.R_types HO_9.out BK343.out (by decide)) (fun _ hk => hk.2) (.int .i64 ((rd_T37 l0_1 x98_4).f0))) (fun _ hk => hk.2) (.int .i64 ((rd_T37 l0_1 x98_4).f1))) (fun _ hk => hk.2) (.int .i64 ((rd_T37 l0_1 x98_4).f2))) (fun _ hk => hk.2) (.int .i64 ((rd_T37 l0_1 x98_4).f3))) (fun _ hk => hk.1)⟩
                          have n1_ : Aside0 (Kd.R (Kd.int .i64) 3 ((((w66.setCell ⟨gb343, 0, none⟩ (.int .i64 ((rd_T37 l0_1 x98_4).f0))).setCell ⟨gb343, 1, none⟩ (.int .i64 ((rd_T37 l0_1 x98_4).f1))).setCell ⟨gb343, 2, none⟩ (.int .i64 ((rd_T37 l0_1 x98_4).f2))).setCell ⟨gb343, 3, none⟩ (.int .i64 ((rd_T37 l0_1 x98_4).f3))) w.heap.size (fun k_ => some k_ ≠ (.slice (some ad340) t324.length co56 : Value).ownBlock) (.slice (some ad330) t327.length co41) t327) := ⟨by exact Kd.R_mono (Kd.R_far (p := ⟨gb343, 3, none⟩) (Kd.R_far (p := ⟨gb343, 2, none⟩) (Kd.R_far (p := ⟨gb343, 1, none⟩) (Kd.R_far (p := ⟨gb343, 0, none⟩) (Kd.R_types HO_10.out BK343.out (by decide)) (fun _ hk => hk.2) (.int .i64 ((rd_T37 l0_1 x98_4).f0))) (fun _ hk => hk.2) (.int .i64 ((rd_T37 l0_1 x98_4).f1))) (fun _ hk => hk.2) (.int .i64 ((rd_T37 l0_1 x98_4).f2))) (fun _ hk => hk.2) (.int .i64 ((rd_T37 l0_1 x98_4).f3))) (fun _ hk => hk.1)⟩
                          have n2_ : Aside0 (((((w66.setCell ⟨gb343, 0, none⟩ (.int .i64 ((rd_T37 l0_1 x98_4).f0))).setCell ⟨gb343, 1, none⟩ (.int .i64 ((rd_T37 l0_1 x98_4).f1))).setCell ⟨gb343, 2, none⟩ (.int .i64 ((rd_T37 l0_1 x98_4).f2))).setCell ⟨gb343, 3, none⟩ (.int .i64 ((rd_T37 l0_1 x98_4).f3))).heap[gb320]? = some (.cells #[.int .i64 a0_0, .slice (some ad342) l0_1.length c0_1] 24 (0, 0))) := ⟨by (with_reducible repeat (first | refine blk_drewN ?_ _ | refine blk_drew ?_ | refine blk_alloc ?_ _)); refine blk_far ?_ NB320_343.out _; (with_reducible repeat (first | refine blk_drewN ?_ _ | refine blk_drew ?_ | refine blk_alloc ?_ _)); refine blk_far ?_ NB320_343.out _; (with_reducible repeat (first | refine blk_drewN ?_ _ | refine blk_drew ?_ | refine blk_alloc ?_ _)); refine blk_far ?_ NB320_343.out _; (with_reducible repeat (first | refine blk_drewN ?_ _ | refine blk_drew ?_ | refine blk_alloc ?_ _)); refine blk_far ?_ NB320_343.out _; exact BK320.out⟩
                          have n3_ : Aside0 (((((w66.setCell ⟨gb343, 0, none⟩ (.int .i64 ((rd_T37 l0_1 x98_4).f0))).setCell ⟨gb343, 1, none⟩ (.int .i64 ((rd_T37 l0_1 x98_4).f1))).setCell ⟨gb343, 2, none⟩ (.int .i64 ((rd_T37 l0_1 x98_4).f2))).setCell ⟨gb343, 3, none⟩ (.int .i64 ((rd_T37 l0_1 x98_4).f3))).heap[gb343]? = some (.cells #[.int .i64 ((rd_T37 l0_1 x98_4).f0), .int .i64 ((rd_T37 l0_1 x98_4).f1), .int .i64 ((rd_T37 l0_1 x98_4).f2), .int .i64 ((rd_T37 l0_1 x98_4).f3)] 37 (0, 0))) := ⟨by (with_reducible repeat (first | refine blk_drewN ?_ _ | refine blk_drew ?_ | refine blk_alloc ?_ _)); refine blk_put (cs := #[.int .i64 ((rd_T37 l0_1 x98_4).f0), .int .i64 ((rd_T37 l0_1 x98_4).f1), .int .i64 ((rd_T37 l0_1 x98_4).f2), .int .i64 0]) ?_ 3 _ rfl; (with_reducible repeat (first | refine blk_drewN ?_ _ | refine blk_drew ?_ | refine blk_alloc ?_ _)); refine blk_put (cs := #[.int .i64 ((rd_T37 l0_1 x98_4).f0), .int .i64 ((rd_T37 l0_1 x98_4).f1), .int .i64 0, .int .i64 0]) ?_ 2 _ rfl; (with_reducible repeat (first | refine blk_drewN ?_ _ | refine blk_drew ?_ | refine blk_alloc ?_ _)); refine blk_put (cs := #[.int .i64 ((rd_T37 l0_1 x98_4).f0), .int .i64 0, .int .i64 0, .int .i64 0]) ?_ 1 _ rfl; (with_reducible repeat (first | refine blk_drewN ?_ _ | refine blk_drew ?_ | refine blk_alloc ?_ _)); refine blk_put (cs := #[.int .i64 0, .int .i64 0, .int .i64 0, .int .i64 0]) ?_ 0 _ rfl; exact BK343.out⟩
                          have n4_ : Aside0 (Below w.heap.size w ((((w66.setCell ⟨gb343, 0, none⟩ (.int .i64 ((rd_T37 l0_1 x98_4).f0))).setCell ⟨gb343, 1, none⟩ (.int .i64 ((rd_T37 l0_1 x98_4).f1))).setCell ⟨gb343, 2, none⟩ (.int .i64 ((rd_T37 l0_1 x98_4).f2))).setCell ⟨gb343, 3, none⟩ (.int .i64 ((rd_T37 l0_1 x98_4).f3)))) := ⟨by repeat (first | (with_reducible first | exact HB.out | apply below_alloc | apply pw_below_drewN | apply below_drew1 | refine below_set ?_ GE320.out | refine below_set ?_ GE343.out) | exact HB.out)⟩





                          generalize ((((w66.setCell ⟨gb343, 0, none⟩ (.int .i64 ((rd_T37 l0_1 x98_4).f0))).setCell ⟨gb343, 1, none⟩ (.int .i64 ((rd_T37 l0_1 x98_4).f1))).setCell ⟨gb343, 2, none⟩ (.int .i64 ((rd_T37 l0_1 x98_4).f2))).setCell ⟨gb343, 3, none⟩ (.int .i64 ((rd_T37 l0_1 x98_4).f3))) = w76 at n0_ n1_ n2_ n3_ n4_ ⊢
                          have HO_9 := n0_
                          have HO_10 := n1_
                          have BK320 := n2_
                          have BK343 := n3_
                          have HB := n4_
                          clear n0_ n1_ n2_ n3_ n4_
                          have n0_ := Aside0.mk (Kd.R_drew HO_9.out)
                          have n1_ := Aside0.mk (Kd.R_drew HO_10.out)
                          have n2_ := Aside0.mk (blk_drew BK320.out)
                          have n3_ := Aside0.mk (blk_drew BK343.out)
                          have n4_ := Aside0.mk (below_drew1 HB.out)
                          clear HO_9
                          clear HO_10
                          clear BK320
                          clear BK343
                          clear HB
                          have HO_9 := n0_
                          have HO_10 := n1_
                          have BK320 := n2_
                          have BK343 := n3_
                          have HB := n4_
                          clear n0_ n1_ n2_ n3_ n4_
                          refine start_ (n := 17) (S := fun w' => w'.cell? ⟨gb343, 0, none⟩ = some (.int .i64 ((rd_T37 l0_1 x98_4).f0)) ∧ w'.cell? ⟨gb343, 1, none⟩ = some (.int .i64 ((rd_T37 l0_1 x98_4).f1)) ∧ w'.cell? ⟨gb343, 2, none⟩ = some (.int .i64 ((rd_T37 l0_1 x98_4).f2)) ∧ w'.cell? ⟨gb343, 3, none⟩ = some (.int .i64 ((rd_T37 l0_1 x98_4).f3))) (ds := []) #[false, false, false, false, false, false, false, false, false, false, false, false, false, false, false, false, false] (by kernel_rfl) rfl rfl ⟨(blk_cell BK343.out 0).trans rfl, (blk_cell BK343.out 1).trans rfl, (blk_cell BK343.out 2).trans rfl, (blk_cell BK343.out 3).trans rfl⟩ (fun hHeld => ?_); refine with_tabW timesynclaw18_TopoWays.tab18 timesynclaw18_TopoWays.bits18 (fun HT_ HW_ => ?_)
                          generalize w76.drew = w77 at HO_9 HO_10 BK320 BK343 HB hHeld ⊢
                          refine pure_ (i := 0) (N := some 102) (v := ?_) (a' := ?_) #[true, false, false, false, false, false, false, false, false, false, false, false, false, false, false, false, false] rfl rfl (any_of HT_.out (by kernel_rfl)) (fun _ _ _ h => h) (Or.inl ⟨by rfl, ?_⟩) ?_ ?_
                          rotate_left
                          ·intro w'
                           go_simp
                           with_reducible rfl
                          rotate_left
                          ·simp only [Act.put, List.setIfInBounds_toArray, List.set_cons_zero, List.set_cons_succ, i64_w, i32_w]
                           rfl
                          refine pure_ (i := 2) (N := some 104) (v := ?_) (a' := ?_) #[true, false, true, false, false, false, false, false, false, false, false, false, false, false, false, false, false] rfl rfl (any_of HT_.out (by kernel_rfl)) (fun _ _ _ h => h) (Or.inl ⟨by rfl, ?_⟩) ?_ ?_
                          rotate_left
                          ·intro w'
                           go_simp
                           with_reducible rfl
                          rotate_left
                          ·simp only [Act.put, List.setIfInBounds_toArray, List.set_cons_zero, List.set_cons_succ, i64_w, i32_w]
                           rfl
                          refine take_ (i := 1) (N := some 103) (v := ?_) (a' := ?_) #[true, true, true, false, false, false, false, false, false, false, false, false, false, false, false, false, false] rfl rfl (take_ofW HT_.out HW_.out (by kernel_rfl)) (fun _ _ _ h => h) (Or.inl ⟨by rfl, ?_⟩) hHeld ?_ ?_
                          rotate_left
                          ·rintro w' ⟨s0, s1, s2, s3⟩
                           go_simp
                           with_reducible rfl
                          rotate_left
                          ·simp only [Act.put, List.setIfInBounds_toArray, List.set_cons_zero, List.set_cons_succ, i64_w, i32_w]
                           rfl
                          refine pure_ (i := 3) (N := some 105) (v := ?_) (a' := ?_) #[true, true, true, true, false, false, false, false, false, false, false, false, false, false, false, false, false] rfl rfl (any_of HT_.out (by kernel_rfl)) (fun _ _ _ h => h) (Or.inl ⟨by rfl, ?_⟩) ?_ ?_
                          rotate_left
                          ·intro w'
                           go_simp
                           with_reducible rfl
                          rotate_left
                          ·simp only [Act.put, List.setIfInBounds_toArray, List.set_cons_zero, List.set_cons_succ, i64_w, i32_w]
                           rfl
                          refine pure_ (i := 4) (N := some 106) (v := ?_) (a' := ?_) #[true, true, true, true, true, false, false, false, false, false, false, false, false, false, false, false, false] rfl rfl (any_of HT_.out (by kernel_rfl)) (fun _ _ _ h => h) (Or.inl ⟨by rfl, ?_⟩) ?_ ?_
                          rotate_left
                          ·intro w'
                           go_simp
                           with_reducible rfl
                          rotate_left
                          ·simp only [Act.put, List.setIfInBounds_toArray, List.set_cons_zero, List.set_cons_succ, i64_w, i32_w]
                           rfl
                          refine pure_ (i := 5) (N := some 107) (v := undef) (a' := ?_) #[true, true, true, true, true, true, false, false, false, false, false, false, false, false, false, false, false] rfl rfl (any_of HT_.out (by kernel_rfl)) (fun _ _ _ h => h) (Or.inr ⟨by rfl, rfl⟩) ?_ ?_
                          rotate_left
                          ·simp only [Act.put, List.setIfInBounds_toArray, List.set_cons_zero, List.set_cons_succ, i64_w, i32_w]
                           rfl
                          refine pure_ (i := 6) (N := some 108) (v := undef) (a' := ?_) #[true, true, true, true, true, true, true, false, false, false, false, false, false, false, false, false, false] rfl rfl (any_of HT_.out (by kernel_rfl)) (fun _ _ _ h => h) (Or.inr ⟨by rfl, rfl⟩) ?_ ?_
                          rotate_left
                          ·simp only [Act.put, List.setIfInBounds_toArray, List.set_cons_zero, List.set_cons_succ, i64_w, i32_w]
                           rfl
                          refine pure_ (i := 7) (N := some 109) (v := undef) (a' := ?_) #[true, true, true, true, true, true, true, true, false, false, false, false, false, false, false, false, false] rfl rfl (any_of HT_.out (by kernel_rfl)) (fun _ _ _ h => h) (Or.inr ⟨by rfl, rfl⟩) ?_ ?_
                          rotate_left
                          ·simp only [Act.put, List.setIfInBounds_toArray, List.set_cons_zero, List.set_cons_succ, i64_w, i32_w]
                           rfl
                          refine pure_ (i := 8) (N := some 110) (v := undef) (a' := ?_) #[true, true, true, true, true, true, true, true, true, false, false, false, false, false, false, false, false] rfl rfl (any_of HT_.out (by kernel_rfl)) (fun _ _ _ h => h) (Or.inr ⟨by rfl, rfl⟩) ?_ ?_
                          rotate_left
                          ·simp only [Act.put, List.setIfInBounds_toArray, List.set_cons_zero, List.set_cons_succ, i64_w, i32_w]
                           rfl
                          refine pure_ (i := 9) (N := some 111) (v := undef) (a' := ?_) #[true, true, true, true, true, true, true, true, true, true, false, false, false, false, false, false, false] rfl rfl (any_of HT_.out (by kernel_rfl)) (fun _ _ _ h => h) (Or.inr ⟨by rfl, rfl⟩) ?_ ?_
                          rotate_left
                          ·simp only [Act.put, List.setIfInBounds_toArray, List.set_cons_zero, List.set_cons_succ, i64_w, i32_w]
                           rfl
                          refine pure_ (i := 10) (N := some 112) (v := undef) (a' := ?_) #[true, true, true, true, true, true, true, true, true, true, true, false, false, false, false, false, false] rfl rfl (any_of HT_.out (by kernel_rfl)) (fun _ _ _ h => h) (Or.inr ⟨by rfl, rfl⟩) ?_ ?_
                          rotate_left
                          ·simp only [Act.put, List.setIfInBounds_toArray, List.set_cons_zero, List.set_cons_succ, i64_w, i32_w]
                           rfl
                          refine pure_ (i := 11) (N := some 113) (v := undef) (a' := ?_) #[true, true, true, true, true, true, true, true, true, true, true, true, false, false, false, false, false] rfl rfl (any_of HT_.out (by kernel_rfl)) (fun _ _ _ h => h) (Or.inr ⟨by rfl, rfl⟩) ?_ ?_
                          rotate_left
                          ·simp only [Act.put, List.setIfInBounds_toArray, List.set_cons_zero, List.set_cons_succ, i64_w, i32_w]
                           rfl
                          refine pure_ (i := 12) (N := some 114) (v := undef) (a' := ?_) #[true, true, true, true, true, true, true, true, true, true, true, true, true, false, false, false, false] rfl rfl (any_of HT_.out (by kernel_rfl)) (fun _ _ _ h => h) (Or.inr ⟨by rfl, rfl⟩) ?_ ?_
                          rotate_left
                          ·simp only [Act.put, List.setIfInBounds_toArray, List.set_cons_zero, List.set_cons_succ, i64_w, i32_w]
                           rfl
                          refine pure_ (i := 13) (N := some 115) (v := undef) (a' := ?_) #[true, true, true, true, true, true, true, true, true, true, true, true, true, true, false, false, false] rfl rfl (any_of HT_.out (by kernel_rfl)) (fun _ _ _ h => h) (Or.inr ⟨by rfl, rfl⟩) ?_ ?_
                          rotate_left
                          ·simp only [Act.put, List.setIfInBounds_toArray, List.set_cons_zero, List.set_cons_succ, i64_w, i32_w]
                           rfl
                          refine pure_ (i := 14) (N := some 116) (v := undef) (a' := ?_) #[true, true, true, true, true, true, true, true, true, true, true, true, true, true, true, false, false] rfl rfl (any_of HT_.out (by kernel_rfl)) (fun _ _ _ h => h) (Or.inr ⟨by rfl, rfl⟩) ?_ ?_
                          rotate_left
                          ·simp only [Act.put, List.setIfInBounds_toArray, List.set_cons_zero, List.set_cons_succ, i64_w, i32_w]
                           rfl
                          refine pure_ (i := 15) (N := some 117) (v := undef) (a' := ?_) #[true, true, true, true, true, true, true, true, true, true, true, true, true, true, true, true, false] rfl rfl (any_of HT_.out (by kernel_rfl)) (fun _ _ _ h => h) (Or.inr ⟨by rfl, rfl⟩) ?_ ?_
                          rotate_left
                          ·simp only [Act.put, List.setIfInBounds_toArray, List.set_cons_zero, List.set_cons_succ, i64_w, i32_w]
                           rfl
                          refine pure_ (i := 16) (N := some 118) (v := ?_) (a' := ?_) #[true, true, true, true, true, true, true, true, true, true, true, true, true, true, true, true, true] rfl rfl (any_of HT_.out (by kernel_rfl)) (fun _ _ _ h => h) (Or.inl ⟨by rfl, ?_⟩) ?_ ?_
                          rotate_left
                          ·intro w'
                           go_simp
                           with_reducible rfl
                          rotate_left
                          ·simp only [Act.put, List.setIfInBounds_toArray, List.set_cons_zero, List.set_cons_succ, i64_w, i32_w]
                           rfl
                          refine done_ (done_of HT_.out (by kernel_rfl)) ?_
                          try go_wp2
                          go_meet
                          case rel => exact ⟨_, (false), (by first | rfl | (simp; done) | (simp [*]; done)), H', ⟨by have := HJ3.out; have := HJ35.out; have := HK3.out; have := HK4.out; first | omega | exact Nat.le_refl _⟩, ⟨by exact HO_9.out⟩, ⟨by exact HO_10.out⟩, ⟨by exact BK320.out⟩, ⟨by exact BK343.out⟩, ⟨by exact HB.out⟩⟩
                        case rest =>
                         clear HC65































































































































                         obtain ⟨kq, x118_64, rfl, HA, HJ64, HO_9, HO_10, BK320, BK343, HB⟩ := hcut
                         cases kq with
                         | zero => exact absurd HA.out (by simp [timesynclaw18_TopoWays.j4])
                         | succ kj64 =>
                          have H := HA.out
                          clear HA
                          simp only [timesynclaw18_TopoWays.j4] at H
                          by_cases c78 : x118_64 = true
                          ·subst c78
                           have H1 : (if ((rd_T37 l0_1 x98_4).f2) = (rd y335 x88_3) then (if 0 ≤ ((rd_T37 l0_1 x98_4).f0) then (if ((rd_T37 l0_1 x98_4).f0) < (t327.length : Int) then (if 0 ≤ (rd y335 x88_3) then (if (rd y335 x88_3) < (t327.length : Int) then (if (rd t327 ((rd_T37 l0_1 x98_4).f0)) = (wrap64 ((rd t327 (rd y335 x88_3)) - 1)) then (timesynclaw18_TopoWays.l1 kj64 t324 t327 x88_3 (rd y335 x88_3) (mn (mn x13_4 ((rd_T37 l0_1 x98_4).f2)) ((rd_T37 l0_1 x98_4).f0)) y335 (y335.length : Int) x88_3 l0_1 (l0_1.length : Int) (wrap64 (x98_4 + 1)) a0_0 l0_1) else (timesynclaw18_TopoWays.l1 kj64 t324 t327 x88_3 (rd y335 x88_3) (mn x13_4 ((rd_T37 l0_1 x98_4).f2)) y335 (y335.length : Int) x88_3 l0_1 (l0_1.length : Int) (wrap64 (x98_4 + 1)) a0_0 l0_1)) else (none)) else (none)) else (none)) else (none)) else (timesynclaw18_TopoWays.l1 kj64 t324 t327 x88_3 (rd y335 x88_3) (mn x13_4 ((rd_T37 l0_1 x98_4).f2)) y335 (y335.length : Int) x88_3 l0_1 (l0_1.length : Int) (wrap64 (x98_4 + 1)) a0_0 l0_1)) = some r := by rw [if_pos rfl] at H; exact H
                           clear H
                           have H := H1
                           clear H1
                           obtain ⟨ji79, hji79⟩ : ∃ j_ : Int, (mn x13_4 ((rd_T37 l0_1 x98_4).f2)) = j_ := ⟨_, rfl⟩
                           replace H : (if ((rd_T37 l0_1 x98_4).f2) = (rd y335 x88_3) then (if 0 ≤ ((rd_T37 l0_1 x98_4).f0) then (if ((rd_T37 l0_1 x98_4).f0) < (t327.length : Int) then (if 0 ≤ (rd y335 x88_3) then (if (rd y335 x88_3) < (t327.length : Int) then (if (rd t327 ((rd_T37 l0_1 x98_4).f0)) = (wrap64 ((rd t327 (rd y335 x88_3)) - 1)) then (timesynclaw18_TopoWays.l1 kj64 t324 t327 x88_3 (rd y335 x88_3) (mn (ji79) ((rd_T37 l0_1 x98_4).f0)) y335 (y335.length : Int) x88_3 l0_1 (l0_1.length : Int) (wrap64 (x98_4 + 1)) a0_0 l0_1) else (timesynclaw18_TopoWays.l1 kj64 t324 t327 x88_3 (rd y335 x88_3) ji79 y335 (y335.length : Int) x88_3 l0_1 (l0_1.length : Int) (wrap64 (x98_4 + 1)) a0_0 l0_1)) else (none)) else (none)) else (none)) else (none)) else (timesynclaw18_TopoWays.l1 kj64 t324 t327 x88_3 (rd y335 x88_3) ji79 y335 (y335.length : Int) x88_3 l0_1 (l0_1.length : Int) (wrap64 (x98_4 + 1)) a0_0 l0_1)) = some r := by first | (rw [hji79] at H; exact H) | (simp only [hji79] at H ⊢; exact H)
                           have hji79_ : (if ((rd_T37 l0_1 x98_4).f2) < x13_4 then ((rd_T37 l0_1 x98_4).f2) else x13_4) = ji79 := hji79
                           by_cases c80 : ((rd_T37 l0_1 x98_4).f2) = (rd y335 x88_3)
                           ·rw [if_pos c80] at H
                            have c80b0 : (((rd_T37 l0_1 x98_4).f2) == (rd y335 x88_3)) = true := beq_iff_eq.mpr c80
                            have c80b1 : (((rd_T37 l0_1 x98_4).f2) != (rd y335 x88_3)) = false := bne_eq_false_iff_eq.mpr c80
                            clear c80
                            by_cases c81 : 0 ≤ ((rd_T37 l0_1 x98_4).f0)
                            ·rw [if_pos c81] at H
                             have c81b0 : decide (0 ≤ ((rd_T37 l0_1 x98_4).f0)) = true := decide_eq_true c81
                             clear c81
                             by_cases c82 : ((rd_T37 l0_1 x98_4).f0) < (t327.length : Int)
                             ·rw [if_pos c82] at H
                              have c82b0 : decide (((rd_T37 l0_1 x98_4).f0) < (t327.length : Int)) = true := decide_eq_true c82
                              clear c82
                              by_cases c83 : 0 ≤ (rd y335 x88_3)
                              ·rw [if_pos c83] at H
                               have c83b0 : decide (0 ≤ (rd y335 x88_3)) = true := decide_eq_true c83
                               clear c83
                               by_cases c84 : (rd y335 x88_3) < (t327.length : Int)
                               ·rw [if_pos c84] at H
                                have c84b0 : decide ((rd y335 x88_3) < (t327.length : Int)) = true := decide_eq_true c84
                                clear c84
                                by_cases c85 : (rd t327 ((rd_T37 l0_1 x98_4).f0)) = (wrap64 ((rd t327 (rd y335 x88_3)) - 1))
                                ·rw [if_pos c85] at H
                                 have c85b0 : ((rd t327 ((rd_T37 l0_1 x98_4).f0)) == (wrap64 ((rd t327 (rd y335 x88_3)) - 1))) = true := beq_iff_eq.mpr c85
                                 have c85b1 : ((rd t327 ((rd_T37 l0_1 x98_4).f0)) != (wrap64 ((rd t327 (rd y335 x88_3)) - 1))) = false := bne_eq_false_iff_eq.mpr c85
                                 clear c85
                                 obtain ⟨ji86, hji86⟩ : ∃ j_ : Int, (mn (ji79) ((rd_T37 l0_1 x98_4).f0)) = j_ := ⟨_, rfl⟩
                                 replace H : (timesynclaw18_TopoWays.l1 kj64 t324 t327 x88_3 (rd y335 x88_3) ji86 y335 (y335.length : Int) x88_3 l0_1 (l0_1.length : Int) (wrap64 (x98_4 + 1)) a0_0 l0_1) = some r := by first | (rw [hji86] at H; exact H) | (simp only [hji86] at H ⊢; exact H)
                                 have hji86_ : (if ((rd_T37 l0_1 x98_4).f0) < (ji79) then ((rd_T37 l0_1 x98_4).f0) else (ji79)) = ji86 := hji86
                                 have H' := Aside0.mk H
                                 clear H
                                 have hnb87 := NB343_320.out
                                 have hnc87 := NB320_343.out
                                 have hcz88_0 : wc.cell? ⟨gb343, 0, none⟩ = some (.int .i64 ((rd_T37 l0_1 x98_4).f0)) := (blk_cell BK343.out 0).trans rfl
                                 have hcz88_1 : wc.cell? ⟨gb343, 1, none⟩ = some (.int .i64 ((rd_T37 l0_1 x98_4).f1)) := (blk_cell BK343.out 1).trans rfl
                                 have hcz88_2 : wc.cell? ⟨gb343, 2, none⟩ = some (.int .i64 ((rd_T37 l0_1 x98_4).f2)) := (blk_cell BK343.out 2).trans rfl
                                 have hcz88_3 : wc.cell? ⟨gb343, 3, none⟩ = some (.int .i64 ((rd_T37 l0_1 x98_4).f3)) := (blk_cell BK343.out 3).trans rfl
                                 have hfz88_0 := blk_frozen BK343.out 0
                                 have hfz88_1 := blk_frozen BK343.out 1
                                 have hfz88_2 := blk_frozen BK343.out 2
                                 have hfz88_3 := blk_frozen BK343.out 3
                                 try go_wp2
                                 have n0_ := Aside0.mk (Kd.R_drew HO_9.out)
                                 have n1_ := Aside0.mk (Kd.R_drew HO_10.out)
                                 have n2_ := Aside0.mk (blk_drew BK320.out)
                                 have n3_ := Aside0.mk (blk_drew BK343.out)
                                 have n4_ := Aside0.mk (below_drew1 HB.out)
                                 clear HO_9
                                 clear HO_10
                                 clear BK320
                                 clear BK343
                                 clear HB
                                 have HO_9 := n0_
                                 have HO_10 := n1_
                                 have BK320 := n2_
                                 have BK343 := n3_
                                 have HB := n4_
                                 clear n0_ n1_ n2_ n3_ n4_
                                 have p346 : 0 ≤ (((rd_T37 l0_1 x98_4).f0) : Int) := of_decide_eq_true (by first | (with_reducible assumption) | assumption)
                                 have q346 : ((rd_T37 l0_1 x98_4).f0) < (t327.length : Int) := of_decide_eq_true (by first | (with_reducible assumption) | assumption)
                                 obtain ⟨ad346, e346, hx346_0⟩ := Kd.at_int (Kd.R_reads' HO_10.out).2.2 ((rd_T37 l0_1 x98_4).f0) p346 q346
                                 obtain rfl : ad330 = ad346 := (by injection e346)
                                 replace p346 := eq_true p346
                                 replace q346 := eq_true q346
                                 have p347 : 0 ≤ ((rd y335 x88_3) : Int) := of_decide_eq_true (by first | (with_reducible assumption) | assumption)
                                 have q347 : (rd y335 x88_3) < (t327.length : Int) := of_decide_eq_true (by first | (with_reducible assumption) | assumption)
                                 obtain ⟨ad347, e347, hx347_0⟩ := Kd.at_int (Kd.R_reads' HO_10.out).2.2 (rd y335 x88_3) p347 q347
                                 obtain rfl : ad330 = ad347 := (by injection e347)
                                 replace p347 := eq_true p347
                                 replace q347 := eq_true q347
                                 refine start_ (n := 17) (S := fun w' => w'.cell? ⟨gb343, 0, none⟩ = some (.int .i64 ((rd_T37 l0_1 x98_4).f0)) ∧ w'.cell? ⟨gb343, 1, none⟩ = some (.int .i64 ((rd_T37 l0_1 x98_4).f1)) ∧ w'.cell? ⟨gb343, 2, none⟩ = some (.int .i64 ((rd_T37 l0_1 x98_4).f2)) ∧ w'.cell? ⟨gb343, 3, none⟩ = some (.int .i64 ((rd_T37 l0_1 x98_4).f3)) ∧ w'.cell? (ad330.add (((rd_T37 l0_1 x98_4).f0)).toNat) = some (.int .i64 (rd t327 ((rd_T37 l0_1 x98_4).f0))) ∧ w'.cell? (ad330.add ((rd y335 x88_3)).toNat) = some (.int .i64 (rd t327 (rd y335 x88_3)))) (ds := []) #[false, false, false, false, false, false, false, false, false, false, false, false, false, false, false, false, false] (by kernel_rfl) rfl rfl ⟨(blk_cell BK343.out 0).trans rfl, (blk_cell BK343.out 1).trans rfl, (blk_cell BK343.out 2).trans rfl, (blk_cell BK343.out 3).trans rfl, hx346_0, hx347_0⟩ (fun hHeld => ?_); refine with_tabW timesynclaw18_TopoWays.tab20 timesynclaw18_TopoWays.bits20 (fun HT_ HW_ => ?_)
                                 generalize wc.drew = w89 at HO_9 HO_10 BK320 BK343 HB hx346_0 hx347_0 hHeld ⊢
                                 refine pure_ (i := 0) (N := some 123) (v := ?_) (a' := ?_) #[true, false, false, false, false, false, false, false, false, false, false, false, false, false, false, false, false] rfl rfl (any_of HT_.out (by kernel_rfl)) (fun _ _ _ h => h) (Or.inl ⟨by rfl, ?_⟩) ?_ ?_
                                 rotate_left
                                 ·intro w'
                                  go_simp
                                  with_reducible rfl
                                 rotate_left
                                 ·simp only [Act.put, List.setIfInBounds_toArray, List.set_cons_zero, List.set_cons_succ, i64_w, i32_w]
                                  rfl
                                 refine pure_ (i := 2) (N := some 125) (v := ?_) (a' := ?_) #[true, false, true, false, false, false, false, false, false, false, false, false, false, false, false, false, false] rfl rfl (any_of HT_.out (by kernel_rfl)) (fun _ _ _ h => h) (Or.inl ⟨by rfl, ?_⟩) ?_ ?_
                                 rotate_left
                                 ·intro w'
                                  go_simp
                                  with_reducible rfl
                                 rotate_left
                                 ·simp only [Act.put, List.setIfInBounds_toArray, List.set_cons_zero, List.set_cons_succ, i64_w, i32_w]
                                  rfl
                                 refine take_ (i := 1) (N := some 124) (v := ?_) (a' := ?_) #[true, true, true, false, false, false, false, false, false, false, false, false, false, false, false, false, false] rfl rfl (take_ofW HT_.out HW_.out (by kernel_rfl)) (fun _ _ _ h => h) (Or.inl ⟨by rfl, ?_⟩) hHeld ?_ ?_
                                 rotate_left
                                 ·rintro w' ⟨s0, s1, s2, s3, s4, s5⟩
                                  go_simp
                                  with_reducible rfl
                                 rotate_left
                                 ·simp only [Act.put, List.setIfInBounds_toArray, List.set_cons_zero, List.set_cons_succ, i64_w, i32_w]
                                  rfl
                                 refine pure_ (i := 3) (N := some 126) (v := ?_) (a' := ?_) #[true, true, true, true, false, false, false, false, false, false, false, false, false, false, false, false, false] rfl rfl (any_of HT_.out (by kernel_rfl)) (fun _ _ _ h => h) (Or.inl ⟨by rfl, ?_⟩) ?_ ?_
                                 rotate_left
                                 ·intro w'
                                  go_simp
                                  with_reducible rfl
                                 rotate_left
                                 ·simp only [Act.put, List.setIfInBounds_toArray, List.set_cons_zero, List.set_cons_succ, i64_w, i32_w]
                                  rfl
                                 refine pure_ (i := 4) (N := some 127) (v := ?_) (a' := ?_) #[true, true, true, true, true, false, false, false, false, false, false, false, false, false, false, false, false] rfl rfl (any_of HT_.out (by kernel_rfl)) (fun _ _ _ h => h) (Or.inl ⟨by rfl, ?_⟩) ?_ ?_
                                 rotate_left
                                 ·intro w'
                                  go_simp
                                  with_reducible rfl
                                 rotate_left
                                 ·simp only [Act.put, List.setIfInBounds_toArray, List.set_cons_zero, List.set_cons_succ, i64_w, i32_w]
                                  rfl
                                 refine pure_ (i := 5) (N := some 128) (v := ?_) (a' := ?_) #[true, true, true, true, true, true, false, false, false, false, false, false, false, false, false, false, false] rfl rfl (any_of HT_.out (by kernel_rfl)) (fun _ _ _ h => h) (Or.inl ⟨by rfl, ?_⟩) ?_ ?_
                                 rotate_left
                                 ·intro w'
                                  go_simp
                                  with_reducible rfl
                                 rotate_left
                                 ·simp only [Act.put, List.setIfInBounds_toArray, List.set_cons_zero, List.set_cons_succ, i64_w, i32_w]
                                  rfl
                                 refine pure_ (i := 6) (N := some 129) (v := ?_) (a' := ?_) #[true, true, true, true, true, true, true, false, false, false, false, false, false, false, false, false, false] rfl rfl (any_of HT_.out (by kernel_rfl)) (fun _ _ _ h => h) (Or.inl ⟨by rfl, ?_⟩) ?_ ?_
                                 rotate_left
                                 ·intro w'
                                  go_simp
                                  with_reducible rfl
                                 rotate_left
                                 ·simp only [Act.put, List.setIfInBounds_toArray, List.set_cons_zero, List.set_cons_succ, i64_w, i32_w]
                                  rfl
                                 refine pure_ (i := 10) (N := some 133) (v := ?_) (a' := ?_) #[true, true, true, true, true, true, true, false, false, false, true, false, false, false, false, false, false] rfl rfl (any_of HT_.out (by kernel_rfl)) (fun _ _ _ h => h) (Or.inl ⟨by rfl, ?_⟩) ?_ ?_
                                 rotate_left
                                 ·intro w'
                                  go_simp
                                  with_reducible rfl
                                 rotate_left
                                 ·simp only [Act.put, List.setIfInBounds_toArray, List.set_cons_zero, List.set_cons_succ, i64_w, i32_w]
                                  rfl
                                 refine pure_ (i := 11) (N := some 134) (v := ?_) (a' := ?_) #[true, true, true, true, true, true, true, false, false, false, true, true, false, false, false, false, false] rfl rfl (any_of HT_.out (by kernel_rfl)) (fun _ _ _ h => h) (Or.inl ⟨by rfl, ?_⟩) ?_ ?_
                                 rotate_left
                                 ·intro w'
                                  go_simp
                                  with_reducible rfl
                                 rotate_left
                                 ·simp only [Act.put, List.setIfInBounds_toArray, List.set_cons_zero, List.set_cons_succ, i64_w, i32_w]
                                  rfl
                                 refine pure_ (i := 12) (N := some 135) (v := ?_) (a' := ?_) #[true, true, true, true, true, true, true, false, false, false, true, true, true, false, false, false, false] rfl rfl (any_of HT_.out (by kernel_rfl)) (fun _ _ _ h => h) (Or.inl ⟨by rfl, ?_⟩) ?_ ?_
                                 rotate_left
                                 ·intro w'
                                  go_simp
                                  with_reducible rfl
                                 rotate_left
                                 ·simp only [Act.put, List.setIfInBounds_toArray, List.set_cons_zero, List.set_cons_succ, i64_w, i32_w]
                                  rfl
                                 refine take_ (i := 7) (N := some 130) (v := ?_) (a' := ?_) #[true, true, true, true, true, true, true, true, false, false, true, true, true, false, false, false, false] rfl rfl (take_ofW HT_.out HW_.out (by kernel_rfl)) (fun _ _ _ h => h) (Or.inl ⟨by rfl, ?_⟩) hHeld ?_ ?_
                                 rotate_left
                                 ·rintro w' ⟨s0, s1, s2, s3, s4, s5⟩
                                  go_simp
                                  with_reducible rfl
                                 rotate_left
                                 ·simp only [Act.put, List.setIfInBounds_toArray, List.set_cons_zero, List.set_cons_succ, i64_w, i32_w]
                                  rfl
                                 refine pure_ (i := 8) (N := some 131) (v := ?_) (a' := ?_) #[true, true, true, true, true, true, true, true, true, false, true, true, true, false, false, false, false] rfl rfl (any_of HT_.out (by kernel_rfl)) (fun _ _ _ h => h) (Or.inl ⟨by rfl, ?_⟩) ?_ ?_
                                 rotate_left
                                 ·intro w'
                                  go_simp
                                  with_reducible rfl
                                 rotate_left
                                 ·simp only [Act.put, List.setIfInBounds_toArray, List.set_cons_zero, List.set_cons_succ, i64_w, i32_w]
                                  rfl
                                 refine take_ (i := 9) (N := some 132) (v := ?_) (a' := ?_) #[true, true, true, true, true, true, true, true, true, true, true, true, true, false, false, false, false] rfl rfl (take_ofW HT_.out HW_.out (by kernel_rfl)) (fun _ _ _ h => h) (Or.inl ⟨by rfl, ?_⟩) hHeld ?_ ?_
                                 rotate_left
                                 ·rintro w' ⟨s0, s1, s2, s3, s4, s5⟩
                                  go_simp
                                  with_reducible rfl
                                 rotate_left
                                 ·simp only [Act.put, List.setIfInBounds_toArray, List.set_cons_zero, List.set_cons_succ, i64_w, i32_w]
                                  rfl
                                 refine take_ (i := 13) (N := some 136) (v := ?_) (a' := ?_) #[true, true, true, true, true, true, true, true, true, true, true, true, true, true, false, false, false] rfl rfl (take_ofW HT_.out HW_.out (by kernel_rfl)) (fun _ _ _ h => h) (Or.inl ⟨by rfl, ?_⟩) hHeld ?_ ?_
                                 rotate_left
                                 ·rintro w' ⟨s0, s1, s2, s3, s4, s5⟩
                                  go_simp
                                  with_reducible rfl
                                 rotate_left
                                 ·simp only [Act.put, List.setIfInBounds_toArray, List.set_cons_zero, List.set_cons_succ, i64_w, i32_w]
                                  rfl
                                 refine pure_ (i := 14) (N := some 137) (v := ?_) (a' := ?_) #[true, true, true, true, true, true, true, true, true, true, true, true, true, true, true, false, false] rfl rfl (any_of HT_.out (by kernel_rfl)) (fun _ _ _ h => h) (Or.inl ⟨by rfl, ?_⟩) ?_ ?_
                                 rotate_left
                                 ·intro w'
                                  go_simp
                                  with_reducible rfl
                                 rotate_left
                                 ·simp only [Act.put, List.setIfInBounds_toArray, List.set_cons_zero, List.set_cons_succ, i64_w, i32_w]
                                  rfl
                                 refine pure_ (i := 15) (N := some 138) (v := ?_) (a' := ?_) #[true, true, true, true, true, true, true, true, true, true, true, true, true, true, true, true, false] rfl rfl (any_of HT_.out (by kernel_rfl)) (fun _ _ _ h => h) (Or.inl ⟨by rfl, ?_⟩) ?_ ?_
                                 rotate_left
                                 ·intro w'
                                  go_simp
                                  with_reducible rfl
                                 rotate_left
                                 ·simp only [Act.put, List.setIfInBounds_toArray, List.set_cons_zero, List.set_cons_succ, i64_w, i32_w]
                                  rfl
                                 refine pure_ (i := 16) (N := some 139) (v := ?_) (a' := ?_) #[true, true, true, true, true, true, true, true, true, true, true, true, true, true, true, true, true] rfl rfl (any_of HT_.out (by kernel_rfl)) (fun _ _ _ h => h) (Or.inl ⟨by rfl, ?_⟩) ?_ ?_
                                 rotate_left
                                 ·intro w'
                                  go_simp
                                  with_reducible rfl
                                 rotate_left
                                 ·simp only [Act.put, List.setIfInBounds_toArray, List.set_cons_zero, List.set_cons_succ, i64_w, i32_w]
                                  rfl
                                 refine done_ (done_of HT_.out (by kernel_rfl)) ?_
                                 have hcz90_0 : w89.cell? ⟨gb343, 0, none⟩ = some (.int .i64 ((rd_T37 l0_1 x98_4).f0)) := (blk_cell BK343.out 0).trans rfl
                                 have hcz90_1 : w89.cell? ⟨gb343, 1, none⟩ = some (.int .i64 ((rd_T37 l0_1 x98_4).f1)) := (blk_cell BK343.out 1).trans rfl
                                 have hcz90_2 : w89.cell? ⟨gb343, 2, none⟩ = some (.int .i64 ((rd_T37 l0_1 x98_4).f2)) := (blk_cell BK343.out 2).trans rfl
                                 have hcz90_3 : w89.cell? ⟨gb343, 3, none⟩ = some (.int .i64 ((rd_T37 l0_1 x98_4).f3)) := (blk_cell BK343.out 3).trans rfl
                                 have hfz90_0 := blk_frozen BK343.out 0
                                 have hfz90_1 := blk_frozen BK343.out 1
                                 have hfz90_2 := blk_frozen BK343.out 2
                                 have hfz90_3 := blk_frozen BK343.out 3
                                 try go_wp2
                                 go_roundg kj64
                                 case measure => have := HJ3.out; have := HJ35.out; have := HK3.out; have := HK4.out; have := HJ64.out; omega
                                 case rel => exact ⟨(ji86), (wrap64 (x98_4 + 1)), (by first | rfl | (simp; done) | (simp only [← hji86] <;> (first | rfl | simp)) | (simp [*]; done)), (by first | rfl | (simp; done) | (simp [*]; done)), H', ⟨by have := HJ3.out; have := HJ35.out; have := HK3.out; have := HK4.out; have := HJ64.out; omega⟩, ⟨by exact HO_9.out⟩, ⟨by exact HO_10.out⟩, ⟨by exact BK320.out⟩, ⟨by exact HB.out⟩⟩
                                ·rw [if_neg c85] at H
                                 have c85b0 : ((rd t327 ((rd_T37 l0_1 x98_4).f0)) == (wrap64 ((rd t327 (rd y335 x88_3)) - 1))) = false := beq_eq_false_iff_ne.mpr c85
                                 have c85b1 : ((rd t327 ((rd_T37 l0_1 x98_4).f0)) != (wrap64 ((rd t327 (rd y335 x88_3)) - 1))) = true := bne_iff_ne.mpr c85
                                 have H' := Aside0.mk H
                                 clear H
                                 have hnb91 := NB343_320.out
                                 have hnc91 := NB320_343.out
                                 have hcz92_0 : wc.cell? ⟨gb343, 0, none⟩ = some (.int .i64 ((rd_T37 l0_1 x98_4).f0)) := (blk_cell BK343.out 0).trans rfl
                                 have hcz92_1 : wc.cell? ⟨gb343, 1, none⟩ = some (.int .i64 ((rd_T37 l0_1 x98_4).f1)) := (blk_cell BK343.out 1).trans rfl
                                 have hcz92_2 : wc.cell? ⟨gb343, 2, none⟩ = some (.int .i64 ((rd_T37 l0_1 x98_4).f2)) := (blk_cell BK343.out 2).trans rfl
                                 have hcz92_3 : wc.cell? ⟨gb343, 3, none⟩ = some (.int .i64 ((rd_T37 l0_1 x98_4).f3)) := (blk_cell BK343.out 3).trans rfl
                                 have hfz92_0 := blk_frozen BK343.out 0
                                 have hfz92_1 := blk_frozen BK343.out 1
                                 have hfz92_2 := blk_frozen BK343.out 2
                                 have hfz92_3 := blk_frozen BK343.out 3
                                 try go_wp2
                                 have n0_ := Aside0.mk (Kd.R_drew HO_9.out)
                                 have n1_ := Aside0.mk (Kd.R_drew HO_10.out)
                                 have n2_ := Aside0.mk (blk_drew BK320.out)
                                 have n3_ := Aside0.mk (blk_drew BK343.out)
                                 have n4_ := Aside0.mk (below_drew1 HB.out)
                                 clear HO_9
                                 clear HO_10
                                 clear BK320
                                 clear BK343
                                 clear HB
                                 have HO_9 := n0_
                                 have HO_10 := n1_
                                 have BK320 := n2_
                                 have BK343 := n3_
                                 have HB := n4_
                                 clear n0_ n1_ n2_ n3_ n4_
                                 have p346 : 0 ≤ (((rd_T37 l0_1 x98_4).f0) : Int) := of_decide_eq_true (by first | (with_reducible assumption) | assumption)
                                 have q346 : ((rd_T37 l0_1 x98_4).f0) < (t327.length : Int) := of_decide_eq_true (by first | (with_reducible assumption) | assumption)
                                 obtain ⟨ad346, e346, hx346_0⟩ := Kd.at_int (Kd.R_reads' HO_10.out).2.2 ((rd_T37 l0_1 x98_4).f0) p346 q346
                                 obtain rfl : ad330 = ad346 := (by injection e346)
                                 replace p346 := eq_true p346
                                 replace q346 := eq_true q346
                                 have p347 : 0 ≤ ((rd y335 x88_3) : Int) := of_decide_eq_true (by first | (with_reducible assumption) | assumption)
                                 have q347 : (rd y335 x88_3) < (t327.length : Int) := of_decide_eq_true (by first | (with_reducible assumption) | assumption)
                                 obtain ⟨ad347, e347, hx347_0⟩ := Kd.at_int (Kd.R_reads' HO_10.out).2.2 (rd y335 x88_3) p347 q347
                                 obtain rfl : ad330 = ad347 := (by injection e347)
                                 replace p347 := eq_true p347
                                 replace q347 := eq_true q347
                                 refine start_ (n := 17) (S := fun w' => w'.cell? ⟨gb343, 0, none⟩ = some (.int .i64 ((rd_T37 l0_1 x98_4).f0)) ∧ w'.cell? ⟨gb343, 1, none⟩ = some (.int .i64 ((rd_T37 l0_1 x98_4).f1)) ∧ w'.cell? ⟨gb343, 2, none⟩ = some (.int .i64 ((rd_T37 l0_1 x98_4).f2)) ∧ w'.cell? ⟨gb343, 3, none⟩ = some (.int .i64 ((rd_T37 l0_1 x98_4).f3)) ∧ w'.cell? (ad330.add (((rd_T37 l0_1 x98_4).f0)).toNat) = some (.int .i64 (rd t327 ((rd_T37 l0_1 x98_4).f0))) ∧ w'.cell? (ad330.add ((rd y335 x88_3)).toNat) = some (.int .i64 (rd t327 (rd y335 x88_3)))) (ds := []) #[false, false, false, false, false, false, false, false, false, false, false, false, false, false, false, false, false] (by kernel_rfl) rfl rfl ⟨(blk_cell BK343.out 0).trans rfl, (blk_cell BK343.out 1).trans rfl, (blk_cell BK343.out 2).trans rfl, (blk_cell BK343.out 3).trans rfl, hx346_0, hx347_0⟩ (fun hHeld => ?_); refine with_tabW timesynclaw18_TopoWays.tab20 timesynclaw18_TopoWays.bits20 (fun HT_ HW_ => ?_)
                                 generalize wc.drew = w93 at HO_9 HO_10 BK320 BK343 HB hx346_0 hx347_0 hHeld ⊢
                                 refine pure_ (i := 0) (N := some 123) (v := ?_) (a' := ?_) #[true, false, false, false, false, false, false, false, false, false, false, false, false, false, false, false, false] rfl rfl (any_of HT_.out (by kernel_rfl)) (fun _ _ _ h => h) (Or.inl ⟨by rfl, ?_⟩) ?_ ?_
                                 rotate_left
                                 ·intro w'
                                  go_simp
                                  with_reducible rfl
                                 rotate_left
                                 ·simp only [Act.put, List.setIfInBounds_toArray, List.set_cons_zero, List.set_cons_succ, i64_w, i32_w]
                                  rfl
                                 refine pure_ (i := 2) (N := some 125) (v := ?_) (a' := ?_) #[true, false, true, false, false, false, false, false, false, false, false, false, false, false, false, false, false] rfl rfl (any_of HT_.out (by kernel_rfl)) (fun _ _ _ h => h) (Or.inl ⟨by rfl, ?_⟩) ?_ ?_
                                 rotate_left
                                 ·intro w'
                                  go_simp
                                  with_reducible rfl
                                 rotate_left
                                 ·simp only [Act.put, List.setIfInBounds_toArray, List.set_cons_zero, List.set_cons_succ, i64_w, i32_w]
                                  rfl
                                 refine take_ (i := 1) (N := some 124) (v := ?_) (a' := ?_) #[true, true, true, false, false, false, false, false, false, false, false, false, false, false, false, false, false] rfl rfl (take_ofW HT_.out HW_.out (by kernel_rfl)) (fun _ _ _ h => h) (Or.inl ⟨by rfl, ?_⟩) hHeld ?_ ?_
                                 rotate_left
                                 ·rintro w' ⟨s0, s1, s2, s3, s4, s5⟩
                                  go_simp
                                  with_reducible rfl
                                 rotate_left
                                 ·simp only [Act.put, List.setIfInBounds_toArray, List.set_cons_zero, List.set_cons_succ, i64_w, i32_w]
                                  rfl
                                 refine pure_ (i := 3) (N := some 126) (v := ?_) (a' := ?_) #[true, true, true, true, false, false, false, false, false, false, false, false, false, false, false, false, false] rfl rfl (any_of HT_.out (by kernel_rfl)) (fun _ _ _ h => h) (Or.inl ⟨by rfl, ?_⟩) ?_ ?_
                                 rotate_left
                                 ·intro w'
                                  go_simp
                                  with_reducible rfl
                                 rotate_left
                                 ·simp only [Act.put, List.setIfInBounds_toArray, List.set_cons_zero, List.set_cons_succ, i64_w, i32_w]
                                  rfl
                                 refine pure_ (i := 4) (N := some 127) (v := ?_) (a' := ?_) #[true, true, true, true, true, false, false, false, false, false, false, false, false, false, false, false, false] rfl rfl (any_of HT_.out (by kernel_rfl)) (fun _ _ _ h => h) (Or.inl ⟨by rfl, ?_⟩) ?_ ?_
                                 rotate_left
                                 ·intro w'
                                  go_simp
                                  with_reducible rfl
                                 rotate_left
                                 ·simp only [Act.put, List.setIfInBounds_toArray, List.set_cons_zero, List.set_cons_succ, i64_w, i32_w]
                                  rfl
                                 refine pure_ (i := 5) (N := some 128) (v := ?_) (a' := ?_) #[true, true, true, true, true, true, false, false, false, false, false, false, false, false, false, false, false] rfl rfl (any_of HT_.out (by kernel_rfl)) (fun _ _ _ h => h) (Or.inl ⟨by rfl, ?_⟩) ?_ ?_
                                 rotate_left
                                 ·intro w'
                                  go_simp
                                  with_reducible rfl
                                 rotate_left
                                 ·simp only [Act.put, List.setIfInBounds_toArray, List.set_cons_zero, List.set_cons_succ, i64_w, i32_w]
                                  rfl
                                 refine pure_ (i := 6) (N := some 129) (v := ?_) (a' := ?_) #[true, true, true, true, true, true, true, false, false, false, false, false, false, false, false, false, false] rfl rfl (any_of HT_.out (by kernel_rfl)) (fun _ _ _ h => h) (Or.inl ⟨by rfl, ?_⟩) ?_ ?_
                                 rotate_left
                                 ·intro w'
                                  go_simp
                                  with_reducible rfl
                                 rotate_left
                                 ·simp only [Act.put, List.setIfInBounds_toArray, List.set_cons_zero, List.set_cons_succ, i64_w, i32_w]
                                  rfl
                                 refine pure_ (i := 10) (N := some 133) (v := ?_) (a' := ?_) #[true, true, true, true, true, true, true, false, false, false, true, false, false, false, false, false, false] rfl rfl (any_of HT_.out (by kernel_rfl)) (fun _ _ _ h => h) (Or.inl ⟨by rfl, ?_⟩) ?_ ?_
                                 rotate_left
                                 ·intro w'
                                  go_simp
                                  with_reducible rfl
                                 rotate_left
                                 ·simp only [Act.put, List.setIfInBounds_toArray, List.set_cons_zero, List.set_cons_succ, i64_w, i32_w]
                                  rfl
                                 refine pure_ (i := 11) (N := some 134) (v := ?_) (a' := ?_) #[true, true, true, true, true, true, true, false, false, false, true, true, false, false, false, false, false] rfl rfl (any_of HT_.out (by kernel_rfl)) (fun _ _ _ h => h) (Or.inl ⟨by rfl, ?_⟩) ?_ ?_
                                 rotate_left
                                 ·intro w'
                                  go_simp
                                  with_reducible rfl
                                 rotate_left
                                 ·simp only [Act.put, List.setIfInBounds_toArray, List.set_cons_zero, List.set_cons_succ, i64_w, i32_w]
                                  rfl
                                 refine pure_ (i := 12) (N := some 135) (v := ?_) (a' := ?_) #[true, true, true, true, true, true, true, false, false, false, true, true, true, false, false, false, false] rfl rfl (any_of HT_.out (by kernel_rfl)) (fun _ _ _ h => h) (Or.inl ⟨by rfl, ?_⟩) ?_ ?_
                                 rotate_left
                                 ·intro w'
                                  go_simp
                                  with_reducible rfl
                                 rotate_left
                                 ·simp only [Act.put, List.setIfInBounds_toArray, List.set_cons_zero, List.set_cons_succ, i64_w, i32_w]
                                  rfl
                                 refine take_ (i := 7) (N := some 130) (v := ?_) (a' := ?_) #[true, true, true, true, true, true, true, true, false, false, true, true, true, false, false, false, false] rfl rfl (take_ofW HT_.out HW_.out (by kernel_rfl)) (fun _ _ _ h => h) (Or.inl ⟨by rfl, ?_⟩) hHeld ?_ ?_
                                 rotate_left
                                 ·rintro w' ⟨s0, s1, s2, s3, s4, s5⟩
                                  go_simp
                                  with_reducible rfl
                                 rotate_left
                                 ·simp only [Act.put, List.setIfInBounds_toArray, List.set_cons_zero, List.set_cons_succ, i64_w, i32_w]
                                  rfl
                                 refine pure_ (i := 8) (N := some 131) (v := ?_) (a' := ?_) #[true, true, true, true, true, true, true, true, true, false, true, true, true, false, false, false, false] rfl rfl (any_of HT_.out (by kernel_rfl)) (fun _ _ _ h => h) (Or.inl ⟨by rfl, ?_⟩) ?_ ?_
                                 rotate_left
                                 ·intro w'
                                  go_simp
                                  with_reducible rfl
                                 rotate_left
                                 ·simp only [Act.put, List.setIfInBounds_toArray, List.set_cons_zero, List.set_cons_succ, i64_w, i32_w]
                                  rfl
                                 refine take_ (i := 9) (N := some 132) (v := ?_) (a' := ?_) #[true, true, true, true, true, true, true, true, true, true, true, true, true, false, false, false, false] rfl rfl (take_ofW HT_.out HW_.out (by kernel_rfl)) (fun _ _ _ h => h) (Or.inl ⟨by rfl, ?_⟩) hHeld ?_ ?_
                                 rotate_left
                                 ·rintro w' ⟨s0, s1, s2, s3, s4, s5⟩
                                  go_simp
                                  with_reducible rfl
                                 rotate_left
                                 ·simp only [Act.put, List.setIfInBounds_toArray, List.set_cons_zero, List.set_cons_succ, i64_w, i32_w]
                                  rfl
                                 refine take_ (i := 13) (N := some 136) (v := ?_) (a' := ?_) #[true, true, true, true, true, true, true, true, true, true, true, true, true, true, false, false, false] rfl rfl (take_ofW HT_.out HW_.out (by kernel_rfl)) (fun _ _ _ h => h) (Or.inl ⟨by rfl, ?_⟩) hHeld ?_ ?_
                                 rotate_left
                                 ·rintro w' ⟨s0, s1, s2, s3, s4, s5⟩
                                  go_simp
                                  with_reducible rfl
                                 rotate_left
                                 ·simp only [Act.put, List.setIfInBounds_toArray, List.set_cons_zero, List.set_cons_succ, i64_w, i32_w]
                                  rfl
                                 refine pure_ (i := 14) (N := some 137) (v := ?_) (a' := ?_) #[true, true, true, true, true, true, true, true, true, true, true, true, true, true, true, false, false] rfl rfl (any_of HT_.out (by kernel_rfl)) (fun _ _ _ h => h) (Or.inl ⟨by rfl, ?_⟩) ?_ ?_
                                 rotate_left
                                 ·intro w'
                                  go_simp
                                  with_reducible rfl
                                 rotate_left
                                 ·simp only [Act.put, List.setIfInBounds_toArray, List.set_cons_zero, List.set_cons_succ, i64_w, i32_w]
                                  rfl
                                 refine pure_ (i := 15) (N := some 138) (v := ?_) (a' := ?_) #[true, true, true, true, true, true, true, true, true, true, true, true, true, true, true, true, false] rfl rfl (any_of HT_.out (by kernel_rfl)) (fun _ _ _ h => h) (Or.inl ⟨by rfl, ?_⟩) ?_ ?_
                                 rotate_left
                                 ·intro w'
                                  go_simp
                                  with_reducible rfl
                                 rotate_left
                                 ·simp only [Act.put, List.setIfInBounds_toArray, List.set_cons_zero, List.set_cons_succ, i64_w, i32_w]
                                  rfl
                                 refine pure_ (i := 16) (N := some 139) (v := ?_) (a' := ?_) #[true, true, true, true, true, true, true, true, true, true, true, true, true, true, true, true, true] rfl rfl (any_of HT_.out (by kernel_rfl)) (fun _ _ _ h => h) (Or.inl ⟨by rfl, ?_⟩) ?_ ?_
                                 rotate_left
                                 ·intro w'
                                  go_simp
                                  with_reducible rfl
                                 rotate_left
                                 ·simp only [Act.put, List.setIfInBounds_toArray, List.set_cons_zero, List.set_cons_succ, i64_w, i32_w]
                                  rfl
                                 refine done_ (done_of HT_.out (by kernel_rfl)) ?_
                                 try go_wp2
                                 go_roundg kj64
                                 case measure => have := HJ3.out; have := HJ35.out; have := HK3.out; have := HK4.out; have := HJ64.out; omega
                                 case rel => exact ⟨(ji79), (wrap64 (x98_4 + 1)), (by first | rfl | (simp; done) | (simp only [← hji79] <;> (first | rfl | simp)) | (simp [*]; done)), (by first | rfl | (simp; done) | (simp [*]; done)), H', ⟨by have := HJ3.out; have := HJ35.out; have := HK3.out; have := HK4.out; have := HJ64.out; omega⟩, ⟨by exact HO_9.out⟩, ⟨by exact HO_10.out⟩, ⟨by exact BK320.out⟩, ⟨by exact HB.out⟩⟩
                               ·rw [if_neg c84] at H
                                exact absurd H (by simp)
                              ·rw [if_neg c83] at H
                               exact absurd H (by simp)
                             ·rw [if_neg c82] at H
                              exact absurd H (by simp)
                            ·rw [if_neg c81] at H
                             exact absurd H (by simp)
                           ·rw [if_neg c80] at H
                            have c80b0 : (((rd_T37 l0_1 x98_4).f2) == (rd y335 x88_3)) = false := beq_eq_false_iff_ne.mpr c80
                            have c80b1 : (((rd_T37 l0_1 x98_4).f2) != (rd y335 x88_3)) = true := bne_iff_ne.mpr c80
                            have H' := Aside0.mk H
                            clear H
                            have hnb94 := NB343_320.out
                            have hnc94 := NB320_343.out
                            have hcz95_0 : wc.cell? ⟨gb343, 0, none⟩ = some (.int .i64 ((rd_T37 l0_1 x98_4).f0)) := (blk_cell BK343.out 0).trans rfl
                            have hcz95_1 : wc.cell? ⟨gb343, 1, none⟩ = some (.int .i64 ((rd_T37 l0_1 x98_4).f1)) := (blk_cell BK343.out 1).trans rfl
                            have hcz95_2 : wc.cell? ⟨gb343, 2, none⟩ = some (.int .i64 ((rd_T37 l0_1 x98_4).f2)) := (blk_cell BK343.out 2).trans rfl
                            have hcz95_3 : wc.cell? ⟨gb343, 3, none⟩ = some (.int .i64 ((rd_T37 l0_1 x98_4).f3)) := (blk_cell BK343.out 3).trans rfl
                            have hfz95_0 := blk_frozen BK343.out 0
                            have hfz95_1 := blk_frozen BK343.out 1
                            have hfz95_2 := blk_frozen BK343.out 2
                            have hfz95_3 := blk_frozen BK343.out 3
                            try go_wp2
                            have n0_ := Aside0.mk (Kd.R_drew HO_9.out)
                            have n1_ := Aside0.mk (Kd.R_drew HO_10.out)
                            have n2_ := Aside0.mk (blk_drew BK320.out)
                            have n3_ := Aside0.mk (blk_drew BK343.out)
                            have n4_ := Aside0.mk (below_drew1 HB.out)
                            clear HO_9
                            clear HO_10
                            clear BK320
                            clear BK343
                            clear HB
                            have HO_9 := n0_
                            have HO_10 := n1_
                            have BK320 := n2_
                            have BK343 := n3_
                            have HB := n4_
                            clear n0_ n1_ n2_ n3_ n4_
                            refine start_ (n := 17) (S := fun w' => w'.cell? ⟨gb343, 0, none⟩ = some (.int .i64 ((rd_T37 l0_1 x98_4).f0)) ∧ w'.cell? ⟨gb343, 1, none⟩ = some (.int .i64 ((rd_T37 l0_1 x98_4).f1)) ∧ w'.cell? ⟨gb343, 2, none⟩ = some (.int .i64 ((rd_T37 l0_1 x98_4).f2)) ∧ w'.cell? ⟨gb343, 3, none⟩ = some (.int .i64 ((rd_T37 l0_1 x98_4).f3))) (ds := []) #[false, false, false, false, false, false, false, false, false, false, false, false, false, false, false, false, false] (by kernel_rfl) rfl rfl ⟨(blk_cell BK343.out 0).trans rfl, (blk_cell BK343.out 1).trans rfl, (blk_cell BK343.out 2).trans rfl, (blk_cell BK343.out 3).trans rfl⟩ (fun hHeld => ?_); refine with_tabW timesynclaw18_TopoWays.tab20 timesynclaw18_TopoWays.bits20 (fun HT_ HW_ => ?_)
                            generalize wc.drew = w96 at HO_9 HO_10 BK320 BK343 HB hHeld ⊢
                            refine pure_ (i := 0) (N := some 123) (v := ?_) (a' := ?_) #[true, false, false, false, false, false, false, false, false, false, false, false, false, false, false, false, false] rfl rfl (any_of HT_.out (by kernel_rfl)) (fun _ _ _ h => h) (Or.inl ⟨by rfl, ?_⟩) ?_ ?_
                            rotate_left
                            ·intro w'
                             go_simp
                             with_reducible rfl
                            rotate_left
                            ·simp only [Act.put, List.setIfInBounds_toArray, List.set_cons_zero, List.set_cons_succ, i64_w, i32_w]
                             rfl
                            refine pure_ (i := 2) (N := some 125) (v := ?_) (a' := ?_) #[true, false, true, false, false, false, false, false, false, false, false, false, false, false, false, false, false] rfl rfl (any_of HT_.out (by kernel_rfl)) (fun _ _ _ h => h) (Or.inl ⟨by rfl, ?_⟩) ?_ ?_
                            rotate_left
                            ·intro w'
                             go_simp
                             with_reducible rfl
                            rotate_left
                            ·simp only [Act.put, List.setIfInBounds_toArray, List.set_cons_zero, List.set_cons_succ, i64_w, i32_w]
                             rfl
                            refine take_ (i := 1) (N := some 124) (v := ?_) (a' := ?_) #[true, true, true, false, false, false, false, false, false, false, false, false, false, false, false, false, false] rfl rfl (take_ofW HT_.out HW_.out (by kernel_rfl)) (fun _ _ _ h => h) (Or.inl ⟨by rfl, ?_⟩) hHeld ?_ ?_
                            rotate_left
                            ·rintro w' ⟨s0, s1, s2, s3⟩
                             go_simp
                             with_reducible rfl
                            rotate_left
                            ·simp only [Act.put, List.setIfInBounds_toArray, List.set_cons_zero, List.set_cons_succ, i64_w, i32_w]
                             rfl
                            refine pure_ (i := 3) (N := some 126) (v := ?_) (a' := ?_) #[true, true, true, true, false, false, false, false, false, false, false, false, false, false, false, false, false] rfl rfl (any_of HT_.out (by kernel_rfl)) (fun _ _ _ h => h) (Or.inl ⟨by rfl, ?_⟩) ?_ ?_
                            rotate_left
                            ·intro w'
                             go_simp
                             with_reducible rfl
                            rotate_left
                            ·simp only [Act.put, List.setIfInBounds_toArray, List.set_cons_zero, List.set_cons_succ, i64_w, i32_w]
                             rfl
                            refine pure_ (i := 4) (N := some 127) (v := ?_) (a' := ?_) #[true, true, true, true, true, false, false, false, false, false, false, false, false, false, false, false, false] rfl rfl (any_of HT_.out (by kernel_rfl)) (fun _ _ _ h => h) (Or.inl ⟨by rfl, ?_⟩) ?_ ?_
                            rotate_left
                            ·intro w'
                             go_simp
                             with_reducible rfl
                            rotate_left
                            ·simp only [Act.put, List.setIfInBounds_toArray, List.set_cons_zero, List.set_cons_succ, i64_w, i32_w]
                             rfl
                            refine pure_ (i := 5) (N := some 128) (v := undef) (a' := ?_) #[true, true, true, true, true, true, false, false, false, false, false, false, false, false, false, false, false] rfl rfl (any_of HT_.out (by kernel_rfl)) (fun _ _ _ h => h) (Or.inr ⟨by rfl, rfl⟩) ?_ ?_
                            rotate_left
                            ·simp only [Act.put, List.setIfInBounds_toArray, List.set_cons_zero, List.set_cons_succ, i64_w, i32_w]
                             rfl
                            refine pure_ (i := 6) (N := some 129) (v := undef) (a' := ?_) #[true, true, true, true, true, true, true, false, false, false, false, false, false, false, false, false, false] rfl rfl (any_of HT_.out (by kernel_rfl)) (fun _ _ _ h => h) (Or.inr ⟨by rfl, rfl⟩) ?_ ?_
                            rotate_left
                            ·simp only [Act.put, List.setIfInBounds_toArray, List.set_cons_zero, List.set_cons_succ, i64_w, i32_w]
                             rfl
                            refine pure_ (i := 7) (N := some 130) (v := undef) (a' := ?_) #[true, true, true, true, true, true, true, true, false, false, false, false, false, false, false, false, false] rfl rfl (any_of HT_.out (by kernel_rfl)) (fun _ _ _ h => h) (Or.inr ⟨by rfl, rfl⟩) ?_ ?_
                            rotate_left
                            ·simp only [Act.put, List.setIfInBounds_toArray, List.set_cons_zero, List.set_cons_succ, i64_w, i32_w]
                             rfl
                            refine pure_ (i := 8) (N := some 131) (v := undef) (a' := ?_) #[true, true, true, true, true, true, true, true, true, false, false, false, false, false, false, false, false] rfl rfl (any_of HT_.out (by kernel_rfl)) (fun _ _ _ h => h) (Or.inr ⟨by rfl, rfl⟩) ?_ ?_
                            rotate_left
                            ·simp only [Act.put, List.setIfInBounds_toArray, List.set_cons_zero, List.set_cons_succ, i64_w, i32_w]
                             rfl
                            refine pure_ (i := 9) (N := some 132) (v := undef) (a' := ?_) #[true, true, true, true, true, true, true, true, true, true, false, false, false, false, false, false, false] rfl rfl (any_of HT_.out (by kernel_rfl)) (fun _ _ _ h => h) (Or.inr ⟨by rfl, rfl⟩) ?_ ?_
                            rotate_left
                            ·simp only [Act.put, List.setIfInBounds_toArray, List.set_cons_zero, List.set_cons_succ, i64_w, i32_w]
                             rfl
                            refine pure_ (i := 10) (N := some 133) (v := undef) (a' := ?_) #[true, true, true, true, true, true, true, true, true, true, true, false, false, false, false, false, false] rfl rfl (any_of HT_.out (by kernel_rfl)) (fun _ _ _ h => h) (Or.inr ⟨by rfl, rfl⟩) ?_ ?_
                            rotate_left
                            ·simp only [Act.put, List.setIfInBounds_toArray, List.set_cons_zero, List.set_cons_succ, i64_w, i32_w]
                             rfl
                            refine pure_ (i := 11) (N := some 134) (v := undef) (a' := ?_) #[true, true, true, true, true, true, true, true, true, true, true, true, false, false, false, false, false] rfl rfl (any_of HT_.out (by kernel_rfl)) (fun _ _ _ h => h) (Or.inr ⟨by rfl, rfl⟩) ?_ ?_
                            rotate_left
                            ·simp only [Act.put, List.setIfInBounds_toArray, List.set_cons_zero, List.set_cons_succ, i64_w, i32_w]
                             rfl
                            refine pure_ (i := 12) (N := some 135) (v := undef) (a' := ?_) #[true, true, true, true, true, true, true, true, true, true, true, true, true, false, false, false, false] rfl rfl (any_of HT_.out (by kernel_rfl)) (fun _ _ _ h => h) (Or.inr ⟨by rfl, rfl⟩) ?_ ?_
                            rotate_left
                            ·simp only [Act.put, List.setIfInBounds_toArray, List.set_cons_zero, List.set_cons_succ, i64_w, i32_w]
                             rfl
                            refine pure_ (i := 13) (N := some 136) (v := undef) (a' := ?_) #[true, true, true, true, true, true, true, true, true, true, true, true, true, true, false, false, false] rfl rfl (any_of HT_.out (by kernel_rfl)) (fun _ _ _ h => h) (Or.inr ⟨by rfl, rfl⟩) ?_ ?_
                            rotate_left
                            ·simp only [Act.put, List.setIfInBounds_toArray, List.set_cons_zero, List.set_cons_succ, i64_w, i32_w]
                             rfl
                            refine pure_ (i := 14) (N := some 137) (v := undef) (a' := ?_) #[true, true, true, true, true, true, true, true, true, true, true, true, true, true, true, false, false] rfl rfl (any_of HT_.out (by kernel_rfl)) (fun _ _ _ h => h) (Or.inr ⟨by rfl, rfl⟩) ?_ ?_
                            rotate_left
                            ·simp only [Act.put, List.setIfInBounds_toArray, List.set_cons_zero, List.set_cons_succ, i64_w, i32_w]
                             rfl
                            refine pure_ (i := 15) (N := some 138) (v := undef) (a' := ?_) #[true, true, true, true, true, true, true, true, true, true, true, true, true, true, true, true, false] rfl rfl (any_of HT_.out (by kernel_rfl)) (fun _ _ _ h => h) (Or.inr ⟨by rfl, rfl⟩) ?_ ?_
                            rotate_left
                            ·simp only [Act.put, List.setIfInBounds_toArray, List.set_cons_zero, List.set_cons_succ, i64_w, i32_w]
                             rfl
                            refine pure_ (i := 16) (N := some 139) (v := ?_) (a' := ?_) #[true, true, true, true, true, true, true, true, true, true, true, true, true, true, true, true, true] rfl rfl (any_of HT_.out (by kernel_rfl)) (fun _ _ _ h => h) (Or.inl ⟨by rfl, ?_⟩) ?_ ?_
                            rotate_left
                            ·intro w'
                             go_simp
                             with_reducible rfl
                            rotate_left
                            ·simp only [Act.put, List.setIfInBounds_toArray, List.set_cons_zero, List.set_cons_succ, i64_w, i32_w]
                             rfl
                            refine done_ (done_of HT_.out (by kernel_rfl)) ?_
                            try go_wp2
                            go_roundg kj64
                            case measure => have := HJ3.out; have := HJ35.out; have := HK3.out; have := HK4.out; have := HJ64.out; omega
                            case rel => exact ⟨(ji79), (wrap64 (x98_4 + 1)), (by first | rfl | (simp; done) | (simp only [← hji79] <;> (first | rfl | simp)) | (simp [*]; done)), (by first | rfl | (simp; done) | (simp [*]; done)), H', ⟨by have := HJ3.out; have := HJ35.out; have := HK3.out; have := HK4.out; have := HJ64.out; omega⟩, ⟨by exact HO_9.out⟩, ⟨by exact HO_10.out⟩, ⟨by exact BK320.out⟩, ⟨by exact HB.out⟩⟩
                          ·replace c78 := Bool.eq_false_iff.mpr c78
                           subst c78
                           have H1 : (if ((rd_T37 l0_1 x98_4).f2) = (rd y335 x88_3) then (if 0 ≤ ((rd_T37 l0_1 x98_4).f0) then (if ((rd_T37 l0_1 x98_4).f0) < (t327.length : Int) then (if 0 ≤ (rd y335 x88_3) then (if (rd y335 x88_3) < (t327.length : Int) then (if (rd t327 ((rd_T37 l0_1 x98_4).f0)) = (wrap64 ((rd t327 (rd y335 x88_3)) - 1)) then (timesynclaw18_TopoWays.l1 kj64 t324 t327 x88_3 (rd y335 x88_3) (mn x13_4 ((rd_T37 l0_1 x98_4).f0)) y335 (y335.length : Int) x88_3 l0_1 (l0_1.length : Int) (wrap64 (x98_4 + 1)) a0_0 l0_1) else (timesynclaw18_TopoWays.l1 kj64 t324 t327 x88_3 (rd y335 x88_3) x13_4 y335 (y335.length : Int) x88_3 l0_1 (l0_1.length : Int) (wrap64 (x98_4 + 1)) a0_0 l0_1)) else (none)) else (none)) else (none)) else (none)) else (timesynclaw18_TopoWays.l1 kj64 t324 t327 x88_3 (rd y335 x88_3) x13_4 y335 (y335.length : Int) x88_3 l0_1 (l0_1.length : Int) (wrap64 (x98_4 + 1)) a0_0 l0_1)) = some r := by rw [if_neg (show ¬ (false = true) by decide)] at H; exact H
                           clear H
                           have H := H1
                           clear H1
                           by_cases c97 : ((rd_T37 l0_1 x98_4).f2) = (rd y335 x88_3)
                           ·rw [if_pos c97] at H
                            have c97b0 : (((rd_T37 l0_1 x98_4).f2) == (rd y335 x88_3)) = true := beq_iff_eq.mpr c97
                            have c97b1 : (((rd_T37 l0_1 x98_4).f2) != (rd y335 x88_3)) = false := bne_eq_false_iff_eq.mpr c97
                            clear c97
                            by_cases c98 : 0 ≤ ((rd_T37 l0_1 x98_4).f0)
                            ·rw [if_pos c98] at H
                             have c98b0 : decide (0 ≤ ((rd_T37 l0_1 x98_4).f0)) = true := decide_eq_true c98
                             clear c98
                             by_cases c99 : ((rd_T37 l0_1 x98_4).f0) < (t327.length : Int)
                             ·rw [if_pos c99] at H
                              have c99b0 : decide (((rd_T37 l0_1 x98_4).f0) < (t327.length : Int)) = true := decide_eq_true c99
                              clear c99
                              by_cases c100 : 0 ≤ (rd y335 x88_3)
                              ·rw [if_pos c100] at H
                               have c100b0 : decide (0 ≤ (rd y335 x88_3)) = true := decide_eq_true c100
                               clear c100
                               by_cases c101 : (rd y335 x88_3) < (t327.length : Int)
                               ·rw [if_pos c101] at H
                                have c101b0 : decide ((rd y335 x88_3) < (t327.length : Int)) = true := decide_eq_true c101
                                clear c101
                                by_cases c102 : (rd t327 ((rd_T37 l0_1 x98_4).f0)) = (wrap64 ((rd t327 (rd y335 x88_3)) - 1))
                                ·rw [if_pos c102] at H
                                 have c102b0 : ((rd t327 ((rd_T37 l0_1 x98_4).f0)) == (wrap64 ((rd t327 (rd y335 x88_3)) - 1))) = true := beq_iff_eq.mpr c102
                                 have c102b1 : ((rd t327 ((rd_T37 l0_1 x98_4).f0)) != (wrap64 ((rd t327 (rd y335 x88_3)) - 1))) = false := bne_eq_false_iff_eq.mpr c102
                                 clear c102
                                 obtain ⟨ji103, hji103⟩ : ∃ j_ : Int, (mn x13_4 ((rd_T37 l0_1 x98_4).f0)) = j_ := ⟨_, rfl⟩
                                 replace H : (timesynclaw18_TopoWays.l1 kj64 t324 t327 x88_3 (rd y335 x88_3) ji103 y335 (y335.length : Int) x88_3 l0_1 (l0_1.length : Int) (wrap64 (x98_4 + 1)) a0_0 l0_1) = some r := by first | (rw [hji103] at H; exact H) | (simp only [hji103] at H ⊢; exact H)
                                 have hji103_ : (if ((rd_T37 l0_1 x98_4).f0) < x13_4 then ((rd_T37 l0_1 x98_4).f0) else x13_4) = ji103 := hji103
                                 have H' := Aside0.mk H
                                 clear H
                                 try go_wp2
                                 have n0_ := Aside0.mk (Kd.R_drew HO_9.out)
                                 have n1_ := Aside0.mk (Kd.R_drew HO_10.out)
                                 have n2_ := Aside0.mk (blk_drew BK320.out)
                                 have n3_ := Aside0.mk (blk_drew BK343.out)
                                 have n4_ := Aside0.mk (below_drew1 HB.out)
                                 clear HO_9
                                 clear HO_10
                                 clear BK320
                                 clear BK343
                                 clear HB
                                 have HO_9 := n0_
                                 have HO_10 := n1_
                                 have BK320 := n2_
                                 have BK343 := n3_
                                 have HB := n4_
                                 clear n0_ n1_ n2_ n3_ n4_
                                 have p348 : 0 ≤ (((rd_T37 l0_1 x98_4).f0) : Int) := of_decide_eq_true (by first | (with_reducible assumption) | assumption)
                                 have q348 : ((rd_T37 l0_1 x98_4).f0) < (t327.length : Int) := of_decide_eq_true (by first | (with_reducible assumption) | assumption)
                                 obtain ⟨ad348, e348, hx348_0⟩ := Kd.at_int (Kd.R_reads' HO_10.out).2.2 ((rd_T37 l0_1 x98_4).f0) p348 q348
                                 obtain rfl : ad330 = ad348 := (by injection e348)
                                 replace p348 := eq_true p348
                                 replace q348 := eq_true q348
                                 have p349 : 0 ≤ ((rd y335 x88_3) : Int) := of_decide_eq_true (by first | (with_reducible assumption) | assumption)
                                 have q349 : (rd y335 x88_3) < (t327.length : Int) := of_decide_eq_true (by first | (with_reducible assumption) | assumption)
                                 obtain ⟨ad349, e349, hx349_0⟩ := Kd.at_int (Kd.R_reads' HO_10.out).2.2 (rd y335 x88_3) p349 q349
                                 obtain rfl : ad330 = ad349 := (by injection e349)
                                 replace p349 := eq_true p349
                                 replace q349 := eq_true q349
                                 refine start_ (n := 17) (S := fun w' => w'.cell? ⟨gb343, 0, none⟩ = some (.int .i64 ((rd_T37 l0_1 x98_4).f0)) ∧ w'.cell? ⟨gb343, 1, none⟩ = some (.int .i64 ((rd_T37 l0_1 x98_4).f1)) ∧ w'.cell? ⟨gb343, 2, none⟩ = some (.int .i64 ((rd_T37 l0_1 x98_4).f2)) ∧ w'.cell? ⟨gb343, 3, none⟩ = some (.int .i64 ((rd_T37 l0_1 x98_4).f3)) ∧ w'.cell? (ad330.add (((rd_T37 l0_1 x98_4).f0)).toNat) = some (.int .i64 (rd t327 ((rd_T37 l0_1 x98_4).f0))) ∧ w'.cell? (ad330.add ((rd y335 x88_3)).toNat) = some (.int .i64 (rd t327 (rd y335 x88_3)))) (ds := []) #[false, false, false, false, false, false, false, false, false, false, false, false, false, false, false, false, false] (by kernel_rfl) rfl rfl ⟨(blk_cell BK343.out 0).trans rfl, (blk_cell BK343.out 1).trans rfl, (blk_cell BK343.out 2).trans rfl, (blk_cell BK343.out 3).trans rfl, hx348_0, hx349_0⟩ (fun hHeld => ?_); refine with_tabW timesynclaw18_TopoWays.tab20 timesynclaw18_TopoWays.bits20 (fun HT_ HW_ => ?_)
                                 generalize wc.drew = w104 at HO_9 HO_10 BK320 BK343 HB hx348_0 hx349_0 hHeld ⊢
                                 refine pure_ (i := 0) (N := some 123) (v := ?_) (a' := ?_) #[true, false, false, false, false, false, false, false, false, false, false, false, false, false, false, false, false] rfl rfl (any_of HT_.out (by kernel_rfl)) (fun _ _ _ h => h) (Or.inl ⟨by rfl, ?_⟩) ?_ ?_
                                 rotate_left
                                 ·intro w'
                                  go_simp
                                  with_reducible rfl
                                 rotate_left
                                 ·simp only [Act.put, List.setIfInBounds_toArray, List.set_cons_zero, List.set_cons_succ, i64_w, i32_w]
                                  rfl
                                 refine pure_ (i := 2) (N := some 125) (v := ?_) (a' := ?_) #[true, false, true, false, false, false, false, false, false, false, false, false, false, false, false, false, false] rfl rfl (any_of HT_.out (by kernel_rfl)) (fun _ _ _ h => h) (Or.inl ⟨by rfl, ?_⟩) ?_ ?_
                                 rotate_left
                                 ·intro w'
                                  go_simp
                                  with_reducible rfl
                                 rotate_left
                                 ·simp only [Act.put, List.setIfInBounds_toArray, List.set_cons_zero, List.set_cons_succ, i64_w, i32_w]
                                  rfl
                                 refine take_ (i := 1) (N := some 124) (v := ?_) (a' := ?_) #[true, true, true, false, false, false, false, false, false, false, false, false, false, false, false, false, false] rfl rfl (take_ofW HT_.out HW_.out (by kernel_rfl)) (fun _ _ _ h => h) (Or.inl ⟨by rfl, ?_⟩) hHeld ?_ ?_
                                 rotate_left
                                 ·rintro w' ⟨s0, s1, s2, s3, s4, s5⟩
                                  go_simp
                                  with_reducible rfl
                                 rotate_left
                                 ·simp only [Act.put, List.setIfInBounds_toArray, List.set_cons_zero, List.set_cons_succ, i64_w, i32_w]
                                  rfl
                                 refine pure_ (i := 3) (N := some 126) (v := ?_) (a' := ?_) #[true, true, true, true, false, false, false, false, false, false, false, false, false, false, false, false, false] rfl rfl (any_of HT_.out (by kernel_rfl)) (fun _ _ _ h => h) (Or.inl ⟨by rfl, ?_⟩) ?_ ?_
                                 rotate_left
                                 ·intro w'
                                  go_simp
                                  with_reducible rfl
                                 rotate_left
                                 ·simp only [Act.put, List.setIfInBounds_toArray, List.set_cons_zero, List.set_cons_succ, i64_w, i32_w]
                                  rfl
                                 refine pure_ (i := 4) (N := some 127) (v := ?_) (a' := ?_) #[true, true, true, true, true, false, false, false, false, false, false, false, false, false, false, false, false] rfl rfl (any_of HT_.out (by kernel_rfl)) (fun _ _ _ h => h) (Or.inl ⟨by rfl, ?_⟩) ?_ ?_
                                 rotate_left
                                 ·intro w'
                                  go_simp
                                  with_reducible rfl
                                 rotate_left
                                 ·simp only [Act.put, List.setIfInBounds_toArray, List.set_cons_zero, List.set_cons_succ, i64_w, i32_w]
                                  rfl
                                 refine pure_ (i := 5) (N := some 128) (v := ?_) (a' := ?_) #[true, true, true, true, true, true, false, false, false, false, false, false, false, false, false, false, false] rfl rfl (any_of HT_.out (by kernel_rfl)) (fun _ _ _ h => h) (Or.inl ⟨by rfl, ?_⟩) ?_ ?_
                                 rotate_left
                                 ·intro w'
                                  go_simp
                                  with_reducible rfl
                                 rotate_left
                                 ·simp only [Act.put, List.setIfInBounds_toArray, List.set_cons_zero, List.set_cons_succ, i64_w, i32_w]
                                  rfl
                                 refine pure_ (i := 6) (N := some 129) (v := ?_) (a' := ?_) #[true, true, true, true, true, true, true, false, false, false, false, false, false, false, false, false, false] rfl rfl (any_of HT_.out (by kernel_rfl)) (fun _ _ _ h => h) (Or.inl ⟨by rfl, ?_⟩) ?_ ?_
                                 rotate_left
                                 ·intro w'
                                  go_simp
                                  with_reducible rfl
                                 rotate_left
                                 ·simp only [Act.put, List.setIfInBounds_toArray, List.set_cons_zero, List.set_cons_succ, i64_w, i32_w]
                                  rfl
                                 refine pure_ (i := 10) (N := some 133) (v := ?_) (a' := ?_) #[true, true, true, true, true, true, true, false, false, false, true, false, false, false, false, false, false] rfl rfl (any_of HT_.out (by kernel_rfl)) (fun _ _ _ h => h) (Or.inl ⟨by rfl, ?_⟩) ?_ ?_
                                 rotate_left
                                 ·intro w'
                                  go_simp
                                  with_reducible rfl
                                 rotate_left
                                 ·simp only [Act.put, List.setIfInBounds_toArray, List.set_cons_zero, List.set_cons_succ, i64_w, i32_w]
                                  rfl
                                 refine pure_ (i := 11) (N := some 134) (v := ?_) (a' := ?_) #[true, true, true, true, true, true, true, false, false, false, true, true, false, false, false, false, false] rfl rfl (any_of HT_.out (by kernel_rfl)) (fun _ _ _ h => h) (Or.inl ⟨by rfl, ?_⟩) ?_ ?_
                                 rotate_left
                                 ·intro w'
                                  go_simp
                                  with_reducible rfl
                                 rotate_left
                                 ·simp only [Act.put, List.setIfInBounds_toArray, List.set_cons_zero, List.set_cons_succ, i64_w, i32_w]
                                  rfl
                                 refine pure_ (i := 12) (N := some 135) (v := ?_) (a' := ?_) #[true, true, true, true, true, true, true, false, false, false, true, true, true, false, false, false, false] rfl rfl (any_of HT_.out (by kernel_rfl)) (fun _ _ _ h => h) (Or.inl ⟨by rfl, ?_⟩) ?_ ?_
                                 rotate_left
                                 ·intro w'
                                  go_simp
                                  with_reducible rfl
                                 rotate_left
                                 ·simp only [Act.put, List.setIfInBounds_toArray, List.set_cons_zero, List.set_cons_succ, i64_w, i32_w]
                                  rfl
                                 refine take_ (i := 7) (N := some 130) (v := ?_) (a' := ?_) #[true, true, true, true, true, true, true, true, false, false, true, true, true, false, false, false, false] rfl rfl (take_ofW HT_.out HW_.out (by kernel_rfl)) (fun _ _ _ h => h) (Or.inl ⟨by rfl, ?_⟩) hHeld ?_ ?_
                                 rotate_left
                                 ·rintro w' ⟨s0, s1, s2, s3, s4, s5⟩
                                  go_simp
                                  with_reducible rfl
                                 rotate_left
                                 ·simp only [Act.put, List.setIfInBounds_toArray, List.set_cons_zero, List.set_cons_succ, i64_w, i32_w]
                                  rfl
                                 refine pure_ (i := 8) (N := some 131) (v := ?_) (a' := ?_) #[true, true, true, true, true, true, true, true, true, false, true, true, true, false, false, false, false] rfl rfl (any_of HT_.out (by kernel_rfl)) (fun _ _ _ h => h) (Or.inl ⟨by rfl, ?_⟩) ?_ ?_
                                 rotate_left
                                 ·intro w'
                                  go_simp
                                  with_reducible rfl
                                 rotate_left
                                 ·simp only [Act.put, List.setIfInBounds_toArray, List.set_cons_zero, List.set_cons_succ, i64_w, i32_w]
                                  rfl
                                 refine take_ (i := 9) (N := some 132) (v := ?_) (a' := ?_) #[true, true, true, true, true, true, true, true, true, true, true, true, true, false, false, false, false] rfl rfl (take_ofW HT_.out HW_.out (by kernel_rfl)) (fun _ _ _ h => h) (Or.inl ⟨by rfl, ?_⟩) hHeld ?_ ?_
                                 rotate_left
                                 ·rintro w' ⟨s0, s1, s2, s3, s4, s5⟩
                                  go_simp
                                  with_reducible rfl
                                 rotate_left
                                 ·simp only [Act.put, List.setIfInBounds_toArray, List.set_cons_zero, List.set_cons_succ, i64_w, i32_w]
                                  rfl
                                 refine take_ (i := 13) (N := some 136) (v := ?_) (a' := ?_) #[true, true, true, true, true, true, true, true, true, true, true, true, true, true, false, false, false] rfl rfl (take_ofW HT_.out HW_.out (by kernel_rfl)) (fun _ _ _ h => h) (Or.inl ⟨by rfl, ?_⟩) hHeld ?_ ?_
                                 rotate_left
                                 ·rintro w' ⟨s0, s1, s2, s3, s4, s5⟩
                                  go_simp
                                  with_reducible rfl
                                 rotate_left
                                 ·simp only [Act.put, List.setIfInBounds_toArray, List.set_cons_zero, List.set_cons_succ, i64_w, i32_w]
                                  rfl
                                 refine pure_ (i := 14) (N := some 137) (v := ?_) (a' := ?_) #[true, true, true, true, true, true, true, true, true, true, true, true, true, true, true, false, false] rfl rfl (any_of HT_.out (by kernel_rfl)) (fun _ _ _ h => h) (Or.inl ⟨by rfl, ?_⟩) ?_ ?_
                                 rotate_left
                                 ·intro w'
                                  go_simp
                                  with_reducible rfl
                                 rotate_left
                                 ·simp only [Act.put, List.setIfInBounds_toArray, List.set_cons_zero, List.set_cons_succ, i64_w, i32_w]
                                  rfl
                                 refine pure_ (i := 15) (N := some 138) (v := ?_) (a' := ?_) #[true, true, true, true, true, true, true, true, true, true, true, true, true, true, true, true, false] rfl rfl (any_of HT_.out (by kernel_rfl)) (fun _ _ _ h => h) (Or.inl ⟨by rfl, ?_⟩) ?_ ?_
                                 rotate_left
                                 ·intro w'
                                  go_simp
                                  with_reducible rfl
                                 rotate_left
                                 ·simp only [Act.put, List.setIfInBounds_toArray, List.set_cons_zero, List.set_cons_succ, i64_w, i32_w]
                                  rfl
                                 refine pure_ (i := 16) (N := some 139) (v := ?_) (a' := ?_) #[true, true, true, true, true, true, true, true, true, true, true, true, true, true, true, true, true] rfl rfl (any_of HT_.out (by kernel_rfl)) (fun _ _ _ h => h) (Or.inl ⟨by rfl, ?_⟩) ?_ ?_
                                 rotate_left
                                 ·intro w'
                                  go_simp
                                  with_reducible rfl
                                 rotate_left
                                 ·simp only [Act.put, List.setIfInBounds_toArray, List.set_cons_zero, List.set_cons_succ, i64_w, i32_w]
                                  rfl
                                 refine done_ (done_of HT_.out (by kernel_rfl)) ?_
                                 have hnb105 := NB343_320.out
                                 have hnc105 := NB320_343.out
                                 have hcz106_0 : w104.cell? ⟨gb343, 0, none⟩ = some (.int .i64 ((rd_T37 l0_1 x98_4).f0)) := (blk_cell BK343.out 0).trans rfl
                                 have hcz106_1 : w104.cell? ⟨gb343, 1, none⟩ = some (.int .i64 ((rd_T37 l0_1 x98_4).f1)) := (blk_cell BK343.out 1).trans rfl
                                 have hcz106_2 : w104.cell? ⟨gb343, 2, none⟩ = some (.int .i64 ((rd_T37 l0_1 x98_4).f2)) := (blk_cell BK343.out 2).trans rfl
                                 have hcz106_3 : w104.cell? ⟨gb343, 3, none⟩ = some (.int .i64 ((rd_T37 l0_1 x98_4).f3)) := (blk_cell BK343.out 3).trans rfl
                                 have hfz106_0 := blk_frozen BK343.out 0
                                 have hfz106_1 := blk_frozen BK343.out 1
                                 have hfz106_2 := blk_frozen BK343.out 2
                                 have hfz106_3 := blk_frozen BK343.out 3
                                 try go_wp2
                                 go_roundg kj64
                                 case measure => have := HJ3.out; have := HJ35.out; have := HK3.out; have := HK4.out; have := HJ64.out; omega
                                 case rel => exact ⟨(ji103), (wrap64 (x98_4 + 1)), (by first | rfl | (simp; done) | (simp only [← hji103] <;> (first | rfl | simp)) | (simp [*]; done)), (by first | rfl | (simp; done) | (simp [*]; done)), H', ⟨by have := HJ3.out; have := HJ35.out; have := HK3.out; have := HK4.out; have := HJ64.out; omega⟩, ⟨by exact HO_9.out⟩, ⟨by exact HO_10.out⟩, ⟨by exact BK320.out⟩, ⟨by exact HB.out⟩⟩
                                ·rw [if_neg c102] at H
                                 have c102b0 : ((rd t327 ((rd_T37 l0_1 x98_4).f0)) == (wrap64 ((rd t327 (rd y335 x88_3)) - 1))) = false := beq_eq_false_iff_ne.mpr c102
                                 have c102b1 : ((rd t327 ((rd_T37 l0_1 x98_4).f0)) != (wrap64 ((rd t327 (rd y335 x88_3)) - 1))) = true := bne_iff_ne.mpr c102
                                 have H' := Aside0.mk H
                                 clear H
                                 try go_wp2
                                 have n0_ := Aside0.mk (Kd.R_drew HO_9.out)
                                 have n1_ := Aside0.mk (Kd.R_drew HO_10.out)
                                 have n2_ := Aside0.mk (blk_drew BK320.out)
                                 have n3_ := Aside0.mk (blk_drew BK343.out)
                                 have n4_ := Aside0.mk (below_drew1 HB.out)
                                 clear HO_9
                                 clear HO_10
                                 clear BK320
                                 clear BK343
                                 clear HB
                                 have HO_9 := n0_
                                 have HO_10 := n1_
                                 have BK320 := n2_
                                 have BK343 := n3_
                                 have HB := n4_
                                 clear n0_ n1_ n2_ n3_ n4_
                                 have p348 : 0 ≤ (((rd_T37 l0_1 x98_4).f0) : Int) := of_decide_eq_true (by first | (with_reducible assumption) | assumption)
                                 have q348 : ((rd_T37 l0_1 x98_4).f0) < (t327.length : Int) := of_decide_eq_true (by first | (with_reducible assumption) | assumption)
                                 obtain ⟨ad348, e348, hx348_0⟩ := Kd.at_int (Kd.R_reads' HO_10.out).2.2 ((rd_T37 l0_1 x98_4).f0) p348 q348
                                 obtain rfl : ad330 = ad348 := (by injection e348)
                                 replace p348 := eq_true p348
                                 replace q348 := eq_true q348
                                 have p349 : 0 ≤ ((rd y335 x88_3) : Int) := of_decide_eq_true (by first | (with_reducible assumption) | assumption)
                                 have q349 : (rd y335 x88_3) < (t327.length : Int) := of_decide_eq_true (by first | (with_reducible assumption) | assumption)
                                 obtain ⟨ad349, e349, hx349_0⟩ := Kd.at_int (Kd.R_reads' HO_10.out).2.2 (rd y335 x88_3) p349 q349
                                 obtain rfl : ad330 = ad349 := (by injection e349)
                                 replace p349 := eq_true p349
                                 replace q349 := eq_true q349
                                 refine start_ (n := 17) (S := fun w' => w'.cell? ⟨gb343, 0, none⟩ = some (.int .i64 ((rd_T37 l0_1 x98_4).f0)) ∧ w'.cell? ⟨gb343, 1, none⟩ = some (.int .i64 ((rd_T37 l0_1 x98_4).f1)) ∧ w'.cell? ⟨gb343, 2, none⟩ = some (.int .i64 ((rd_T37 l0_1 x98_4).f2)) ∧ w'.cell? ⟨gb343, 3, none⟩ = some (.int .i64 ((rd_T37 l0_1 x98_4).f3)) ∧ w'.cell? (ad330.add (((rd_T37 l0_1 x98_4).f0)).toNat) = some (.int .i64 (rd t327 ((rd_T37 l0_1 x98_4).f0))) ∧ w'.cell? (ad330.add ((rd y335 x88_3)).toNat) = some (.int .i64 (rd t327 (rd y335 x88_3)))) (ds := []) #[false, false, false, false, false, false, false, false, false, false, false, false, false, false, false, false, false] (by kernel_rfl) rfl rfl ⟨(blk_cell BK343.out 0).trans rfl, (blk_cell BK343.out 1).trans rfl, (blk_cell BK343.out 2).trans rfl, (blk_cell BK343.out 3).trans rfl, hx348_0, hx349_0⟩ (fun hHeld => ?_); refine with_tabW timesynclaw18_TopoWays.tab20 timesynclaw18_TopoWays.bits20 (fun HT_ HW_ => ?_)
                                 generalize wc.drew = w107 at HO_9 HO_10 BK320 BK343 HB hx348_0 hx349_0 hHeld ⊢
                                 refine pure_ (i := 0) (N := some 123) (v := ?_) (a' := ?_) #[true, false, false, false, false, false, false, false, false, false, false, false, false, false, false, false, false] rfl rfl (any_of HT_.out (by kernel_rfl)) (fun _ _ _ h => h) (Or.inl ⟨by rfl, ?_⟩) ?_ ?_
                                 rotate_left
                                 ·intro w'
                                  go_simp
                                  with_reducible rfl
                                 rotate_left
                                 ·simp only [Act.put, List.setIfInBounds_toArray, List.set_cons_zero, List.set_cons_succ, i64_w, i32_w]
                                  rfl
                                 refine pure_ (i := 2) (N := some 125) (v := ?_) (a' := ?_) #[true, false, true, false, false, false, false, false, false, false, false, false, false, false, false, false, false] rfl rfl (any_of HT_.out (by kernel_rfl)) (fun _ _ _ h => h) (Or.inl ⟨by rfl, ?_⟩) ?_ ?_
                                 rotate_left
                                 ·intro w'
                                  go_simp
                                  with_reducible rfl
                                 rotate_left
                                 ·simp only [Act.put, List.setIfInBounds_toArray, List.set_cons_zero, List.set_cons_succ, i64_w, i32_w]
                                  rfl
                                 refine take_ (i := 1) (N := some 124) (v := ?_) (a' := ?_) #[true, true, true, false, false, false, false, false, false, false, false, false, false, false, false, false, false] rfl rfl (take_ofW HT_.out HW_.out (by kernel_rfl)) (fun _ _ _ h => h) (Or.inl ⟨by rfl, ?_⟩) hHeld ?_ ?_
                                 rotate_left
                                 ·rintro w' ⟨s0, s1, s2, s3, s4, s5⟩
                                  go_simp
                                  with_reducible rfl
                                 rotate_left
                                 ·simp only [Act.put, List.setIfInBounds_toArray, List.set_cons_zero, List.set_cons_succ, i64_w, i32_w]
                                  rfl
                                 refine pure_ (i := 3) (N := some 126) (v := ?_) (a' := ?_) #[true, true, true, true, false, false, false, false, false, false, false, false, false, false, false, false, false] rfl rfl (any_of HT_.out (by kernel_rfl)) (fun _ _ _ h => h) (Or.inl ⟨by rfl, ?_⟩) ?_ ?_
                                 rotate_left
                                 ·intro w'
                                  go_simp
                                  with_reducible rfl
                                 rotate_left
                                 ·simp only [Act.put, List.setIfInBounds_toArray, List.set_cons_zero, List.set_cons_succ, i64_w, i32_w]
                                  rfl
                                 refine pure_ (i := 4) (N := some 127) (v := ?_) (a' := ?_) #[true, true, true, true, true, false, false, false, false, false, false, false, false, false, false, false, false] rfl rfl (any_of HT_.out (by kernel_rfl)) (fun _ _ _ h => h) (Or.inl ⟨by rfl, ?_⟩) ?_ ?_
                                 rotate_left
                                 ·intro w'
                                  go_simp
                                  with_reducible rfl
                                 rotate_left
                                 ·simp only [Act.put, List.setIfInBounds_toArray, List.set_cons_zero, List.set_cons_succ, i64_w, i32_w]
                                  rfl
                                 refine pure_ (i := 5) (N := some 128) (v := ?_) (a' := ?_) #[true, true, true, true, true, true, false, false, false, false, false, false, false, false, false, false, false] rfl rfl (any_of HT_.out (by kernel_rfl)) (fun _ _ _ h => h) (Or.inl ⟨by rfl, ?_⟩) ?_ ?_
                                 rotate_left
                                 ·intro w'
                                  go_simp
                                  with_reducible rfl
                                 rotate_left
                                 ·simp only [Act.put, List.setIfInBounds_toArray, List.set_cons_zero, List.set_cons_succ, i64_w, i32_w]
                                  rfl
                                 refine pure_ (i := 6) (N := some 129) (v := ?_) (a' := ?_) #[true, true, true, true, true, true, true, false, false, false, false, false, false, false, false, false, false] rfl rfl (any_of HT_.out (by kernel_rfl)) (fun _ _ _ h => h) (Or.inl ⟨by rfl, ?_⟩) ?_ ?_
                                 rotate_left
                                 ·intro w'
                                  go_simp
                                  with_reducible rfl
                                 rotate_left
                                 ·simp only [Act.put, List.setIfInBounds_toArray, List.set_cons_zero, List.set_cons_succ, i64_w, i32_w]
                                  rfl
                                 refine pure_ (i := 10) (N := some 133) (v := ?_) (a' := ?_) #[true, true, true, true, true, true, true, false, false, false, true, false, false, false, false, false, false] rfl rfl (any_of HT_.out (by kernel_rfl)) (fun _ _ _ h => h) (Or.inl ⟨by rfl, ?_⟩) ?_ ?_
                                 rotate_left
                                 ·intro w'
                                  go_simp
                                  with_reducible rfl
                                 rotate_left
                                 ·simp only [Act.put, List.setIfInBounds_toArray, List.set_cons_zero, List.set_cons_succ, i64_w, i32_w]
                                  rfl
                                 refine pure_ (i := 11) (N := some 134) (v := ?_) (a' := ?_) #[true, true, true, true, true, true, true, false, false, false, true, true, false, false, false, false, false] rfl rfl (any_of HT_.out (by kernel_rfl)) (fun _ _ _ h => h) (Or.inl ⟨by rfl, ?_⟩) ?_ ?_
                                 rotate_left
                                 ·intro w'
                                  go_simp
                                  with_reducible rfl
                                 rotate_left
                                 ·simp only [Act.put, List.setIfInBounds_toArray, List.set_cons_zero, List.set_cons_succ, i64_w, i32_w]
                                  rfl
                                 refine pure_ (i := 12) (N := some 135) (v := ?_) (a' := ?_) #[true, true, true, true, true, true, true, false, false, false, true, true, true, false, false, false, false] rfl rfl (any_of HT_.out (by kernel_rfl)) (fun _ _ _ h => h) (Or.inl ⟨by rfl, ?_⟩) ?_ ?_
                                 rotate_left
                                 ·intro w'
                                  go_simp
                                  with_reducible rfl
                                 rotate_left
                                 ·simp only [Act.put, List.setIfInBounds_toArray, List.set_cons_zero, List.set_cons_succ, i64_w, i32_w]
                                  rfl
                                 refine take_ (i := 7) (N := some 130) (v := ?_) (a' := ?_) #[true, true, true, true, true, true, true, true, false, false, true, true, true, false, false, false, false] rfl rfl (take_ofW HT_.out HW_.out (by kernel_rfl)) (fun _ _ _ h => h) (Or.inl ⟨by rfl, ?_⟩) hHeld ?_ ?_
                                 rotate_left
                                 ·rintro w' ⟨s0, s1, s2, s3, s4, s5⟩
                                  go_simp
                                  with_reducible rfl
                                 rotate_left
                                 ·simp only [Act.put, List.setIfInBounds_toArray, List.set_cons_zero, List.set_cons_succ, i64_w, i32_w]
                                  rfl
                                 refine pure_ (i := 8) (N := some 131) (v := ?_) (a' := ?_) #[true, true, true, true, true, true, true, true, true, false, true, true, true, false, false, false, false] rfl rfl (any_of HT_.out (by kernel_rfl)) (fun _ _ _ h => h) (Or.inl ⟨by rfl, ?_⟩) ?_ ?_
                                 rotate_left
                                 ·intro w'
                                  go_simp
                                  with_reducible rfl
                                 rotate_left
                                 ·simp only [Act.put, List.setIfInBounds_toArray, List.set_cons_zero, List.set_cons_succ, i64_w, i32_w]
                                  rfl
                                 refine take_ (i := 9) (N := some 132) (v := ?_) (a' := ?_) #[true, true, true, true, true, true, true, true, true, true, true, true, true, false, false, false, false] rfl rfl (take_ofW HT_.out HW_.out (by kernel_rfl)) (fun _ _ _ h => h) (Or.inl ⟨by rfl, ?_⟩) hHeld ?_ ?_
                                 rotate_left
                                 ·rintro w' ⟨s0, s1, s2, s3, s4, s5⟩
                                  go_simp
                                  with_reducible rfl
                                 rotate_left
                                 ·simp only [Act.put, List.setIfInBounds_toArray, List.set_cons_zero, List.set_cons_succ, i64_w, i32_w]
                                  rfl
                                 refine take_ (i := 13) (N := some 136) (v := ?_) (a' := ?_) #[true, true, true, true, true, true, true, true, true, true, true, true, true, true, false, false, false] rfl rfl (take_ofW HT_.out HW_.out (by kernel_rfl)) (fun _ _ _ h => h) (Or.inl ⟨by rfl, ?_⟩) hHeld ?_ ?_
                                 rotate_left
                                 ·rintro w' ⟨s0, s1, s2, s3, s4, s5⟩
                                  go_simp
                                  with_reducible rfl
                                 rotate_left
                                 ·simp only [Act.put, List.setIfInBounds_toArray, List.set_cons_zero, List.set_cons_succ, i64_w, i32_w]
                                  rfl
                                 refine pure_ (i := 14) (N := some 137) (v := ?_) (a' := ?_) #[true, true, true, true, true, true, true, true, true, true, true, true, true, true, true, false, false] rfl rfl (any_of HT_.out (by kernel_rfl)) (fun _ _ _ h => h) (Or.inl ⟨by rfl, ?_⟩) ?_ ?_
                                 rotate_left
                                 ·intro w'
                                  go_simp
                                  with_reducible rfl
                                 rotate_left
                                 ·simp only [Act.put, List.setIfInBounds_toArray, List.set_cons_zero, List.set_cons_succ, i64_w, i32_w]
                                  rfl
                                 refine pure_ (i := 15) (N := some 138) (v := ?_) (a' := ?_) #[true, true, true, true, true, true, true, true, true, true, true, true, true, true, true, true, false] rfl rfl (any_of HT_.out (by kernel_rfl)) (fun _ _ _ h => h) (Or.inl ⟨by rfl, ?_⟩) ?_ ?_
                                 rotate_left
                                 ·intro w'
                                  go_simp
                                  with_reducible rfl
                                 rotate_left
                                 ·simp only [Act.put, List.setIfInBounds_toArray, List.set_cons_zero, List.set_cons_succ, i64_w, i32_w]
                                  rfl
                                 refine pure_ (i := 16) (N := some 139) (v := ?_) (a' := ?_) #[true, true, true, true, true, true, true, true, true, true, true, true, true, true, true, true, true] rfl rfl (any_of HT_.out (by kernel_rfl)) (fun _ _ _ h => h) (Or.inl ⟨by rfl, ?_⟩) ?_ ?_
                                 rotate_left
                                 ·intro w'
                                  go_simp
                                  with_reducible rfl
                                 rotate_left
                                 ·simp only [Act.put, List.setIfInBounds_toArray, List.set_cons_zero, List.set_cons_succ, i64_w, i32_w]
                                  rfl
                                 refine done_ (done_of HT_.out (by kernel_rfl)) ?_
                                 try go_wp2
                                 go_roundg kj64
                                 case measure => have := HJ3.out; have := HJ35.out; have := HK3.out; have := HK4.out; have := HJ64.out; omega
                                 case rel => exact ⟨(x13_4), (wrap64 (x98_4 + 1)), (by first | rfl | (simp; done) | (simp [*]; done)), (by first | rfl | (simp; done) | (simp [*]; done)), H', ⟨by have := HJ3.out; have := HJ35.out; have := HK3.out; have := HK4.out; have := HJ64.out; omega⟩, ⟨by exact HO_9.out⟩, ⟨by exact HO_10.out⟩, ⟨by exact BK320.out⟩, ⟨by exact HB.out⟩⟩
                               ·rw [if_neg c101] at H
                                exact absurd H (by simp)
                              ·rw [if_neg c100] at H
                               exact absurd H (by simp)
                             ·rw [if_neg c99] at H
                              exact absurd H (by simp)
                            ·rw [if_neg c98] at H
                             exact absurd H (by simp)
                           ·rw [if_neg c97] at H
                            have c97b0 : (((rd_T37 l0_1 x98_4).f2) == (rd y335 x88_3)) = false := beq_eq_false_iff_ne.mpr c97
                            have c97b1 : (((rd_T37 l0_1 x98_4).f2) != (rd y335 x88_3)) = true := bne_iff_ne.mpr c97
                            have H' := Aside0.mk H
                            clear H
                            try go_wp2
                            have n0_ := Aside0.mk (Kd.R_drew HO_9.out)
                            have n1_ := Aside0.mk (Kd.R_drew HO_10.out)
                            have n2_ := Aside0.mk (blk_drew BK320.out)
                            have n3_ := Aside0.mk (blk_drew BK343.out)
                            have n4_ := Aside0.mk (below_drew1 HB.out)
                            clear HO_9
                            clear HO_10
                            clear BK320
                            clear BK343
                            clear HB
                            have HO_9 := n0_
                            have HO_10 := n1_
                            have BK320 := n2_
                            have BK343 := n3_
                            have HB := n4_
                            clear n0_ n1_ n2_ n3_ n4_
                            refine start_ (n := 17) (S := fun w' => w'.cell? ⟨gb343, 0, none⟩ = some (.int .i64 ((rd_T37 l0_1 x98_4).f0)) ∧ w'.cell? ⟨gb343, 1, none⟩ = some (.int .i64 ((rd_T37 l0_1 x98_4).f1)) ∧ w'.cell? ⟨gb343, 2, none⟩ = some (.int .i64 ((rd_T37 l0_1 x98_4).f2)) ∧ w'.cell? ⟨gb343, 3, none⟩ = some (.int .i64 ((rd_T37 l0_1 x98_4).f3))) (ds := []) #[false, false, false, false, false, false, false, false, false, false, false, false, false, false, false, false, false] (by kernel_rfl) rfl rfl ⟨(blk_cell BK343.out 0).trans rfl, (blk_cell BK343.out 1).trans rfl, (blk_cell BK343.out 2).trans rfl, (blk_cell BK343.out 3).trans rfl⟩ (fun hHeld => ?_); refine with_tabW timesynclaw18_TopoWays.tab20 timesynclaw18_TopoWays.bits20 (fun HT_ HW_ => ?_)
                            generalize wc.drew = w108 at HO_9 HO_10 BK320 BK343 HB hHeld ⊢
                            refine pure_ (i := 0) (N := some 123) (v := ?_) (a' := ?_) #[true, false, false, false, false, false, false, false, false, false, false, false, false, false, false, false, false] rfl rfl (any_of HT_.out (by kernel_rfl)) (fun _ _ _ h => h) (Or.inl ⟨by rfl, ?_⟩) ?_ ?_
                            rotate_left
                            ·intro w'
                             go_simp
                             with_reducible rfl
                            rotate_left
                            ·simp only [Act.put, List.setIfInBounds_toArray, List.set_cons_zero, List.set_cons_succ, i64_w, i32_w]
                             rfl
                            refine pure_ (i := 2) (N := some 125) (v := ?_) (a' := ?_) #[true, false, true, false, false, false, false, false, false, false, false, false, false, false, false, false, false] rfl rfl (any_of HT_.out (by kernel_rfl)) (fun _ _ _ h => h) (Or.inl ⟨by rfl, ?_⟩) ?_ ?_
                            rotate_left
                            ·intro w'
                             go_simp
                             with_reducible rfl
                            rotate_left
                            ·simp only [Act.put, List.setIfInBounds_toArray, List.set_cons_zero, List.set_cons_succ, i64_w, i32_w]
                             rfl
                            refine take_ (i := 1) (N := some 124) (v := ?_) (a' := ?_) #[true, true, true, false, false, false, false, false, false, false, false, false, false, false, false, false, false] rfl rfl (take_ofW HT_.out HW_.out (by kernel_rfl)) (fun _ _ _ h => h) (Or.inl ⟨by rfl, ?_⟩) hHeld ?_ ?_
                            rotate_left
                            ·rintro w' ⟨s0, s1, s2, s3⟩
                             go_simp
                             with_reducible rfl
                            rotate_left
                            ·simp only [Act.put, List.setIfInBounds_toArray, List.set_cons_zero, List.set_cons_succ, i64_w, i32_w]
                             rfl
                            refine pure_ (i := 3) (N := some 126) (v := ?_) (a' := ?_) #[true, true, true, true, false, false, false, false, false, false, false, false, false, false, false, false, false] rfl rfl (any_of HT_.out (by kernel_rfl)) (fun _ _ _ h => h) (Or.inl ⟨by rfl, ?_⟩) ?_ ?_
                            rotate_left
                            ·intro w'
                             go_simp
                             with_reducible rfl
                            rotate_left
                            ·simp only [Act.put, List.setIfInBounds_toArray, List.set_cons_zero, List.set_cons_succ, i64_w, i32_w]
                             rfl
                            refine pure_ (i := 4) (N := some 127) (v := ?_) (a' := ?_) #[true, true, true, true, true, false, false, false, false, false, false, false, false, false, false, false, false] rfl rfl (any_of HT_.out (by kernel_rfl)) (fun _ _ _ h => h) (Or.inl ⟨by rfl, ?_⟩) ?_ ?_
                            rotate_left
                            ·intro w'
                             go_simp
                             with_reducible rfl
                            rotate_left
                            ·simp only [Act.put, List.setIfInBounds_toArray, List.set_cons_zero, List.set_cons_succ, i64_w, i32_w]
                             rfl
                            refine pure_ (i := 5) (N := some 128) (v := undef) (a' := ?_) #[true, true, true, true, true, true, false, false, false, false, false, false, false, false, false, false, false] rfl rfl (any_of HT_.out (by kernel_rfl)) (fun _ _ _ h => h) (Or.inr ⟨by rfl, rfl⟩) ?_ ?_
                            rotate_left
                            ·simp only [Act.put, List.setIfInBounds_toArray, List.set_cons_zero, List.set_cons_succ, i64_w, i32_w]
                             rfl
                            refine pure_ (i := 6) (N := some 129) (v := undef) (a' := ?_) #[true, true, true, true, true, true, true, false, false, false, false, false, false, false, false, false, false] rfl rfl (any_of HT_.out (by kernel_rfl)) (fun _ _ _ h => h) (Or.inr ⟨by rfl, rfl⟩) ?_ ?_
                            rotate_left
                            ·simp only [Act.put, List.setIfInBounds_toArray, List.set_cons_zero, List.set_cons_succ, i64_w, i32_w]
                             rfl
                            refine pure_ (i := 7) (N := some 130) (v := undef) (a' := ?_) #[true, true, true, true, true, true, true, true, false, false, false, false, false, false, false, false, false] rfl rfl (any_of HT_.out (by kernel_rfl)) (fun _ _ _ h => h) (Or.inr ⟨by rfl, rfl⟩) ?_ ?_
                            rotate_left
                            ·simp only [Act.put, List.setIfInBounds_toArray, List.set_cons_zero, List.set_cons_succ, i64_w, i32_w]
                             rfl
                            refine pure_ (i := 8) (N := some 131) (v := undef) (a' := ?_) #[true, true, true, true, true, true, true, true, true, false, false, false, false, false, false, false, false] rfl rfl (any_of HT_.out (by kernel_rfl)) (fun _ _ _ h => h) (Or.inr ⟨by rfl, rfl⟩) ?_ ?_
                            rotate_left
                            ·simp only [Act.put, List.setIfInBounds_toArray, List.set_cons_zero, List.set_cons_succ, i64_w, i32_w]
                             rfl
                            refine pure_ (i := 9) (N := some 132) (v := undef) (a' := ?_) #[true, true, true, true, true, true, true, true, true, true, false, false, false, false, false, false, false] rfl rfl (any_of HT_.out (by kernel_rfl)) (fun _ _ _ h => h) (Or.inr ⟨by rfl, rfl⟩) ?_ ?_
                            rotate_left
                            ·simp only [Act.put, List.setIfInBounds_toArray, List.set_cons_zero, List.set_cons_succ, i64_w, i32_w]
                             rfl
                            refine pure_ (i := 10) (N := some 133) (v := undef) (a' := ?_) #[true, true, true, true, true, true, true, true, true, true, true, false, false, false, false, false, false] rfl rfl (any_of HT_.out (by kernel_rfl)) (fun _ _ _ h => h) (Or.inr ⟨by rfl, rfl⟩) ?_ ?_
                            rotate_left
                            ·simp only [Act.put, List.setIfInBounds_toArray, List.set_cons_zero, List.set_cons_succ, i64_w, i32_w]
                             rfl
                            refine pure_ (i := 11) (N := some 134) (v := undef) (a' := ?_) #[true, true, true, true, true, true, true, true, true, true, true, true, false, false, false, false, false] rfl rfl (any_of HT_.out (by kernel_rfl)) (fun _ _ _ h => h) (Or.inr ⟨by rfl, rfl⟩) ?_ ?_
                            rotate_left
                            ·simp only [Act.put, List.setIfInBounds_toArray, List.set_cons_zero, List.set_cons_succ, i64_w, i32_w]
                             rfl
                            refine pure_ (i := 12) (N := some 135) (v := undef) (a' := ?_) #[true, true, true, true, true, true, true, true, true, true, true, true, true, false, false, false, false] rfl rfl (any_of HT_.out (by kernel_rfl)) (fun _ _ _ h => h) (Or.inr ⟨by rfl, rfl⟩) ?_ ?_
                            rotate_left
                            ·simp only [Act.put, List.setIfInBounds_toArray, List.set_cons_zero, List.set_cons_succ, i64_w, i32_w]
                             rfl
                            refine pure_ (i := 13) (N := some 136) (v := undef) (a' := ?_) #[true, true, true, true, true, true, true, true, true, true, true, true, true, true, false, false, false] rfl rfl (any_of HT_.out (by kernel_rfl)) (fun _ _ _ h => h) (Or.inr ⟨by rfl, rfl⟩) ?_ ?_
                            rotate_left
                            ·simp only [Act.put, List.setIfInBounds_toArray, List.set_cons_zero, List.set_cons_succ, i64_w, i32_w]
                             rfl
                            refine pure_ (i := 14) (N := some 137) (v := undef) (a' := ?_) #[true, true, true, true, true, true, true, true, true, true, true, true, true, true, true, false, false] rfl rfl (any_of HT_.out (by kernel_rfl)) (fun _ _ _ h => h) (Or.inr ⟨by rfl, rfl⟩) ?_ ?_
                            rotate_left
                            ·simp only [Act.put, List.setIfInBounds_toArray, List.set_cons_zero, List.set_cons_succ, i64_w, i32_w]
                             rfl
                            refine pure_ (i := 15) (N := some 138) (v := undef) (a' := ?_) #[true, true, true, true, true, true, true, true, true, true, true, true, true, true, true, true, false] rfl rfl (any_of HT_.out (by kernel_rfl)) (fun _ _ _ h => h) (Or.inr ⟨by rfl, rfl⟩) ?_ ?_
                            rotate_left
                            ·simp only [Act.put, List.setIfInBounds_toArray, List.set_cons_zero, List.set_cons_succ, i64_w, i32_w]
                             rfl
                            refine pure_ (i := 16) (N := some 139) (v := ?_) (a' := ?_) #[true, true, true, true, true, true, true, true, true, true, true, true, true, true, true, true, true] rfl rfl (any_of HT_.out (by kernel_rfl)) (fun _ _ _ h => h) (Or.inl ⟨by rfl, ?_⟩) ?_ ?_
                            rotate_left
                            ·intro w'
                             go_simp
                             with_reducible rfl
                            rotate_left
                            ·simp only [Act.put, List.setIfInBounds_toArray, List.set_cons_zero, List.set_cons_succ, i64_w, i32_w]
                             rfl
                            refine done_ (done_of HT_.out (by kernel_rfl)) ?_
                            try go_wp2
                            go_roundg kj64
                            case measure => have := HJ3.out; have := HJ35.out; have := HK3.out; have := HK4.out; have := HJ64.out; omega
                            case rel => exact ⟨(x13_4), (wrap64 (x98_4 + 1)), (by first | rfl | (simp; done) | (simp [*]; done)), (by first | rfl | (simp; done) | (simp [*]; done)), H', ⟨by have := HJ3.out; have := HJ35.out; have := HK3.out; have := HK4.out; have := HJ64.out; omega⟩, ⟨by exact HO_9.out⟩, ⟨by exact HO_10.out⟩, ⟨by exact BK320.out⟩, ⟨by exact HB.out⟩⟩
                       ·rw [if_neg c64] at H
                        exact absurd H (by simp)
                      ·rw [if_neg c63] at H
                       exact absurd H (by simp)
                     ·rw [if_neg c62] at H
                      have c62b0 : decide (x98_4 < (l0_1.length : Int)) = false := decide_eq_false c62
                      clear c62
                      obtain ⟨ji109, hji109⟩ : ∃ j_ : Int, (wrap64 (x88_3 + 1)) = j_ := ⟨_, rfl⟩
                      replace H : (if 0 ≤ (ji109) then (if (ji109) < (t324.length : Int) then (if (rd t324 (ji109)) = x13_4 then (if x13_4 = a0_0 then (none) else (timesynclaw18_TopoWays.l0 k4 t324 t327 y335 (y335.length : Int) ji109 a0_0 l0_1)) else (none)) else (none)) else (none)) = some r := by first | (rw [hji109] at H; exact H) | (simp only [hji109] at H ⊢; exact H)
                      have hji109w : (IntKind.i64.wrap (x88_3 + 1)) = ji109 := (i64_w _).trans hji109
                      by_cases c110 : 0 ≤ (ji109)
                      ·rw [if_pos c110] at H
                       have c110b0 : decide (0 ≤ (ji109)) = true := decide_eq_true c110
                       clear c110
                       by_cases c111 : (ji109) < (t324.length : Int)
                       ·rw [if_pos c111] at H
                        have c111b0 : decide ((ji109) < (t324.length : Int)) = true := decide_eq_true c111
                        clear c111
                        by_cases c112 : (rd t324 (ji109)) = x13_4
                        ·rw [if_pos c112] at H
                         have c112b0 : ((rd t324 (ji109)) == x13_4) = true := beq_iff_eq.mpr c112
                         have c112b1 : ((rd t324 (ji109)) != x13_4) = false := bne_eq_false_iff_eq.mpr c112
                         clear c112
                         by_cases c113 : x13_4 = a0_0
                         ·rw [if_pos c113] at H
                          exact absurd H (by simp)
                         ·rw [if_neg c113] at H
                          have c113b0 : (x13_4 == a0_0) = false := beq_eq_false_iff_ne.mpr c113
                          have c113b1 : (x13_4 != a0_0) = true := bne_iff_ne.mpr c113
                          have H' := Aside0.mk H
                          clear H
                          have p341 : 0 ≤ ((ji109) : Int) := of_decide_eq_true (by first | (with_reducible assumption) | assumption)
                          have q341 : (ji109) < (t324.length : Int) := of_decide_eq_true (by first | (with_reducible assumption) | assumption)
                          obtain ⟨ad341, e341, hx341_0⟩ := Kd.at_int (Kd.R_reads' HO_9.out).2.2 (ji109) p341 q341
                          obtain rfl : ad340 = ad341 := (by injection e341)
                          replace p341 := eq_true p341
                          replace q341 := eq_true q341
                          have hcz114_0 : wr.cell? ⟨gb320, 0, none⟩ = some (.int .i64 a0_0) := (blk_cell BK320.out 0).trans rfl
                          have hcz114_1 : wr.cell? ⟨gb320, 1, none⟩ = some (.slice A0_1 l0_1.length c0_1) := (blk_cell BK320.out 1).trans rfl
                          have hfz114_0 := blk_frozen BK320.out 0
                          have hfz114_1 := blk_frozen BK320.out 1
                          go_wp2
                          go_roundg k4
                          case measure => have := HJ3.out; have := HJ35.out; have := HK3.out; have := HK4.out; omega
                          case rel => exact ⟨(ji109), (by first | rfl | (simp; done) | (simp only [← hji109] <;> (first | rfl | simp)) | (simp [*]; done)), H', ⟨by have := HJ3.out; have := HJ35.out; have := HK3.out; have := HK4.out; omega⟩, ⟨by exact HO_9.out⟩, ⟨by exact HO_10.out⟩, ⟨by exact BK320.out⟩, ⟨by exact HB.out⟩⟩
                        ·rw [if_neg c112] at H
                         exact absurd H (by simp)
                       ·rw [if_neg c111] at H
                        exact absurd H (by simp)
                      ·rw [if_neg c110] at H
                       exact absurd H (by simp)
                  ·rw [if_neg c60] at H
                   exact absurd H (by simp)
                 ·rw [if_neg c59] at H
                  exact absurd H (by simp)
                ·rw [if_neg c58] at H
                 have c58b0 : decide (x88_3 < (y335.length : Int)) = false := decide_eq_false c58
                 clear c58
                 replace H := Option.bind_eq_some_iff.mp H
                 obtain ⟨t339, A1150, H⟩ := H
                 replace H : (some t339) = some r := H
                 have A115 := Aside0.mk A1150
                 clear A1150
                 obtain rfl := Option.some.inj H
                 go_wp2_with (first | ((with_reducible refine gate_callee (f := 16) rfl ?_); refine goesL_ (some 159) rfl rfl Try.func16 (by kernel_rfl) rfl #[] rfl (by (try simp only [List.map_toArray, List.map_cons, List.map_nil]); first | done | rfl | (simp only [List.length_drop, List.length_take]; rfl)) ?_; (with_reducible refine (timesynclaw18_awake.calls k3  t339 _ A115.out).mono ?_); rintro e w116 ⟨rfl, hb⟩; refine ⟨_, rfl, ?_⟩; have n0_ := Aside0.mk (Kd.R_below (by exact HO_9.out) hb); have n1_ := Aside0.mk (Kd.R_below (by exact HO_10.out) hb); have n2_ := Aside0.mk (blk_below (g := gb320) (o := .cells #[.int .i64 a0_0, .slice A0_1 l0_1.length c0_1] 24 (0, 0)) (by exact BK320.out) hb); have n3_ := Aside0.mk (below_step (by exact HB.out) hb); clear HO_9; clear HO_10; clear BK320; clear HB; have HO_9 := n0_; have HO_10 := n1_; have BK320 := n2_; have HB := n3_; clear n0_ n1_ n2_ n3_; (try clear hi)))
                 go_ret
                 exact ⟨by first | rfl | (simp [errW_none, errW_some] <;> rfl) | (simp only [← hji22, ← hji53]; first | rfl | (simp [errW_none, errW_some] <;> rfl)) | (simp [*, errW_none, errW_some] <;> rfl), by exact HB.out⟩
             ·rw [if_neg c55] at H
              exact absurd H (by simp)
            ·rw [if_neg c54] at H
             exact absurd H (by simp)
       ·rw [if_neg c24] at H
        exact absurd H (by simp)
      ·rw [if_neg c23] at H
       exact absurd H (by simp)
     ·rw [if_neg c21] at H
      exact absurd H (by simp)

end Go.Proofs.Ythkpnkmbmlbefaa.X

namespace Go.Proofs.Ythkpnkmbmlbefaa.X
open Go.RowKit Go.Proofs.YthkpnkmbmlbefaaW.PrintWords Go.Proofs.YthkpnkmbmlbefaaW.PrintLast Go.Proofs.YthkpnkmbmlbefaaW.PrintMore
attribute [local go_sem] max2_int min2_int max_two min_two max_three min_three max_four min_four   -- for this text's walks alone
set_option linter.unusedVariables false
set_option linter.unusedSimpArgs false

def WFi64 (x : Int) : Prop := (Lit.int .i64 x).wf = true
def WF37 (x : S37) : Prop := WFi64 x.f0 ∧ WFi64 x.f1 ∧ WFi64 x.f2 ∧ WFi64 x.f3
def WFL37 (x : List (S37)) : Prop := x.length ≤ 9223372036854775807 ∧ ∀ y ∈ x, WF37 y
def WF24 (x : S24) : Prop := WFi64 x.f0 ∧ WFL37 x.f1
def WFu8 (x : Int) : Prop := (Lit.int .u8 x).wf = true
end Go.Proofs.Ythkpnkmbmlbefaa.X

/- Plain words of this seat: rounds, wrapped numbers, lists by index; the check of graphs: the program's and the reference's tell the same. -/
namespace Go.Proofs.Ythkpnkmbmlbefaa.PB
open Go.RowKit Go.Proofs.Ythkpnkmbmlbefaa.X Go.Proofs.YthkpnkmbmlbefaaW.PrintWords Go.Proofs.YthkpnkmbmlbefaaW.PrintLast

section
variable {α β : Type} {f g h : Nat → Option α} {r : α} {c : Prop} [Decidable c]
theorem Ev.pos (hc : c) (h : Ev f r) : Ev (fun n => if c then f n else g n) r := Ev.congr (fun _ => if_pos hc) h
theorem Ev.neg (hc : ¬ c) (h : Ev g r) : Ev (fun n => if c then f n else g n) r := Ev.congr (fun _ => if_neg hc) h
theorem Ev.ite_ (h1 : c → Ev f r) (h2 : ¬ c → Ev g r) : Ev (fun n => if c then f n else g n) r := by
  by_cases hc : c
  · exact Ev.pos hc (h1 hc)
  · exact Ev.neg hc (h2 hc)
theorem Ev.bind' {g : Nat → Option α} {f : Nat → α → Option β} {r : β} (a : α) (h : Ev g a) (k : Ev (fun n => f n a) r) : Ev (fun n => (g n).bind (f n)) r := Ev.bind h k
theorem Ev.some_bind {f : Nat → α → Option β} {a : α} {r : β} (k : Ev (fun n => f n a) r) : Ev (fun n => (some a).bind (f n)) r := k
theorem Ev.const {x : Option α} (h : x = some r) : Ev (fun _ => x) r := ⟨0, fun _ _ => h⟩
theorem Ev.uniq {r r' : α} (h : Ev f r) (h' : Ev f r') : r = r' := by
  obtain ⟨K, h⟩ := h
  obtain ⟨K', h'⟩ := h'
  have h1 := h (max K K') (by omega)
  have h2 := h' (max K K') (by omega)
  rw [h1] at h2
  exact Option.some.inj h2
end
theorem wrap_id {x : Int} (h0 : -9223372036854775808 ≤ x) (h1 : x < 9223372036854775808) : wrap64 x = x := by
  unfold wrap64; omega
theorem wrap_nat {i : Nat} (h : i < 9223372036854775807) : wrap64 ((i : Int) + 1) = ((i + 1 : Nat) : Int) := by
  rw [wrap_id (by omega) (by omega)]; rfl
theorem rd37 (l : List S37) (i : Nat) : rd_T37 l (i : Int) = l.getD i z37 := by simp [rd_T37]
theorem rdI (l : List Int) (i : Nat) : rd l (i : Int) = l.getD i 0 := by simp [rd]
theorem rdL3 (l : List (List Int)) (i : Nat) : rd_L3 l (i : Int) = l.getD i [] := by simp [rd_L3]

/-! ### Rows of numbers alike -/
theorem eq_from (x y : List Int) (hx : x.length < 9223372036854775807) (he : x.length = y.length) : ∀ d i, i + d = x.length → Ev (fun k => slices_Equal_int_int.l0 k x y x.length i) (decide (x.drop i = y.drop i)) := by
  intro d
  induction d with
  | zero =>
    intro i hi
    refine Ev.step (fun k => by rw [slices_Equal_int_int.l0]) ?_
    refine Ev.neg (by omega) (Ev.const ?_)
    rw [List.drop_of_length_le (by omega), List.drop_of_length_le (by omega)]
    simp
  | succ d ih =>
    intro i hi
    refine Ev.step (fun k => by rw [slices_Equal_int_int.l0]) ?_
    refine Ev.pos (by omega) (Ev.pos (by omega) (Ev.pos (by omega) (Ev.pos (by omega) ?_)))
    rw [rdI, rdI]
    have e1 : x.drop i = x.getD i 0 :: x.drop (i + 1) := by
      rw [List.drop_eq_getElem_cons (by omega)]; simp [List.getD, show i < x.length by omega]
    have e2 : y.drop i = y.getD i 0 :: y.drop (i + 1) := by
      rw [List.drop_eq_getElem_cons (by omega)]; simp [List.getD, show i < y.length by omega]
    refine Ev.ite_ (fun h => ?_) (fun h => Ev.const ?_)
    · rw [wrap_nat (by omega), e1, e2]
      have := ih (i + 1) (by omega)
      rw [h]
      simp only [List.cons.injEq, true_and]
      exact this
    · rw [e1, e2]
      have : ¬ (x.getD i 0 :: x.drop (i + 1) = y.getD i 0 :: y.drop (i + 1)) := fun q => h (by injection q)
      simp only [this, decide_false]
theorem eq_ints (x y : List Int) (hx : x.length < 9223372036854775807) : Ev (fun k => slices_Equal_int_int.f k x y) (decide (x = y)) := by
  unfold slices_Equal_int_int.f
  refine Ev.ite_ (fun h => ?_) (fun h => Ev.const ?_)
  · have he : x.length = y.length := by omega
    have := eq_from x y hx he x.length 0 (by omega)
    simpa using this
  · have : ¬ x = y := fun e => h (by rw [e])
    simp [this]

/-! ### Check -/
/-- An edge with its ends within the limits. -/
def OkE (a : Int) (e : S37) : Prop := 0 ≤ e.f0 ∧ e.f0 < a ∧ 0 ≤ e.f2 ∧ e.f2 < a ∧ 1 ≤ e.f1 ∧ e.f1 ≤ 8 ∧ 1 ≤ e.f3 ∧ e.f3 ≤ 8
instance (a : Int) (e : S37) : Decidable (OkE a e) := by unfold OkE; infer_instance
def hasEnd (e : S37) (q : Int × Int) : Prop := (e.f0 = q.1 ∧ e.f1 = q.2) ∨ (e.f2 = q.1 ∧ e.f3 = q.2)
instance (e : S37) (q : Int × Int) : Decidable (hasEnd e q) := by unfold hasEnd; infer_instance
/-- One of the n edges from j on has this end. -/
def usedFrom (l : List S37) (q : Int × Int) : Nat → Nat → Bool
  | 0, _ => false
  | d + 1, j => if hasEnd (l.getD j z37) q then true else usedFrom l q d (j + 1)
def chkFrom (a : Int) (l : List S37) : Nat → Nat → Int
  | 0, _ => 0
  | d + 1, i => if OkE a (l.getD i z37) then (if (l.getD i z37).f0 = (l.getD i z37).f2 then 18 else if usedFrom l ((l.getD i z37).f0, (l.getD i z37).f1) i 0 = true then 10 else if usedFrom l ((l.getD i z37).f2, (l.getD i z37).f3) i 0 = true then 10 else chkFrom a l d (i + 1)) else 3
def chk (a : Int) (l : List S37) : Int := if a < 1 ∨ a > 24 then 3 else if (l.length : Int) > 64 then 6 else chkFrom a l l.length 0
theorem usedFrom_iff (l : List S37) (q : Int × Int) : ∀ d j, usedFrom l q d j = true ↔ ∃ i, j ≤ i ∧ i < j + d ∧ hasEnd (l.getD i z37) q
  | 0, j => by simp [usedFrom]; omega
  | d + 1, j => by
    unfold usedFrom
    by_cases h : hasEnd (l.getD j z37) q
    · rw [if_pos h]
      exact ⟨fun _ => ⟨j, by omega, by omega, h⟩, fun _ => rfl⟩
    · rw [if_neg h, usedFrom_iff l q d (j + 1)]
      constructor
      · rintro ⟨i, h1, h2, h3⟩; exact ⟨i, by omega, by omega, h3⟩
      · rintro ⟨i, h1, h2, h3⟩
        refine ⟨i, ?_, by omega, h3⟩
        rcases Nat.lt_or_ge j i with q | q
        · omega
        · obtain rfl : i = j := by omega
          exact absurd h3 h
theorem impl_from (a : Int) (l : List S37) (hn : l.length ≤ 64) : ∀ d i ks, i + d = l.length → (∀ q, q ∈ ks ↔ usedFrom l q i 0 = true) → Ev (fun k => topo_Check.l0 k l i a ks) (chkFrom a l d i) := by
  intro d
  induction d with
  | zero =>
    intro i ks hi _
    refine Ev.step (fun k => by rw [topo_Check.l0]) ?_
    exact Ev.neg (by omega) (Ev.const rfl)
  | succ d ih =>
    intro i ks hi hks
    refine Ev.step (fun k => by rw [topo_Check.l0]) ?_
    refine Ev.pos (by omega) (Ev.pos (by omega) (Ev.pos (by omega) ?_))
    rw [rd37]
    unfold topo_ends.f
    refine Ev.some_bind ?_
    dsimp only
    have hnext := ih (i + 1) ((((l.getD i z37).f2, (l.getD i z37).f3)) :: ((l.getD i z37).f0, (l.getD i z37).f1) :: ks) (by omega) (fun q => by
      rw [usedFrom_iff]
      simp only [List.mem_cons]
      rw [hks q, usedFrom_iff]
      constructor
      · rintro (h | h | ⟨j, h1, h2, h3⟩)
        · exact ⟨i, by omega, by omega, .inr (by rw [h]; exact ⟨rfl, rfl⟩)⟩
        · exact ⟨i, by omega, by omega, .inl (by rw [h]; exact ⟨rfl, rfl⟩)⟩
        · exact ⟨j, by omega, by omega, h3⟩
      · rintro ⟨j, h1, h2, h3⟩
        by_cases hj : j = i
        · subst hj
          rcases h3 with ⟨h3, h4⟩ | ⟨h3, h4⟩
          · exact .inr (.inl (by rw [h3, h4]))
          · exact .inl (by rw [h3, h4])
        · exact .inr (.inr ⟨j, h1, by omega, h3⟩))
    have k1 := hks ((l.getD i z37).f0, (l.getD i z37).f1)
    have k2 := hks ((l.getD i z37).f2, (l.getD i z37).f3)
    unfold chkFrom
    generalize l.getD i z37 = e at *
    have bad : ¬ OkE a e → ∀ r : Int, Ev (fun _ : Nat => some 3) (if OkE a e then r else 3) := fun h r => by rw [if_neg h]; exact Ev.const rfl
    refine Ev.step (fun k => by rw [topo_Check.l1]) ?_
    refine Ev.pos rfl (Ev.ite_ (fun h1 => bad (by unfold OkE; omega) _) (fun h1 => Ev.ite_ (fun h2 => bad (by unfold OkE; omega) _) (fun h2 => Ev.ite_ (fun h3 => bad (by unfold OkE; omega) _) (fun h3 => Ev.ite_ (fun h4 => bad (by unfold OkE; omega) _) (fun h4 => ?_)))))
    refine Ev.step (fun k => by rw [topo_Check.l1]) ?_
    refine Ev.neg (by decide) (Ev.pos rfl (Ev.ite_ (fun h5 => bad (by unfold OkE; omega) _) (fun h5 => Ev.ite_ (fun h6 => bad (by unfold OkE; omega) _) (fun h6 => Ev.ite_ (fun h7 => bad (by unfold OkE; omega) _) (fun h7 => Ev.ite_ (fun h8 => bad (by unfold OkE; omega) _) (fun h8 => ?_))))))
    refine Ev.step (fun k => by rw [topo_Check.l1]) ?_
    refine Ev.neg (by decide) (Ev.neg (by decide) ?_)
    rw [if_pos (by unfold OkE; omega)]
    refine Ev.ite_ (fun h9 => ?_) (fun h9 => ?_)
    · rw [if_pos h9]; exact Ev.const rfl
    · rw [if_neg h9]
      refine Ev.ite_ (fun h10 => ?_) (fun h10 => ?_)
      · rw [if_pos (k1.1 h10)]; exact Ev.const rfl
      · rw [if_neg (fun q => h10 (k1.2 q))]
        refine Ev.ite_ (fun h11 => ?_) (fun h11 => ?_)
        · rw [if_pos (k2.1 h11)]; exact Ev.const rfl
        · rw [if_neg (fun q => h11 (k2.2 q)), wrap_nat (by omega)]
          exact hnext
theorem impl_check (a : Int) (l : List S37) : Ev (fun k => topo_Check.f k a l) (chk a l) := by
  unfold topo_Check.f chk
  refine Ev.ite_ (fun h => ?_) (fun h => ?_)
  · rw [if_pos (.inl h)]
    refine Ev.step (fun k => by rw [topo_Check.j0]) ?_
    exact Ev.pos rfl (Ev.const rfl)
  · refine Ev.step (fun k => by rw [topo_Check.j0]) ?_
    refine Ev.ite_ (fun h1 => ?_) (fun h1 => ?_)
    · rw [if_pos (.inr (of_decide_eq_true h1))]; exact Ev.const rfl
    · have h1' : ¬ a > 24 := by simpa using h1
      rw [if_neg (by omega)]
      refine Ev.pos (by omega) (Ev.ite_ (fun h2 => ?_) (fun h2 => ?_))
      · rw [if_pos h2]; exact Ev.const rfl
      · rw [if_neg h2]
        exact impl_from a l (by omega) l.length 0 [] (by omega) (fun q => by simp [usedFrom])
end Go.Proofs.Ythkpnkmbmlbefaa.PB

/- Distances in a graph, as the chapter's rules determine them; the search in waves, the reference's rounds, and the way down give what they determine. -/
namespace Go.Proofs.Ythkpnkmbmlbefaa.PB
open Go.RowKit Go.Proofs.Ythkpnkmbmlbefaa Go.Proofs.Ythkpnkmbmlbefaa.X Go.Proofs.YthkpnkmbmlbefaaW.PrintWords Go.Proofs.YthkpnkmbmlbefaaW.PrintLast
structure IsDist (N : Nat) (adj : Nat → Nat → Prop) (a : Nat) (d : Nat → Int) : Prop where
  zero : d a = 0
  only : ∀ x, x < N → d x = 0 → x = a
  low : ∀ x, x < N → -1 ≤ d x
  edge : ∀ x y, adj x y → 0 ≤ d x → 0 ≤ d y ∧ d y ≤ d x + 1
  back : ∀ x, x < N → 0 < d x → ∃ y, adj y x ∧ d y = d x - 1
section
variable {N : Nat} {adj : Nat → Nat → Prop} {a : Nat} {d d' : Nat → Int}
theorem IsDist.le (hr : ∀ x y, adj x y → x < N ∧ y < N) (h : IsDist N adj a d) (h' : IsDist N adj a d') : ∀ (n : Nat) (x : Nat), x < N → d x = n → 0 ≤ d' x ∧ d' x ≤ n
  | 0, x, hx, e => by
    have := h.only x hx (by simpa using e)
    subst this
    have := h'.zero
    omega
  | n + 1, x, hx, e => by
    obtain ⟨y, ha, hy⟩ := h.back x hx (by omega)
    have h1 := IsDist.le hr h h' n y (hr _ _ ha).1 (by omega)
    have h2 := h'.edge y x ha h1.1
    omega
theorem IsDist.uniq (hr : ∀ x y, adj x y → x < N ∧ y < N) (h : IsDist N adj a d) (h' : IsDist N adj a d') (x : Nat) (hx : x < N) : d x = d' x := by
  have l1 := h.low x hx
  have l2 := h'.low x hx
  rcases Int.lt_or_le (d x) 0 with q | q
  · rcases Int.lt_or_le (d' x) 0 with q' | q'
    · omega
    · have := h'.le hr h (d' x).toNat x hx (by omega)
      omega
  · have h1 := h.le hr h' (d x).toNat x hx (by omega)
    have h2 := h'.le hr h (d' x).toNat x hx (by omega)
    omega
theorem pigeon : ∀ (N n : Nat) (f : Nat → Nat), (∀ i, i < n → f i < N) → (∀ i j, i < n → j < n → f i = f j → i = j) → n ≤ N
  | 0, n, f, h, _ => by
    rcases Nat.eq_zero_or_pos n with h0 | h0
    · omega
    · exact absurd (h 0 h0) (by omega)
  | N + 1, n, f, h, hi => by
    by_cases q : ∃ i, i < n ∧ f i = N
    · obtain ⟨i0, h0, e0⟩ := q
      have := pigeon N (n - 1) (fun j => if j < i0 then f j else f (j + 1)) (fun j hj => by
        split
        · rename_i hlt
          have h1 := h j (by omega)
          have h2 : f j ≠ N := fun e => by have := hi j i0 (by omega) h0 (by omega); omega
          omega
        · rename_i hlt
          have h1 := h (j + 1) (by omega)
          have h2 : f (j + 1) ≠ N := fun e => by have := hi (j + 1) i0 (by omega) h0 (by omega); omega
          omega) (fun i j hi' hj' e => by
        split at e <;> split at e
        · exact hi i j (by omega) (by omega) e
        · have := hi i (j + 1) (by omega) (by omega) e; omega
        · have := hi (i + 1) j (by omega) (by omega) e; omega
        · have := hi (i + 1) (j + 1) (by omega) (by omega) e; omega)
      omega
    · have := pigeon N n f (fun i hi' => by
        have h1 := h i hi'
        have h2 : f i ≠ N := fun e => q ⟨i, hi', e⟩
        omega) hi
      omega
theorem IsDist.levels (hr : ∀ x y, adj x y → x < N ∧ y < N) (h : IsDist N adj a d) : ∀ (n : Nat) (x : Nat), x < N → d x = n → ∀ k : Nat, k ≤ n → ∃ y, y < N ∧ d y = k
  | 0, x, hx, e, k, hk => ⟨x, hx, by omega⟩
  | n + 1, x, hx, e, k, hk => by
    by_cases q : k = n + 1
    · exact ⟨x, hx, by omega⟩
    · obtain ⟨y, ha, hy⟩ := h.back x hx (by omega)
      exact IsDist.levels hr h n y (hr _ _ ha).1 (by omega) k (by omega)
theorem IsDist.lt (hr : ∀ x y, adj x y → x < N ∧ y < N) (h : IsDist N adj a d) (x : Nat) (hx : x < N) : d x < N := by
  rcases Int.lt_or_le (d x) 0 with q | q
  · omega
  · have h1 := h.levels hr (d x).toNat x hx (by omega)
    have h2 : ∀ k : Nat, ∃ y, k ≤ (d x).toNat → (y < N ∧ d y = k) := fun k => by
      by_cases hk : k ≤ (d x).toNat
      · obtain ⟨y, hy⟩ := h1 k hk
        exact ⟨y, fun _ => hy⟩
      · exact ⟨0, fun h => absurd h hk⟩
    have := pigeon N ((d x).toNat + 1) (fun k => Classical.choose (h2 k)) (fun i hi => (Classical.choose_spec (h2 i) (by omega)).1) (fun i j hi hj e => by
      have e1 := (Classical.choose_spec (h2 i) (by omega)).2
      have e2 := (Classical.choose_spec (h2 j) (by omega)).2
      rw [e] at e1
      omega)
    omega
end
section
variable {N : Nat} {adj : Nat → Nat → Prop} {a : Nat}
def gd (l : List Int) (i : Nat) : Int := l.getD i 0
theorem gd_set {l : List Int} {i : Nat} (h : i < l.length) (v : Int) (j : Nat) : gd (l.set i v) j = if j = i then v else gd l j := by
  unfold gd
  by_cases q : j = i
  · subst q; simp [h]
  · rw [if_neg q]; simp [List.getD, Ne.symm q]
def push (x : Nat) (s : List Int × List Nat) (y : Nat) : List Int × List Nat := if gd s.1 y < 0 then (s.1.set y (gd s.1 x + 1), s.2 ++ [y]) else s
structure Base (N : Nat) (adj : Nat → Nat → Prop) (a : Nat) (d : List Int) (w : List Nat) : Prop where
  len : d.length = N
  node : ∀ x ∈ w, x < N ∧ 0 ≤ gd d x
  zero : gd d a = 0
  only : ∀ x, x < N → gd d x = 0 → x = a
  low : ∀ x, x < N → -1 ≤ gd d x
  back : ∀ x, x < N → 0 < gd d x → ∃ y, adj y x ∧ gd d y = gd d x - 1
  order : w.Pairwise (fun x y => gd d x ≤ gd d y)
structure Outer (N : Nat) (adj : Nat → Nat → Prop) (a : Nat) (d : List Int) (w : List Nat) : Prop extends Base N adj a d w where
  closed : ∀ z, z < N → 0 ≤ gd d z → z ∈ w ∨ ∀ y, adj z y → 0 ≤ gd d y ∧ gd d y ≤ gd d z + 1
  head : ∀ x ∈ w, ∀ z, z < N → gd d z ≤ gd d x + 1
structure Inner (N : Nat) (adj : Nat → Nat → Prop) (a : Nat) (x : Nat) (done : List Nat) (d : List Int) (w : List Nat) : Prop extends Base N adj a d w where
  hx : x < N ∧ 0 ≤ gd d x
  closed : ∀ z, z < N → 0 ≤ gd d z → z ∈ w ∨ z = x ∨ ∀ y, adj z y → 0 ≤ gd d y ∧ gd d y ≤ gd d z + 1
  did : ∀ y ∈ done, 0 ≤ gd d y ∧ gd d y ≤ gd d x + 1
  top : ∀ z, z < N → gd d z ≤ gd d x + 1
  wave : ∀ u ∈ w, gd d x ≤ gd d u
theorem Inner.push (hr : ∀ x y, adj x y → x < N ∧ y < N) {x : Nat} {done : List Nat} {d : List Int} {w : List Nat} (h : Inner N adj a x done d w) {y : Nat} (hy : adj x y) :
    Inner N adj a x (y :: done) (push x (d, w) y).1 (push x (d, w) y).2 := by
  have hyN := (hr _ _ hy).2
  unfold PB.push
  by_cases q : gd d y < 0
  · simp only [if_pos q]
    have g : ∀ j, gd (d.set y (gd d x + 1)) j = if j = y then gd d x + 1 else gd d j := fun j => gd_set (by rw [h.len]; exact hyN) _ j
    have hxy : x ≠ y := fun e => by subst e; have := h.hx.2; omega
    have gp : ∀ j, 0 ≤ gd d j → gd (d.set y (gd d x + 1)) j = gd d j := fun j hj => by
      rw [g, if_neg (fun e => by subst e; omega)]
    have gx : gd (d.set y (gd d x + 1)) x = gd d x := gp x h.hx.2
    have gy : gd (d.set y (gd d x + 1)) y = gd d x + 1 := by rw [g, if_pos rfl]
    have hx0 := h.hx.2
    refine { len := by simp [h.len], node := ?_, zero := ?_, only := ?_, low := ?_, back := ?_, order := ?_, hx := ⟨h.hx.1, by rw [gx]; exact hx0⟩, closed := ?_, did := ?_, top := ?_, wave := ?_ }
    · intro u hu
      rcases List.mem_append.1 hu with hu | hu
      · have := h.node u hu
        rw [gp u this.2]; exact this
      · obtain rfl := List.mem_singleton.1 hu
        rw [gy]; exact ⟨hyN, by omega⟩
    · rw [gp a (by have := h.zero; omega)]; exact h.zero
    · intro u hu e
      rw [g] at e
      split at e
      · omega
      · exact h.only u hu e
    · intro u hu
      rw [g]
      split
      · omega
      · exact h.low u hu
    · intro u hu e
      rw [g] at e ⊢
      split at e
      · rename_i q2
        subst q2
        rw [if_pos rfl]
        exact ⟨x, hy, by rw [gx]; omega⟩
      · rename_i q2
        rw [if_neg q2]
        obtain ⟨v, hv, e2⟩ := h.back u hu e
        exact ⟨v, hv, by rw [gp v (by omega)]; exact e2⟩
    · refine List.pairwise_append.2 ⟨?_, by simp, ?_⟩
      · refine (List.Pairwise.and_mem.1 h.order).imp ?_
        rintro u v ⟨hu, hv, huv⟩
        rw [gp u (h.node u hu).2, gp v (h.node v hv).2]; exact huv
      · intro u hu v hv
        obtain rfl := List.mem_singleton.1 hv
        rw [gp u (h.node u hu).2, gy]
        exact h.top u (h.node u hu).1
    · intro z hz e
      rw [g] at e
      split at e
      · rename_i q2
        exact .inl (by simp [q2])
      · rcases h.closed z hz e with q3 | q3 | q3
        · exact .inl (by simp [q3])
        · exact .inr (.inl q3)
        · refine .inr (.inr fun v hv => ?_)
          have := q3 v hv
          rw [gp v this.1, gp z e]
          exact this
    · intro v hv
      rw [gx]
      rcases List.mem_cons.1 hv with rfl | hv
      · rw [gy]; omega
      · have := h.did v hv
        rw [gp v this.1]; exact this
    · intro z hz
      rw [gx, g]
      split
      · omega
      · exact h.top z hz
    · intro u hu
      rw [gx]
      rcases List.mem_append.1 hu with hu | hu
      · rw [gp u (h.node u hu).2]; exact h.wave u hu
      · obtain rfl := List.mem_singleton.1 hu
        rw [gy]; omega
  · simp only [if_neg q]
    exact { h with
      did := fun v hv => by
        rcases List.mem_cons.1 hv with rfl | hv
        · exact ⟨by omega, h.top v hyN⟩
        · exact h.did v hv }
theorem Outer.inner {x : Nat} {d : List Int} {w : List Nat} (h : Outer N adj a d (x :: w)) : Inner N adj a x [] d w :=
  { len := h.len, node := fun u hu => h.node u (List.mem_cons_of_mem _ hu), zero := h.zero, only := h.only, low := h.low, back := h.back, order := (List.pairwise_cons.1 h.order).2,
    hx := h.node x List.mem_cons_self, closed := fun z hz e => by
      rcases h.closed z hz e with q | q
      · rcases List.mem_cons.1 q with q | q
        · exact .inr (.inl q)
        · exact .inl q
      · exact .inr (.inr q)
    did := fun y hy => by simp at hy
    top := h.head x List.mem_cons_self
    wave := (List.pairwise_cons.1 h.order).1 }
theorem Inner.outer {x : Nat} {done : List Nat} {d : List Int} {w : List Nat} (h : Inner N adj a x done d w) (hd : ∀ y, adj x y → y ∈ done) : Outer N adj a d w :=
  { h with
    closed := fun z hz e => by
      rcases h.closed z hz e with q | q | q
      · exact .inl q
      · subst q
        exact .inr fun y hy => h.did y (hd y hy)
      · exact .inr q
    head := fun u hu z hz => by have := h.top z hz; have := h.wave u hu; omega }
theorem Outer.dist {d : List Int} (h : Outer N adj a d []) (hr : ∀ x y, adj x y → x < N ∧ y < N) : IsDist N adj a (gd d) :=
  { zero := h.zero, only := h.only, low := h.low, back := h.back, edge := fun x y hxy e => by
      rcases h.closed x (hr _ _ hxy).1 e with q | q
      · simp at q
      · exact q y hxy }
theorem Outer.init (ha : a < N) : Outer N adj a ((List.replicate N (-1)).set a 0) [a] := by
  have g : ∀ j, gd ((List.replicate N (-1)).set a 0) j = if j = a then 0 else gd (List.replicate N (-1)) j := fun j => gd_set (by simpa using ha) _ j
  have gn : ∀ j, j < N → gd (List.replicate N (-1)) j = -1 := fun j hj => by simp [gd, List.getD, hj]
  have ga : gd ((List.replicate N (-1)).set a 0) a = 0 := by rw [g, if_pos rfl]
  refine { len := by simp, node := fun x hx => ?_, zero := ga, only := fun x hx e => ?_, low := fun x hx => ?_, back := fun x hx e => ?_, order := by simp, closed := fun z hz e => ?_, head := fun x hx z hz => ?_ }
  · obtain rfl := List.mem_singleton.1 hx
    exact ⟨ha, by omega⟩
  · rw [g] at e
    split at e
    · assumption
    · rw [gn x hx] at e; omega
  · rw [g]; split
    · omega
    · rw [gn x hx]; omega
  · rw [g] at e
    split at e
    · omega
    · rw [gn x hx] at e; omega
  · rw [g] at e
    split at e
    · rename_i q; simp [q]
    · rw [gn z hz] at e; omega
  · obtain rfl := List.mem_singleton.1 hx
    rw [ga, g]; split
    · omega
    · rw [gn z hz]; omega
/-- How many are without a number. -/
def negs (d : List Int) : Nat := d.countP (fun v => decide (v < 0))
theorem push_size {x y : Nat} {d : List Int} {w : List Nat} (hy : y < d.length) (hx : 0 ≤ gd d x) : negs (push x (d, w) y).1 + (push x (d, w) y).2.length = negs d + w.length := by
  unfold push
  by_cases q : gd d y < 0
  · simp only [if_pos q]
    have : negs (d.set y (gd d x + 1)) + 1 = negs d := by
      unfold negs
      rw [List.countP_set hy]
      have e : d[y] = gd d y := by simp [gd, hy]
      rw [e]
      have hp : 0 < d.countP (fun v => decide (v < 0)) := List.countP_pos_iff.2 ⟨d[y], List.getElem_mem hy, by rw [e]; simpa using q⟩
      rw [if_pos (by simpa using q), if_neg (by simp; omega)]
      omega
    simp only [List.length_append, List.length_singleton]
    omega
  · simp only [if_neg q]
end
/-! Rounds of the reference. -/
section
def better (d e : Int) : Int := if e ≥ 0 ∧ (d < 0 ∨ e + 1 < d) then e + 1 else d
def upd (d : List Int) (x y : Nat) : List Int := d.set x (better (gd d x) (gd d y))
def relax (d : List Int) (p : Nat × Nat) : List Int := upd (upd d p.1 p.2) p.2 p.1
def adjOf (es : List (Nat × Nat)) (x y : Nat) : Prop := (x, y) ∈ es ∨ (y, x) ∈ es
variable {N : Nat} {adj : Nat → Nat → Prop} {a : Nat} {D : Nat → Int}
structure Over (N : Nat) (D : Nat → Int) (e : List Int) : Prop where
  len : e.length = N
  over : ∀ x, x < N → gd e x = -1 ∨ (0 ≤ D x ∧ D x ≤ gd e x)
theorem Over.upd (hD : IsDist N adj a D) (hr : ∀ x y, adj x y → x < N ∧ y < N) (hs : ∀ x y, adj x y → adj y x) {e : List Int} (h : Over N D e) {x y : Nat} (hxy : adj x y) :
    Over N D (upd e x y) ∧ (∀ z, z < N → 0 ≤ D z → gd e z = D z → gd (upd e x y) z = D z) ∧ (0 ≤ D y → gd e y = D y → D x = D y + 1 → gd (upd e x y) x = D x) := by
  obtain ⟨hx, hy⟩ := hr _ _ hxy
  have g : ∀ j, gd (PB.upd e x y) j = if j = x then better (gd e x) (gd e y) else gd e j := fun j => gd_set (by rw [h.len]; exact hx) _ j
  have ex := h.over x hx
  have ey := h.over y hy
  have lx := hD.low x hx
  have key : 0 ≤ gd e y → 0 ≤ D x ∧ D x ≤ gd e y + 1 := fun q => by
    have := hD.edge y x (hs _ _ hxy) (by omega)
    omega
  refine ⟨⟨by simp [PB.upd, h.len], fun z hz => ?_⟩, fun z hz h0 e1 => ?_, fun h0 e1 e2 => ?_⟩
  · rw [g]
    split
    · rename_i q; subst q
      unfold better
      split
      · rename_i c; have := key c.1; omega
      · exact ex
    · exact h.over z hz
  · rw [g]
    split
    · rename_i q; subst q
      unfold better
      split
      · rename_i c; have := key c.1; omega
      · exact e1
    · exact e1
  · rw [g, if_pos rfl]
    unfold better
    split
    · omega
    · omega
theorem Over.relax (hD : IsDist N adj a D) (hr : ∀ x y, adj x y → x < N ∧ y < N) (hs : ∀ x y, adj x y → adj y x) {e : List Int} (h : Over N D e) {p : Nat × Nat} (hp : adj p.1 p.2) :
    Over N D (relax e p) ∧ (∀ z, z < N → 0 ≤ D z → gd e z = D z → gd (relax e p) z = D z) ∧ (∀ x y, (p = (x, y) ∨ p = (y, x)) → 0 ≤ D y → gd e y = D y → D x = D y + 1 → gd (relax e p) x = D x) := by
  obtain ⟨h1, k1, r1⟩ := h.upd hD hr hs hp
  obtain ⟨h2, k2, r2⟩ := h1.upd hD hr hs (hs _ _ hp)
  refine ⟨h2, fun z hz h0 e1 => k2 z hz h0 (k1 z hz h0 e1), fun x y hxy h0 e1 e2 => ?_⟩
  rcases hxy with rfl | rfl
  · exact k2 _ (hr _ _ hp).1 (by omega) (r1 h0 e1 e2)
  · exact r2 h0 (k1 _ (hr _ _ hp).1 h0 e1) e2
def rounds (es : List (Nat × Nat)) : Nat → List Int → List Int
  | 0, d => d
  | n + 1, d => rounds es n (es.foldl relax d)
end
/-! The closure that goes down. -/
section
variable {N : Nat} {adj : Nat → Nat → Prop}
inductive Conn (adj : Nat → Nat → Prop) : Nat → Nat → Prop
  | refl (x : Nat) : Conn adj x x
  | step {x y z : Nat} : Conn adj x y → adj y z → Conn adj x z
theorem Conn.trans {x y z : Nat} (h : Conn adj x y) (k : Conn adj y z) : Conn adj x z := by
  induction k with
  | refl => exact h
  | step _ e ih => exact ih.step e
theorem Conn.symm (hs : ∀ x y, adj x y → adj y x) {x y : Nat} (h : Conn adj x y) : Conn adj y x := by
  induction h with
  | refl => exact .refl _
  | step _ e ih => exact ((Conn.refl _).step (hs _ _ e)).trans ih
/-- What one way down has done. -/
structure Down (N : Nat) (adj : Nat → Nat → Prop) (x : Nat) (least : Int) (c r : List Int) : Prop where
  len : r.length = N
  old : ∀ z, 0 ≤ gd c z → gd r z = gd c z
  new : ∀ z, z < N → gd c z < 0 → gd r z = gd c z ∨ (gd r z = least ∧ (∀ y, adj z y → 0 ≤ gd r y) ∧ Conn adj x z)
theorem Down.trans {x : Nat} {least : Int} {c r q : List Int} (h0 : 0 ≤ least) (h : Down N adj x least c r) (k : Down N adj x least r q) : Down N adj x least c q :=
  ⟨k.len, fun z hz => by have := h.old z hz; rw [k.old z (by omega), this], fun z hz e => by
    rcases h.new z hz e with e1 | ⟨e1, e2, e3⟩
    · rcases k.new z hz (by omega) with e4 | e4
      · exact .inl (by omega)
      · exact .inr e4
    · exact .inr ⟨by rw [k.old z (by omega), e1], fun y hy => by rw [k.old y (e2 y hy)]; exact e2 y hy, e3⟩⟩
end
section
variable {N : Nat}
/-- What the rows of neighbors say. -/
structure Rows (N : Nat) (next : List (List Int)) (adj : Nat → Nat → Prop) : Prop where
  len : next.length = N
  short : ∀ x, x < N → (next.getD x []).length < 4611686018427387904
  mem : ∀ x, x < N → ∀ y ∈ next.getD x [], ∃ z : Nat, y = z ∧ z < N ∧ adj x z
  all : ∀ x y, adj x y → x < N ∧ y < N ∧ (y : Int) ∈ next.getD x []
variable {next : List (List Int)} {adj : Nat → Nat → Prop}
theorem getD_in {α : Type} {l : List α} {j : Nat} (h : j < l.length) (d : α) : l.getD j d ∈ l := by
  rw [List.getD_eq_getElem?_getD, List.getElem?_eq_getElem h]; exact List.getElem_mem h
theorem Down.refl {x : Nat} {least : Int} {c : List Int} (h : c.length = N) : Down N adj x least c c := ⟨h, fun _ _ => rfl, fun _ _ _ => .inl rfl⟩
theorem Down.from {x y : Nat} {least : Int} {c r : List Int} (h : Down N adj y least c r) (hc : Conn adj x y) : Down N adj x least c r :=
  ⟨h.len, h.old, fun z hz e => by
    rcases h.new z hz e with q | ⟨q1, q2, q3⟩
    · exact .inl q
    · exact .inr ⟨q1, q2, hc.trans q3⟩⟩
theorem negs_set {c : List Int} {x : Nat} (hx : x < c.length) (hn : gd c x < 0) {v : Int} (hv : 0 ≤ v) : negs (c.set x v) + 1 = negs c := by
  unfold negs
  rw [List.countP_set hx]
  have e : c[x] = gd c x := by simp [gd, hx]
  rw [e]
  have hp : 0 < c.countP (fun v => decide (v < 0)) := List.countP_pos_iff.2 ⟨c[x], List.getElem_mem hx, by rw [e]; simpa using hn⟩
  rw [if_pos (by simpa using hn), if_neg (by simp; omega)]
  omega
/-- After the first i nodes have been visited. -/
structure Comps (N : Nat) (adj : Nat → Nat → Prop) (i : Nat) (c : List Int) : Prop where
  len : c.length = N
  low : ∀ z, z < N → -1 ≤ gd c z
  seen : ∀ z, z < i → z < N → 0 ≤ gd c z
  lab : ∀ z, z < N → 0 ≤ gd c z → ∃ b : Nat, gd c z = b ∧ b ≤ z ∧ b < N ∧ gd c b = b ∧ Conn adj b z
  edge : ∀ z y, adj z y → 0 ≤ gd c z → gd c y = gd c z
theorem Comps.init (hr : ∀ x y, adj x y → x < N ∧ y < N) : Comps N adj 0 (List.replicate N (-1)) := by
  have gn : ∀ j, j < N → gd (List.replicate N (-1)) j = -1 := fun j hj => by simp [gd, List.getD, hj]
  exact ⟨by simp, fun z hz => by rw [gn z hz]; omega, fun z hz => by omega, fun z hz h => by rw [gn z hz] at h; omega, fun z y h h1 => by
    rw [gn z (hr _ _ h).1] at h1; omega⟩
theorem Comps.conn {i : Nat} {c : List Int} (h : Comps N adj i c) {x y : Nat} (hc : Conn adj x y) (h0 : 0 ≤ gd c x) : gd c y = gd c x := by
  induction hc with
  | refl => rfl
  | step _ e ih => rw [h.edge _ _ e (by omega), ih]
theorem Comps.step (hs : ∀ x y, adj x y → adj y x) (hr : ∀ x y, adj x y → x < N ∧ y < N) {i : Nat} {c r : List Int} (h : Comps N adj i c) (hi : i < N) (hd : Down N adj i (i : Int) c r) (h0 : 0 ≤ gd r i) : Comps N adj (i + 1) r := by
  have key : ∀ z, z < N → gd c z < 0 → 0 ≤ gd r z → gd r z = i ∧ (∀ y, adj z y → 0 ≤ gd r y) ∧ Conn adj i z ∧ i ≤ z := fun z hz e1 e2 => by
    rcases hd.new z hz e1 with q | ⟨q1, q2, q3⟩
    · omega
    · refine ⟨q1, q2, q3, ?_⟩
      rcases Nat.lt_or_ge z i with q | q
      · have := h.seen z q hz; omega
      · exact q
  have hci : ∀ z, z < N → gd c z < 0 → 0 ≤ gd r z → gd c i < 0 := fun z hz e1 e2 => by
    rcases Int.lt_or_le (gd c i) 0 with q | q
    · exact q
    · have := h.conn (key z hz e1 e2).2.2.1 q; omega
  refine ⟨hd.len, fun z hz => ?_, fun z hz hz' => ?_, fun z hz e => ?_, fun z y hzy e => ?_⟩
  · rcases Int.lt_or_le (gd c z) 0 with q | q
    · rcases hd.new z hz q with q1 | q1
      · have := h.low z hz; omega
      · omega
    · rw [hd.old z q]; omega
  · by_cases q : z = i
    · subst q; exact h0
    · have := h.seen z (by omega) hz'
      rw [hd.old z this]; exact this
  · rcases Int.lt_or_le (gd c z) 0 with q | q
    · obtain ⟨k1, k2, k3, k4⟩ := key z hz q e
      exact ⟨i, k1, k4, hi, (key i hi (hci z hz q e) h0).1, k3⟩
    · obtain ⟨b, k1, k2, k3, k4, k5⟩ := h.lab z hz q
      exact ⟨b, by rw [hd.old z q, k1], k2, k3, by rw [hd.old b (by omega), k4], k5⟩
  · obtain ⟨hz, hy⟩ := hr _ _ hzy
    rcases Int.lt_or_le (gd c z) 0 with q | q
    · obtain ⟨k1, k2, k3, k4⟩ := key z hz q e
      have hy0 := k2 y hzy
      rcases Int.lt_or_le (gd c y) 0 with q2 | q2
      · rw [(key y hy q2 hy0).1, k1]
      · have := h.edge y z (hs _ _ hzy) q2; omega
    · have := h.edge z y hzy q
      rw [hd.old y (by omega), hd.old z q, this]
theorem IsDist.conn (hr : ∀ x y, adj x y → x < N ∧ y < N) {a : Nat} {d : Nat → Int} (h : IsDist N adj a d) {x : Nat} (hx : x < N) : 0 ≤ d x ↔ Conn adj a x := by
  constructor
  · intro h0
    have : ∀ (n : Nat) (x : Nat), x < N → d x = n → Conn adj a x := by
      intro n
      induction n with
      | zero => intro x hx e; rw [h.only x hx (by omega)]; exact .refl _
      | succ n ih =>
        intro x hx e
        obtain ⟨y, ha, hy⟩ := h.back x hx (by omega)
        exact (ih y (hr _ _ ha).1 (by omega)).step ha
    exact this (d x).toNat x hx (by omega)
  · intro hc
    clear hx
    induction hc with
    | refl => rw [h.zero]; omega
    | step _ e ih => exact (h.edge _ _ e ih).1
/-- The label is the least node that is not out of reach. -/
theorem Comps.least (hs : ∀ x y, adj x y → adj y x) (hr : ∀ x y, adj x y → x < N ∧ y < N) {c : List Int} (h : Comps N adj N c) {i : Nat} (hi : i < N) {d : Nat → Int} (hd : IsDist N adj i d) :
    ∃ b : Nat, gd c i = b ∧ b < N ∧ 0 ≤ d b ∧ ∀ k, k < N → 0 ≤ d k → b ≤ k := by
  obtain ⟨b, h1, h2, h3, h4, h5⟩ := h.lab i hi (h.seen i hi hi)
  refine ⟨b, h1, h3, (hd.conn hr h3).2 (h5.symm hs), fun k hk h0 => ?_⟩
  have := h.conn ((hd.conn hr hk).1 h0) (h.seen i hi hi)
  obtain ⟨b', k1, k2, _⟩ := h.lab k hk (h.seen k hk hk)
  omega
end
end Go.Proofs.Ythkpnkmbmlbefaa.PB
