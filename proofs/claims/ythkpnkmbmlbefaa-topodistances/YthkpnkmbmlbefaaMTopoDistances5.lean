/- Ythkpnkmbmlbefaa: part 5 of 6 of the proof that the law TopoDistances returns true for every input, its arguments reading as before. No condition. -/
import Derived.Test.YthkpnkmbmlbefaaMTopoDistances1
import Derived.Test.YthkpnkmbmlbefaaMTopoDistances4
import Derived.Test.YthkpnkmbmlbefaaMTopoDistances2
import Derived.Test.YthkpnkmbmlbefaaMTopoDistances3
namespace Go.Proofs.Ythkpnkmbmlbefaa.X
open Go.RowKit Go.Proofs.YthkpnkmbmlbefaaW.PrintWords Go.Proofs.YthkpnkmbmlbefaaW.PrintLast Go.Proofs.YthkpnkmbmlbefaaW.PrintMore
attribute [local go_sem] max2_int min2_int max_two min_two max_three min_three max_four min_four   -- for this text's walks alone
set_option linter.unusedVariables false
set_option linter.unusedSimpArgs false

theorem info4 : (Try.prog.info? 4).map (fun i => (i.zero, i.size, i.bytes)) = some (some (.bool false), 1, 1) := by kernel_rfl
/-! ### timesynclaw18_TopoDistances: function 8 -/
mutual
def timesynclaw18_TopoDistances.j0 : Nat → Bool → Int → List (S37) → Option (Bool)
 | 0, _, _, _ => none
 | k + 1, x21, x390000, x390001 => if x21 = true then ((timesynclaw18_awake.f k).bind fun t392 => (some t392)) else ((timesynclaw18_sound.f k x390000 x390001).bind fun bt393 => ((topo_Comp.f k x390000 x390001).bind fun t397 => (if bt393.2 = true then (timesynclaw18_TopoDistances.j1 k bt393.1 t397 ((t397.length : Int) != x390000) x390000 x390001) else (timesynclaw18_TopoDistances.j1 k bt393.1 t397 true x390000 x390001))))
def timesynclaw18_TopoDistances.j1 : Nat → List (List Int) → List Int → Bool → Int → List (S37) → Option (Bool)
 | 0, _, _, _, _, _ => none
 | k + 1, x3, x5, x38, x390000, x390001 => if x38 = true then (none) else (timesynclaw18_TopoDistances.l0 k x3 x5 0 (x3.length : Int) 0 x390000 x390001)
def timesynclaw18_TopoDistances.l0 : Nat → List (List Int) → List Int → Int → Int → Int → Int → List (S37) → Option (Bool)
 | 0, _, _, _, _, _, _, _ => none
 | k + 1, x3, x5, x6, x40, x41, x390000, x390001 => if x41 < x40 then (if 0 ≤ x390000 then (if (x390000 : Int).toNat ≤ 281474976710656 then ((some (List.replicate (x390000 : Int).toNat false : List Bool)).bind fun y402 => (if 0 ≤ x41 then (if x41 < (y402.length : Int) then (timesynclaw18_TopoDistances.l1 k x3 x5 x6 x41 (y402.set (x41 : Int).toNat true) x40 x41 x390001 (x390001.length : Int) 0 x390000 x390001) else (none)) else (none))) else (none)) else (none)) else ((topo_Diameter.f k x390000 x390001).bind fun t400 => (if t400 = x6 then ((timesynclaw18_awake.f k).bind fun t401 => (some t401)) else (none)))
def timesynclaw18_TopoDistances.l1 : Nat → List (List Int) → List Int → Int → Int → List Bool → Int → Int → List (S37) → Int → Int → Int → List (S37) → Option (Bool)
 | 0, _, _, _, _, _, _, _, _, _, _, _, _ => none
 | k + 1, x3, x5, x6, x7, x8, x40, x41, x51, x52, x53, x390000, x390001 => if x53 < x52 then (if 0 ≤ x53 then (if x53 < (x51.length : Int) then (if 0 ≤ x7 then (if x7 < (x3.length : Int) then (if 0 ≤ ((rd_T37 x51 x53).f0) then (if ((rd_T37 x51 x53).f0) < ((rd_L3 x3 x7).length : Int) then (if 0 ≤ ((rd_T37 x51 x53).f2) then (if ((rd_T37 x51 x53).f2) < ((rd_L3 x3 x7).length : Int) then (if (wrap64 ((rd (rd_L3 x3 x7) ((rd_T37 x51 x53).f0)) - (rd (rd_L3 x3 x7) ((rd_T37 x51 x53).f2)))) > 1 then (none) else (if (wrap64 ((rd (rd_L3 x3 x7) ((rd_T37 x51 x53).f2)) - (rd (rd_L3 x3 x7) ((rd_T37 x51 x53).f0)))) > 1 then (none) else (if ((decide ((rd (rd_L3 x3 x7) ((rd_T37 x51 x53).f0)) < 0)) != (decide ((rd (rd_L3 x3 x7) ((rd_T37 x51 x53).f2)) < 0))) = true then (none) else (if ((rd_T37 x51 x53).f0) < (x8.length : Int) then (if rdOf false x8 ((rd_T37 x51 x53).f0) = true then ((some (x8.set (((rd_T37 x51 x53).f0) : Int).toNat true : List Bool)).bind fun y413 => (if ((rd_T37 x51 x53).f2) < (x8.length : Int) then (if rdOf false y413 ((rd_T37 x51 x53).f2) = true then (timesynclaw18_TopoDistances.l1 k x3 x5 x6 x7 (y413.set (((rd_T37 x51 x53).f2) : Int).toNat true) x40 x41 x51 x52 (wrap64 (x53 + 1)) x390000 x390001) else (timesynclaw18_TopoDistances.l1 k x3 x5 x6 x7 (y413.set (((rd_T37 x51 x53).f2) : Int).toNat ((rd (rd_L3 x3 x7) ((rd_T37 x51 x53).f0)) == (wrap64 ((rd (rd_L3 x3 x7) ((rd_T37 x51 x53).f2)) - 1)))) x40 x41 x51 x52 (wrap64 (x53 + 1)) x390000 x390001)) else (none))) else ((some (x8.set (((rd_T37 x51 x53).f0) : Int).toNat ((rd (rd_L3 x3 x7) ((rd_T37 x51 x53).f2)) == (wrap64 ((rd (rd_L3 x3 x7) ((rd_T37 x51 x53).f0)) - 1))) : List Bool)).bind fun y417 => (if ((rd_T37 x51 x53).f2) < (x8.length : Int) then (if rdOf false y417 ((rd_T37 x51 x53).f2) = true then (timesynclaw18_TopoDistances.l1 k x3 x5 x6 x7 (y417.set (((rd_T37 x51 x53).f2) : Int).toNat true) x40 x41 x51 x52 (wrap64 (x53 + 1)) x390000 x390001) else (timesynclaw18_TopoDistances.l1 k x3 x5 x6 x7 (y417.set (((rd_T37 x51 x53).f2) : Int).toNat ((rd (rd_L3 x3 x7) ((rd_T37 x51 x53).f0)) == (wrap64 ((rd (rd_L3 x3 x7) ((rd_T37 x51 x53).f2)) - 1)))) x40 x41 x51 x52 (wrap64 (x53 + 1)) x390000 x390001)) else (none)))) else (none))))) else (none)) else (none)) else (none)) else (none)) else (none)) else (none)) else (none)) else (none)) else (if 0 ≤ x7 then (if x7 < (x3.length : Int) then (timesynclaw18_TopoDistances.l2 k x3 x5 x6 x7 x8 x40 x41 (rd_L3 x3 x7) ((rd_L3 x3 x7).length : Int) 0 x390000 x390001) else (none)) else (none))
def timesynclaw18_TopoDistances.l2 : Nat → List (List Int) → List Int → Int → Int → List Bool → Int → Int → List Int → Int → Int → Int → List (S37) → Option (Bool)
 | 0, _, _, _, _, _, _, _, _, _, _, _, _ => none
 | k + 1, x3, x5, x6, x7, x8, x40, x41, x124, x125, x126, x390000, x390001 => if x126 < x125 then (if 0 ≤ x126 then (if x126 < (x124.length : Int) then (if (rd x124 x126) < (-1) then (none) else (if (((rd x124 x126) == 0) != (x7 == x126)) = true then (none) else (if (rd x124 x126) ≥ 0 then (if x126 < (x8.length : Int) then (if rdOf false x8 x126 = true then (if x126 < (x3.length : Int) then (if 0 ≤ x7 then (if x7 < ((rd_L3 x3 x126).length : Int) then (if (rd x124 x126) = (rd (rd_L3 x3 x126) x7) then (if x126 < (x5.length : Int) then (if x7 < (x5.length : Int) then (if (rd x5 x126) = (rd x5 x7) then (if (rd x124 x126) < 0 then (none) else (timesynclaw18_TopoDistances.l2 k x3 x5 (mx x6 (rd x124 x126)) x7 x8 x40 x41 x124 x125 (wrap64 (x126 + 1)) x390000 x390001)) else (none)) else (none)) else (none)) else (none)) else (none)) else (none)) else (none)) else (none)) else (none)) else (if x126 < (x3.length : Int) then (if 0 ≤ x7 then (if x7 < ((rd_L3 x3 x126).length : Int) then (if (rd x124 x126) = (rd (rd_L3 x3 x126) x7) then (if (rd x124 x126) < 0 then (if x126 < (x5.length : Int) then (if x7 < (x5.length : Int) then (if (rd x5 x126) = (rd x5 x7) then (none) else (timesynclaw18_TopoDistances.l2 k x3 x5 (mx x6 (rd x124 x126)) x7 x8 x40 x41 x124 x125 (wrap64 (x126 + 1)) x390000 x390001)) else (none)) else (none)) else (none)) else (none)) else (none)) else (none)) else (none))))) else (none)) else (none)) else (if 0 ≤ x7 then (if x7 < (x5.length : Int) then (if x7 < (x3.length : Int) then ((slices_IndexFunc_int_int_38.f k (rd_L3 x3 x7)).bind fun t434 => (if (rd x5 x7) = t434 then (timesynclaw18_TopoDistances.l0 k x3 x5 x6 x40 (wrap64 (x41 + 1)) x390000 x390001) else (none))) else (none)) else (none)) else (none))
end
def timesynclaw18_TopoDistances.f (k : Nat) (a0_0 : Int) (l0_1 : List (S37)) : Option (Bool) := (timesynclaw18_long.f a0_0 l0_1).bind fun t390 => (if t390 = true then (timesynclaw18_TopoDistances.j0 k true a0_0 l0_1) else ((topo_Check.f k a0_0 l0_1).bind fun t391 => (timesynclaw18_TopoDistances.j0 k (t391 != 0) a0_0 l0_1)))
def timesynclaw18_TopoDistances.T16 : Bool × List (List Nat × List Nat) := (true, [([], []), ([], []), ([0, 1], [0, 1]), ([2], [2]), ([], []), ([4], [4]), ([3, 5], [3, 5]), ([6], [6]), ([], []), ([], []), ([8, 9], [8, 9]), ([10], [10]), ([], []), ([12], [12]), ([11, 13], [11, 13]), ([14], [14]), ([7, 0, 1, 2, 3, 4, 5, 6, 7], [7]), ([15, 16, 0, 1, 2, 3, 4, 5, 6, 7, 8, 9, 10, 11, 12, 13, 14, 15, 16], [15])])
def timesynclaw18_TopoDistances.B16 : List Nat := [0, 0, 3, 7, 0, 16, 63, 127, 0, 0, 768, 1792, 0, 4096, 16128, 32512, 255, 131071]
theorem timesynclaw18_TopoDistances.tab16 : rtab .any (opsOf Try.f8 16) = timesynclaw18_TopoDistances.T16 := by kernel_rfl
theorem timesynclaw18_TopoDistances.bits16 : waitsOk timesynclaw18_TopoDistances.T16.2 timesynclaw18_TopoDistances.B16 = true := by kernel_rfl
def timesynclaw18_TopoDistances.T19 : Bool × List (List Nat × List Nat) := (true, [([], []), ([], []), ([1], [1]), ([], []), ([], []), ([4], [4]), ([3, 5], [3, 5]), ([6], [6]), ([7], [7]), ([8], [8]), ([8], [8]), ([10, 8], [8, 10]), ([9, 11, 8], [8, 9, 11]), ([8, 12], [8, 12]), ([0, 2, 0, 1, 2, 3, 4, 5, 6, 7, 8, 9, 10, 11, 12, 13], [0, 2]), ([14, 13, 8, 0, 1, 2, 3, 4, 5, 6, 7, 8, 9, 10, 11, 12, 13], [13, 14])])
def timesynclaw18_TopoDistances.B19 : List Nat := [0, 0, 2, 0, 0, 16, 56, 120, 248, 504, 504, 1528, 4088, 8184, 16383, 32767]
theorem timesynclaw18_TopoDistances.tab19 : rtab .any (opsOf Try.f8 19) = timesynclaw18_TopoDistances.T19 := by kernel_rfl
theorem timesynclaw18_TopoDistances.bits19 : waitsOk timesynclaw18_TopoDistances.T19.2 timesynclaw18_TopoDistances.B19 = true := by kernel_rfl
def timesynclaw18_TopoDistances.T20 : Bool × List (List Nat × List Nat) := (true, [([], []), ([], []), ([1], [1]), ([], []), ([], []), ([4], [4]), ([3, 5], [3, 5]), ([6], [6]), ([7], [7]), ([8], [8]), ([8], [8]), ([10, 8], [8, 10]), ([9, 11, 8], [8, 9, 11]), ([8, 12], [8, 12]), ([0, 2, 0, 1, 2, 3, 4, 5, 6, 7, 8, 9, 10, 11, 12, 13], [0, 2]), ([14, 13, 8, 0, 1, 2, 3, 4, 5, 6, 7, 8, 9, 10, 11, 12, 13], [13, 14])])
def timesynclaw18_TopoDistances.B20 : List Nat := [0, 0, 2, 0, 0, 16, 56, 120, 248, 504, 504, 1528, 4088, 8184, 16383, 32767]
theorem timesynclaw18_TopoDistances.tab20 : rtab .any (opsOf Try.f8 20) = timesynclaw18_TopoDistances.T20 := by kernel_rfl
theorem timesynclaw18_TopoDistances.bits20 : waitsOk timesynclaw18_TopoDistances.T20.2 timesynclaw18_TopoDistances.B20 = true := by kernel_rfl
def timesynclaw18_TopoDistances.T25 : Bool × List (List Nat × List Nat) := (true, [([], []), ([0], [0]), ([1], [1]), ([2], [2]), ([3, 2], [2, 3]), ([2], [2]), ([2], [2]), ([5, 6, 2], [2, 5, 6]), ([4, 7, 2], [2, 4, 7]), ([2, 8], [2, 8]), ([9, 2], [9]), ([10], [10]), ([11, 10], [10, 11]), ([12, 10, 10], [10, 12]), ([13], [13]), ([13], [13]), ([14, 15, 13], [13, 14, 15]), ([16, 13], [13, 16]), ([17, 13], [13, 17]), ([13, 18, 10], [10, 13, 18]), ([10, 19], [10, 19]), ([20, 13], [20]), ([21], [21]), ([21], [21]), ([21], [21]), ([23, 24, 21], [21, 23, 24]), ([25, 21], [21, 25]), ([21], [21]), ([26, 27, 21], [21, 26, 27]), ([28, 21], [21, 28]), ([22, 29, 21], [21, 22, 29]), ([21, 30], [21, 30]), ([31, 21], [31]), ([32], [32]), ([33, 32], [32, 33]), ([34, 32, 32], [32, 34]), ([35], [35]), ([35], [35]), ([36, 37, 35], [35, 36, 37]), ([38, 35], [35, 38]), ([35], [35]), ([35], [35]), ([40, 41, 35], [35, 40, 41]), ([42, 35], [35, 42]), ([39, 43, 35], [35, 39, 43]), ([35, 44, 32], [32, 35, 44]), ([32, 45], [32, 45]), ([46, 35], [46]), ([47], [47]), ([48, 47], [47, 48]), ([49, 47, 47], [47, 49]), ([50], [50]), ([50], [50]), ([51, 52, 50], [50, 51, 52]), ([53, 50], [50, 53]), ([50], [50]), ([50], [50]), ([55, 56, 50], [50, 55, 56]), ([57, 50], [50, 57]), ([54, 58, 50], [50, 54, 58]), ([50, 59, 47], [47, 50, 59]), ([47, 60], [47, 60])])
def timesynclaw18_TopoDistances.B25 : List Nat := [0, 1, 3, 7, 15, 7, 7, 103, 255, 511, 1023, 2047, 4095, 8191, 16383, 16383, 65535, 131071, 262143, 524287, 1048575, 2097151, 4194303, 4194303, 4194303, 29360127, 62914559, 4194303, 264241151, 532676607, 1073741823, 2147483647, 4294967295, 8589934591, 17179869183, 34359738367, 68719476735, 68719476735, 274877906943, 549755813887, 68719476735, 68719476735, 3367254360063, 7765300871167, 17592186044415, 35184372088831, 70368744177663, 140737488355327, 281474976710655, 562949953421311, 1125899906842623, 2251799813685247, 2251799813685247, 9007199254740991, 18014398509481983, 2251799813685247, 2251799813685247, 110338190870577151, 254453378946433023, 576460752303423487, 1152921504606846975, 2305843009213693951]
theorem timesynclaw18_TopoDistances.tab25 : rtab .any (opsOf Try.f8 25) = timesynclaw18_TopoDistances.T25 := by kernel_rfl
theorem timesynclaw18_TopoDistances.bits25 : waitsOk timesynclaw18_TopoDistances.T25.2 timesynclaw18_TopoDistances.B25 = true := by kernel_rfl
def timesynclaw18_TopoDistances.T29 : Bool × List (List Nat × List Nat) := (true, [([], []), ([], []), ([0, 1], [0, 1]), ([2], [2]), ([], []), ([], []), ([4, 5], [4, 5]), ([6], [6]), ([7], [7]), ([3, 8], [3, 8])])
def timesynclaw18_TopoDistances.B29 : List Nat := [0, 0, 3, 7, 0, 0, 48, 112, 240, 511]
theorem timesynclaw18_TopoDistances.tab29 : rtab .any (opsOf Try.f8 29) = timesynclaw18_TopoDistances.T29 := by kernel_rfl
theorem timesynclaw18_TopoDistances.bits29 : waitsOk timesynclaw18_TopoDistances.T29.2 timesynclaw18_TopoDistances.B29 = true := by kernel_rfl
set_option maxHeartbeats 8000000 in
set_option maxRecDepth 100000 in
theorem timesynclaw18_TopoDistances.calls (k : Nat) (a0_0 : Int) (A0_1 : Option Addr) (c0_1 : Nat) (l0_1 : List (S37)) (r : Bool) (w : World) (hr0_1 : Kd.C k37 w A0_1 l0_1.length l0_1) (hc0_1 : l0_1.length ≤ c0_1) (h : timesynclaw18_TopoDistances.f k a0_0 l0_1 = some r) :
  Calls Try.prog 8 #[.agg #[.int .i64 a0_0, .slice A0_1 l0_1.length c0_1]] w fun e w' => e = .returned (.bool r) ∧ Below w.heap.size w w' := by
 have hu24 := Try.underlying24
 have hu37 := Try.underlying37
 have HR0_1 := Aside0.mk hr0_1
 have HC0_1 := Aside0.mk hc0_1
 clear hr0_1 hc0_1
 have HB := Aside0.mk (Below.refl w.heap.size w)
 have H : ((timesynclaw18_long.f a0_0 l0_1).bind fun t390 => (if t390 = true then (timesynclaw18_TopoDistances.j0 k true a0_0 l0_1) else ((topo_Check.f k a0_0 l0_1).bind fun t391 => (timesynclaw18_TopoDistances.j0 k (t391 != 0) a0_0 l0_1)))) = some r := h
 clear h
 have HC2 := Aside0.mk H
 clear H
 go_enter Try.func8, Try.ntmps8
 go_upto_region 1 with (first | ((with_reducible refine gate_dst (N := 1) rfl ?_); (try (refine gate_guard (by rfl) ?_; dsimp only)); refine box_event ?hg (N := 1) ?hd (cs := #[.int .i64 a0_0, .slice A0_1 l0_1.length c0_1]) (t := 24) ?hr ?_; (case hd => rfl); (case hg => rfl); (case hr => first | (go_simp; done) | (go_simp; rfl)); intro gb389 hg w3 hbox hb; have n0_ := Aside0.mk (below_step (by repeat (first | (with_reducible first | exact HB.out | apply below_alloc | apply pw_below_drewN | apply below_drew1) | exact HB.out)) hb); have n1_ := Aside0.mk (hbox); have n2_ := Aside0.mk ((by rw [hg]; exact (below_size (by repeat (first | (with_reducible first | exact HB.out | apply below_alloc | apply pw_below_drewN | apply below_drew1) | exact HB.out))) : w.heap.size ≤ gb389)); have n3_ := Aside0.mk ((by rw [hg]; exact (below_size (by repeat (first | (with_reducible first | exact HB.out | apply below_alloc | apply pw_below_drewN | apply below_drew1) | exact HB.out))) : w.heap.size ≤ gb389)); clear HB; have HB := n0_; have BK389 := n1_; have GW389 := n2_; have GE389 := n3_; clear n0_ n1_ n2_ n3_; clear hb hbox hg))
 (try simp only [Act.put, List.setIfInBounds_toArray, List.set_cons_zero, List.set_cons_succ])
 go_cut [21] (fun v21 wc => ∃ (kq : Nat) (x21_1 : Bool), v21 = .bool x21_1 ∧ Aside0 (timesynclaw18_TopoDistances.j0 kq x21_1 a0_0 l0_1 = some r) ∧ Aside0 (kq ≤ k) ∧ Aside0 (wc.heap[gb389]? = some (.cells #[.int .i64 a0_0, (.slice A0_1 l0_1.length c0_1)] 24 (0, 0))) ∧ Aside0 (Below w.heap.size w wc))
 case first =>
  have H := HC2.out
  clear HC2
  replace H := Option.bind_eq_some_iff.mp H
  obtain ⟨t390, A40, H⟩ := H
  replace H : (if t390 = true then (timesynclaw18_TopoDistances.j0 k true a0_0 l0_1) else ((topo_Check.f k a0_0 l0_1).bind fun t391 => (timesynclaw18_TopoDistances.j0 k (t391 != 0) a0_0 l0_1))) = some r := H
  have A4 := Aside0.mk A40
  clear A40
  by_cases c5 : t390 = true
  ·subst c5
   have H1 : (timesynclaw18_TopoDistances.j0 k true a0_0 l0_1) = some r := by rw [if_pos rfl] at H; exact H
   clear H
   have H := H1
   clear H1
   have H' := Aside0.mk H
   clear H
   have hcz6_0 : w3.cell? ⟨gb389, 0, none⟩ = some (.int .i64 a0_0) := (blk_cell BK389.out 0).trans rfl
   have hcz6_1 : w3.cell? ⟨gb389, 1, none⟩ = some (.slice A0_1 l0_1.length c0_1) := (blk_cell BK389.out 1).trans rfl
   have hfz6_0 := blk_frozen BK389.out 0
   have hfz6_1 := blk_frozen BK389.out 1
   go_wp2_with (first | ((with_reducible refine gate_callee (f := 15) rfl ?_); refine goesL_ (some 16) rfl rfl Try.func15 (by kernel_rfl) rfl #[.agg #[.int .i64 a0_0, .slice A0_1 l0_1.length c0_1]] rfl (by (try simp only [List.map_toArray, List.map_cons, List.map_nil]); first | done | rfl | (simp only [List.length_drop, List.length_take]; rfl)) ?_; (with_reducible refine (timesynclaw18_long.calls a0_0 _ _ l0_1 true _ ?side1 ?side2 A4.out).mono ?_); (case side1 => repeat (first | exact (Kd.C_below HR0_1.out HB.out) | (with_reducible refine Kd.C_alloc ?_ _) | (with_reducible refine Kd.C_drewN ?_ _) | (with_reducible refine Kd.C_drew ?_))); (case side2 => exact HC0_1.out); rintro e w7 ⟨rfl, hb⟩; refine ⟨_, rfl, ?_⟩; have n0_ := Aside0.mk (blk_below (g := gb389) (o := .cells #[.int .i64 a0_0, .slice A0_1 l0_1.length c0_1] 24 (0, 0)) (by (with_reducible repeat (first | refine blk_drewN ?_ _ | refine blk_drew ?_ | refine blk_alloc ?_ _)); exact BK389.out) hb); have n1_ := Aside0.mk (below_step (by repeat (first | (with_reducible first | exact HB.out | apply below_alloc | apply pw_below_drewN | apply below_drew1 | refine below_set ?_ GE389.out) | exact HB.out)) hb); clear BK389; clear HB; have BK389 := n0_; have HB := n1_; clear n0_ n1_; (try clear hb); (try clear hb2); (try clear hk); (try clear hi)))
   go_meet
   case rel => exact ⟨_, (true), (by first | rfl | (simp; done) | (simp [*]; done)), H', ⟨by first | omega | exact Nat.le_refl _⟩, ⟨by (with_reducible repeat (first | refine blk_drewN ?_ _ | refine blk_drew ?_ | refine blk_alloc ?_ _)); exact BK389.out⟩, ⟨by repeat (first | (with_reducible first | exact HB.out | apply below_alloc | apply pw_below_drewN | apply below_drew1 | refine below_set ?_ GE389.out) | exact HB.out)⟩⟩
  replace c5 := Bool.eq_false_iff.mpr c5
  subst c5
  have H1 : ((topo_Check.f k a0_0 l0_1).bind fun t391 => (timesynclaw18_TopoDistances.j0 k (t391 != 0) a0_0 l0_1)) = some r := by rw [if_neg (show ¬ (false = true) by decide)] at H; exact H
  clear H
  have H := H1
  clear H1
  replace H := Option.bind_eq_some_iff.mp H
  obtain ⟨t391, A80, H⟩ := H
  replace H : (timesynclaw18_TopoDistances.j0 k (t391 != 0) a0_0 l0_1) = some r := H
  have A8 := Aside0.mk A80
  clear A80
  have H' := Aside0.mk H
  clear H
  have hcz9_0 : w3.cell? ⟨gb389, 0, none⟩ = some (.int .i64 a0_0) := (blk_cell BK389.out 0).trans rfl
  have hcz9_1 : w3.cell? ⟨gb389, 1, none⟩ = some (.slice A0_1 l0_1.length c0_1) := (blk_cell BK389.out 1).trans rfl
  have hfz9_0 := blk_frozen BK389.out 0
  have hfz9_1 := blk_frozen BK389.out 1
  go_wp2_with (first | ((with_reducible refine gate_callee (f := 15) rfl ?_); refine goesL_ (some 16) rfl rfl Try.func15 (by kernel_rfl) rfl #[.agg #[.int .i64 a0_0, .slice A0_1 l0_1.length c0_1]] rfl (by (try simp only [List.map_toArray, List.map_cons, List.map_nil]); first | done | rfl | (simp only [List.length_drop, List.length_take]; rfl)) ?_; (with_reducible refine (timesynclaw18_long.calls a0_0 _ _ l0_1 false _ ?side1 ?side2 A4.out).mono ?_); (case side1 => repeat (first | exact (Kd.C_below HR0_1.out HB.out) | (with_reducible refine Kd.C_alloc ?_ _) | (with_reducible refine Kd.C_drewN ?_ _) | (with_reducible refine Kd.C_drew ?_))); (case side2 => exact HC0_1.out); rintro e w10 ⟨rfl, hb⟩; refine ⟨_, rfl, ?_⟩; have n0_ := Aside0.mk (blk_below (g := gb389) (o := .cells #[.int .i64 a0_0, .slice A0_1 l0_1.length c0_1] 24 (0, 0)) (by (with_reducible repeat (first | refine blk_drewN ?_ _ | refine blk_drew ?_ | refine blk_alloc ?_ _)); exact BK389.out) hb); have n1_ := Aside0.mk (below_step (by repeat (first | (with_reducible first | exact HB.out | apply below_alloc | apply pw_below_drewN | apply below_drew1 | refine below_set ?_ GE389.out) | exact HB.out)) hb); clear BK389; clear HB; have BK389 := n0_; have HB := n1_; clear n0_ n1_; (try clear hb); (try clear hb2); (try clear hk); (try clear hi); have hcz11_0 : w10.cell? ⟨gb389, 0, none⟩ = some (.int .i64 a0_0) := (blk_cell BK389.out 0).trans rfl; have hcz11_1 : w10.cell? ⟨gb389, 1, none⟩ = some (.slice A0_1 l0_1.length c0_1) := (blk_cell BK389.out 1).trans rfl; have hfz11_0 := blk_frozen BK389.out 0; have hfz11_1 := blk_frozen BK389.out 1) | (go_at_call 17; (with_reducible refine (topo_Check.calls k a0_0 _ _ l0_1 t391 _ ?side1 ?side2 A8.out).mono ?_); (case side1 => repeat (first | exact (Kd.C_below HR0_1.out HB.out) | (with_reducible refine Kd.C_alloc ?_ _) | (with_reducible refine Kd.C_drewN ?_ _) | (with_reducible refine Kd.C_drew ?_))); (case side2 => exact HC0_1.out); rintro e w12 ⟨rfl, hb⟩; have n0_ := Aside0.mk (blk_below (g := gb389) (o := .cells #[.int .i64 a0_0, .slice A0_1 l0_1.length c0_1] 24 (0, 0)) (by (with_reducible repeat (first | refine blk_drewN ?_ _ | refine blk_drew ?_ | refine blk_alloc ?_ _)); exact BK389.out) hb); have n1_ := Aside0.mk (below_step (by repeat (first | (with_reducible first | exact HB.out | apply below_alloc | apply pw_below_drewN | apply below_drew1 | refine below_set ?_ GE389.out) | exact HB.out)) hb); clear BK389; clear HB; have BK389 := n0_; have HB := n1_; clear n0_ n1_; (try clear hb); (try clear hb2); (try clear hk); (try clear hi)))
  go_meet
  case rel => exact ⟨_, ((t391 != 0)), (by first | rfl | (simp; done) | (simp [*]; done)), H', ⟨by first | omega | exact Nat.le_refl _⟩, ⟨by (with_reducible repeat (first | refine blk_drewN ?_ _ | refine blk_drew ?_ | refine blk_alloc ?_ _)); exact BK389.out⟩, ⟨by repeat (first | (with_reducible first | exact HB.out | apply below_alloc | apply pw_below_drewN | apply below_drew1 | refine below_set ?_ GE389.out) | exact HB.out)⟩⟩
 case rest =>
  clear HC2
  try clear c1
  try clear p2
  try clear c5
  try clear c8
  try clear hcz11_0
  try clear hcz11_1
  try clear hcz6_0
  try clear hcz6_1
  try clear hcz9_0
  try clear hcz9_1
  try clear hfz11_0
  try clear hfz11_1
  try clear hfz6_0
  try clear hfz6_1
  try clear hfz9_0
  try clear hfz9_1
  obtain ⟨kq, x21_1, rfl, HA, HJ1, BK389, HB⟩ := hcut
  cases kq with
  | zero => exact absurd HA.out (by simp [timesynclaw18_TopoDistances.j0])
  | succ kj1 =>
   have H := HA.out
   clear HA
   simp only [timesynclaw18_TopoDistances.j0] at H
   by_cases c13 : x21_1 = true
   ·subst c13
    have H1 : ((timesynclaw18_awake.f kj1).bind fun t392 => (some t392)) = some r := by rw [if_pos rfl] at H; exact H
    clear H
    have H := H1
    clear H1
    replace H := Option.bind_eq_some_iff.mp H
    obtain ⟨t392, A140, H⟩ := H
    replace H : (some t392) = some r := H
    have A14 := Aside0.mk A140
    clear A140
    obtain rfl := Option.some.inj H
    go_wp2_with (first | ((with_reducible refine gate_callee (f := 16) rfl ?_); refine goesL_ (some 22) rfl rfl Try.func16 (by kernel_rfl) rfl #[] rfl (by (try simp only [List.map_toArray, List.map_cons, List.map_nil]); first | done | rfl | (simp only [List.length_drop, List.length_take]; rfl)) ?_; (with_reducible refine (timesynclaw18_awake.calls kj1  t392 _ A14.out).mono ?_); rintro e w15 ⟨rfl, hb⟩; refine ⟨_, rfl, ?_⟩; have n0_ := Aside0.mk (blk_below (g := gb389) (o := .cells #[.int .i64 a0_0, .slice A0_1 l0_1.length c0_1] 24 (0, 0)) (by (with_reducible repeat (first | refine blk_drewN ?_ _ | refine blk_drew ?_ | refine blk_alloc ?_ _)); exact BK389.out) hb); have n1_ := Aside0.mk (below_step (by repeat (first | (with_reducible first | exact HB.out | apply below_alloc | apply pw_below_drewN | apply below_drew1 | refine below_set ?_ GE389.out) | exact HB.out)) hb); clear BK389; clear HB; have BK389 := n0_; have HB := n1_; clear n0_ n1_; (try clear hb); (try clear hb2); (try clear hk); (try clear hi)))
    go_ret
    exact ⟨by first | rfl | (simp [errW_none, errW_some] <;> rfl) | (simp [*, errW_none, errW_some] <;> rfl), by repeat (first | (with_reducible first | exact HB.out | apply below_alloc | apply pw_below_drewN | apply below_drew1 | refine below_set ?_ GE389.out) | exact HB.out)⟩
   replace c13 := Bool.eq_false_iff.mpr c13
   subst c13
   have H1 : ((timesynclaw18_sound.f kj1 a0_0 l0_1).bind fun bt393 => ((topo_Comp.f kj1 a0_0 l0_1).bind fun t397 => (if bt393.2 = true then (timesynclaw18_TopoDistances.j1 kj1 bt393.1 t397 ((t397.length : Int) != a0_0) a0_0 l0_1) else (timesynclaw18_TopoDistances.j1 kj1 bt393.1 t397 true a0_0 l0_1)))) = some r := by rw [if_neg (show ¬ (false = true) by decide)] at H; exact H
   clear H
   have H := H1
   clear H1
   replace H := Option.bind_eq_some_iff.mp H
   obtain ⟨⟨t393, t396⟩, A160, H⟩ := H
   replace H : ((topo_Comp.f kj1 a0_0 l0_1).bind fun t397 => (if t396 = true then (timesynclaw18_TopoDistances.j1 kj1 t393 t397 ((t397.length : Int) != a0_0) a0_0 l0_1) else (timesynclaw18_TopoDistances.j1 kj1 t393 t397 true a0_0 l0_1))) = some r := H
   have A16 := Aside0.mk A160
   clear A160
   replace H := Option.bind_eq_some_iff.mp H
   obtain ⟨t397, A170, H⟩ := H
   replace H : (if t396 = true then (timesynclaw18_TopoDistances.j1 kj1 t393 t397 ((t397.length : Int) != a0_0) a0_0 l0_1) else (timesynclaw18_TopoDistances.j1 kj1 t393 t397 true a0_0 l0_1)) = some r := H
   have A17 := Aside0.mk A170
   clear A170
   have HC18 := Aside0.mk H
   clear H
   have hcz19_0 : wc.cell? ⟨gb389, 0, none⟩ = some (.int .i64 a0_0) := (blk_cell BK389.out 0).trans rfl
   have hcz19_1 : wc.cell? ⟨gb389, 1, none⟩ = some (.slice A0_1 l0_1.length c0_1) := (blk_cell BK389.out 1).trans rfl
   have hfz19_0 := blk_frozen BK389.out 0
   have hfz19_1 := blk_frozen BK389.out 1
   go_upto_region 5 with (first | ((with_reducible refine gate_callee (f := 30) rfl ?_); refine goesL_ (some 25) rfl rfl Try.func30 (by kernel_rfl) rfl #[.agg #[.int .i64 a0_0, .slice A0_1 l0_1.length c0_1]] rfl (by (try simp only [List.map_toArray, List.map_cons, List.map_nil]); first | done | rfl | (simp only [List.length_drop, List.length_take]; rfl)) ?_; (with_reducible refine (timesynclaw18_sound.calls kj1 a0_0 _ _ l0_1 t393 t396 _ ?side1 ?side2 A16.out).mono ?_); (case side1 => repeat (first | exact (Kd.C_below HR0_1.out HB.out) | (with_reducible refine Kd.C_alloc ?_ _) | (with_reducible refine Kd.C_drewN ?_ _) | (with_reducible refine Kd.C_drew ?_))); (case side2 => exact HC0_1.out); rintro e w20 ⟨v394, rfl, ho0, hb⟩; refine ⟨_, rfl, ?_⟩; have n0_ := Aside0.mk (Kd.S_lower ho0 (below_size (by repeat (first | (with_reducible first | exact HB.out | apply below_alloc | apply pw_below_drewN | apply below_drew1 | refine below_set ?_ GE389.out) | exact HB.out)))); have n1_ := Aside0.mk (blk_below (g := gb389) (o := .cells #[.int .i64 a0_0, .slice A0_1 l0_1.length c0_1] 24 (0, 0)) (by (with_reducible repeat (first | refine blk_drewN ?_ _ | refine blk_drew ?_ | refine blk_alloc ?_ _)); exact BK389.out) hb); have n2_ := Aside0.mk (below_step (by repeat (first | (with_reducible first | exact HB.out | apply below_alloc | apply pw_below_drewN | apply below_drew1 | refine below_set ?_ GE389.out) | exact HB.out)) hb); clear BK389; clear HB; have HO395 := n0_; have BK389 := n1_; have HB := n2_; clear n0_ n1_ n2_; (try clear hb); (try clear hb2); (try clear hk); (try clear hi); (try clear ho0); have hcz21_0 : w20.cell? ⟨gb389, 0, none⟩ = some (.int .i64 a0_0) := (blk_cell BK389.out 0).trans rfl; have hcz21_1 : w20.cell? ⟨gb389, 1, none⟩ = some (.slice A0_1 l0_1.length c0_1) := (blk_cell BK389.out 1).trans rfl; have hfz21_0 := blk_frozen BK389.out 0; have hfz21_1 := blk_frozen BK389.out 1) | ((with_reducible refine gate_callee (f := 22) rfl ?_); refine goesL_ (some 29) rfl rfl Try.func22 (by kernel_rfl) rfl #[.agg #[.int .i64 a0_0, .slice A0_1 l0_1.length c0_1]] rfl (by (try simp only [List.map_toArray, List.map_cons, List.map_nil]); first | done | rfl | (simp only [List.length_drop, List.length_take]; rfl)) ?_; (with_reducible refine (topo_Comp.calls kj1 a0_0 _ _ l0_1 t397 _ ?side1 ?side2 A17.out).mono ?_); (case side1 => repeat (first | exact (Kd.C_below HR0_1.out HB.out) | (with_reducible refine Kd.C_alloc ?_ _) | (with_reducible refine Kd.C_drewN ?_ _) | (with_reducible refine Kd.C_drew ?_))); (case side2 => exact HC0_1.out); rintro e w22 ⟨v398, rfl, ho0, hb⟩; refine ⟨_, rfl, ?_⟩; have n0_ := Aside0.mk (Kd.S_elder' (by (with_reducible repeat (first | apply Kd.S_alloc | apply Kd.S_drewN | apply Kd.S_drew)); exact HO395.out) (Kd.R_base ho0) hb); have n1_ := Aside0.mk (Kd.R_lower ho0 (below_size (by repeat (first | (with_reducible first | exact HB.out | apply below_alloc | apply pw_below_drewN | apply below_drew1 | refine below_set ?_ GE389.out) | exact HB.out)))); have n2_ := Aside0.mk (blk_below (g := gb389) (o := .cells #[.int .i64 a0_0, .slice A0_1 l0_1.length c0_1] 24 (0, 0)) (by (with_reducible repeat (first | refine blk_drewN ?_ _ | refine blk_drew ?_ | refine blk_alloc ?_ _)); exact BK389.out) hb); have n3_ := Aside0.mk (below_step (by repeat (first | (with_reducible first | exact HB.out | apply below_alloc | apply pw_below_drewN | apply below_drew1 | refine below_set ?_ GE389.out) | exact HB.out)) hb); clear HO395; clear BK389; clear HB; have HO395 := n0_; have HO399 := n1_; have BK389 := n2_; have HB := n3_; clear n0_ n1_ n2_ n3_; (try clear hb); (try clear hb2); (try clear hk); (try clear hi); (try clear ho0)))
   (try simp only [Act.put, List.setIfInBounds_toArray, List.set_cons_zero, List.set_cons_succ])
   go_cut [38] (fun v38 wc => ∃ (kq : Nat) (x38_17 : Bool), v38 = .bool x38_17 ∧ Aside0 (timesynclaw18_TopoDistances.j1 kq t393 t397 x38_17 a0_0 l0_1 = some r) ∧ Aside0 (kq ≤ kj1) ∧ Aside0 (Kd.S (Kd.slice 3 (Kd.int .i64)) 30 wc w.heap.size (fun k_ => some k_ ≠ (v398 : Value).ownBlock) v394 t393) ∧ Aside0 (Kd.R (Kd.int .i64) 3 wc w.heap.size (fun _ => True) v398 t397) ∧ Aside0 (wc.heap[gb389]? = some (.cells #[.int .i64 a0_0, (.slice A0_1 l0_1.length c0_1)] 24 (0, 0))) ∧ Aside0 (Below w.heap.size w wc))
   case first =>
    have H := HC18.out
    clear HC18
    by_cases c23 : t396 = true
    rotate_left
    ·replace c23 := Bool.eq_false_iff.mpr c23
     subst c23
     have H1 : (timesynclaw18_TopoDistances.j1 kj1 t393 t397 true a0_0 l0_1) = some r := by rw [if_neg (show ¬ (false = true) by decide)] at H; exact H
     clear H
     have H := H1
     clear H1
     have H' := Aside0.mk H
     clear H
     go_wp2
     go_meet
     case rel => exact ⟨_, (true), (by first | rfl | (simp; done) | (simp [*]; done)), H', ⟨by have := HJ1.out; first | omega | exact Nat.le_refl _⟩, ⟨by (with_reducible repeat (first | apply Kd.S_alloc | apply Kd.S_drewN | apply Kd.S_drew)); exact Kd.S_mono HO395.out (fun _ hk => hk.2)⟩, ⟨by (with_reducible repeat (first | apply Kd.R_alloc | apply Kd.R_drewN | apply Kd.R_drew)); exact HO399.out⟩, ⟨by (with_reducible repeat (first | refine blk_drewN ?_ _ | refine blk_drew ?_ | refine blk_alloc ?_ _)); exact BK389.out⟩, ⟨by repeat (first | (with_reducible first | exact HB.out | apply below_alloc | apply pw_below_drewN | apply below_drew1 | refine below_set ?_ GE389.out) | exact HB.out)⟩⟩
    subst c23
    have H1 : (timesynclaw18_TopoDistances.j1 kj1 t393 t397 ((t397.length : Int) != a0_0) a0_0 l0_1) = some r := by rw [if_pos rfl] at H; exact H
    clear H
    have H := H1
    clear H1
    have H' := Aside0.mk H
    clear H
    obtain ⟨Ao24, co24, eo24⟩ := Kd.R_slice HO399.out
    subst eo24
    have hcz25_0 : w22.cell? ⟨gb389, 0, none⟩ = some (.int .i64 a0_0) := (blk_cell BK389.out 0).trans rfl
    have hcz25_1 : w22.cell? ⟨gb389, 1, none⟩ = some (.slice A0_1 l0_1.length c0_1) := (blk_cell BK389.out 1).trans rfl
    have hfz25_0 := blk_frozen BK389.out 0
    have hfz25_1 := blk_frozen BK389.out 1
    go_wp2
    go_meet
    case rel => exact ⟨_, (((t397.length : Int) != a0_0)), (by first | rfl | (simp; done) | (simp [*]; done)), H', ⟨by have := HJ1.out; first | omega | exact Nat.le_refl _⟩, ⟨by (with_reducible repeat (first | apply Kd.S_alloc | apply Kd.S_drewN | apply Kd.S_drew)); exact Kd.S_mono HO395.out (fun _ hk => hk.2)⟩, ⟨by (with_reducible repeat (first | apply Kd.R_alloc | apply Kd.R_drewN | apply Kd.R_drew)); exact HO399.out⟩, ⟨by (with_reducible repeat (first | refine blk_drewN ?_ _ | refine blk_drew ?_ | refine blk_alloc ?_ _)); exact BK389.out⟩, ⟨by repeat (first | (with_reducible first | exact HB.out | apply below_alloc | apply pw_below_drewN | apply below_drew1 | refine below_set ?_ GE389.out) | exact HB.out)⟩⟩
   case rest =>
    clear HC18
    try clear c1
    try clear c2
    try clear p2
    try clear c3
    try clear c5
    try clear c8
    try clear c13
    try clear c15
    try clear c16
    try clear c22
    try clear c23
    try clear hcz11_0
    try clear hcz11_1
    try clear hcz19_0
    try clear hcz19_1
    try clear hcz21_0
    try clear hcz21_1
    try clear hcz25_0
    try clear hcz25_1
    try clear hcz6_0
    try clear hcz6_1
    try clear hcz9_0
    try clear hcz9_1
    try clear hfz11_0
    try clear hfz11_1
    try clear hfz19_0
    try clear hfz19_1
    try clear hfz21_0
    try clear hfz21_1
    try clear hfz25_0
    try clear hfz25_1
    try clear hfz6_0
    try clear hfz6_1
    try clear hfz9_0
    try clear hfz9_1
    try clear p2
    obtain ⟨kq, x38_17, rfl, HA, HJ17, HO_3, HO_5, BK389, HB⟩ := hcut
    cases kq with
    | zero => exact absurd HA.out (by simp [timesynclaw18_TopoDistances.j1])
    | succ kj17 =>
     have H := HA.out
     clear HA
     simp only [timesynclaw18_TopoDistances.j1] at H
     by_cases c26 : x38_17 = true
     ·subst c26
      have H1 : (none) = some r := by rw [if_pos rfl] at H; exact H
      clear H
      have H := H1
      clear H1
      exact absurd H (by simp)
     replace c26 := Bool.eq_false_iff.mpr c26
     subst c26
     have H1 : (timesynclaw18_TopoDistances.l0 kj17 t393 t397 0 (t393.length : Int) 0 a0_0 l0_1) = some r := by rw [if_neg (show ¬ (false = true) by decide)] at H; exact H
     clear H
     have H := H1
     clear H1
     have H' := Aside0.mk H
     clear H
     obtain ⟨Ao27, co27, eo27⟩ := Kd.S_slice HO_3.out
     subst eo27
     go_wp2
     go_loopg [6, 41] kj17 (fun kq v6 v41 w' => ∃ (x6_3 : Int) (x41_3 : Int), v6 = .int .i64 x6_3 ∧ v41 = .int .i64 x41_3 ∧ Aside0 (timesynclaw18_TopoDistances.l0 kq t393 t397 x6_3 (t393.length : Int) x41_3 a0_0 l0_1 = some r) ∧ Aside0 (kq ≤ kj17) ∧ Aside0 (Kd.S (Kd.slice 3 (Kd.int .i64)) 30 w' w.heap.size (fun k_ => some k_ ≠ (v398 : Value).ownBlock) (.slice Ao27 t393.length co27) t393) ∧ Aside0 (Kd.R (Kd.int .i64) 3 w' w.heap.size (fun _ => True) v398 t397) ∧ Aside0 (w'.heap[gb389]? = some (.cells #[.int .i64 a0_0, (.slice A0_1 l0_1.length c0_1)] 24 (0, 0))) ∧ Aside0 (Below w.heap.size w w'))
     case atStart => exact ⟨(0), (0), (by first | rfl | (simp; done) | (simp [*]; done)), (by first | rfl | (simp; done) | (simp [*]; done)), H', ⟨Nat.le_refl _⟩, ⟨by (with_reducible repeat (first | apply Kd.S_alloc | apply Kd.S_drewN | apply Kd.S_drew)); exact HO_3.out⟩, ⟨by (with_reducible repeat (first | apply Kd.R_alloc | apply Kd.R_drewN | apply Kd.R_drew)); exact HO_5.out⟩, ⟨by (with_reducible repeat (first | refine blk_drewN ?_ _ | refine blk_drew ?_ | refine blk_alloc ?_ _)); exact BK389.out⟩, ⟨by repeat (first | (with_reducible first | exact HB.out | apply below_alloc | apply pw_below_drewN | apply below_drew1 | refine below_set ?_ GE389.out) | exact HB.out)⟩⟩
     clear H'
     try clear c1
     try clear c2
     try clear p2
     try clear c3
     try clear c5
     try clear c8
     try clear c13
     try clear c15
     try clear c16
     try clear c22
     try clear c23
     try clear c26
     try clear hcz11_0
     try clear hcz11_1
     try clear hcz19_0
     try clear hcz19_1
     try clear hcz21_0
     try clear hcz21_1
     try clear hcz25_0
     try clear hcz25_1
     try clear hcz6_0
     try clear hcz6_1
     try clear hcz9_0
     try clear hcz9_1
     try clear hfz11_0
     try clear hfz11_1
     try clear hfz19_0
     try clear hfz19_1
     try clear hfz21_0
     try clear hfz21_1
     try clear hfz25_0
     try clear hfz25_1
     try clear hfz6_0
     try clear hfz6_1
     try clear hfz9_0
     try clear hfz9_1
     try clear p2
     obtain ⟨x6_3, x41_3, rfl, rfl, HA, HK3, HO_3, HO_5, BK389, HB⟩ := hrel
     cases gk with
     | zero => exact absurd HA.out (by simp [timesynclaw18_TopoDistances.l0])
     | succ k3 =>
      have H := HA.out
      clear HA
      simp only [timesynclaw18_TopoDistances.l0] at H
      by_cases c28 : x41_3 < (t393.length : Int)
      rotate_left
      ·rw [if_neg c28] at H
       have c28b0 : decide (x41_3 < (t393.length : Int)) = false := decide_eq_false c28
       clear c28
       replace H := Option.bind_eq_some_iff.mp H
       obtain ⟨t400, A1480, H⟩ := H
       replace H : (if t400 = x6_3 then ((timesynclaw18_awake.f k3).bind fun t401 => (some t401)) else (none)) = some r := H
       have A148 := Aside0.mk A1480
       clear A1480
       by_cases c149 : t400 = x6_3
       rotate_left
       ·rw [if_neg c149] at H
        exact absurd H (by simp)
       rw [if_pos c149] at H
       have c149b0 : (t400 == x6_3) = true := beq_iff_eq.mpr c149
       have c149b1 : (t400 != x6_3) = false := bne_eq_false_iff_eq.mpr c149
       clear c149
       replace H := Option.bind_eq_some_iff.mp H
       obtain ⟨t401, A1500, H⟩ := H
       replace H : (some t401) = some r := H
       have A150 := Aside0.mk A1500
       clear A1500
       obtain rfl := Option.some.inj H
       have hcz151_0 : wr.cell? ⟨gb389, 0, none⟩ = some (.int .i64 a0_0) := (blk_cell BK389.out 0).trans rfl
       have hcz151_1 : wr.cell? ⟨gb389, 1, none⟩ = some (.slice A0_1 l0_1.length c0_1) := (blk_cell BK389.out 1).trans rfl
       have hfz151_0 := blk_frozen BK389.out 0
       have hfz151_1 := blk_frozen BK389.out 1
       go_wp2_with (first | ((with_reducible refine gate_callee (f := 26) rfl ?_); refine goesL_ (some 209) rfl rfl Try.func26 (by kernel_rfl) rfl #[.agg #[.int .i64 a0_0, .slice A0_1 l0_1.length c0_1]] rfl (by (try simp only [List.map_toArray, List.map_cons, List.map_nil]); first | done | rfl | (simp only [List.length_drop, List.length_take]; rfl)) ?_; (with_reducible refine (topo_Diameter.calls k3 a0_0 _ _ l0_1 t400 _ ?side1 ?side2 A148.out).mono ?_); (case side1 => repeat (first | exact (Kd.C_below HR0_1.out HB.out) | (with_reducible refine Kd.C_alloc ?_ _) | (with_reducible refine Kd.C_drewN ?_ _) | (with_reducible refine Kd.C_drew ?_))); (case side2 => exact HC0_1.out); rintro e w152 ⟨rfl, hb⟩; refine ⟨_, rfl, ?_⟩; have n0_ := Aside0.mk (Kd.S_below (by (with_reducible repeat (first | apply Kd.S_alloc | apply Kd.S_drewN | apply Kd.S_drew)); exact HO_3.out) hb); have n1_ := Aside0.mk (Kd.R_below (by (with_reducible repeat (first | apply Kd.R_alloc | apply Kd.R_drewN | apply Kd.R_drew)); exact HO_5.out) hb); have n2_ := Aside0.mk (blk_below (g := gb389) (o := .cells #[.int .i64 a0_0, .slice A0_1 l0_1.length c0_1] 24 (0, 0)) (by (with_reducible repeat (first | refine blk_drewN ?_ _ | refine blk_drew ?_ | refine blk_alloc ?_ _)); exact BK389.out) hb); have n3_ := Aside0.mk (below_step (by repeat (first | (with_reducible first | exact HB.out | apply below_alloc | apply pw_below_drewN | apply below_drew1 | refine below_set ?_ GE389.out) | exact HB.out)) hb); clear HO_3; clear HO_5; clear BK389; clear HB; have HO_3 := n0_; have HO_5 := n1_; have BK389 := n2_; have HB := n3_; clear n0_ n1_ n2_ n3_; (try clear hb); (try clear hb2); (try clear hk); (try clear hi)) | (go_at_call 16; (with_reducible refine (timesynclaw18_awake.calls k3  t401 _ A150.out).mono ?_); rintro e w153 ⟨rfl, hb⟩; have n0_ := Aside0.mk (Kd.S_below (by (with_reducible repeat (first | apply Kd.S_alloc | apply Kd.S_drewN | apply Kd.S_drew)); exact HO_3.out) hb); have n1_ := Aside0.mk (Kd.R_below (by (with_reducible repeat (first | apply Kd.R_alloc | apply Kd.R_drewN | apply Kd.R_drew)); exact HO_5.out) hb); have n2_ := Aside0.mk (blk_below (g := gb389) (o := .cells #[.int .i64 a0_0, .slice A0_1 l0_1.length c0_1] 24 (0, 0)) (by (with_reducible repeat (first | refine blk_drewN ?_ _ | refine blk_drew ?_ | refine blk_alloc ?_ _)); exact BK389.out) hb); have n3_ := Aside0.mk (below_step (by repeat (first | (with_reducible first | exact HB.out | apply below_alloc | apply pw_below_drewN | apply below_drew1 | refine below_set ?_ GE389.out) | exact HB.out)) hb); clear HO_3; clear HO_5; clear BK389; clear HB; have HO_3 := n0_; have HO_5 := n1_; have BK389 := n2_; have HB := n3_; clear n0_ n1_ n2_ n3_; (try clear hb); (try clear hb2); (try clear hk); (try clear hi)))
       go_ret
       exact ⟨by first | rfl | (simp [errW_none, errW_some] <;> rfl) | (simp [*, errW_none, errW_some] <;> rfl), by repeat (first | (with_reducible first | exact HB.out | apply below_alloc | apply pw_below_drewN | apply below_drew1 | refine below_set ?_ GE389.out) | exact HB.out)⟩
      rw [if_pos c28] at H
      have c28b0 : decide (x41_3 < (t393.length : Int)) = true := decide_eq_true c28
      clear c28
      by_cases c29 : 0 ≤ a0_0
      rotate_left
      ·rw [if_neg c29] at H
       exact absurd H (by simp)
      rw [if_pos c29] at H
      have c29b0 := eq_true c29
      have c29b1 : decide (0 ≤ a0_0) = true := decide_eq_true c29
      clear c29
      by_cases c30 : (a0_0 : Int).toNat ≤ 281474976710656
      rotate_left
      ·rw [if_neg c30] at H
       exact absurd H (by simp)
      rw [if_pos c30] at H
      have c30b0 := eq_true c30
      have c30b1 : decide ((a0_0 : Int).toNat ≤ 281474976710656) = true := decide_eq_true c30
      clear c30
      obtain ⟨y402, hy402⟩ : ∃ y_ : List Bool, y_ = (List.replicate (a0_0 : Int).toNat false) := ⟨_, rfl⟩
      replace H : (if 0 ≤ x41_3 then (if x41_3 < (y402.length : Int) then (timesynclaw18_TopoDistances.l1 k3 t393 t397 x6_3 x41_3 (y402.set (x41_3 : Int).toNat true) (t393.length : Int) x41_3 l0_1 (l0_1.length : Int) 0 a0_0 l0_1) else (none)) else (none)) = some r := by first | (rw [hy402]; with_reducible exact H) | (have H2_ := (Option.bind_some _ _).symm.trans H; rw [hy402]; with_reducible exact H2_) | (have H2_ := (Option.bind_some _ _).symm.trans H; with_reducible exact H2_) | with_reducible exact H | (rw [hy402]; exact H) | exact H
      have Ny402 := Aside0.mk hy402
      clear hy402
      by_cases c31 : 0 ≤ x41_3
      rotate_left
      ·rw [if_neg c31] at H
       exact absurd H (by simp)
      rw [if_pos c31] at H
      have c31b0 : decide (0 ≤ x41_3) = true := decide_eq_true c31
      clear c31
      by_cases c32 : x41_3 < (y402.length : Int)
      rotate_left
      ·rw [if_neg c32] at H
       exact absurd H (by simp)
      rw [if_pos c32] at H
      have c32b0 : decide (x41_3 < (y402.length : Int)) = true := decide_eq_true c32
      clear c32
      obtain ⟨y405, hy405⟩ : ∃ y_ : List Bool, y_ = (y402.set (x41_3 : Int).toNat true) := ⟨_, rfl⟩
      replace H : (timesynclaw18_TopoDistances.l1 k3 t393 t397 x6_3 x41_3 y405 (t393.length : Int) x41_3 l0_1 (l0_1.length : Int) 0 a0_0 l0_1) = some r := by first | (rw [hy405]; with_reducible exact H) | (have H2_ := (Option.bind_some _ _).symm.trans H; rw [hy405]; with_reducible exact H2_) | (have H2_ := (Option.bind_some _ _).symm.trans H; with_reducible exact H2_) | with_reducible exact H | (rw [hy405]; exact H) | exact H
      have Ny405 := Aside0.mk hy405
      clear hy405
      have H' := Aside0.mk H
      clear H
      have hcz34_0 : wr.cell? ⟨gb389, 0, none⟩ = some (.int .i64 a0_0) := (blk_cell BK389.out 0).trans rfl
      have hcz34_1 : wr.cell? ⟨gb389, 1, none⟩ = some (.slice A0_1 l0_1.length c0_1) := (blk_cell BK389.out 1).trans rfl
      have hfz34_0 := blk_frozen BK389.out 0
      have hfz34_1 := blk_frozen BK389.out 1
      go_wp2_with (first | ((with_reducible refine gate_dst (N := 46) rfl ?_); (try (refine gate_guard (by rfl) ?_; dsimp only)); refine Kd.R_make Kd.bool _ 4 rfl (N := 46) rfl 69 _ _ rfl a0_0 rfl rfl Try.underlying69 (.bool false) 1 info4 rfl (by decide) (by omega) false (ok := fun _ => True) (okp := fun _ => True) rfl (fun _ hk => hk) trivial (of_decide_eq_true (by first | (with_reducible assumption) | assumption)) (Nat.le_trans (Nat.mul_le_mul_right _ (of_decide_eq_true (by first | (with_reducible assumption) | assumption) : a0_0.toNat ≤ 281474976710656)) (by omega)) (Below.refl _ _) (Nat.le_refl _) ?_; intro v403 w35 ho36 hb hg_ hnew_; clear hg_ hnew_; (first | rw [← Ny402.out] at ho36 | (simp only [Int.reduceToNat] at ho36; rw [← Ny402.out] at ho36)); have n0_ := Aside0.mk (Kd.S_below (by (with_reducible repeat (first | apply Kd.S_alloc | apply Kd.S_drewN | apply Kd.S_drew)); exact HO_3.out) hb); have n1_ := Aside0.mk (Kd.R_below (by (with_reducible repeat (first | apply Kd.R_alloc | apply Kd.R_drewN | apply Kd.R_drew)); exact HO_5.out) hb); have n2_ := Aside0.mk (Kd.R_lower ho36 (below_size (by repeat (first | (with_reducible first | exact HB.out | apply below_alloc | apply pw_below_drewN | apply below_drew1 | refine below_set ?_ GE389.out) | exact HB.out)))); have n3_ := Aside0.mk (blk_below (g := gb389) (o := .cells #[.int .i64 a0_0, .slice A0_1 l0_1.length c0_1] 24 (0, 0)) (by (with_reducible repeat (first | refine blk_drewN ?_ _ | refine blk_drew ?_ | refine blk_alloc ?_ _)); exact BK389.out) hb); have n4_ := Aside0.mk (below_step (by repeat (first | (with_reducible first | exact HB.out | apply below_alloc | apply pw_below_drewN | apply below_drew1 | refine below_set ?_ GE389.out) | exact HB.out)) hb); clear HO_3; clear HO_5; clear BK389; clear HB; have HO_3 := n0_; have HO_5 := n1_; have HO404 := n2_; have BK389 := n3_; have HB := n4_; clear n0_ n1_ n2_ n3_ n4_; clear hb ho36; have p33 : 0 ≤ (x41_3 : Int) := of_decide_eq_true (by first | (with_reducible assumption) | assumption); have q33 : (x41_3 : Int) < ((y402.length : Int) : Int) := of_decide_eq_true (by first | (with_reducible assumption) | assumption); obtain ⟨go33, co33, eo33, gb33, gl33, cl33, HG33⟩ := Kd.R_form HO404.out (by omega); (first | cases eo33 | (injection eo33 with ea_ en_ ec_; (first | subst ea_ | (injection ea_ with ea_; subst ea_)); subst ec_; clear en_)); have GB33 := Aside0.mk gb33; have GG33 := Aside0.mk HG33; clear gb33 gl33 HG33; obtain ⟨hx33_0, hf33_0⟩ := Kd.R_celln false HO404.out (x41_3 : Int) p33 q33; replace p33 := eq_true p33; replace q33 := eq_true q33; obtain ⟨hy37_, hz37_⟩ := Kd.R_celln false HO404.out (x41_3 : Int) (of_decide_eq_true (by first | (with_reducible assumption) | assumption)) (of_decide_eq_true (by first | (with_reducible assumption) | assumption)); have HP37 := Kd.R_putg HO404.out (x41_3 : Int) true) | ((with_reducible refine gate_store (t := 4) (p := 49) rfl ?_); refine store_event (t := 4) (p := 49) (v := ?vo_w38) (w1 := (w35.setCell ⟨go33, (x41_3 : Int).toNat, none⟩ (.bool true))) ?hg ?ho ?hn ?hr ?_; (case ho => rfl); (case hg => rfl); (case hn => rfl); (case hr => first | (go_simp; done) | (go_simp; rfl)); intro w38 hw; have hg : w35.grownBy w38 (some go33) := (by rw [hw]; exact HP37.2); have hp_ : Kd.R Kd.bool 4 w38 w.heap.size (fun _ => True) (.slice (some ⟨go33, 0, none⟩) y402.length co33) y405 := (by rw [hw, Ny405.out]; exact HP37.1); clear HP37; have n0_ := Aside0.mk (Kd.S_over' (v := (.slice (some ⟨go33, 0, none⟩) y402.length co33)) (by (with_reducible repeat (first | apply Kd.S_alloc | apply Kd.S_drewN | apply Kd.S_drew)); exact HO_3.out) (Kd.R_typed HO404.out) (by decide) hg); have n1_ := Aside0.mk (Kd.R_over' (v := (.slice (some ⟨go33, 0, none⟩) y402.length co33)) (by (with_reducible repeat (first | apply Kd.R_alloc | apply Kd.R_drewN | apply Kd.R_drew)); exact HO_5.out) (Kd.R_typed HO404.out) (by decide) hg); have n2_ := Aside0.mk (blk_grown (g := gb389) (o := .cells #[.int .i64 a0_0, .slice A0_1 l0_1.length c0_1] 24 (0, 0)) (by (with_reducible repeat (first | refine blk_drewN ?_ _ | refine blk_drew ?_ | refine blk_alloc ?_ _)); exact BK389.out) hg (Kd.R_ne HO404.out BK389.out (by decide))); have n3_ := Aside0.mk (hp_); have n4_ := Aside0.mk ((by rw [hw]; exact below_set (HB.out) GB33.out : Below w.heap.size w w38)); clear HO_3; clear HO_5; clear BK389; clear HO404; clear HB; have HO_3 := n0_; have HO_5 := n1_; have BK389 := n2_; have HO404 := n3_; have HB := n4_; clear n0_ n1_ n2_ n3_ n4_; clear hg hw hp_; have hcz39_0 : w38.cell? ⟨gb389, 0, none⟩ = some (.int .i64 a0_0) := (blk_cell BK389.out 0).trans rfl; have hcz39_1 : w38.cell? ⟨gb389, 1, none⟩ = some (.slice A0_1 l0_1.length c0_1) := (blk_cell BK389.out 1).trans rfl; have hfz39_0 := blk_frozen BK389.out 0; have hfz39_1 := blk_frozen BK389.out 1))
      go_loopg [53] k3 (fun kq v53 w' => ∃ (x8_4 : List Bool) (x53_4 : Int), v53 = .int .i64 x53_4 ∧ Aside0 (timesynclaw18_TopoDistances.l1 kq t393 t397 x6_3 x41_3 x8_4 (t393.length : Int) x41_3 l0_1 (l0_1.length : Int) x53_4 a0_0 l0_1 = some r) ∧ Aside0 (kq ≤ k3) ∧ Aside0 (Kd.S (Kd.slice 3 (Kd.int .i64)) 30 w' w.heap.size (fun k_ => some k_ ≠ (v398 : Value).ownBlock) (.slice Ao27 t393.length co27) t393) ∧ Aside0 (Kd.R (Kd.int .i64) 3 w' w.heap.size (fun _ => True) v398 t397) ∧ Aside0 (Kd.R Kd.bool 4 w' w.heap.size (fun _ => True) (.slice (some ⟨go33, 0, none⟩) y402.length co33) x8_4) ∧ Aside0 (w'.heap[gb389]? = some (.cells #[.int .i64 a0_0, (.slice A0_1 l0_1.length c0_1)] 24 (0, 0))) ∧ Aside0 (Below w.heap.size w w'))
      case atStart => exact ⟨(y405), (0), (by first | rfl | (simp; done) | (simp [*]; done)), H', ⟨Nat.le_refl _⟩, ⟨by (with_reducible repeat (first | apply Kd.S_alloc | apply Kd.S_drewN | apply Kd.S_drew)); exact HO_3.out⟩, ⟨by (with_reducible repeat (first | apply Kd.R_alloc | apply Kd.R_drewN | apply Kd.R_drew)); exact HO_5.out⟩, ⟨by (with_reducible repeat (first | apply Kd.R_alloc | apply Kd.R_drewN | apply Kd.R_drew)); exact HO404.out⟩, ⟨by (with_reducible repeat (first | refine blk_drewN ?_ _ | refine blk_drew ?_ | refine blk_alloc ?_ _)); exact BK389.out⟩, ⟨by repeat (first | (with_reducible first | exact HB.out | apply below_alloc | apply pw_below_drewN | apply below_drew1 | refine below_set ?_ GE389.out) | exact HB.out)⟩⟩
      clear H'
      try clear c1
      try clear c2
      try clear p2
      try clear c3
      try clear p3
      try clear q3
      try clear hx3
      try clear hf3
      try clear c5
      try clear c8
      try clear c13
      try clear c15
      try clear c16
      try clear c22
      try clear c23
      try clear c26
      try clear c28
      try clear c28b0
      try clear c29
      try clear c29b0
      try clear c29b1
      try clear c30
      try clear c30b0
      try clear c30b1
      try clear c31
      try clear c31b0
      try clear c32
      try clear c32b0
      try clear p33
      try clear q33
      try clear hx33
      try clear hf33
      try clear hcz11_0
      try clear hcz11_1
      try clear hcz19_0
      try clear hcz19_1
      try clear hcz21_0
      try clear hcz21_1
      try clear hcz25_0
      try clear hcz25_1
      try clear hcz34_0
      try clear hcz34_1
      try clear hcz39_0
      try clear hcz39_1
      try clear hcz6_0
      try clear hcz6_1
      try clear hcz9_0
      try clear hcz9_1
      try clear hfz11_0
      try clear hfz11_1
      try clear hfz19_0
      try clear hfz19_1
      try clear hfz21_0
      try clear hfz21_1
      try clear hfz25_0
      try clear hfz25_1
      try clear hfz34_0
      try clear hfz34_1
      try clear hfz39_0
      try clear hfz39_1
      try clear hfz6_0
      try clear hfz6_1
      try clear hfz9_0
      try clear hfz9_1
      try clear hx33_0
      try clear p2
      try clear p33
      try clear q33
      obtain ⟨x8_4, x53_4, rfl, HA, HK4, HO_3, HO_5, HO_8, BK389, HB⟩ := hrel
      have hl8_4 := (Kd.R_reads' HO_8.out).1
      rw [hl8_4] at HO_8
      (try simp only [hl8_4])
      (try simp only [hl8_4] at BK389)
      (try simp only [hl8_4] at HO_3)
      (try simp only [hl8_4] at HO_5)
      cases gk with
      | zero => exact absurd HA.out (by simp [timesynclaw18_TopoDistances.l1])
      | succ k4 =>
       have H := HA.out
       clear HA
       simp only [timesynclaw18_TopoDistances.l1] at H
       by_cases c40 : x53_4 < (l0_1.length : Int)
       ·as_aux_lemma =>
         rw [if_pos c40] at H
         have c40b0 : decide (x53_4 < (l0_1.length : Int)) = true := decide_eq_true c40
         clear c40
         (try (have c40r0 := c40b0; simp only [hl8_4] at c40r0))
         by_cases c41 : 0 ≤ x53_4
         rotate_left
         ·rw [if_neg c41] at H
          exact absurd H (by simp)
         rw [if_pos c41] at H
         have c41b0 : decide (0 ≤ x53_4) = true := decide_eq_true c41
         clear c41
         (try (have c41r0 := c41b0; simp only [hl8_4] at c41r0))
         by_cases c42 : x53_4 < (l0_1.length : Int)
         rotate_left
         ·rw [if_neg c42] at H
          exact absurd H (by simp)
         rw [if_pos c42] at H
         have c42b0 : decide (x53_4 < (l0_1.length : Int)) = true := decide_eq_true c42
         clear c42
         (try (have c42r0 := c42b0; simp only [hl8_4] at c42r0))
         by_cases c43 : 0 ≤ x41_3
         rotate_left
         ·rw [if_neg c43] at H
          exact absurd H (by simp)
         rw [if_pos c43] at H
         have c43b0 : decide (0 ≤ x41_3) = true := decide_eq_true c43
         clear c43
         (try (have c43r0 := c43b0; simp only [hl8_4] at c43r0))
         by_cases c44 : x41_3 < (t393.length : Int)
         rotate_left
         ·rw [if_neg c44] at H
          exact absurd H (by simp)
         rw [if_pos c44] at H
         have c44b0 : decide (x41_3 < (t393.length : Int)) = true := decide_eq_true c44
         clear c44
         (try (have c44r0 := c44b0; simp only [hl8_4] at c44r0))
         by_cases c45 : 0 ≤ ((rd_T37 l0_1 x53_4).f0)
         rotate_left
         ·rw [if_neg c45] at H
          exact absurd H (by simp)
         rw [if_pos c45] at H
         have c45b0 : decide (0 ≤ ((rd_T37 l0_1 x53_4).f0)) = true := decide_eq_true c45
         clear c45
         (try (have c45r0 := c45b0; simp only [hl8_4] at c45r0))
         by_cases c46 : ((rd_T37 l0_1 x53_4).f0) < ((rd_L3 t393 x41_3).length : Int)
         rotate_left
         ·rw [if_neg c46] at H
          exact absurd H (by simp)
         rw [if_pos c46] at H
         have c46b0 : decide (((rd_T37 l0_1 x53_4).f0) < ((rd_L3 t393 x41_3).length : Int)) = true := decide_eq_true c46
         clear c46
         (try (have c46r0 := c46b0; simp only [hl8_4] at c46r0))
         by_cases c47 : 0 ≤ ((rd_T37 l0_1 x53_4).f2)
         rotate_left
         ·rw [if_neg c47] at H
          exact absurd H (by simp)
         rw [if_pos c47] at H
         have c47b0 : decide (0 ≤ ((rd_T37 l0_1 x53_4).f2)) = true := decide_eq_true c47
         clear c47
         (try (have c47r0 := c47b0; simp only [hl8_4] at c47r0))
         by_cases c48 : ((rd_T37 l0_1 x53_4).f2) < ((rd_L3 t393 x41_3).length : Int)
         rotate_left
         ·rw [if_neg c48] at H
          exact absurd H (by simp)
         rw [if_pos c48] at H
         have c48b0 : decide (((rd_T37 l0_1 x53_4).f2) < ((rd_L3 t393 x41_3).length : Int)) = true := decide_eq_true c48
         clear c48
         (try (have c48r0 := c48b0; simp only [hl8_4] at c48r0))
         by_cases c49 : (wrap64 ((rd (rd_L3 t393 x41_3) ((rd_T37 l0_1 x53_4).f0)) - (rd (rd_L3 t393 x41_3) ((rd_T37 l0_1 x53_4).f2)))) > 1
         ·rw [if_pos c49] at H
          exact absurd H (by simp)
         rw [if_neg c49] at H
         have c49b0 : decide (1 < (wrap64 ((rd (rd_L3 t393 x41_3) ((rd_T37 l0_1 x53_4).f0)) - (rd (rd_L3 t393 x41_3) ((rd_T37 l0_1 x53_4).f2))))) = false := decide_eq_false c49
         clear c49
         (try (have c49r0 := c49b0; simp only [hl8_4] at c49r0))
         by_cases c50 : (wrap64 ((rd (rd_L3 t393 x41_3) ((rd_T37 l0_1 x53_4).f2)) - (rd (rd_L3 t393 x41_3) ((rd_T37 l0_1 x53_4).f0)))) > 1
         ·rw [if_pos c50] at H
          exact absurd H (by simp)
         rw [if_neg c50] at H
         have c50b0 : decide (1 < (wrap64 ((rd (rd_L3 t393 x41_3) ((rd_T37 l0_1 x53_4).f2)) - (rd (rd_L3 t393 x41_3) ((rd_T37 l0_1 x53_4).f0))))) = false := decide_eq_false c50
         clear c50
         (try (have c50r0 := c50b0; simp only [hl8_4] at c50r0))
         by_cases c51 : ((decide ((rd (rd_L3 t393 x41_3) ((rd_T37 l0_1 x53_4).f0)) < 0)) != (decide ((rd (rd_L3 t393 x41_3) ((rd_T37 l0_1 x53_4).f2)) < 0))) = true
         ·rw [if_pos c51] at H
          exact absurd H (by simp)
         rw [if_neg c51] at H
         have c51b0 : ((decide ((rd (rd_L3 t393 x41_3) ((rd_T37 l0_1 x53_4).f0)) < 0)) != (decide ((rd (rd_L3 t393 x41_3) ((rd_T37 l0_1 x53_4).f2)) < 0))) = false := by simpa using c51
         (try (have c51b1 : decide ((decide ((rd (rd_L3 t393 x41_3) ((rd_T37 l0_1 x53_4).f0)) < 0)) = (decide ((rd (rd_L3 t393 x41_3) ((rd_T37 l0_1 x53_4).f2)) < 0))) = true := by simpa using c51))
         (try (have c51b2 : ((decide ((rd (rd_L3 t393 x41_3) ((rd_T37 l0_1 x53_4).f0)) < 0)) == (decide ((rd (rd_L3 t393 x41_3) ((rd_T37 l0_1 x53_4).f2)) < 0))) = true := by simpa using c51))
         clear c51
         (try (have c51r0 := c51b0; simp only [hl8_4] at c51r0))
         by_cases c52 : ((rd_T37 l0_1 x53_4).f0) < (x8_4.length : Int)
         rotate_left
         ·rw [if_neg c52] at H
          exact absurd H (by simp)
         rw [if_pos c52] at H
         have c52b0 : decide (((rd_T37 l0_1 x53_4).f0) < (x8_4.length : Int)) = true := decide_eq_true c52
         clear c52
         (try (have c52r0 := c52b0; simp only [hl8_4] at c52r0))
         obtain ⟨bq53, hbq53⟩ : ∃ b_ : Bool, b_ = (rdOf false x8_4 ((rd_T37 l0_1 x53_4).f0)) := ⟨_, rfl⟩
         replace H : (if bq53 = true then ((some (x8_4.set (((rd_T37 l0_1 x53_4).f0) : Int).toNat true : List Bool)).bind fun y413 => (if ((rd_T37 l0_1 x53_4).f2) < (x8_4.length : Int) then (if rdOf false y413 ((rd_T37 l0_1 x53_4).f2) = true then (timesynclaw18_TopoDistances.l1 k4 t393 t397 x6_3 x41_3 (y413.set (((rd_T37 l0_1 x53_4).f2) : Int).toNat true) (t393.length : Int) x41_3 l0_1 (l0_1.length : Int) (wrap64 (x53_4 + 1)) a0_0 l0_1) else (timesynclaw18_TopoDistances.l1 k4 t393 t397 x6_3 x41_3 (y413.set (((rd_T37 l0_1 x53_4).f2) : Int).toNat ((rd (rd_L3 t393 x41_3) ((rd_T37 l0_1 x53_4).f0)) == (wrap64 ((rd (rd_L3 t393 x41_3) ((rd_T37 l0_1 x53_4).f2)) - 1)))) (t393.length : Int) x41_3 l0_1 (l0_1.length : Int) (wrap64 (x53_4 + 1)) a0_0 l0_1)) else (none))) else ((some (x8_4.set (((rd_T37 l0_1 x53_4).f0) : Int).toNat ((rd (rd_L3 t393 x41_3) ((rd_T37 l0_1 x53_4).f2)) == (wrap64 ((rd (rd_L3 t393 x41_3) ((rd_T37 l0_1 x53_4).f0)) - 1))) : List Bool)).bind fun y417 => (if ((rd_T37 l0_1 x53_4).f2) < (x8_4.length : Int) then (if rdOf false y417 ((rd_T37 l0_1 x53_4).f2) = true then (timesynclaw18_TopoDistances.l1 k4 t393 t397 x6_3 x41_3 (y417.set (((rd_T37 l0_1 x53_4).f2) : Int).toNat true) (t393.length : Int) x41_3 l0_1 (l0_1.length : Int) (wrap64 (x53_4 + 1)) a0_0 l0_1) else (timesynclaw18_TopoDistances.l1 k4 t393 t397 x6_3 x41_3 (y417.set (((rd_T37 l0_1 x53_4).f2) : Int).toNat ((rd (rd_L3 t393 x41_3) ((rd_T37 l0_1 x53_4).f0)) == (wrap64 ((rd (rd_L3 t393 x41_3) ((rd_T37 l0_1 x53_4).f2)) - 1)))) (t393.length : Int) x41_3 l0_1 (l0_1.length : Int) (wrap64 (x53_4 + 1)) a0_0 l0_1)) else (none)))) = some r := by rw [← hbq53] at H; exact H
         have Nbq53 := Aside0.mk hbq53
         clear hbq53
         have HS_ := Aside0.mk H
         clear H
         have p406 : 0 ≤ (x53_4 : Int) := of_decide_eq_true (by first | (with_reducible assumption) | assumption)
         have q406 : x53_4 < (l0_1.length : Int) := of_decide_eq_true (by first | (with_reducible assumption) | assumption)
         obtain ⟨ad406, e406, hx406_0, hx406_1, hx406_2, hx406_3⟩ := at_T37 HR0_1.out x53_4 p406 q406
         cases e406
         try replace hx406_0 := (HB.out.cell (World.block_lt_of_cell? w _ hx406_0)).trans hx406_0
         try replace hx406_1 := (HB.out.cell (World.block_lt_of_cell? w _ hx406_1)).trans hx406_1
         try replace hx406_2 := (HB.out.cell (World.block_lt_of_cell? w _ hx406_2)).trans hx406_2
         try replace hx406_3 := (HB.out.cell (World.block_lt_of_cell? w _ hx406_3)).trans hx406_3
         replace p406 := eq_true p406
         replace q406 := eq_true q406
         try go_wp2_with (first | ((with_reducible refine gate_dst (N := 10) rfl ?_); (try (refine gate_guard (by rfl) ?_; dsimp only)); refine box_event ?hg (N := 10) ?hd (cs := #[.int .i64 0, .int .i64 0, .int .i64 0, .int .i64 0]) (t := 37) ?hr ?_; (case hd => rfl); (case hg => rfl); (case hr => first | (go_simp; done) | (go_simp; rfl)); intro gb407 hg w60 hbox hb; have n0_ := Aside0.mk (Kd.S_below (by (with_reducible repeat (first | apply Kd.S_alloc | apply Kd.S_drewN | apply Kd.S_drew)); exact HO_3.out) hb); have n1_ := Aside0.mk (Kd.R_below (by (with_reducible repeat (first | apply Kd.R_alloc | apply Kd.R_drewN | apply Kd.R_drew)); exact HO_5.out) hb); have n2_ := Aside0.mk (Kd.R_below (by (with_reducible repeat (first | apply Kd.R_alloc | apply Kd.R_drewN | apply Kd.R_drew)); exact HO_8.out) hb); have n3_ := Aside0.mk (blk_below (g := gb389) (o := .cells #[.int .i64 a0_0, .slice (some ad406) l0_1.length c0_1] 24 (0, 0)) (by (with_reducible repeat (first | refine blk_drewN ?_ _ | refine blk_drew ?_ | refine blk_alloc ?_ _)); exact BK389.out) hb); have n4_ := Aside0.mk (below_step (by repeat (first | (with_reducible first | exact HB.out | apply below_alloc | apply pw_below_drewN | apply below_drew1 | refine below_set ?_ GE389.out) | exact HB.out)) hb); have n5_ := Aside0.mk (hbox); have n6_ := Aside0.mk ((by rw [hg]; exact (below_size (by repeat (first | (with_reducible first | exact HB.out | apply below_alloc | apply pw_below_drewN | apply below_drew1 | refine below_set ?_ GE389.out) | exact HB.out))) : w.heap.size ≤ gb407)); have n7_ := Aside0.mk ((by rw [hg]; exact (below_size (by repeat (first | (with_reducible first | exact HB.out | apply below_alloc | apply pw_below_drewN | apply below_drew1 | refine below_set ?_ GE389.out) | exact HB.out))) : w.heap.size ≤ gb407)); have n8_ := Aside0.mk ((by rw [hg]; exact Nat.ne_of_lt (blk_lt (g := gb389) (o := .cells #[.int .i64 a0_0, .slice (some ad406) l0_1.length c0_1] 24 (0, 0)) (by (with_reducible repeat (first | refine blk_drewN ?_ _ | refine blk_drew ?_ | refine blk_alloc ?_ _)); exact BK389.out)) : gb389 ≠ gb407)); have n9_ := Aside0.mk ((by rw [hg]; exact Nat.ne_of_gt (blk_lt (g := gb389) (o := .cells #[.int .i64 a0_0, .slice (some ad406) l0_1.length c0_1] 24 (0, 0)) (by (with_reducible repeat (first | refine blk_drewN ?_ _ | refine blk_drew ?_ | refine blk_alloc ?_ _)); exact BK389.out)) : gb407 ≠ gb389)); clear HO_3; clear HO_5; clear HO_8; clear BK389; clear HB; have HO_3 := n0_; have HO_5 := n1_; have HO_8 := n2_; have BK389 := n3_; have HB := n4_; have BK407 := n5_; have GW407 := n6_; have GE407 := n7_; have NB389_407 := n8_; have NB407_389 := n9_; clear n0_ n1_ n2_ n3_ n4_ n5_ n6_ n7_ n8_ n9_; clear hb hbox hg; have hnb61 := NB407_389.out; have hnc61 := NB389_407.out; have hcz62_0 : w60.cell? ⟨gb407, 0, none⟩ = some (.int .i64 0) := (blk_cell BK407.out 0).trans rfl; have hcz62_1 : w60.cell? ⟨gb407, 1, none⟩ = some (.int .i64 0) := (blk_cell BK407.out 1).trans rfl; have hcz62_2 : w60.cell? ⟨gb407, 2, none⟩ = some (.int .i64 0) := (blk_cell BK407.out 2).trans rfl; have hcz62_3 : w60.cell? ⟨gb407, 3, none⟩ = some (.int .i64 0) := (blk_cell BK407.out 3).trans rfl; have hfz62_0 := blk_frozen BK407.out 0; have hfz62_1 := blk_frozen BK407.out 1; have hfz62_2 := blk_frozen BK407.out 2; have hfz62_3 := blk_frozen BK407.out 3))
         have n0_ : Aside0 (Kd.S (Kd.slice 3 (Kd.int .i64)) 30 ((((w60.setCell ⟨gb407, 0, none⟩ (.int .i64 ((rd_T37 l0_1 x53_4).f0))).setCell ⟨gb407, 1, none⟩ (.int .i64 ((rd_T37 l0_1 x53_4).f1))).setCell ⟨gb407, 2, none⟩ (.int .i64 ((rd_T37 l0_1 x53_4).f2))).setCell ⟨gb407, 3, none⟩ (.int .i64 ((rd_T37 l0_1 x53_4).f3))) w.heap.size (fun k_ => some k_ ≠ (v398 : Value).ownBlock) (.slice Ao27 t393.length co27) t393) := ⟨by (with_reducible repeat (first | apply Kd.S_alloc | apply Kd.S_drewN | apply Kd.S_drew)); exact Kd.S_mono (Kd.S_far (p := ⟨gb407, 3, none⟩) (Kd.S_far (p := ⟨gb407, 2, none⟩) (Kd.S_far (p := ⟨gb407, 1, none⟩) (Kd.S_far (p := ⟨gb407, 0, none⟩) (Kd.S_types HO_3.out BK407.out (by decide)) (fun _ hk => hk.2) (.int .i64 ((rd_T37 l0_1 x53_4).f0))) (fun _ hk => hk.2) (.int .i64 ((rd_T37 l0_1 x53_4).f1))) (fun _ hk => hk.2) (.int .i64 ((rd_T37 l0_1 x53_4).f2))) (fun _ hk => hk.2) (.int .i64 ((rd_T37 l0_1 x53_4).f3))) (fun _ hk => hk.1)⟩
         have n1_ : Aside0 (Kd.R (Kd.int .i64) 3 ((((w60.setCell ⟨gb407, 0, none⟩ (.int .i64 ((rd_T37 l0_1 x53_4).f0))).setCell ⟨gb407, 1, none⟩ (.int .i64 ((rd_T37 l0_1 x53_4).f1))).setCell ⟨gb407, 2, none⟩ (.int .i64 ((rd_T37 l0_1 x53_4).f2))).setCell ⟨gb407, 3, none⟩ (.int .i64 ((rd_T37 l0_1 x53_4).f3))) w.heap.size (fun _ => True) v398 t397) := ⟨by (with_reducible repeat (first | apply Kd.R_alloc | apply Kd.R_drewN | apply Kd.R_drew)); exact Kd.R_mono (Kd.R_far (p := ⟨gb407, 3, none⟩) (Kd.R_far (p := ⟨gb407, 2, none⟩) (Kd.R_far (p := ⟨gb407, 1, none⟩) (Kd.R_far (p := ⟨gb407, 0, none⟩) (Kd.R_types HO_5.out BK407.out (by decide)) (fun _ hk => hk.2) (.int .i64 ((rd_T37 l0_1 x53_4).f0))) (fun _ hk => hk.2) (.int .i64 ((rd_T37 l0_1 x53_4).f1))) (fun _ hk => hk.2) (.int .i64 ((rd_T37 l0_1 x53_4).f2))) (fun _ hk => hk.2) (.int .i64 ((rd_T37 l0_1 x53_4).f3))) (fun _ hk => trivial)⟩
         have n2_ : Aside0 (Kd.R Kd.bool 4 ((((w60.setCell ⟨gb407, 0, none⟩ (.int .i64 ((rd_T37 l0_1 x53_4).f0))).setCell ⟨gb407, 1, none⟩ (.int .i64 ((rd_T37 l0_1 x53_4).f1))).setCell ⟨gb407, 2, none⟩ (.int .i64 ((rd_T37 l0_1 x53_4).f2))).setCell ⟨gb407, 3, none⟩ (.int .i64 ((rd_T37 l0_1 x53_4).f3))) w.heap.size (fun _ => True) (.slice (some ⟨go33, 0, none⟩) x8_4.length co33) x8_4) := ⟨by (with_reducible repeat (first | apply Kd.R_alloc | apply Kd.R_drewN | apply Kd.R_drew)); exact Kd.R_mono (Kd.R_far (p := ⟨gb407, 3, none⟩) (Kd.R_far (p := ⟨gb407, 2, none⟩) (Kd.R_far (p := ⟨gb407, 1, none⟩) (Kd.R_far (p := ⟨gb407, 0, none⟩) (Kd.R_types HO_8.out BK407.out (by decide)) (fun _ hk => hk.2) (.int .i64 ((rd_T37 l0_1 x53_4).f0))) (fun _ hk => hk.2) (.int .i64 ((rd_T37 l0_1 x53_4).f1))) (fun _ hk => hk.2) (.int .i64 ((rd_T37 l0_1 x53_4).f2))) (fun _ hk => hk.2) (.int .i64 ((rd_T37 l0_1 x53_4).f3))) (fun _ hk => trivial)⟩
         have n3_ : Aside0 (((((w60.setCell ⟨gb407, 0, none⟩ (.int .i64 ((rd_T37 l0_1 x53_4).f0))).setCell ⟨gb407, 1, none⟩ (.int .i64 ((rd_T37 l0_1 x53_4).f1))).setCell ⟨gb407, 2, none⟩ (.int .i64 ((rd_T37 l0_1 x53_4).f2))).setCell ⟨gb407, 3, none⟩ (.int .i64 ((rd_T37 l0_1 x53_4).f3))).heap[gb389]? = some (.cells #[.int .i64 a0_0, .slice (some ad406) l0_1.length c0_1] 24 (0, 0))) := ⟨by (with_reducible repeat (first | refine blk_drewN ?_ _ | refine blk_drew ?_ | refine blk_alloc ?_ _)); refine blk_far ?_ NB389_407.out _; (with_reducible repeat (first | refine blk_drewN ?_ _ | refine blk_drew ?_ | refine blk_alloc ?_ _)); refine blk_far ?_ NB389_407.out _; (with_reducible repeat (first | refine blk_drewN ?_ _ | refine blk_drew ?_ | refine blk_alloc ?_ _)); refine blk_far ?_ NB389_407.out _; (with_reducible repeat (first | refine blk_drewN ?_ _ | refine blk_drew ?_ | refine blk_alloc ?_ _)); refine blk_far ?_ NB389_407.out _; (with_reducible repeat (first | refine blk_drewN ?_ _ | refine blk_drew ?_ | refine blk_alloc ?_ _)); exact BK389.out⟩
         have n4_ : Aside0 (((((w60.setCell ⟨gb407, 0, none⟩ (.int .i64 ((rd_T37 l0_1 x53_4).f0))).setCell ⟨gb407, 1, none⟩ (.int .i64 ((rd_T37 l0_1 x53_4).f1))).setCell ⟨gb407, 2, none⟩ (.int .i64 ((rd_T37 l0_1 x53_4).f2))).setCell ⟨gb407, 3, none⟩ (.int .i64 ((rd_T37 l0_1 x53_4).f3))).heap[gb407]? = some (.cells #[.int .i64 ((rd_T37 l0_1 x53_4).f0), .int .i64 ((rd_T37 l0_1 x53_4).f1), .int .i64 ((rd_T37 l0_1 x53_4).f2), .int .i64 ((rd_T37 l0_1 x53_4).f3)] 37 (0, 0))) := ⟨by (with_reducible repeat (first | refine blk_drewN ?_ _ | refine blk_drew ?_ | refine blk_alloc ?_ _)); refine blk_put (cs := #[.int .i64 ((rd_T37 l0_1 x53_4).f0), .int .i64 ((rd_T37 l0_1 x53_4).f1), .int .i64 ((rd_T37 l0_1 x53_4).f2), .int .i64 0]) ?_ 3 _ rfl; (with_reducible repeat (first | refine blk_drewN ?_ _ | refine blk_drew ?_ | refine blk_alloc ?_ _)); refine blk_put (cs := #[.int .i64 ((rd_T37 l0_1 x53_4).f0), .int .i64 ((rd_T37 l0_1 x53_4).f1), .int .i64 0, .int .i64 0]) ?_ 2 _ rfl; (with_reducible repeat (first | refine blk_drewN ?_ _ | refine blk_drew ?_ | refine blk_alloc ?_ _)); refine blk_put (cs := #[.int .i64 ((rd_T37 l0_1 x53_4).f0), .int .i64 0, .int .i64 0, .int .i64 0]) ?_ 1 _ rfl; (with_reducible repeat (first | refine blk_drewN ?_ _ | refine blk_drew ?_ | refine blk_alloc ?_ _)); refine blk_put (cs := #[.int .i64 0, .int .i64 0, .int .i64 0, .int .i64 0]) ?_ 0 _ rfl; (with_reducible repeat (first | refine blk_drewN ?_ _ | refine blk_drew ?_ | refine blk_alloc ?_ _)); exact BK407.out⟩
         have n5_ : Aside0 (Below w.heap.size w ((((w60.setCell ⟨gb407, 0, none⟩ (.int .i64 ((rd_T37 l0_1 x53_4).f0))).setCell ⟨gb407, 1, none⟩ (.int .i64 ((rd_T37 l0_1 x53_4).f1))).setCell ⟨gb407, 2, none⟩ (.int .i64 ((rd_T37 l0_1 x53_4).f2))).setCell ⟨gb407, 3, none⟩ (.int .i64 ((rd_T37 l0_1 x53_4).f3)))) := ⟨by repeat (first | (with_reducible first | exact HB.out | apply below_alloc | apply pw_below_drewN | apply below_drew1 | refine below_set ?_ GE389.out | refine below_set ?_ GE407.out) | exact HB.out)⟩
         (try clear HO_3)
         (try clear HO_5)
         (try clear HO_8)
         (try clear BK389)
         (try clear BK407)
         (try clear HB)
         generalize ((((w60.setCell ⟨gb407, 0, none⟩ (.int .i64 ((rd_T37 l0_1 x53_4).f0))).setCell ⟨gb407, 1, none⟩ (.int .i64 ((rd_T37 l0_1 x53_4).f1))).setCell ⟨gb407, 2, none⟩ (.int .i64 ((rd_T37 l0_1 x53_4).f2))).setCell ⟨gb407, 3, none⟩ (.int .i64 ((rd_T37 l0_1 x53_4).f3))) = w63 at n0_ n1_ n2_ n3_ n4_ n5_ ⊢
         have HO_3 := n0_
         have HO_5 := n1_
         have HO_8 := n2_
         have BK389 := n3_
         have BK407 := n4_
         have HB := n5_
         clear n0_ n1_ n2_ n3_ n4_ n5_
         have n0_ := Aside0.mk (Kd.S_drew HO_3.out)
         have n1_ := Aside0.mk (Kd.R_drew HO_5.out)
         have n2_ := Aside0.mk (Kd.R_drew HO_8.out)
         have n3_ := Aside0.mk (blk_drew BK389.out)
         have n4_ := Aside0.mk (blk_drew BK407.out)
         have n5_ := Aside0.mk (below_drew1 HB.out)
         clear HO_3
         clear HO_5
         clear HO_8
         clear BK389
         clear BK407
         clear HB
         have HO_3 := n0_
         have HO_5 := n1_
         have HO_8 := n2_
         have BK389 := n3_
         have BK407 := n4_
         have HB := n5_
         clear n0_ n1_ n2_ n3_ n4_ n5_
         have p408 : 0 ≤ (x41_3 : Int) := of_decide_eq_true (by first | (with_reducible assumption) | assumption)
         have q408 : x41_3 < (t393.length : Int) := of_decide_eq_true (by first | (with_reducible assumption) | assumption)
         obtain ⟨ad408, A408_0, c408_0, e408, hx408_0, hl408_0, hi408_0⟩ := at_L3 (Kd.S_reads' HO_3.out).2.2 x41_3 p408 q408
         cases e408
         obtain ⟨ce408, hce408, hMe408, hcc408⟩ := Kd.S_get HO_3.out [] x41_3 p408 (by first | exact q408 | exact of_decide_eq_true (by first | (with_reducible assumption) | assumption) | (have e_ := (Kd.S_reads' HO_3.out).1; omega))
         obtain ⟨ve408_0, rfl, ge408_0⟩ := hMe408
         have hv408_0 := hcc408 0 _ rfl
         rw [Nat.add_zero, show ((Kd.slice 3 (Kd.int .i64))).sz = 1 from rfl, Nat.mul_one] at hv408_0
         replace hv408_0 := Option.some.inj (hv408_0.symm.trans hx408_0)
         rw [hv408_0] at ge408_0
         have HL408_0 := Aside0.mk (show Kd.R (Kd.int .i64) 3 _ _ _ _ (rd_L3 t393 x41_3) from ge408_0)
         clear hv408_0 ge408_0
         clear hcc408 hce408
         have HR408_0 := Aside0.mk hi408_0
         have HC408_0 := Aside0.mk hl408_0
         clear hi408_0 hl408_0
         replace p408 := eq_true p408
         replace q408 := eq_true q408
         have p409 : 0 ≤ (((rd_T37 l0_1 x53_4).f0) : Int) := of_decide_eq_true (by first | (with_reducible assumption) | assumption)
         have q409 : ((rd_T37 l0_1 x53_4).f0) < ((rd_L3 t393 x41_3).length : Int) := of_decide_eq_true (by first | (with_reducible assumption) | assumption)
         obtain ⟨ad409, e409, hx409_0⟩ := Kd.at_int (by repeat (first | (with_reducible exact HR408_0.out) | (with_reducible refine Kd.C_alloc ?_ _) | (with_reducible refine Kd.C_drewN ?_ _) | (with_reducible refine Kd.C_drew ?_) | exact HR408_0.out)) ((rd_T37 l0_1 x53_4).f0) p409 q409
         cases e409
         replace p409 := eq_true p409
         replace q409 := eq_true q409
         have p410 : 0 ≤ (x41_3 : Int) := of_decide_eq_true (by first | (with_reducible assumption) | assumption)
         have q410 : x41_3 < (t393.length : Int) := of_decide_eq_true (by first | (with_reducible assumption) | assumption)
         obtain ⟨ad410, A410_0, c410_0, e410, hx410_0, hl410_0, hi410_0⟩ := at_L3 (Kd.S_reads' HO_3.out).2.2 x41_3 p410 q410
         obtain rfl : ad408 = ad410 := (by injection e410)
         obtain ⟨ce410, hce410, hMe410, hcc410⟩ := Kd.S_get HO_3.out [] x41_3 p410 (by first | exact q410 | exact of_decide_eq_true (by first | (with_reducible assumption) | assumption) | (have e_ := (Kd.S_reads' HO_3.out).1; omega))
         obtain ⟨ve410_0, rfl, ge410_0⟩ := hMe410
         have hv410_0 := hcc410 0 _ rfl
         rw [Nat.add_zero, show ((Kd.slice 3 (Kd.int .i64))).sz = 1 from rfl, Nat.mul_one] at hv410_0
         replace hv410_0 := Option.some.inj (hv410_0.symm.trans hx410_0)
         rw [hv410_0] at ge410_0
         have HL410_0 := Aside0.mk (show Kd.R (Kd.int .i64) 3 _ _ _ _ (rd_L3 t393 x41_3) from ge410_0)
         clear hv410_0 ge410_0
         clear hcc410 hce410
         have HR410_0 := Aside0.mk hi410_0
         have HC410_0 := Aside0.mk hl410_0
         clear hi410_0 hl410_0
         replace p410 := eq_true p410
         replace q410 := eq_true q410
         have ea_ := Option.some.inj (hx408_0.symm.trans hx410_0)
         injection ea_ with ea_ en_ ec_
         subst ea_
         subst ec_
         clear en_
         have p411 : 0 ≤ (((rd_T37 l0_1 x53_4).f2) : Int) := of_decide_eq_true (by first | (with_reducible assumption) | assumption)
         have q411 : ((rd_T37 l0_1 x53_4).f2) < ((rd_L3 t393 x41_3).length : Int) := of_decide_eq_true (by first | (with_reducible assumption) | assumption)
         obtain ⟨ad411, e411, hx411_0⟩ := Kd.at_int (by repeat (first | (with_reducible exact HR410_0.out) | (with_reducible refine Kd.C_alloc ?_ _) | (with_reducible refine Kd.C_drewN ?_ _) | (with_reducible refine Kd.C_drew ?_) | exact HR410_0.out)) ((rd_T37 l0_1 x53_4).f2) p411 q411
         cases e411
         replace p411 := eq_true p411
         replace q411 := eq_true q411
         refine start_ (n := 18) (S := fun w' => w'.cell? ⟨gb407, 0, none⟩ = some (.int .i64 ((rd_T37 l0_1 x53_4).f0)) ∧ w'.cell? ⟨gb407, 1, none⟩ = some (.int .i64 ((rd_T37 l0_1 x53_4).f1)) ∧ w'.cell? ⟨gb407, 2, none⟩ = some (.int .i64 ((rd_T37 l0_1 x53_4).f2)) ∧ w'.cell? ⟨gb407, 3, none⟩ = some (.int .i64 ((rd_T37 l0_1 x53_4).f3)) ∧ w'.cell? (ad408.add (x41_3).toNat) = some (.slice (some ad409) (rd_L3 t393 x41_3).length c408_0) ∧ w'.cell? (ad409.add (((rd_T37 l0_1 x53_4).f0)).toNat) = some (.int .i64 (rd (rd_L3 t393 x41_3) ((rd_T37 l0_1 x53_4).f0))) ∧ w'.cell? (ad408.add (x41_3).toNat) = some (.slice (some ad409) (rd_L3 t393 x41_3).length c408_0) ∧ w'.cell? (ad409.add (((rd_T37 l0_1 x53_4).f2)).toNat) = some (.int .i64 (rd (rd_L3 t393 x41_3) ((rd_T37 l0_1 x53_4).f2)))) (ds := []) (Go.Proofs.Ythkpnkmbmlbefaa.HG.bz [0, 18]) (by kernel_rfl) rfl rfl ⟨(blk_cell BK407.out 0).trans rfl, (blk_cell BK407.out 1).trans rfl, (blk_cell BK407.out 2).trans rfl, (blk_cell BK407.out 3).trans rfl, hx408_0, hx409_0, hx410_0, hx411_0⟩ (fun hHeld => ?_); refine with_tabW timesynclaw18_TopoDistances.tab16 timesynclaw18_TopoDistances.bits16 (fun HT_ HW_ => ?_)
         generalize w63.drew = w64 at HO_3 HO_5 HO_8 BK389 BK407 HB HL408_0 HL410_0 HR408_0 HR410_0 hx408_0 hx409_0 hx410_0 hx411_0 hHeld ⊢
         refine pure_ (i := 0) (N := some 57) (v := ?_) (a' := ?_) (Go.Proofs.Ythkpnkmbmlbefaa.HG.bz [1, 17]) rfl rfl (any_of HT_.out (by kernel_rfl)) (fun _ _ _ h => h) (Or.inl ⟨by rfl, ?_⟩) ?_ ?_
         rotate_left
         ·intro w'
          go_simp
          with_reducible rfl
         rotate_left
         ·simp only [Act.put, List.setIfInBounds_toArray, List.set_cons_zero, List.set_cons_succ, i64_w, i32_w]
          rfl
         refine pure_ (i := 1) (N := some 58) (v := ?_) (a' := ?_) (Go.Proofs.Ythkpnkmbmlbefaa.HG.bz [2, 16]) rfl rfl (any_of HT_.out (by kernel_rfl)) (fun _ _ _ h => h) (Or.inl ⟨by rfl, ?_⟩) ?_ ?_
         rotate_left
         ·intro w'
          go_simp
          with_reducible rfl
         rotate_left
         ·simp only [Act.put, List.setIfInBounds_toArray, List.set_cons_zero, List.set_cons_succ, i64_w, i32_w]
          rfl
         refine pure_ (i := 2) (N := some 59) (v := ?_) (a' := ?_) (Go.Proofs.Ythkpnkmbmlbefaa.HG.bz [3, 15]) rfl rfl (any_of HT_.out (by kernel_rfl)) (fun _ _ _ h => h) (Or.inl ⟨by rfl, ?_⟩) ?_ ?_
         rotate_left
         ·intro w'
          go_simp
          with_reducible rfl
         rotate_left
         ·simp only [Act.put, List.setIfInBounds_toArray, List.set_cons_zero, List.set_cons_succ, i64_w, i32_w]
          rfl
         refine pure_ (i := 4) (N := some 61) (v := ?_) (a' := ?_) (Go.Proofs.Ythkpnkmbmlbefaa.HG.bz [3, 1, 1, 13]) rfl rfl (any_of HT_.out (by kernel_rfl)) (fun _ _ _ h => h) (Or.inl ⟨by rfl, ?_⟩) ?_ ?_
         rotate_left
         ·intro w'
          go_simp
          with_reducible rfl
         rotate_left
         ·simp only [Act.put, List.setIfInBounds_toArray, List.set_cons_zero, List.set_cons_succ, i64_w, i32_w]
          rfl
         refine pure_ (i := 8) (N := some 65) (v := ?_) (a' := ?_) (Go.Proofs.Ythkpnkmbmlbefaa.HG.bz [3, 1, 1, 3, 1, 9]) rfl rfl (any_of HT_.out (by kernel_rfl)) (fun _ _ _ h => h) (Or.inl ⟨by rfl, ?_⟩) ?_ ?_
         rotate_left
         ·intro w'
          go_simp
          with_reducible rfl
         rotate_left
         ·simp only [Act.put, List.setIfInBounds_toArray, List.set_cons_zero, List.set_cons_succ, i64_w, i32_w]
          rfl
         refine pure_ (i := 9) (N := some 66) (v := ?_) (a' := ?_) (Go.Proofs.Ythkpnkmbmlbefaa.HG.bz [3, 1, 1, 3, 2, 8]) rfl rfl (any_of HT_.out (by kernel_rfl)) (fun _ _ _ h => h) (Or.inl ⟨by rfl, ?_⟩) ?_ ?_
         rotate_left
         ·intro w'
          go_simp
          with_reducible rfl
         rotate_left
         ·simp only [Act.put, List.setIfInBounds_toArray, List.set_cons_zero, List.set_cons_succ, i64_w, i32_w]
          rfl
         refine pure_ (i := 10) (N := some 67) (v := ?_) (a' := ?_) (Go.Proofs.Ythkpnkmbmlbefaa.HG.bz [3, 1, 1, 3, 3, 7]) rfl rfl (any_of HT_.out (by kernel_rfl)) (fun _ _ _ h => h) (Or.inl ⟨by rfl, ?_⟩) ?_ ?_
         rotate_left
         ·intro w'
          go_simp
          with_reducible rfl
         rotate_left
         ·simp only [Act.put, List.setIfInBounds_toArray, List.set_cons_zero, List.set_cons_succ, i64_w, i32_w]
          rfl
         refine pure_ (i := 12) (N := some 69) (v := ?_) (a' := ?_) (Go.Proofs.Ythkpnkmbmlbefaa.HG.bz [3, 1, 1, 3, 3, 1, 1, 5]) rfl rfl (any_of HT_.out (by kernel_rfl)) (fun _ _ _ h => h) (Or.inl ⟨by rfl, ?_⟩) ?_ ?_
         rotate_left
         ·intro w'
          go_simp
          with_reducible rfl
         rotate_left
         ·simp only [Act.put, List.setIfInBounds_toArray, List.set_cons_zero, List.set_cons_succ, i64_w, i32_w]
          rfl
         refine take_ (i := 3) (N := some 60) (v := ?_) (a' := ?_) (Go.Proofs.Ythkpnkmbmlbefaa.HG.bz [5, 3, 3, 1, 1, 5]) rfl rfl (take_ofW HT_.out HW_.out (by kernel_rfl)) (fun _ _ _ h => h) (Or.inl ⟨by rfl, ?_⟩) hHeld ?_ ?_
         rotate_left
         ·rintro w' ⟨s0, s1, s2, s3, s4, s5, s6, s7⟩
          go_simp
          with_reducible rfl
         rotate_left
         ·simp only [Act.put, List.setIfInBounds_toArray, List.set_cons_zero, List.set_cons_succ, i64_w, i32_w]
          rfl
         refine take_ (i := 5) (N := some 62) (v := ?_) (a' := ?_) (Go.Proofs.Ythkpnkmbmlbefaa.HG.bz [6, 2, 3, 1, 1, 5]) rfl rfl (take_ofW HT_.out HW_.out (by kernel_rfl)) (fun _ _ _ h => h) (Or.inl ⟨by rfl, ?_⟩) hHeld ?_ ?_
         rotate_left
         ·rintro w' ⟨s0, s1, s2, s3, s4, s5, s6, s7⟩
          go_simp
          with_reducible rfl
         rotate_left
         ·simp only [Act.put, List.setIfInBounds_toArray, List.set_cons_zero, List.set_cons_succ, i64_w, i32_w]
          rfl
         refine pure_ (i := 6) (N := some 63) (v := ?_) (a' := ?_) (Go.Proofs.Ythkpnkmbmlbefaa.HG.bz [7, 1, 3, 1, 1, 5]) rfl rfl (any_of HT_.out (by kernel_rfl)) (fun _ _ _ h => h) (Or.inl ⟨by rfl, ?_⟩) ?_ ?_
         rotate_left
         ·intro w'
          go_simp
          with_reducible rfl
         rotate_left
         ·simp only [Act.put, List.setIfInBounds_toArray, List.set_cons_zero, List.set_cons_succ, i64_w, i32_w]
          rfl
         refine take_ (i := 7) (N := some 64) (v := ?_) (a' := ?_) (Go.Proofs.Ythkpnkmbmlbefaa.HG.bz [11, 1, 1, 5]) rfl rfl (take_ofW HT_.out HW_.out (by kernel_rfl)) (fun _ _ _ h => h) (Or.inl ⟨by rfl, ?_⟩) hHeld ?_ ?_
         rotate_left
         ·rintro w' ⟨s0, s1, s2, s3, s4, s5, s6, s7⟩
          go_simp
          with_reducible rfl
         rotate_left
         ·simp only [Act.put, List.setIfInBounds_toArray, List.set_cons_zero, List.set_cons_succ, i64_w, i32_w]
          rfl
         refine pure_ (i := 16) (N := some 11) (v := ?_) (a' := ?_) (Go.Proofs.Ythkpnkmbmlbefaa.HG.bz [11, 1, 1, 3, 1, 1]) rfl rfl (any_of HT_.out (by kernel_rfl)) (fun _ _ _ h => h) (Or.inl ⟨by rfl, ?_⟩) ?_ ?_
         rotate_left
         ·intro w'
          go_simp
          with_reducible rfl
         rotate_left
         ·simp only [Act.put, List.setIfInBounds_toArray, List.set_cons_zero, List.set_cons_succ, i64_w, i32_w]
          rfl
         refine take_ (i := 11) (N := some 68) (v := ?_) (a' := ?_) (Go.Proofs.Ythkpnkmbmlbefaa.HG.bz [13, 3, 1, 1]) rfl rfl (take_ofW HT_.out HW_.out (by kernel_rfl)) (fun _ _ _ h => h) (Or.inl ⟨by rfl, ?_⟩) hHeld ?_ ?_
         rotate_left
         ·rintro w' ⟨s0, s1, s2, s3, s4, s5, s6, s7⟩
          go_simp
          with_reducible rfl
         rotate_left
         ·simp only [Act.put, List.setIfInBounds_toArray, List.set_cons_zero, List.set_cons_succ, i64_w, i32_w]
          rfl
         refine take_ (i := 13) (N := some 70) (v := ?_) (a' := ?_) (Go.Proofs.Ythkpnkmbmlbefaa.HG.bz [14, 2, 1, 1]) rfl rfl (take_ofW HT_.out HW_.out (by kernel_rfl)) (fun _ _ _ h => h) (Or.inl ⟨by rfl, ?_⟩) hHeld ?_ ?_
         rotate_left
         ·rintro w' ⟨s0, s1, s2, s3, s4, s5, s6, s7⟩
          go_simp
          with_reducible rfl
         rotate_left
         ·simp only [Act.put, List.setIfInBounds_toArray, List.set_cons_zero, List.set_cons_succ, i64_w, i32_w]
          rfl
         refine pure_ (i := 14) (N := some 71) (v := ?_) (a' := ?_) (Go.Proofs.Ythkpnkmbmlbefaa.HG.bz [15, 1, 1, 1]) rfl rfl (any_of HT_.out (by kernel_rfl)) (fun _ _ _ h => h) (Or.inl ⟨by rfl, ?_⟩) ?_ ?_
         rotate_left
         ·intro w'
          go_simp
          with_reducible rfl
         rotate_left
         ·simp only [Act.put, List.setIfInBounds_toArray, List.set_cons_zero, List.set_cons_succ, i64_w, i32_w]
          rfl
         refine take_ (i := 15) (N := some 72) (v := ?_) (a' := ?_) (Go.Proofs.Ythkpnkmbmlbefaa.HG.bz [17, 1]) rfl rfl (take_ofW HT_.out HW_.out (by kernel_rfl)) (fun _ _ _ h => h) (Or.inl ⟨by rfl, ?_⟩) hHeld ?_ ?_
         rotate_left
         ·rintro w' ⟨s0, s1, s2, s3, s4, s5, s6, s7⟩
          go_simp
          with_reducible rfl
         rotate_left
         ·simp only [Act.put, List.setIfInBounds_toArray, List.set_cons_zero, List.set_cons_succ, i64_w, i32_w]
          rfl
         refine pure_ (i := 17) (N := some 12) (v := ?_) (a' := ?_) (Go.Proofs.Ythkpnkmbmlbefaa.HG.bz [18]) rfl rfl (any_of HT_.out (by kernel_rfl)) (fun _ _ _ h => h) (Or.inl ⟨by rfl, ?_⟩) ?_ ?_
         rotate_left
         ·intro w'
          go_simp
          with_reducible rfl
         rotate_left
         ·simp only [Act.put, List.setIfInBounds_toArray, List.set_cons_zero, List.set_cons_succ, i64_w, i32_w]
          rfl
         refine done_ (done_of HT_.out (by kernel_rfl)) ?_
         try go_wp2
         have n0_ := Aside0.mk (Kd.S_drew HO_3.out)
         have n1_ := Aside0.mk (Kd.R_drew HO_5.out)
         have n2_ := Aside0.mk (Kd.R_drew HO_8.out)
         have n3_ := Aside0.mk (Kd.R_drew HL408_0.out)
         have n4_ := Aside0.mk (Kd.R_drew HL410_0.out)
         have n5_ := Aside0.mk (blk_drew BK389.out)
         have n6_ := Aside0.mk (blk_drew BK407.out)
         have n7_ := Aside0.mk (Kd.C_drew HR408_0.out)
         have n8_ := Aside0.mk (Kd.C_drew HR410_0.out)
         have n9_ := Aside0.mk (below_drew1 HB.out)
         clear HO_3
         clear HO_5
         clear HO_8
         clear HL408_0
         clear HL410_0
         clear BK389
         clear BK407
         clear HR408_0
         clear HR410_0
         clear HB
         have HO_3 := n0_
         have HO_5 := n1_
         have HO_8 := n2_
         have HL408_0 := n3_
         have HL410_0 := n4_
         have BK389 := n5_
         have BK407 := n6_
         have HR408_0 := n7_
         have HR410_0 := n8_
         have HB := n9_
         clear n0_ n1_ n2_ n3_ n4_ n5_ n6_ n7_ n8_ n9_
         have H := HS_.out
         clear HS_
         by_cases c54 : bq53 = true
         ·as_aux_lemma =>
           subst c54
           have H1 : ((some (x8_4.set (((rd_T37 l0_1 x53_4).f0) : Int).toNat true : List Bool)).bind fun y413 => (if ((rd_T37 l0_1 x53_4).f2) < (x8_4.length : Int) then (if rdOf false y413 ((rd_T37 l0_1 x53_4).f2) = true then (timesynclaw18_TopoDistances.l1 k4 t393 t397 x6_3 x41_3 (y413.set (((rd_T37 l0_1 x53_4).f2) : Int).toNat true) (t393.length : Int) x41_3 l0_1 (l0_1.length : Int) (wrap64 (x53_4 + 1)) a0_0 l0_1) else (timesynclaw18_TopoDistances.l1 k4 t393 t397 x6_3 x41_3 (y413.set (((rd_T37 l0_1 x53_4).f2) : Int).toNat ((rd (rd_L3 t393 x41_3) ((rd_T37 l0_1 x53_4).f0)) == (wrap64 ((rd (rd_L3 t393 x41_3) ((rd_T37 l0_1 x53_4).f2)) - 1)))) (t393.length : Int) x41_3 l0_1 (l0_1.length : Int) (wrap64 (x53_4 + 1)) a0_0 l0_1)) else (none))) = some r := by rw [if_pos rfl] at H; exact H
           clear H
           have H := H1
           clear H1
           obtain ⟨y413, hy413⟩ : ∃ y_ : List Bool, y_ = (x8_4.set (((rd_T37 l0_1 x53_4).f0) : Int).toNat true) := ⟨_, rfl⟩
           replace H : (if ((rd_T37 l0_1 x53_4).f2) < (x8_4.length : Int) then (if rdOf false y413 ((rd_T37 l0_1 x53_4).f2) = true then (timesynclaw18_TopoDistances.l1 k4 t393 t397 x6_3 x41_3 (y413.set (((rd_T37 l0_1 x53_4).f2) : Int).toNat true) (t393.length : Int) x41_3 l0_1 (l0_1.length : Int) (wrap64 (x53_4 + 1)) a0_0 l0_1) else (timesynclaw18_TopoDistances.l1 k4 t393 t397 x6_3 x41_3 (y413.set (((rd_T37 l0_1 x53_4).f2) : Int).toNat ((rd (rd_L3 t393 x41_3) ((rd_T37 l0_1 x53_4).f0)) == (wrap64 ((rd (rd_L3 t393 x41_3) ((rd_T37 l0_1 x53_4).f2)) - 1)))) (t393.length : Int) x41_3 l0_1 (l0_1.length : Int) (wrap64 (x53_4 + 1)) a0_0 l0_1)) else (none)) = some r := by first | (rw [hy413]; with_reducible exact H) | (have H2_ := (Option.bind_some _ _).symm.trans H; rw [hy413]; with_reducible exact H2_) | (have H2_ := (Option.bind_some _ _).symm.trans H; with_reducible exact H2_) | with_reducible exact H | (rw [hy413]; exact H) | exact H
           have Ny413 := Aside0.mk hy413
           clear hy413
           by_cases c56 : ((rd_T37 l0_1 x53_4).f2) < (x8_4.length : Int)
           rotate_left
           ·rw [if_neg c56] at H
            exact absurd H (by simp)
           rw [if_pos c56] at H
           have c56b0 : decide (((rd_T37 l0_1 x53_4).f2) < (x8_4.length : Int)) = true := decide_eq_true c56
           clear c56
           (try (have c56r0 := c56b0; simp only [hl8_4] at c56r0))
           obtain ⟨bq57, hbq57⟩ : ∃ b_ : Bool, b_ = (rdOf false y413 ((rd_T37 l0_1 x53_4).f2)) := ⟨_, rfl⟩
           replace H : (if bq57 = true then (timesynclaw18_TopoDistances.l1 k4 t393 t397 x6_3 x41_3 (y413.set (((rd_T37 l0_1 x53_4).f2) : Int).toNat true) (t393.length : Int) x41_3 l0_1 (l0_1.length : Int) (wrap64 (x53_4 + 1)) a0_0 l0_1) else (timesynclaw18_TopoDistances.l1 k4 t393 t397 x6_3 x41_3 (y413.set (((rd_T37 l0_1 x53_4).f2) : Int).toNat ((rd (rd_L3 t393 x41_3) ((rd_T37 l0_1 x53_4).f0)) == (wrap64 ((rd (rd_L3 t393 x41_3) ((rd_T37 l0_1 x53_4).f2)) - 1)))) (t393.length : Int) x41_3 l0_1 (l0_1.length : Int) (wrap64 (x53_4 + 1)) a0_0 l0_1)) = some r := by rw [← hbq57] at H; exact H
           have Nbq57 := Aside0.mk hbq57
           clear hbq57
           have HS_ := Aside0.mk H
           clear H
           have p412 : 0 ≤ (((rd_T37 l0_1 x53_4).f0) : Int) := of_decide_eq_true (by first | (with_reducible assumption) | assumption)
           have q412 : ((rd_T37 l0_1 x53_4).f0) < (x8_4.length : Int) := of_decide_eq_true (by first | (with_reducible assumption) | assumption)
           obtain ⟨ad412, e412, hx412_0⟩ := Kd.at_bool (Kd.R_reads' HO_8.out).2.2 ((rd_T37 l0_1 x53_4).f0) p412 q412
           (try rw [← Nbq53.out] at hx412_0)
           (try rw [← Nbq57.out] at hx412_0)
           obtain rfl : (⟨go33, 0, none⟩ : Addr) = ad412 := (by injection e412)
           (first | simp only [add_plain] at hx412_0 | simp only [add_at] at hx412_0 | simp only [Addr.add, Nat.zero_add] at hx412_0 | skip)
           replace p412 := eq_true p412
           replace q412 := eq_true q412
           have p55 : 0 ≤ (((rd_T37 l0_1 x53_4).f0) : Int) := of_decide_eq_true (by first | (with_reducible assumption) | assumption)
           have q55 : (((rd_T37 l0_1 x53_4).f0) : Int) < ((x8_4.length : Int) : Int) := of_decide_eq_true (by first | (with_reducible assumption) | assumption)
           obtain ⟨hx55_0, hf55_0⟩ := Kd.R_celln false HO_8.out (((rd_T37 l0_1 x53_4).f0) : Int) p55 q55
           replace p55 := eq_true p55
           replace q55 := eq_true q55
           have HP66 := Kd.R_putn HO_8.out (((rd_T37 l0_1 x53_4).f0) : Int) true
           rw [← Ny413.out] at HP66
           have HQ66 := Aside0.mk HP66
           clear HP66
           refine start_ (n := 16) (S := fun w' => w'.cell? ⟨gb407, 0, none⟩ = some (.int .i64 ((rd_T37 l0_1 x53_4).f0)) ∧ w'.cell? ⟨gb407, 1, none⟩ = some (.int .i64 ((rd_T37 l0_1 x53_4).f1)) ∧ w'.cell? ⟨gb407, 2, none⟩ = some (.int .i64 ((rd_T37 l0_1 x53_4).f2)) ∧ w'.cell? ⟨gb407, 3, none⟩ = some (.int .i64 ((rd_T37 l0_1 x53_4).f3)) ∧ w'.cell? ⟨go33, (((rd_T37 l0_1 x53_4).f0)).toNat, none⟩ = some (.bool true)) (ds := [15]) (Go.Proofs.Ythkpnkmbmlbefaa.HG.bz [0, 16]) (by kernel_rfl) rfl rfl ⟨(blk_cell BK407.out 0).trans rfl, (blk_cell BK407.out 1).trans rfl, (blk_cell BK407.out 2).trans rfl, (blk_cell BK407.out 3).trans rfl, hx412_0⟩ (fun hHeld => ?_); refine with_tabW timesynclaw18_TopoDistances.tab19 timesynclaw18_TopoDistances.bits19 (fun HT_ HW_ => ?_)
           generalize w64.drew = w65 at HO_3 HO_5 HO_8 HL408_0 HL410_0 BK389 BK407 HR408_0 HR410_0 HB HQ66 hf55_0 hx412_0 hx55_0 hHeld ⊢
           refine pure_ (i := 0) (N := some 90) (v := ?_) (a' := ?_) (Go.Proofs.Ythkpnkmbmlbefaa.HG.bz [1, 15]) rfl rfl (any_of HT_.out (by kernel_rfl)) (fun _ _ _ h => h) (Or.inl ⟨by rfl, ?_⟩) ?_ ?_
           rotate_left
           ·intro w'
            go_simp
            with_reducible rfl
           rotate_left
           ·simp only [Act.put, List.setIfInBounds_toArray, List.set_cons_zero, List.set_cons_succ, i64_w, i32_w]
            rfl
           refine pure_ (i := 1) (N := some 91) (v := ?_) (a' := ?_) (Go.Proofs.Ythkpnkmbmlbefaa.HG.bz [2, 14]) rfl rfl (any_of HT_.out (by kernel_rfl)) (fun _ _ _ h => h) (Or.inl ⟨by rfl, ?_⟩) ?_ ?_
           rotate_left
           ·intro w'
            go_simp
            with_reducible rfl
           rotate_left
           ·simp only [Act.put, List.setIfInBounds_toArray, List.set_cons_zero, List.set_cons_succ, i64_w, i32_w]
            rfl
           refine pure_ (i := 3) (N := some 93) (v := ?_) (a' := ?_) (Go.Proofs.Ythkpnkmbmlbefaa.HG.bz [2, 1, 1, 12]) rfl rfl (any_of HT_.out (by kernel_rfl)) (fun _ _ _ h => h) (Or.inl ⟨by rfl, ?_⟩) ?_ ?_
           rotate_left
           ·intro w'
            go_simp
            with_reducible rfl
           rotate_left
           ·simp only [Act.put, List.setIfInBounds_toArray, List.set_cons_zero, List.set_cons_succ, i64_w, i32_w]
            rfl
           refine pure_ (i := 4) (N := some 94) (v := ?_) (a' := ?_) (Go.Proofs.Ythkpnkmbmlbefaa.HG.bz [2, 1, 2, 11]) rfl rfl (any_of HT_.out (by kernel_rfl)) (fun _ _ _ h => h) (Or.inl ⟨by rfl, ?_⟩) ?_ ?_
           rotate_left
           ·intro w'
            go_simp
            with_reducible rfl
           rotate_left
           ·simp only [Act.put, List.setIfInBounds_toArray, List.set_cons_zero, List.set_cons_succ, i64_w, i32_w]
            rfl
           refine take_ (i := 2) (N := some 92) (v := ?_) (a' := ?_) (Go.Proofs.Ythkpnkmbmlbefaa.HG.bz [5, 11]) rfl rfl (take_ofW HT_.out HW_.out (by kernel_rfl)) (fun _ _ _ h => h) (Or.inl ⟨by rfl, ?_⟩) hHeld ?_ ?_
           rotate_left
           ·rintro w' ⟨s0, s1, s2, s3, s4⟩
            go_simp
            with_reducible rfl
           rotate_left
           ·simp only [Act.put, List.setIfInBounds_toArray, List.set_cons_zero, List.set_cons_succ, i64_w, i32_w]
            rfl
           refine take_ (i := 5) (N := some 95) (v := ?_) (a' := ?_) (Go.Proofs.Ythkpnkmbmlbefaa.HG.bz [6, 10]) rfl rfl (take_ofW HT_.out HW_.out (by kernel_rfl)) (fun _ _ _ h => h) (Or.inl ⟨by rfl, ?_⟩) hHeld ?_ ?_
           rotate_left
           ·rintro w' ⟨s0, s1, s2, s3, s4⟩
            go_simp
            with_reducible rfl
           rotate_left
           ·simp only [Act.put, List.setIfInBounds_toArray, List.set_cons_zero, List.set_cons_succ, i64_w, i32_w]
            rfl
           refine pure_ (i := 6) (N := some 96) (v := ?_) (a' := ?_) (Go.Proofs.Ythkpnkmbmlbefaa.HG.bz [7, 9]) rfl rfl (any_of HT_.out (by kernel_rfl)) (fun _ _ _ h => h) (Or.inl ⟨by rfl, ?_⟩) ?_ ?_
           rotate_left
           ·intro w'
            go_simp
            with_reducible rfl
           rotate_left
           ·simp only [Act.put, List.setIfInBounds_toArray, List.set_cons_zero, List.set_cons_succ, i64_w, i32_w]
            rfl
           refine take_ (i := 7) (N := some 97) (v := ?_) (a' := ?_) (Go.Proofs.Ythkpnkmbmlbefaa.HG.bz [8, 8]) rfl rfl (take_ofW HT_.out HW_.out (by kernel_rfl)) (fun _ _ _ h => h) (Or.inl ⟨by rfl, ?_⟩) hHeld ?_ ?_
           rotate_left
           ·rintro w' ⟨s0, s1, s2, s3, s4⟩
            go_simp
            with_reducible rfl
           rotate_left
           ·simp only [Act.put, List.setIfInBounds_toArray, List.set_cons_zero, List.set_cons_succ, i64_w, i32_w]
            rfl
           refine pure_ (i := 8) (N := some 98) (v := ?_) (a' := ?_) (Go.Proofs.Ythkpnkmbmlbefaa.HG.bz [9, 7]) rfl rfl (any_of HT_.out (by kernel_rfl)) (fun _ _ _ h => h) (Or.inl ⟨by rfl, ?_⟩) ?_ ?_
           rotate_left
           ·intro w'
            go_simp
            with_reducible rfl
           rotate_left
           ·simp only [Act.put, List.setIfInBounds_toArray, List.set_cons_zero, List.set_cons_succ, i64_w, i32_w]
            rfl
           refine pure_ (i := 9) (N := some 99) (v := undef) (a' := ?_) (Go.Proofs.Ythkpnkmbmlbefaa.HG.bz [10, 6]) rfl rfl (any_of HT_.out (by kernel_rfl)) (fun _ _ _ h => h) (Or.inr ⟨by rfl, rfl⟩) ?_ ?_
           rotate_left
           ·simp only [Act.put, List.setIfInBounds_toArray, List.set_cons_zero, List.set_cons_succ, i64_w, i32_w]
            rfl
           refine pure_ (i := 10) (N := some 100) (v := undef) (a' := ?_) (Go.Proofs.Ythkpnkmbmlbefaa.HG.bz [11, 5]) rfl rfl (any_of HT_.out (by kernel_rfl)) (fun _ _ _ h => h) (Or.inr ⟨by rfl, rfl⟩) ?_ ?_
           rotate_left
           ·simp only [Act.put, List.setIfInBounds_toArray, List.set_cons_zero, List.set_cons_succ, i64_w, i32_w]
            rfl
           refine pure_ (i := 11) (N := some 101) (v := undef) (a' := ?_) (Go.Proofs.Ythkpnkmbmlbefaa.HG.bz [12, 4]) rfl rfl (any_of HT_.out (by kernel_rfl)) (fun _ _ _ h => h) (Or.inr ⟨by rfl, rfl⟩) ?_ ?_
           rotate_left
           ·simp only [Act.put, List.setIfInBounds_toArray, List.set_cons_zero, List.set_cons_succ, i64_w, i32_w]
            rfl
           refine pure_ (i := 12) (N := some 102) (v := undef) (a' := ?_) (Go.Proofs.Ythkpnkmbmlbefaa.HG.bz [13, 3]) rfl rfl (any_of HT_.out (by kernel_rfl)) (fun _ _ _ h => h) (Or.inr ⟨by rfl, rfl⟩) ?_ ?_
           rotate_left
           ·simp only [Act.put, List.setIfInBounds_toArray, List.set_cons_zero, List.set_cons_succ, i64_w, i32_w]
            rfl
           refine pure_ (i := 13) (N := some 103) (v := ?_) (a' := ?_) (Go.Proofs.Ythkpnkmbmlbefaa.HG.bz [14, 2]) rfl rfl (any_of HT_.out (by kernel_rfl)) (fun _ _ _ h => h) (Or.inl ⟨by rfl, ?_⟩) ?_ ?_
           rotate_left
           ·intro w'
            go_simp
            with_reducible rfl
           rotate_left
           ·simp only [Act.put, List.setIfInBounds_toArray, List.set_cons_zero, List.set_cons_succ, i64_w, i32_w]
            rfl
           refine pure_ (i := 14) (N := some 104) (v := ?_) (a' := ?_) (Go.Proofs.Ythkpnkmbmlbefaa.HG.bz [15, 1]) rfl rfl (any_of HT_.out (by kernel_rfl)) (fun _ _ _ h => h) (Or.inl ⟨by rfl, ?_⟩) ?_ ?_
           rotate_left
           ·intro w'
            go_simp
            with_reducible rfl
           rotate_left
           ·simp only [Act.put, List.setIfInBounds_toArray, List.set_cons_zero, List.set_cons_succ, i64_w, i32_w]
            rfl
           refine last_ (i := 15) (N := none) (Go.Proofs.Ythkpnkmbmlbefaa.HG.bz [16]) rfl rfl (one_of HT_.out (by kernel_rfl)) (by decide) (fun K hK => ?_)
           refine skip_ (w1 := ?_) (by rfl) rfl ?_ ?_
           rotate_left
           ·go_simp
            rfl
           refine hK.out _ _ ?_
           clear hK K
           refine done_ (done_of HT_.out (by kernel_rfl)) ?_
           try go_wp2
           obtain ⟨cl33_, GG33_⟩ := Kd.R_typed HO_8.out go33 rfl
           have GG33 := Aside0.mk GG33_
           clear GG33_
           have n0_ : Aside0 (Kd.S (Kd.slice 3 (Kd.int .i64)) 30 (w65.setCell ⟨go33, (((rd_T37 l0_1 x53_4).f0) : Int).toNat, none⟩ (.bool true)) w.heap.size (fun k_ => some k_ ≠ (v398 : Value).ownBlock) (.slice (some ad408) t393.length co27) t393) := ⟨by (with_reducible repeat (first | apply Kd.S_alloc | apply Kd.S_drewN | apply Kd.S_drew)); exact Kd.S_mono (Kd.S_far (p := ⟨go33, (((rd_T37 l0_1 x53_4).f0) : Int).toNat, none⟩) (Kd.S_types HO_3.out GG33.out (by decide)) (fun _ hk => hk.2) (.bool true)) (fun _ hk => hk.1)⟩
           have n1_ : Aside0 (Kd.R (Kd.int .i64) 3 (w65.setCell ⟨go33, (((rd_T37 l0_1 x53_4).f0) : Int).toNat, none⟩ (.bool true)) w.heap.size (fun _ => True) v398 t397) := ⟨by (with_reducible repeat (first | apply Kd.R_alloc | apply Kd.R_drewN | apply Kd.R_drew)); exact Kd.R_mono (Kd.R_far (p := ⟨go33, (((rd_T37 l0_1 x53_4).f0) : Int).toNat, none⟩) (Kd.R_types HO_5.out GG33.out (by decide)) (fun _ hk => hk.2) (.bool true)) (fun _ hk => trivial)⟩
           have n2_ : Aside0 (Kd.R Kd.bool 4 (w65.setCell ⟨go33, (((rd_T37 l0_1 x53_4).f0) : Int).toNat, none⟩ (.bool true)) w.heap.size (fun _ => True) (.slice (some ⟨go33, 0, none⟩) x8_4.length co33) y413) := ⟨by (with_reducible repeat (first | apply Kd.R_alloc | apply Kd.R_drewN | apply Kd.R_drew)); exact HQ66.out⟩
           have n3_ : Aside0 (Kd.R (Kd.int .i64) 3 (w65.setCell ⟨go33, (((rd_T37 l0_1 x53_4).f0) : Int).toNat, none⟩ (.bool true)) w.heap.size (fun k_ => some k_ ≠ (.slice (some ad408) t393.length co27 : Value).ownBlock ∧ some k_ ≠ (v398 : Value).ownBlock) (.slice (some ad409) (rd_L3 t393 x41_3).length c408_0) (rd_L3 t393 x41_3)) := ⟨by (with_reducible repeat (first | apply Kd.R_alloc | apply Kd.R_drewN | apply Kd.R_drew)); exact Kd.R_mono (Kd.R_far (p := ⟨go33, (((rd_T37 l0_1 x53_4).f0) : Int).toNat, none⟩) (Kd.R_types HL408_0.out GG33.out (by decide)) (fun _ hk => hk.2) (.bool true)) (fun _ hk => ⟨hk.1.2, hk.1.1⟩)⟩
           have n4_ : Aside0 (Kd.R (Kd.int .i64) 3 (w65.setCell ⟨go33, (((rd_T37 l0_1 x53_4).f0) : Int).toNat, none⟩ (.bool true)) w.heap.size (fun k_ => some k_ ≠ (.slice (some ad408) t393.length co27 : Value).ownBlock ∧ some k_ ≠ (v398 : Value).ownBlock) (.slice (some ad409) (rd_L3 t393 x41_3).length c408_0) (rd_L3 t393 x41_3)) := ⟨by (with_reducible repeat (first | apply Kd.R_alloc | apply Kd.R_drewN | apply Kd.R_drew)); exact Kd.R_mono (Kd.R_far (p := ⟨go33, (((rd_T37 l0_1 x53_4).f0) : Int).toNat, none⟩) (Kd.R_types HL410_0.out GG33.out (by decide)) (fun _ hk => hk.2) (.bool true)) (fun _ hk => ⟨hk.1.2, hk.1.1⟩)⟩
           have n5_ : Aside0 ((w65.setCell ⟨go33, (((rd_T37 l0_1 x53_4).f0) : Int).toNat, none⟩ (.bool true)).heap[gb389]? = some (.cells #[.int .i64 a0_0, .slice (some ad406) l0_1.length c0_1] 24 (0, 0))) := ⟨by (with_reducible repeat (first | refine blk_drewN ?_ _ | refine blk_drew ?_ | refine blk_alloc ?_ _)); refine blk_far ?_ (by have h_ := Kd.R_ne HO_8.out BK389.out (by decide); intro e_; exact h_ (by rw [e_]; rfl)) _; (with_reducible repeat (first | refine blk_drewN ?_ _ | refine blk_drew ?_ | refine blk_alloc ?_ _)); exact BK389.out⟩
           have n6_ : Aside0 ((w65.setCell ⟨go33, (((rd_T37 l0_1 x53_4).f0) : Int).toNat, none⟩ (.bool true)).heap[gb407]? = some (.cells #[.int .i64 ((rd_T37 l0_1 x53_4).f0), .int .i64 ((rd_T37 l0_1 x53_4).f1), .int .i64 ((rd_T37 l0_1 x53_4).f2), .int .i64 ((rd_T37 l0_1 x53_4).f3)] 37 (0, 0))) := ⟨by (with_reducible repeat (first | refine blk_drewN ?_ _ | refine blk_drew ?_ | refine blk_alloc ?_ _)); refine blk_far ?_ (by have h_ := Kd.R_ne HO_8.out BK407.out (by decide); intro e_; exact h_ (by rw [e_]; rfl)) _; (with_reducible repeat (first | refine blk_drewN ?_ _ | refine blk_drew ?_ | refine blk_alloc ?_ _)); exact BK407.out⟩
           have n7_ : Aside0 (Below w.heap.size w (w65.setCell ⟨go33, (((rd_T37 l0_1 x53_4).f0) : Int).toNat, none⟩ (.bool true))) := ⟨by repeat (first | (with_reducible first | exact HB.out | apply below_alloc | apply pw_below_drewN | apply below_drew1 | refine below_set ?_ GB33.out | refine below_set ?_ GE389.out | refine below_set ?_ GE407.out) | exact HB.out)⟩
           (try clear HO_3)
           (try clear HO_5)
           (try clear HO_8)
           (try clear HL408_0)
           (try clear HL410_0)
           (try clear BK389)
           (try clear BK407)
           (try clear HB)
           (try rw [show ∀ n_ : Nat, (w65.drewN n_).setCell ⟨go33, (((rd_T37 l0_1 x53_4).f0) : Int).toNat, none⟩ (.bool true) = (w65.setCell ⟨go33, (((rd_T37 l0_1 x53_4).f0) : Int).toNat, none⟩ (.bool true)).drewN n_ from fun _ => rfl])
           generalize (w65.setCell ⟨go33, (((rd_T37 l0_1 x53_4).f0) : Int).toNat, none⟩ (.bool true)) = w67 at n0_ n1_ n2_ n3_ n4_ n5_ n6_ n7_ ⊢
           have HO_3 := n0_
           have HO_5 := n1_
           have HO_8 := n2_
           have HL408_0 := n3_
           have HL410_0 := n4_
           have BK389 := n5_
           have BK407 := n6_
           have HB := n7_
           clear n0_ n1_ n2_ n3_ n4_ n5_ n6_ n7_
           have n0_ := Aside0.mk (Kd.S_drew HO_3.out)
           have n1_ := Aside0.mk (Kd.R_drew HO_5.out)
           have n2_ := Aside0.mk (Kd.R_drew HO_8.out)
           have n3_ := Aside0.mk (Kd.R_drew HL408_0.out)
           have n4_ := Aside0.mk (Kd.R_drew HL410_0.out)
           have n5_ := Aside0.mk (blk_drew BK389.out)
           have n6_ := Aside0.mk (blk_drew BK407.out)
           have n7_ := Aside0.mk (below_drew1 HB.out)
           clear HO_3
           clear HO_5
           clear HO_8
           clear HL408_0
           clear HL410_0
           clear BK389
           clear BK407
           clear HB
           have HO_3 := n0_
           have HO_5 := n1_
           have HO_8 := n2_
           have HL408_0 := n3_
           have HL410_0 := n4_
           have BK389 := n5_
           have BK407 := n6_
           have HB := n7_
           clear n0_ n1_ n2_ n3_ n4_ n5_ n6_ n7_
           have H := HS_.out
           clear HS_
           by_cases c58 : bq57 = true
           ·as_aux_lemma =>
             subst c58
             have H1 : (timesynclaw18_TopoDistances.l1 k4 t393 t397 x6_3 x41_3 (y413.set (((rd_T37 l0_1 x53_4).f2) : Int).toNat true) (t393.length : Int) x41_3 l0_1 (l0_1.length : Int) (wrap64 (x53_4 + 1)) a0_0 l0_1) = some r := by rw [if_pos rfl] at H; exact H
             clear H
             have H := H1
             clear H1
             obtain ⟨y415, hy415⟩ : ∃ y_ : List Bool, y_ = (y413.set (((rd_T37 l0_1 x53_4).f2) : Int).toNat true) := ⟨_, rfl⟩
             replace H : (timesynclaw18_TopoDistances.l1 k4 t393 t397 x6_3 x41_3 y415 (t393.length : Int) x41_3 l0_1 (l0_1.length : Int) (wrap64 (x53_4 + 1)) a0_0 l0_1) = some r := by first | (rw [hy415]; with_reducible exact H) | (have H2_ := (Option.bind_some _ _).symm.trans H; rw [hy415]; with_reducible exact H2_) | (have H2_ := (Option.bind_some _ _).symm.trans H; with_reducible exact H2_) | with_reducible exact H | (rw [hy415]; exact H) | exact H
             have Ny415 := Aside0.mk hy415
             clear hy415
             have H' := Aside0.mk H
             clear H
             have p414 : 0 ≤ (((rd_T37 l0_1 x53_4).f2) : Int) := of_decide_eq_true (by first | (with_reducible assumption) | assumption)
             have q414 : ((rd_T37 l0_1 x53_4).f2) < (y413.length : Int) := (by have h_ : (((rd_T37 l0_1 x53_4).f2) : Int) < ((x8_4.length : Int) : Int) := of_decide_eq_true (by first | (with_reducible assumption) | assumption); first | (have e_ := (Kd.R_reads' HO_8.out).1; omega) | simpa only [Ny413.out, List.length_set] using h_)
             have ql414 : ((((rd_T37 l0_1 x53_4).f2) : Int) < ((x8_4.length : Int) : Int)) = True := eq_true (of_decide_eq_true (by first | (with_reducible assumption) | assumption))
             obtain ⟨ad414, e414, hx414_0⟩ := Kd.at_bool (Kd.R_reads' HO_8.out).2.2 ((rd_T37 l0_1 x53_4).f2) p414 q414
             (try rw [← Nbq53.out] at hx414_0)
             (try rw [← Nbq57.out] at hx414_0)
             obtain rfl : (⟨go33, 0, none⟩ : Addr) = ad414 := (by injection e414)
             (first | simp only [add_plain] at hx414_0 | simp only [add_at] at hx414_0 | simp only [Addr.add, Nat.zero_add] at hx414_0 | skip)
             replace p414 := eq_true p414
             replace q414 := eq_true q414
             have p59 : 0 ≤ (((rd_T37 l0_1 x53_4).f2) : Int) := of_decide_eq_true (by first | (with_reducible assumption) | assumption)
             have q59 : (((rd_T37 l0_1 x53_4).f2) : Int) < ((x8_4.length : Int) : Int) := of_decide_eq_true (by first | (with_reducible assumption) | assumption)
             obtain ⟨hx59_0, hf59_0⟩ := Kd.R_celln false HO_8.out (((rd_T37 l0_1 x53_4).f2) : Int) p59 q59
             replace p59 := eq_true p59
             replace q59 := eq_true q59
             have HP69 := Kd.R_putn HO_8.out (((rd_T37 l0_1 x53_4).f2) : Int) true
             rw [← Ny415.out] at HP69
             have HQ69 := Aside0.mk HP69
             clear HP69
             refine start_ (n := 16) (S := fun w' => w'.cell? ⟨gb407, 0, none⟩ = some (.int .i64 ((rd_T37 l0_1 x53_4).f0)) ∧ w'.cell? ⟨gb407, 1, none⟩ = some (.int .i64 ((rd_T37 l0_1 x53_4).f1)) ∧ w'.cell? ⟨gb407, 2, none⟩ = some (.int .i64 ((rd_T37 l0_1 x53_4).f2)) ∧ w'.cell? ⟨gb407, 3, none⟩ = some (.int .i64 ((rd_T37 l0_1 x53_4).f3)) ∧ w'.cell? ⟨go33, (((rd_T37 l0_1 x53_4).f2)).toNat, none⟩ = some (.bool true)) (ds := [15]) (Go.Proofs.Ythkpnkmbmlbefaa.HG.bz [0, 16]) (by kernel_rfl) rfl rfl ⟨(blk_cell BK407.out 0).trans rfl, (blk_cell BK407.out 1).trans rfl, (blk_cell BK407.out 2).trans rfl, (blk_cell BK407.out 3).trans rfl, hx414_0⟩ (fun hHeld => ?_); refine with_tabW timesynclaw18_TopoDistances.tab20 timesynclaw18_TopoDistances.bits20 (fun HT_ HW_ => ?_)
             generalize w67.drew = w68 at HO_3 HO_5 HO_8 HL408_0 HL410_0 BK389 BK407 HB HQ66 HQ69 hf59_0 hx414_0 hx59_0 hHeld ⊢
             refine pure_ (i := 0) (N := some 105) (v := ?_) (a' := ?_) (Go.Proofs.Ythkpnkmbmlbefaa.HG.bz [1, 15]) rfl rfl (any_of HT_.out (by kernel_rfl)) (fun _ _ _ h => h) (Or.inl ⟨by rfl, ?_⟩) ?_ ?_
             rotate_left
             ·intro w'
              go_simp
              with_reducible rfl
             rotate_left
             ·simp only [Act.put, List.setIfInBounds_toArray, List.set_cons_zero, List.set_cons_succ, i64_w, i32_w]
              rfl
             refine pure_ (i := 1) (N := some 106) (v := ?_) (a' := ?_) (Go.Proofs.Ythkpnkmbmlbefaa.HG.bz [2, 14]) rfl rfl (any_of HT_.out (by kernel_rfl)) (fun _ _ _ h => h) (Or.inl ⟨by rfl, ?_⟩) ?_ ?_
             rotate_left
             ·intro w'
              go_simp
              with_reducible rfl
             rotate_left
             ·simp only [Act.put, List.setIfInBounds_toArray, List.set_cons_zero, List.set_cons_succ, i64_w, i32_w]
              rfl
             refine pure_ (i := 3) (N := some 108) (v := ?_) (a' := ?_) (Go.Proofs.Ythkpnkmbmlbefaa.HG.bz [2, 1, 1, 12]) rfl rfl (any_of HT_.out (by kernel_rfl)) (fun _ _ _ h => h) (Or.inl ⟨by rfl, ?_⟩) ?_ ?_
             rotate_left
             ·intro w'
              go_simp
              with_reducible rfl
             rotate_left
             ·simp only [Act.put, List.setIfInBounds_toArray, List.set_cons_zero, List.set_cons_succ, i64_w, i32_w]
              rfl
             refine pure_ (i := 4) (N := some 109) (v := ?_) (a' := ?_) (Go.Proofs.Ythkpnkmbmlbefaa.HG.bz [2, 1, 2, 11]) rfl rfl (any_of HT_.out (by kernel_rfl)) (fun _ _ _ h => h) (Or.inl ⟨by rfl, ?_⟩) ?_ ?_
             rotate_left
             ·intro w'
              go_simp
              with_reducible rfl
             rotate_left
             ·simp only [Act.put, List.setIfInBounds_toArray, List.set_cons_zero, List.set_cons_succ, i64_w, i32_w]
              rfl
             refine take_ (i := 2) (N := some 107) (v := ?_) (a' := ?_) (Go.Proofs.Ythkpnkmbmlbefaa.HG.bz [5, 11]) rfl rfl (take_ofW HT_.out HW_.out (by kernel_rfl)) (fun _ _ _ h => h) (Or.inl ⟨by rfl, ?_⟩) hHeld ?_ ?_
             rotate_left
             ·rintro w' ⟨s0, s1, s2, s3, s4⟩
              go_simp
              with_reducible rfl
             rotate_left
             ·simp only [Act.put, List.setIfInBounds_toArray, List.set_cons_zero, List.set_cons_succ, i64_w, i32_w]
              rfl
             refine take_ (i := 5) (N := some 110) (v := ?_) (a' := ?_) (Go.Proofs.Ythkpnkmbmlbefaa.HG.bz [6, 10]) rfl rfl (take_ofW HT_.out HW_.out (by kernel_rfl)) (fun _ _ _ h => h) (Or.inl ⟨by rfl, ?_⟩) hHeld ?_ ?_
             rotate_left
             ·rintro w' ⟨s0, s1, s2, s3, s4⟩
              go_simp
              with_reducible rfl
             rotate_left
             ·simp only [Act.put, List.setIfInBounds_toArray, List.set_cons_zero, List.set_cons_succ, i64_w, i32_w]
              rfl
             refine pure_ (i := 6) (N := some 111) (v := ?_) (a' := ?_) (Go.Proofs.Ythkpnkmbmlbefaa.HG.bz [7, 9]) rfl rfl (any_of HT_.out (by kernel_rfl)) (fun _ _ _ h => h) (Or.inl ⟨by rfl, ?_⟩) ?_ ?_
             rotate_left
             ·intro w'
              go_simp
              with_reducible rfl
             rotate_left
             ·simp only [Act.put, List.setIfInBounds_toArray, List.set_cons_zero, List.set_cons_succ, i64_w, i32_w]
              rfl
             refine take_ (i := 7) (N := some 112) (v := ?_) (a' := ?_) (Go.Proofs.Ythkpnkmbmlbefaa.HG.bz [8, 8]) rfl rfl (take_ofW HT_.out HW_.out (by kernel_rfl)) (fun _ _ _ h => h) (Or.inl ⟨by rfl, ?_⟩) hHeld ?_ ?_
             rotate_left
             ·rintro w' ⟨s0, s1, s2, s3, s4⟩
              go_simp
              with_reducible rfl
             rotate_left
             ·simp only [Act.put, List.setIfInBounds_toArray, List.set_cons_zero, List.set_cons_succ, i64_w, i32_w]
              rfl
             refine pure_ (i := 8) (N := some 113) (v := ?_) (a' := ?_) (Go.Proofs.Ythkpnkmbmlbefaa.HG.bz [9, 7]) rfl rfl (any_of HT_.out (by kernel_rfl)) (fun _ _ _ h => h) (Or.inl ⟨by rfl, ?_⟩) ?_ ?_
             rotate_left
             ·intro w'
              go_simp
              with_reducible rfl
             rotate_left
             ·simp only [Act.put, List.setIfInBounds_toArray, List.set_cons_zero, List.set_cons_succ, i64_w, i32_w]
              rfl
             refine pure_ (i := 9) (N := some 114) (v := undef) (a' := ?_) (Go.Proofs.Ythkpnkmbmlbefaa.HG.bz [10, 6]) rfl rfl (any_of HT_.out (by kernel_rfl)) (fun _ _ _ h => h) (Or.inr ⟨by rfl, rfl⟩) ?_ ?_
             rotate_left
             ·simp only [Act.put, List.setIfInBounds_toArray, List.set_cons_zero, List.set_cons_succ, i64_w, i32_w]
              rfl
             refine pure_ (i := 10) (N := some 115) (v := undef) (a' := ?_) (Go.Proofs.Ythkpnkmbmlbefaa.HG.bz [11, 5]) rfl rfl (any_of HT_.out (by kernel_rfl)) (fun _ _ _ h => h) (Or.inr ⟨by rfl, rfl⟩) ?_ ?_
             rotate_left
             ·simp only [Act.put, List.setIfInBounds_toArray, List.set_cons_zero, List.set_cons_succ, i64_w, i32_w]
              rfl
             refine pure_ (i := 11) (N := some 116) (v := undef) (a' := ?_) (Go.Proofs.Ythkpnkmbmlbefaa.HG.bz [12, 4]) rfl rfl (any_of HT_.out (by kernel_rfl)) (fun _ _ _ h => h) (Or.inr ⟨by rfl, rfl⟩) ?_ ?_
             rotate_left
             ·simp only [Act.put, List.setIfInBounds_toArray, List.set_cons_zero, List.set_cons_succ, i64_w, i32_w]
              rfl
             refine pure_ (i := 12) (N := some 117) (v := undef) (a' := ?_) (Go.Proofs.Ythkpnkmbmlbefaa.HG.bz [13, 3]) rfl rfl (any_of HT_.out (by kernel_rfl)) (fun _ _ _ h => h) (Or.inr ⟨by rfl, rfl⟩) ?_ ?_
             rotate_left
             ·simp only [Act.put, List.setIfInBounds_toArray, List.set_cons_zero, List.set_cons_succ, i64_w, i32_w]
              rfl
             refine pure_ (i := 13) (N := some 118) (v := ?_) (a' := ?_) (Go.Proofs.Ythkpnkmbmlbefaa.HG.bz [14, 2]) rfl rfl (any_of HT_.out (by kernel_rfl)) (fun _ _ _ h => h) (Or.inl ⟨by rfl, ?_⟩) ?_ ?_
             rotate_left
             ·intro w'
              go_simp
              with_reducible rfl
             rotate_left
             ·simp only [Act.put, List.setIfInBounds_toArray, List.set_cons_zero, List.set_cons_succ, i64_w, i32_w]
              rfl
             refine pure_ (i := 14) (N := some 119) (v := ?_) (a' := ?_) (Go.Proofs.Ythkpnkmbmlbefaa.HG.bz [15, 1]) rfl rfl (any_of HT_.out (by kernel_rfl)) (fun _ _ _ h => h) (Or.inl ⟨by rfl, ?_⟩) ?_ ?_
             rotate_left
             ·intro w'
              go_simp
              with_reducible rfl
             rotate_left
             ·simp only [Act.put, List.setIfInBounds_toArray, List.set_cons_zero, List.set_cons_succ, i64_w, i32_w]
              rfl
             refine last_ (i := 15) (N := none) (Go.Proofs.Ythkpnkmbmlbefaa.HG.bz [16]) rfl rfl (one_of HT_.out (by kernel_rfl)) (by decide) (fun K hK => ?_)
             refine skip_ (w1 := ?_) (by rfl) rfl ?_ ?_
             rotate_left
             ·go_simp
              rfl
             refine hK.out _ _ ?_
             clear hK K
             refine done_ (done_of HT_.out (by kernel_rfl)) ?_
             try go_wp2
             (try simp only [← hl8_4])
             obtain ⟨cl33_, GG33_⟩ := Kd.R_typed HO_8.out go33 rfl
             have GG33 := Aside0.mk GG33_
             clear GG33_
             go_roundg k4
             case measure => have := HJ1.out; have := HJ17.out; have := HK3.out; have := HK4.out; omega
             case rel => exact ⟨(y415), (wrap64 (x53_4 + 1)), (by first | rfl | (simp; done) | (simp [*]; done)), H', ⟨by have := HJ1.out; have := HJ17.out; have := HK3.out; have := HK4.out; omega⟩, ⟨by (try simp only [hl8_4]); (with_reducible repeat (first | apply Kd.S_alloc | apply Kd.S_drewN | apply Kd.S_drew)); exact Kd.S_mono (Kd.S_far (p := ⟨go33, (((rd_T37 l0_1 x53_4).f2) : Int).toNat, none⟩) (Kd.S_types HO_3.out GG33.out (by decide)) (fun _ hk => hk.2) (.bool true)) (fun _ hk => hk.1)⟩, ⟨by (try simp only [hl8_4]); (with_reducible repeat (first | apply Kd.R_alloc | apply Kd.R_drewN | apply Kd.R_drew)); exact Kd.R_mono (Kd.R_far (p := ⟨go33, (((rd_T37 l0_1 x53_4).f2) : Int).toNat, none⟩) (Kd.R_types HO_5.out GG33.out (by decide)) (fun _ hk => hk.2) (.bool true)) (fun _ hk => trivial)⟩, ⟨by (try simp only [hl8_4]); (with_reducible repeat (first | apply Kd.R_alloc | apply Kd.R_drewN | apply Kd.R_drew)); exact HQ69.out⟩, ⟨by (try simp only [hl8_4]); (with_reducible repeat (first | refine blk_drewN ?_ _ | refine blk_drew ?_ | refine blk_alloc ?_ _)); refine blk_far ?_ (by have h_ := Kd.R_ne HO_8.out BK389.out (by decide); intro e_; exact h_ (by rw [e_]; rfl)) _; (with_reducible repeat (first | refine blk_drewN ?_ _ | refine blk_drew ?_ | refine blk_alloc ?_ _)); exact BK389.out⟩, ⟨by repeat (first | (with_reducible first | exact HB.out | apply below_alloc | apply pw_below_drewN | apply below_drew1 | refine below_set ?_ GB33.out | refine below_set ?_ GE389.out | refine below_set ?_ GE407.out) | exact HB.out)⟩⟩
           as_aux_lemma =>
            replace c58 := Bool.eq_false_iff.mpr c58
            subst c58
            have H1 : (timesynclaw18_TopoDistances.l1 k4 t393 t397 x6_3 x41_3 (y413.set (((rd_T37 l0_1 x53_4).f2) : Int).toNat ((rd (rd_L3 t393 x41_3) ((rd_T37 l0_1 x53_4).f0)) == (wrap64 ((rd (rd_L3 t393 x41_3) ((rd_T37 l0_1 x53_4).f2)) - 1)))) (t393.length : Int) x41_3 l0_1 (l0_1.length : Int) (wrap64 (x53_4 + 1)) a0_0 l0_1) = some r := by rw [if_neg (show ¬ (false = true) by decide)] at H; exact H
            clear H
            have H := H1
            clear H1
            obtain ⟨y416, hy416⟩ : ∃ y_ : List Bool, y_ = (y413.set (((rd_T37 l0_1 x53_4).f2) : Int).toNat ((rd (rd_L3 t393 x41_3) ((rd_T37 l0_1 x53_4).f0)) == (wrap64 ((rd (rd_L3 t393 x41_3) ((rd_T37 l0_1 x53_4).f2)) - 1)))) := ⟨_, rfl⟩
            replace H : (timesynclaw18_TopoDistances.l1 k4 t393 t397 x6_3 x41_3 y416 (t393.length : Int) x41_3 l0_1 (l0_1.length : Int) (wrap64 (x53_4 + 1)) a0_0 l0_1) = some r := by first | (rw [hy416]; with_reducible exact H) | (have H2_ := (Option.bind_some _ _).symm.trans H; rw [hy416]; with_reducible exact H2_) | (have H2_ := (Option.bind_some _ _).symm.trans H; with_reducible exact H2_) | with_reducible exact H | (rw [hy416]; exact H) | exact H
            have Ny416 := Aside0.mk hy416
            clear hy416
            have H' := Aside0.mk H
            clear H
            have p414 : 0 ≤ (((rd_T37 l0_1 x53_4).f2) : Int) := of_decide_eq_true (by first | (with_reducible assumption) | assumption)
            have q414 : ((rd_T37 l0_1 x53_4).f2) < (y413.length : Int) := (by have h_ : (((rd_T37 l0_1 x53_4).f2) : Int) < ((x8_4.length : Int) : Int) := of_decide_eq_true (by first | (with_reducible assumption) | assumption); first | (have e_ := (Kd.R_reads' HO_8.out).1; omega) | simpa only [Ny413.out, List.length_set] using h_)
            have ql414 : ((((rd_T37 l0_1 x53_4).f2) : Int) < ((x8_4.length : Int) : Int)) = True := eq_true (of_decide_eq_true (by first | (with_reducible assumption) | assumption))
            obtain ⟨ad414, e414, hx414_0⟩ := Kd.at_bool (Kd.R_reads' HO_8.out).2.2 ((rd_T37 l0_1 x53_4).f2) p414 q414
            (try rw [← Nbq53.out] at hx414_0)
            (try rw [← Nbq57.out] at hx414_0)
            obtain rfl : (⟨go33, 0, none⟩ : Addr) = ad414 := (by injection e414)
            (first | simp only [add_plain] at hx414_0 | simp only [add_at] at hx414_0 | simp only [Addr.add, Nat.zero_add] at hx414_0 | skip)
            replace p414 := eq_true p414
            replace q414 := eq_true q414
            have p70 : 0 ≤ (((rd_T37 l0_1 x53_4).f2) : Int) := of_decide_eq_true (by first | (with_reducible assumption) | assumption)
            have q70 : (((rd_T37 l0_1 x53_4).f2) : Int) < ((x8_4.length : Int) : Int) := of_decide_eq_true (by first | (with_reducible assumption) | assumption)
            obtain ⟨hx70_0, hf70_0⟩ := Kd.R_celln false HO_8.out (((rd_T37 l0_1 x53_4).f2) : Int) p70 q70
            replace p70 := eq_true p70
            replace q70 := eq_true q70
            have HP80 := Kd.R_putn HO_8.out (((rd_T37 l0_1 x53_4).f2) : Int) ((rd (rd_L3 t393 x41_3) ((rd_T37 l0_1 x53_4).f0)) == (wrap64 ((rd (rd_L3 t393 x41_3) ((rd_T37 l0_1 x53_4).f2)) - 1)))
            rw [← Ny416.out] at HP80
            have HQ80 := Aside0.mk HP80
            clear HP80
            refine start_ (n := 16) (S := fun w' => w'.cell? ⟨gb407, 0, none⟩ = some (.int .i64 ((rd_T37 l0_1 x53_4).f0)) ∧ w'.cell? ⟨gb407, 1, none⟩ = some (.int .i64 ((rd_T37 l0_1 x53_4).f1)) ∧ w'.cell? ⟨gb407, 2, none⟩ = some (.int .i64 ((rd_T37 l0_1 x53_4).f2)) ∧ w'.cell? ⟨gb407, 3, none⟩ = some (.int .i64 ((rd_T37 l0_1 x53_4).f3)) ∧ w'.cell? ⟨go33, (((rd_T37 l0_1 x53_4).f2)).toNat, none⟩ = some (.bool false)) (ds := [15]) (Go.Proofs.Ythkpnkmbmlbefaa.HG.bz [0, 16]) (by kernel_rfl) rfl rfl ⟨(blk_cell BK407.out 0).trans rfl, (blk_cell BK407.out 1).trans rfl, (blk_cell BK407.out 2).trans rfl, (blk_cell BK407.out 3).trans rfl, hx414_0⟩ (fun hHeld => ?_); refine with_tabW timesynclaw18_TopoDistances.tab20 timesynclaw18_TopoDistances.bits20 (fun HT_ HW_ => ?_)
            generalize w67.drew = w79 at HO_3 HO_5 HO_8 HL408_0 HL410_0 BK389 BK407 HB HQ66 HQ80 hf70_0 hx414_0 hx70_0 hHeld ⊢
            refine pure_ (i := 0) (N := some 105) (v := ?_) (a' := ?_) (Go.Proofs.Ythkpnkmbmlbefaa.HG.bz [1, 15]) rfl rfl (any_of HT_.out (by kernel_rfl)) (fun _ _ _ h => h) (Or.inl ⟨by rfl, ?_⟩) ?_ ?_
            rotate_left
            ·intro w'
             go_simp
             with_reducible rfl
            rotate_left
            ·simp only [Act.put, List.setIfInBounds_toArray, List.set_cons_zero, List.set_cons_succ, i64_w, i32_w]
             rfl
            refine pure_ (i := 1) (N := some 106) (v := ?_) (a' := ?_) (Go.Proofs.Ythkpnkmbmlbefaa.HG.bz [2, 14]) rfl rfl (any_of HT_.out (by kernel_rfl)) (fun _ _ _ h => h) (Or.inl ⟨by rfl, ?_⟩) ?_ ?_
            rotate_left
            ·intro w'
             go_simp
             with_reducible rfl
            rotate_left
            ·simp only [Act.put, List.setIfInBounds_toArray, List.set_cons_zero, List.set_cons_succ, i64_w, i32_w]
             rfl
            refine pure_ (i := 3) (N := some 108) (v := ?_) (a' := ?_) (Go.Proofs.Ythkpnkmbmlbefaa.HG.bz [2, 1, 1, 12]) rfl rfl (any_of HT_.out (by kernel_rfl)) (fun _ _ _ h => h) (Or.inl ⟨by rfl, ?_⟩) ?_ ?_
            rotate_left
            ·intro w'
             go_simp
             with_reducible rfl
            rotate_left
            ·simp only [Act.put, List.setIfInBounds_toArray, List.set_cons_zero, List.set_cons_succ, i64_w, i32_w]
             rfl
            refine pure_ (i := 4) (N := some 109) (v := ?_) (a' := ?_) (Go.Proofs.Ythkpnkmbmlbefaa.HG.bz [2, 1, 2, 11]) rfl rfl (any_of HT_.out (by kernel_rfl)) (fun _ _ _ h => h) (Or.inl ⟨by rfl, ?_⟩) ?_ ?_
            rotate_left
            ·intro w'
             go_simp
             with_reducible rfl
            rotate_left
            ·simp only [Act.put, List.setIfInBounds_toArray, List.set_cons_zero, List.set_cons_succ, i64_w, i32_w]
             rfl
            refine take_ (i := 2) (N := some 107) (v := ?_) (a' := ?_) (Go.Proofs.Ythkpnkmbmlbefaa.HG.bz [5, 11]) rfl rfl (take_ofW HT_.out HW_.out (by kernel_rfl)) (fun _ _ _ h => h) (Or.inl ⟨by rfl, ?_⟩) hHeld ?_ ?_
            rotate_left
            ·rintro w' ⟨s0, s1, s2, s3, s4⟩
             go_simp
             with_reducible rfl
            rotate_left
            ·simp only [Act.put, List.setIfInBounds_toArray, List.set_cons_zero, List.set_cons_succ, i64_w, i32_w]
             rfl
            refine take_ (i := 5) (N := some 110) (v := ?_) (a' := ?_) (Go.Proofs.Ythkpnkmbmlbefaa.HG.bz [6, 10]) rfl rfl (take_ofW HT_.out HW_.out (by kernel_rfl)) (fun _ _ _ h => h) (Or.inl ⟨by rfl, ?_⟩) hHeld ?_ ?_
            rotate_left
            ·rintro w' ⟨s0, s1, s2, s3, s4⟩
             go_simp
             with_reducible rfl
            rotate_left
            ·simp only [Act.put, List.setIfInBounds_toArray, List.set_cons_zero, List.set_cons_succ, i64_w, i32_w]
             rfl
            refine pure_ (i := 6) (N := some 111) (v := ?_) (a' := ?_) (Go.Proofs.Ythkpnkmbmlbefaa.HG.bz [7, 9]) rfl rfl (any_of HT_.out (by kernel_rfl)) (fun _ _ _ h => h) (Or.inl ⟨by rfl, ?_⟩) ?_ ?_
            rotate_left
            ·intro w'
             go_simp
             with_reducible rfl
            rotate_left
            ·simp only [Act.put, List.setIfInBounds_toArray, List.set_cons_zero, List.set_cons_succ, i64_w, i32_w]
             rfl
            refine take_ (i := 7) (N := some 112) (v := ?_) (a' := ?_) (Go.Proofs.Ythkpnkmbmlbefaa.HG.bz [8, 8]) rfl rfl (take_ofW HT_.out HW_.out (by kernel_rfl)) (fun _ _ _ h => h) (Or.inl ⟨by rfl, ?_⟩) hHeld ?_ ?_
            rotate_left
            ·rintro w' ⟨s0, s1, s2, s3, s4⟩
             go_simp
             with_reducible rfl
            rotate_left
            ·simp only [Act.put, List.setIfInBounds_toArray, List.set_cons_zero, List.set_cons_succ, i64_w, i32_w]
             rfl
            refine pure_ (i := 8) (N := some 113) (v := ?_) (a' := ?_) (Go.Proofs.Ythkpnkmbmlbefaa.HG.bz [9, 7]) rfl rfl (any_of HT_.out (by kernel_rfl)) (fun _ _ _ h => h) (Or.inl ⟨by rfl, ?_⟩) ?_ ?_
            rotate_left
            ·intro w'
             go_simp
             with_reducible rfl
            rotate_left
            ·simp only [Act.put, List.setIfInBounds_toArray, List.set_cons_zero, List.set_cons_succ, i64_w, i32_w]
             rfl
            refine pure_ (i := 9) (N := some 114) (v := ?_) (a' := ?_) (Go.Proofs.Ythkpnkmbmlbefaa.HG.bz [10, 6]) rfl rfl (any_of HT_.out (by kernel_rfl)) (fun _ _ _ h => h) (Or.inl ⟨by rfl, ?_⟩) ?_ ?_
            rotate_left
            ·intro w'
             go_simp
             with_reducible rfl
            rotate_left
            ·simp only [Act.put, List.setIfInBounds_toArray, List.set_cons_zero, List.set_cons_succ, i64_w, i32_w]
             rfl
            refine pure_ (i := 10) (N := some 115) (v := ?_) (a' := ?_) (Go.Proofs.Ythkpnkmbmlbefaa.HG.bz [11, 5]) rfl rfl (any_of HT_.out (by kernel_rfl)) (fun _ _ _ h => h) (Or.inl ⟨by rfl, ?_⟩) ?_ ?_
            rotate_left
            ·intro w'
             go_simp
             with_reducible rfl
            rotate_left
            ·simp only [Act.put, List.setIfInBounds_toArray, List.set_cons_zero, List.set_cons_succ, i64_w, i32_w]
             rfl
            refine pure_ (i := 11) (N := some 116) (v := ?_) (a' := ?_) (Go.Proofs.Ythkpnkmbmlbefaa.HG.bz [12, 4]) rfl rfl (any_of HT_.out (by kernel_rfl)) (fun _ _ _ h => h) (Or.inl ⟨by rfl, ?_⟩) ?_ ?_
            rotate_left
            ·intro w'
             go_simp
             with_reducible rfl
            rotate_left
            ·simp only [Act.put, List.setIfInBounds_toArray, List.set_cons_zero, List.set_cons_succ, i64_w, i32_w]
             rfl
            refine pure_ (i := 12) (N := some 117) (v := ?_) (a' := ?_) (Go.Proofs.Ythkpnkmbmlbefaa.HG.bz [13, 3]) rfl rfl (any_of HT_.out (by kernel_rfl)) (fun _ _ _ h => h) (Or.inl ⟨by rfl, ?_⟩) ?_ ?_
            rotate_left
            ·intro w'
             go_simp
             with_reducible rfl
            rotate_left
            ·simp only [Act.put, List.setIfInBounds_toArray, List.set_cons_zero, List.set_cons_succ, i64_w, i32_w]
             rfl
            refine pure_ (i := 13) (N := some 118) (v := ?_) (a' := ?_) (Go.Proofs.Ythkpnkmbmlbefaa.HG.bz [14, 2]) rfl rfl (any_of HT_.out (by kernel_rfl)) (fun _ _ _ h => h) (Or.inl ⟨by rfl, ?_⟩) ?_ ?_
            rotate_left
            ·intro w'
             go_simp
             with_reducible rfl
            rotate_left
            ·simp only [Act.put, List.setIfInBounds_toArray, List.set_cons_zero, List.set_cons_succ, i64_w, i32_w]
             rfl
            refine pure_ (i := 14) (N := some 119) (v := ?_) (a' := ?_) (Go.Proofs.Ythkpnkmbmlbefaa.HG.bz [15, 1]) rfl rfl (any_of HT_.out (by kernel_rfl)) (fun _ _ _ h => h) (Or.inl ⟨by rfl, ?_⟩) ?_ ?_
            rotate_left
            ·intro w'
             go_simp
             with_reducible rfl
            rotate_left
            ·simp only [Act.put, List.setIfInBounds_toArray, List.set_cons_zero, List.set_cons_succ, i64_w, i32_w]
             rfl
            refine last_ (i := 15) (N := none) (Go.Proofs.Ythkpnkmbmlbefaa.HG.bz [16]) rfl rfl (one_of HT_.out (by kernel_rfl)) (by decide) (fun K hK => ?_)
            refine skip_ (w1 := ?_) (by rfl) rfl ?_ ?_
            rotate_left
            ·go_simp
             rfl
            refine hK.out _ _ ?_
            clear hK K
            refine done_ (done_of HT_.out (by kernel_rfl)) ?_
            try go_wp2
            (try simp only [← hl8_4])
            obtain ⟨cl33_, GG33_⟩ := Kd.R_typed HO_8.out go33 rfl
            have GG33 := Aside0.mk GG33_
            clear GG33_
            go_roundg k4
            case measure => have := HJ1.out; have := HJ17.out; have := HK3.out; have := HK4.out; omega
            case rel => exact ⟨(y416), (wrap64 (x53_4 + 1)), (by first | rfl | (simp; done) | (simp [*]; done)), H', ⟨by have := HJ1.out; have := HJ17.out; have := HK3.out; have := HK4.out; omega⟩, ⟨by (try simp only [hl8_4]); (with_reducible repeat (first | apply Kd.S_alloc | apply Kd.S_drewN | apply Kd.S_drew)); exact Kd.S_mono (Kd.S_far (p := ⟨go33, (((rd_T37 l0_1 x53_4).f2) : Int).toNat, none⟩) (Kd.S_types HO_3.out GG33.out (by decide)) (fun _ hk => hk.2) (.bool ((rd (rd_L3 t393 x41_3) ((rd_T37 l0_1 x53_4).f0)) == (wrap64 ((rd (rd_L3 t393 x41_3) ((rd_T37 l0_1 x53_4).f2)) - 1))))) (fun _ hk => hk.1)⟩, ⟨by (try simp only [hl8_4]); (with_reducible repeat (first | apply Kd.R_alloc | apply Kd.R_drewN | apply Kd.R_drew)); exact Kd.R_mono (Kd.R_far (p := ⟨go33, (((rd_T37 l0_1 x53_4).f2) : Int).toNat, none⟩) (Kd.R_types HO_5.out GG33.out (by decide)) (fun _ hk => hk.2) (.bool ((rd (rd_L3 t393 x41_3) ((rd_T37 l0_1 x53_4).f0)) == (wrap64 ((rd (rd_L3 t393 x41_3) ((rd_T37 l0_1 x53_4).f2)) - 1))))) (fun _ hk => trivial)⟩, ⟨by (try simp only [hl8_4]); (with_reducible repeat (first | apply Kd.R_alloc | apply Kd.R_drewN | apply Kd.R_drew)); exact HQ80.out⟩, ⟨by (try simp only [hl8_4]); (with_reducible repeat (first | refine blk_drewN ?_ _ | refine blk_drew ?_ | refine blk_alloc ?_ _)); refine blk_far ?_ (by have h_ := Kd.R_ne HO_8.out BK389.out (by decide); intro e_; exact h_ (by rw [e_]; rfl)) _; (with_reducible repeat (first | refine blk_drewN ?_ _ | refine blk_drew ?_ | refine blk_alloc ?_ _)); exact BK389.out⟩, ⟨by repeat (first | (with_reducible first | exact HB.out | apply below_alloc | apply pw_below_drewN | apply below_drew1 | refine below_set ?_ GB33.out | refine below_set ?_ GE389.out | refine below_set ?_ GE407.out) | exact HB.out)⟩⟩
         as_aux_lemma =>
          replace c54 := Bool.eq_false_iff.mpr c54
          subst c54
          have H1 : ((some (x8_4.set (((rd_T37 l0_1 x53_4).f0) : Int).toNat ((rd (rd_L3 t393 x41_3) ((rd_T37 l0_1 x53_4).f2)) == (wrap64 ((rd (rd_L3 t393 x41_3) ((rd_T37 l0_1 x53_4).f0)) - 1))) : List Bool)).bind fun y417 => (if ((rd_T37 l0_1 x53_4).f2) < (x8_4.length : Int) then (if rdOf false y417 ((rd_T37 l0_1 x53_4).f2) = true then (timesynclaw18_TopoDistances.l1 k4 t393 t397 x6_3 x41_3 (y417.set (((rd_T37 l0_1 x53_4).f2) : Int).toNat true) (t393.length : Int) x41_3 l0_1 (l0_1.length : Int) (wrap64 (x53_4 + 1)) a0_0 l0_1) else (timesynclaw18_TopoDistances.l1 k4 t393 t397 x6_3 x41_3 (y417.set (((rd_T37 l0_1 x53_4).f2) : Int).toNat ((rd (rd_L3 t393 x41_3) ((rd_T37 l0_1 x53_4).f0)) == (wrap64 ((rd (rd_L3 t393 x41_3) ((rd_T37 l0_1 x53_4).f2)) - 1)))) (t393.length : Int) x41_3 l0_1 (l0_1.length : Int) (wrap64 (x53_4 + 1)) a0_0 l0_1)) else (none))) = some r := by rw [if_neg (show ¬ (false = true) by decide)] at H; exact H
          clear H
          have H := H1
          clear H1
          obtain ⟨y417, hy417⟩ : ∃ y_ : List Bool, y_ = (x8_4.set (((rd_T37 l0_1 x53_4).f0) : Int).toNat ((rd (rd_L3 t393 x41_3) ((rd_T37 l0_1 x53_4).f2)) == (wrap64 ((rd (rd_L3 t393 x41_3) ((rd_T37 l0_1 x53_4).f0)) - 1)))) := ⟨_, rfl⟩
          replace H : (if ((rd_T37 l0_1 x53_4).f2) < (x8_4.length : Int) then (if rdOf false y417 ((rd_T37 l0_1 x53_4).f2) = true then (timesynclaw18_TopoDistances.l1 k4 t393 t397 x6_3 x41_3 (y417.set (((rd_T37 l0_1 x53_4).f2) : Int).toNat true) (t393.length : Int) x41_3 l0_1 (l0_1.length : Int) (wrap64 (x53_4 + 1)) a0_0 l0_1) else (timesynclaw18_TopoDistances.l1 k4 t393 t397 x6_3 x41_3 (y417.set (((rd_T37 l0_1 x53_4).f2) : Int).toNat ((rd (rd_L3 t393 x41_3) ((rd_T37 l0_1 x53_4).f0)) == (wrap64 ((rd (rd_L3 t393 x41_3) ((rd_T37 l0_1 x53_4).f2)) - 1)))) (t393.length : Int) x41_3 l0_1 (l0_1.length : Int) (wrap64 (x53_4 + 1)) a0_0 l0_1)) else (none)) = some r := by first | (rw [hy417]; with_reducible exact H) | (have H2_ := (Option.bind_some _ _).symm.trans H; rw [hy417]; with_reducible exact H2_) | (have H2_ := (Option.bind_some _ _).symm.trans H; with_reducible exact H2_) | with_reducible exact H | (rw [hy417]; exact H) | exact H
          have Ny417 := Aside0.mk hy417
          clear hy417
          by_cases c82 : ((rd_T37 l0_1 x53_4).f2) < (x8_4.length : Int)
          rotate_left
          ·rw [if_neg c82] at H
           exact absurd H (by simp)
          rw [if_pos c82] at H
          have c82b0 : decide (((rd_T37 l0_1 x53_4).f2) < (x8_4.length : Int)) = true := decide_eq_true c82
          clear c82
          (try (have c82r0 := c82b0; simp only [hl8_4] at c82r0))
          obtain ⟨bq83, hbq83⟩ : ∃ b_ : Bool, b_ = (rdOf false y417 ((rd_T37 l0_1 x53_4).f2)) := ⟨_, rfl⟩
          replace H : (if bq83 = true then (timesynclaw18_TopoDistances.l1 k4 t393 t397 x6_3 x41_3 (y417.set (((rd_T37 l0_1 x53_4).f2) : Int).toNat true) (t393.length : Int) x41_3 l0_1 (l0_1.length : Int) (wrap64 (x53_4 + 1)) a0_0 l0_1) else (timesynclaw18_TopoDistances.l1 k4 t393 t397 x6_3 x41_3 (y417.set (((rd_T37 l0_1 x53_4).f2) : Int).toNat ((rd (rd_L3 t393 x41_3) ((rd_T37 l0_1 x53_4).f0)) == (wrap64 ((rd (rd_L3 t393 x41_3) ((rd_T37 l0_1 x53_4).f2)) - 1)))) (t393.length : Int) x41_3 l0_1 (l0_1.length : Int) (wrap64 (x53_4 + 1)) a0_0 l0_1)) = some r := by rw [← hbq83] at H; exact H
          have Nbq83 := Aside0.mk hbq83
          clear hbq83
          have HS_ := Aside0.mk H
          clear H
          have p412 : 0 ≤ (((rd_T37 l0_1 x53_4).f0) : Int) := of_decide_eq_true (by first | (with_reducible assumption) | assumption)
          have q412 : ((rd_T37 l0_1 x53_4).f0) < (x8_4.length : Int) := of_decide_eq_true (by first | (with_reducible assumption) | assumption)
          obtain ⟨ad412, e412, hx412_0⟩ := Kd.at_bool (Kd.R_reads' HO_8.out).2.2 ((rd_T37 l0_1 x53_4).f0) p412 q412
          (try rw [← Nbq53.out] at hx412_0)
          (try rw [← Nbq83.out] at hx412_0)
          obtain rfl : (⟨go33, 0, none⟩ : Addr) = ad412 := (by injection e412)
          (first | simp only [add_plain] at hx412_0 | simp only [add_at] at hx412_0 | simp only [Addr.add, Nat.zero_add] at hx412_0 | skip)
          replace p412 := eq_true p412
          replace q412 := eq_true q412
          have p81 : 0 ≤ (((rd_T37 l0_1 x53_4).f0) : Int) := of_decide_eq_true (by first | (with_reducible assumption) | assumption)
          have q81 : (((rd_T37 l0_1 x53_4).f0) : Int) < ((x8_4.length : Int) : Int) := of_decide_eq_true (by first | (with_reducible assumption) | assumption)
          obtain ⟨hx81_0, hf81_0⟩ := Kd.R_celln false HO_8.out (((rd_T37 l0_1 x53_4).f0) : Int) p81 q81
          replace p81 := eq_true p81
          replace q81 := eq_true q81
          have HP92 := Kd.R_putn HO_8.out (((rd_T37 l0_1 x53_4).f0) : Int) ((rd (rd_L3 t393 x41_3) ((rd_T37 l0_1 x53_4).f2)) == (wrap64 ((rd (rd_L3 t393 x41_3) ((rd_T37 l0_1 x53_4).f0)) - 1)))
          rw [← Ny417.out] at HP92
          have HQ92 := Aside0.mk HP92
          clear HP92
          refine start_ (n := 16) (S := fun w' => w'.cell? ⟨gb407, 0, none⟩ = some (.int .i64 ((rd_T37 l0_1 x53_4).f0)) ∧ w'.cell? ⟨gb407, 1, none⟩ = some (.int .i64 ((rd_T37 l0_1 x53_4).f1)) ∧ w'.cell? ⟨gb407, 2, none⟩ = some (.int .i64 ((rd_T37 l0_1 x53_4).f2)) ∧ w'.cell? ⟨gb407, 3, none⟩ = some (.int .i64 ((rd_T37 l0_1 x53_4).f3)) ∧ w'.cell? ⟨go33, (((rd_T37 l0_1 x53_4).f0)).toNat, none⟩ = some (.bool false)) (ds := [15]) (Go.Proofs.Ythkpnkmbmlbefaa.HG.bz [0, 16]) (by kernel_rfl) rfl rfl ⟨(blk_cell BK407.out 0).trans rfl, (blk_cell BK407.out 1).trans rfl, (blk_cell BK407.out 2).trans rfl, (blk_cell BK407.out 3).trans rfl, hx412_0⟩ (fun hHeld => ?_); refine with_tabW timesynclaw18_TopoDistances.tab19 timesynclaw18_TopoDistances.bits19 (fun HT_ HW_ => ?_)
          generalize w64.drew = w91 at HO_3 HO_5 HO_8 HL408_0 HL410_0 BK389 BK407 HR408_0 HR410_0 HB HQ92 hf81_0 hx412_0 hx81_0 hHeld ⊢
          refine pure_ (i := 0) (N := some 90) (v := ?_) (a' := ?_) (Go.Proofs.Ythkpnkmbmlbefaa.HG.bz [1, 15]) rfl rfl (any_of HT_.out (by kernel_rfl)) (fun _ _ _ h => h) (Or.inl ⟨by rfl, ?_⟩) ?_ ?_
          rotate_left
          ·intro w'
           go_simp
           with_reducible rfl
          rotate_left
          ·simp only [Act.put, List.setIfInBounds_toArray, List.set_cons_zero, List.set_cons_succ, i64_w, i32_w]
           rfl
          refine pure_ (i := 1) (N := some 91) (v := ?_) (a' := ?_) (Go.Proofs.Ythkpnkmbmlbefaa.HG.bz [2, 14]) rfl rfl (any_of HT_.out (by kernel_rfl)) (fun _ _ _ h => h) (Or.inl ⟨by rfl, ?_⟩) ?_ ?_
          rotate_left
          ·intro w'
           go_simp
           with_reducible rfl
          rotate_left
          ·simp only [Act.put, List.setIfInBounds_toArray, List.set_cons_zero, List.set_cons_succ, i64_w, i32_w]
           rfl
          refine pure_ (i := 3) (N := some 93) (v := ?_) (a' := ?_) (Go.Proofs.Ythkpnkmbmlbefaa.HG.bz [2, 1, 1, 12]) rfl rfl (any_of HT_.out (by kernel_rfl)) (fun _ _ _ h => h) (Or.inl ⟨by rfl, ?_⟩) ?_ ?_
          rotate_left
          ·intro w'
           go_simp
           with_reducible rfl
          rotate_left
          ·simp only [Act.put, List.setIfInBounds_toArray, List.set_cons_zero, List.set_cons_succ, i64_w, i32_w]
           rfl
          refine pure_ (i := 4) (N := some 94) (v := ?_) (a' := ?_) (Go.Proofs.Ythkpnkmbmlbefaa.HG.bz [2, 1, 2, 11]) rfl rfl (any_of HT_.out (by kernel_rfl)) (fun _ _ _ h => h) (Or.inl ⟨by rfl, ?_⟩) ?_ ?_
          rotate_left
          ·intro w'
           go_simp
           with_reducible rfl
          rotate_left
          ·simp only [Act.put, List.setIfInBounds_toArray, List.set_cons_zero, List.set_cons_succ, i64_w, i32_w]
           rfl
          refine take_ (i := 2) (N := some 92) (v := ?_) (a' := ?_) (Go.Proofs.Ythkpnkmbmlbefaa.HG.bz [5, 11]) rfl rfl (take_ofW HT_.out HW_.out (by kernel_rfl)) (fun _ _ _ h => h) (Or.inl ⟨by rfl, ?_⟩) hHeld ?_ ?_
          rotate_left
          ·rintro w' ⟨s0, s1, s2, s3, s4⟩
           go_simp
           with_reducible rfl
          rotate_left
          ·simp only [Act.put, List.setIfInBounds_toArray, List.set_cons_zero, List.set_cons_succ, i64_w, i32_w]
           rfl
          refine take_ (i := 5) (N := some 95) (v := ?_) (a' := ?_) (Go.Proofs.Ythkpnkmbmlbefaa.HG.bz [6, 10]) rfl rfl (take_ofW HT_.out HW_.out (by kernel_rfl)) (fun _ _ _ h => h) (Or.inl ⟨by rfl, ?_⟩) hHeld ?_ ?_
          rotate_left
          ·rintro w' ⟨s0, s1, s2, s3, s4⟩
           go_simp
           with_reducible rfl
          rotate_left
          ·simp only [Act.put, List.setIfInBounds_toArray, List.set_cons_zero, List.set_cons_succ, i64_w, i32_w]
           rfl
          refine pure_ (i := 6) (N := some 96) (v := ?_) (a' := ?_) (Go.Proofs.Ythkpnkmbmlbefaa.HG.bz [7, 9]) rfl rfl (any_of HT_.out (by kernel_rfl)) (fun _ _ _ h => h) (Or.inl ⟨by rfl, ?_⟩) ?_ ?_
          rotate_left
          ·intro w'
           go_simp
           with_reducible rfl
          rotate_left
          ·simp only [Act.put, List.setIfInBounds_toArray, List.set_cons_zero, List.set_cons_succ, i64_w, i32_w]
           rfl
          refine take_ (i := 7) (N := some 97) (v := ?_) (a' := ?_) (Go.Proofs.Ythkpnkmbmlbefaa.HG.bz [8, 8]) rfl rfl (take_ofW HT_.out HW_.out (by kernel_rfl)) (fun _ _ _ h => h) (Or.inl ⟨by rfl, ?_⟩) hHeld ?_ ?_
          rotate_left
          ·rintro w' ⟨s0, s1, s2, s3, s4⟩
           go_simp
           with_reducible rfl
          rotate_left
          ·simp only [Act.put, List.setIfInBounds_toArray, List.set_cons_zero, List.set_cons_succ, i64_w, i32_w]
           rfl
          refine pure_ (i := 8) (N := some 98) (v := ?_) (a' := ?_) (Go.Proofs.Ythkpnkmbmlbefaa.HG.bz [9, 7]) rfl rfl (any_of HT_.out (by kernel_rfl)) (fun _ _ _ h => h) (Or.inl ⟨by rfl, ?_⟩) ?_ ?_
          rotate_left
          ·intro w'
           go_simp
           with_reducible rfl
          rotate_left
          ·simp only [Act.put, List.setIfInBounds_toArray, List.set_cons_zero, List.set_cons_succ, i64_w, i32_w]
           rfl
          refine pure_ (i := 9) (N := some 99) (v := ?_) (a' := ?_) (Go.Proofs.Ythkpnkmbmlbefaa.HG.bz [10, 6]) rfl rfl (any_of HT_.out (by kernel_rfl)) (fun _ _ _ h => h) (Or.inl ⟨by rfl, ?_⟩) ?_ ?_
          rotate_left
          ·intro w'
           go_simp
           with_reducible rfl
          rotate_left
          ·simp only [Act.put, List.setIfInBounds_toArray, List.set_cons_zero, List.set_cons_succ, i64_w, i32_w]
           rfl
          refine pure_ (i := 10) (N := some 100) (v := ?_) (a' := ?_) (Go.Proofs.Ythkpnkmbmlbefaa.HG.bz [11, 5]) rfl rfl (any_of HT_.out (by kernel_rfl)) (fun _ _ _ h => h) (Or.inl ⟨by rfl, ?_⟩) ?_ ?_
          rotate_left
          ·intro w'
           go_simp
           with_reducible rfl
          rotate_left
          ·simp only [Act.put, List.setIfInBounds_toArray, List.set_cons_zero, List.set_cons_succ, i64_w, i32_w]
           rfl
          refine pure_ (i := 11) (N := some 101) (v := ?_) (a' := ?_) (Go.Proofs.Ythkpnkmbmlbefaa.HG.bz [12, 4]) rfl rfl (any_of HT_.out (by kernel_rfl)) (fun _ _ _ h => h) (Or.inl ⟨by rfl, ?_⟩) ?_ ?_
          rotate_left
          ·intro w'
           go_simp
           with_reducible rfl
          rotate_left
          ·simp only [Act.put, List.setIfInBounds_toArray, List.set_cons_zero, List.set_cons_succ, i64_w, i32_w]
           rfl
          refine pure_ (i := 12) (N := some 102) (v := ?_) (a' := ?_) (Go.Proofs.Ythkpnkmbmlbefaa.HG.bz [13, 3]) rfl rfl (any_of HT_.out (by kernel_rfl)) (fun _ _ _ h => h) (Or.inl ⟨by rfl, ?_⟩) ?_ ?_
          rotate_left
          ·intro w'
           go_simp
           with_reducible rfl
          rotate_left
          ·simp only [Act.put, List.setIfInBounds_toArray, List.set_cons_zero, List.set_cons_succ, i64_w, i32_w]
           rfl
          refine pure_ (i := 13) (N := some 103) (v := ?_) (a' := ?_) (Go.Proofs.Ythkpnkmbmlbefaa.HG.bz [14, 2]) rfl rfl (any_of HT_.out (by kernel_rfl)) (fun _ _ _ h => h) (Or.inl ⟨by rfl, ?_⟩) ?_ ?_
          rotate_left
          ·intro w'
           go_simp
           with_reducible rfl
          rotate_left
          ·simp only [Act.put, List.setIfInBounds_toArray, List.set_cons_zero, List.set_cons_succ, i64_w, i32_w]
           rfl
          refine pure_ (i := 14) (N := some 104) (v := ?_) (a' := ?_) (Go.Proofs.Ythkpnkmbmlbefaa.HG.bz [15, 1]) rfl rfl (any_of HT_.out (by kernel_rfl)) (fun _ _ _ h => h) (Or.inl ⟨by rfl, ?_⟩) ?_ ?_
          rotate_left
          ·intro w'
           go_simp
           with_reducible rfl
          rotate_left
          ·simp only [Act.put, List.setIfInBounds_toArray, List.set_cons_zero, List.set_cons_succ, i64_w, i32_w]
           rfl
          refine last_ (i := 15) (N := none) (Go.Proofs.Ythkpnkmbmlbefaa.HG.bz [16]) rfl rfl (one_of HT_.out (by kernel_rfl)) (by decide) (fun K hK => ?_)
          refine skip_ (w1 := ?_) (by rfl) rfl ?_ ?_
          rotate_left
          ·go_simp
           rfl
          refine hK.out _ _ ?_
          clear hK K
          refine done_ (done_of HT_.out (by kernel_rfl)) ?_
          try go_wp2
          obtain ⟨cl33_, GG33_⟩ := Kd.R_typed HO_8.out go33 rfl
          have GG33 := Aside0.mk GG33_
          clear GG33_
          have n0_ : Aside0 (Kd.S (Kd.slice 3 (Kd.int .i64)) 30 (w91.setCell ⟨go33, (((rd_T37 l0_1 x53_4).f0) : Int).toNat, none⟩ (.bool ((rd (rd_L3 t393 x41_3) ((rd_T37 l0_1 x53_4).f2)) == (wrap64 ((rd (rd_L3 t393 x41_3) ((rd_T37 l0_1 x53_4).f0)) - 1))))) w.heap.size (fun k_ => some k_ ≠ (v398 : Value).ownBlock) (.slice (some ad408) t393.length co27) t393) := ⟨by (with_reducible repeat (first | apply Kd.S_alloc | apply Kd.S_drewN | apply Kd.S_drew)); exact Kd.S_mono (Kd.S_far (p := ⟨go33, (((rd_T37 l0_1 x53_4).f0) : Int).toNat, none⟩) (Kd.S_types HO_3.out GG33.out (by decide)) (fun _ hk => hk.2) (.bool ((rd (rd_L3 t393 x41_3) ((rd_T37 l0_1 x53_4).f2)) == (wrap64 ((rd (rd_L3 t393 x41_3) ((rd_T37 l0_1 x53_4).f0)) - 1))))) (fun _ hk => hk.1)⟩
          have n1_ : Aside0 (Kd.R (Kd.int .i64) 3 (w91.setCell ⟨go33, (((rd_T37 l0_1 x53_4).f0) : Int).toNat, none⟩ (.bool ((rd (rd_L3 t393 x41_3) ((rd_T37 l0_1 x53_4).f2)) == (wrap64 ((rd (rd_L3 t393 x41_3) ((rd_T37 l0_1 x53_4).f0)) - 1))))) w.heap.size (fun _ => True) v398 t397) := ⟨by (with_reducible repeat (first | apply Kd.R_alloc | apply Kd.R_drewN | apply Kd.R_drew)); exact Kd.R_mono (Kd.R_far (p := ⟨go33, (((rd_T37 l0_1 x53_4).f0) : Int).toNat, none⟩) (Kd.R_types HO_5.out GG33.out (by decide)) (fun _ hk => hk.2) (.bool ((rd (rd_L3 t393 x41_3) ((rd_T37 l0_1 x53_4).f2)) == (wrap64 ((rd (rd_L3 t393 x41_3) ((rd_T37 l0_1 x53_4).f0)) - 1))))) (fun _ hk => trivial)⟩
          have n2_ : Aside0 (Kd.R Kd.bool 4 (w91.setCell ⟨go33, (((rd_T37 l0_1 x53_4).f0) : Int).toNat, none⟩ (.bool ((rd (rd_L3 t393 x41_3) ((rd_T37 l0_1 x53_4).f2)) == (wrap64 ((rd (rd_L3 t393 x41_3) ((rd_T37 l0_1 x53_4).f0)) - 1))))) w.heap.size (fun _ => True) (.slice (some ⟨go33, 0, none⟩) x8_4.length co33) y417) := ⟨by (with_reducible repeat (first | apply Kd.R_alloc | apply Kd.R_drewN | apply Kd.R_drew)); exact HQ92.out⟩
          have n3_ : Aside0 (Kd.R (Kd.int .i64) 3 (w91.setCell ⟨go33, (((rd_T37 l0_1 x53_4).f0) : Int).toNat, none⟩ (.bool ((rd (rd_L3 t393 x41_3) ((rd_T37 l0_1 x53_4).f2)) == (wrap64 ((rd (rd_L3 t393 x41_3) ((rd_T37 l0_1 x53_4).f0)) - 1))))) w.heap.size (fun k_ => some k_ ≠ (.slice (some ad408) t393.length co27 : Value).ownBlock ∧ some k_ ≠ (v398 : Value).ownBlock) (.slice (some ad409) (rd_L3 t393 x41_3).length c408_0) (rd_L3 t393 x41_3)) := ⟨by (with_reducible repeat (first | apply Kd.R_alloc | apply Kd.R_drewN | apply Kd.R_drew)); exact Kd.R_mono (Kd.R_far (p := ⟨go33, (((rd_T37 l0_1 x53_4).f0) : Int).toNat, none⟩) (Kd.R_types HL408_0.out GG33.out (by decide)) (fun _ hk => hk.2) (.bool ((rd (rd_L3 t393 x41_3) ((rd_T37 l0_1 x53_4).f2)) == (wrap64 ((rd (rd_L3 t393 x41_3) ((rd_T37 l0_1 x53_4).f0)) - 1))))) (fun _ hk => ⟨hk.1.2, hk.1.1⟩)⟩
          have n4_ : Aside0 (Kd.R (Kd.int .i64) 3 (w91.setCell ⟨go33, (((rd_T37 l0_1 x53_4).f0) : Int).toNat, none⟩ (.bool ((rd (rd_L3 t393 x41_3) ((rd_T37 l0_1 x53_4).f2)) == (wrap64 ((rd (rd_L3 t393 x41_3) ((rd_T37 l0_1 x53_4).f0)) - 1))))) w.heap.size (fun k_ => some k_ ≠ (.slice (some ad408) t393.length co27 : Value).ownBlock ∧ some k_ ≠ (v398 : Value).ownBlock) (.slice (some ad409) (rd_L3 t393 x41_3).length c408_0) (rd_L3 t393 x41_3)) := ⟨by (with_reducible repeat (first | apply Kd.R_alloc | apply Kd.R_drewN | apply Kd.R_drew)); exact Kd.R_mono (Kd.R_far (p := ⟨go33, (((rd_T37 l0_1 x53_4).f0) : Int).toNat, none⟩) (Kd.R_types HL410_0.out GG33.out (by decide)) (fun _ hk => hk.2) (.bool ((rd (rd_L3 t393 x41_3) ((rd_T37 l0_1 x53_4).f2)) == (wrap64 ((rd (rd_L3 t393 x41_3) ((rd_T37 l0_1 x53_4).f0)) - 1))))) (fun _ hk => ⟨hk.1.2, hk.1.1⟩)⟩
          have n5_ : Aside0 ((w91.setCell ⟨go33, (((rd_T37 l0_1 x53_4).f0) : Int).toNat, none⟩ (.bool ((rd (rd_L3 t393 x41_3) ((rd_T37 l0_1 x53_4).f2)) == (wrap64 ((rd (rd_L3 t393 x41_3) ((rd_T37 l0_1 x53_4).f0)) - 1))))).heap[gb389]? = some (.cells #[.int .i64 a0_0, .slice (some ad406) l0_1.length c0_1] 24 (0, 0))) := ⟨by (with_reducible repeat (first | refine blk_drewN ?_ _ | refine blk_drew ?_ | refine blk_alloc ?_ _)); refine blk_far ?_ (by have h_ := Kd.R_ne HO_8.out BK389.out (by decide); intro e_; exact h_ (by rw [e_]; rfl)) _; (with_reducible repeat (first | refine blk_drewN ?_ _ | refine blk_drew ?_ | refine blk_alloc ?_ _)); exact BK389.out⟩
          have n6_ : Aside0 ((w91.setCell ⟨go33, (((rd_T37 l0_1 x53_4).f0) : Int).toNat, none⟩ (.bool ((rd (rd_L3 t393 x41_3) ((rd_T37 l0_1 x53_4).f2)) == (wrap64 ((rd (rd_L3 t393 x41_3) ((rd_T37 l0_1 x53_4).f0)) - 1))))).heap[gb407]? = some (.cells #[.int .i64 ((rd_T37 l0_1 x53_4).f0), .int .i64 ((rd_T37 l0_1 x53_4).f1), .int .i64 ((rd_T37 l0_1 x53_4).f2), .int .i64 ((rd_T37 l0_1 x53_4).f3)] 37 (0, 0))) := ⟨by (with_reducible repeat (first | refine blk_drewN ?_ _ | refine blk_drew ?_ | refine blk_alloc ?_ _)); refine blk_far ?_ (by have h_ := Kd.R_ne HO_8.out BK407.out (by decide); intro e_; exact h_ (by rw [e_]; rfl)) _; (with_reducible repeat (first | refine blk_drewN ?_ _ | refine blk_drew ?_ | refine blk_alloc ?_ _)); exact BK407.out⟩
          have n7_ : Aside0 (Below w.heap.size w (w91.setCell ⟨go33, (((rd_T37 l0_1 x53_4).f0) : Int).toNat, none⟩ (.bool ((rd (rd_L3 t393 x41_3) ((rd_T37 l0_1 x53_4).f2)) == (wrap64 ((rd (rd_L3 t393 x41_3) ((rd_T37 l0_1 x53_4).f0)) - 1)))))) := ⟨by repeat (first | (with_reducible first | exact HB.out | apply below_alloc | apply pw_below_drewN | apply below_drew1 | refine below_set ?_ GB33.out | refine below_set ?_ GE389.out | refine below_set ?_ GE407.out) | exact HB.out)⟩
          (try clear HO_3)
          (try clear HO_5)
          (try clear HO_8)
          (try clear HL408_0)
          (try clear HL410_0)
          (try clear BK389)
          (try clear BK407)
          (try clear HB)
          (try rw [show ∀ n_ : Nat, (w91.drewN n_).setCell ⟨go33, (((rd_T37 l0_1 x53_4).f0) : Int).toNat, none⟩ (.bool ((rd (rd_L3 t393 x41_3) ((rd_T37 l0_1 x53_4).f2)) == (wrap64 ((rd (rd_L3 t393 x41_3) ((rd_T37 l0_1 x53_4).f0)) - 1)))) = (w91.setCell ⟨go33, (((rd_T37 l0_1 x53_4).f0) : Int).toNat, none⟩ (.bool ((rd (rd_L3 t393 x41_3) ((rd_T37 l0_1 x53_4).f2)) == (wrap64 ((rd (rd_L3 t393 x41_3) ((rd_T37 l0_1 x53_4).f0)) - 1))))).drewN n_ from fun _ => rfl])
          generalize (w91.setCell ⟨go33, (((rd_T37 l0_1 x53_4).f0) : Int).toNat, none⟩ (.bool ((rd (rd_L3 t393 x41_3) ((rd_T37 l0_1 x53_4).f2)) == (wrap64 ((rd (rd_L3 t393 x41_3) ((rd_T37 l0_1 x53_4).f0)) - 1))))) = w93 at n0_ n1_ n2_ n3_ n4_ n5_ n6_ n7_ ⊢
          have HO_3 := n0_
          have HO_5 := n1_
          have HO_8 := n2_
          have HL408_0 := n3_
          have HL410_0 := n4_
          have BK389 := n5_
          have BK407 := n6_
          have HB := n7_
          clear n0_ n1_ n2_ n3_ n4_ n5_ n6_ n7_
          have n0_ := Aside0.mk (Kd.S_drew HO_3.out)
          have n1_ := Aside0.mk (Kd.R_drew HO_5.out)
          have n2_ := Aside0.mk (Kd.R_drew HO_8.out)
          have n3_ := Aside0.mk (Kd.R_drew HL408_0.out)
          have n4_ := Aside0.mk (Kd.R_drew HL410_0.out)
          have n5_ := Aside0.mk (blk_drew BK389.out)
          have n6_ := Aside0.mk (blk_drew BK407.out)
          have n7_ := Aside0.mk (below_drew1 HB.out)
          clear HO_3
          clear HO_5
          clear HO_8
          clear HL408_0
          clear HL410_0
          clear BK389
          clear BK407
          clear HB
          have HO_3 := n0_
          have HO_5 := n1_
          have HO_8 := n2_
          have HL408_0 := n3_
          have HL410_0 := n4_
          have BK389 := n5_
          have BK407 := n6_
          have HB := n7_
          clear n0_ n1_ n2_ n3_ n4_ n5_ n6_ n7_
          have H := HS_.out
          clear HS_
          by_cases c84 : bq83 = true
          ·as_aux_lemma =>
            subst c84
            have H1 : (timesynclaw18_TopoDistances.l1 k4 t393 t397 x6_3 x41_3 (y417.set (((rd_T37 l0_1 x53_4).f2) : Int).toNat true) (t393.length : Int) x41_3 l0_1 (l0_1.length : Int) (wrap64 (x53_4 + 1)) a0_0 l0_1) = some r := by rw [if_pos rfl] at H; exact H
            clear H
            have H := H1
            clear H1
            obtain ⟨y419, hy419⟩ : ∃ y_ : List Bool, y_ = (y417.set (((rd_T37 l0_1 x53_4).f2) : Int).toNat true) := ⟨_, rfl⟩
            replace H : (timesynclaw18_TopoDistances.l1 k4 t393 t397 x6_3 x41_3 y419 (t393.length : Int) x41_3 l0_1 (l0_1.length : Int) (wrap64 (x53_4 + 1)) a0_0 l0_1) = some r := by first | (rw [hy419]; with_reducible exact H) | (have H2_ := (Option.bind_some _ _).symm.trans H; rw [hy419]; with_reducible exact H2_) | (have H2_ := (Option.bind_some _ _).symm.trans H; with_reducible exact H2_) | with_reducible exact H | (rw [hy419]; exact H) | exact H
            have Ny419 := Aside0.mk hy419
            clear hy419
            have H' := Aside0.mk H
            clear H
            have p418 : 0 ≤ (((rd_T37 l0_1 x53_4).f2) : Int) := of_decide_eq_true (by first | (with_reducible assumption) | assumption)
            have q418 : ((rd_T37 l0_1 x53_4).f2) < (y417.length : Int) := (by have h_ : (((rd_T37 l0_1 x53_4).f2) : Int) < ((x8_4.length : Int) : Int) := of_decide_eq_true (by first | (with_reducible assumption) | assumption); first | (have e_ := (Kd.R_reads' HO_8.out).1; omega) | simpa only [Ny417.out, List.length_set] using h_)
            have ql418 : ((((rd_T37 l0_1 x53_4).f2) : Int) < ((x8_4.length : Int) : Int)) = True := eq_true (of_decide_eq_true (by first | (with_reducible assumption) | assumption))
            obtain ⟨ad418, e418, hx418_0⟩ := Kd.at_bool (Kd.R_reads' HO_8.out).2.2 ((rd_T37 l0_1 x53_4).f2) p418 q418
            (try rw [← Nbq53.out] at hx418_0)
            (try rw [← Nbq83.out] at hx418_0)
            obtain rfl : (⟨go33, 0, none⟩ : Addr) = ad418 := (by injection e418)
            (first | simp only [add_plain] at hx418_0 | simp only [add_at] at hx418_0 | simp only [Addr.add, Nat.zero_add] at hx418_0 | skip)
            replace p418 := eq_true p418
            replace q418 := eq_true q418
            have p85 : 0 ≤ (((rd_T37 l0_1 x53_4).f2) : Int) := of_decide_eq_true (by first | (with_reducible assumption) | assumption)
            have q85 : (((rd_T37 l0_1 x53_4).f2) : Int) < ((x8_4.length : Int) : Int) := of_decide_eq_true (by first | (with_reducible assumption) | assumption)
            obtain ⟨hx85_0, hf85_0⟩ := Kd.R_celln false HO_8.out (((rd_T37 l0_1 x53_4).f2) : Int) p85 q85
            replace p85 := eq_true p85
            replace q85 := eq_true q85
            have HP95 := Kd.R_putn HO_8.out (((rd_T37 l0_1 x53_4).f2) : Int) true
            rw [← Ny419.out] at HP95
            have HQ95 := Aside0.mk HP95
            clear HP95
            refine start_ (n := 16) (S := fun w' => w'.cell? ⟨gb407, 0, none⟩ = some (.int .i64 ((rd_T37 l0_1 x53_4).f0)) ∧ w'.cell? ⟨gb407, 1, none⟩ = some (.int .i64 ((rd_T37 l0_1 x53_4).f1)) ∧ w'.cell? ⟨gb407, 2, none⟩ = some (.int .i64 ((rd_T37 l0_1 x53_4).f2)) ∧ w'.cell? ⟨gb407, 3, none⟩ = some (.int .i64 ((rd_T37 l0_1 x53_4).f3)) ∧ w'.cell? ⟨go33, (((rd_T37 l0_1 x53_4).f2)).toNat, none⟩ = some (.bool true)) (ds := [15]) (Go.Proofs.Ythkpnkmbmlbefaa.HG.bz [0, 16]) (by kernel_rfl) rfl rfl ⟨(blk_cell BK407.out 0).trans rfl, (blk_cell BK407.out 1).trans rfl, (blk_cell BK407.out 2).trans rfl, (blk_cell BK407.out 3).trans rfl, hx418_0⟩ (fun hHeld => ?_); refine with_tabW timesynclaw18_TopoDistances.tab20 timesynclaw18_TopoDistances.bits20 (fun HT_ HW_ => ?_)
            generalize w93.drew = w94 at HO_3 HO_5 HO_8 HL408_0 HL410_0 BK389 BK407 HB HQ92 HQ95 hf85_0 hx418_0 hx85_0 hHeld ⊢
            refine pure_ (i := 0) (N := some 105) (v := ?_) (a' := ?_) (Go.Proofs.Ythkpnkmbmlbefaa.HG.bz [1, 15]) rfl rfl (any_of HT_.out (by kernel_rfl)) (fun _ _ _ h => h) (Or.inl ⟨by rfl, ?_⟩) ?_ ?_
            rotate_left
            ·intro w'
             go_simp
             with_reducible rfl
            rotate_left
            ·simp only [Act.put, List.setIfInBounds_toArray, List.set_cons_zero, List.set_cons_succ, i64_w, i32_w]
             rfl
            refine pure_ (i := 1) (N := some 106) (v := ?_) (a' := ?_) (Go.Proofs.Ythkpnkmbmlbefaa.HG.bz [2, 14]) rfl rfl (any_of HT_.out (by kernel_rfl)) (fun _ _ _ h => h) (Or.inl ⟨by rfl, ?_⟩) ?_ ?_
            rotate_left
            ·intro w'
             go_simp
             with_reducible rfl
            rotate_left
            ·simp only [Act.put, List.setIfInBounds_toArray, List.set_cons_zero, List.set_cons_succ, i64_w, i32_w]
             rfl
            refine pure_ (i := 3) (N := some 108) (v := ?_) (a' := ?_) (Go.Proofs.Ythkpnkmbmlbefaa.HG.bz [2, 1, 1, 12]) rfl rfl (any_of HT_.out (by kernel_rfl)) (fun _ _ _ h => h) (Or.inl ⟨by rfl, ?_⟩) ?_ ?_
            rotate_left
            ·intro w'
             go_simp
             with_reducible rfl
            rotate_left
            ·simp only [Act.put, List.setIfInBounds_toArray, List.set_cons_zero, List.set_cons_succ, i64_w, i32_w]
             rfl
            refine pure_ (i := 4) (N := some 109) (v := ?_) (a' := ?_) (Go.Proofs.Ythkpnkmbmlbefaa.HG.bz [2, 1, 2, 11]) rfl rfl (any_of HT_.out (by kernel_rfl)) (fun _ _ _ h => h) (Or.inl ⟨by rfl, ?_⟩) ?_ ?_
            rotate_left
            ·intro w'
             go_simp
             with_reducible rfl
            rotate_left
            ·simp only [Act.put, List.setIfInBounds_toArray, List.set_cons_zero, List.set_cons_succ, i64_w, i32_w]
             rfl
            refine take_ (i := 2) (N := some 107) (v := ?_) (a' := ?_) (Go.Proofs.Ythkpnkmbmlbefaa.HG.bz [5, 11]) rfl rfl (take_ofW HT_.out HW_.out (by kernel_rfl)) (fun _ _ _ h => h) (Or.inl ⟨by rfl, ?_⟩) hHeld ?_ ?_
            rotate_left
            ·rintro w' ⟨s0, s1, s2, s3, s4⟩
             go_simp
             with_reducible rfl
            rotate_left
            ·simp only [Act.put, List.setIfInBounds_toArray, List.set_cons_zero, List.set_cons_succ, i64_w, i32_w]
             rfl
            refine take_ (i := 5) (N := some 110) (v := ?_) (a' := ?_) (Go.Proofs.Ythkpnkmbmlbefaa.HG.bz [6, 10]) rfl rfl (take_ofW HT_.out HW_.out (by kernel_rfl)) (fun _ _ _ h => h) (Or.inl ⟨by rfl, ?_⟩) hHeld ?_ ?_
            rotate_left
            ·rintro w' ⟨s0, s1, s2, s3, s4⟩
             go_simp
             with_reducible rfl
            rotate_left
            ·simp only [Act.put, List.setIfInBounds_toArray, List.set_cons_zero, List.set_cons_succ, i64_w, i32_w]
             rfl
            refine pure_ (i := 6) (N := some 111) (v := ?_) (a' := ?_) (Go.Proofs.Ythkpnkmbmlbefaa.HG.bz [7, 9]) rfl rfl (any_of HT_.out (by kernel_rfl)) (fun _ _ _ h => h) (Or.inl ⟨by rfl, ?_⟩) ?_ ?_
            rotate_left
            ·intro w'
             go_simp
             with_reducible rfl
            rotate_left
            ·simp only [Act.put, List.setIfInBounds_toArray, List.set_cons_zero, List.set_cons_succ, i64_w, i32_w]
             rfl
            refine take_ (i := 7) (N := some 112) (v := ?_) (a' := ?_) (Go.Proofs.Ythkpnkmbmlbefaa.HG.bz [8, 8]) rfl rfl (take_ofW HT_.out HW_.out (by kernel_rfl)) (fun _ _ _ h => h) (Or.inl ⟨by rfl, ?_⟩) hHeld ?_ ?_
            rotate_left
            ·rintro w' ⟨s0, s1, s2, s3, s4⟩
             go_simp
             with_reducible rfl
            rotate_left
            ·simp only [Act.put, List.setIfInBounds_toArray, List.set_cons_zero, List.set_cons_succ, i64_w, i32_w]
             rfl
            refine pure_ (i := 8) (N := some 113) (v := ?_) (a' := ?_) (Go.Proofs.Ythkpnkmbmlbefaa.HG.bz [9, 7]) rfl rfl (any_of HT_.out (by kernel_rfl)) (fun _ _ _ h => h) (Or.inl ⟨by rfl, ?_⟩) ?_ ?_
            rotate_left
            ·intro w'
             go_simp
             with_reducible rfl
            rotate_left
            ·simp only [Act.put, List.setIfInBounds_toArray, List.set_cons_zero, List.set_cons_succ, i64_w, i32_w]
             rfl
            refine pure_ (i := 9) (N := some 114) (v := undef) (a' := ?_) (Go.Proofs.Ythkpnkmbmlbefaa.HG.bz [10, 6]) rfl rfl (any_of HT_.out (by kernel_rfl)) (fun _ _ _ h => h) (Or.inr ⟨by rfl, rfl⟩) ?_ ?_
            rotate_left
            ·simp only [Act.put, List.setIfInBounds_toArray, List.set_cons_zero, List.set_cons_succ, i64_w, i32_w]
             rfl
            refine pure_ (i := 10) (N := some 115) (v := undef) (a' := ?_) (Go.Proofs.Ythkpnkmbmlbefaa.HG.bz [11, 5]) rfl rfl (any_of HT_.out (by kernel_rfl)) (fun _ _ _ h => h) (Or.inr ⟨by rfl, rfl⟩) ?_ ?_
            rotate_left
            ·simp only [Act.put, List.setIfInBounds_toArray, List.set_cons_zero, List.set_cons_succ, i64_w, i32_w]
             rfl
            refine pure_ (i := 11) (N := some 116) (v := undef) (a' := ?_) (Go.Proofs.Ythkpnkmbmlbefaa.HG.bz [12, 4]) rfl rfl (any_of HT_.out (by kernel_rfl)) (fun _ _ _ h => h) (Or.inr ⟨by rfl, rfl⟩) ?_ ?_
            rotate_left
            ·simp only [Act.put, List.setIfInBounds_toArray, List.set_cons_zero, List.set_cons_succ, i64_w, i32_w]
             rfl
            refine pure_ (i := 12) (N := some 117) (v := undef) (a' := ?_) (Go.Proofs.Ythkpnkmbmlbefaa.HG.bz [13, 3]) rfl rfl (any_of HT_.out (by kernel_rfl)) (fun _ _ _ h => h) (Or.inr ⟨by rfl, rfl⟩) ?_ ?_
            rotate_left
            ·simp only [Act.put, List.setIfInBounds_toArray, List.set_cons_zero, List.set_cons_succ, i64_w, i32_w]
             rfl
            refine pure_ (i := 13) (N := some 118) (v := ?_) (a' := ?_) (Go.Proofs.Ythkpnkmbmlbefaa.HG.bz [14, 2]) rfl rfl (any_of HT_.out (by kernel_rfl)) (fun _ _ _ h => h) (Or.inl ⟨by rfl, ?_⟩) ?_ ?_
            rotate_left
            ·intro w'
             go_simp
             with_reducible rfl
            rotate_left
            ·simp only [Act.put, List.setIfInBounds_toArray, List.set_cons_zero, List.set_cons_succ, i64_w, i32_w]
             rfl
            refine pure_ (i := 14) (N := some 119) (v := ?_) (a' := ?_) (Go.Proofs.Ythkpnkmbmlbefaa.HG.bz [15, 1]) rfl rfl (any_of HT_.out (by kernel_rfl)) (fun _ _ _ h => h) (Or.inl ⟨by rfl, ?_⟩) ?_ ?_
            rotate_left
            ·intro w'
             go_simp
             with_reducible rfl
            rotate_left
            ·simp only [Act.put, List.setIfInBounds_toArray, List.set_cons_zero, List.set_cons_succ, i64_w, i32_w]
             rfl
            refine last_ (i := 15) (N := none) (Go.Proofs.Ythkpnkmbmlbefaa.HG.bz [16]) rfl rfl (one_of HT_.out (by kernel_rfl)) (by decide) (fun K hK => ?_)
            refine skip_ (w1 := ?_) (by rfl) rfl ?_ ?_
            rotate_left
            ·go_simp
             rfl
            refine hK.out _ _ ?_
            clear hK K
            refine done_ (done_of HT_.out (by kernel_rfl)) ?_
            try go_wp2
            (try simp only [← hl8_4])
            obtain ⟨cl33_, GG33_⟩ := Kd.R_typed HO_8.out go33 rfl
            have GG33 := Aside0.mk GG33_
            clear GG33_
            go_roundg k4
            case measure => have := HJ1.out; have := HJ17.out; have := HK3.out; have := HK4.out; omega
            case rel => exact ⟨(y419), (wrap64 (x53_4 + 1)), (by first | rfl | (simp; done) | (simp [*]; done)), H', ⟨by have := HJ1.out; have := HJ17.out; have := HK3.out; have := HK4.out; omega⟩, ⟨by (try simp only [hl8_4]); (with_reducible repeat (first | apply Kd.S_alloc | apply Kd.S_drewN | apply Kd.S_drew)); exact Kd.S_mono (Kd.S_far (p := ⟨go33, (((rd_T37 l0_1 x53_4).f2) : Int).toNat, none⟩) (Kd.S_types HO_3.out GG33.out (by decide)) (fun _ hk => hk.2) (.bool true)) (fun _ hk => hk.1)⟩, ⟨by (try simp only [hl8_4]); (with_reducible repeat (first | apply Kd.R_alloc | apply Kd.R_drewN | apply Kd.R_drew)); exact Kd.R_mono (Kd.R_far (p := ⟨go33, (((rd_T37 l0_1 x53_4).f2) : Int).toNat, none⟩) (Kd.R_types HO_5.out GG33.out (by decide)) (fun _ hk => hk.2) (.bool true)) (fun _ hk => trivial)⟩, ⟨by (try simp only [hl8_4]); (with_reducible repeat (first | apply Kd.R_alloc | apply Kd.R_drewN | apply Kd.R_drew)); exact HQ95.out⟩, ⟨by (try simp only [hl8_4]); (with_reducible repeat (first | refine blk_drewN ?_ _ | refine blk_drew ?_ | refine blk_alloc ?_ _)); refine blk_far ?_ (by have h_ := Kd.R_ne HO_8.out BK389.out (by decide); intro e_; exact h_ (by rw [e_]; rfl)) _; (with_reducible repeat (first | refine blk_drewN ?_ _ | refine blk_drew ?_ | refine blk_alloc ?_ _)); exact BK389.out⟩, ⟨by repeat (first | (with_reducible first | exact HB.out | apply below_alloc | apply pw_below_drewN | apply below_drew1 | refine below_set ?_ GB33.out | refine below_set ?_ GE389.out | refine below_set ?_ GE407.out) | exact HB.out)⟩⟩
          as_aux_lemma =>
           replace c84 := Bool.eq_false_iff.mpr c84
           subst c84
           have H1 : (timesynclaw18_TopoDistances.l1 k4 t393 t397 x6_3 x41_3 (y417.set (((rd_T37 l0_1 x53_4).f2) : Int).toNat ((rd (rd_L3 t393 x41_3) ((rd_T37 l0_1 x53_4).f0)) == (wrap64 ((rd (rd_L3 t393 x41_3) ((rd_T37 l0_1 x53_4).f2)) - 1)))) (t393.length : Int) x41_3 l0_1 (l0_1.length : Int) (wrap64 (x53_4 + 1)) a0_0 l0_1) = some r := by rw [if_neg (show ¬ (false = true) by decide)] at H; exact H
           clear H
           have H := H1
           clear H1
           obtain ⟨y420, hy420⟩ : ∃ y_ : List Bool, y_ = (y417.set (((rd_T37 l0_1 x53_4).f2) : Int).toNat ((rd (rd_L3 t393 x41_3) ((rd_T37 l0_1 x53_4).f0)) == (wrap64 ((rd (rd_L3 t393 x41_3) ((rd_T37 l0_1 x53_4).f2)) - 1)))) := ⟨_, rfl⟩
           replace H : (timesynclaw18_TopoDistances.l1 k4 t393 t397 x6_3 x41_3 y420 (t393.length : Int) x41_3 l0_1 (l0_1.length : Int) (wrap64 (x53_4 + 1)) a0_0 l0_1) = some r := by first | (rw [hy420]; with_reducible exact H) | (have H2_ := (Option.bind_some _ _).symm.trans H; rw [hy420]; with_reducible exact H2_) | (have H2_ := (Option.bind_some _ _).symm.trans H; with_reducible exact H2_) | with_reducible exact H | (rw [hy420]; exact H) | exact H
           have Ny420 := Aside0.mk hy420
           clear hy420
           have H' := Aside0.mk H
           clear H
           have p418 : 0 ≤ (((rd_T37 l0_1 x53_4).f2) : Int) := of_decide_eq_true (by first | (with_reducible assumption) | assumption)
           have q418 : ((rd_T37 l0_1 x53_4).f2) < (y417.length : Int) := (by have h_ : (((rd_T37 l0_1 x53_4).f2) : Int) < ((x8_4.length : Int) : Int) := of_decide_eq_true (by first | (with_reducible assumption) | assumption); first | (have e_ := (Kd.R_reads' HO_8.out).1; omega) | simpa only [Ny417.out, List.length_set] using h_)
           have ql418 : ((((rd_T37 l0_1 x53_4).f2) : Int) < ((x8_4.length : Int) : Int)) = True := eq_true (of_decide_eq_true (by first | (with_reducible assumption) | assumption))
           obtain ⟨ad418, e418, hx418_0⟩ := Kd.at_bool (Kd.R_reads' HO_8.out).2.2 ((rd_T37 l0_1 x53_4).f2) p418 q418
           (try rw [← Nbq53.out] at hx418_0)
           (try rw [← Nbq83.out] at hx418_0)
           obtain rfl : (⟨go33, 0, none⟩ : Addr) = ad418 := (by injection e418)
           (first | simp only [add_plain] at hx418_0 | simp only [add_at] at hx418_0 | simp only [Addr.add, Nat.zero_add] at hx418_0 | skip)
           replace p418 := eq_true p418
           replace q418 := eq_true q418
           have p96 : 0 ≤ (((rd_T37 l0_1 x53_4).f2) : Int) := of_decide_eq_true (by first | (with_reducible assumption) | assumption)
           have q96 : (((rd_T37 l0_1 x53_4).f2) : Int) < ((x8_4.length : Int) : Int) := of_decide_eq_true (by first | (with_reducible assumption) | assumption)
           obtain ⟨hx96_0, hf96_0⟩ := Kd.R_celln false HO_8.out (((rd_T37 l0_1 x53_4).f2) : Int) p96 q96
           replace p96 := eq_true p96
           replace q96 := eq_true q96
           have HP106 := Kd.R_putn HO_8.out (((rd_T37 l0_1 x53_4).f2) : Int) ((rd (rd_L3 t393 x41_3) ((rd_T37 l0_1 x53_4).f0)) == (wrap64 ((rd (rd_L3 t393 x41_3) ((rd_T37 l0_1 x53_4).f2)) - 1)))
           rw [← Ny420.out] at HP106
           have HQ106 := Aside0.mk HP106
           clear HP106
           refine start_ (n := 16) (S := fun w' => w'.cell? ⟨gb407, 0, none⟩ = some (.int .i64 ((rd_T37 l0_1 x53_4).f0)) ∧ w'.cell? ⟨gb407, 1, none⟩ = some (.int .i64 ((rd_T37 l0_1 x53_4).f1)) ∧ w'.cell? ⟨gb407, 2, none⟩ = some (.int .i64 ((rd_T37 l0_1 x53_4).f2)) ∧ w'.cell? ⟨gb407, 3, none⟩ = some (.int .i64 ((rd_T37 l0_1 x53_4).f3)) ∧ w'.cell? ⟨go33, (((rd_T37 l0_1 x53_4).f2)).toNat, none⟩ = some (.bool false)) (ds := [15]) (Go.Proofs.Ythkpnkmbmlbefaa.HG.bz [0, 16]) (by kernel_rfl) rfl rfl ⟨(blk_cell BK407.out 0).trans rfl, (blk_cell BK407.out 1).trans rfl, (blk_cell BK407.out 2).trans rfl, (blk_cell BK407.out 3).trans rfl, hx418_0⟩ (fun hHeld => ?_); refine with_tabW timesynclaw18_TopoDistances.tab20 timesynclaw18_TopoDistances.bits20 (fun HT_ HW_ => ?_)
           generalize w93.drew = w105 at HO_3 HO_5 HO_8 HL408_0 HL410_0 BK389 BK407 HB HQ92 HQ106 hf96_0 hx418_0 hx96_0 hHeld ⊢
           refine pure_ (i := 0) (N := some 105) (v := ?_) (a' := ?_) (Go.Proofs.Ythkpnkmbmlbefaa.HG.bz [1, 15]) rfl rfl (any_of HT_.out (by kernel_rfl)) (fun _ _ _ h => h) (Or.inl ⟨by rfl, ?_⟩) ?_ ?_
           rotate_left
           ·intro w'
            go_simp
            with_reducible rfl
           rotate_left
           ·simp only [Act.put, List.setIfInBounds_toArray, List.set_cons_zero, List.set_cons_succ, i64_w, i32_w]
            rfl
           refine pure_ (i := 1) (N := some 106) (v := ?_) (a' := ?_) (Go.Proofs.Ythkpnkmbmlbefaa.HG.bz [2, 14]) rfl rfl (any_of HT_.out (by kernel_rfl)) (fun _ _ _ h => h) (Or.inl ⟨by rfl, ?_⟩) ?_ ?_
           rotate_left
           ·intro w'
            go_simp
            with_reducible rfl
           rotate_left
           ·simp only [Act.put, List.setIfInBounds_toArray, List.set_cons_zero, List.set_cons_succ, i64_w, i32_w]
            rfl
           refine pure_ (i := 3) (N := some 108) (v := ?_) (a' := ?_) (Go.Proofs.Ythkpnkmbmlbefaa.HG.bz [2, 1, 1, 12]) rfl rfl (any_of HT_.out (by kernel_rfl)) (fun _ _ _ h => h) (Or.inl ⟨by rfl, ?_⟩) ?_ ?_
           rotate_left
           ·intro w'
            go_simp
            with_reducible rfl
           rotate_left
           ·simp only [Act.put, List.setIfInBounds_toArray, List.set_cons_zero, List.set_cons_succ, i64_w, i32_w]
            rfl
           refine pure_ (i := 4) (N := some 109) (v := ?_) (a' := ?_) (Go.Proofs.Ythkpnkmbmlbefaa.HG.bz [2, 1, 2, 11]) rfl rfl (any_of HT_.out (by kernel_rfl)) (fun _ _ _ h => h) (Or.inl ⟨by rfl, ?_⟩) ?_ ?_
           rotate_left
           ·intro w'
            go_simp
            with_reducible rfl
           rotate_left
           ·simp only [Act.put, List.setIfInBounds_toArray, List.set_cons_zero, List.set_cons_succ, i64_w, i32_w]
            rfl
           refine take_ (i := 2) (N := some 107) (v := ?_) (a' := ?_) (Go.Proofs.Ythkpnkmbmlbefaa.HG.bz [5, 11]) rfl rfl (take_ofW HT_.out HW_.out (by kernel_rfl)) (fun _ _ _ h => h) (Or.inl ⟨by rfl, ?_⟩) hHeld ?_ ?_
           rotate_left
           ·rintro w' ⟨s0, s1, s2, s3, s4⟩
            go_simp
            with_reducible rfl
           rotate_left
           ·simp only [Act.put, List.setIfInBounds_toArray, List.set_cons_zero, List.set_cons_succ, i64_w, i32_w]
            rfl
           refine take_ (i := 5) (N := some 110) (v := ?_) (a' := ?_) (Go.Proofs.Ythkpnkmbmlbefaa.HG.bz [6, 10]) rfl rfl (take_ofW HT_.out HW_.out (by kernel_rfl)) (fun _ _ _ h => h) (Or.inl ⟨by rfl, ?_⟩) hHeld ?_ ?_
           rotate_left
           ·rintro w' ⟨s0, s1, s2, s3, s4⟩
            go_simp
            with_reducible rfl
           rotate_left
           ·simp only [Act.put, List.setIfInBounds_toArray, List.set_cons_zero, List.set_cons_succ, i64_w, i32_w]
            rfl
           refine pure_ (i := 6) (N := some 111) (v := ?_) (a' := ?_) (Go.Proofs.Ythkpnkmbmlbefaa.HG.bz [7, 9]) rfl rfl (any_of HT_.out (by kernel_rfl)) (fun _ _ _ h => h) (Or.inl ⟨by rfl, ?_⟩) ?_ ?_
           rotate_left
           ·intro w'
            go_simp
            with_reducible rfl
           rotate_left
           ·simp only [Act.put, List.setIfInBounds_toArray, List.set_cons_zero, List.set_cons_succ, i64_w, i32_w]
            rfl
           refine take_ (i := 7) (N := some 112) (v := ?_) (a' := ?_) (Go.Proofs.Ythkpnkmbmlbefaa.HG.bz [8, 8]) rfl rfl (take_ofW HT_.out HW_.out (by kernel_rfl)) (fun _ _ _ h => h) (Or.inl ⟨by rfl, ?_⟩) hHeld ?_ ?_
           rotate_left
           ·rintro w' ⟨s0, s1, s2, s3, s4⟩
            go_simp
            with_reducible rfl
           rotate_left
           ·simp only [Act.put, List.setIfInBounds_toArray, List.set_cons_zero, List.set_cons_succ, i64_w, i32_w]
            rfl
           refine pure_ (i := 8) (N := some 113) (v := ?_) (a' := ?_) (Go.Proofs.Ythkpnkmbmlbefaa.HG.bz [9, 7]) rfl rfl (any_of HT_.out (by kernel_rfl)) (fun _ _ _ h => h) (Or.inl ⟨by rfl, ?_⟩) ?_ ?_
           rotate_left
           ·intro w'
            go_simp
            with_reducible rfl
           rotate_left
           ·simp only [Act.put, List.setIfInBounds_toArray, List.set_cons_zero, List.set_cons_succ, i64_w, i32_w]
            rfl
           refine pure_ (i := 9) (N := some 114) (v := ?_) (a' := ?_) (Go.Proofs.Ythkpnkmbmlbefaa.HG.bz [10, 6]) rfl rfl (any_of HT_.out (by kernel_rfl)) (fun _ _ _ h => h) (Or.inl ⟨by rfl, ?_⟩) ?_ ?_
           rotate_left
           ·intro w'
            go_simp
            with_reducible rfl
           rotate_left
           ·simp only [Act.put, List.setIfInBounds_toArray, List.set_cons_zero, List.set_cons_succ, i64_w, i32_w]
            rfl
           refine pure_ (i := 10) (N := some 115) (v := ?_) (a' := ?_) (Go.Proofs.Ythkpnkmbmlbefaa.HG.bz [11, 5]) rfl rfl (any_of HT_.out (by kernel_rfl)) (fun _ _ _ h => h) (Or.inl ⟨by rfl, ?_⟩) ?_ ?_
           rotate_left
           ·intro w'
            go_simp
            with_reducible rfl
           rotate_left
           ·simp only [Act.put, List.setIfInBounds_toArray, List.set_cons_zero, List.set_cons_succ, i64_w, i32_w]
            rfl
           refine pure_ (i := 11) (N := some 116) (v := ?_) (a' := ?_) (Go.Proofs.Ythkpnkmbmlbefaa.HG.bz [12, 4]) rfl rfl (any_of HT_.out (by kernel_rfl)) (fun _ _ _ h => h) (Or.inl ⟨by rfl, ?_⟩) ?_ ?_
           rotate_left
           ·intro w'
            go_simp
            with_reducible rfl
           rotate_left
           ·simp only [Act.put, List.setIfInBounds_toArray, List.set_cons_zero, List.set_cons_succ, i64_w, i32_w]
            rfl
           refine pure_ (i := 12) (N := some 117) (v := ?_) (a' := ?_) (Go.Proofs.Ythkpnkmbmlbefaa.HG.bz [13, 3]) rfl rfl (any_of HT_.out (by kernel_rfl)) (fun _ _ _ h => h) (Or.inl ⟨by rfl, ?_⟩) ?_ ?_
           rotate_left
           ·intro w'
            go_simp
            with_reducible rfl
           rotate_left
           ·simp only [Act.put, List.setIfInBounds_toArray, List.set_cons_zero, List.set_cons_succ, i64_w, i32_w]
            rfl
           refine pure_ (i := 13) (N := some 118) (v := ?_) (a' := ?_) (Go.Proofs.Ythkpnkmbmlbefaa.HG.bz [14, 2]) rfl rfl (any_of HT_.out (by kernel_rfl)) (fun _ _ _ h => h) (Or.inl ⟨by rfl, ?_⟩) ?_ ?_
           rotate_left
           ·intro w'
            go_simp
            with_reducible rfl
           rotate_left
           ·simp only [Act.put, List.setIfInBounds_toArray, List.set_cons_zero, List.set_cons_succ, i64_w, i32_w]
            rfl
           refine pure_ (i := 14) (N := some 119) (v := ?_) (a' := ?_) (Go.Proofs.Ythkpnkmbmlbefaa.HG.bz [15, 1]) rfl rfl (any_of HT_.out (by kernel_rfl)) (fun _ _ _ h => h) (Or.inl ⟨by rfl, ?_⟩) ?_ ?_
           rotate_left
           ·intro w'
            go_simp
            with_reducible rfl
           rotate_left
           ·simp only [Act.put, List.setIfInBounds_toArray, List.set_cons_zero, List.set_cons_succ, i64_w, i32_w]
            rfl
           refine last_ (i := 15) (N := none) (Go.Proofs.Ythkpnkmbmlbefaa.HG.bz [16]) rfl rfl (one_of HT_.out (by kernel_rfl)) (by decide) (fun K hK => ?_)
           refine skip_ (w1 := ?_) (by rfl) rfl ?_ ?_
           rotate_left
           ·go_simp
            rfl
           refine hK.out _ _ ?_
           clear hK K
           refine done_ (done_of HT_.out (by kernel_rfl)) ?_
           try go_wp2
           (try simp only [← hl8_4])
           obtain ⟨cl33_, GG33_⟩ := Kd.R_typed HO_8.out go33 rfl
           have GG33 := Aside0.mk GG33_
           clear GG33_
           go_roundg k4
           case measure => have := HJ1.out; have := HJ17.out; have := HK3.out; have := HK4.out; omega
           case rel => exact ⟨(y420), (wrap64 (x53_4 + 1)), (by first | rfl | (simp; done) | (simp [*]; done)), H', ⟨by have := HJ1.out; have := HJ17.out; have := HK3.out; have := HK4.out; omega⟩, ⟨by (try simp only [hl8_4]); (with_reducible repeat (first | apply Kd.S_alloc | apply Kd.S_drewN | apply Kd.S_drew)); exact Kd.S_mono (Kd.S_far (p := ⟨go33, (((rd_T37 l0_1 x53_4).f2) : Int).toNat, none⟩) (Kd.S_types HO_3.out GG33.out (by decide)) (fun _ hk => hk.2) (.bool ((rd (rd_L3 t393 x41_3) ((rd_T37 l0_1 x53_4).f0)) == (wrap64 ((rd (rd_L3 t393 x41_3) ((rd_T37 l0_1 x53_4).f2)) - 1))))) (fun _ hk => hk.1)⟩, ⟨by (try simp only [hl8_4]); (with_reducible repeat (first | apply Kd.R_alloc | apply Kd.R_drewN | apply Kd.R_drew)); exact Kd.R_mono (Kd.R_far (p := ⟨go33, (((rd_T37 l0_1 x53_4).f2) : Int).toNat, none⟩) (Kd.R_types HO_5.out GG33.out (by decide)) (fun _ hk => hk.2) (.bool ((rd (rd_L3 t393 x41_3) ((rd_T37 l0_1 x53_4).f0)) == (wrap64 ((rd (rd_L3 t393 x41_3) ((rd_T37 l0_1 x53_4).f2)) - 1))))) (fun _ hk => trivial)⟩, ⟨by (try simp only [hl8_4]); (with_reducible repeat (first | apply Kd.R_alloc | apply Kd.R_drewN | apply Kd.R_drew)); exact HQ106.out⟩, ⟨by (try simp only [hl8_4]); (with_reducible repeat (first | refine blk_drewN ?_ _ | refine blk_drew ?_ | refine blk_alloc ?_ _)); refine blk_far ?_ (by have h_ := Kd.R_ne HO_8.out BK389.out (by decide); intro e_; exact h_ (by rw [e_]; rfl)) _; (with_reducible repeat (first | refine blk_drewN ?_ _ | refine blk_drew ?_ | refine blk_alloc ?_ _)); exact BK389.out⟩, ⟨by repeat (first | (with_reducible first | exact HB.out | apply below_alloc | apply pw_below_drewN | apply below_drew1 | refine below_set ?_ GB33.out | refine below_set ?_ GE389.out | refine below_set ?_ GE407.out) | exact HB.out)⟩⟩
       as_aux_lemma =>
        rw [if_neg c40] at H
        have c40b0 : decide (x53_4 < (l0_1.length : Int)) = false := decide_eq_false c40
        clear c40
        (try (have c40r0 := c40b0; simp only [hl8_4] at c40r0))
        by_cases c107 : 0 ≤ x41_3
        rotate_left
        ·rw [if_neg c107] at H
         exact absurd H (by simp)
        rw [if_pos c107] at H
        have c107b0 : decide (0 ≤ x41_3) = true := decide_eq_true c107
        clear c107
        (try (have c107r0 := c107b0; simp only [hl8_4] at c107r0))
        by_cases c108 : x41_3 < (t393.length : Int)
        rotate_left
        ·rw [if_neg c108] at H
         exact absurd H (by simp)
        rw [if_pos c108] at H
        have c108b0 : decide (x41_3 < (t393.length : Int)) = true := decide_eq_true c108
        clear c108
        (try (have c108r0 := c108b0; simp only [hl8_4] at c108r0))
        have H' := Aside0.mk H
        clear H
        have p421 : 0 ≤ (x41_3 : Int) := of_decide_eq_true (by first | (with_reducible assumption) | assumption)
        have q421 : x41_3 < (t393.length : Int) := of_decide_eq_true (by first | (with_reducible assumption) | assumption)
        obtain ⟨ad421, A421_0, c421_0, e421, hx421_0, hl421_0, hi421_0⟩ := at_L3 (Kd.S_reads' HO_3.out).2.2 x41_3 p421 q421
        cases e421
        obtain ⟨ce421, hce421, hMe421, hcc421⟩ := Kd.S_get HO_3.out [] x41_3 p421 (by first | exact q421 | exact of_decide_eq_true (by first | (with_reducible assumption) | assumption) | (have e_ := (Kd.S_reads' HO_3.out).1; omega))
        obtain ⟨ve421_0, rfl, ge421_0⟩ := hMe421
        have hv421_0 := hcc421 0 _ rfl
        rw [Nat.add_zero, show ((Kd.slice 3 (Kd.int .i64))).sz = 1 from rfl, Nat.mul_one] at hv421_0
        replace hv421_0 := Option.some.inj (hv421_0.symm.trans hx421_0)
        rw [hv421_0] at ge421_0
        have HL421_0 := Aside0.mk (show Kd.R (Kd.int .i64) 3 _ _ _ _ (rd_L3 t393 x41_3) from ge421_0)
        clear hv421_0 ge421_0
        clear hcc421 hce421
        have HR421_0 := Aside0.mk hi421_0
        have HC421_0 := Aside0.mk hl421_0
        clear hi421_0 hl421_0
        replace p421 := eq_true p421
        replace q421 := eq_true q421
        go_wp2
        go_loopg [6, 126] k4 (fun kq v6 v126 w' => ∃ (x6_5 : Int) (x126_5 : Int), v6 = .int .i64 x6_5 ∧ v126 = .int .i64 x126_5 ∧ Aside0 (timesynclaw18_TopoDistances.l2 kq t393 t397 x6_5 x41_3 x8_4 (t393.length : Int) x41_3 (rd_L3 t393 x41_3) ((rd_L3 t393 x41_3).length : Int) x126_5 a0_0 l0_1 = some r) ∧ Aside0 (kq ≤ k4) ∧ Aside0 (Kd.S (Kd.slice 3 (Kd.int .i64)) 30 w' w.heap.size (fun k_ => some k_ ≠ (v398 : Value).ownBlock) (.slice (some ad421) t393.length co27) t393) ∧ Aside0 (Kd.R (Kd.int .i64) 3 w' w.heap.size (fun _ => True) v398 t397) ∧ Aside0 (Kd.R Kd.bool 4 w' w.heap.size (fun _ => True) (.slice (some ⟨go33, 0, none⟩) x8_4.length co33) x8_4) ∧ Aside0 (w'.heap[gb389]? = some (.cells #[.int .i64 a0_0, (.slice A0_1 l0_1.length c0_1)] 24 (0, 0))) ∧ Aside0 (Kd.C (Kd.int .i64) w' A421_0 (rd_L3 t393 x41_3).length (rd_L3 t393 x41_3)) ∧ Aside0 (Below w.heap.size w w'))
        case atStart => exact ⟨(x6_3), (0), (by first | rfl | (simp; done) | (simp [*]; done)), (by first | rfl | (simp; done) | (simp [*]; done)), H', ⟨Nat.le_refl _⟩, ⟨by (try simp only [hl8_4]); (with_reducible repeat (first | apply Kd.S_alloc | apply Kd.S_drewN | apply Kd.S_drew)); exact HO_3.out⟩, ⟨by (try simp only [hl8_4]); (with_reducible repeat (first | apply Kd.R_alloc | apply Kd.R_drewN | apply Kd.R_drew)); exact HO_5.out⟩, ⟨by (try simp only [hl8_4]); (with_reducible repeat (first | apply Kd.R_alloc | apply Kd.R_drewN | apply Kd.R_drew)); exact HO_8.out⟩, ⟨by (try simp only [hl8_4]); (with_reducible repeat (first | refine blk_drewN ?_ _ | refine blk_drew ?_ | refine blk_alloc ?_ _)); exact BK389.out⟩, ⟨by repeat (first | (with_reducible exact HR421_0.out) | (with_reducible refine Kd.C_alloc ?_ _) | (with_reducible refine Kd.C_drewN ?_ _) | (with_reducible refine Kd.C_drew ?_) | exact HR421_0.out)⟩, ⟨by repeat (first | (with_reducible first | exact HB.out | apply below_alloc | apply pw_below_drewN | apply below_drew1 | refine below_set ?_ GE389.out) | exact HB.out)⟩⟩
        clear H'
        try clear c1
        try clear p2
        try clear c4
        try clear p4
        try clear q4
        try clear hx4
        try clear c5
        try clear q5
        try clear p6
        try clear c8
        try clear p8
        try clear q8
        try clear hx8
        try clear hf8
        try clear p9
        try clear q9
        try clear hx9
        try clear hf9
        try clear c10
        try clear c40
        try clear c40b0
        try clear hx40
        try clear c41
        try clear p41
        try clear q41
        try clear hx41
        try clear c42
        try clear p42
        try clear q42
        try clear hx42
        try clear c43
        try clear c44
        try clear c45
        try clear c46
        try clear c47
        try clear c48
        try clear c52
        try clear q53
        try clear p64
        try clear p81
        try clear q81
        try clear hx81
        try clear hf81
        try clear c82
        try clear q83
        try clear p96
        try clear q96
        try clear hx96
        try clear hf96
        try clear c107
        try clear c107b0
        try clear c108
        try clear c108b0
        try clear hx408_0
        try clear hx409_0
        try clear hx410_0
        try clear hx411_0
        try clear hx412_0
        try clear hx418_0
        try clear hx421_0
        try clear hx81_0
        try clear hx96_0
        try clear p411
        try clear p412
        try clear p418
        try clear p421
        try clear p81
        try clear p96
        try clear q411
        try clear q412
        try clear q418
        try clear q421
        try clear q81
        try clear q96
        obtain ⟨x6_5, x126_5, rfl, rfl, HA, HK5, HO_3, HO_5, HO_8, BK389, HR421_0, HB⟩ := hrel
        cases gk with
        | zero => exact absurd HA.out (by simp [timesynclaw18_TopoDistances.l2])
        | succ k5 =>
         have H := HA.out
         clear HA
         simp only [timesynclaw18_TopoDistances.l2] at H
         by_cases c109 : x126_5 < ((rd_L3 t393 x41_3).length : Int)
         rotate_left
         ·as_aux_lemma =>
           rw [if_neg c109] at H
           have c109b0 : decide (x126_5 < ((rd_L3 t393 x41_3).length : Int)) = false := decide_eq_false c109
           clear c109
           (try (have c109r0 := c109b0; simp only [hl8_4] at c109r0))
           by_cases c140 : 0 ≤ x41_3
           rotate_left
           ·rw [if_neg c140] at H
            exact absurd H (by simp)
           rw [if_pos c140] at H
           have c140b0 : decide (0 ≤ x41_3) = true := decide_eq_true c140
           clear c140
           (try (have c140r0 := c140b0; simp only [hl8_4] at c140r0))
           by_cases c141 : x41_3 < (t397.length : Int)
           rotate_left
           ·rw [if_neg c141] at H
            exact absurd H (by simp)
           rw [if_pos c141] at H
           have c141b0 : decide (x41_3 < (t397.length : Int)) = true := decide_eq_true c141
           clear c141
           (try (have c141r0 := c141b0; simp only [hl8_4] at c141r0))
           by_cases c142 : x41_3 < (t393.length : Int)
           rotate_left
           ·rw [if_neg c142] at H
            exact absurd H (by simp)
           rw [if_pos c142] at H
           have c142b0 : decide (x41_3 < (t393.length : Int)) = true := decide_eq_true c142
           clear c142
           (try (have c142r0 := c142b0; simp only [hl8_4] at c142r0))
           replace H := Option.bind_eq_some_iff.mp H
           obtain ⟨t434, A1430, H⟩ := H
           replace H : (if (rd t397 x41_3) = t434 then (timesynclaw18_TopoDistances.l0 k5 t393 t397 x6_5 (t393.length : Int) (wrap64 (x41_3 + 1)) a0_0 l0_1) else (none)) = some r := H
           have A143 := Aside0.mk A1430
           clear A1430
           by_cases c144 : (rd t397 x41_3) = t434
           rotate_left
           ·rw [if_neg c144] at H
            exact absurd H (by simp)
           rw [if_pos c144] at H
           have c144b0 : ((rd t397 x41_3) == t434) = true := beq_iff_eq.mpr c144
           have c144b1 : ((rd t397 x41_3) != t434) = false := bne_eq_false_iff_eq.mpr c144
           clear c144
           (try (have c144r0 := c144b0; simp only [hl8_4] at c144r0))
           (try (have c144r1 := c144b1; simp only [hl8_4] at c144r1))
           have H' := Aside0.mk H
           clear H
           try go_wp2
           have n0_ := Aside0.mk (Kd.S_drew HO_3.out)
           have n1_ := Aside0.mk (Kd.R_drew HO_5.out)
           have n2_ := Aside0.mk (Kd.R_drew HO_8.out)
           have n3_ := Aside0.mk (blk_drew BK389.out)
           have n4_ := Aside0.mk (Kd.C_drew HR421_0.out)
           have n5_ := Aside0.mk (below_drew1 HB.out)
           clear HO_3
           clear HO_5
           clear HO_8
           clear BK389
           clear HR421_0
           clear HB
           have HO_3 := n0_
           have HO_5 := n1_
           have HO_8 := n2_
           have BK389 := n3_
           have HR421_0 := n4_
           have HB := n5_
           clear n0_ n1_ n2_ n3_ n4_ n5_
           obtain ⟨Ao146, co146, eo146⟩ := Kd.R_slice HO_5.out
           (first | subst eo146 | (injection eo146 with f1_ f2_ f3_; have f4_ := f1_.symm; have f5_ := f3_.symm; clear f1_ f2_ f3_; subst f4_; subst f5_))
           have p432 : 0 ≤ (x41_3 : Int) := of_decide_eq_true (by first | (with_reducible assumption) | assumption)
           have q432 : x41_3 < (t397.length : Int) := of_decide_eq_true (by first | (with_reducible assumption) | assumption)
           obtain ⟨ad432, e432, hx432_0⟩ := Kd.at_int (Kd.R_reads' HO_5.out).2.2 x41_3 p432 q432
           cases e432
           replace p432 := eq_true p432
           replace q432 := eq_true q432
           have p433 : 0 ≤ (x41_3 : Int) := of_decide_eq_true (by first | (with_reducible assumption) | assumption)
           have q433 : x41_3 < (t393.length : Int) := of_decide_eq_true (by first | (with_reducible assumption) | assumption)
           obtain ⟨ad433, A433_0, c433_0, e433, hx433_0, hl433_0, hi433_0⟩ := at_L3 (Kd.S_reads' HO_3.out).2.2 x41_3 p433 q433
           obtain rfl : ad421 = ad433 := (by injection e433)
           obtain ⟨ce433, hce433, hMe433, hcc433⟩ := Kd.S_get HO_3.out [] x41_3 p433 (by first | exact q433 | exact of_decide_eq_true (by first | (with_reducible assumption) | assumption) | (have e_ := (Kd.S_reads' HO_3.out).1; omega))
           obtain ⟨ve433_0, rfl, ge433_0⟩ := hMe433
           have hv433_0 := hcc433 0 _ rfl
           rw [Nat.add_zero, show ((Kd.slice 3 (Kd.int .i64))).sz = 1 from rfl, Nat.mul_one] at hv433_0
           replace hv433_0 := Option.some.inj (hv433_0.symm.trans hx433_0)
           rw [hv433_0] at ge433_0
           have HL433_0 := Aside0.mk (show Kd.R (Kd.int .i64) 3 _ _ _ _ (rd_L3 t393 x41_3) from ge433_0)
           clear hv433_0 ge433_0
           clear hcc433 hce433
           have HR433_0 := Aside0.mk hi433_0
           have HC433_0 := Aside0.mk hl433_0
           clear hi433_0 hl433_0
           replace p433 := eq_true p433
           replace q433 := eq_true q433
           refine start_ (n := 10) (S := fun w' => w'.cell? (ad432.add (x41_3).toNat) = some (.int .i64 (rd t397 x41_3)) ∧ w'.cell? (ad421.add (x41_3).toNat) = some (.slice A433_0 (rd_L3 t393 x41_3).length c433_0)) (ds := []) (Go.Proofs.Ythkpnkmbmlbefaa.HG.bz [0, 10]) (by kernel_rfl) rfl rfl ⟨hx432_0, hx433_0⟩ (fun hHeld => ?_); refine with_tabW timesynclaw18_TopoDistances.tab29 timesynclaw18_TopoDistances.bits29 (fun HT_ HW_ => ?_)
           generalize wr.drew = w145 at HO_3 HO_5 HO_8 BK389 HR421_0 HB HL433_0 HR433_0 hx432_0 hx433_0 hHeld ⊢
           refine pure_ (i := 0) (N := some 197) (v := ?_) (a' := ?_) (Go.Proofs.Ythkpnkmbmlbefaa.HG.bz [1, 9]) rfl rfl (any_of HT_.out (by kernel_rfl)) (fun _ _ _ h => h) (Or.inl ⟨by rfl, ?_⟩) ?_ ?_
           rotate_left
           ·intro w'
            go_simp
            with_reducible rfl
           rotate_left
           ·simp only [Act.put, List.setIfInBounds_toArray, List.set_cons_zero, List.set_cons_succ, i64_w, i32_w]
            rfl
           refine pure_ (i := 1) (N := some 198) (v := ?_) (a' := ?_) (Go.Proofs.Ythkpnkmbmlbefaa.HG.bz [2, 8]) rfl rfl (any_of HT_.out (by kernel_rfl)) (fun _ _ _ h => h) (Or.inl ⟨by rfl, ?_⟩) ?_ ?_
           rotate_left
           ·intro w'
            go_simp
            with_reducible rfl
           rotate_left
           ·simp only [Act.put, List.setIfInBounds_toArray, List.set_cons_zero, List.set_cons_succ, i64_w, i32_w]
            rfl
           refine pure_ (i := 2) (N := some 199) (v := ?_) (a' := ?_) (Go.Proofs.Ythkpnkmbmlbefaa.HG.bz [3, 7]) rfl rfl (any_of HT_.out (by kernel_rfl)) (fun _ _ _ h => h) (Or.inl ⟨by rfl, ?_⟩) ?_ ?_
           rotate_left
           ·intro w'
            go_simp
            with_reducible rfl
           rotate_left
           ·simp only [Act.put, List.setIfInBounds_toArray, List.set_cons_zero, List.set_cons_succ, i64_w, i32_w]
            rfl
           refine pure_ (i := 4) (N := some 201) (v := ?_) (a' := ?_) (Go.Proofs.Ythkpnkmbmlbefaa.HG.bz [3, 1, 1, 5]) rfl rfl (any_of HT_.out (by kernel_rfl)) (fun _ _ _ h => h) (Or.inl ⟨by rfl, ?_⟩) ?_ ?_
           rotate_left
           ·intro w'
            go_simp
            with_reducible rfl
           rotate_left
           ·simp only [Act.put, List.setIfInBounds_toArray, List.set_cons_zero, List.set_cons_succ, i64_w, i32_w]
            rfl
           refine pure_ (i := 5) (N := some 202) (v := ?_) (a' := ?_) (Go.Proofs.Ythkpnkmbmlbefaa.HG.bz [3, 1, 2, 4]) rfl rfl (any_of HT_.out (by kernel_rfl)) (fun _ _ _ h => h) (Or.inl ⟨by rfl, ?_⟩) ?_ ?_
           rotate_left
           ·intro w'
            go_simp
            with_reducible rfl
           rotate_left
           ·simp only [Act.put, List.setIfInBounds_toArray, List.set_cons_zero, List.set_cons_succ, i64_w, i32_w]
            rfl
           refine pure_ (i := 6) (N := some 203) (v := ?_) (a' := ?_) (Go.Proofs.Ythkpnkmbmlbefaa.HG.bz [3, 1, 3, 3]) rfl rfl (any_of HT_.out (by kernel_rfl)) (fun _ _ _ h => h) (Or.inl ⟨by rfl, ?_⟩) ?_ ?_
           rotate_left
           ·intro w'
            go_simp
            with_reducible rfl
           rotate_left
           ·simp only [Act.put, List.setIfInBounds_toArray, List.set_cons_zero, List.set_cons_succ, i64_w, i32_w]
            rfl
           refine take_ (i := 3) (N := some 200) (v := ?_) (a' := ?_) (Go.Proofs.Ythkpnkmbmlbefaa.HG.bz [7, 3]) rfl rfl (take_ofW HT_.out HW_.out (by kernel_rfl)) (fun _ _ _ h => h) (Or.inl ⟨by rfl, ?_⟩) hHeld ?_ ?_
           rotate_left
           ·rintro w' ⟨s0, s1⟩
            go_simp
            with_reducible rfl
           rotate_left
           ·simp only [Act.put, List.setIfInBounds_toArray, List.set_cons_zero, List.set_cons_succ, i64_w, i32_w]
            rfl
           refine take_ (i := 7) (N := some 204) (v := ?_) (a' := ?_) (Go.Proofs.Ythkpnkmbmlbefaa.HG.bz [8, 2]) rfl rfl (take_ofW HT_.out HW_.out (by kernel_rfl)) (fun _ _ _ h => h) (Or.inl ⟨by rfl, ?_⟩) hHeld ?_ ?_
           rotate_left
           ·rintro w' ⟨s0, s1⟩
            go_simp
            with_reducible rfl
           rotate_left
           ·simp only [Act.put, List.setIfInBounds_toArray, List.set_cons_zero, List.set_cons_succ, i64_w, i32_w]
            rfl
           refine one_ (i := 8) (N := some 205) (Go.Proofs.Ythkpnkmbmlbefaa.HG.bz [9, 1]) rfl rfl (one_of HT_.out (by kernel_rfl)) (by decide) (fun K hK => ?_)
           refine goes_ Try.func37 (by kernel_rfl) rfl #[.slice A433_0 (rd_L3 t393 x41_3).length c433_0, .func (.func 38) #[] #[]] (by rfl) rfl rfl (by (try simp only [List.map_toArray, List.map_cons, List.map_nil]); first | done | rfl | (simp only [List.length_drop, List.length_take]; rfl)) ?_
           with_reducible refine (slices_IndexFunc_int_int_38.calls k5 _ _ (rd_L3 t393 x41_3)  t434 _ ?side1 ?side2 A143.out).mono ?_
           (case side1 => repeat (first | exact (by repeat (first | (with_reducible exact HR433_0.out) | (with_reducible refine Kd.C_alloc ?_ _) | (with_reducible refine Kd.C_drewN ?_ _) | (with_reducible refine Kd.C_drew ?_) | exact HR433_0.out)) | (with_reducible refine Kd.C_alloc ?_ _) | (with_reducible refine Kd.C_drewN ?_ _) | (with_reducible refine Kd.C_drew ?_)))
           (case side2 => exact HC433_0.out)
           rintro e w147 ⟨rfl, hb⟩
           have HS0_ := (hb.cell (World.block_lt_of_cell? _ _ (hHeld.1))).trans (hHeld.1)
           have HS1_ := (hb.cell (World.block_lt_of_cell? _ _ (hHeld.2))).trans (hHeld.2)
           refine ⟨_, rfl, ?_⟩
           have n0_ := Aside0.mk (Kd.S_below (by (with_reducible repeat (first | apply Kd.S_alloc | apply Kd.S_drewN | apply Kd.S_drew)); exact HO_3.out) hb)
           have n1_ := Aside0.mk (Kd.R_below (by (with_reducible repeat (first | apply Kd.R_alloc | apply Kd.R_drewN | apply Kd.R_drew)); exact HO_5.out) hb)
           have n2_ := Aside0.mk (Kd.R_below (by (with_reducible repeat (first | apply Kd.R_alloc | apply Kd.R_drewN | apply Kd.R_drew)); exact HO_8.out) hb)
           have n3_ := Aside0.mk (Kd.R_below (by (with_reducible repeat (first | apply Kd.R_alloc | apply Kd.R_drewN | apply Kd.R_drew)); exact HL433_0.out) hb)
           have n4_ := Aside0.mk (blk_below (g := gb389) (o := .cells #[.int .i64 a0_0, .slice A0_1 l0_1.length c0_1] 24 (0, 0)) (by (with_reducible repeat (first | refine blk_drewN ?_ _ | refine blk_drew ?_ | refine blk_alloc ?_ _)); exact BK389.out) hb)
           have n5_ := Aside0.mk (Kd.C_below (by repeat (first | (with_reducible exact HR421_0.out) | (with_reducible refine Kd.C_alloc ?_ _) | (with_reducible refine Kd.C_drewN ?_ _) | (with_reducible refine Kd.C_drew ?_) | exact HR421_0.out)) hb)
           have n6_ := Aside0.mk (Kd.C_below (by repeat (first | (with_reducible exact HR433_0.out) | (with_reducible refine Kd.C_alloc ?_ _) | (with_reducible refine Kd.C_drewN ?_ _) | (with_reducible refine Kd.C_drew ?_) | exact HR433_0.out)) hb)
           have n7_ := Aside0.mk (below_step (by repeat (first | (with_reducible first | exact HB.out | apply below_alloc | apply pw_below_drewN | apply below_drew1 | refine below_set ?_ GE389.out) | exact HB.out)) hb)
           clear HO_3
           clear HO_5
           clear HO_8
           clear HL433_0
           clear BK389
           clear HR421_0
           clear HR433_0
           clear HB
           have HO_3 := n0_
           have HO_5 := n1_
           have HO_8 := n2_
           have HL433_0 := n3_
           have BK389 := n4_
           have HR421_0 := n5_
           have HR433_0 := n6_
           have HB := n7_
           clear n0_ n1_ n2_ n3_ n4_ n5_ n6_ n7_
           (try clear hb)
           (try clear hb2)
           (try clear hk)
           (try clear hi)
           refine hK.out _ _ ⟨HS0_, HS1_⟩ (fun hHeld => ?_)
           clear hK K
           refine norm_ (a' := ?_) ?_ ?_
           rotate_left
           ·show Act.put _ (some 205) _ = _
            simp only [Act.put, List.setIfInBounds_toArray, List.set_cons_zero, List.set_cons_succ, i64_w, i32_w]
            rfl
           refine pure_ (i := 9) (N := some 206) (v := ?_) (a' := ?_) (Go.Proofs.Ythkpnkmbmlbefaa.HG.bz [10]) rfl rfl (any_of HT_.out (by kernel_rfl)) (fun _ _ _ h => h) (Or.inl ⟨by rfl, ?_⟩) ?_ ?_
           rotate_left
           ·intro w'
            go_simp
            with_reducible rfl
           rotate_left
           ·simp only [Act.put, List.setIfInBounds_toArray, List.set_cons_zero, List.set_cons_succ, i64_w, i32_w]
            rfl
           refine done_ (done_of HT_.out (by kernel_rfl)) ?_
           try go_wp2
           (try simp only [← hl8_4])
           go_roundg k5
           case measure => have := HJ1.out; have := HJ17.out; have := HK3.out; have := HK4.out; have := HK5.out; omega
           case rel => exact ⟨(x6_5), (wrap64 (x41_3 + 1)), (by first | rfl | (simp; done) | (simp [*]; done)), (by first | rfl | (simp; done) | (simp [*]; done)), H', ⟨by have := HJ1.out; have := HJ17.out; have := HK3.out; have := HK4.out; have := HK5.out; omega⟩, ⟨by (try simp only [hl8_4]); (with_reducible repeat (first | apply Kd.S_alloc | apply Kd.S_drewN | apply Kd.S_drew)); exact HO_3.out⟩, ⟨by (try simp only [hl8_4]); (with_reducible repeat (first | apply Kd.R_alloc | apply Kd.R_drewN | apply Kd.R_drew)); exact HO_5.out⟩, ⟨by (try simp only [hl8_4]); (with_reducible repeat (first | refine blk_drewN ?_ _ | refine blk_drew ?_ | refine blk_alloc ?_ _)); exact BK389.out⟩, ⟨by repeat (first | (with_reducible first | exact HB.out | apply below_alloc | apply pw_below_drewN | apply below_drew1 | refine below_set ?_ GE389.out) | exact HB.out)⟩⟩
         as_aux_lemma =>
          rw [if_pos c109] at H
          have c109b0 : decide (x126_5 < ((rd_L3 t393 x41_3).length : Int)) = true := decide_eq_true c109
          clear c109
          (try (have c109r0 := c109b0; simp only [hl8_4] at c109r0))
          by_cases c110 : 0 ≤ x126_5
          rotate_left
          ·rw [if_neg c110] at H
           exact absurd H (by simp)
          rw [if_pos c110] at H
          have c110b0 : decide (0 ≤ x126_5) = true := decide_eq_true c110
          clear c110
          (try (have c110r0 := c110b0; simp only [hl8_4] at c110r0))
          by_cases c111 : x126_5 < ((rd_L3 t393 x41_3).length : Int)
          rotate_left
          ·rw [if_neg c111] at H
           exact absurd H (by simp)
          rw [if_pos c111] at H
          have c111b0 : decide (x126_5 < ((rd_L3 t393 x41_3).length : Int)) = true := decide_eq_true c111
          clear c111
          (try (have c111r0 := c111b0; simp only [hl8_4] at c111r0))
          by_cases c112 : (rd (rd_L3 t393 x41_3) x126_5) < (-1)
          ·rw [if_pos c112] at H
           have c112b0 : decide ((rd (rd_L3 t393 x41_3) x126_5) < (-1)) = true := decide_eq_true c112
           clear c112
           (try (have c112r0 := c112b0; simp only [hl8_4] at c112r0))
           exact absurd H (by simp)
          rw [if_neg c112] at H
          have c112b0 : decide ((rd (rd_L3 t393 x41_3) x126_5) < (-1)) = false := decide_eq_false c112
          clear c112
          (try (have c112r0 := c112b0; simp only [hl8_4] at c112r0))
          by_cases c113 : (((rd (rd_L3 t393 x41_3) x126_5) == 0) != (x41_3 == x126_5)) = true
          ·rw [if_pos c113] at H
           have c113b0 : (((rd (rd_L3 t393 x41_3) x126_5) == 0) != (x41_3 == x126_5)) = true := c113
           (try (have c113b1 : decide (((rd (rd_L3 t393 x41_3) x126_5) == 0) = (x41_3 == x126_5)) = false := by simpa using c113))
           (try (have c113b2 : (((rd (rd_L3 t393 x41_3) x126_5) == 0) == (x41_3 == x126_5)) = false := by simpa using c113))
           (try (have c113b3 : ¬ (((rd (rd_L3 t393 x41_3) x126_5) == 0) = (x41_3 == x126_5)) := by simpa using c113))
           clear c113
           (try (have c113r0 := c113b0; simp only [hl8_4] at c113r0))
           exact absurd H (by simp)
          rw [if_neg c113] at H
          have c113b0 : (((rd (rd_L3 t393 x41_3) x126_5) == 0) != (x41_3 == x126_5)) = false := by simpa using c113
          (try (have c113b1 : decide (((rd (rd_L3 t393 x41_3) x126_5) == 0) = (x41_3 == x126_5)) = true := by simpa using c113))
          (try (have c113b2 : (((rd (rd_L3 t393 x41_3) x126_5) == 0) == (x41_3 == x126_5)) = true := by simpa using c113))
          clear c113
          (try (have c113r0 := c113b0; simp only [hl8_4] at c113r0))
          by_cases c114 : (rd (rd_L3 t393 x41_3) x126_5) ≥ 0
          rotate_left
          ·as_aux_lemma =>
            rw [if_neg c114] at H
            have c114b0 : decide (0 ≤ (rd (rd_L3 t393 x41_3) x126_5)) = false := decide_eq_false c114
            clear c114
            (try (have c114r0 := c114b0; simp only [hl8_4] at c114r0))
            by_cases c129 : x126_5 < (t393.length : Int)
            rotate_left
            ·rw [if_neg c129] at H
             exact absurd H (by simp)
            rw [if_pos c129] at H
            have c129b0 : decide (x126_5 < (t393.length : Int)) = true := decide_eq_true c129
            clear c129
            (try (have c129r0 := c129b0; simp only [hl8_4] at c129r0))
            by_cases c130 : 0 ≤ x41_3
            rotate_left
            ·rw [if_neg c130] at H
             exact absurd H (by simp)
            rw [if_pos c130] at H
            have c130b0 : decide (0 ≤ x41_3) = true := decide_eq_true c130
            clear c130
            (try (have c130r0 := c130b0; simp only [hl8_4] at c130r0))
            by_cases c131 : x41_3 < ((rd_L3 t393 x126_5).length : Int)
            rotate_left
            ·rw [if_neg c131] at H
             exact absurd H (by simp)
            rw [if_pos c131] at H
            have c131b0 : decide (x41_3 < ((rd_L3 t393 x126_5).length : Int)) = true := decide_eq_true c131
            clear c131
            (try (have c131r0 := c131b0; simp only [hl8_4] at c131r0))
            by_cases c132 : (rd (rd_L3 t393 x41_3) x126_5) = (rd (rd_L3 t393 x126_5) x41_3)
            rotate_left
            ·rw [if_neg c132] at H
             have c132b0 : ((rd (rd_L3 t393 x41_3) x126_5) == (rd (rd_L3 t393 x126_5) x41_3)) = false := beq_eq_false_iff_ne.mpr c132
             have c132b1 : ((rd (rd_L3 t393 x41_3) x126_5) != (rd (rd_L3 t393 x126_5) x41_3)) = true := bne_iff_ne.mpr c132
             (try (have c132r0 := c132b0; simp only [hl8_4] at c132r0))
             (try (have c132r1 := c132b1; simp only [hl8_4] at c132r1))
             exact absurd H (by simp)
            rw [if_pos c132] at H
            have c132b0 : ((rd (rd_L3 t393 x41_3) x126_5) == (rd (rd_L3 t393 x126_5) x41_3)) = true := beq_iff_eq.mpr c132
            have c132b1 : ((rd (rd_L3 t393 x41_3) x126_5) != (rd (rd_L3 t393 x126_5) x41_3)) = false := bne_eq_false_iff_eq.mpr c132
            clear c132
            (try (have c132r0 := c132b0; simp only [hl8_4] at c132r0))
            (try (have c132r1 := c132b1; simp only [hl8_4] at c132r1))
            by_cases c133 : (rd (rd_L3 t393 x41_3) x126_5) < 0
            rotate_left
            ·rw [if_neg c133] at H
             exact absurd H (by simp)
            rw [if_pos c133] at H
            have c133b0 : decide ((rd (rd_L3 t393 x41_3) x126_5) < 0) = true := decide_eq_true c133
            clear c133
            (try (have c133r0 := c133b0; simp only [hl8_4] at c133r0))
            by_cases c134 : x126_5 < (t397.length : Int)
            rotate_left
            ·rw [if_neg c134] at H
             exact absurd H (by simp)
            rw [if_pos c134] at H
            have c134b0 : decide (x126_5 < (t397.length : Int)) = true := decide_eq_true c134
            clear c134
            (try (have c134r0 := c134b0; simp only [hl8_4] at c134r0))
            by_cases c135 : x41_3 < (t397.length : Int)
            rotate_left
            ·rw [if_neg c135] at H
             exact absurd H (by simp)
            rw [if_pos c135] at H
            have c135b0 : decide (x41_3 < (t397.length : Int)) = true := decide_eq_true c135
            clear c135
            (try (have c135r0 := c135b0; simp only [hl8_4] at c135r0))
            by_cases c136 : (rd t397 x126_5) = (rd t397 x41_3)
            ·rw [if_pos c136] at H
             exact absurd H (by simp)
            rw [if_neg c136] at H
            have c136b0 : ((rd t397 x126_5) == (rd t397 x41_3)) = false := beq_eq_false_iff_ne.mpr c136
            have c136b1 : ((rd t397 x126_5) != (rd t397 x41_3)) = true := bne_iff_ne.mpr c136
            (try (have c136r0 := c136b0; simp only [hl8_4] at c136r0))
            (try (have c136r1 := c136b1; simp only [hl8_4] at c136r1))
            obtain ⟨ji137, hji137⟩ : ∃ j_ : Int, (mx x6_5 (rd (rd_L3 t393 x41_3) x126_5)) = j_ := ⟨_, rfl⟩
            replace H : (timesynclaw18_TopoDistances.l2 k5 t393 t397 ji137 x41_3 x8_4 (t393.length : Int) x41_3 (rd_L3 t393 x41_3) ((rd_L3 t393 x41_3).length : Int) (wrap64 (x126_5 + 1)) a0_0 l0_1) = some r := by first | (rw [hji137] at H; exact H) | (simp only [hji137] at H ⊢; exact H)
            have hji137_ : (if x6_5 < (rd (rd_L3 t393 x41_3) x126_5) then (rd (rd_L3 t393 x41_3) x126_5) else x6_5) = ji137 := hji137
            have H' := Aside0.mk H
            clear H
            have p422 : 0 ≤ (x126_5 : Int) := of_decide_eq_true (by first | (with_reducible assumption) | assumption)
            have q422 : x126_5 < ((rd_L3 t393 x41_3).length : Int) := of_decide_eq_true (by first | (with_reducible assumption) | assumption)
            obtain ⟨ad422, e422, hx422_0⟩ := Kd.at_int HR421_0.out x126_5 p422 q422
            cases e422
            try replace hx422_0 := (HB.out.cell (World.block_lt_of_cell? w _ hx422_0)).trans hx422_0
            replace p422 := eq_true p422
            replace q422 := eq_true q422
            try go_wp2
            have n0_ := Aside0.mk (Kd.S_drew HO_3.out)
            have n1_ := Aside0.mk (Kd.R_drew HO_5.out)
            have n2_ := Aside0.mk (Kd.R_drew HO_8.out)
            have n3_ := Aside0.mk (blk_drew BK389.out)
            have n4_ := Aside0.mk (Kd.C_drew HR421_0.out)
            have n5_ := Aside0.mk (below_drew1 HB.out)
            clear HO_3
            clear HO_5
            clear HO_8
            clear BK389
            clear HR421_0
            clear HB
            have HO_3 := n0_
            have HO_5 := n1_
            have HO_8 := n2_
            have BK389 := n3_
            have HR421_0 := n4_
            have HB := n5_
            clear n0_ n1_ n2_ n3_ n4_ n5_
            have p428 : 0 ≤ (x126_5 : Int) := of_decide_eq_true (by first | (with_reducible assumption) | assumption)
            have q428 : x126_5 < (t393.length : Int) := of_decide_eq_true (by first | (with_reducible assumption) | assumption)
            obtain ⟨ad428, A428_0, c428_0, e428, hx428_0, hl428_0, hi428_0⟩ := at_L3 (Kd.S_reads' HO_3.out).2.2 x126_5 p428 q428
            obtain rfl : ad421 = ad428 := (by injection e428)
            obtain ⟨ce428, hce428, hMe428, hcc428⟩ := Kd.S_get HO_3.out [] x126_5 p428 (by first | exact q428 | exact of_decide_eq_true (by first | (with_reducible assumption) | assumption) | (have e_ := (Kd.S_reads' HO_3.out).1; omega))
            obtain ⟨ve428_0, rfl, ge428_0⟩ := hMe428
            have hv428_0 := hcc428 0 _ rfl
            rw [Nat.add_zero, show ((Kd.slice 3 (Kd.int .i64))).sz = 1 from rfl, Nat.mul_one] at hv428_0
            replace hv428_0 := Option.some.inj (hv428_0.symm.trans hx428_0)
            rw [hv428_0] at ge428_0
            have HL428_0 := Aside0.mk (show Kd.R (Kd.int .i64) 3 _ _ _ _ (rd_L3 t393 x126_5) from ge428_0)
            clear hv428_0 ge428_0
            clear hcc428 hce428
            have HR428_0 := Aside0.mk hi428_0
            have HC428_0 := Aside0.mk hl428_0
            clear hi428_0 hl428_0
            replace p428 := eq_true p428
            replace q428 := eq_true q428
            have p429 : 0 ≤ (x41_3 : Int) := of_decide_eq_true (by first | (with_reducible assumption) | assumption)
            have q429 : x41_3 < ((rd_L3 t393 x126_5).length : Int) := of_decide_eq_true (by first | (with_reducible assumption) | assumption)
            obtain ⟨ad429, e429, hx429_0⟩ := Kd.at_int (by repeat (first | (with_reducible exact HR428_0.out) | (with_reducible refine Kd.C_alloc ?_ _) | (with_reducible refine Kd.C_drewN ?_ _) | (with_reducible refine Kd.C_drew ?_) | exact HR428_0.out)) x41_3 p429 q429
            cases e429
            replace p429 := eq_true p429
            replace q429 := eq_true q429
            obtain ⟨Ao139, co139, eo139⟩ := Kd.R_slice HO_5.out
            (first | subst eo139 | (injection eo139 with f1_ f2_ f3_; have f4_ := f1_.symm; have f5_ := f3_.symm; clear f1_ f2_ f3_; subst f4_; subst f5_))
            have p430 : 0 ≤ (x126_5 : Int) := of_decide_eq_true (by first | (with_reducible assumption) | assumption)
            have q430 : x126_5 < (t397.length : Int) := of_decide_eq_true (by first | (with_reducible assumption) | assumption)
            obtain ⟨ad430, e430, hx430_0⟩ := Kd.at_int (Kd.R_reads' HO_5.out).2.2 x126_5 p430 q430
            cases e430
            replace p430 := eq_true p430
            replace q430 := eq_true q430
            have p431 : 0 ≤ (x41_3 : Int) := of_decide_eq_true (by first | (with_reducible assumption) | assumption)
            have q431 : x41_3 < (t397.length : Int) := of_decide_eq_true (by first | (with_reducible assumption) | assumption)
            obtain ⟨ad431, e431, hx431_0⟩ := Kd.at_int (Kd.R_reads' HO_5.out).2.2 x41_3 p431 q431
            obtain rfl : ad430 = ad431 := (by injection e431)
            replace p431 := eq_true p431
            replace q431 := eq_true q431
            refine start_ (n := 62) (S := fun w' => w'.cell? (ad421.add (x126_5).toNat) = some (.slice (some ad429) (rd_L3 t393 x126_5).length c428_0) ∧ w'.cell? (ad429.add (x41_3).toNat) = some (.int .i64 (rd (rd_L3 t393 x126_5) x41_3)) ∧ w'.cell? (ad430.add (x126_5).toNat) = some (.int .i64 (rd t397 x126_5)) ∧ w'.cell? (ad430.add (x41_3).toNat) = some (.int .i64 (rd t397 x41_3))) (ds := []) (Go.Proofs.Ythkpnkmbmlbefaa.HG.bz [0, 62]) (by kernel_rfl) rfl rfl ⟨hx428_0, hx429_0, hx430_0, hx431_0⟩ (fun hHeld => ?_); refine with_tabW timesynclaw18_TopoDistances.tab25 timesynclaw18_TopoDistances.bits25 (fun HT_ HW_ => ?_)
            generalize wr.drew = w138 at HO_3 HO_5 HO_8 BK389 HR421_0 HB HL428_0 HR428_0 hx428_0 hx429_0 hx430_0 hx431_0 hHeld ⊢
            refine pure_ (i := 0) (N := some 131) (v := ?_) (a' := ?_) (Go.Proofs.Ythkpnkmbmlbefaa.HG.bz [1, 61]) rfl rfl (any_of HT_.out (by kernel_rfl)) (fun _ _ _ h => h) (Or.inl ⟨by rfl, ?_⟩) ?_ ?_
            rotate_left
            ·intro w'
             go_simp
             with_reducible rfl
            rotate_left
            ·simp only [Act.put, List.setIfInBounds_toArray, List.set_cons_zero, List.set_cons_succ, i64_w, i32_w]
             rfl
            refine pure_ (i := 1) (N := some 132) (v := ?_) (a' := ?_) (Go.Proofs.Ythkpnkmbmlbefaa.HG.bz [2, 60]) rfl rfl (any_of HT_.out (by kernel_rfl)) (fun _ _ _ h => h) (Or.inl ⟨by rfl, ?_⟩) ?_ ?_
            rotate_left
            ·intro w'
             go_simp
             with_reducible rfl
            rotate_left
            ·simp only [Act.put, List.setIfInBounds_toArray, List.set_cons_zero, List.set_cons_succ, i64_w, i32_w]
             rfl
            refine pure_ (i := 2) (N := some 133) (v := ?_) (a' := ?_) (Go.Proofs.Ythkpnkmbmlbefaa.HG.bz [3, 59]) rfl rfl (any_of HT_.out (by kernel_rfl)) (fun _ _ _ h => h) (Or.inl ⟨by rfl, ?_⟩) ?_ ?_
            rotate_left
            ·intro w'
             go_simp
             with_reducible rfl
            rotate_left
            ·simp only [Act.put, List.setIfInBounds_toArray, List.set_cons_zero, List.set_cons_succ, i64_w, i32_w]
             rfl
            refine pure_ (i := 3) (N := some 134) (v := ?_) (a' := ?_) (Go.Proofs.Ythkpnkmbmlbefaa.HG.bz [4, 58]) rfl rfl (any_of HT_.out (by kernel_rfl)) (fun _ _ _ h => h) (Or.inl ⟨by rfl, ?_⟩) ?_ ?_
            rotate_left
            ·intro w'
             go_simp
             with_reducible rfl
            rotate_left
            ·simp only [Act.put, List.setIfInBounds_toArray, List.set_cons_zero, List.set_cons_succ, i64_w, i32_w]
             rfl
            refine pure_ (i := 4) (N := some 135) (v := ?_) (a' := ?_) (Go.Proofs.Ythkpnkmbmlbefaa.HG.bz [5, 57]) rfl rfl (any_of HT_.out (by kernel_rfl)) (fun _ _ _ h => h) (Or.inl ⟨by rfl, ?_⟩) ?_ ?_
            rotate_left
            ·intro w'
             go_simp
             with_reducible rfl
            rotate_left
            ·simp only [Act.put, List.setIfInBounds_toArray, List.set_cons_zero, List.set_cons_succ, i64_w, i32_w]
             rfl
            refine pure_ (i := 5) (N := some 136) (v := ?_) (a' := ?_) (Go.Proofs.Ythkpnkmbmlbefaa.HG.bz [6, 56]) rfl rfl (any_of HT_.out (by kernel_rfl)) (fun _ _ _ h => h) (Or.inl ⟨by rfl, ?_⟩) ?_ ?_
            rotate_left
            ·intro w'
             go_simp
             with_reducible rfl
            rotate_left
            ·simp only [Act.put, List.setIfInBounds_toArray, List.set_cons_zero, List.set_cons_succ, i64_w, i32_w]
             rfl
            refine pure_ (i := 6) (N := some 137) (v := ?_) (a' := ?_) (Go.Proofs.Ythkpnkmbmlbefaa.HG.bz [7, 55]) rfl rfl (any_of HT_.out (by kernel_rfl)) (fun _ _ _ h => h) (Or.inl ⟨by rfl, ?_⟩) ?_ ?_
            rotate_left
            ·intro w'
             go_simp
             with_reducible rfl
            rotate_left
            ·simp only [Act.put, List.setIfInBounds_toArray, List.set_cons_zero, List.set_cons_succ, i64_w, i32_w]
             rfl
            refine pure_ (i := 7) (N := some 138) (v := ?_) (a' := ?_) (Go.Proofs.Ythkpnkmbmlbefaa.HG.bz [8, 54]) rfl rfl (any_of HT_.out (by kernel_rfl)) (fun _ _ _ h => h) (Or.inl ⟨by rfl, ?_⟩) ?_ ?_
            rotate_left
            ·intro w'
             go_simp
             with_reducible rfl
            rotate_left
            ·simp only [Act.put, List.setIfInBounds_toArray, List.set_cons_zero, List.set_cons_succ, i64_w, i32_w]
             rfl
            refine pure_ (i := 8) (N := some 139) (v := ?_) (a' := ?_) (Go.Proofs.Ythkpnkmbmlbefaa.HG.bz [9, 53]) rfl rfl (any_of HT_.out (by kernel_rfl)) (fun _ _ _ h => h) (Or.inl ⟨by rfl, ?_⟩) ?_ ?_
            rotate_left
            ·intro w'
             go_simp
             with_reducible rfl
            rotate_left
            ·simp only [Act.put, List.setIfInBounds_toArray, List.set_cons_zero, List.set_cons_succ, i64_w, i32_w]
             rfl
            refine pure_ (i := 9) (N := some 140) (v := ?_) (a' := ?_) (Go.Proofs.Ythkpnkmbmlbefaa.HG.bz [10, 52]) rfl rfl (any_of HT_.out (by kernel_rfl)) (fun _ _ _ h => h) (Or.inl ⟨by rfl, ?_⟩) ?_ ?_
            rotate_left
            ·intro w'
             go_simp
             with_reducible rfl
            rotate_left
            ·simp only [Act.put, List.setIfInBounds_toArray, List.set_cons_zero, List.set_cons_succ, i64_w, i32_w]
             rfl
            refine pure_ (i := 10) (N := some 141) (v := ?_) (a' := ?_) (Go.Proofs.Ythkpnkmbmlbefaa.HG.bz [11, 51]) rfl rfl (any_of HT_.out (by kernel_rfl)) (fun _ _ _ h => h) (Or.inl ⟨by rfl, ?_⟩) ?_ ?_
            rotate_left
            ·intro w'
             go_simp
             with_reducible rfl
            rotate_left
            ·simp only [Act.put, List.setIfInBounds_toArray, List.set_cons_zero, List.set_cons_succ, i64_w, i32_w]
             rfl
            refine pure_ (i := 11) (N := some 142) (v := ?_) (a' := ?_) (Go.Proofs.Ythkpnkmbmlbefaa.HG.bz [12, 50]) rfl rfl (any_of HT_.out (by kernel_rfl)) (fun _ _ _ h => h) (Or.inl ⟨by rfl, ?_⟩) ?_ ?_
            rotate_left
            ·intro w'
             go_simp
             with_reducible rfl
            rotate_left
            ·simp only [Act.put, List.setIfInBounds_toArray, List.set_cons_zero, List.set_cons_succ, i64_w, i32_w]
             rfl
            refine pure_ (i := 12) (N := some 143) (v := ?_) (a' := ?_) (Go.Proofs.Ythkpnkmbmlbefaa.HG.bz [13, 49]) rfl rfl (any_of HT_.out (by kernel_rfl)) (fun _ _ _ h => h) (Or.inl ⟨by rfl, ?_⟩) ?_ ?_
            rotate_left
            ·intro w'
             go_simp
             with_reducible rfl
            rotate_left
            ·simp only [Act.put, List.setIfInBounds_toArray, List.set_cons_zero, List.set_cons_succ, i64_w, i32_w]
             rfl
            refine pure_ (i := 13) (N := some 144) (v := ?_) (a' := ?_) (Go.Proofs.Ythkpnkmbmlbefaa.HG.bz [14, 48]) rfl rfl (any_of HT_.out (by kernel_rfl)) (fun _ _ _ h => h) (Or.inl ⟨by rfl, ?_⟩) ?_ ?_
            rotate_left
            ·intro w'
             go_simp
             with_reducible rfl
            rotate_left
            ·simp only [Act.put, List.setIfInBounds_toArray, List.set_cons_zero, List.set_cons_succ, i64_w, i32_w]
             rfl
            refine pure_ (i := 14) (N := some 145) (v := undef) (a' := ?_) (Go.Proofs.Ythkpnkmbmlbefaa.HG.bz [15, 47]) rfl rfl (any_of HT_.out (by kernel_rfl)) (fun _ _ _ h => h) (Or.inr ⟨by rfl, rfl⟩) ?_ ?_
            rotate_left
            ·simp only [Act.put, List.setIfInBounds_toArray, List.set_cons_zero, List.set_cons_succ, i64_w, i32_w]
             rfl
            refine pure_ (i := 15) (N := some 146) (v := undef) (a' := ?_) (Go.Proofs.Ythkpnkmbmlbefaa.HG.bz [16, 46]) rfl rfl (any_of HT_.out (by kernel_rfl)) (fun _ _ _ h => h) (Or.inr ⟨by rfl, rfl⟩) ?_ ?_
            rotate_left
            ·simp only [Act.put, List.setIfInBounds_toArray, List.set_cons_zero, List.set_cons_succ, i64_w, i32_w]
             rfl
            refine pure_ (i := 16) (N := some 147) (v := undef) (a' := ?_) (Go.Proofs.Ythkpnkmbmlbefaa.HG.bz [17, 45]) rfl rfl (any_of HT_.out (by kernel_rfl)) (fun _ _ _ h => h) (Or.inr ⟨by rfl, rfl⟩) ?_ ?_
            rotate_left
            ·simp only [Act.put, List.setIfInBounds_toArray, List.set_cons_zero, List.set_cons_succ, i64_w, i32_w]
             rfl
            refine pure_ (i := 17) (N := some 148) (v := undef) (a' := ?_) (Go.Proofs.Ythkpnkmbmlbefaa.HG.bz [18, 44]) rfl rfl (any_of HT_.out (by kernel_rfl)) (fun _ _ _ h => h) (Or.inr ⟨by rfl, rfl⟩) ?_ ?_
            rotate_left
            ·simp only [Act.put, List.setIfInBounds_toArray, List.set_cons_zero, List.set_cons_succ, i64_w, i32_w]
             rfl
            refine pure_ (i := 18) (N := some 149) (v := undef) (a' := ?_) (Go.Proofs.Ythkpnkmbmlbefaa.HG.bz [19, 43]) rfl rfl (any_of HT_.out (by kernel_rfl)) (fun _ _ _ h => h) (Or.inr ⟨by rfl, rfl⟩) ?_ ?_
            rotate_left
            ·simp only [Act.put, List.setIfInBounds_toArray, List.set_cons_zero, List.set_cons_succ, i64_w, i32_w]
             rfl
            refine pure_ (i := 19) (N := some 150) (v := ?_) (a' := ?_) (Go.Proofs.Ythkpnkmbmlbefaa.HG.bz [20, 42]) rfl rfl (any_of HT_.out (by kernel_rfl)) (fun _ _ _ h => h) (Or.inl ⟨by rfl, ?_⟩) ?_ ?_
            rotate_left
            ·intro w'
             go_simp
             with_reducible rfl
            rotate_left
            ·simp only [Act.put, List.setIfInBounds_toArray, List.set_cons_zero, List.set_cons_succ, i64_w, i32_w]
             rfl
            refine pure_ (i := 20) (N := some 151) (v := ?_) (a' := ?_) (Go.Proofs.Ythkpnkmbmlbefaa.HG.bz [21, 41]) rfl rfl (any_of HT_.out (by kernel_rfl)) (fun _ _ _ h => h) (Or.inl ⟨by rfl, ?_⟩) ?_ ?_
            rotate_left
            ·intro w'
             go_simp
             with_reducible rfl
            rotate_left
            ·simp only [Act.put, List.setIfInBounds_toArray, List.set_cons_zero, List.set_cons_succ, i64_w, i32_w]
             rfl
            refine pure_ (i := 21) (N := some 152) (v := ?_) (a' := ?_) (Go.Proofs.Ythkpnkmbmlbefaa.HG.bz [22, 40]) rfl rfl (any_of HT_.out (by kernel_rfl)) (fun _ _ _ h => h) (Or.inl ⟨by rfl, ?_⟩) ?_ ?_
            rotate_left
            ·intro w'
             go_simp
             with_reducible rfl
            rotate_left
            ·simp only [Act.put, List.setIfInBounds_toArray, List.set_cons_zero, List.set_cons_succ, i64_w, i32_w]
             rfl
            refine pure_ (i := 22) (N := some 153) (v := ?_) (a' := ?_) (Go.Proofs.Ythkpnkmbmlbefaa.HG.bz [23, 39]) rfl rfl (any_of HT_.out (by kernel_rfl)) (fun _ _ _ h => h) (Or.inl ⟨by rfl, ?_⟩) ?_ ?_
            rotate_left
            ·intro w'
             go_simp
             with_reducible rfl
            rotate_left
            ·simp only [Act.put, List.setIfInBounds_toArray, List.set_cons_zero, List.set_cons_succ, i64_w, i32_w]
             rfl
            refine pure_ (i := 23) (N := some 154) (v := ?_) (a' := ?_) (Go.Proofs.Ythkpnkmbmlbefaa.HG.bz [24, 38]) rfl rfl (any_of HT_.out (by kernel_rfl)) (fun _ _ _ h => h) (Or.inl ⟨by rfl, ?_⟩) ?_ ?_
            rotate_left
            ·intro w'
             go_simp
             with_reducible rfl
            rotate_left
            ·simp only [Act.put, List.setIfInBounds_toArray, List.set_cons_zero, List.set_cons_succ, i64_w, i32_w]
             rfl
            refine pure_ (i := 24) (N := some 155) (v := ?_) (a' := ?_) (Go.Proofs.Ythkpnkmbmlbefaa.HG.bz [25, 37]) rfl rfl (any_of HT_.out (by kernel_rfl)) (fun _ _ _ h => h) (Or.inl ⟨by rfl, ?_⟩) ?_ ?_
            rotate_left
            ·intro w'
             go_simp
             with_reducible rfl
            rotate_left
            ·simp only [Act.put, List.setIfInBounds_toArray, List.set_cons_zero, List.set_cons_succ, i64_w, i32_w]
             rfl
            refine pure_ (i := 25) (N := some 156) (v := ?_) (a' := ?_) (Go.Proofs.Ythkpnkmbmlbefaa.HG.bz [26, 36]) rfl rfl (any_of HT_.out (by kernel_rfl)) (fun _ _ _ h => h) (Or.inl ⟨by rfl, ?_⟩) ?_ ?_
            rotate_left
            ·intro w'
             go_simp
             with_reducible rfl
            rotate_left
            ·simp only [Act.put, List.setIfInBounds_toArray, List.set_cons_zero, List.set_cons_succ, i64_w, i32_w]
             rfl
            refine pure_ (i := 27) (N := some 158) (v := ?_) (a' := ?_) (Go.Proofs.Ythkpnkmbmlbefaa.HG.bz [26, 1, 1, 34]) rfl rfl (any_of HT_.out (by kernel_rfl)) (fun _ _ _ h => h) (Or.inl ⟨by rfl, ?_⟩) ?_ ?_
            rotate_left
            ·intro w'
             go_simp
             with_reducible rfl
            rotate_left
            ·simp only [Act.put, List.setIfInBounds_toArray, List.set_cons_zero, List.set_cons_succ, i64_w, i32_w]
             rfl
            refine take_ (i := 26) (N := some 157) (v := ?_) (a' := ?_) (Go.Proofs.Ythkpnkmbmlbefaa.HG.bz [28, 34]) rfl rfl (take_ofW HT_.out HW_.out (by kernel_rfl)) (fun _ _ _ h => h) (Or.inl ⟨by rfl, ?_⟩) hHeld ?_ ?_
            rotate_left
            ·rintro w' ⟨s0, s1, s2, s3⟩
             go_simp
             with_reducible rfl
            rotate_left
            ·simp only [Act.put, List.setIfInBounds_toArray, List.set_cons_zero, List.set_cons_succ, i64_w, i32_w]
             rfl
            refine pure_ (i := 28) (N := some 159) (v := ?_) (a' := ?_) (Go.Proofs.Ythkpnkmbmlbefaa.HG.bz [29, 33]) rfl rfl (any_of HT_.out (by kernel_rfl)) (fun _ _ _ h => h) (Or.inl ⟨by rfl, ?_⟩) ?_ ?_
            rotate_left
            ·intro w'
             go_simp
             with_reducible rfl
            rotate_left
            ·simp only [Act.put, List.setIfInBounds_toArray, List.set_cons_zero, List.set_cons_succ, i64_w, i32_w]
             rfl
            refine take_ (i := 29) (N := some 160) (v := ?_) (a' := ?_) (Go.Proofs.Ythkpnkmbmlbefaa.HG.bz [30, 32]) rfl rfl (take_ofW HT_.out HW_.out (by kernel_rfl)) (fun _ _ _ h => h) (Or.inl ⟨by rfl, ?_⟩) hHeld ?_ ?_
            rotate_left
            ·rintro w' ⟨s0, s1, s2, s3⟩
             go_simp
             with_reducible rfl
            rotate_left
            ·simp only [Act.put, List.setIfInBounds_toArray, List.set_cons_zero, List.set_cons_succ, i64_w, i32_w]
             rfl
            refine pure_ (i := 30) (N := some 161) (v := ?_) (a' := ?_) (Go.Proofs.Ythkpnkmbmlbefaa.HG.bz [31, 31]) rfl rfl (any_of HT_.out (by kernel_rfl)) (fun _ _ _ h => h) (Or.inl ⟨by rfl, ?_⟩) ?_ ?_
            rotate_left
            ·intro w'
             go_simp
             with_reducible rfl
            rotate_left
            ·simp only [Act.put, List.setIfInBounds_toArray, List.set_cons_zero, List.set_cons_succ, i64_w, i32_w]
             rfl
            refine pure_ (i := 31) (N := some 162) (v := ?_) (a' := ?_) (Go.Proofs.Ythkpnkmbmlbefaa.HG.bz [32, 30]) rfl rfl (any_of HT_.out (by kernel_rfl)) (fun _ _ _ h => h) (Or.inl ⟨by rfl, ?_⟩) ?_ ?_
            rotate_left
            ·intro w'
             go_simp
             with_reducible rfl
            rotate_left
            ·simp only [Act.put, List.setIfInBounds_toArray, List.set_cons_zero, List.set_cons_succ, i64_w, i32_w]
             rfl
            refine pure_ (i := 32) (N := some 163) (v := ?_) (a' := ?_) (Go.Proofs.Ythkpnkmbmlbefaa.HG.bz [33, 29]) rfl rfl (any_of HT_.out (by kernel_rfl)) (fun _ _ _ h => h) (Or.inl ⟨by rfl, ?_⟩) ?_ ?_
            rotate_left
            ·intro w'
             go_simp
             with_reducible rfl
            rotate_left
            ·simp only [Act.put, List.setIfInBounds_toArray, List.set_cons_zero, List.set_cons_succ, i64_w, i32_w]
             rfl
            refine pure_ (i := 33) (N := some 164) (v := ?_) (a' := ?_) (Go.Proofs.Ythkpnkmbmlbefaa.HG.bz [34, 28]) rfl rfl (any_of HT_.out (by kernel_rfl)) (fun _ _ _ h => h) (Or.inl ⟨by rfl, ?_⟩) ?_ ?_
            rotate_left
            ·intro w'
             go_simp
             with_reducible rfl
            rotate_left
            ·simp only [Act.put, List.setIfInBounds_toArray, List.set_cons_zero, List.set_cons_succ, i64_w, i32_w]
             rfl
            refine pure_ (i := 34) (N := some 165) (v := ?_) (a' := ?_) (Go.Proofs.Ythkpnkmbmlbefaa.HG.bz [35, 27]) rfl rfl (any_of HT_.out (by kernel_rfl)) (fun _ _ _ h => h) (Or.inl ⟨by rfl, ?_⟩) ?_ ?_
            rotate_left
            ·intro w'
             go_simp
             with_reducible rfl
            rotate_left
            ·simp only [Act.put, List.setIfInBounds_toArray, List.set_cons_zero, List.set_cons_succ, i64_w, i32_w]
             rfl
            refine pure_ (i := 35) (N := some 166) (v := ?_) (a' := ?_) (Go.Proofs.Ythkpnkmbmlbefaa.HG.bz [36, 26]) rfl rfl (any_of HT_.out (by kernel_rfl)) (fun _ _ _ h => h) (Or.inl ⟨by rfl, ?_⟩) ?_ ?_
            rotate_left
            ·intro w'
             go_simp
             with_reducible rfl
            rotate_left
            ·simp only [Act.put, List.setIfInBounds_toArray, List.set_cons_zero, List.set_cons_succ, i64_w, i32_w]
             rfl
            refine pure_ (i := 36) (N := some 167) (v := undef) (a' := ?_) (Go.Proofs.Ythkpnkmbmlbefaa.HG.bz [37, 25]) rfl rfl (any_of HT_.out (by kernel_rfl)) (fun _ _ _ h => h) (Or.inr ⟨by rfl, rfl⟩) ?_ ?_
            rotate_left
            ·simp only [Act.put, List.setIfInBounds_toArray, List.set_cons_zero, List.set_cons_succ, i64_w, i32_w]
             rfl
            refine pure_ (i := 37) (N := some 168) (v := undef) (a' := ?_) (Go.Proofs.Ythkpnkmbmlbefaa.HG.bz [38, 24]) rfl rfl (any_of HT_.out (by kernel_rfl)) (fun _ _ _ h => h) (Or.inr ⟨by rfl, rfl⟩) ?_ ?_
            rotate_left
            ·simp only [Act.put, List.setIfInBounds_toArray, List.set_cons_zero, List.set_cons_succ, i64_w, i32_w]
             rfl
            refine pure_ (i := 38) (N := some 169) (v := undef) (a' := ?_) (Go.Proofs.Ythkpnkmbmlbefaa.HG.bz [39, 23]) rfl rfl (any_of HT_.out (by kernel_rfl)) (fun _ _ _ h => h) (Or.inr ⟨by rfl, rfl⟩) ?_ ?_
            rotate_left
            ·simp only [Act.put, List.setIfInBounds_toArray, List.set_cons_zero, List.set_cons_succ, i64_w, i32_w]
             rfl
            refine pure_ (i := 39) (N := some 170) (v := undef) (a' := ?_) (Go.Proofs.Ythkpnkmbmlbefaa.HG.bz [40, 22]) rfl rfl (any_of HT_.out (by kernel_rfl)) (fun _ _ _ h => h) (Or.inr ⟨by rfl, rfl⟩) ?_ ?_
            rotate_left
            ·simp only [Act.put, List.setIfInBounds_toArray, List.set_cons_zero, List.set_cons_succ, i64_w, i32_w]
             rfl
            refine pure_ (i := 40) (N := some 171) (v := undef) (a' := ?_) (Go.Proofs.Ythkpnkmbmlbefaa.HG.bz [41, 21]) rfl rfl (any_of HT_.out (by kernel_rfl)) (fun _ _ _ h => h) (Or.inr ⟨by rfl, rfl⟩) ?_ ?_
            rotate_left
            ·simp only [Act.put, List.setIfInBounds_toArray, List.set_cons_zero, List.set_cons_succ, i64_w, i32_w]
             rfl
            refine pure_ (i := 41) (N := some 172) (v := undef) (a' := ?_) (Go.Proofs.Ythkpnkmbmlbefaa.HG.bz [42, 20]) rfl rfl (any_of HT_.out (by kernel_rfl)) (fun _ _ _ h => h) (Or.inr ⟨by rfl, rfl⟩) ?_ ?_
            rotate_left
            ·simp only [Act.put, List.setIfInBounds_toArray, List.set_cons_zero, List.set_cons_succ, i64_w, i32_w]
             rfl
            refine pure_ (i := 42) (N := some 173) (v := undef) (a' := ?_) (Go.Proofs.Ythkpnkmbmlbefaa.HG.bz [43, 19]) rfl rfl (any_of HT_.out (by kernel_rfl)) (fun _ _ _ h => h) (Or.inr ⟨by rfl, rfl⟩) ?_ ?_
            rotate_left
            ·simp only [Act.put, List.setIfInBounds_toArray, List.set_cons_zero, List.set_cons_succ, i64_w, i32_w]
             rfl
            refine pure_ (i := 43) (N := some 174) (v := undef) (a' := ?_) (Go.Proofs.Ythkpnkmbmlbefaa.HG.bz [44, 18]) rfl rfl (any_of HT_.out (by kernel_rfl)) (fun _ _ _ h => h) (Or.inr ⟨by rfl, rfl⟩) ?_ ?_
            rotate_left
            ·simp only [Act.put, List.setIfInBounds_toArray, List.set_cons_zero, List.set_cons_succ, i64_w, i32_w]
             rfl
            refine pure_ (i := 44) (N := some 175) (v := undef) (a' := ?_) (Go.Proofs.Ythkpnkmbmlbefaa.HG.bz [45, 17]) rfl rfl (any_of HT_.out (by kernel_rfl)) (fun _ _ _ h => h) (Or.inr ⟨by rfl, rfl⟩) ?_ ?_
            rotate_left
            ·simp only [Act.put, List.setIfInBounds_toArray, List.set_cons_zero, List.set_cons_succ, i64_w, i32_w]
             rfl
            refine pure_ (i := 45) (N := some 176) (v := ?_) (a' := ?_) (Go.Proofs.Ythkpnkmbmlbefaa.HG.bz [46, 16]) rfl rfl (any_of HT_.out (by kernel_rfl)) (fun _ _ _ h => h) (Or.inl ⟨by rfl, ?_⟩) ?_ ?_
            rotate_left
            ·intro w'
             go_simp
             with_reducible rfl
            rotate_left
            ·simp only [Act.put, List.setIfInBounds_toArray, List.set_cons_zero, List.set_cons_succ, i64_w, i32_w]
             rfl
            refine pure_ (i := 46) (N := some 177) (v := ?_) (a' := ?_) (Go.Proofs.Ythkpnkmbmlbefaa.HG.bz [47, 15]) rfl rfl (any_of HT_.out (by kernel_rfl)) (fun _ _ _ h => h) (Or.inl ⟨by rfl, ?_⟩) ?_ ?_
            rotate_left
            ·intro w'
             go_simp
             with_reducible rfl
            rotate_left
            ·simp only [Act.put, List.setIfInBounds_toArray, List.set_cons_zero, List.set_cons_succ, i64_w, i32_w]
             rfl
            refine pure_ (i := 47) (N := some 178) (v := ?_) (a' := ?_) (Go.Proofs.Ythkpnkmbmlbefaa.HG.bz [48, 14]) rfl rfl (any_of HT_.out (by kernel_rfl)) (fun _ _ _ h => h) (Or.inl ⟨by rfl, ?_⟩) ?_ ?_
            rotate_left
            ·intro w'
             go_simp
             with_reducible rfl
            rotate_left
            ·simp only [Act.put, List.setIfInBounds_toArray, List.set_cons_zero, List.set_cons_succ, i64_w, i32_w]
             rfl
            refine pure_ (i := 48) (N := some 179) (v := ?_) (a' := ?_) (Go.Proofs.Ythkpnkmbmlbefaa.HG.bz [49, 13]) rfl rfl (any_of HT_.out (by kernel_rfl)) (fun _ _ _ h => h) (Or.inl ⟨by rfl, ?_⟩) ?_ ?_
            rotate_left
            ·intro w'
             go_simp
             with_reducible rfl
            rotate_left
            ·simp only [Act.put, List.setIfInBounds_toArray, List.set_cons_zero, List.set_cons_succ, i64_w, i32_w]
             rfl
            refine pure_ (i := 49) (N := some 180) (v := ?_) (a' := ?_) (Go.Proofs.Ythkpnkmbmlbefaa.HG.bz [50, 12]) rfl rfl (any_of HT_.out (by kernel_rfl)) (fun _ _ _ h => h) (Or.inl ⟨by rfl, ?_⟩) ?_ ?_
            rotate_left
            ·intro w'
             go_simp
             with_reducible rfl
            rotate_left
            ·simp only [Act.put, List.setIfInBounds_toArray, List.set_cons_zero, List.set_cons_succ, i64_w, i32_w]
             rfl
            refine pure_ (i := 50) (N := some 181) (v := ?_) (a' := ?_) (Go.Proofs.Ythkpnkmbmlbefaa.HG.bz [51, 11]) rfl rfl (any_of HT_.out (by kernel_rfl)) (fun _ _ _ h => h) (Or.inl ⟨by rfl, ?_⟩) ?_ ?_
            rotate_left
            ·intro w'
             go_simp
             with_reducible rfl
            rotate_left
            ·simp only [Act.put, List.setIfInBounds_toArray, List.set_cons_zero, List.set_cons_succ, i64_w, i32_w]
             rfl
            refine pure_ (i := 51) (N := some 182) (v := ?_) (a' := ?_) (Go.Proofs.Ythkpnkmbmlbefaa.HG.bz [52, 10]) rfl rfl (any_of HT_.out (by kernel_rfl)) (fun _ _ _ h => h) (Or.inl ⟨by rfl, ?_⟩) ?_ ?_
            rotate_left
            ·intro w'
             go_simp
             with_reducible rfl
            rotate_left
            ·simp only [Act.put, List.setIfInBounds_toArray, List.set_cons_zero, List.set_cons_succ, i64_w, i32_w]
             rfl
            refine pure_ (i := 52) (N := some 183) (v := ?_) (a' := ?_) (Go.Proofs.Ythkpnkmbmlbefaa.HG.bz [53, 9]) rfl rfl (any_of HT_.out (by kernel_rfl)) (fun _ _ _ h => h) (Or.inl ⟨by rfl, ?_⟩) ?_ ?_
            rotate_left
            ·intro w'
             go_simp
             with_reducible rfl
            rotate_left
            ·simp only [Act.put, List.setIfInBounds_toArray, List.set_cons_zero, List.set_cons_succ, i64_w, i32_w]
             rfl
            refine pure_ (i := 53) (N := some 184) (v := ?_) (a' := ?_) (Go.Proofs.Ythkpnkmbmlbefaa.HG.bz [54, 8]) rfl rfl (any_of HT_.out (by kernel_rfl)) (fun _ _ _ h => h) (Or.inl ⟨by rfl, ?_⟩) ?_ ?_
            rotate_left
            ·intro w'
             go_simp
             with_reducible rfl
            rotate_left
            ·simp only [Act.put, List.setIfInBounds_toArray, List.set_cons_zero, List.set_cons_succ, i64_w, i32_w]
             rfl
            refine pure_ (i := 55) (N := some 186) (v := ?_) (a' := ?_) (Go.Proofs.Ythkpnkmbmlbefaa.HG.bz [54, 1, 1, 6]) rfl rfl (any_of HT_.out (by kernel_rfl)) (fun _ _ _ h => h) (Or.inl ⟨by rfl, ?_⟩) ?_ ?_
            rotate_left
            ·intro w'
             go_simp
             with_reducible rfl
            rotate_left
            ·simp only [Act.put, List.setIfInBounds_toArray, List.set_cons_zero, List.set_cons_succ, i64_w, i32_w]
             rfl
            refine pure_ (i := 56) (N := some 187) (v := ?_) (a' := ?_) (Go.Proofs.Ythkpnkmbmlbefaa.HG.bz [54, 1, 2, 5]) rfl rfl (any_of HT_.out (by kernel_rfl)) (fun _ _ _ h => h) (Or.inl ⟨by rfl, ?_⟩) ?_ ?_
            rotate_left
            ·intro w'
             go_simp
             with_reducible rfl
            rotate_left
            ·simp only [Act.put, List.setIfInBounds_toArray, List.set_cons_zero, List.set_cons_succ, i64_w, i32_w]
             rfl
            refine pure_ (i := 57) (N := some 188) (v := ?_) (a' := ?_) (Go.Proofs.Ythkpnkmbmlbefaa.HG.bz [54, 1, 3, 4]) rfl rfl (any_of HT_.out (by kernel_rfl)) (fun _ _ _ h => h) (Or.inl ⟨by rfl, ?_⟩) ?_ ?_
            rotate_left
            ·intro w'
             go_simp
             with_reducible rfl
            rotate_left
            ·simp only [Act.put, List.setIfInBounds_toArray, List.set_cons_zero, List.set_cons_succ, i64_w, i32_w]
             rfl
            refine take_ (i := 54) (N := some 185) (v := ?_) (a' := ?_) (Go.Proofs.Ythkpnkmbmlbefaa.HG.bz [58, 4]) rfl rfl (take_ofW HT_.out HW_.out (by kernel_rfl)) (fun _ _ _ h => h) (Or.inl ⟨by rfl, ?_⟩) hHeld ?_ ?_
            rotate_left
            ·rintro w' ⟨s0, s1, s2, s3⟩
             go_simp
             with_reducible rfl
            rotate_left
            ·simp only [Act.put, List.setIfInBounds_toArray, List.set_cons_zero, List.set_cons_succ, i64_w, i32_w]
             rfl
            refine take_ (i := 58) (N := some 189) (v := ?_) (a' := ?_) (Go.Proofs.Ythkpnkmbmlbefaa.HG.bz [59, 3]) rfl rfl (take_ofW HT_.out HW_.out (by kernel_rfl)) (fun _ _ _ h => h) (Or.inl ⟨by rfl, ?_⟩) hHeld ?_ ?_
            rotate_left
            ·rintro w' ⟨s0, s1, s2, s3⟩
             go_simp
             with_reducible rfl
            rotate_left
            ·simp only [Act.put, List.setIfInBounds_toArray, List.set_cons_zero, List.set_cons_succ, i64_w, i32_w]
             rfl
            refine pure_ (i := 59) (N := some 190) (v := ?_) (a' := ?_) (Go.Proofs.Ythkpnkmbmlbefaa.HG.bz [60, 2]) rfl rfl (any_of HT_.out (by kernel_rfl)) (fun _ _ _ h => h) (Or.inl ⟨by rfl, ?_⟩) ?_ ?_
            rotate_left
            ·intro w'
             go_simp
             with_reducible rfl
            rotate_left
            ·simp only [Act.put, List.setIfInBounds_toArray, List.set_cons_zero, List.set_cons_succ, i64_w, i32_w]
             rfl
            refine pure_ (i := 60) (N := some 191) (v := ?_) (a' := ?_) (Go.Proofs.Ythkpnkmbmlbefaa.HG.bz [61, 1]) rfl rfl (any_of HT_.out (by kernel_rfl)) (fun _ _ _ h => h) (Or.inl ⟨by rfl, ?_⟩) ?_ ?_
            rotate_left
            ·intro w'
             go_simp
             with_reducible rfl
            rotate_left
            ·simp only [Act.put, List.setIfInBounds_toArray, List.set_cons_zero, List.set_cons_succ, i64_w, i32_w]
             rfl
            refine pure_ (i := 61) (N := some 192) (v := ?_) (a' := ?_) (Go.Proofs.Ythkpnkmbmlbefaa.HG.bz [62]) rfl rfl (any_of HT_.out (by kernel_rfl)) (fun _ _ _ h => h) (Or.inl ⟨by rfl, ?_⟩) ?_ ?_
            rotate_left
            ·intro w'
             go_simp
             with_reducible rfl
            rotate_left
            ·simp only [Act.put, List.setIfInBounds_toArray, List.set_cons_zero, List.set_cons_succ, i64_w, i32_w]
             rfl
            refine done_ (done_of HT_.out (by kernel_rfl)) ?_
            try go_wp2
            go_roundg k5
            case measure => have := HJ1.out; have := HJ17.out; have := HK3.out; have := HK4.out; have := HK5.out; omega
            case rel => exact ⟨(ji137), (wrap64 (x126_5 + 1)), (by first | rfl | (simp; done) | (simp only [← hji137] <;> (first | rfl | simp)) | (simp [*]; done)), (by first | rfl | (simp; done) | (simp [*]; done)), H', ⟨by have := HJ1.out; have := HJ17.out; have := HK3.out; have := HK4.out; have := HK5.out; omega⟩, ⟨by (try simp only [hl8_4]); (with_reducible repeat (first | apply Kd.S_alloc | apply Kd.S_drewN | apply Kd.S_drew)); exact HO_3.out⟩, ⟨by (try simp only [hl8_4]); (with_reducible repeat (first | apply Kd.R_alloc | apply Kd.R_drewN | apply Kd.R_drew)); exact HO_5.out⟩, ⟨by (try simp only [hl8_4]); (with_reducible repeat (first | apply Kd.R_alloc | apply Kd.R_drewN | apply Kd.R_drew)); exact HO_8.out⟩, ⟨by (try simp only [hl8_4]); (with_reducible repeat (first | refine blk_drewN ?_ _ | refine blk_drew ?_ | refine blk_alloc ?_ _)); exact BK389.out⟩, ⟨by repeat (first | (with_reducible exact HR421_0.out) | (with_reducible refine Kd.C_alloc ?_ _) | (with_reducible refine Kd.C_drewN ?_ _) | (with_reducible refine Kd.C_drew ?_) | exact HR421_0.out)⟩, ⟨by repeat (first | (with_reducible first | exact HB.out | apply below_alloc | apply pw_below_drewN | apply below_drew1 | refine below_set ?_ GE389.out) | exact HB.out)⟩⟩
          as_aux_lemma =>
           rw [if_pos c114] at H
           have c114b0 : decide (0 ≤ (rd (rd_L3 t393 x41_3) x126_5)) = true := decide_eq_true c114
           clear c114
           (try (have c114r0 := c114b0; simp only [hl8_4] at c114r0))
           by_cases c115 : x126_5 < (x8_4.length : Int)
           rotate_left
           ·rw [if_neg c115] at H
            exact absurd H (by simp)
           rw [if_pos c115] at H
           have c115b0 : decide (x126_5 < (x8_4.length : Int)) = true := decide_eq_true c115
           clear c115
           (try (have c115r0 := c115b0; simp only [hl8_4] at c115r0))
           obtain ⟨bq116, hbq116⟩ : ∃ b_ : Bool, b_ = (rdOf false x8_4 x126_5) := ⟨_, rfl⟩
           replace H : (if bq116 = true then (if x126_5 < (t393.length : Int) then (if 0 ≤ x41_3 then (if x41_3 < ((rd_L3 t393 x126_5).length : Int) then (if (rd (rd_L3 t393 x41_3) x126_5) = (rd (rd_L3 t393 x126_5) x41_3) then (if x126_5 < (t397.length : Int) then (if x41_3 < (t397.length : Int) then (if (rd t397 x126_5) = (rd t397 x41_3) then (if (rd (rd_L3 t393 x41_3) x126_5) < 0 then (none) else (timesynclaw18_TopoDistances.l2 k5 t393 t397 (mx x6_5 (rd (rd_L3 t393 x41_3) x126_5)) x41_3 x8_4 (t393.length : Int) x41_3 (rd_L3 t393 x41_3) ((rd_L3 t393 x41_3).length : Int) (wrap64 (x126_5 + 1)) a0_0 l0_1)) else (none)) else (none)) else (none)) else (none)) else (none)) else (none)) else (none)) else (none)) = some r := by rw [← hbq116] at H; exact H
           have Nbq116 := Aside0.mk hbq116
           clear hbq116
           by_cases c117 : bq116 = true
           rotate_left
           ·replace c117 := Bool.eq_false_iff.mpr c117
            subst c117
            have H1 : (none) = some r := by rw [if_neg (show ¬ (false = true) by decide)] at H; exact H
            clear H
            have H := H1
            clear H1
            exact absurd H (by simp)
           subst c117
           have H1 : (if x126_5 < (t393.length : Int) then (if 0 ≤ x41_3 then (if x41_3 < ((rd_L3 t393 x126_5).length : Int) then (if (rd (rd_L3 t393 x41_3) x126_5) = (rd (rd_L3 t393 x126_5) x41_3) then (if x126_5 < (t397.length : Int) then (if x41_3 < (t397.length : Int) then (if (rd t397 x126_5) = (rd t397 x41_3) then (if (rd (rd_L3 t393 x41_3) x126_5) < 0 then (none) else (timesynclaw18_TopoDistances.l2 k5 t393 t397 (mx x6_5 (rd (rd_L3 t393 x41_3) x126_5)) x41_3 x8_4 (t393.length : Int) x41_3 (rd_L3 t393 x41_3) ((rd_L3 t393 x41_3).length : Int) (wrap64 (x126_5 + 1)) a0_0 l0_1)) else (none)) else (none)) else (none)) else (none)) else (none)) else (none)) else (none)) = some r := by rw [if_pos rfl] at H; exact H
           clear H
           have H := H1
           clear H1
           by_cases c118 : x126_5 < (t393.length : Int)
           rotate_left
           ·rw [if_neg c118] at H
            exact absurd H (by simp)
           rw [if_pos c118] at H
           have c118b0 : decide (x126_5 < (t393.length : Int)) = true := decide_eq_true c118
           clear c118
           (try (have c118r0 := c118b0; simp only [hl8_4] at c118r0))
           by_cases c119 : 0 ≤ x41_3
           rotate_left
           ·rw [if_neg c119] at H
            exact absurd H (by simp)
           rw [if_pos c119] at H
           have c119b0 : decide (0 ≤ x41_3) = true := decide_eq_true c119
           clear c119
           (try (have c119r0 := c119b0; simp only [hl8_4] at c119r0))
           by_cases c120 : x41_3 < ((rd_L3 t393 x126_5).length : Int)
           rotate_left
           ·rw [if_neg c120] at H
            exact absurd H (by simp)
           rw [if_pos c120] at H
           have c120b0 : decide (x41_3 < ((rd_L3 t393 x126_5).length : Int)) = true := decide_eq_true c120
           clear c120
           (try (have c120r0 := c120b0; simp only [hl8_4] at c120r0))
           by_cases c121 : (rd (rd_L3 t393 x41_3) x126_5) = (rd (rd_L3 t393 x126_5) x41_3)
           rotate_left
           ·rw [if_neg c121] at H
            have c121b0 : ((rd (rd_L3 t393 x41_3) x126_5) == (rd (rd_L3 t393 x126_5) x41_3)) = false := beq_eq_false_iff_ne.mpr c121
            have c121b1 : ((rd (rd_L3 t393 x41_3) x126_5) != (rd (rd_L3 t393 x126_5) x41_3)) = true := bne_iff_ne.mpr c121
            (try (have c121r0 := c121b0; simp only [hl8_4] at c121r0))
            (try (have c121r1 := c121b1; simp only [hl8_4] at c121r1))
            exact absurd H (by simp)
           rw [if_pos c121] at H
           have c121b0 : ((rd (rd_L3 t393 x41_3) x126_5) == (rd (rd_L3 t393 x126_5) x41_3)) = true := beq_iff_eq.mpr c121
           have c121b1 : ((rd (rd_L3 t393 x41_3) x126_5) != (rd (rd_L3 t393 x126_5) x41_3)) = false := bne_eq_false_iff_eq.mpr c121
           clear c121
           (try (have c121r0 := c121b0; simp only [hl8_4] at c121r0))
           (try (have c121r1 := c121b1; simp only [hl8_4] at c121r1))
           by_cases c122 : x126_5 < (t397.length : Int)
           rotate_left
           ·rw [if_neg c122] at H
            exact absurd H (by simp)
           rw [if_pos c122] at H
           have c122b0 : decide (x126_5 < (t397.length : Int)) = true := decide_eq_true c122
           clear c122
           (try (have c122r0 := c122b0; simp only [hl8_4] at c122r0))
           by_cases c123 : x41_3 < (t397.length : Int)
           rotate_left
           ·rw [if_neg c123] at H
            exact absurd H (by simp)
           rw [if_pos c123] at H
           have c123b0 : decide (x41_3 < (t397.length : Int)) = true := decide_eq_true c123
           clear c123
           (try (have c123r0 := c123b0; simp only [hl8_4] at c123r0))
           by_cases c124 : (rd t397 x126_5) = (rd t397 x41_3)
           rotate_left
           ·rw [if_neg c124] at H
            have c124b0 : ((rd t397 x126_5) == (rd t397 x41_3)) = false := beq_eq_false_iff_ne.mpr c124
            have c124b1 : ((rd t397 x126_5) != (rd t397 x41_3)) = true := bne_iff_ne.mpr c124
            (try (have c124r0 := c124b0; simp only [hl8_4] at c124r0))
            (try (have c124r1 := c124b1; simp only [hl8_4] at c124r1))
            exact absurd H (by simp)
           rw [if_pos c124] at H
           have c124b0 : ((rd t397 x126_5) == (rd t397 x41_3)) = true := beq_iff_eq.mpr c124
           have c124b1 : ((rd t397 x126_5) != (rd t397 x41_3)) = false := bne_eq_false_iff_eq.mpr c124
           clear c124
           (try (have c124r0 := c124b0; simp only [hl8_4] at c124r0))
           (try (have c124r1 := c124b1; simp only [hl8_4] at c124r1))
           by_cases c125 : (rd (rd_L3 t393 x41_3) x126_5) < 0
           ·rw [if_pos c125] at H
            exact absurd H (by simp)
           rw [if_neg c125] at H
           have c125b0 : decide ((rd (rd_L3 t393 x41_3) x126_5) < 0) = false := decide_eq_false c125
           clear c125
           (try (have c125r0 := c125b0; simp only [hl8_4] at c125r0))
           obtain ⟨ji126, hji126⟩ : ∃ j_ : Int, (mx x6_5 (rd (rd_L3 t393 x41_3) x126_5)) = j_ := ⟨_, rfl⟩
           replace H : (timesynclaw18_TopoDistances.l2 k5 t393 t397 ji126 x41_3 x8_4 (t393.length : Int) x41_3 (rd_L3 t393 x41_3) ((rd_L3 t393 x41_3).length : Int) (wrap64 (x126_5 + 1)) a0_0 l0_1) = some r := by first | (rw [hji126] at H; exact H) | (simp only [hji126] at H ⊢; exact H)
           have hji126_ : (if x6_5 < (rd (rd_L3 t393 x41_3) x126_5) then (rd (rd_L3 t393 x41_3) x126_5) else x6_5) = ji126 := hji126
           have H' := Aside0.mk H
           clear H
           have p422 : 0 ≤ (x126_5 : Int) := of_decide_eq_true (by first | (with_reducible assumption) | assumption)
           have q422 : x126_5 < ((rd_L3 t393 x41_3).length : Int) := of_decide_eq_true (by first | (with_reducible assumption) | assumption)
           obtain ⟨ad422, e422, hx422_0⟩ := Kd.at_int HR421_0.out x126_5 p422 q422
           cases e422
           try replace hx422_0 := (HB.out.cell (World.block_lt_of_cell? w _ hx422_0)).trans hx422_0
           replace p422 := eq_true p422
           replace q422 := eq_true q422
           try go_wp2
           have n0_ := Aside0.mk (Kd.S_drew HO_3.out)
           have n1_ := Aside0.mk (Kd.R_drew HO_5.out)
           have n2_ := Aside0.mk (Kd.R_drew HO_8.out)
           have n3_ := Aside0.mk (blk_drew BK389.out)
           have n4_ := Aside0.mk (Kd.C_drew HR421_0.out)
           have n5_ := Aside0.mk (below_drew1 HB.out)
           clear HO_3
           clear HO_5
           clear HO_8
           clear BK389
           clear HR421_0
           clear HB
           have HO_3 := n0_
           have HO_5 := n1_
           have HO_8 := n2_
           have BK389 := n3_
           have HR421_0 := n4_
           have HB := n5_
           clear n0_ n1_ n2_ n3_ n4_ n5_
           have p423 : 0 ≤ (x126_5 : Int) := of_decide_eq_true (by first | (with_reducible assumption) | assumption)
           have q423 : x126_5 < (x8_4.length : Int) := of_decide_eq_true (by first | (with_reducible assumption) | assumption)
           obtain ⟨ad423, e423, hx423_0⟩ := Kd.at_bool (Kd.R_reads' HO_8.out).2.2 x126_5 p423 q423
           (try rw [← Nbq116.out] at hx423_0)
           obtain rfl : (⟨go33, 0, none⟩ : Addr) = ad423 := (by injection e423)
           (first | simp only [add_plain] at hx423_0 | simp only [add_at] at hx423_0 | simp only [Addr.add, Nat.zero_add] at hx423_0 | skip)
           replace p423 := eq_true p423
           replace q423 := eq_true q423
           have p424 : 0 ≤ (x126_5 : Int) := of_decide_eq_true (by first | (with_reducible assumption) | assumption)
           have q424 : x126_5 < (t393.length : Int) := of_decide_eq_true (by first | (with_reducible assumption) | assumption)
           obtain ⟨ad424, A424_0, c424_0, e424, hx424_0, hl424_0, hi424_0⟩ := at_L3 (Kd.S_reads' HO_3.out).2.2 x126_5 p424 q424
           obtain rfl : ad421 = ad424 := (by injection e424)
           obtain ⟨ce424, hce424, hMe424, hcc424⟩ := Kd.S_get HO_3.out [] x126_5 p424 (by first | exact q424 | exact of_decide_eq_true (by first | (with_reducible assumption) | assumption) | (have e_ := (Kd.S_reads' HO_3.out).1; omega))
           obtain ⟨ve424_0, rfl, ge424_0⟩ := hMe424
           have hv424_0 := hcc424 0 _ rfl
           rw [Nat.add_zero, show ((Kd.slice 3 (Kd.int .i64))).sz = 1 from rfl, Nat.mul_one] at hv424_0
           replace hv424_0 := Option.some.inj (hv424_0.symm.trans hx424_0)
           rw [hv424_0] at ge424_0
           have HL424_0 := Aside0.mk (show Kd.R (Kd.int .i64) 3 _ _ _ _ (rd_L3 t393 x126_5) from ge424_0)
           clear hv424_0 ge424_0
           clear hcc424 hce424
           have HR424_0 := Aside0.mk hi424_0
           have HC424_0 := Aside0.mk hl424_0
           clear hi424_0 hl424_0
           replace p424 := eq_true p424
           replace q424 := eq_true q424
           have p425 : 0 ≤ (x41_3 : Int) := of_decide_eq_true (by first | (with_reducible assumption) | assumption)
           have q425 : x41_3 < ((rd_L3 t393 x126_5).length : Int) := of_decide_eq_true (by first | (with_reducible assumption) | assumption)
           obtain ⟨ad425, e425, hx425_0⟩ := Kd.at_int (by repeat (first | (with_reducible exact HR424_0.out) | (with_reducible refine Kd.C_alloc ?_ _) | (with_reducible refine Kd.C_drewN ?_ _) | (with_reducible refine Kd.C_drew ?_) | exact HR424_0.out)) x41_3 p425 q425
           cases e425
           replace p425 := eq_true p425
           replace q425 := eq_true q425
           obtain ⟨Ao128, co128, eo128⟩ := Kd.R_slice HO_5.out
           (first | subst eo128 | (injection eo128 with f1_ f2_ f3_; have f4_ := f1_.symm; have f5_ := f3_.symm; clear f1_ f2_ f3_; subst f4_; subst f5_))
           have p426 : 0 ≤ (x126_5 : Int) := of_decide_eq_true (by first | (with_reducible assumption) | assumption)
           have q426 : x126_5 < (t397.length : Int) := of_decide_eq_true (by first | (with_reducible assumption) | assumption)
           obtain ⟨ad426, e426, hx426_0⟩ := Kd.at_int (Kd.R_reads' HO_5.out).2.2 x126_5 p426 q426
           cases e426
           replace p426 := eq_true p426
           replace q426 := eq_true q426
           have p427 : 0 ≤ (x41_3 : Int) := of_decide_eq_true (by first | (with_reducible assumption) | assumption)
           have q427 : x41_3 < (t397.length : Int) := of_decide_eq_true (by first | (with_reducible assumption) | assumption)
           obtain ⟨ad427, e427, hx427_0⟩ := Kd.at_int (Kd.R_reads' HO_5.out).2.2 x41_3 p427 q427
           obtain rfl : ad426 = ad427 := (by injection e427)
           replace p427 := eq_true p427
           replace q427 := eq_true q427
           refine start_ (n := 62) (S := fun w' => w'.cell? ⟨go33, (x126_5).toNat, none⟩ = some (.bool true) ∧ w'.cell? (ad421.add (x126_5).toNat) = some (.slice (some ad425) (rd_L3 t393 x126_5).length c424_0) ∧ w'.cell? (ad425.add (x41_3).toNat) = some (.int .i64 (rd (rd_L3 t393 x126_5) x41_3)) ∧ w'.cell? (ad426.add (x126_5).toNat) = some (.int .i64 (rd t397 x126_5)) ∧ w'.cell? (ad426.add (x41_3).toNat) = some (.int .i64 (rd t397 x41_3))) (ds := []) (Go.Proofs.Ythkpnkmbmlbefaa.HG.bz [0, 62]) (by kernel_rfl) rfl rfl ⟨hx423_0, hx424_0, hx425_0, hx426_0, hx427_0⟩ (fun hHeld => ?_); refine with_tabW timesynclaw18_TopoDistances.tab25 timesynclaw18_TopoDistances.bits25 (fun HT_ HW_ => ?_)
           generalize wr.drew = w127 at HO_3 HO_5 HO_8 BK389 HR421_0 HB HL424_0 HR424_0 hx423_0 hx424_0 hx425_0 hx426_0 hx427_0 hHeld ⊢
           refine pure_ (i := 0) (N := some 131) (v := ?_) (a' := ?_) (Go.Proofs.Ythkpnkmbmlbefaa.HG.bz [1, 61]) rfl rfl (any_of HT_.out (by kernel_rfl)) (fun _ _ _ h => h) (Or.inl ⟨by rfl, ?_⟩) ?_ ?_
           rotate_left
           ·intro w'
            go_simp
            with_reducible rfl
           rotate_left
           ·simp only [Act.put, List.setIfInBounds_toArray, List.set_cons_zero, List.set_cons_succ, i64_w, i32_w]
            rfl
           refine pure_ (i := 1) (N := some 132) (v := ?_) (a' := ?_) (Go.Proofs.Ythkpnkmbmlbefaa.HG.bz [2, 60]) rfl rfl (any_of HT_.out (by kernel_rfl)) (fun _ _ _ h => h) (Or.inl ⟨by rfl, ?_⟩) ?_ ?_
           rotate_left
           ·intro w'
            go_simp
            with_reducible rfl
           rotate_left
           ·simp only [Act.put, List.setIfInBounds_toArray, List.set_cons_zero, List.set_cons_succ, i64_w, i32_w]
            rfl
           refine pure_ (i := 2) (N := some 133) (v := ?_) (a' := ?_) (Go.Proofs.Ythkpnkmbmlbefaa.HG.bz [3, 59]) rfl rfl (any_of HT_.out (by kernel_rfl)) (fun _ _ _ h => h) (Or.inl ⟨by rfl, ?_⟩) ?_ ?_
           rotate_left
           ·intro w'
            go_simp
            with_reducible rfl
           rotate_left
           ·simp only [Act.put, List.setIfInBounds_toArray, List.set_cons_zero, List.set_cons_succ, i64_w, i32_w]
            rfl
           refine pure_ (i := 3) (N := some 134) (v := ?_) (a' := ?_) (Go.Proofs.Ythkpnkmbmlbefaa.HG.bz [4, 58]) rfl rfl (any_of HT_.out (by kernel_rfl)) (fun _ _ _ h => h) (Or.inl ⟨by rfl, ?_⟩) ?_ ?_
           rotate_left
           ·intro w'
            go_simp
            with_reducible rfl
           rotate_left
           ·simp only [Act.put, List.setIfInBounds_toArray, List.set_cons_zero, List.set_cons_succ, i64_w, i32_w]
            rfl
           refine pure_ (i := 4) (N := some 135) (v := ?_) (a' := ?_) (Go.Proofs.Ythkpnkmbmlbefaa.HG.bz [5, 57]) rfl rfl (any_of HT_.out (by kernel_rfl)) (fun _ _ _ h => h) (Or.inl ⟨by rfl, ?_⟩) ?_ ?_
           rotate_left
           ·intro w'
            go_simp
            with_reducible rfl
           rotate_left
           ·simp only [Act.put, List.setIfInBounds_toArray, List.set_cons_zero, List.set_cons_succ, i64_w, i32_w]
            rfl
           refine pure_ (i := 5) (N := some 136) (v := ?_) (a' := ?_) (Go.Proofs.Ythkpnkmbmlbefaa.HG.bz [6, 56]) rfl rfl (any_of HT_.out (by kernel_rfl)) (fun _ _ _ h => h) (Or.inl ⟨by rfl, ?_⟩) ?_ ?_
           rotate_left
           ·intro w'
            go_simp
            with_reducible rfl
           rotate_left
           ·simp only [Act.put, List.setIfInBounds_toArray, List.set_cons_zero, List.set_cons_succ, i64_w, i32_w]
            rfl
           refine pure_ (i := 6) (N := some 137) (v := ?_) (a' := ?_) (Go.Proofs.Ythkpnkmbmlbefaa.HG.bz [7, 55]) rfl rfl (any_of HT_.out (by kernel_rfl)) (fun _ _ _ h => h) (Or.inl ⟨by rfl, ?_⟩) ?_ ?_
           rotate_left
           ·intro w'
            go_simp
            with_reducible rfl
           rotate_left
           ·simp only [Act.put, List.setIfInBounds_toArray, List.set_cons_zero, List.set_cons_succ, i64_w, i32_w]
            rfl
           refine pure_ (i := 7) (N := some 138) (v := ?_) (a' := ?_) (Go.Proofs.Ythkpnkmbmlbefaa.HG.bz [8, 54]) rfl rfl (any_of HT_.out (by kernel_rfl)) (fun _ _ _ h => h) (Or.inl ⟨by rfl, ?_⟩) ?_ ?_
           rotate_left
           ·intro w'
            go_simp
            with_reducible rfl
           rotate_left
           ·simp only [Act.put, List.setIfInBounds_toArray, List.set_cons_zero, List.set_cons_succ, i64_w, i32_w]
            rfl
           refine pure_ (i := 8) (N := some 139) (v := ?_) (a' := ?_) (Go.Proofs.Ythkpnkmbmlbefaa.HG.bz [9, 53]) rfl rfl (any_of HT_.out (by kernel_rfl)) (fun _ _ _ h => h) (Or.inl ⟨by rfl, ?_⟩) ?_ ?_
           rotate_left
           ·intro w'
            go_simp
            with_reducible rfl
           rotate_left
           ·simp only [Act.put, List.setIfInBounds_toArray, List.set_cons_zero, List.set_cons_succ, i64_w, i32_w]
            rfl
           refine pure_ (i := 9) (N := some 140) (v := ?_) (a' := ?_) (Go.Proofs.Ythkpnkmbmlbefaa.HG.bz [10, 52]) rfl rfl (any_of HT_.out (by kernel_rfl)) (fun _ _ _ h => h) (Or.inl ⟨by rfl, ?_⟩) ?_ ?_
           rotate_left
           ·intro w'
            go_simp
            with_reducible rfl
           rotate_left
           ·simp only [Act.put, List.setIfInBounds_toArray, List.set_cons_zero, List.set_cons_succ, i64_w, i32_w]
            rfl
           refine pure_ (i := 10) (N := some 141) (v := ?_) (a' := ?_) (Go.Proofs.Ythkpnkmbmlbefaa.HG.bz [11, 51]) rfl rfl (any_of HT_.out (by kernel_rfl)) (fun _ _ _ h => h) (Or.inl ⟨by rfl, ?_⟩) ?_ ?_
           rotate_left
           ·intro w'
            go_simp
            with_reducible rfl
           rotate_left
           ·simp only [Act.put, List.setIfInBounds_toArray, List.set_cons_zero, List.set_cons_succ, i64_w, i32_w]
            rfl
           refine pure_ (i := 11) (N := some 142) (v := ?_) (a' := ?_) (Go.Proofs.Ythkpnkmbmlbefaa.HG.bz [12, 50]) rfl rfl (any_of HT_.out (by kernel_rfl)) (fun _ _ _ h => h) (Or.inl ⟨by rfl, ?_⟩) ?_ ?_
           rotate_left
           ·intro w'
            go_simp
            with_reducible rfl
           rotate_left
           ·simp only [Act.put, List.setIfInBounds_toArray, List.set_cons_zero, List.set_cons_succ, i64_w, i32_w]
            rfl
           refine pure_ (i := 12) (N := some 143) (v := ?_) (a' := ?_) (Go.Proofs.Ythkpnkmbmlbefaa.HG.bz [13, 49]) rfl rfl (any_of HT_.out (by kernel_rfl)) (fun _ _ _ h => h) (Or.inl ⟨by rfl, ?_⟩) ?_ ?_
           rotate_left
           ·intro w'
            go_simp
            with_reducible rfl
           rotate_left
           ·simp only [Act.put, List.setIfInBounds_toArray, List.set_cons_zero, List.set_cons_succ, i64_w, i32_w]
            rfl
           refine pure_ (i := 13) (N := some 144) (v := ?_) (a' := ?_) (Go.Proofs.Ythkpnkmbmlbefaa.HG.bz [14, 48]) rfl rfl (any_of HT_.out (by kernel_rfl)) (fun _ _ _ h => h) (Or.inl ⟨by rfl, ?_⟩) ?_ ?_
           rotate_left
           ·intro w'
            go_simp
            with_reducible rfl
           rotate_left
           ·simp only [Act.put, List.setIfInBounds_toArray, List.set_cons_zero, List.set_cons_succ, i64_w, i32_w]
            rfl
           refine pure_ (i := 14) (N := some 145) (v := ?_) (a' := ?_) (Go.Proofs.Ythkpnkmbmlbefaa.HG.bz [15, 47]) rfl rfl (any_of HT_.out (by kernel_rfl)) (fun _ _ _ h => h) (Or.inl ⟨by rfl, ?_⟩) ?_ ?_
           rotate_left
           ·intro w'
            go_simp
            with_reducible rfl
           rotate_left
           ·simp only [Act.put, List.setIfInBounds_toArray, List.set_cons_zero, List.set_cons_succ, i64_w, i32_w]
            rfl
           refine pure_ (i := 15) (N := some 146) (v := ?_) (a' := ?_) (Go.Proofs.Ythkpnkmbmlbefaa.HG.bz [16, 46]) rfl rfl (any_of HT_.out (by kernel_rfl)) (fun _ _ _ h => h) (Or.inl ⟨by rfl, ?_⟩) ?_ ?_
           rotate_left
           ·intro w'
            go_simp
            with_reducible rfl
           rotate_left
           ·simp only [Act.put, List.setIfInBounds_toArray, List.set_cons_zero, List.set_cons_succ, i64_w, i32_w]
            rfl
           refine pure_ (i := 16) (N := some 147) (v := ?_) (a' := ?_) (Go.Proofs.Ythkpnkmbmlbefaa.HG.bz [17, 45]) rfl rfl (any_of HT_.out (by kernel_rfl)) (fun _ _ _ h => h) (Or.inl ⟨by rfl, ?_⟩) ?_ ?_
           rotate_left
           ·intro w'
            go_simp
            with_reducible rfl
           rotate_left
           ·simp only [Act.put, List.setIfInBounds_toArray, List.set_cons_zero, List.set_cons_succ, i64_w, i32_w]
            rfl
           refine take_ (i := 17) (N := some 148) (v := ?_) (a' := ?_) (Go.Proofs.Ythkpnkmbmlbefaa.HG.bz [18, 44]) rfl rfl (take_ofW HT_.out HW_.out (by kernel_rfl)) (fun _ _ _ h => h) (Or.inl ⟨by rfl, ?_⟩) hHeld ?_ ?_
           rotate_left
           ·rintro w' ⟨s0, s1, s2, s3, s4⟩
            go_simp
            with_reducible rfl
           rotate_left
           ·simp only [Act.put, List.setIfInBounds_toArray, List.set_cons_zero, List.set_cons_succ, i64_w, i32_w]
            rfl
           refine pure_ (i := 18) (N := some 149) (v := ?_) (a' := ?_) (Go.Proofs.Ythkpnkmbmlbefaa.HG.bz [19, 43]) rfl rfl (any_of HT_.out (by kernel_rfl)) (fun _ _ _ h => h) (Or.inl ⟨by rfl, ?_⟩) ?_ ?_
           rotate_left
           ·intro w'
            go_simp
            with_reducible rfl
           rotate_left
           ·simp only [Act.put, List.setIfInBounds_toArray, List.set_cons_zero, List.set_cons_succ, i64_w, i32_w]
            rfl
           refine pure_ (i := 19) (N := some 150) (v := ?_) (a' := ?_) (Go.Proofs.Ythkpnkmbmlbefaa.HG.bz [20, 42]) rfl rfl (any_of HT_.out (by kernel_rfl)) (fun _ _ _ h => h) (Or.inl ⟨by rfl, ?_⟩) ?_ ?_
           rotate_left
           ·intro w'
            go_simp
            with_reducible rfl
           rotate_left
           ·simp only [Act.put, List.setIfInBounds_toArray, List.set_cons_zero, List.set_cons_succ, i64_w, i32_w]
            rfl
           refine pure_ (i := 20) (N := some 151) (v := ?_) (a' := ?_) (Go.Proofs.Ythkpnkmbmlbefaa.HG.bz [21, 41]) rfl rfl (any_of HT_.out (by kernel_rfl)) (fun _ _ _ h => h) (Or.inl ⟨by rfl, ?_⟩) ?_ ?_
           rotate_left
           ·intro w'
            go_simp
            with_reducible rfl
           rotate_left
           ·simp only [Act.put, List.setIfInBounds_toArray, List.set_cons_zero, List.set_cons_succ, i64_w, i32_w]
            rfl
           refine pure_ (i := 21) (N := some 152) (v := ?_) (a' := ?_) (Go.Proofs.Ythkpnkmbmlbefaa.HG.bz [22, 40]) rfl rfl (any_of HT_.out (by kernel_rfl)) (fun _ _ _ h => h) (Or.inl ⟨by rfl, ?_⟩) ?_ ?_
           rotate_left
           ·intro w'
            go_simp
            with_reducible rfl
           rotate_left
           ·simp only [Act.put, List.setIfInBounds_toArray, List.set_cons_zero, List.set_cons_succ, i64_w, i32_w]
            rfl
           refine pure_ (i := 22) (N := some 153) (v := ?_) (a' := ?_) (Go.Proofs.Ythkpnkmbmlbefaa.HG.bz [23, 39]) rfl rfl (any_of HT_.out (by kernel_rfl)) (fun _ _ _ h => h) (Or.inl ⟨by rfl, ?_⟩) ?_ ?_
           rotate_left
           ·intro w'
            go_simp
            with_reducible rfl
           rotate_left
           ·simp only [Act.put, List.setIfInBounds_toArray, List.set_cons_zero, List.set_cons_succ, i64_w, i32_w]
            rfl
           refine pure_ (i := 23) (N := some 154) (v := ?_) (a' := ?_) (Go.Proofs.Ythkpnkmbmlbefaa.HG.bz [24, 38]) rfl rfl (any_of HT_.out (by kernel_rfl)) (fun _ _ _ h => h) (Or.inl ⟨by rfl, ?_⟩) ?_ ?_
           rotate_left
           ·intro w'
            go_simp
            with_reducible rfl
           rotate_left
           ·simp only [Act.put, List.setIfInBounds_toArray, List.set_cons_zero, List.set_cons_succ, i64_w, i32_w]
            rfl
           refine pure_ (i := 24) (N := some 155) (v := ?_) (a' := ?_) (Go.Proofs.Ythkpnkmbmlbefaa.HG.bz [25, 37]) rfl rfl (any_of HT_.out (by kernel_rfl)) (fun _ _ _ h => h) (Or.inl ⟨by rfl, ?_⟩) ?_ ?_
           rotate_left
           ·intro w'
            go_simp
            with_reducible rfl
           rotate_left
           ·simp only [Act.put, List.setIfInBounds_toArray, List.set_cons_zero, List.set_cons_succ, i64_w, i32_w]
            rfl
           refine pure_ (i := 25) (N := some 156) (v := ?_) (a' := ?_) (Go.Proofs.Ythkpnkmbmlbefaa.HG.bz [26, 36]) rfl rfl (any_of HT_.out (by kernel_rfl)) (fun _ _ _ h => h) (Or.inl ⟨by rfl, ?_⟩) ?_ ?_
           rotate_left
           ·intro w'
            go_simp
            with_reducible rfl
           rotate_left
           ·simp only [Act.put, List.setIfInBounds_toArray, List.set_cons_zero, List.set_cons_succ, i64_w, i32_w]
            rfl
           refine pure_ (i := 27) (N := some 158) (v := ?_) (a' := ?_) (Go.Proofs.Ythkpnkmbmlbefaa.HG.bz [26, 1, 1, 34]) rfl rfl (any_of HT_.out (by kernel_rfl)) (fun _ _ _ h => h) (Or.inl ⟨by rfl, ?_⟩) ?_ ?_
           rotate_left
           ·intro w'
            go_simp
            with_reducible rfl
           rotate_left
           ·simp only [Act.put, List.setIfInBounds_toArray, List.set_cons_zero, List.set_cons_succ, i64_w, i32_w]
            rfl
           refine take_ (i := 26) (N := some 157) (v := ?_) (a' := ?_) (Go.Proofs.Ythkpnkmbmlbefaa.HG.bz [28, 34]) rfl rfl (take_ofW HT_.out HW_.out (by kernel_rfl)) (fun _ _ _ h => h) (Or.inl ⟨by rfl, ?_⟩) hHeld ?_ ?_
           rotate_left
           ·rintro w' ⟨s0, s1, s2, s3, s4⟩
            go_simp
            with_reducible rfl
           rotate_left
           ·simp only [Act.put, List.setIfInBounds_toArray, List.set_cons_zero, List.set_cons_succ, i64_w, i32_w]
            rfl
           refine pure_ (i := 28) (N := some 159) (v := ?_) (a' := ?_) (Go.Proofs.Ythkpnkmbmlbefaa.HG.bz [29, 33]) rfl rfl (any_of HT_.out (by kernel_rfl)) (fun _ _ _ h => h) (Or.inl ⟨by rfl, ?_⟩) ?_ ?_
           rotate_left
           ·intro w'
            go_simp
            with_reducible rfl
           rotate_left
           ·simp only [Act.put, List.setIfInBounds_toArray, List.set_cons_zero, List.set_cons_succ, i64_w, i32_w]
            rfl
           refine take_ (i := 29) (N := some 160) (v := ?_) (a' := ?_) (Go.Proofs.Ythkpnkmbmlbefaa.HG.bz [30, 32]) rfl rfl (take_ofW HT_.out HW_.out (by kernel_rfl)) (fun _ _ _ h => h) (Or.inl ⟨by rfl, ?_⟩) hHeld ?_ ?_
           rotate_left
           ·rintro w' ⟨s0, s1, s2, s3, s4⟩
            go_simp
            with_reducible rfl
           rotate_left
           ·simp only [Act.put, List.setIfInBounds_toArray, List.set_cons_zero, List.set_cons_succ, i64_w, i32_w]
            rfl
           refine pure_ (i := 30) (N := some 161) (v := ?_) (a' := ?_) (Go.Proofs.Ythkpnkmbmlbefaa.HG.bz [31, 31]) rfl rfl (any_of HT_.out (by kernel_rfl)) (fun _ _ _ h => h) (Or.inl ⟨by rfl, ?_⟩) ?_ ?_
           rotate_left
           ·intro w'
            go_simp
            with_reducible rfl
           rotate_left
           ·simp only [Act.put, List.setIfInBounds_toArray, List.set_cons_zero, List.set_cons_succ, i64_w, i32_w]
            rfl
           refine pure_ (i := 31) (N := some 162) (v := ?_) (a' := ?_) (Go.Proofs.Ythkpnkmbmlbefaa.HG.bz [32, 30]) rfl rfl (any_of HT_.out (by kernel_rfl)) (fun _ _ _ h => h) (Or.inl ⟨by rfl, ?_⟩) ?_ ?_
           rotate_left
           ·intro w'
            go_simp
            with_reducible rfl
           rotate_left
           ·simp only [Act.put, List.setIfInBounds_toArray, List.set_cons_zero, List.set_cons_succ, i64_w, i32_w]
            rfl
           refine pure_ (i := 32) (N := some 163) (v := ?_) (a' := ?_) (Go.Proofs.Ythkpnkmbmlbefaa.HG.bz [33, 29]) rfl rfl (any_of HT_.out (by kernel_rfl)) (fun _ _ _ h => h) (Or.inl ⟨by rfl, ?_⟩) ?_ ?_
           rotate_left
           ·intro w'
            go_simp
            with_reducible rfl
           rotate_left
           ·simp only [Act.put, List.setIfInBounds_toArray, List.set_cons_zero, List.set_cons_succ, i64_w, i32_w]
            rfl
           refine pure_ (i := 33) (N := some 164) (v := ?_) (a' := ?_) (Go.Proofs.Ythkpnkmbmlbefaa.HG.bz [34, 28]) rfl rfl (any_of HT_.out (by kernel_rfl)) (fun _ _ _ h => h) (Or.inl ⟨by rfl, ?_⟩) ?_ ?_
           rotate_left
           ·intro w'
            go_simp
            with_reducible rfl
           rotate_left
           ·simp only [Act.put, List.setIfInBounds_toArray, List.set_cons_zero, List.set_cons_succ, i64_w, i32_w]
            rfl
           refine pure_ (i := 34) (N := some 165) (v := ?_) (a' := ?_) (Go.Proofs.Ythkpnkmbmlbefaa.HG.bz [35, 27]) rfl rfl (any_of HT_.out (by kernel_rfl)) (fun _ _ _ h => h) (Or.inl ⟨by rfl, ?_⟩) ?_ ?_
           rotate_left
           ·intro w'
            go_simp
            with_reducible rfl
           rotate_left
           ·simp only [Act.put, List.setIfInBounds_toArray, List.set_cons_zero, List.set_cons_succ, i64_w, i32_w]
            rfl
           refine pure_ (i := 35) (N := some 166) (v := ?_) (a' := ?_) (Go.Proofs.Ythkpnkmbmlbefaa.HG.bz [36, 26]) rfl rfl (any_of HT_.out (by kernel_rfl)) (fun _ _ _ h => h) (Or.inl ⟨by rfl, ?_⟩) ?_ ?_
           rotate_left
           ·intro w'
            go_simp
            with_reducible rfl
           rotate_left
           ·simp only [Act.put, List.setIfInBounds_toArray, List.set_cons_zero, List.set_cons_succ, i64_w, i32_w]
            rfl
           refine pure_ (i := 36) (N := some 167) (v := ?_) (a' := ?_) (Go.Proofs.Ythkpnkmbmlbefaa.HG.bz [37, 25]) rfl rfl (any_of HT_.out (by kernel_rfl)) (fun _ _ _ h => h) (Or.inl ⟨by rfl, ?_⟩) ?_ ?_
           rotate_left
           ·intro w'
            go_simp
            with_reducible rfl
           rotate_left
           ·simp only [Act.put, List.setIfInBounds_toArray, List.set_cons_zero, List.set_cons_succ, i64_w, i32_w]
            rfl
           refine pure_ (i := 37) (N := some 168) (v := ?_) (a' := ?_) (Go.Proofs.Ythkpnkmbmlbefaa.HG.bz [38, 24]) rfl rfl (any_of HT_.out (by kernel_rfl)) (fun _ _ _ h => h) (Or.inl ⟨by rfl, ?_⟩) ?_ ?_
           rotate_left
           ·intro w'
            go_simp
            with_reducible rfl
           rotate_left
           ·simp only [Act.put, List.setIfInBounds_toArray, List.set_cons_zero, List.set_cons_succ, i64_w, i32_w]
            rfl
           refine pure_ (i := 38) (N := some 169) (v := ?_) (a' := ?_) (Go.Proofs.Ythkpnkmbmlbefaa.HG.bz [39, 23]) rfl rfl (any_of HT_.out (by kernel_rfl)) (fun _ _ _ h => h) (Or.inl ⟨by rfl, ?_⟩) ?_ ?_
           rotate_left
           ·intro w'
            go_simp
            with_reducible rfl
           rotate_left
           ·simp only [Act.put, List.setIfInBounds_toArray, List.set_cons_zero, List.set_cons_succ, i64_w, i32_w]
            rfl
           refine pure_ (i := 40) (N := some 171) (v := ?_) (a' := ?_) (Go.Proofs.Ythkpnkmbmlbefaa.HG.bz [39, 1, 1, 21]) rfl rfl (any_of HT_.out (by kernel_rfl)) (fun _ _ _ h => h) (Or.inl ⟨by rfl, ?_⟩) ?_ ?_
           rotate_left
           ·intro w'
            go_simp
            with_reducible rfl
           rotate_left
           ·simp only [Act.put, List.setIfInBounds_toArray, List.set_cons_zero, List.set_cons_succ, i64_w, i32_w]
            rfl
           refine pure_ (i := 41) (N := some 172) (v := ?_) (a' := ?_) (Go.Proofs.Ythkpnkmbmlbefaa.HG.bz [39, 1, 2, 20]) rfl rfl (any_of HT_.out (by kernel_rfl)) (fun _ _ _ h => h) (Or.inl ⟨by rfl, ?_⟩) ?_ ?_
           rotate_left
           ·intro w'
            go_simp
            with_reducible rfl
           rotate_left
           ·simp only [Act.put, List.setIfInBounds_toArray, List.set_cons_zero, List.set_cons_succ, i64_w, i32_w]
            rfl
           refine pure_ (i := 42) (N := some 173) (v := ?_) (a' := ?_) (Go.Proofs.Ythkpnkmbmlbefaa.HG.bz [39, 1, 3, 19]) rfl rfl (any_of HT_.out (by kernel_rfl)) (fun _ _ _ h => h) (Or.inl ⟨by rfl, ?_⟩) ?_ ?_
           rotate_left
           ·intro w'
            go_simp
            with_reducible rfl
           rotate_left
           ·simp only [Act.put, List.setIfInBounds_toArray, List.set_cons_zero, List.set_cons_succ, i64_w, i32_w]
            rfl
           refine take_ (i := 39) (N := some 170) (v := ?_) (a' := ?_) (Go.Proofs.Ythkpnkmbmlbefaa.HG.bz [43, 19]) rfl rfl (take_ofW HT_.out HW_.out (by kernel_rfl)) (fun _ _ _ h => h) (Or.inl ⟨by rfl, ?_⟩) hHeld ?_ ?_
           rotate_left
           ·rintro w' ⟨s0, s1, s2, s3, s4⟩
            go_simp
            with_reducible rfl
           rotate_left
           ·simp only [Act.put, List.setIfInBounds_toArray, List.set_cons_zero, List.set_cons_succ, i64_w, i32_w]
            rfl
           refine take_ (i := 43) (N := some 174) (v := ?_) (a' := ?_) (Go.Proofs.Ythkpnkmbmlbefaa.HG.bz [44, 18]) rfl rfl (take_ofW HT_.out HW_.out (by kernel_rfl)) (fun _ _ _ h => h) (Or.inl ⟨by rfl, ?_⟩) hHeld ?_ ?_
           rotate_left
           ·rintro w' ⟨s0, s1, s2, s3, s4⟩
            go_simp
            with_reducible rfl
           rotate_left
           ·simp only [Act.put, List.setIfInBounds_toArray, List.set_cons_zero, List.set_cons_succ, i64_w, i32_w]
            rfl
           refine pure_ (i := 44) (N := some 175) (v := ?_) (a' := ?_) (Go.Proofs.Ythkpnkmbmlbefaa.HG.bz [45, 17]) rfl rfl (any_of HT_.out (by kernel_rfl)) (fun _ _ _ h => h) (Or.inl ⟨by rfl, ?_⟩) ?_ ?_
           rotate_left
           ·intro w'
            go_simp
            with_reducible rfl
           rotate_left
           ·simp only [Act.put, List.setIfInBounds_toArray, List.set_cons_zero, List.set_cons_succ, i64_w, i32_w]
            rfl
           refine pure_ (i := 45) (N := some 176) (v := ?_) (a' := ?_) (Go.Proofs.Ythkpnkmbmlbefaa.HG.bz [46, 16]) rfl rfl (any_of HT_.out (by kernel_rfl)) (fun _ _ _ h => h) (Or.inl ⟨by rfl, ?_⟩) ?_ ?_
           rotate_left
           ·intro w'
            go_simp
            with_reducible rfl
           rotate_left
           ·simp only [Act.put, List.setIfInBounds_toArray, List.set_cons_zero, List.set_cons_succ, i64_w, i32_w]
            rfl
           refine pure_ (i := 46) (N := some 177) (v := ?_) (a' := ?_) (Go.Proofs.Ythkpnkmbmlbefaa.HG.bz [47, 15]) rfl rfl (any_of HT_.out (by kernel_rfl)) (fun _ _ _ h => h) (Or.inl ⟨by rfl, ?_⟩) ?_ ?_
           rotate_left
           ·intro w'
            go_simp
            with_reducible rfl
           rotate_left
           ·simp only [Act.put, List.setIfInBounds_toArray, List.set_cons_zero, List.set_cons_succ, i64_w, i32_w]
            rfl
           refine pure_ (i := 47) (N := some 178) (v := ?_) (a' := ?_) (Go.Proofs.Ythkpnkmbmlbefaa.HG.bz [48, 14]) rfl rfl (any_of HT_.out (by kernel_rfl)) (fun _ _ _ h => h) (Or.inl ⟨by rfl, ?_⟩) ?_ ?_
           rotate_left
           ·intro w'
            go_simp
            with_reducible rfl
           rotate_left
           ·simp only [Act.put, List.setIfInBounds_toArray, List.set_cons_zero, List.set_cons_succ, i64_w, i32_w]
            rfl
           refine pure_ (i := 48) (N := some 179) (v := ?_) (a' := ?_) (Go.Proofs.Ythkpnkmbmlbefaa.HG.bz [49, 13]) rfl rfl (any_of HT_.out (by kernel_rfl)) (fun _ _ _ h => h) (Or.inl ⟨by rfl, ?_⟩) ?_ ?_
           rotate_left
           ·intro w'
            go_simp
            with_reducible rfl
           rotate_left
           ·simp only [Act.put, List.setIfInBounds_toArray, List.set_cons_zero, List.set_cons_succ, i64_w, i32_w]
            rfl
           refine pure_ (i := 49) (N := some 180) (v := ?_) (a' := ?_) (Go.Proofs.Ythkpnkmbmlbefaa.HG.bz [50, 12]) rfl rfl (any_of HT_.out (by kernel_rfl)) (fun _ _ _ h => h) (Or.inl ⟨by rfl, ?_⟩) ?_ ?_
           rotate_left
           ·intro w'
            go_simp
            with_reducible rfl
           rotate_left
           ·simp only [Act.put, List.setIfInBounds_toArray, List.set_cons_zero, List.set_cons_succ, i64_w, i32_w]
            rfl
           refine pure_ (i := 50) (N := some 181) (v := ?_) (a' := ?_) (Go.Proofs.Ythkpnkmbmlbefaa.HG.bz [51, 11]) rfl rfl (any_of HT_.out (by kernel_rfl)) (fun _ _ _ h => h) (Or.inl ⟨by rfl, ?_⟩) ?_ ?_
           rotate_left
           ·intro w'
            go_simp
            with_reducible rfl
           rotate_left
           ·simp only [Act.put, List.setIfInBounds_toArray, List.set_cons_zero, List.set_cons_succ, i64_w, i32_w]
            rfl
           refine pure_ (i := 51) (N := some 182) (v := undef) (a' := ?_) (Go.Proofs.Ythkpnkmbmlbefaa.HG.bz [52, 10]) rfl rfl (any_of HT_.out (by kernel_rfl)) (fun _ _ _ h => h) (Or.inr ⟨by rfl, rfl⟩) ?_ ?_
           rotate_left
           ·simp only [Act.put, List.setIfInBounds_toArray, List.set_cons_zero, List.set_cons_succ, i64_w, i32_w]
            rfl
           refine pure_ (i := 52) (N := some 183) (v := undef) (a' := ?_) (Go.Proofs.Ythkpnkmbmlbefaa.HG.bz [53, 9]) rfl rfl (any_of HT_.out (by kernel_rfl)) (fun _ _ _ h => h) (Or.inr ⟨by rfl, rfl⟩) ?_ ?_
           rotate_left
           ·simp only [Act.put, List.setIfInBounds_toArray, List.set_cons_zero, List.set_cons_succ, i64_w, i32_w]
            rfl
           refine pure_ (i := 53) (N := some 184) (v := undef) (a' := ?_) (Go.Proofs.Ythkpnkmbmlbefaa.HG.bz [54, 8]) rfl rfl (any_of HT_.out (by kernel_rfl)) (fun _ _ _ h => h) (Or.inr ⟨by rfl, rfl⟩) ?_ ?_
           rotate_left
           ·simp only [Act.put, List.setIfInBounds_toArray, List.set_cons_zero, List.set_cons_succ, i64_w, i32_w]
            rfl
           refine pure_ (i := 54) (N := some 185) (v := undef) (a' := ?_) (Go.Proofs.Ythkpnkmbmlbefaa.HG.bz [55, 7]) rfl rfl (any_of HT_.out (by kernel_rfl)) (fun _ _ _ h => h) (Or.inr ⟨by rfl, rfl⟩) ?_ ?_
           rotate_left
           ·simp only [Act.put, List.setIfInBounds_toArray, List.set_cons_zero, List.set_cons_succ, i64_w, i32_w]
            rfl
           refine pure_ (i := 55) (N := some 186) (v := undef) (a' := ?_) (Go.Proofs.Ythkpnkmbmlbefaa.HG.bz [56, 6]) rfl rfl (any_of HT_.out (by kernel_rfl)) (fun _ _ _ h => h) (Or.inr ⟨by rfl, rfl⟩) ?_ ?_
           rotate_left
           ·simp only [Act.put, List.setIfInBounds_toArray, List.set_cons_zero, List.set_cons_succ, i64_w, i32_w]
            rfl
           refine pure_ (i := 56) (N := some 187) (v := undef) (a' := ?_) (Go.Proofs.Ythkpnkmbmlbefaa.HG.bz [57, 5]) rfl rfl (any_of HT_.out (by kernel_rfl)) (fun _ _ _ h => h) (Or.inr ⟨by rfl, rfl⟩) ?_ ?_
           rotate_left
           ·simp only [Act.put, List.setIfInBounds_toArray, List.set_cons_zero, List.set_cons_succ, i64_w, i32_w]
            rfl
           refine pure_ (i := 57) (N := some 188) (v := undef) (a' := ?_) (Go.Proofs.Ythkpnkmbmlbefaa.HG.bz [58, 4]) rfl rfl (any_of HT_.out (by kernel_rfl)) (fun _ _ _ h => h) (Or.inr ⟨by rfl, rfl⟩) ?_ ?_
           rotate_left
           ·simp only [Act.put, List.setIfInBounds_toArray, List.set_cons_zero, List.set_cons_succ, i64_w, i32_w]
            rfl
           refine pure_ (i := 58) (N := some 189) (v := undef) (a' := ?_) (Go.Proofs.Ythkpnkmbmlbefaa.HG.bz [59, 3]) rfl rfl (any_of HT_.out (by kernel_rfl)) (fun _ _ _ h => h) (Or.inr ⟨by rfl, rfl⟩) ?_ ?_
           rotate_left
           ·simp only [Act.put, List.setIfInBounds_toArray, List.set_cons_zero, List.set_cons_succ, i64_w, i32_w]
            rfl
           refine pure_ (i := 59) (N := some 190) (v := undef) (a' := ?_) (Go.Proofs.Ythkpnkmbmlbefaa.HG.bz [60, 2]) rfl rfl (any_of HT_.out (by kernel_rfl)) (fun _ _ _ h => h) (Or.inr ⟨by rfl, rfl⟩) ?_ ?_
           rotate_left
           ·simp only [Act.put, List.setIfInBounds_toArray, List.set_cons_zero, List.set_cons_succ, i64_w, i32_w]
            rfl
           refine pure_ (i := 60) (N := some 191) (v := ?_) (a' := ?_) (Go.Proofs.Ythkpnkmbmlbefaa.HG.bz [61, 1]) rfl rfl (any_of HT_.out (by kernel_rfl)) (fun _ _ _ h => h) (Or.inl ⟨by rfl, ?_⟩) ?_ ?_
           rotate_left
           ·intro w'
            go_simp
            with_reducible rfl
           rotate_left
           ·simp only [Act.put, List.setIfInBounds_toArray, List.set_cons_zero, List.set_cons_succ, i64_w, i32_w]
            rfl
           refine pure_ (i := 61) (N := some 192) (v := ?_) (a' := ?_) (Go.Proofs.Ythkpnkmbmlbefaa.HG.bz [62]) rfl rfl (any_of HT_.out (by kernel_rfl)) (fun _ _ _ h => h) (Or.inl ⟨by rfl, ?_⟩) ?_ ?_
           rotate_left
           ·intro w'
            go_simp
            with_reducible rfl
           rotate_left
           ·simp only [Act.put, List.setIfInBounds_toArray, List.set_cons_zero, List.set_cons_succ, i64_w, i32_w]
            rfl
           refine done_ (done_of HT_.out (by kernel_rfl)) ?_
           try go_wp2
           go_roundg k5
           case measure => have := HJ1.out; have := HJ17.out; have := HK3.out; have := HK4.out; have := HK5.out; omega
           case rel => exact ⟨(ji126), (wrap64 (x126_5 + 1)), (by first | rfl | (simp; done) | (simp only [← hji126] <;> (first | rfl | simp)) | (simp [*]; done)), (by first | rfl | (simp; done) | (simp [*]; done)), H', ⟨by have := HJ1.out; have := HJ17.out; have := HK3.out; have := HK4.out; have := HK5.out; omega⟩, ⟨by (try simp only [hl8_4]); (with_reducible repeat (first | apply Kd.S_alloc | apply Kd.S_drewN | apply Kd.S_drew)); exact HO_3.out⟩, ⟨by (try simp only [hl8_4]); (with_reducible repeat (first | apply Kd.R_alloc | apply Kd.R_drewN | apply Kd.R_drew)); exact HO_5.out⟩, ⟨by (try simp only [hl8_4]); (with_reducible repeat (first | apply Kd.R_alloc | apply Kd.R_drewN | apply Kd.R_drew)); exact HO_8.out⟩, ⟨by (try simp only [hl8_4]); (with_reducible repeat (first | refine blk_drewN ?_ _ | refine blk_drew ?_ | refine blk_alloc ?_ _)); exact BK389.out⟩, ⟨by repeat (first | (with_reducible exact HR421_0.out) | (with_reducible refine Kd.C_alloc ?_ _) | (with_reducible refine Kd.C_drewN ?_ _) | (with_reducible refine Kd.C_drew ?_) | exact HR421_0.out)⟩, ⟨by repeat (first | (with_reducible first | exact HB.out | apply below_alloc | apply pw_below_drewN | apply below_drew1 | refine below_set ?_ GE389.out) | exact HB.out)⟩⟩

end Go.Proofs.Ythkpnkmbmlbefaa.X
