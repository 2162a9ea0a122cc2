/- Ythkpnkmbmlbefaa: part 6 of 7 of the proof that the law TopoPaths returns true for every input, its arguments reading as before. No condition. -/
import Derived.Test.YthkpnkmbmlbefaaMTopoPaths1
import Derived.Test.YthkpnkmbmlbefaaMTopoPaths5
import Derived.Test.YthkpnkmbmlbefaaMTopoPaths4
import Derived.Test.YthkpnkmbmlbefaaMTopoPaths3
import Derived.Test.YthkpnkmbmlbefaaMTopoPaths2
import Derived.KernelRfl
namespace Go.Proofs.Ythkpnkmbmlbefaa.X
open Go.RowKit Go.Proofs.YthkpnkmbmlbefaaW.PrintWords Go.Proofs.YthkpnkmbmlbefaaW.PrintLast Go.Proofs.YthkpnkmbmlbefaaW.PrintMore
attribute [local go_sem] max2_int min2_int max_two min_two max_three min_three max_four min_four   -- for this text's walks alone
set_option linter.unusedVariables false
set_option linter.unusedSimpArgs false

/-! ### timesyncref18_Path: function 25 -/
mutual
def timesyncref18_Path.j0 : Nat → Int → List Int → Bool → Int → List (S37) → Option (List Int)
 | 0, _, _, _, _, _ => none
 | k + 1, x1, x7, x30, x271000, x271001 => if x30 = true then (some ([] : List Int)) else (if 0 ≤ x1 then (if x1 < (x7.length : Int) then (timesyncref18_Path.l0 k x7 (([x1] : List Int)) (wrap64 ((rd x7 x1) - 1)) x271000 x271001) else (none)) else (none))
def timesyncref18_Path.l0 : Nat → List Int → List Int → Int → Int → List (S37) → Option (List Int)
 | 0, _, _, _, _, _ => none
 | k + 1, x7, x8, x9, x271000, x271001 => if x9 ≥ 0 then (timesyncref18_Path.l1 k x7 x8 x9 (-1) 0 x271000 x271001) else (some x8)
def timesyncref18_Path.l1 : Nat → List Int → List Int → Int → Int → Int → Int → List (S37) → Option (List Int)
 | 0, _, _, _, _, _, _, _ => none
 | k + 1, x7, x8, x9, x10, x11, x271000, x271001 => if x11 < x271000 then (if x10 < 0 then (if 0 ≤ x11 then (if x11 < (x7.length : Int) then (if (rd x7 x11) = x9 then (if 0 ≤ (wrap64 ((x8.length : Int) - 1)) then (if (wrap64 ((x8.length : Int) - 1)) < (x8.length : Int) then ((timesyncref18_neighbors.f k x271000 x271001 (rd x8 (wrap64 ((x8.length : Int) - 1))) x11).bind fun t282 => (if t282 = true then (timesyncref18_Path.l1 k x7 x8 x9 x11 (wrap64 (x11 + 1)) x271000 x271001) else (timesyncref18_Path.l1 k x7 x8 x9 x10 (wrap64 (x11 + 1)) x271000 x271001))) else (none)) else (none)) else (timesyncref18_Path.l1 k x7 x8 x9 x10 (wrap64 (x11 + 1)) x271000 x271001)) else (none)) else (none)) else (timesyncref18_Path.l1 k x7 x8 x9 x10 (wrap64 (x11 + 1)) x271000 x271001)) else (if x8.length < 17592186044416 then (timesyncref18_Path.l0 k x7 (x8 ++ [x10]) (wrap64 (x9 - 1)) x271000 x271001) else (none))
end
def timesyncref18_Path.f (k : Nat) (a0_0 : Int) (l0_1 : List (S37)) (a1 : Int) (a2 : Int) : Option (List Int) := (timesyncref18_Dist.f k a0_0 l0_1 a2).bind fun t271 => (if (t271.length : Int) = 0 then (timesyncref18_Path.j0 k a1 t271 true a0_0 l0_1) else ((timesyncref18_isNode.f a0_0 l0_1 a1).bind fun t274 => (if t274 = true then (if 0 ≤ a1 then (if a1 < (t271.length : Int) then (timesyncref18_Path.j0 k a1 t271 (decide ((rd t271 a1) < 0)) a0_0 l0_1) else (none)) else (none)) else (timesyncref18_Path.j0 k a1 t271 true a0_0 l0_1))))
def timesyncref18_Path.T12 : Bool × List (List Nat × List Nat) := (true, [([], []), ([0], [0]), ([1], [1]), ([2], [2]), ([2], [2]), ([3, 4, 2], [2, 3, 4]), ([5, 2], [2, 5]), ([2], [2]), ([6, 7, 2], [2, 6, 7]), ([2, 8], [2, 8]), ([9, 2], [9]), ([10], [10]), ([10], [10]), ([10], [10]), ([13, 10], [10, 13]), ([14, 10], [10, 14]), ([12, 15, 10], [10, 12, 15]), ([16, 10], [10, 16]), ([10], [10]), ([11, 17, 18, 10, 10], [10, 11, 17, 18]), ([10, 19], [10, 19])])
def timesyncref18_Path.B12 : List Nat := [0, 1, 3, 7, 7, 31, 63, 7, 255, 511, 1023, 2047, 2047, 2047, 10239, 26623, 63487, 129023, 2047, 524287, 1048575]
theorem timesyncref18_Path.tab12 : rtab .any (opsOf Try.f25 12) = timesyncref18_Path.T12 := by kernel_rfl
theorem timesyncref18_Path.bits12 : waitsOk timesyncref18_Path.T12.2 timesyncref18_Path.B12 = true := by kernel_rfl
set_option maxHeartbeats 8000000 in
set_option maxRecDepth 100000 in
theorem timesyncref18_Path.calls (k : Nat) (a0_0 : Int) (A0_1 : Option Addr) (c0_1 : Nat) (l0_1 : List (S37)) (a1 : Int) (a2 : Int) (r : List Int) (w : World) (hr0_1 : Kd.C k37 w A0_1 l0_1.length l0_1) (hc0_1 : l0_1.length ≤ c0_1) (h : timesyncref18_Path.f k a0_0 l0_1 a1 a2 = some r) :
  Calls Try.prog 25 #[.agg #[.int .i64 a0_0, .slice A0_1 l0_1.length c0_1], .int .i64 a1, .int .i64 a2] w fun e w' => ∃ v0_ : Value, e = .returned (v0_) ∧ Kd.R (Kd.int .i64) 3 w' w.heap.size (fun _ => True) v0_ r ∧ Below w.heap.size w w' := by
 have hu24 := Try.underlying24
 have HR0_1 := Aside0.mk hr0_1
 have HC0_1 := Aside0.mk hc0_1
 clear hr0_1 hc0_1
 have HB := Aside0.mk (Below.refl w.heap.size w)
 have H : ((timesyncref18_Dist.f k a0_0 l0_1 a2).bind fun t271 => (if (t271.length : Int) = 0 then (timesyncref18_Path.j0 k a1 t271 true a0_0 l0_1) else ((timesyncref18_isNode.f a0_0 l0_1 a1).bind fun t274 => (if t274 = true then (if 0 ≤ a1 then (if a1 < (t271.length : Int) then (timesyncref18_Path.j0 k a1 t271 (decide ((rd t271 a1) < 0)) a0_0 l0_1) else (none)) else (none)) else (timesyncref18_Path.j0 k a1 t271 true a0_0 l0_1))))) = some r := h
 clear h
 replace H := Option.bind_eq_some_iff.mp H
 obtain ⟨t271, A40, H⟩ := H
 replace H : (if (t271.length : Int) = 0 then (timesyncref18_Path.j0 k a1 t271 true a0_0 l0_1) else ((timesyncref18_isNode.f a0_0 l0_1 a1).bind fun t274 => (if t274 = true then (if 0 ≤ a1 then (if a1 < (t271.length : Int) then (timesyncref18_Path.j0 k a1 t271 (decide ((rd t271 a1) < 0)) a0_0 l0_1) else (none)) else (none)) else (timesyncref18_Path.j0 k a1 t271 true a0_0 l0_1)))) = some r := H
 have A4 := Aside0.mk A40
 clear A40
 have HC5 := Aside0.mk H
 clear H
 go_enter Try.func25, Try.ntmps25
 go_upto_region 2 with (first | ((with_reducible refine gate_dst (N := 3) rfl ?_); (try (refine gate_guard (by rfl) ?_; dsimp only)); refine box_event ?hg (N := 3) ?hd (cs := #[.int .i64 a0_0, .slice A0_1 l0_1.length c0_1]) (t := 24) ?hr ?_; (case hd => rfl); (case hg => rfl); (case hr => first | (go_simp; done) | (go_simp; rfl)); intro gb270 hg w6 hbox hb; have n0_ := Aside0.mk (below_step (by exact HB.out) hb); have n1_ := Aside0.mk (hbox); have n2_ := Aside0.mk ((by rw [hg]; exact (below_size (by exact HB.out)) : w.heap.size ≤ gb270)); have n3_ := Aside0.mk ((by rw [hg]; exact (below_size (by exact HB.out)) : w.heap.size ≤ gb270)); clear HB; have HB := n0_; have BK270 := n1_; have GW270 := n2_; have GE270 := n3_; clear n0_ n1_ n2_ n3_; clear hb hbox hg; have hcz7_0 : w6.cell? ⟨gb270, 0, none⟩ = some (.int .i64 a0_0) := (blk_cell BK270.out 0).trans rfl; have hcz7_1 : w6.cell? ⟨gb270, 1, none⟩ = some (.slice A0_1 l0_1.length c0_1) := (blk_cell BK270.out 1).trans rfl; have hfz7_0 := blk_frozen BK270.out 0; have hfz7_1 := blk_frozen BK270.out 1) | ((with_reducible refine gate_callee (f := 21) rfl ?_); refine goesL_ (some 14) rfl rfl Try.func21 (by kernel_rfl) rfl #[.agg #[.int .i64 a0_0, .slice A0_1 l0_1.length c0_1], .int .i64 a2] rfl (by (try simp only [List.map_toArray, List.map_cons, List.map_nil]); first | done | rfl | (simp only [List.length_drop, List.length_take]; rfl)) ?_; (with_reducible refine (timesyncref18_Dist.calls k a0_0 _ _ l0_1 a2 t271 _ ?side1 ?side2 A4.out).mono ?_); (case side1 => exact (Kd.C_below HR0_1.out HB.out)); (case side2 => exact HC0_1.out); rintro e w8 ⟨v272, rfl, ho0, hb⟩; refine ⟨_, rfl, ?_⟩; have n0_ := Aside0.mk (Kd.R_lower ho0 (below_size (by exact HB.out))); have n1_ := Aside0.mk (blk_below (g := gb270) (o := .cells #[.int .i64 a0_0, .slice A0_1 l0_1.length c0_1] 24 (0, 0)) (by exact BK270.out) hb); have n2_ := Aside0.mk (below_step (by exact HB.out) hb); clear BK270; clear HB; have HO273 := n0_; have BK270 := n1_; have HB := n2_; clear n0_ n1_ n2_; (try clear ho0)))
 (try simp only [Act.put, List.setIfInBounds_toArray, List.set_cons_zero, List.set_cons_succ])
 go_cut [30] (fun v30 wc => ∃ (kq : Nat) (x30_4 : Bool), v30 = .bool x30_4 ∧ Aside0 (timesyncref18_Path.j0 kq a1 t271 x30_4 a0_0 l0_1 = some r) ∧ Aside0 (kq ≤ k) ∧ Aside0 (Kd.R (Kd.int .i64) 3 wc w.heap.size (fun _ => True) v272 t271) ∧ Aside0 (wc.heap[gb270]? = some (.cells #[.int .i64 a0_0, (.slice A0_1 l0_1.length c0_1)] 24 (0, 0))) ∧ Aside0 (Below w.heap.size w wc))
 case first =>
  have H := HC5.out
  clear HC5
  by_cases c9 : (t271.length : Int) = 0
  ·rw [if_pos c9] at H
   have c9b0 : ((t271.length : Int) == 0) = true := beq_iff_eq.mpr c9
   have c9b1 : ((t271.length : Int) != 0) = false := bne_eq_false_iff_eq.mpr c9
   clear c9
   (first | rw [c9b0] | (simp only [i64_w, i32_w]; rw [c9b0]) | skip)
   have H' := Aside0.mk H
   clear H
   obtain ⟨Ao10, co10, eo10⟩ := Kd.R_slice HO273.out
   subst eo10
   go_wp2
   go_meet
   case rel => exact ⟨_, (true), (by first | rfl | (simp; done) | (simp [*]; done)), H', ⟨by first | omega | exact Nat.le_refl _⟩, ⟨by exact HO273.out⟩, ⟨by exact BK270.out⟩, ⟨by exact HB.out⟩⟩
  ·rw [if_neg c9] at H
   have c9b0 : ((t271.length : Int) == 0) = false := beq_eq_false_iff_ne.mpr c9
   have c9b1 : ((t271.length : Int) != 0) = true := bne_iff_ne.mpr c9
   have c9b2 : ¬ (t271 = []) := fun h_ => c9 (by rw [h_]; rfl)
   (first | rw [c9b0] | (simp only [i64_w, i32_w]; rw [c9b0]) | skip)
   replace H := Option.bind_eq_some_iff.mp H
   obtain ⟨t274, A110, H⟩ := H
   replace H : (if t274 = true then (if 0 ≤ a1 then (if a1 < (t271.length : Int) then (timesyncref18_Path.j0 k a1 t271 (decide ((rd t271 a1) < 0)) a0_0 l0_1) else (none)) else (none)) else (timesyncref18_Path.j0 k a1 t271 true a0_0 l0_1)) = some r := H
   have A11 := Aside0.mk A110
   clear A110
   by_cases c12 : t274 = true
   ·subst c12
    have H1 : (if 0 ≤ a1 then (if a1 < (t271.length : Int) then (timesyncref18_Path.j0 k a1 t271 (decide ((rd t271 a1) < 0)) a0_0 l0_1) else (none)) else (none)) = some r := by rw [if_pos rfl] at H; exact H
    clear H
    have H := H1
    clear H1
    by_cases c13 : 0 ≤ a1
    ·rw [if_pos c13] at H
     have c13b0 : decide (0 ≤ a1) = true := decide_eq_true c13
     clear c13
     by_cases c14 : a1 < (t271.length : Int)
     ·rw [if_pos c14] at H
      have c14b0 : decide (a1 < (t271.length : Int)) = true := decide_eq_true c14
      clear c14
      have H' := Aside0.mk H
      clear H
      obtain ⟨Ao15, co15, eo15⟩ := Kd.R_slice HO273.out
      subst eo15
      have hcz16_0 : w8.cell? ⟨gb270, 0, none⟩ = some (.int .i64 a0_0) := (blk_cell BK270.out 0).trans rfl
      have hcz16_1 : w8.cell? ⟨gb270, 1, none⟩ = some (.slice A0_1 l0_1.length c0_1) := (blk_cell BK270.out 1).trans rfl
      have hfz16_0 := blk_frozen BK270.out 0
      have hfz16_1 := blk_frozen BK270.out 1
      go_wp2_with (first | (go_at_call 54; (with_reducible refine (timesyncref18_isNode.calls a0_0 _ _ l0_1 a1 true _ ?side1 ?side2 A11.out).mono ?_); (case side1 => exact (Kd.C_below HR0_1.out HB.out)); (case side2 => exact HC0_1.out); rintro e w17 ⟨rfl, hb⟩; have n0_ := Aside0.mk (Kd.R_below (by exact HO273.out) hb); have n1_ := Aside0.mk (blk_below (g := gb270) (o := .cells #[.int .i64 a0_0, .slice A0_1 l0_1.length c0_1] 24 (0, 0)) (by exact BK270.out) hb); have n2_ := Aside0.mk (below_step (by exact HB.out) hb); clear HO273; clear BK270; clear HB; have HO273 := n0_; have BK270 := n1_; have HB := n2_; clear n0_ n1_ n2_; have p275 : 0 ≤ (a1 : Int) := of_decide_eq_true (by first | (with_reducible assumption) | assumption); have q275 : a1 < (t271.length : Int) := of_decide_eq_true (by first | (with_reducible assumption) | assumption); obtain ⟨ad275, e275, hx275_0⟩ := Kd.at_int (Kd.R_reads' HO273.out).2.2 a1 p275 q275; cases e275; replace p275 := eq_true p275; replace q275 := eq_true q275))
      go_meet
      case rel => exact ⟨_, (decide ((rd t271 a1) < 0)), (by first | rfl | (simp; done) | (simp [*]; done)), H', ⟨by first | omega | exact Nat.le_refl _⟩, ⟨by exact HO273.out⟩, ⟨by exact BK270.out⟩, ⟨by exact HB.out⟩⟩
     ·rw [if_neg c14] at H
      exact absurd H (by simp)
    ·rw [if_neg c13] at H
     exact absurd H (by simp)
   ·replace c12 := Bool.eq_false_iff.mpr c12
    subst c12
    have H1 : (timesyncref18_Path.j0 k a1 t271 true a0_0 l0_1) = some r := by rw [if_neg (show ¬ (false = true) by decide)] at H; exact H
    clear H
    have H := H1
    clear H1
    have H' := Aside0.mk H
    clear H
    obtain ⟨Ao18, co18, eo18⟩ := Kd.R_slice HO273.out
    subst eo18
    have hcz19_0 : w8.cell? ⟨gb270, 0, none⟩ = some (.int .i64 a0_0) := (blk_cell BK270.out 0).trans rfl
    have hcz19_1 : w8.cell? ⟨gb270, 1, none⟩ = some (.slice A0_1 l0_1.length c0_1) := (blk_cell BK270.out 1).trans rfl
    have hfz19_0 := blk_frozen BK270.out 0
    have hfz19_1 := blk_frozen BK270.out 1
    go_wp2_with (first | (go_at_call 54; (with_reducible refine (timesyncref18_isNode.calls a0_0 _ _ l0_1 a1 false _ ?side1 ?side2 A11.out).mono ?_); (case side1 => exact (Kd.C_below HR0_1.out HB.out)); (case side2 => exact HC0_1.out); rintro e w20 ⟨rfl, hb⟩; have n0_ := Aside0.mk (Kd.R_below (by exact HO273.out) hb); have n1_ := Aside0.mk (blk_below (g := gb270) (o := .cells #[.int .i64 a0_0, .slice A0_1 l0_1.length c0_1] 24 (0, 0)) (by exact BK270.out) hb); have n2_ := Aside0.mk (below_step (by exact HB.out) hb); clear HO273; clear BK270; clear HB; have HO273 := n0_; have BK270 := n1_; have HB := n2_; clear n0_ n1_ n2_; (try clear hi)))
    go_meet
    case rel => exact ⟨_, (true), (by first | rfl | (simp; done) | (simp [*]; done)), H', ⟨by first | omega | exact Nat.le_refl _⟩, ⟨by exact HO273.out⟩, ⟨by exact BK270.out⟩, ⟨by exact HB.out⟩⟩
 case rest =>
  clear HC5





























  obtain ⟨kq, x30_4, rfl, HA, HJ4, HO_7, BK270, HB⟩ := hcut
  cases kq with
  | zero => exact absurd HA.out (by simp [timesyncref18_Path.j0])
  | succ kj4 =>
   have H := HA.out
   clear HA
   simp only [timesyncref18_Path.j0] at H
   by_cases c21 : x30_4 = true
   ·subst c21
    have H1 : (some ([] : List Int)) = some r := by rw [if_pos rfl] at H; exact H
    clear H
    have H := H1
    clear H1
    obtain rfl := Option.some.inj H
    go_wp2
    go_ret
    exact ⟨_, by first | rfl | (simp [errW_none, errW_some] <;> rfl) | (simp [*, errW_none, errW_some] <;> rfl), by first | exact Kd.R_nil _ _ _ _ _ | exact Kd.N_nil _ _ _ _ _ | exact Kd.V_nil _ _ _ _ _ | exact Kd.Q_nil _ _ _ _ _ | exact Kd.S_nil _ _ _ _ _, by exact HB.out⟩
   ·replace c21 := Bool.eq_false_iff.mpr c21
    subst c21
    have H1 : (if 0 ≤ a1 then (if a1 < (t271.length : Int) then (timesyncref18_Path.l0 kj4 t271 (([a1] : List Int)) (wrap64 ((rd t271 a1) - 1)) a0_0 l0_1) else (none)) else (none)) = some r := by rw [if_neg (show ¬ (false = true) by decide)] at H; exact H
    clear H
    have H := H1
    clear H1
    obtain ⟨y276, hy276⟩ : ∃ y_ : List Int, y_ = (([a1] : List Int)) := ⟨_, rfl⟩
    replace H : (if 0 ≤ a1 then (if a1 < (t271.length : Int) then (timesyncref18_Path.l0 kj4 t271 y276 (wrap64 ((rd t271 a1) - 1)) a0_0 l0_1) else (none)) else (none)) = some r := by first | (rw [hy276]; with_reducible exact H) | (have H2_ := (Option.bind_some _ _).symm.trans H; rw [hy276]; with_reducible exact H2_) | (have H2_ := (Option.bind_some _ _).symm.trans H; with_reducible exact H2_) | with_reducible exact H | (rw [hy276]; exact H) | exact H
    have Ny276 := Aside0.mk hy276
    clear hy276
    by_cases c22 : 0 ≤ a1
    ·rw [if_pos c22] at H
     have c22b0 : decide (0 ≤ a1) = true := decide_eq_true c22
     clear c22
     by_cases c23 : a1 < (t271.length : Int)
     ·rw [if_pos c23] at H
      have c23b0 : decide (a1 < (t271.length : Int)) = true := decide_eq_true c23
      clear c23
      have H' := Aside0.mk H
      clear H
      go_wp2_with (first | ((with_reducible refine gate_dst (N := 32) rfl ?_); (try (refine gate_guard (by rfl) ?_; dsimp only)); refine Kd.R_lit (Kd.int .i64) _ 3 ?hg (N := 32) ?hd (xs := ([a1] : List Int)) (inner := [.int .i64 a1]) (ok := fun _ => True) (okp := fun _ => True) ?hr ?hp (fun _ hk => hk) trivial (Below.refl _ _) (Nat.le_refl _) (by simp) ?_; (case hd => rfl); (case hg => rfl); (case hr => first | (go_simp; done) | (go_simp; rfl)); (case hp => exact (Reps.one (show Kd.M (Kd.int .i64) _ _ _ a1 [.int .i64 a1] from rfl) (Reps.none _ _))); intro v277 w24 ho25 hb hg_ hnew_; clear hg_ hnew_; (first | rw [← Ny276.out] at ho25 | (simp only [Int.reduceToNat] at ho25; rw [← Ny276.out] at ho25)); have n0_ := Aside0.mk (Kd.R_elder' (by exact HO_7.out) (Kd.R_base ho25) hb); have n1_ := Aside0.mk (Kd.R_lower (Kd.R_new' ho25 (Kd.R_lt (by exact HO_7.out))) (below_size (by exact HB.out))); have n2_ := Aside0.mk (blk_below (g := gb270) (o := .cells #[.int .i64 a0_0, .slice A0_1 l0_1.length c0_1] 24 (0, 0)) (by exact BK270.out) hb); have n3_ := Aside0.mk (below_step (by exact HB.out) hb); clear HO_7; clear BK270; clear HB; have HO_7 := n0_; have HO278 := n1_; have BK270 := n2_; have HB := n3_; clear n0_ n1_ n2_ n3_; clear hb ho25; obtain ⟨Ao26, co26, eo26⟩ := Kd.R_slice HO_7.out; subst eo26; have p279 : 0 ≤ (a1 : Int) := of_decide_eq_true (by first | (with_reducible assumption) | assumption); have q279 : a1 < (t271.length : Int) := of_decide_eq_true (by first | (with_reducible assumption) | assumption); obtain ⟨ad279, e279, hx279_0⟩ := Kd.at_int (Kd.R_reads' HO_7.out).2.2 a1 p279 q279; cases e279; replace p279 := eq_true p279; replace q279 := eq_true q279))
      go_loopg [8, 9] kj4 (fun kq v8 v9 w' => ∃ (x8_2 : List Int) (x9_2 : Int), v9 = .int .i64 x9_2 ∧ Aside0 (timesyncref18_Path.l0 kq t271 x8_2 x9_2 a0_0 l0_1 = some r) ∧ Aside0 (kq ≤ kj4) ∧ Aside0 (Kd.R (Kd.int .i64) 3 w' w.heap.size (fun k_ => some k_ ≠ (v8 : Value).ownBlock) (.slice (some ad279) t271.length co26) t271) ∧ Aside0 (Kd.R (Kd.int .i64) 3 w' w.heap.size (fun k_ => some k_ ≠ ((.slice (some ad279) t271.length co26) : Value).ownBlock) v8 x8_2) ∧ Aside0 (w'.heap[gb270]? = some (.cells #[.int .i64 a0_0, (.slice A0_1 l0_1.length c0_1)] 24 (0, 0))) ∧ Aside0 (Below w.heap.size w w'))
      case atStart => exact ⟨(y276), (wrap64 ((rd t271 a1) - 1)), (by first | rfl | (simp; done) | (simp [*]; done)), H', ⟨Nat.le_refl _⟩, ⟨by exact Kd.R_mono HO_7.out (fun _ hk => hk.2)⟩, ⟨by exact Kd.R_mono HO278.out (fun _ hk => hk.2)⟩, ⟨by exact BK270.out⟩, ⟨by exact HB.out⟩⟩
      case round =>
       clear H'









































       obtain ⟨x8_2, x9_2, rfl, HA, HK2, HO_7, HO_8, BK270, HB⟩ := hrel
       cases gk with
       | zero => exact absurd HA.out (by simp [timesyncref18_Path.l0])
       | succ k2 =>
        have H := HA.out
        clear HA
        simp only [timesyncref18_Path.l0] at H
        by_cases c27 : x9_2 ≥ 0
        ·rw [if_pos c27] at H
         have c27b0 : decide (0 ≤ x9_2) = true := decide_eq_true c27
         clear c27
         have H' := Aside0.mk H
         clear H
         go_wp2
         go_loopg [10, 11] k2 (fun kq v10 v11 w' => ∃ (x10_3 : Int) (x11_3 : Int), v10 = .int .i64 x10_3 ∧ v11 = .int .i64 x11_3 ∧ Aside0 (timesyncref18_Path.l1 kq t271 x8_2 x9_2 x10_3 x11_3 a0_0 l0_1 = some r) ∧ Aside0 (kq ≤ k2) ∧ Aside0 (Kd.R (Kd.int .i64) 3 w' w.heap.size (fun k_ => some k_ ≠ (u8 : Value).ownBlock) (.slice (some ad279) t271.length co26) t271) ∧ Aside0 (Kd.R (Kd.int .i64) 3 w' w.heap.size (fun k_ => some k_ ≠ ((.slice (some ad279) t271.length co26) : Value).ownBlock) u8 x8_2) ∧ Aside0 (w'.heap[gb270]? = some (.cells #[.int .i64 a0_0, (.slice A0_1 l0_1.length c0_1)] 24 (0, 0))) ∧ Aside0 (Below w.heap.size w w'))
         case atStart => exact ⟨((-1)), (0), (by first | rfl | (simp; done) | (simp [*]; done)), (by first | rfl | (simp; done) | (simp [*]; done)), H', ⟨Nat.le_refl _⟩, ⟨by exact HO_7.out⟩, ⟨by exact HO_8.out⟩, ⟨by exact BK270.out⟩, ⟨by exact HB.out⟩⟩
         case round =>
          clear H'















































          obtain ⟨x10_3, x11_3, rfl, rfl, HA, HK3, HO_7, HO_8, BK270, HB⟩ := hrel
          cases gk with
          | zero => exact absurd HA.out (by simp [timesyncref18_Path.l1])
          | succ k3 =>
           have H := HA.out
           clear HA
           simp only [timesyncref18_Path.l1] at H
           by_cases c28 : x11_3 < a0_0
           ·rw [if_pos c28] at H
            have c28b0 : decide (x11_3 < a0_0) = true := decide_eq_true c28
            clear c28
            by_cases c29 : x10_3 < 0
            ·rw [if_pos c29] at H
             have c29b0 : decide (x10_3 < 0) = true := decide_eq_true c29
             clear c29
             by_cases c30 : 0 ≤ x11_3
             ·rw [if_pos c30] at H
              have c30b0 : decide (0 ≤ x11_3) = true := decide_eq_true c30
              clear c30
              by_cases c31 : x11_3 < (t271.length : Int)
              ·rw [if_pos c31] at H
               have c31b0 : decide (x11_3 < (t271.length : Int)) = true := decide_eq_true c31
               clear c31
               by_cases c32 : (rd t271 x11_3) = x9_2
               ·rw [if_pos c32] at H
                have c32b0 : ((rd t271 x11_3) == x9_2) = true := beq_iff_eq.mpr c32
                have c32b1 : ((rd t271 x11_3) != x9_2) = false := bne_eq_false_iff_eq.mpr c32
                clear c32
                obtain ⟨ji33, hji33⟩ : ∃ j_ : Int, (wrap64 ((x8_2.length : Int) - 1)) = j_ := ⟨_, rfl⟩
                replace H : (if 0 ≤ (ji33) then (if (ji33) < (x8_2.length : Int) then ((timesyncref18_neighbors.f k3 a0_0 l0_1 (rd x8_2 (ji33)) x11_3).bind fun t282 => (if t282 = true then (timesyncref18_Path.l1 k3 t271 x8_2 x9_2 x11_3 (wrap64 (x11_3 + 1)) a0_0 l0_1) else (timesyncref18_Path.l1 k3 t271 x8_2 x9_2 x10_3 (wrap64 (x11_3 + 1)) a0_0 l0_1))) else (none)) else (none)) = some r := by first | (rw [hji33] at H; exact H) | (simp only [hji33] at H ⊢; exact H)
                have hji33w : (IntKind.i64.wrap ((x8_2.length : Int) - 1)) = ji33 := (i64_w _).trans hji33
                by_cases c34 : 0 ≤ (ji33)
                ·rw [if_pos c34] at H
                 have c34b0 : decide (0 ≤ (ji33)) = true := decide_eq_true c34
                 clear c34
                 by_cases c35 : (ji33) < (x8_2.length : Int)
                 ·rw [if_pos c35] at H
                  have c35b0 : decide ((ji33) < (x8_2.length : Int)) = true := decide_eq_true c35
                  clear c35
                  replace H := Option.bind_eq_some_iff.mp H
                  obtain ⟨t282, A360, H⟩ := H
                  replace H : (if t282 = true then (timesyncref18_Path.l1 k3 t271 x8_2 x9_2 x11_3 (wrap64 (x11_3 + 1)) a0_0 l0_1) else (timesyncref18_Path.l1 k3 t271 x8_2 x9_2 x10_3 (wrap64 (x11_3 + 1)) a0_0 l0_1)) = some r := H
                  have A36 := Aside0.mk A360
                  clear A360
                  by_cases c37 : t282 = true
                  ·subst c37
                   have H1 : (timesyncref18_Path.l1 k3 t271 x8_2 x9_2 x11_3 (wrap64 (x11_3 + 1)) a0_0 l0_1) = some r := by rw [if_pos rfl] at H; exact H
                   clear H
                   have H := H1
                   clear H1
                   have H' := Aside0.mk H
                   clear H
                   have hcz38_0 : wr.cell? ⟨gb270, 0, none⟩ = some (.int .i64 a0_0) := (blk_cell BK270.out 0).trans rfl
                   have hcz38_1 : wr.cell? ⟨gb270, 1, none⟩ = some (.slice A0_1 l0_1.length c0_1) := (blk_cell BK270.out 1).trans rfl
                   have hfz38_0 := blk_frozen BK270.out 0
                   have hfz38_1 := blk_frozen BK270.out 1
                   try go_wp2
                   have n0_ := Aside0.mk (Kd.R_drew HO_7.out)
                   have n1_ := Aside0.mk (Kd.R_drew HO_8.out)
                   have n2_ := Aside0.mk (blk_drew BK270.out)
                   have n3_ := Aside0.mk (below_drew1 HB.out)
                   clear HO_7
                   clear HO_8
                   clear BK270
                   clear HB
                   have HO_7 := n0_
                   have HO_8 := n1_
                   have BK270 := n2_
                   have HB := n3_
                   clear n0_ n1_ n2_ n3_
                   have p280 : 0 ≤ (x11_3 : Int) := of_decide_eq_true (by first | (with_reducible assumption) | assumption)
                   have q280 : x11_3 < (t271.length : Int) := of_decide_eq_true (by first | (with_reducible assumption) | assumption)
                   obtain ⟨ad280, e280, hx280_0⟩ := Kd.at_int (Kd.R_reads' HO_7.out).2.2 x11_3 p280 q280
                   obtain rfl : ad279 = ad280 := (by injection e280)
                   replace p280 := eq_true p280
                   replace q280 := eq_true q280
                   obtain ⟨Ao40, co40, eo40⟩ := Kd.R_slice HO_8.out
                   (first | subst eo40 | (injection eo40 with f1_ f2_ f3_; have f4_ := f1_.symm; have f5_ := f3_.symm; clear f1_ f2_ f3_; subst f4_; subst f5_))
                   have p281 : 0 ≤ ((ji33) : Int) := of_decide_eq_true (by first | (with_reducible assumption) | assumption)
                   have q281 : (ji33) < (x8_2.length : Int) := of_decide_eq_true (by first | (with_reducible assumption) | assumption)
                   obtain ⟨ad281, e281, hx281_0⟩ := Kd.at_int (Kd.R_reads' HO_8.out).2.2 (ji33) p281 q281
                   cases e281
                   replace p281 := eq_true p281
                   replace q281 := eq_true q281
                   refine start_ (n := 21) (S := fun w' => w'.cell? ⟨gb270, 0, none⟩ = some (.int .i64 a0_0) ∧ w'.cell? ⟨gb270, 1, none⟩ = some (.slice A0_1 l0_1.length c0_1) ∧ w'.cell? (ad279.add (x11_3).toNat) = some (.int .i64 (rd t271 x11_3)) ∧ w'.cell? (ad281.add ((ji33)).toNat) = some (.int .i64 (rd x8_2 (ji33)))) (ds := []) #[false, false, false, false, false, false, false, false, false, false, false, false, false, false, false, false, false, false, false, false, false] (by kernel_rfl) rfl rfl ⟨(blk_cell BK270.out 0).trans rfl, (blk_cell BK270.out 1).trans rfl, hx280_0, hx281_0⟩ (fun hHeld => ?_); refine with_tabW timesyncref18_Path.tab12 timesyncref18_Path.bits12 (fun HT_ HW_ => ?_)
                   generalize wr.drew = w39 at HO_7 HO_8 BK270 HB hx280_0 hx281_0 hHeld ⊢
                   refine pure_ (i := 0) (N := some 48) (v := ?_) (a' := ?_) #[true, false, false, false, false, false, false, false, false, false, false, false, false, false, false, false, false, false, false, false, false] rfl rfl (any_of HT_.out (by kernel_rfl)) (fun _ _ _ h => h) (Or.inl ⟨by rfl, ?_⟩) ?_ ?_
                   rotate_left
                   ·intro w'
                    go_simp
                    with_reducible rfl
                   rotate_left
                   ·simp only [Act.put, List.setIfInBounds_toArray, List.set_cons_zero, List.set_cons_succ, i64_w, i32_w]
                    rfl
                   refine pure_ (i := 1) (N := some 49) (v := ?_) (a' := ?_) #[true, true, false, false, false, false, false, false, false, false, false, false, false, false, false, false, false, false, false, false, false] rfl rfl (any_of HT_.out (by kernel_rfl)) (fun _ _ _ h => h) (Or.inl ⟨by rfl, ?_⟩) ?_ ?_
                   rotate_left
                   ·intro w'
                    go_simp
                    with_reducible rfl
                   rotate_left
                   ·simp only [Act.put, List.setIfInBounds_toArray, List.set_cons_zero, List.set_cons_succ, i64_w, i32_w]
                    rfl
                   refine pure_ (i := 2) (N := some 50) (v := ?_) (a' := ?_) #[true, true, true, false, false, false, false, false, false, false, false, false, false, false, false, false, false, false, false, false, false] rfl rfl (any_of HT_.out (by kernel_rfl)) (fun _ _ _ h => h) (Or.inl ⟨by rfl, ?_⟩) ?_ ?_
                   rotate_left
                   ·intro w'
                    go_simp
                    with_reducible rfl
                   rotate_left
                   ·simp only [Act.put, List.setIfInBounds_toArray, List.set_cons_zero, List.set_cons_succ, i64_w, i32_w]
                    rfl
                   refine pure_ (i := 3) (N := some 51) (v := ?_) (a' := ?_) #[true, true, true, true, false, false, false, false, false, false, false, false, false, false, false, false, false, false, false, false, false] rfl rfl (any_of HT_.out (by kernel_rfl)) (fun _ _ _ h => h) (Or.inl ⟨by rfl, ?_⟩) ?_ ?_
                   rotate_left
                   ·intro w'
                    go_simp
                    with_reducible rfl
                   rotate_left
                   ·simp only [Act.put, List.setIfInBounds_toArray, List.set_cons_zero, List.set_cons_succ, i64_w, i32_w]
                    rfl
                   refine pure_ (i := 4) (N := some 52) (v := ?_) (a' := ?_) #[true, true, true, true, true, false, false, false, false, false, false, false, false, false, false, false, false, false, false, false, false] rfl rfl (any_of HT_.out (by kernel_rfl)) (fun _ _ _ h => h) (Or.inl ⟨by rfl, ?_⟩) ?_ ?_
                   rotate_left
                   ·intro w'
                    go_simp
                    with_reducible rfl
                   rotate_left
                   ·simp only [Act.put, List.setIfInBounds_toArray, List.set_cons_zero, List.set_cons_succ, i64_w, i32_w]
                    rfl
                   refine pure_ (i := 5) (N := some 53) (v := ?_) (a' := ?_) #[true, true, true, true, true, true, false, false, false, false, false, false, false, false, false, false, false, false, false, false, false] rfl rfl (any_of HT_.out (by kernel_rfl)) (fun _ _ _ h => h) (Or.inl ⟨by rfl, ?_⟩) ?_ ?_
                   rotate_left
                   ·intro w'
                    go_simp
                    with_reducible rfl
                   rotate_left
                   ·simp only [Act.put, List.setIfInBounds_toArray, List.set_cons_zero, List.set_cons_succ, i64_w, i32_w]
                    rfl
                   refine pure_ (i := 7) (N := some 55) (v := ?_) (a' := ?_) #[true, true, true, true, true, true, false, true, false, false, false, false, false, false, false, false, false, false, false, false, false] rfl rfl (any_of HT_.out (by kernel_rfl)) (fun _ _ _ h => h) (Or.inl ⟨by rfl, ?_⟩) ?_ ?_
                   rotate_left
                   ·intro w'
                    go_simp
                    with_reducible rfl
                   rotate_left
                   ·simp only [Act.put, List.setIfInBounds_toArray, List.set_cons_zero, List.set_cons_succ, i64_w, i32_w]
                    rfl
                   refine take_ (i := 6) (N := some 54) (v := ?_) (a' := ?_) #[true, true, true, true, true, true, true, true, false, false, false, false, false, false, false, false, false, false, false, false, false] rfl rfl (take_ofW HT_.out HW_.out (by kernel_rfl)) (fun _ _ _ h => h) (Or.inl ⟨by rfl, ?_⟩) hHeld ?_ ?_
                   rotate_left
                   ·rintro w' ⟨s0, s1, s2, s3⟩
                    go_simp
                    with_reducible rfl
                   rotate_left
                   ·simp only [Act.put, List.setIfInBounds_toArray, List.set_cons_zero, List.set_cons_succ, i64_w, i32_w]
                    rfl
                   refine pure_ (i := 8) (N := some 56) (v := ?_) (a' := ?_) #[true, true, true, true, true, true, true, true, true, false, false, false, false, false, false, false, false, false, false, false, false] rfl rfl (any_of HT_.out (by kernel_rfl)) (fun _ _ _ h => h) (Or.inl ⟨by rfl, ?_⟩) ?_ ?_
                   rotate_left
                   ·intro w'
                    go_simp
                    with_reducible rfl
                   rotate_left
                   ·simp only [Act.put, List.setIfInBounds_toArray, List.set_cons_zero, List.set_cons_succ, i64_w, i32_w]
                    rfl
                   refine pure_ (i := 9) (N := some 57) (v := ?_) (a' := ?_) #[true, true, true, true, true, true, true, true, true, true, false, false, false, false, false, false, false, false, false, false, false] rfl rfl (any_of HT_.out (by kernel_rfl)) (fun _ _ _ h => h) (Or.inl ⟨by rfl, ?_⟩) ?_ ?_
                   rotate_left
                   ·intro w'
                    go_simp
                    with_reducible rfl
                   rotate_left
                   ·simp only [Act.put, List.setIfInBounds_toArray, List.set_cons_zero, List.set_cons_succ, i64_w, i32_w]
                    rfl
                   refine pure_ (i := 10) (N := some 58) (v := ?_) (a' := ?_) #[true, true, true, true, true, true, true, true, true, true, true, false, false, false, false, false, false, false, false, false, false] rfl rfl (any_of HT_.out (by kernel_rfl)) (fun _ _ _ h => h) (Or.inl ⟨by rfl, ?_⟩) ?_ ?_
                   rotate_left
                   ·intro w'
                    go_simp
                    with_reducible rfl
                   rotate_left
                   ·simp only [Act.put, List.setIfInBounds_toArray, List.set_cons_zero, List.set_cons_succ, i64_w, i32_w]
                    rfl
                   refine pure_ (i := 12) (N := some 60) (v := ?_) (a' := ?_) #[true, true, true, true, true, true, true, true, true, true, true, false, true, false, false, false, false, false, false, false, false] rfl rfl (any_of HT_.out (by kernel_rfl)) (fun _ _ _ h => h) (Or.inl ⟨by rfl, ?_⟩) ?_ ?_
                   rotate_left
                   ·intro w'
                    go_simp
                    with_reducible rfl
                   rotate_left
                   ·simp only [Act.put, List.setIfInBounds_toArray, List.set_cons_zero, List.set_cons_succ, i64_w, i32_w]
                    rfl
                   refine pure_ (i := 13) (N := some 61) (v := ?_) (a' := ?_) #[true, true, true, true, true, true, true, true, true, true, true, false, true, true, false, false, false, false, false, false, false] rfl rfl (any_of HT_.out (by kernel_rfl)) (fun _ _ _ h => h) (Or.inl ⟨by rfl, ?_⟩) ?_ ?_
                   rotate_left
                   ·intro w'
                    go_simp
                    with_reducible rfl
                   rotate_left
                   ·simp only [Act.put, List.setIfInBounds_toArray, List.set_cons_zero, List.set_cons_succ, i64_w, i32_w]
                    rfl
                   refine pure_ (i := 14) (N := some 62) (v := ?_) (a' := ?_) #[true, true, true, true, true, true, true, true, true, true, true, false, true, true, true, false, false, false, false, false, false] rfl rfl (any_of HT_.out (by kernel_rfl)) (fun _ _ _ h => h) (Or.inl ⟨by rfl, ?_⟩) ?_ ?_
                   rotate_left
                   ·intro w'
                    go_simp
                    with_reducible rfl
                   rotate_left
                   ·simp only [Act.put, List.setIfInBounds_toArray, List.set_cons_zero, List.set_cons_succ, i64_w, i32_w]
                    rfl
                   refine pure_ (i := 15) (N := some 63) (v := ?_) (a' := ?_) #[true, true, true, true, true, true, true, true, true, true, true, false, true, true, true, true, false, false, false, false, false] rfl rfl (any_of HT_.out (by kernel_rfl)) (fun _ _ _ h => h) (Or.inl ⟨by rfl, ?_⟩) ?_ ?_
                   rotate_left
                   ·intro w'
                    go_simp
                    with_reducible rfl
                   rotate_left
                   ·simp only [Act.put, List.setIfInBounds_toArray, List.set_cons_zero, List.set_cons_succ, i64_w, i32_w]
                    rfl
                   refine pure_ (i := 16) (N := some 64) (v := ?_) (a' := ?_) #[true, true, true, true, true, true, true, true, true, true, true, false, true, true, true, true, true, false, false, false, false] rfl rfl (any_of HT_.out (by kernel_rfl)) (fun _ _ _ h => h) (Or.inl ⟨by rfl, ?_⟩) ?_ ?_
                   rotate_left
                   ·intro w'
                    go_simp
                    with_reducible rfl
                   rotate_left
                   ·simp only [Act.put, List.setIfInBounds_toArray, List.set_cons_zero, List.set_cons_succ, i64_w, i32_w]
                    rfl
                   refine pure_ (i := 18) (N := some 66) (v := ?_) (a' := ?_) #[true, true, true, true, true, true, true, true, true, true, true, false, true, true, true, true, true, false, true, false, false] rfl rfl (any_of HT_.out (by kernel_rfl)) (fun _ _ _ h => h) (Or.inl ⟨by rfl, ?_⟩) ?_ ?_
                   rotate_left
                   ·intro w'
                    go_simp
                    with_reducible rfl
                   rotate_left
                   ·simp only [Act.put, List.setIfInBounds_toArray, List.set_cons_zero, List.set_cons_succ, i64_w, i32_w]
                    rfl
                   refine take_ (i := 11) (N := some 59) (v := ?_) (a' := ?_) #[true, true, true, true, true, true, true, true, true, true, true, true, true, true, true, true, true, false, true, false, false] rfl rfl (take_ofW HT_.out HW_.out (by kernel_rfl)) (fun _ _ _ h => h) (Or.inl ⟨by rfl, ?_⟩) hHeld ?_ ?_
                   rotate_left
                   ·rintro w' ⟨s0, s1, s2, s3⟩
                    go_simp
                    with_reducible rfl
                   rotate_left
                   ·simp only [Act.put, List.setIfInBounds_toArray, List.set_cons_zero, List.set_cons_succ, i64_w, i32_w]
                    rfl
                   refine take_ (i := 17) (N := some 65) (v := ?_) (a' := ?_) #[true, true, true, true, true, true, true, true, true, true, true, true, true, true, true, true, true, true, true, false, false] rfl rfl (take_ofW HT_.out HW_.out (by kernel_rfl)) (fun _ _ _ h => h) (Or.inl ⟨by rfl, ?_⟩) hHeld ?_ ?_
                   rotate_left
                   ·rintro w' ⟨s0, s1, s2, s3⟩
                    go_simp
                    with_reducible rfl
                   rotate_left
                   ·simp only [Act.put, List.setIfInBounds_toArray, List.set_cons_zero, List.set_cons_succ, i64_w, i32_w]
                    rfl
                   refine one_ (i := 19) (N := some 67) #[true, true, true, true, true, true, true, true, true, true, true, true, true, true, true, true, true, true, true, true, false] rfl rfl (one_of HT_.out (by kernel_rfl)) (by decide) (fun K hK => ?_)
                   refine goes_ Try.func62 (by kernel_rfl) rfl #[.agg #[.int .i64 a0_0, .slice A0_1 l0_1.length c0_1], .int .i64 (rd x8_2 (ji33)), .int .i64 x11_3] (by rfl) rfl rfl (by (try simp only [List.map_toArray, List.map_cons, List.map_nil]); first | done | (simp only [hji33]; rfl) | rfl | (simp only [List.length_drop, List.length_take]; rfl)) ?_
                   with_reducible refine (timesyncref18_neighbors.calls k3 a0_0 _ _ l0_1 (rd x8_2 (ji33)) x11_3 true _ ?side1 ?side2 A36.out).mono ?_
                   (case side1 => exact (Kd.C_below HR0_1.out HB.out))
                   (case side2 => exact HC0_1.out)
                   rintro e w41 ⟨rfl, hb⟩
                   have HS2_ := (hb.cell (World.block_lt_of_cell? _ _ (hHeld.2.2.1))).trans (hHeld.2.2.1)
                   have HS3_ := (hb.cell (World.block_lt_of_cell? _ _ (hHeld.2.2.2))).trans (hHeld.2.2.2)
                   refine ⟨_, rfl, ?_⟩
                   have n0_ := Aside0.mk (Kd.R_below (by exact HO_7.out) hb)
                   have n1_ := Aside0.mk (Kd.R_below (by exact HO_8.out) hb)
                   have n2_ := Aside0.mk (blk_below (g := gb270) (o := .cells #[.int .i64 a0_0, .slice A0_1 l0_1.length c0_1] 24 (0, 0)) (by exact BK270.out) hb)
                   have n3_ := Aside0.mk (below_step (by exact HB.out) hb)
                   clear HO_7
                   clear HO_8
                   clear BK270
                   clear HB
                   have HO_7 := n0_
                   have HO_8 := n1_
                   have BK270 := n2_
                   have HB := n3_
                   clear n0_ n1_ n2_ n3_




                   refine hK.out _ _ ⟨(blk_cell BK270.out 0).trans rfl, (blk_cell BK270.out 1).trans rfl, HS2_, HS3_⟩ (fun hHeld => ?_)
                   clear hK K
                   refine norm_ (a' := ?_) ?_ ?_
                   rotate_left
                   ·show Act.put _ (some 67) _ = _
                    simp only [Act.put, List.setIfInBounds_toArray, List.set_cons_zero, List.set_cons_succ, i64_w, i32_w]
                    rfl
                   refine pure_ (i := 20) (N := some 68) (v := ?_) (a' := ?_) #[true, true, true, true, true, true, true, true, true, true, true, true, true, true, true, true, true, true, true, true, true] rfl rfl (any_of HT_.out (by kernel_rfl)) (fun _ _ _ h => h) (Or.inl ⟨by rfl, ?_⟩) ?_ ?_
                   rotate_left
                   ·intro w'
                    go_simp
                    with_reducible rfl
                   rotate_left
                   ·simp only [Act.put, List.setIfInBounds_toArray, List.set_cons_zero, List.set_cons_succ, i64_w, i32_w]
                    rfl
                   refine done_ (done_of HT_.out (by kernel_rfl)) ?_
                   try go_wp2
                   go_roundg k3
                   case measure => have := HJ4.out; have := HK2.out; have := HK3.out; omega
                   case rel => exact ⟨(x11_3), (wrap64 (x11_3 + 1)), (by first | rfl | (simp; done) | (simp [*]; done)), (by first | rfl | (simp; done) | (simp [*]; done)), H', ⟨by have := HJ4.out; have := HK2.out; have := HK3.out; omega⟩, ⟨by exact HO_7.out⟩, ⟨by exact HO_8.out⟩, ⟨by exact BK270.out⟩, ⟨by exact HB.out⟩⟩
                  ·replace c37 := Bool.eq_false_iff.mpr c37
                   subst c37
                   have H1 : (timesyncref18_Path.l1 k3 t271 x8_2 x9_2 x10_3 (wrap64 (x11_3 + 1)) a0_0 l0_1) = some r := by rw [if_neg (show ¬ (false = true) by decide)] at H; exact H
                   clear H
                   have H := H1
                   clear H1
                   have H' := Aside0.mk H
                   clear H
                   have hcz42_0 : wr.cell? ⟨gb270, 0, none⟩ = some (.int .i64 a0_0) := (blk_cell BK270.out 0).trans rfl
                   have hcz42_1 : wr.cell? ⟨gb270, 1, none⟩ = some (.slice A0_1 l0_1.length c0_1) := (blk_cell BK270.out 1).trans rfl
                   have hfz42_0 := blk_frozen BK270.out 0
                   have hfz42_1 := blk_frozen BK270.out 1
                   try go_wp2
                   have n0_ := Aside0.mk (Kd.R_drew HO_7.out)
                   have n1_ := Aside0.mk (Kd.R_drew HO_8.out)
                   have n2_ := Aside0.mk (blk_drew BK270.out)
                   have n3_ := Aside0.mk (below_drew1 HB.out)
                   clear HO_7
                   clear HO_8
                   clear BK270
                   clear HB
                   have HO_7 := n0_
                   have HO_8 := n1_
                   have BK270 := n2_
                   have HB := n3_
                   clear n0_ n1_ n2_ n3_
                   have p280 : 0 ≤ (x11_3 : Int) := of_decide_eq_true (by first | (with_reducible assumption) | assumption)
                   have q280 : x11_3 < (t271.length : Int) := of_decide_eq_true (by first | (with_reducible assumption) | assumption)
                   obtain ⟨ad280, e280, hx280_0⟩ := Kd.at_int (Kd.R_reads' HO_7.out).2.2 x11_3 p280 q280
                   obtain rfl : ad279 = ad280 := (by injection e280)
                   replace p280 := eq_true p280
                   replace q280 := eq_true q280
                   obtain ⟨Ao44, co44, eo44⟩ := Kd.R_slice HO_8.out
                   (first | subst eo44 | (injection eo44 with f1_ f2_ f3_; have f4_ := f1_.symm; have f5_ := f3_.symm; clear f1_ f2_ f3_; subst f4_; subst f5_))
                   have p281 : 0 ≤ ((ji33) : Int) := of_decide_eq_true (by first | (with_reducible assumption) | assumption)
                   have q281 : (ji33) < (x8_2.length : Int) := of_decide_eq_true (by first | (with_reducible assumption) | assumption)
                   obtain ⟨ad281, e281, hx281_0⟩ := Kd.at_int (Kd.R_reads' HO_8.out).2.2 (ji33) p281 q281
                   cases e281
                   replace p281 := eq_true p281
                   replace q281 := eq_true q281
                   refine start_ (n := 21) (S := fun w' => w'.cell? ⟨gb270, 0, none⟩ = some (.int .i64 a0_0) ∧ w'.cell? ⟨gb270, 1, none⟩ = some (.slice A0_1 l0_1.length c0_1) ∧ w'.cell? (ad279.add (x11_3).toNat) = some (.int .i64 (rd t271 x11_3)) ∧ w'.cell? (ad281.add ((ji33)).toNat) = some (.int .i64 (rd x8_2 (ji33)))) (ds := []) #[false, false, false, false, false, false, false, false, false, false, false, false, false, false, false, false, false, false, false, false, false] (by kernel_rfl) rfl rfl ⟨(blk_cell BK270.out 0).trans rfl, (blk_cell BK270.out 1).trans rfl, hx280_0, hx281_0⟩ (fun hHeld => ?_); refine with_tabW timesyncref18_Path.tab12 timesyncref18_Path.bits12 (fun HT_ HW_ => ?_)
                   generalize wr.drew = w43 at HO_7 HO_8 BK270 HB hx280_0 hx281_0 hHeld ⊢
                   refine pure_ (i := 0) (N := some 48) (v := ?_) (a' := ?_) #[true, false, false, false, false, false, false, false, false, false, false, false, false, false, false, false, false, false, false, false, false] rfl rfl (any_of HT_.out (by kernel_rfl)) (fun _ _ _ h => h) (Or.inl ⟨by rfl, ?_⟩) ?_ ?_
                   rotate_left
                   ·intro w'
                    go_simp
                    with_reducible rfl
                   rotate_left
                   ·simp only [Act.put, List.setIfInBounds_toArray, List.set_cons_zero, List.set_cons_succ, i64_w, i32_w]
                    rfl
                   refine pure_ (i := 1) (N := some 49) (v := ?_) (a' := ?_) #[true, true, false, false, false, false, false, false, false, false, false, false, false, false, false, false, false, false, false, false, false] rfl rfl (any_of HT_.out (by kernel_rfl)) (fun _ _ _ h => h) (Or.inl ⟨by rfl, ?_⟩) ?_ ?_
                   rotate_left
                   ·intro w'
                    go_simp
                    with_reducible rfl
                   rotate_left
                   ·simp only [Act.put, List.setIfInBounds_toArray, List.set_cons_zero, List.set_cons_succ, i64_w, i32_w]
                    rfl
                   refine pure_ (i := 2) (N := some 50) (v := ?_) (a' := ?_) #[true, true, true, false, false, false, false, false, false, false, false, false, false, false, false, false, false, false, false, false, false] rfl rfl (any_of HT_.out (by kernel_rfl)) (fun _ _ _ h => h) (Or.inl ⟨by rfl, ?_⟩) ?_ ?_
                   rotate_left
                   ·intro w'
                    go_simp
                    with_reducible rfl
                   rotate_left
                   ·simp only [Act.put, List.setIfInBounds_toArray, List.set_cons_zero, List.set_cons_succ, i64_w, i32_w]
                    rfl
                   refine pure_ (i := 3) (N := some 51) (v := ?_) (a' := ?_) #[true, true, true, true, false, false, false, false, false, false, false, false, false, false, false, false, false, false, false, false, false] rfl rfl (any_of HT_.out (by kernel_rfl)) (fun _ _ _ h => h) (Or.inl ⟨by rfl, ?_⟩) ?_ ?_
                   rotate_left
                   ·intro w'
                    go_simp
                    with_reducible rfl
                   rotate_left
                   ·simp only [Act.put, List.setIfInBounds_toArray, List.set_cons_zero, List.set_cons_succ, i64_w, i32_w]
                    rfl
                   refine pure_ (i := 4) (N := some 52) (v := ?_) (a' := ?_) #[true, true, true, true, true, false, false, false, false, false, false, false, false, false, false, false, false, false, false, false, false] rfl rfl (any_of HT_.out (by kernel_rfl)) (fun _ _ _ h => h) (Or.inl ⟨by rfl, ?_⟩) ?_ ?_
                   rotate_left
                   ·intro w'
                    go_simp
                    with_reducible rfl
                   rotate_left
                   ·simp only [Act.put, List.setIfInBounds_toArray, List.set_cons_zero, List.set_cons_succ, i64_w, i32_w]
                    rfl
                   refine pure_ (i := 5) (N := some 53) (v := ?_) (a' := ?_) #[true, true, true, true, true, true, false, false, false, false, false, false, false, false, false, false, false, false, false, false, false] rfl rfl (any_of HT_.out (by kernel_rfl)) (fun _ _ _ h => h) (Or.inl ⟨by rfl, ?_⟩) ?_ ?_
                   rotate_left
                   ·intro w'
                    go_simp
                    with_reducible rfl
                   rotate_left
                   ·simp only [Act.put, List.setIfInBounds_toArray, List.set_cons_zero, List.set_cons_succ, i64_w, i32_w]
                    rfl
                   refine pure_ (i := 7) (N := some 55) (v := ?_) (a' := ?_) #[true, true, true, true, true, true, false, true, false, false, false, false, false, false, false, false, false, false, false, false, false] rfl rfl (any_of HT_.out (by kernel_rfl)) (fun _ _ _ h => h) (Or.inl ⟨by rfl, ?_⟩) ?_ ?_
                   rotate_left
                   ·intro w'
                    go_simp
                    with_reducible rfl
                   rotate_left
                   ·simp only [Act.put, List.setIfInBounds_toArray, List.set_cons_zero, List.set_cons_succ, i64_w, i32_w]
                    rfl
                   refine take_ (i := 6) (N := some 54) (v := ?_) (a' := ?_) #[true, true, true, true, true, true, true, true, false, false, false, false, false, false, false, false, false, false, false, false, false] rfl rfl (take_ofW HT_.out HW_.out (by kernel_rfl)) (fun _ _ _ h => h) (Or.inl ⟨by rfl, ?_⟩) hHeld ?_ ?_
                   rotate_left
                   ·rintro w' ⟨s0, s1, s2, s3⟩
                    go_simp
                    with_reducible rfl
                   rotate_left
                   ·simp only [Act.put, List.setIfInBounds_toArray, List.set_cons_zero, List.set_cons_succ, i64_w, i32_w]
                    rfl
                   refine pure_ (i := 8) (N := some 56) (v := ?_) (a' := ?_) #[true, true, true, true, true, true, true, true, true, false, false, false, false, false, false, false, false, false, false, false, false] rfl rfl (any_of HT_.out (by kernel_rfl)) (fun _ _ _ h => h) (Or.inl ⟨by rfl, ?_⟩) ?_ ?_
                   rotate_left
                   ·intro w'
                    go_simp
                    with_reducible rfl
                   rotate_left
                   ·simp only [Act.put, List.setIfInBounds_toArray, List.set_cons_zero, List.set_cons_succ, i64_w, i32_w]
                    rfl
                   refine pure_ (i := 9) (N := some 57) (v := ?_) (a' := ?_) #[true, true, true, true, true, true, true, true, true, true, false, false, false, false, false, false, false, false, false, false, false] rfl rfl (any_of HT_.out (by kernel_rfl)) (fun _ _ _ h => h) (Or.inl ⟨by rfl, ?_⟩) ?_ ?_
                   rotate_left
                   ·intro w'
                    go_simp
                    with_reducible rfl
                   rotate_left
                   ·simp only [Act.put, List.setIfInBounds_toArray, List.set_cons_zero, List.set_cons_succ, i64_w, i32_w]
                    rfl
                   refine pure_ (i := 10) (N := some 58) (v := ?_) (a' := ?_) #[true, true, true, true, true, true, true, true, true, true, true, false, false, false, false, false, false, false, false, false, false] rfl rfl (any_of HT_.out (by kernel_rfl)) (fun _ _ _ h => h) (Or.inl ⟨by rfl, ?_⟩) ?_ ?_
                   rotate_left
                   ·intro w'
                    go_simp
                    with_reducible rfl
                   rotate_left
                   ·simp only [Act.put, List.setIfInBounds_toArray, List.set_cons_zero, List.set_cons_succ, i64_w, i32_w]
                    rfl
                   refine pure_ (i := 12) (N := some 60) (v := ?_) (a' := ?_) #[true, true, true, true, true, true, true, true, true, true, true, false, true, false, false, false, false, false, false, false, false] rfl rfl (any_of HT_.out (by kernel_rfl)) (fun _ _ _ h => h) (Or.inl ⟨by rfl, ?_⟩) ?_ ?_
                   rotate_left
                   ·intro w'
                    go_simp
                    with_reducible rfl
                   rotate_left
                   ·simp only [Act.put, List.setIfInBounds_toArray, List.set_cons_zero, List.set_cons_succ, i64_w, i32_w]
                    rfl
                   refine pure_ (i := 13) (N := some 61) (v := ?_) (a' := ?_) #[true, true, true, true, true, true, true, true, true, true, true, false, true, true, false, false, false, false, false, false, false] rfl rfl (any_of HT_.out (by kernel_rfl)) (fun _ _ _ h => h) (Or.inl ⟨by rfl, ?_⟩) ?_ ?_
                   rotate_left
                   ·intro w'
                    go_simp
                    with_reducible rfl
                   rotate_left
                   ·simp only [Act.put, List.setIfInBounds_toArray, List.set_cons_zero, List.set_cons_succ, i64_w, i32_w]
                    rfl
                   refine pure_ (i := 14) (N := some 62) (v := ?_) (a' := ?_) #[true, true, true, true, true, true, true, true, true, true, true, false, true, true, true, false, false, false, false, false, false] rfl rfl (any_of HT_.out (by kernel_rfl)) (fun _ _ _ h => h) (Or.inl ⟨by rfl, ?_⟩) ?_ ?_
                   rotate_left
                   ·intro w'
                    go_simp
                    with_reducible rfl
                   rotate_left
                   ·simp only [Act.put, List.setIfInBounds_toArray, List.set_cons_zero, List.set_cons_succ, i64_w, i32_w]
                    rfl
                   refine pure_ (i := 15) (N := some 63) (v := ?_) (a' := ?_) #[true, true, true, true, true, true, true, true, true, true, true, false, true, true, true, true, false, false, false, false, false] rfl rfl (any_of HT_.out (by kernel_rfl)) (fun _ _ _ h => h) (Or.inl ⟨by rfl, ?_⟩) ?_ ?_
                   rotate_left
                   ·intro w'
                    go_simp
                    with_reducible rfl
                   rotate_left
                   ·simp only [Act.put, List.setIfInBounds_toArray, List.set_cons_zero, List.set_cons_succ, i64_w, i32_w]
                    rfl
                   refine pure_ (i := 16) (N := some 64) (v := ?_) (a' := ?_) #[true, true, true, true, true, true, true, true, true, true, true, false, true, true, true, true, true, false, false, false, false] rfl rfl (any_of HT_.out (by kernel_rfl)) (fun _ _ _ h => h) (Or.inl ⟨by rfl, ?_⟩) ?_ ?_
                   rotate_left
                   ·intro w'
                    go_simp
                    with_reducible rfl
                   rotate_left
                   ·simp only [Act.put, List.setIfInBounds_toArray, List.set_cons_zero, List.set_cons_succ, i64_w, i32_w]
                    rfl
                   refine pure_ (i := 18) (N := some 66) (v := ?_) (a' := ?_) #[true, true, true, true, true, true, true, true, true, true, true, false, true, true, true, true, true, false, true, false, false] rfl rfl (any_of HT_.out (by kernel_rfl)) (fun _ _ _ h => h) (Or.inl ⟨by rfl, ?_⟩) ?_ ?_
                   rotate_left
                   ·intro w'
                    go_simp
                    with_reducible rfl
                   rotate_left
                   ·simp only [Act.put, List.setIfInBounds_toArray, List.set_cons_zero, List.set_cons_succ, i64_w, i32_w]
                    rfl
                   refine take_ (i := 11) (N := some 59) (v := ?_) (a' := ?_) #[true, true, true, true, true, true, true, true, true, true, true, true, true, true, true, true, true, false, true, false, false] rfl rfl (take_ofW HT_.out HW_.out (by kernel_rfl)) (fun _ _ _ h => h) (Or.inl ⟨by rfl, ?_⟩) hHeld ?_ ?_
                   rotate_left
                   ·rintro w' ⟨s0, s1, s2, s3⟩
                    go_simp
                    with_reducible rfl
                   rotate_left
                   ·simp only [Act.put, List.setIfInBounds_toArray, List.set_cons_zero, List.set_cons_succ, i64_w, i32_w]
                    rfl
                   refine take_ (i := 17) (N := some 65) (v := ?_) (a' := ?_) #[true, true, true, true, true, true, true, true, true, true, true, true, true, true, true, true, true, true, true, false, false] rfl rfl (take_ofW HT_.out HW_.out (by kernel_rfl)) (fun _ _ _ h => h) (Or.inl ⟨by rfl, ?_⟩) hHeld ?_ ?_
                   rotate_left
                   ·rintro w' ⟨s0, s1, s2, s3⟩
                    go_simp
                    with_reducible rfl
                   rotate_left
                   ·simp only [Act.put, List.setIfInBounds_toArray, List.set_cons_zero, List.set_cons_succ, i64_w, i32_w]
                    rfl
                   refine one_ (i := 19) (N := some 67) #[true, true, true, true, true, true, true, true, true, true, true, true, true, true, true, true, true, true, true, true, false] rfl rfl (one_of HT_.out (by kernel_rfl)) (by decide) (fun K hK => ?_)
                   refine goes_ Try.func62 (by kernel_rfl) rfl #[.agg #[.int .i64 a0_0, .slice A0_1 l0_1.length c0_1], .int .i64 (rd x8_2 (ji33)), .int .i64 x11_3] (by rfl) rfl rfl (by (try simp only [List.map_toArray, List.map_cons, List.map_nil]); first | done | (simp only [hji33]; rfl) | rfl | (simp only [List.length_drop, List.length_take]; rfl)) ?_
                   with_reducible refine (timesyncref18_neighbors.calls k3 a0_0 _ _ l0_1 (rd x8_2 (ji33)) x11_3 false _ ?side1 ?side2 A36.out).mono ?_
                   (case side1 => exact (Kd.C_below HR0_1.out HB.out))
                   (case side2 => exact HC0_1.out)
                   rintro e w45 ⟨rfl, hb⟩
                   have HS2_ := (hb.cell (World.block_lt_of_cell? _ _ (hHeld.2.2.1))).trans (hHeld.2.2.1)
                   have HS3_ := (hb.cell (World.block_lt_of_cell? _ _ (hHeld.2.2.2))).trans (hHeld.2.2.2)
                   refine ⟨_, rfl, ?_⟩
                   have n0_ := Aside0.mk (Kd.R_below (by exact HO_7.out) hb)
                   have n1_ := Aside0.mk (Kd.R_below (by exact HO_8.out) hb)
                   have n2_ := Aside0.mk (blk_below (g := gb270) (o := .cells #[.int .i64 a0_0, .slice A0_1 l0_1.length c0_1] 24 (0, 0)) (by exact BK270.out) hb)
                   have n3_ := Aside0.mk (below_step (by exact HB.out) hb)
                   clear HO_7
                   clear HO_8
                   clear BK270
                   clear HB
                   have HO_7 := n0_
                   have HO_8 := n1_
                   have BK270 := n2_
                   have HB := n3_
                   clear n0_ n1_ n2_ n3_




                   refine hK.out _ _ ⟨(blk_cell BK270.out 0).trans rfl, (blk_cell BK270.out 1).trans rfl, HS2_, HS3_⟩ (fun hHeld => ?_)
                   clear hK K
                   refine norm_ (a' := ?_) ?_ ?_
                   rotate_left
                   ·show Act.put _ (some 67) _ = _
                    simp only [Act.put, List.setIfInBounds_toArray, List.set_cons_zero, List.set_cons_succ, i64_w, i32_w]
                    rfl
                   refine pure_ (i := 20) (N := some 68) (v := ?_) (a' := ?_) #[true, true, true, true, true, true, true, true, true, true, true, true, true, true, true, true, true, true, true, true, true] rfl rfl (any_of HT_.out (by kernel_rfl)) (fun _ _ _ h => h) (Or.inl ⟨by rfl, ?_⟩) ?_ ?_
                   rotate_left
                   ·intro w'
                    go_simp
                    with_reducible rfl
                   rotate_left
                   ·simp only [Act.put, List.setIfInBounds_toArray, List.set_cons_zero, List.set_cons_succ, i64_w, i32_w]
                    rfl
                   refine done_ (done_of HT_.out (by kernel_rfl)) ?_
                   try go_wp2
                   go_roundg k3
                   case measure => have := HJ4.out; have := HK2.out; have := HK3.out; omega
                   case rel => exact ⟨(x10_3), (wrap64 (x11_3 + 1)), (by first | rfl | (simp; done) | (simp [*]; done)), (by first | rfl | (simp; done) | (simp [*]; done)), H', ⟨by have := HJ4.out; have := HK2.out; have := HK3.out; omega⟩, ⟨by exact HO_7.out⟩, ⟨by exact HO_8.out⟩, ⟨by exact BK270.out⟩, ⟨by exact HB.out⟩⟩
                 ·rw [if_neg c35] at H
                  exact absurd H (by simp)
                ·rw [if_neg c34] at H
                 exact absurd H (by simp)
               ·rw [if_neg c32] at H
                have c32b0 : ((rd t271 x11_3) == x9_2) = false := beq_eq_false_iff_ne.mpr c32
                have c32b1 : ((rd t271 x11_3) != x9_2) = true := bne_iff_ne.mpr c32
                have H' := Aside0.mk H
                clear H
                have hcz46_0 : wr.cell? ⟨gb270, 0, none⟩ = some (.int .i64 a0_0) := (blk_cell BK270.out 0).trans rfl
                have hcz46_1 : wr.cell? ⟨gb270, 1, none⟩ = some (.slice A0_1 l0_1.length c0_1) := (blk_cell BK270.out 1).trans rfl
                have hfz46_0 := blk_frozen BK270.out 0
                have hfz46_1 := blk_frozen BK270.out 1
                try go_wp2
                have n0_ := Aside0.mk (Kd.R_drew HO_7.out)
                have n1_ := Aside0.mk (Kd.R_drew HO_8.out)
                have n2_ := Aside0.mk (blk_drew BK270.out)
                have n3_ := Aside0.mk (below_drew1 HB.out)
                clear HO_7
                clear HO_8
                clear BK270
                clear HB
                have HO_7 := n0_
                have HO_8 := n1_
                have BK270 := n2_
                have HB := n3_
                clear n0_ n1_ n2_ n3_
                have p280 : 0 ≤ (x11_3 : Int) := of_decide_eq_true (by first | (with_reducible assumption) | assumption)
                have q280 : x11_3 < (t271.length : Int) := of_decide_eq_true (by first | (with_reducible assumption) | assumption)
                obtain ⟨ad280, e280, hx280_0⟩ := Kd.at_int (Kd.R_reads' HO_7.out).2.2 x11_3 p280 q280
                obtain rfl : ad279 = ad280 := (by injection e280)
                replace p280 := eq_true p280
                replace q280 := eq_true q280
                refine start_ (n := 21) (S := fun w' => w'.cell? (ad279.add (x11_3).toNat) = some (.int .i64 (rd t271 x11_3))) (ds := []) #[false, false, false, false, false, false, false, false, false, false, false, false, false, false, false, false, false, false, false, false, false] (by kernel_rfl) rfl rfl (hx280_0) (fun hHeld => ?_); refine with_tabW timesyncref18_Path.tab12 timesyncref18_Path.bits12 (fun HT_ HW_ => ?_)
                generalize wr.drew = w47 at HO_7 HO_8 BK270 HB hx280_0 hHeld ⊢
                refine pure_ (i := 0) (N := some 48) (v := ?_) (a' := ?_) #[true, false, false, false, false, false, false, false, false, false, false, false, false, false, false, false, false, false, false, false, false] rfl rfl (any_of HT_.out (by kernel_rfl)) (fun _ _ _ h => h) (Or.inl ⟨by rfl, ?_⟩) ?_ ?_
                rotate_left
                ·intro w'
                 go_simp
                 with_reducible rfl
                rotate_left
                ·simp only [Act.put, List.setIfInBounds_toArray, List.set_cons_zero, List.set_cons_succ, i64_w, i32_w]
                 rfl
                refine pure_ (i := 1) (N := some 49) (v := ?_) (a' := ?_) #[true, true, false, false, false, false, false, false, false, false, false, false, false, false, false, false, false, false, false, false, false] rfl rfl (any_of HT_.out (by kernel_rfl)) (fun _ _ _ h => h) (Or.inl ⟨by rfl, ?_⟩) ?_ ?_
                rotate_left
                ·intro w'
                 go_simp
                 with_reducible rfl
                rotate_left
                ·simp only [Act.put, List.setIfInBounds_toArray, List.set_cons_zero, List.set_cons_succ, i64_w, i32_w]
                 rfl
                refine pure_ (i := 2) (N := some 50) (v := ?_) (a' := ?_) #[true, true, true, false, false, false, false, false, false, false, false, false, false, false, false, false, false, false, false, false, false] rfl rfl (any_of HT_.out (by kernel_rfl)) (fun _ _ _ h => h) (Or.inl ⟨by rfl, ?_⟩) ?_ ?_
                rotate_left
                ·intro w'
                 go_simp
                 with_reducible rfl
                rotate_left
                ·simp only [Act.put, List.setIfInBounds_toArray, List.set_cons_zero, List.set_cons_succ, i64_w, i32_w]
                 rfl
                refine pure_ (i := 3) (N := some 51) (v := ?_) (a' := ?_) #[true, true, true, true, false, false, false, false, false, false, false, false, false, false, false, false, false, false, false, false, false] rfl rfl (any_of HT_.out (by kernel_rfl)) (fun _ _ _ h => h) (Or.inl ⟨by rfl, ?_⟩) ?_ ?_
                rotate_left
                ·intro w'
                 go_simp
                 with_reducible rfl
                rotate_left
                ·simp only [Act.put, List.setIfInBounds_toArray, List.set_cons_zero, List.set_cons_succ, i64_w, i32_w]
                 rfl
                refine pure_ (i := 4) (N := some 52) (v := ?_) (a' := ?_) #[true, true, true, true, true, false, false, false, false, false, false, false, false, false, false, false, false, false, false, false, false] rfl rfl (any_of HT_.out (by kernel_rfl)) (fun _ _ _ h => h) (Or.inl ⟨by rfl, ?_⟩) ?_ ?_
                rotate_left
                ·intro w'
                 go_simp
                 with_reducible rfl
                rotate_left
                ·simp only [Act.put, List.setIfInBounds_toArray, List.set_cons_zero, List.set_cons_succ, i64_w, i32_w]
                 rfl
                refine pure_ (i := 5) (N := some 53) (v := ?_) (a' := ?_) #[true, true, true, true, true, true, false, false, false, false, false, false, false, false, false, false, false, false, false, false, false] rfl rfl (any_of HT_.out (by kernel_rfl)) (fun _ _ _ h => h) (Or.inl ⟨by rfl, ?_⟩) ?_ ?_
                rotate_left
                ·intro w'
                 go_simp
                 with_reducible rfl
                rotate_left
                ·simp only [Act.put, List.setIfInBounds_toArray, List.set_cons_zero, List.set_cons_succ, i64_w, i32_w]
                 rfl
                refine pure_ (i := 7) (N := some 55) (v := ?_) (a' := ?_) #[true, true, true, true, true, true, false, true, false, false, false, false, false, false, false, false, false, false, false, false, false] rfl rfl (any_of HT_.out (by kernel_rfl)) (fun _ _ _ h => h) (Or.inl ⟨by rfl, ?_⟩) ?_ ?_
                rotate_left
                ·intro w'
                 go_simp
                 with_reducible rfl
                rotate_left
                ·simp only [Act.put, List.setIfInBounds_toArray, List.set_cons_zero, List.set_cons_succ, i64_w, i32_w]
                 rfl
                refine take_ (i := 6) (N := some 54) (v := ?_) (a' := ?_) #[true, true, true, true, true, true, true, true, false, false, false, false, false, false, false, false, false, false, false, false, false] rfl rfl (take_ofW HT_.out HW_.out (by kernel_rfl)) (fun _ _ _ h => h) (Or.inl ⟨by rfl, ?_⟩) hHeld ?_ ?_
                rotate_left
                ·intro w' s0
                 go_simp
                 with_reducible rfl
                rotate_left
                ·simp only [Act.put, List.setIfInBounds_toArray, List.set_cons_zero, List.set_cons_succ, i64_w, i32_w]
                 rfl
                refine pure_ (i := 8) (N := some 56) (v := ?_) (a' := ?_) #[true, true, true, true, true, true, true, true, true, false, false, false, false, false, false, false, false, false, false, false, false] rfl rfl (any_of HT_.out (by kernel_rfl)) (fun _ _ _ h => h) (Or.inl ⟨by rfl, ?_⟩) ?_ ?_
                rotate_left
                ·intro w'
                 go_simp
                 with_reducible rfl
                rotate_left
                ·simp only [Act.put, List.setIfInBounds_toArray, List.set_cons_zero, List.set_cons_succ, i64_w, i32_w]
                 rfl
                refine pure_ (i := 9) (N := some 57) (v := ?_) (a' := ?_) #[true, true, true, true, true, true, true, true, true, true, false, false, false, false, false, false, false, false, false, false, false] rfl rfl (any_of HT_.out (by kernel_rfl)) (fun _ _ _ h => h) (Or.inl ⟨by rfl, ?_⟩) ?_ ?_
                rotate_left
                ·intro w'
                 go_simp
                 with_reducible rfl
                rotate_left
                ·simp only [Act.put, List.setIfInBounds_toArray, List.set_cons_zero, List.set_cons_succ, i64_w, i32_w]
                 rfl
                refine pure_ (i := 10) (N := some 58) (v := ?_) (a' := ?_) #[true, true, true, true, true, true, true, true, true, true, true, false, false, false, false, false, false, false, false, false, false] rfl rfl (any_of HT_.out (by kernel_rfl)) (fun _ _ _ h => h) (Or.inl ⟨by rfl, ?_⟩) ?_ ?_
                rotate_left
                ·intro w'
                 go_simp
                 with_reducible rfl
                rotate_left
                ·simp only [Act.put, List.setIfInBounds_toArray, List.set_cons_zero, List.set_cons_succ, i64_w, i32_w]
                 rfl
                refine pure_ (i := 11) (N := some 59) (v := undef) (a' := ?_) #[true, true, true, true, true, true, true, true, true, true, true, true, false, false, false, false, false, false, false, false, false] rfl rfl (any_of HT_.out (by kernel_rfl)) (fun _ _ _ h => h) (Or.inr ⟨by rfl, rfl⟩) ?_ ?_
                rotate_left
                ·simp only [Act.put, List.setIfInBounds_toArray, List.set_cons_zero, List.set_cons_succ, i64_w, i32_w]
                 rfl
                refine pure_ (i := 12) (N := some 60) (v := undef) (a' := ?_) #[true, true, true, true, true, true, true, true, true, true, true, true, true, false, false, false, false, false, false, false, false] rfl rfl (any_of HT_.out (by kernel_rfl)) (fun _ _ _ h => h) (Or.inr ⟨by rfl, rfl⟩) ?_ ?_
                rotate_left
                ·simp only [Act.put, List.setIfInBounds_toArray, List.set_cons_zero, List.set_cons_succ, i64_w, i32_w]
                 rfl
                refine pure_ (i := 13) (N := some 61) (v := undef) (a' := ?_) #[true, true, true, true, true, true, true, true, true, true, true, true, true, true, false, false, false, false, false, false, false] rfl rfl (any_of HT_.out (by kernel_rfl)) (fun _ _ _ h => h) (Or.inr ⟨by rfl, rfl⟩) ?_ ?_
                rotate_left
                ·simp only [Act.put, List.setIfInBounds_toArray, List.set_cons_zero, List.set_cons_succ, i64_w, i32_w]
                 rfl
                refine pure_ (i := 14) (N := some 62) (v := undef) (a' := ?_) #[true, true, true, true, true, true, true, true, true, true, true, true, true, true, true, false, false, false, false, false, false] rfl rfl (any_of HT_.out (by kernel_rfl)) (fun _ _ _ h => h) (Or.inr ⟨by rfl, rfl⟩) ?_ ?_
                rotate_left
                ·simp only [Act.put, List.setIfInBounds_toArray, List.set_cons_zero, List.set_cons_succ, i64_w, i32_w]
                 rfl
                refine pure_ (i := 15) (N := some 63) (v := undef) (a' := ?_) #[true, true, true, true, true, true, true, true, true, true, true, true, true, true, true, true, false, false, false, false, false] rfl rfl (any_of HT_.out (by kernel_rfl)) (fun _ _ _ h => h) (Or.inr ⟨by rfl, rfl⟩) ?_ ?_
                rotate_left
                ·simp only [Act.put, List.setIfInBounds_toArray, List.set_cons_zero, List.set_cons_succ, i64_w, i32_w]
                 rfl
                refine pure_ (i := 16) (N := some 64) (v := undef) (a' := ?_) #[true, true, true, true, true, true, true, true, true, true, true, true, true, true, true, true, true, false, false, false, false] rfl rfl (any_of HT_.out (by kernel_rfl)) (fun _ _ _ h => h) (Or.inr ⟨by rfl, rfl⟩) ?_ ?_
                rotate_left
                ·simp only [Act.put, List.setIfInBounds_toArray, List.set_cons_zero, List.set_cons_succ, i64_w, i32_w]
                 rfl
                refine pure_ (i := 17) (N := some 65) (v := undef) (a' := ?_) #[true, true, true, true, true, true, true, true, true, true, true, true, true, true, true, true, true, true, false, false, false] rfl rfl (any_of HT_.out (by kernel_rfl)) (fun _ _ _ h => h) (Or.inr ⟨by rfl, rfl⟩) ?_ ?_
                rotate_left
                ·simp only [Act.put, List.setIfInBounds_toArray, List.set_cons_zero, List.set_cons_succ, i64_w, i32_w]
                 rfl
                refine pure_ (i := 18) (N := some 66) (v := undef) (a' := ?_) #[true, true, true, true, true, true, true, true, true, true, true, true, true, true, true, true, true, true, true, false, false] rfl rfl (any_of HT_.out (by kernel_rfl)) (fun _ _ _ h => h) (Or.inr ⟨by rfl, rfl⟩) ?_ ?_
                rotate_left
                ·simp only [Act.put, List.setIfInBounds_toArray, List.set_cons_zero, List.set_cons_succ, i64_w, i32_w]
                 rfl
                refine pure_ (i := 19) (N := some 67) (v := undef) (a' := ?_) #[true, true, true, true, true, true, true, true, true, true, true, true, true, true, true, true, true, true, true, true, false] rfl rfl (any_of HT_.out (by kernel_rfl)) (fun _ _ _ h => h) (Or.inr ⟨by rfl, rfl⟩) ?_ ?_
                rotate_left
                ·simp only [Act.put, List.setIfInBounds_toArray, List.set_cons_zero, List.set_cons_succ, i64_w, i32_w]
                 rfl
                refine pure_ (i := 20) (N := some 68) (v := ?_) (a' := ?_) #[true, true, true, true, true, true, true, true, true, true, true, true, true, true, true, true, true, true, true, true, true] rfl rfl (any_of HT_.out (by kernel_rfl)) (fun _ _ _ h => h) (Or.inl ⟨by rfl, ?_⟩) ?_ ?_
                rotate_left
                ·intro w'
                 go_simp
                 with_reducible rfl
                rotate_left
                ·simp only [Act.put, List.setIfInBounds_toArray, List.set_cons_zero, List.set_cons_succ, i64_w, i32_w]
                 rfl
                refine done_ (done_of HT_.out (by kernel_rfl)) ?_
                try go_wp2
                go_roundg k3
                case measure => have := HJ4.out; have := HK2.out; have := HK3.out; omega
                case rel => exact ⟨(x10_3), (wrap64 (x11_3 + 1)), (by first | rfl | (simp; done) | (simp [*]; done)), (by first | rfl | (simp; done) | (simp [*]; done)), H', ⟨by have := HJ4.out; have := HK2.out; have := HK3.out; omega⟩, ⟨by exact HO_7.out⟩, ⟨by exact HO_8.out⟩, ⟨by exact BK270.out⟩, ⟨by exact HB.out⟩⟩
              ·rw [if_neg c31] at H
               exact absurd H (by simp)
             ·rw [if_neg c30] at H
              exact absurd H (by simp)
            ·rw [if_neg c29] at H
             have c29b0 : decide (x10_3 < 0) = false := decide_eq_false c29
             clear c29
             have H' := Aside0.mk H
             clear H
             have hcz48_0 : wr.cell? ⟨gb270, 0, none⟩ = some (.int .i64 a0_0) := (blk_cell BK270.out 0).trans rfl
             have hcz48_1 : wr.cell? ⟨gb270, 1, none⟩ = some (.slice A0_1 l0_1.length c0_1) := (blk_cell BK270.out 1).trans rfl
             have hfz48_0 := blk_frozen BK270.out 0
             have hfz48_1 := blk_frozen BK270.out 1
             try go_wp2
             have n0_ := Aside0.mk (Kd.R_drew HO_7.out)
             have n1_ := Aside0.mk (Kd.R_drew HO_8.out)
             have n2_ := Aside0.mk (blk_drew BK270.out)
             have n3_ := Aside0.mk (below_drew1 HB.out)
             clear HO_7
             clear HO_8
             clear BK270
             clear HB
             have HO_7 := n0_
             have HO_8 := n1_
             have BK270 := n2_
             have HB := n3_
             clear n0_ n1_ n2_ n3_
             refine start_ (n := 21) (S := fun w' => True) (ds := []) #[false, false, false, false, false, false, false, false, false, false, false, false, false, false, false, false, false, false, false, false, false] (by kernel_rfl) rfl rfl trivial (fun hHeld => ?_); refine with_tabW timesyncref18_Path.tab12 timesyncref18_Path.bits12 (fun HT_ HW_ => ?_)
             generalize wr.drew = w49 at HO_7 HO_8 BK270 HB hHeld ⊢
             refine pure_ (i := 0) (N := some 48) (v := ?_) (a' := ?_) #[true, false, false, false, false, false, false, false, false, false, false, false, false, false, false, false, false, false, false, false, false] rfl rfl (any_of HT_.out (by kernel_rfl)) (fun _ _ _ h => h) (Or.inl ⟨by rfl, ?_⟩) ?_ ?_
             rotate_left
             ·intro w'
              go_simp
              with_reducible rfl
             rotate_left
             ·simp only [Act.put, List.setIfInBounds_toArray, List.set_cons_zero, List.set_cons_succ, i64_w, i32_w]
              rfl
             refine pure_ (i := 1) (N := some 49) (v := ?_) (a' := ?_) #[true, true, false, false, false, false, false, false, false, false, false, false, false, false, false, false, false, false, false, false, false] rfl rfl (any_of HT_.out (by kernel_rfl)) (fun _ _ _ h => h) (Or.inl ⟨by rfl, ?_⟩) ?_ ?_
             rotate_left
             ·intro w'
              go_simp
              with_reducible rfl
             rotate_left
             ·simp only [Act.put, List.setIfInBounds_toArray, List.set_cons_zero, List.set_cons_succ, i64_w, i32_w]
              rfl
             refine pure_ (i := 2) (N := some 50) (v := ?_) (a' := ?_) #[true, true, true, false, false, false, false, false, false, false, false, false, false, false, false, false, false, false, false, false, false] rfl rfl (any_of HT_.out (by kernel_rfl)) (fun _ _ _ h => h) (Or.inl ⟨by rfl, ?_⟩) ?_ ?_
             rotate_left
             ·intro w'
              go_simp
              with_reducible rfl
             rotate_left
             ·simp only [Act.put, List.setIfInBounds_toArray, List.set_cons_zero, List.set_cons_succ, i64_w, i32_w]
              rfl
             refine pure_ (i := 3) (N := some 51) (v := undef) (a' := ?_) #[true, true, true, true, false, false, false, false, false, false, false, false, false, false, false, false, false, false, false, false, false] rfl rfl (any_of HT_.out (by kernel_rfl)) (fun _ _ _ h => h) (Or.inr ⟨by rfl, rfl⟩) ?_ ?_
             rotate_left
             ·simp only [Act.put, List.setIfInBounds_toArray, List.set_cons_zero, List.set_cons_succ, i64_w, i32_w]
              rfl
             refine pure_ (i := 4) (N := some 52) (v := undef) (a' := ?_) #[true, true, true, true, true, false, false, false, false, false, false, false, false, false, false, false, false, false, false, false, false] rfl rfl (any_of HT_.out (by kernel_rfl)) (fun _ _ _ h => h) (Or.inr ⟨by rfl, rfl⟩) ?_ ?_
             rotate_left
             ·simp only [Act.put, List.setIfInBounds_toArray, List.set_cons_zero, List.set_cons_succ, i64_w, i32_w]
              rfl
             refine pure_ (i := 5) (N := some 53) (v := undef) (a' := ?_) #[true, true, true, true, true, true, false, false, false, false, false, false, false, false, false, false, false, false, false, false, false] rfl rfl (any_of HT_.out (by kernel_rfl)) (fun _ _ _ h => h) (Or.inr ⟨by rfl, rfl⟩) ?_ ?_
             rotate_left
             ·simp only [Act.put, List.setIfInBounds_toArray, List.set_cons_zero, List.set_cons_succ, i64_w, i32_w]
              rfl
             refine pure_ (i := 6) (N := some 54) (v := undef) (a' := ?_) #[true, true, true, true, true, true, true, false, false, false, false, false, false, false, false, false, false, false, false, false, false] rfl rfl (any_of HT_.out (by kernel_rfl)) (fun _ _ _ h => h) (Or.inr ⟨by rfl, rfl⟩) ?_ ?_
             rotate_left
             ·simp only [Act.put, List.setIfInBounds_toArray, List.set_cons_zero, List.set_cons_succ, i64_w, i32_w]
              rfl
             refine pure_ (i := 7) (N := some 55) (v := undef) (a' := ?_) #[true, true, true, true, true, true, true, true, false, false, false, false, false, false, false, false, false, false, false, false, false] rfl rfl (any_of HT_.out (by kernel_rfl)) (fun _ _ _ h => h) (Or.inr ⟨by rfl, rfl⟩) ?_ ?_
             rotate_left
             ·simp only [Act.put, List.setIfInBounds_toArray, List.set_cons_zero, List.set_cons_succ, i64_w, i32_w]
              rfl
             refine pure_ (i := 8) (N := some 56) (v := undef) (a' := ?_) #[true, true, true, true, true, true, true, true, true, false, false, false, false, false, false, false, false, false, false, false, false] rfl rfl (any_of HT_.out (by kernel_rfl)) (fun _ _ _ h => h) (Or.inr ⟨by rfl, rfl⟩) ?_ ?_
             rotate_left
             ·simp only [Act.put, List.setIfInBounds_toArray, List.set_cons_zero, List.set_cons_succ, i64_w, i32_w]
              rfl
             refine pure_ (i := 9) (N := some 57) (v := ?_) (a' := ?_) #[true, true, true, true, true, true, true, true, true, true, false, false, false, false, false, false, false, false, false, false, false] rfl rfl (any_of HT_.out (by kernel_rfl)) (fun _ _ _ h => h) (Or.inl ⟨by rfl, ?_⟩) ?_ ?_
             rotate_left
             ·intro w'
              go_simp
              with_reducible rfl
             rotate_left
             ·simp only [Act.put, List.setIfInBounds_toArray, List.set_cons_zero, List.set_cons_succ, i64_w, i32_w]
              rfl
             refine pure_ (i := 10) (N := some 58) (v := ?_) (a' := ?_) #[true, true, true, true, true, true, true, true, true, true, true, false, false, false, false, false, false, false, false, false, false] rfl rfl (any_of HT_.out (by kernel_rfl)) (fun _ _ _ h => h) (Or.inl ⟨by rfl, ?_⟩) ?_ ?_
             rotate_left
             ·intro w'
              go_simp
              with_reducible rfl
             rotate_left
             ·simp only [Act.put, List.setIfInBounds_toArray, List.set_cons_zero, List.set_cons_succ, i64_w, i32_w]
              rfl
             refine pure_ (i := 11) (N := some 59) (v := undef) (a' := ?_) #[true, true, true, true, true, true, true, true, true, true, true, true, false, false, false, false, false, false, false, false, false] rfl rfl (any_of HT_.out (by kernel_rfl)) (fun _ _ _ h => h) (Or.inr ⟨by rfl, rfl⟩) ?_ ?_
             rotate_left
             ·simp only [Act.put, List.setIfInBounds_toArray, List.set_cons_zero, List.set_cons_succ, i64_w, i32_w]
              rfl
             refine pure_ (i := 12) (N := some 60) (v := undef) (a' := ?_) #[true, true, true, true, true, true, true, true, true, true, true, true, true, false, false, false, false, false, false, false, false] rfl rfl (any_of HT_.out (by kernel_rfl)) (fun _ _ _ h => h) (Or.inr ⟨by rfl, rfl⟩) ?_ ?_
             rotate_left
             ·simp only [Act.put, List.setIfInBounds_toArray, List.set_cons_zero, List.set_cons_succ, i64_w, i32_w]
              rfl
             refine pure_ (i := 13) (N := some 61) (v := undef) (a' := ?_) #[true, true, true, true, true, true, true, true, true, true, true, true, true, true, false, false, false, false, false, false, false] rfl rfl (any_of HT_.out (by kernel_rfl)) (fun _ _ _ h => h) (Or.inr ⟨by rfl, rfl⟩) ?_ ?_
             rotate_left
             ·simp only [Act.put, List.setIfInBounds_toArray, List.set_cons_zero, List.set_cons_succ, i64_w, i32_w]
              rfl
             refine pure_ (i := 14) (N := some 62) (v := undef) (a' := ?_) #[true, true, true, true, true, true, true, true, true, true, true, true, true, true, true, false, false, false, false, false, false] rfl rfl (any_of HT_.out (by kernel_rfl)) (fun _ _ _ h => h) (Or.inr ⟨by rfl, rfl⟩) ?_ ?_
             rotate_left
             ·simp only [Act.put, List.setIfInBounds_toArray, List.set_cons_zero, List.set_cons_succ, i64_w, i32_w]
              rfl
             refine pure_ (i := 15) (N := some 63) (v := undef) (a' := ?_) #[true, true, true, true, true, true, true, true, true, true, true, true, true, true, true, true, false, false, false, false, false] rfl rfl (any_of HT_.out (by kernel_rfl)) (fun _ _ _ h => h) (Or.inr ⟨by rfl, rfl⟩) ?_ ?_
             rotate_left
             ·simp only [Act.put, List.setIfInBounds_toArray, List.set_cons_zero, List.set_cons_succ, i64_w, i32_w]
              rfl
             refine pure_ (i := 16) (N := some 64) (v := undef) (a' := ?_) #[true, true, true, true, true, true, true, true, true, true, true, true, true, true, true, true, true, false, false, false, false] rfl rfl (any_of HT_.out (by kernel_rfl)) (fun _ _ _ h => h) (Or.inr ⟨by rfl, rfl⟩) ?_ ?_
             rotate_left
             ·simp only [Act.put, List.setIfInBounds_toArray, List.set_cons_zero, List.set_cons_succ, i64_w, i32_w]
              rfl
             refine pure_ (i := 17) (N := some 65) (v := undef) (a' := ?_) #[true, true, true, true, true, true, true, true, true, true, true, true, true, true, true, true, true, true, false, false, false] rfl rfl (any_of HT_.out (by kernel_rfl)) (fun _ _ _ h => h) (Or.inr ⟨by rfl, rfl⟩) ?_ ?_
             rotate_left
             ·simp only [Act.put, List.setIfInBounds_toArray, List.set_cons_zero, List.set_cons_succ, i64_w, i32_w]
              rfl
             refine pure_ (i := 18) (N := some 66) (v := undef) (a' := ?_) #[true, true, true, true, true, true, true, true, true, true, true, true, true, true, true, true, true, true, true, false, false] rfl rfl (any_of HT_.out (by kernel_rfl)) (fun _ _ _ h => h) (Or.inr ⟨by rfl, rfl⟩) ?_ ?_
             rotate_left
             ·simp only [Act.put, List.setIfInBounds_toArray, List.set_cons_zero, List.set_cons_succ, i64_w, i32_w]
              rfl
             refine pure_ (i := 19) (N := some 67) (v := undef) (a' := ?_) #[true, true, true, true, true, true, true, true, true, true, true, true, true, true, true, true, true, true, true, true, false] rfl rfl (any_of HT_.out (by kernel_rfl)) (fun _ _ _ h => h) (Or.inr ⟨by rfl, rfl⟩) ?_ ?_
             rotate_left
             ·simp only [Act.put, List.setIfInBounds_toArray, List.set_cons_zero, List.set_cons_succ, i64_w, i32_w]
              rfl
             refine pure_ (i := 20) (N := some 68) (v := ?_) (a' := ?_) #[true, true, true, true, true, true, true, true, true, true, true, true, true, true, true, true, true, true, true, true, true] rfl rfl (any_of HT_.out (by kernel_rfl)) (fun _ _ _ h => h) (Or.inl ⟨by rfl, ?_⟩) ?_ ?_
             rotate_left
             ·intro w'
              go_simp
              with_reducible rfl
             rotate_left
             ·simp only [Act.put, List.setIfInBounds_toArray, List.set_cons_zero, List.set_cons_succ, i64_w, i32_w]
              rfl
             refine done_ (done_of HT_.out (by kernel_rfl)) ?_
             try go_wp2
             go_roundg k3
             case measure => have := HJ4.out; have := HK2.out; have := HK3.out; omega
             case rel => exact ⟨(x10_3), (wrap64 (x11_3 + 1)), (by first | rfl | (simp; done) | (simp [*]; done)), (by first | rfl | (simp; done) | (simp [*]; done)), H', ⟨by have := HJ4.out; have := HK2.out; have := HK3.out; omega⟩, ⟨by exact HO_7.out⟩, ⟨by exact HO_8.out⟩, ⟨by exact BK270.out⟩, ⟨by exact HB.out⟩⟩
           ·rw [if_neg c28] at H
            have c28b0 : decide (x11_3 < a0_0) = false := decide_eq_false c28
            clear c28
            by_cases c50 : x8_2.length < 17592186044416
            ·rw [if_pos c50] at H
             have LMc50 := Aside0.mk c50
             clear c50
             obtain ⟨y283, hy283⟩ : ∃ y_ : List Int, y_ = (x8_2 ++ [x10_3]) := ⟨_, rfl⟩
             replace H : (timesyncref18_Path.l0 k3 t271 y283 (wrap64 (x9_2 - 1)) a0_0 l0_1) = some r := by first | (rw [hy283]; with_reducible exact H) | (have H2_ := (Option.bind_some _ _).symm.trans H; rw [hy283]; with_reducible exact H2_) | (have H2_ := (Option.bind_some _ _).symm.trans H; with_reducible exact H2_) | with_reducible exact H | (rw [hy283]; exact H) | exact H
             have Ny283 := Aside0.mk hy283
             clear hy283
             have H' := Aside0.mk H
             clear H
             have hcz51_0 : wr.cell? ⟨gb270, 0, none⟩ = some (.int .i64 a0_0) := (blk_cell BK270.out 0).trans rfl
             have hcz51_1 : wr.cell? ⟨gb270, 1, none⟩ = some (.slice A0_1 l0_1.length c0_1) := (blk_cell BK270.out 1).trans rfl
             have hfz51_0 := blk_frozen BK270.out 0
             have hfz51_1 := blk_frozen BK270.out 1
             go_wp2_with (first | ((with_reducible refine gate_builtin (b := .append) (xs := #[.tmp 70, .tmp 72]) rfl ?_); (try (refine gate_guard (by rfl) ?_; dsimp only)); at_builtin; refine Kd.R_append (Kd.int .i64) (w0 := w) w.heap.size rfl (.tmp 70) (.tmp 72) 30 3 (.int .i64 0) 8 rfl Try.underlying30 info3 rfl (by decide) (by omega) u8 x8_2 x10_3 [.int .i64 x10_3] (fun k_ => some k_ ≠ (.slice (some ad279) t271.length co26 : Value).ownBlock) (fun _ => False) rfl rfl ?aP (fun _ hk => hk.elim) ?aF ?aO ?aB ?aS ?aL ?_; (case aP => exact rfl); (case aB => exact (by exact HB.out)); (case aF => exact (fun k_ hk => Kd.fresh' (Kd.R_lt (by exact HO_7.out)) k_ hk)); (case aO => exact (by exact HO_8.out)); (case aS => exact (below_size (by exact HB.out))); (case aL => have := LMc50.out; omega); intro v284 w52 ho hb hg hat; rw [← Ny283.out] at ho; have n0_ := Aside0.mk (Kd.R_after (ok := (fun _ => True)) (by exact Kd.R_mono HO_7.out (fun _ hk => ⟨trivial, hk⟩)) hg hat); have n1_ := Aside0.mk (blk_grown (g := gb270) (o := .cells #[.int .i64 a0_0, .slice A0_1 l0_1.length c0_1] 24 (0, 0)) (by exact BK270.out) hg (Kd.R_ne HO_8.out BK270.out (by decide))); have n2_ := Aside0.mk (hb); have n3_ := Aside0.mk (ho); clear HO_7; clear BK270; clear HB; clear HO_8; have HO_7 := n0_; have BK270 := n1_; have HB := n2_; have HO285 := n3_; clear n0_ n1_ n2_ n3_; clear ho hb hg hat))
             go_roundg k3
             case measure => have := HJ4.out; have := HK2.out; have := HK3.out; omega
             case rel => exact ⟨(y283), (wrap64 (x9_2 - 1)), (by first | rfl | (simp; done) | (simp [*]; done)), H', ⟨by have := HJ4.out; have := HK2.out; have := HK3.out; omega⟩, ⟨by exact Kd.R_mono HO_7.out (fun _ hk => hk.2)⟩, ⟨by exact HO285.out⟩, ⟨by exact BK270.out⟩, ⟨by exact HB.out⟩⟩
            ·rw [if_neg c50] at H
             exact absurd H (by simp)
        ·rw [if_neg c27] at H
         have c27b0 : decide (0 ≤ x9_2) = false := decide_eq_false c27
         clear c27
         obtain rfl := Option.some.inj H
         go_wp2
         go_ret
         exact ⟨_, by first | rfl | (simp [errW_none, errW_some] <;> rfl) | (simp [*, errW_none, errW_some] <;> rfl), by exact Kd.R_mono HO_8.out (fun _ hk => trivial), by exact HB.out⟩
     ·rw [if_neg c23] at H
      exact absurd H (by simp)
    ·rw [if_neg c22] at H
     exact absurd H (by simp)

end Go.Proofs.Ythkpnkmbmlbefaa.X

namespace Go.Proofs.Ythkpnkmbmlbefaa.X
open Go.RowKit Go.Proofs.YthkpnkmbmlbefaaW.PrintWords Go.Proofs.YthkpnkmbmlbefaaW.PrintLast Go.Proofs.YthkpnkmbmlbefaaW.PrintMore
attribute [local go_sem] max2_int min2_int max_two min_two max_three min_three max_four min_four   -- for this text's walks alone
set_option linter.unusedVariables false
set_option linter.unusedSimpArgs false

/-! ### timesyncref18_Diameter: function 27 -/
mutual
def timesyncref18_Diameter.l0 : Nat → Int → Int → Int → List (S37) → Option (Int)
 | 0, _, _, _, _ => none
 | k + 1, x3, x4, x287000, x287001 => if x4 < x287000 then ((timesyncref18_Dist.f k x287000 x287001 x4).bind fun t288 => (timesyncref18_Diameter.l1 k x3 x4 t288 0 x287000 x287001)) else (some x3)
def timesyncref18_Diameter.l1 : Nat → Int → Int → List Int → Int → Int → List (S37) → Option (Int)
 | 0, _, _, _, _, _, _ => none
 | k + 1, x3, x4, x5, x6, x287000, x287001 => if x6 < x287000 then (if 0 ≤ x6 then (if x6 < (x5.length : Int) then (if (rd x5 x6) > x3 then (timesyncref18_Diameter.l1 k (rd x5 x6) x4 x5 (wrap64 (x6 + 1)) x287000 x287001) else (timesyncref18_Diameter.l1 k x3 x4 x5 (wrap64 (x6 + 1)) x287000 x287001)) else (none)) else (none)) else (timesyncref18_Diameter.l0 k x3 (wrap64 (x4 + 1)) x287000 x287001)
end
def timesyncref18_Diameter.f (k : Nat) (a0_0 : Int) (l0_1 : List (S37)) : Option (Int) := (timesyncref18_Check.f k a0_0 l0_1).bind fun t287 => (if t287 = 0 then (timesyncref18_Diameter.l0 k 0 0 a0_0 l0_1) else (some 0))
set_option maxHeartbeats 8000000 in
set_option maxRecDepth 100000 in
theorem timesyncref18_Diameter.calls (k : Nat) (a0_0 : Int) (A0_1 : Option Addr) (c0_1 : Nat) (l0_1 : List (S37)) (r : Int) (w : World) (hr0_1 : Kd.C k37 w A0_1 l0_1.length l0_1) (hc0_1 : l0_1.length ≤ c0_1) (h : timesyncref18_Diameter.f k a0_0 l0_1 = some r) :
  Calls Try.prog 27 #[.agg #[.int .i64 a0_0, .slice A0_1 l0_1.length c0_1]] w fun e w' => e = .returned (.int .i64 r) ∧ Below w.heap.size w w' := by
 have hu24 := Try.underlying24
 have HR0_1 := Aside0.mk hr0_1
 have HC0_1 := Aside0.mk hc0_1
 clear hr0_1 hc0_1
 have HB := Aside0.mk (Below.refl w.heap.size w)
 have H : ((timesyncref18_Check.f k a0_0 l0_1).bind fun t287 => (if t287 = 0 then (timesyncref18_Diameter.l0 k 0 0 a0_0 l0_1) else (some 0))) = some r := h
 clear h
 replace H := Option.bind_eq_some_iff.mp H
 obtain ⟨t287, A20, H⟩ := H
 replace H : (if t287 = 0 then (timesyncref18_Diameter.l0 k 0 0 a0_0 l0_1) else (some 0)) = some r := H
 have A2 := Aside0.mk A20
 clear A20
 by_cases c3 : t287 = 0
 ·rw [if_pos c3] at H
  have c3b0 : (t287 == 0) = true := beq_iff_eq.mpr c3
  have c3b1 : (t287 != 0) = false := bne_eq_false_iff_eq.mpr c3
  clear c3
  have H' := Aside0.mk H
  clear H
  go_enter Try.func27, Try.ntmps27
  go_wp2_with (first | ((with_reducible refine gate_dst (N := 1) rfl ?_); refine box_event ?hg (N := 1) ?hd (cs := #[.int .i64 a0_0, .slice A0_1 l0_1.length c0_1]) (t := 24) ?hr ?_; (case hd => rfl); (case hg => rfl); (case hr => first | (go_simp; done) | (go_simp; rfl)); intro gb286 hg w4 hbox hb; have n0_ := Aside0.mk (below_step (by exact HB.out) hb); have n1_ := Aside0.mk (hbox); have n2_ := Aside0.mk ((by rw [hg]; exact (below_size (by exact HB.out)) : w.heap.size ≤ gb286)); have n3_ := Aside0.mk ((by rw [hg]; exact (below_size (by exact HB.out)) : w.heap.size ≤ gb286)); clear HB; have HB := n0_; have BK286 := n1_; have GW286 := n2_; have GE286 := n3_; clear n0_ n1_ n2_ n3_; clear hb hbox hg; have hcz5_0 : w4.cell? ⟨gb286, 0, none⟩ = some (.int .i64 a0_0) := (blk_cell BK286.out 0).trans rfl; have hcz5_1 : w4.cell? ⟨gb286, 1, none⟩ = some (.slice A0_1 l0_1.length c0_1) := (blk_cell BK286.out 1).trans rfl; have hfz5_0 := blk_frozen BK286.out 0; have hfz5_1 := blk_frozen BK286.out 1) | ((with_reducible refine gate_callee (f := 18) rfl ?_); refine goesL_ (some 8) rfl rfl Try.func18 (by kernel_rfl) rfl #[.agg #[.int .i64 a0_0, .slice A0_1 l0_1.length c0_1]] rfl (by (try simp only [List.map_toArray, List.map_cons, List.map_nil]); first | done | rfl | (simp only [List.length_drop, List.length_take]; rfl)) ?_; (with_reducible refine (timesyncref18_Check.calls k a0_0 _ _ l0_1 t287 _ ?side1 ?side2 A2.out).mono ?_); (case side1 => exact (Kd.C_below HR0_1.out HB.out)); (case side2 => exact HC0_1.out); rintro e w6 ⟨rfl, hb⟩; refine ⟨_, rfl, ?_⟩; have n0_ := Aside0.mk (blk_below (g := gb286) (o := .cells #[.int .i64 a0_0, .slice A0_1 l0_1.length c0_1] 24 (0, 0)) (by exact BK286.out) hb); have n1_ := Aside0.mk (below_step (by exact HB.out) hb); clear BK286; clear HB; have BK286 := n0_; have HB := n1_; clear n0_ n1_; (try clear hi)))
  go_loopg [3, 4] k (fun kq v3 v4 w' => ∃ (x3_1 : Int) (x4_1 : Int), v3 = .int .i64 x3_1 ∧ v4 = .int .i64 x4_1 ∧ Aside0 (timesyncref18_Diameter.l0 kq x3_1 x4_1 a0_0 l0_1 = some r) ∧ Aside0 (kq ≤ k) ∧ Aside0 (w'.heap[gb286]? = some (.cells #[.int .i64 a0_0, (.slice A0_1 l0_1.length c0_1)] 24 (0, 0))) ∧ Aside0 (Below w.heap.size w w'))
  case atStart => exact ⟨(0), (0), (by first | rfl | (simp; done) | (simp [*]; done)), (by first | rfl | (simp; done) | (simp [*]; done)), H', ⟨Nat.le_refl _⟩, ⟨by exact BK286.out⟩, ⟨by exact HB.out⟩⟩
  case round =>
   clear H'










   obtain ⟨x3_1, x4_1, rfl, rfl, HA, HK1, BK286, HB⟩ := hrel
   cases gk with
   | zero => exact absurd HA.out (by simp [timesyncref18_Diameter.l0])
   | succ k1 =>
    have H := HA.out
    clear HA
    simp only [timesyncref18_Diameter.l0] at H
    by_cases c7 : x4_1 < a0_0
    ·rw [if_pos c7] at H
     have c7b0 : decide (x4_1 < a0_0) = true := decide_eq_true c7
     clear c7
     replace H := Option.bind_eq_some_iff.mp H
     obtain ⟨t288, A80, H⟩ := H
     replace H : (timesyncref18_Diameter.l1 k1 x3_1 x4_1 t288 0 a0_0 l0_1) = some r := H
     have A8 := Aside0.mk A80
     clear A80
     have H' := Aside0.mk H
     clear H
     have hcz9_0 : wr.cell? ⟨gb286, 0, none⟩ = some (.int .i64 a0_0) := (blk_cell BK286.out 0).trans rfl
     have hcz9_1 : wr.cell? ⟨gb286, 1, none⟩ = some (.slice A0_1 l0_1.length c0_1) := (blk_cell BK286.out 1).trans rfl
     have hfz9_0 := blk_frozen BK286.out 0
     have hfz9_1 := blk_frozen BK286.out 1
     go_wp2_with (first | ((with_reducible refine gate_callee (f := 21) rfl ?_); refine goesL_ (some 18) rfl rfl Try.func21 (by kernel_rfl) rfl #[.agg #[.int .i64 a0_0, .slice A0_1 l0_1.length c0_1], .int .i64 x4_1] rfl (by (try simp only [List.map_toArray, List.map_cons, List.map_nil]); first | done | rfl | (simp only [List.length_drop, List.length_take]; rfl)) ?_; (with_reducible refine (timesyncref18_Dist.calls k1 a0_0 _ _ l0_1 x4_1 t288 _ ?side1 ?side2 A8.out).mono ?_); (case side1 => exact (Kd.C_below HR0_1.out HB.out)); (case side2 => exact HC0_1.out); rintro e w10 ⟨v289, rfl, ho0, hb⟩; refine ⟨_, rfl, ?_⟩; have n0_ := Aside0.mk (Kd.R_lower ho0 (below_size (by exact HB.out))); have n1_ := Aside0.mk (blk_below (g := gb286) (o := .cells #[.int .i64 a0_0, .slice A0_1 l0_1.length c0_1] 24 (0, 0)) (by exact BK286.out) hb); have n2_ := Aside0.mk (below_step (by exact HB.out) hb); clear BK286; clear HB; have HO290 := n0_; have BK286 := n1_; have HB := n2_; clear n0_ n1_ n2_; (try clear ho0)))
     go_loopg [3, 6] k1 (fun kq v3 v6 w' => ∃ (x3_2 : Int) (x6_2 : Int), v3 = .int .i64 x3_2 ∧ v6 = .int .i64 x6_2 ∧ Aside0 (timesyncref18_Diameter.l1 kq x3_2 x4_1 t288 x6_2 a0_0 l0_1 = some r) ∧ Aside0 (kq ≤ k1) ∧ Aside0 (Kd.R (Kd.int .i64) 3 w' w.heap.size (fun _ => True) v289 t288) ∧ Aside0 (w'.heap[gb286]? = some (.cells #[.int .i64 a0_0, (.slice A0_1 l0_1.length c0_1)] 24 (0, 0))) ∧ Aside0 (Below w.heap.size w w'))
     case atStart => exact ⟨(x3_1), (0), (by first | rfl | (simp; done) | (simp [*]; done)), (by first | rfl | (simp; done) | (simp [*]; done)), H', ⟨Nat.le_refl _⟩, ⟨by exact HO290.out⟩, ⟨by exact BK286.out⟩, ⟨by exact HB.out⟩⟩
     case round =>
      clear H'

















      obtain ⟨x3_2, x6_2, rfl, rfl, HA, HK2, HO_5, BK286, HB⟩ := hrel
      cases gk with
      | zero => exact absurd HA.out (by simp [timesyncref18_Diameter.l1])
      | succ k2 =>
       have H := HA.out
       clear HA
       simp only [timesyncref18_Diameter.l1] at H
       by_cases c11 : x6_2 < a0_0
       ·rw [if_pos c11] at H
        have c11b0 : decide (x6_2 < a0_0) = true := decide_eq_true c11
        clear c11
        by_cases c12 : 0 ≤ x6_2
        ·rw [if_pos c12] at H
         have c12b0 : decide (0 ≤ x6_2) = true := decide_eq_true c12
         clear c12
         by_cases c13 : x6_2 < (t288.length : Int)
         ·rw [if_pos c13] at H
          have c13b0 : decide (x6_2 < (t288.length : Int)) = true := decide_eq_true c13
          clear c13
          by_cases c14 : (rd t288 x6_2) > x3_2
          ·rw [if_pos c14] at H
           have c14b0 : decide (x3_2 < (rd t288 x6_2)) = true := decide_eq_true c14
           clear c14
           have H' := Aside0.mk H
           clear H
           have hcz15_0 : wr.cell? ⟨gb286, 0, none⟩ = some (.int .i64 a0_0) := (blk_cell BK286.out 0).trans rfl
           have hcz15_1 : wr.cell? ⟨gb286, 1, none⟩ = some (.slice A0_1 l0_1.length c0_1) := (blk_cell BK286.out 1).trans rfl
           have hfz15_0 := blk_frozen BK286.out 0
           have hfz15_1 := blk_frozen BK286.out 1
           obtain ⟨Ao16, co16, eo16⟩ := Kd.R_slice HO_5.out
           subst eo16
           have p291 : 0 ≤ (x6_2 : Int) := of_decide_eq_true (by first | (with_reducible assumption) | assumption)
           have q291 : x6_2 < (t288.length : Int) := of_decide_eq_true (by first | (with_reducible assumption) | assumption)
           obtain ⟨ad291, e291, hx291_0⟩ := Kd.at_int (Kd.R_reads' HO_5.out).2.2 x6_2 p291 q291
           cases e291
           replace p291 := eq_true p291
           replace q291 := eq_true q291
           have p292 : 0 ≤ (x6_2 : Int) := of_decide_eq_true (by first | (with_reducible assumption) | assumption)
           have q292 : x6_2 < (t288.length : Int) := of_decide_eq_true (by first | (with_reducible assumption) | assumption)
           obtain ⟨ad292, e292, hx292_0⟩ := Kd.at_int (Kd.R_reads' HO_5.out).2.2 x6_2 p292 q292
           obtain rfl : ad291 = ad292 := (by injection e292)
           replace p292 := eq_true p292
           replace q292 := eq_true q292
           go_wp2
           go_roundg k2
           case measure => have := HK1.out; have := HK2.out; omega
           case rel => exact ⟨(rd t288 x6_2), (wrap64 (x6_2 + 1)), (by first | rfl | (simp; done) | (simp [*]; done)), (by first | rfl | (simp; done) | (simp [*]; done)), H', ⟨by have := HK1.out; have := HK2.out; omega⟩, ⟨by exact HO_5.out⟩, ⟨by exact BK286.out⟩, ⟨by exact HB.out⟩⟩
          ·rw [if_neg c14] at H
           have c14b0 : decide (x3_2 < (rd t288 x6_2)) = false := decide_eq_false c14
           clear c14
           have H' := Aside0.mk H
           clear H
           have hcz17_0 : wr.cell? ⟨gb286, 0, none⟩ = some (.int .i64 a0_0) := (blk_cell BK286.out 0).trans rfl
           have hcz17_1 : wr.cell? ⟨gb286, 1, none⟩ = some (.slice A0_1 l0_1.length c0_1) := (blk_cell BK286.out 1).trans rfl
           have hfz17_0 := blk_frozen BK286.out 0
           have hfz17_1 := blk_frozen BK286.out 1
           obtain ⟨Ao18, co18, eo18⟩ := Kd.R_slice HO_5.out
           subst eo18
           have p291 : 0 ≤ (x6_2 : Int) := of_decide_eq_true (by first | (with_reducible assumption) | assumption)
           have q291 : x6_2 < (t288.length : Int) := of_decide_eq_true (by first | (with_reducible assumption) | assumption)
           obtain ⟨ad291, e291, hx291_0⟩ := Kd.at_int (Kd.R_reads' HO_5.out).2.2 x6_2 p291 q291
           cases e291
           replace p291 := eq_true p291
           replace q291 := eq_true q291
           go_wp2
           go_roundg k2
           case measure => have := HK1.out; have := HK2.out; omega
           case rel => exact ⟨(x3_2), (wrap64 (x6_2 + 1)), (by first | rfl | (simp; done) | (simp [*]; done)), (by first | rfl | (simp; done) | (simp [*]; done)), H', ⟨by have := HK1.out; have := HK2.out; omega⟩, ⟨by exact HO_5.out⟩, ⟨by exact BK286.out⟩, ⟨by exact HB.out⟩⟩
         ·rw [if_neg c13] at H
          exact absurd H (by simp)
        ·rw [if_neg c12] at H
         exact absurd H (by simp)
       ·rw [if_neg c11] at H
        have c11b0 : decide (x6_2 < a0_0) = false := decide_eq_false c11
        clear c11
        have H' := Aside0.mk H
        clear H
        have hcz19_0 : wr.cell? ⟨gb286, 0, none⟩ = some (.int .i64 a0_0) := (blk_cell BK286.out 0).trans rfl
        have hcz19_1 : wr.cell? ⟨gb286, 1, none⟩ = some (.slice A0_1 l0_1.length c0_1) := (blk_cell BK286.out 1).trans rfl
        have hfz19_0 := blk_frozen BK286.out 0
        have hfz19_1 := blk_frozen BK286.out 1
        go_wp2
        go_roundg k2
        case measure => have := HK1.out; have := HK2.out; omega
        case rel => exact ⟨(x3_2), (wrap64 (x4_1 + 1)), (by first | rfl | (simp; done) | (simp [*]; done)), (by first | rfl | (simp; done) | (simp [*]; done)), H', ⟨by have := HK1.out; have := HK2.out; omega⟩, ⟨by exact BK286.out⟩, ⟨by exact HB.out⟩⟩
    ·rw [if_neg c7] at H
     have c7b0 : decide (x4_1 < a0_0) = false := decide_eq_false c7
     clear c7
     obtain rfl := Option.some.inj H
     have hcz20_0 : wr.cell? ⟨gb286, 0, none⟩ = some (.int .i64 a0_0) := (blk_cell BK286.out 0).trans rfl
     have hcz20_1 : wr.cell? ⟨gb286, 1, none⟩ = some (.slice A0_1 l0_1.length c0_1) := (blk_cell BK286.out 1).trans rfl
     have hfz20_0 := blk_frozen BK286.out 0
     have hfz20_1 := blk_frozen BK286.out 1
     go_wp2
     go_ret
     exact ⟨by first | rfl | (simp [errW_none, errW_some] <;> rfl) | (simp [*, errW_none, errW_some] <;> rfl), by exact HB.out⟩
 ·rw [if_neg c3] at H
  have c3b0 : (t287 == 0) = false := beq_eq_false_iff_ne.mpr c3
  have c3b1 : (t287 != 0) = true := bne_iff_ne.mpr c3
  obtain rfl := Option.some.inj H
  go_enter Try.func27, Try.ntmps27
  go_wp2_with (first | ((with_reducible refine gate_dst (N := 1) rfl ?_); refine box_event ?hg (N := 1) ?hd (cs := #[.int .i64 a0_0, .slice A0_1 l0_1.length c0_1]) (t := 24) ?hr ?_; (case hd => rfl); (case hg => rfl); (case hr => first | (go_simp; done) | (go_simp; rfl)); intro gb286 hg w21 hbox hb; have n0_ := Aside0.mk (below_step (by exact HB.out) hb); have n1_ := Aside0.mk (hbox); have n2_ := Aside0.mk ((by rw [hg]; exact (below_size (by exact HB.out)) : w.heap.size ≤ gb286)); have n3_ := Aside0.mk ((by rw [hg]; exact (below_size (by exact HB.out)) : w.heap.size ≤ gb286)); clear HB; have HB := n0_; have BK286 := n1_; have GW286 := n2_; have GE286 := n3_; clear n0_ n1_ n2_ n3_; clear hb hbox hg; have hcz22_0 : w21.cell? ⟨gb286, 0, none⟩ = some (.int .i64 a0_0) := (blk_cell BK286.out 0).trans rfl; have hcz22_1 : w21.cell? ⟨gb286, 1, none⟩ = some (.slice A0_1 l0_1.length c0_1) := (blk_cell BK286.out 1).trans rfl; have hfz22_0 := blk_frozen BK286.out 0; have hfz22_1 := blk_frozen BK286.out 1) | ((with_reducible refine gate_callee (f := 18) rfl ?_); refine goesL_ (some 8) rfl rfl Try.func18 (by kernel_rfl) rfl #[.agg #[.int .i64 a0_0, .slice A0_1 l0_1.length c0_1]] rfl (by (try simp only [List.map_toArray, List.map_cons, List.map_nil]); first | done | rfl | (simp only [List.length_drop, List.length_take]; rfl)) ?_; (with_reducible refine (timesyncref18_Check.calls k a0_0 _ _ l0_1 t287 _ ?side1 ?side2 A2.out).mono ?_); (case side1 => exact (Kd.C_below HR0_1.out HB.out)); (case side2 => exact HC0_1.out); rintro e w23 ⟨rfl, hb⟩; refine ⟨_, rfl, ?_⟩; have n0_ := Aside0.mk (blk_below (g := gb286) (o := .cells #[.int .i64 a0_0, .slice A0_1 l0_1.length c0_1] 24 (0, 0)) (by exact BK286.out) hb); have n1_ := Aside0.mk (below_step (by exact HB.out) hb); clear BK286; clear HB; have BK286 := n0_; have HB := n1_; clear n0_ n1_; (try clear hi)))
  go_ret
  exact ⟨by first | rfl | (simp [errW_none, errW_some] <;> rfl) | (simp [*, errW_none, errW_some] <;> rfl), by exact HB.out⟩

end Go.Proofs.Ythkpnkmbmlbefaa.X

namespace Go.Proofs.Ythkpnkmbmlbefaa.X
open Go.RowKit Go.Proofs.YthkpnkmbmlbefaaW.PrintWords Go.Proofs.YthkpnkmbmlbefaaW.PrintLast Go.Proofs.YthkpnkmbmlbefaaW.PrintMore
attribute [local go_sem] max2_int min2_int max_two min_two max_three min_three max_four min_four   -- for this text's walks alone
set_option linter.unusedVariables false
set_option linter.unusedSimpArgs false

/-! ### timesynclaw18_TopoPaths: function 4 -/
def timesynclaw18_TopoPaths.f (k : Nat) (a0_0 : Int) (l0_1 : List (S37)) (a1 : Int) (a2 : Int) : Option (Bool) := (timesynclaw18_long.f a0_0 l0_1).bind fun t294 => (if t294 = true then ((timesynclaw18_awake.f k).bind fun t295 => (some t295)) else ((topo_Dist.f k a0_0 l0_1 a1).bind fun t296 => ((timesyncref18_Dist.f k a0_0 l0_1 a1).bind fun t299 => ((slices_Equal_int_int.f k t296 t299).bind fun t302 => (if t302 = true then ((topo_Comp.f k a0_0 l0_1).bind fun t303 => ((timesyncref18_Comp.f k a0_0 l0_1).bind fun t306 => ((slices_Equal_int_int.f k t303 t306).bind fun t309 => (if t309 = true then ((topo_Path.f k a0_0 l0_1 a1 a2).bind fun t310 => ((timesyncref18_Path.f k a0_0 l0_1 a1 a2).bind fun t313 => ((slices_Equal_int_int.f k t310 t313).bind fun t316 => (if t316 = true then ((topo_Diameter.f k a0_0 l0_1).bind fun t317 => ((timesyncref18_Diameter.f k a0_0 l0_1).bind fun t318 => (if t317 = t318 then ((timesynclaw18_awake.f k).bind fun t319 => (some t319)) else (none)))) else (none))))) else (none))))) else (none))))))
def timesynclaw18_TopoPaths.T3 : Bool × List (List Nat × List Nat) := (true, [([], []), ([], []), ([0, 1], [0, 1]), ([], []), ([], []), ([3, 4, 2], [3, 4]), ([2, 5, 5], [2, 5]), ([6, 6], [6]), ([7], [7]), ([8, 7, 7], [7, 8]), ([7], [7]), ([10, 9, 7], [7, 10]), ([9, 11, 11, 7], [7, 9, 11]), ([7, 12], [7, 12]), ([13, 12], [13]), ([14], [14]), ([14], [14]), ([14], [14]), ([15, 16, 17, 14, 14], [14, 15, 16, 17]), ([14], [14]), ([14], [14]), ([14], [14]), ([19, 20, 21, 18, 14], [14, 19, 20, 21]), ([18, 22, 22, 14], [14, 18, 22]), ([14, 23], [14, 23]), ([24, 23], [24]), ([25], [25]), ([26, 25, 25], [25, 26]), ([25], [25]), ([28, 27, 25], [25, 28]), ([27, 29, 25], [25, 27, 29]), ([25, 30], [25, 30]), ([31, 29], [31]), ([32, 32], [32]), ([32, 33], [32, 33]), ([34, 33, 0, 1, 2, 3, 4, 5, 6, 7, 8, 9, 10, 11, 12, 13, 14, 15, 16, 17, 18, 19, 20, 21, 22, 23, 24, 25, 26, 27, 28, 29, 30, 31, 32, 33, 34], [34])])
def timesynclaw18_TopoPaths.B3 : List Nat := [0, 0, 3, 0, 0, 31, 63, 127, 255, 511, 255, 2047, 4095, 8191, 16383, 32767, 32767, 32767, 262143, 32767, 32767, 32767, 4194303, 8388607, 16777215, 33554431, 67108863, 134217727, 67108863, 536870911, 1073741823, 2147483647, 4294967295, 8589934591, 17179869183, 34359738367]
theorem timesynclaw18_TopoPaths.tab3 : rtab .any (opsOf Try.f4 3) = timesynclaw18_TopoPaths.T3 := by kernel_rfl
theorem timesynclaw18_TopoPaths.bits3 : waitsOk timesynclaw18_TopoPaths.T3.2 timesynclaw18_TopoPaths.B3 = true := by kernel_rfl
set_option maxHeartbeats 8000000 in
set_option maxRecDepth 100000 in
theorem timesynclaw18_TopoPaths.calls (k : Nat) (a0_0 : Int) (A0_1 : Option Addr) (c0_1 : Nat) (l0_1 : List (S37)) (a1 : Int) (a2 : Int) (r : Bool) (w : World) (hr0_1 : Kd.C k37 w A0_1 l0_1.length l0_1) (hc0_1 : l0_1.length ≤ c0_1) (h : timesynclaw18_TopoPaths.f k a0_0 l0_1 a1 a2 = some r) :
  Calls Try.prog 4 #[.agg #[.int .i64 a0_0, .slice A0_1 l0_1.length c0_1], .int .i64 a1, .int .i64 a2] w fun e w' => e = .returned (.bool r) ∧ Below w.heap.size w w' := by
 have hu24 := Try.underlying24
 have HR0_1 := Aside0.mk hr0_1
 have HC0_1 := Aside0.mk hc0_1
 clear hr0_1 hc0_1
 have HB := Aside0.mk (Below.refl w.heap.size w)
 have H : ((timesynclaw18_long.f a0_0 l0_1).bind fun t294 => (if t294 = true then ((timesynclaw18_awake.f k).bind fun t295 => (some t295)) else ((topo_Dist.f k a0_0 l0_1 a1).bind fun t296 => ((timesyncref18_Dist.f k a0_0 l0_1 a1).bind fun t299 => ((slices_Equal_int_int.f k t296 t299).bind fun t302 => (if t302 = true then ((topo_Comp.f k a0_0 l0_1).bind fun t303 => ((timesyncref18_Comp.f k a0_0 l0_1).bind fun t306 => ((slices_Equal_int_int.f k t303 t306).bind fun t309 => (if t309 = true then ((topo_Path.f k a0_0 l0_1 a1 a2).bind fun t310 => ((timesyncref18_Path.f k a0_0 l0_1 a1 a2).bind fun t313 => ((slices_Equal_int_int.f k t310 t313).bind fun t316 => (if t316 = true then ((topo_Diameter.f k a0_0 l0_1).bind fun t317 => ((timesyncref18_Diameter.f k a0_0 l0_1).bind fun t318 => (if t317 = t318 then ((timesynclaw18_awake.f k).bind fun t319 => (some t319)) else (none)))) else (none))))) else (none))))) else (none))))))) = some r := h
 clear h
 replace H := Option.bind_eq_some_iff.mp H
 obtain ⟨t294, A40, H⟩ := H
 replace H : (if t294 = true then ((timesynclaw18_awake.f k).bind fun t295 => (some t295)) else ((topo_Dist.f k a0_0 l0_1 a1).bind fun t296 => ((timesyncref18_Dist.f k a0_0 l0_1 a1).bind fun t299 => ((slices_Equal_int_int.f k t296 t299).bind fun t302 => (if t302 = true then ((topo_Comp.f k a0_0 l0_1).bind fun t303 => ((timesyncref18_Comp.f k a0_0 l0_1).bind fun t306 => ((slices_Equal_int_int.f k t303 t306).bind fun t309 => (if t309 = true then ((topo_Path.f k a0_0 l0_1 a1 a2).bind fun t310 => ((timesyncref18_Path.f k a0_0 l0_1 a1 a2).bind fun t313 => ((slices_Equal_int_int.f k t310 t313).bind fun t316 => (if t316 = true then ((topo_Diameter.f k a0_0 l0_1).bind fun t317 => ((timesyncref18_Diameter.f k a0_0 l0_1).bind fun t318 => (if t317 = t318 then ((timesynclaw18_awake.f k).bind fun t319 => (some t319)) else (none)))) else (none))))) else (none))))) else (none)))))) = some r := H
 have A4 := Aside0.mk A40
 clear A40
 by_cases c5 : t294 = true
 ·subst c5
  have H1 : ((timesynclaw18_awake.f k).bind fun t295 => (some t295)) = some r := by rw [if_pos rfl] at H; exact H
  clear H
  have H := H1
  clear H1
  replace H := Option.bind_eq_some_iff.mp H
  obtain ⟨t295, A60, H⟩ := H
  replace H : (some t295) = some r := H
  have A6 := Aside0.mk A60
  clear A60
  obtain rfl := Option.some.inj H
  go_enter Try.func4, Try.ntmps4
  go_wp2_with (first | ((with_reducible refine gate_dst (N := 3) rfl ?_); refine box_event ?hg (N := 3) ?hd (cs := #[.int .i64 a0_0, .slice A0_1 l0_1.length c0_1]) (t := 24) ?hr ?_; (case hd => rfl); (case hg => rfl); (case hr => first | (go_simp; done) | (go_simp; rfl)); intro gb293 hg w7 hbox hb; have n0_ := Aside0.mk (below_step (by repeat (first | (with_reducible first | exact HB.out | apply below_alloc | apply pw_below_drewN | apply below_drew1) | exact HB.out)) hb); have n1_ := Aside0.mk (hbox); have n2_ := Aside0.mk ((by rw [hg]; exact (below_size (by repeat (first | (with_reducible first | exact HB.out | apply below_alloc | apply pw_below_drewN | apply below_drew1) | exact HB.out))) : w.heap.size ≤ gb293)); have n3_ := Aside0.mk ((by rw [hg]; exact (below_size (by repeat (first | (with_reducible first | exact HB.out | apply below_alloc | apply pw_below_drewN | apply below_drew1) | exact HB.out))) : w.heap.size ≤ gb293)); clear HB; have HB := n0_; have BK293 := n1_; have GW293 := n2_; have GE293 := n3_; clear n0_ n1_ n2_ n3_; clear hb hbox hg; have hcz8_0 : w7.cell? ⟨gb293, 0, none⟩ = some (.int .i64 a0_0) := (blk_cell BK293.out 0).trans rfl; have hcz8_1 : w7.cell? ⟨gb293, 1, none⟩ = some (.slice A0_1 l0_1.length c0_1) := (blk_cell BK293.out 1).trans rfl; have hfz8_0 := blk_frozen BK293.out 0; have hfz8_1 := blk_frozen BK293.out 1) | ((with_reducible refine gate_callee (f := 15) rfl ?_); refine goesL_ (some 8) rfl rfl Try.func15 (by kernel_rfl) rfl #[.agg #[.int .i64 a0_0, .slice A0_1 l0_1.length c0_1]] rfl (by (try simp only [List.map_toArray, List.map_cons, List.map_nil]); first | done | rfl | (simp only [List.length_drop, List.length_take]; rfl)) ?_; (with_reducible refine (timesynclaw18_long.calls a0_0 _ _ l0_1 true _ ?side1 ?side2 A4.out).mono ?_); (case side1 => repeat (first | exact (Kd.C_below HR0_1.out HB.out) | (with_reducible refine Kd.C_alloc ?_ _) | (with_reducible refine Kd.C_drewN ?_ _) | (with_reducible refine Kd.C_drew ?_))); (case side2 => exact HC0_1.out); rintro e w9 ⟨rfl, hb⟩; refine ⟨_, rfl, ?_⟩; have n0_ := Aside0.mk (blk_below (g := gb293) (o := .cells #[.int .i64 a0_0, .slice A0_1 l0_1.length c0_1] 24 (0, 0)) (by (with_reducible repeat (first | refine blk_drewN ?_ _ | refine blk_drew ?_ | refine blk_alloc ?_ _)); exact BK293.out) hb); have n1_ := Aside0.mk (below_step (by repeat (first | (with_reducible first | exact HB.out | apply below_alloc | apply pw_below_drewN | apply below_drew1 | refine below_set ?_ GE293.out) | exact HB.out)) hb); clear BK293; clear HB; have BK293 := n0_; have HB := n1_; clear n0_ n1_; (try clear hi)) | ((with_reducible refine gate_callee (f := 16) rfl ?_); refine goesL_ (some 9) rfl rfl Try.func16 (by kernel_rfl) rfl #[] rfl (by (try simp only [List.map_toArray, List.map_cons, List.map_nil]); first | done | rfl | (simp only [List.length_drop, List.length_take]; rfl)) ?_; (with_reducible refine (timesynclaw18_awake.calls k  t295 _ A6.out).mono ?_); rintro e w10 ⟨rfl, hb⟩; refine ⟨_, rfl, ?_⟩; have n0_ := Aside0.mk (blk_below (g := gb293) (o := .cells #[.int .i64 a0_0, .slice A0_1 l0_1.length c0_1] 24 (0, 0)) (by (with_reducible repeat (first | refine blk_drewN ?_ _ | refine blk_drew ?_ | refine blk_alloc ?_ _)); exact BK293.out) hb); have n1_ := Aside0.mk (below_step (by repeat (first | (with_reducible first | exact HB.out | apply below_alloc | apply pw_below_drewN | apply below_drew1 | refine below_set ?_ GE293.out) | exact HB.out)) hb); clear BK293; clear HB; have BK293 := n0_; have HB := n1_; clear n0_ n1_; (try clear hi)))
  go_ret
  exact ⟨by first | rfl | (simp [errW_none, errW_some] <;> rfl) | (simp [*, errW_none, errW_some] <;> rfl), by exact HB.out⟩
 ·replace c5 := Bool.eq_false_iff.mpr c5
  subst c5
  have H1 : ((topo_Dist.f k a0_0 l0_1 a1).bind fun t296 => ((timesyncref18_Dist.f k a0_0 l0_1 a1).bind fun t299 => ((slices_Equal_int_int.f k t296 t299).bind fun t302 => (if t302 = true then ((topo_Comp.f k a0_0 l0_1).bind fun t303 => ((timesyncref18_Comp.f k a0_0 l0_1).bind fun t306 => ((slices_Equal_int_int.f k t303 t306).bind fun t309 => (if t309 = true then ((topo_Path.f k a0_0 l0_1 a1 a2).bind fun t310 => ((timesyncref18_Path.f k a0_0 l0_1 a1 a2).bind fun t313 => ((slices_Equal_int_int.f k t310 t313).bind fun t316 => (if t316 = true then ((topo_Diameter.f k a0_0 l0_1).bind fun t317 => ((timesyncref18_Diameter.f k a0_0 l0_1).bind fun t318 => (if t317 = t318 then ((timesynclaw18_awake.f k).bind fun t319 => (some t319)) else (none)))) else (none))))) else (none))))) else (none))))) = some r := by rw [if_neg (show ¬ (false = true) by decide)] at H; exact H
  clear H
  have H := H1
  clear H1
  replace H := Option.bind_eq_some_iff.mp H
  obtain ⟨t296, A110, H⟩ := H
  replace H : ((timesyncref18_Dist.f k a0_0 l0_1 a1).bind fun t299 => ((slices_Equal_int_int.f k t296 t299).bind fun t302 => (if t302 = true then ((topo_Comp.f k a0_0 l0_1).bind fun t303 => ((timesyncref18_Comp.f k a0_0 l0_1).bind fun t306 => ((slices_Equal_int_int.f k t303 t306).bind fun t309 => (if t309 = true then ((topo_Path.f k a0_0 l0_1 a1 a2).bind fun t310 => ((timesyncref18_Path.f k a0_0 l0_1 a1 a2).bind fun t313 => ((slices_Equal_int_int.f k t310 t313).bind fun t316 => (if t316 = true then ((topo_Diameter.f k a0_0 l0_1).bind fun t317 => ((timesyncref18_Diameter.f k a0_0 l0_1).bind fun t318 => (if t317 = t318 then ((timesynclaw18_awake.f k).bind fun t319 => (some t319)) else (none)))) else (none))))) else (none))))) else (none)))) = some r := H
  have A11 := Aside0.mk A110
  clear A110
  replace H := Option.bind_eq_some_iff.mp H
  obtain ⟨t299, A120, H⟩ := H
  replace H : ((slices_Equal_int_int.f k t296 t299).bind fun t302 => (if t302 = true then ((topo_Comp.f k a0_0 l0_1).bind fun t303 => ((timesyncref18_Comp.f k a0_0 l0_1).bind fun t306 => ((slices_Equal_int_int.f k t303 t306).bind fun t309 => (if t309 = true then ((topo_Path.f k a0_0 l0_1 a1 a2).bind fun t310 => ((timesyncref18_Path.f k a0_0 l0_1 a1 a2).bind fun t313 => ((slices_Equal_int_int.f k t310 t313).bind fun t316 => (if t316 = true then ((topo_Diameter.f k a0_0 l0_1).bind fun t317 => ((timesyncref18_Diameter.f k a0_0 l0_1).bind fun t318 => (if t317 = t318 then ((timesynclaw18_awake.f k).bind fun t319 => (some t319)) else (none)))) else (none))))) else (none))))) else (none))) = some r := H
  have A12 := Aside0.mk A120
  clear A120
  replace H := Option.bind_eq_some_iff.mp H
  obtain ⟨t302, A130, H⟩ := H
  replace H : (if t302 = true then ((topo_Comp.f k a0_0 l0_1).bind fun t303 => ((timesyncref18_Comp.f k a0_0 l0_1).bind fun t306 => ((slices_Equal_int_int.f k t303 t306).bind fun t309 => (if t309 = true then ((topo_Path.f k a0_0 l0_1 a1 a2).bind fun t310 => ((timesyncref18_Path.f k a0_0 l0_1 a1 a2).bind fun t313 => ((slices_Equal_int_int.f k t310 t313).bind fun t316 => (if t316 = true then ((topo_Diameter.f k a0_0 l0_1).bind fun t317 => ((timesyncref18_Diameter.f k a0_0 l0_1).bind fun t318 => (if t317 = t318 then ((timesynclaw18_awake.f k).bind fun t319 => (some t319)) else (none)))) else (none))))) else (none))))) else (none)) = some r := H
  have A13 := Aside0.mk A130
  clear A130
  by_cases c14 : t302 = true
  ·subst c14
   have H1 : ((topo_Comp.f k a0_0 l0_1).bind fun t303 => ((timesyncref18_Comp.f k a0_0 l0_1).bind fun t306 => ((slices_Equal_int_int.f k t303 t306).bind fun t309 => (if t309 = true then ((topo_Path.f k a0_0 l0_1 a1 a2).bind fun t310 => ((timesyncref18_Path.f k a0_0 l0_1 a1 a2).bind fun t313 => ((slices_Equal_int_int.f k t310 t313).bind fun t316 => (if t316 = true then ((topo_Diameter.f k a0_0 l0_1).bind fun t317 => ((timesyncref18_Diameter.f k a0_0 l0_1).bind fun t318 => (if t317 = t318 then ((timesynclaw18_awake.f k).bind fun t319 => (some t319)) else (none)))) else (none))))) else (none))))) = some r := by rw [if_pos rfl] at H; exact H
   clear H
   have H := H1
   clear H1
   replace H := Option.bind_eq_some_iff.mp H
   obtain ⟨t303, A150, H⟩ := H
   replace H : ((timesyncref18_Comp.f k a0_0 l0_1).bind fun t306 => ((slices_Equal_int_int.f k t303 t306).bind fun t309 => (if t309 = true then ((topo_Path.f k a0_0 l0_1 a1 a2).bind fun t310 => ((timesyncref18_Path.f k a0_0 l0_1 a1 a2).bind fun t313 => ((slices_Equal_int_int.f k t310 t313).bind fun t316 => (if t316 = true then ((topo_Diameter.f k a0_0 l0_1).bind fun t317 => ((timesyncref18_Diameter.f k a0_0 l0_1).bind fun t318 => (if t317 = t318 then ((timesynclaw18_awake.f k).bind fun t319 => (some t319)) else (none)))) else (none))))) else (none)))) = some r := H
   have A15 := Aside0.mk A150
   clear A150
   replace H := Option.bind_eq_some_iff.mp H
   obtain ⟨t306, A160, H⟩ := H
   replace H : ((slices_Equal_int_int.f k t303 t306).bind fun t309 => (if t309 = true then ((topo_Path.f k a0_0 l0_1 a1 a2).bind fun t310 => ((timesyncref18_Path.f k a0_0 l0_1 a1 a2).bind fun t313 => ((slices_Equal_int_int.f k t310 t313).bind fun t316 => (if t316 = true then ((topo_Diameter.f k a0_0 l0_1).bind fun t317 => ((timesyncref18_Diameter.f k a0_0 l0_1).bind fun t318 => (if t317 = t318 then ((timesynclaw18_awake.f k).bind fun t319 => (some t319)) else (none)))) else (none))))) else (none))) = some r := H
   have A16 := Aside0.mk A160
   clear A160
   replace H := Option.bind_eq_some_iff.mp H
   obtain ⟨t309, A170, H⟩ := H
   replace H : (if t309 = true then ((topo_Path.f k a0_0 l0_1 a1 a2).bind fun t310 => ((timesyncref18_Path.f k a0_0 l0_1 a1 a2).bind fun t313 => ((slices_Equal_int_int.f k t310 t313).bind fun t316 => (if t316 = true then ((topo_Diameter.f k a0_0 l0_1).bind fun t317 => ((timesyncref18_Diameter.f k a0_0 l0_1).bind fun t318 => (if t317 = t318 then ((timesynclaw18_awake.f k).bind fun t319 => (some t319)) else (none)))) else (none))))) else (none)) = some r := H
   have A17 := Aside0.mk A170
   clear A170
   by_cases c18 : t309 = true
   ·subst c18
    have H1 : ((topo_Path.f k a0_0 l0_1 a1 a2).bind fun t310 => ((timesyncref18_Path.f k a0_0 l0_1 a1 a2).bind fun t313 => ((slices_Equal_int_int.f k t310 t313).bind fun t316 => (if t316 = true then ((topo_Diameter.f k a0_0 l0_1).bind fun t317 => ((timesyncref18_Diameter.f k a0_0 l0_1).bind fun t318 => (if t317 = t318 then ((timesynclaw18_awake.f k).bind fun t319 => (some t319)) else (none)))) else (none))))) = some r := by rw [if_pos rfl] at H; exact H
    clear H
    have H := H1
    clear H1
    replace H := Option.bind_eq_some_iff.mp H
    obtain ⟨t310, A190, H⟩ := H
    replace H : ((timesyncref18_Path.f k a0_0 l0_1 a1 a2).bind fun t313 => ((slices_Equal_int_int.f k t310 t313).bind fun t316 => (if t316 = true then ((topo_Diameter.f k a0_0 l0_1).bind fun t317 => ((timesyncref18_Diameter.f k a0_0 l0_1).bind fun t318 => (if t317 = t318 then ((timesynclaw18_awake.f k).bind fun t319 => (some t319)) else (none)))) else (none)))) = some r := H
    have A19 := Aside0.mk A190
    clear A190
    replace H := Option.bind_eq_some_iff.mp H
    obtain ⟨t313, A200, H⟩ := H
    replace H : ((slices_Equal_int_int.f k t310 t313).bind fun t316 => (if t316 = true then ((topo_Diameter.f k a0_0 l0_1).bind fun t317 => ((timesyncref18_Diameter.f k a0_0 l0_1).bind fun t318 => (if t317 = t318 then ((timesynclaw18_awake.f k).bind fun t319 => (some t319)) else (none)))) else (none))) = some r := H
    have A20 := Aside0.mk A200
    clear A200
    replace H := Option.bind_eq_some_iff.mp H
    obtain ⟨t316, A210, H⟩ := H
    replace H : (if t316 = true then ((topo_Diameter.f k a0_0 l0_1).bind fun t317 => ((timesyncref18_Diameter.f k a0_0 l0_1).bind fun t318 => (if t317 = t318 then ((timesynclaw18_awake.f k).bind fun t319 => (some t319)) else (none)))) else (none)) = some r := H
    have A21 := Aside0.mk A210
    clear A210
    by_cases c22 : t316 = true
    ·subst c22
     have H1 : ((topo_Diameter.f k a0_0 l0_1).bind fun t317 => ((timesyncref18_Diameter.f k a0_0 l0_1).bind fun t318 => (if t317 = t318 then ((timesynclaw18_awake.f k).bind fun t319 => (some t319)) else (none)))) = some r := by rw [if_pos rfl] at H; exact H
     clear H
     have H := H1
     clear H1
     replace H := Option.bind_eq_some_iff.mp H
     obtain ⟨t317, A230, H⟩ := H
     replace H : ((timesyncref18_Diameter.f k a0_0 l0_1).bind fun t318 => (if t317 = t318 then ((timesynclaw18_awake.f k).bind fun t319 => (some t319)) else (none))) = some r := H
     have A23 := Aside0.mk A230
     clear A230
     replace H := Option.bind_eq_some_iff.mp H
     obtain ⟨t318, A240, H⟩ := H
     replace H : (if t317 = t318 then ((timesynclaw18_awake.f k).bind fun t319 => (some t319)) else (none)) = some r := H
     have A24 := Aside0.mk A240
     clear A240
     by_cases c25 : t317 = t318
     ·rw [if_pos c25] at H
      have c25b0 : (t317 == t318) = true := beq_iff_eq.mpr c25
      have c25b1 : (t317 != t318) = false := bne_eq_false_iff_eq.mpr c25
      clear c25
      replace H := Option.bind_eq_some_iff.mp H
      obtain ⟨t319, A260, H⟩ := H
      replace H : (some t319) = some r := H
      have A26 := Aside0.mk A260
      clear A260
      obtain rfl := Option.some.inj H
      go_enter Try.func4, Try.ntmps4
      try go_wp2_with (first | ((with_reducible refine gate_dst (N := 3) rfl ?_); refine box_event ?hg (N := 3) ?hd (cs := #[.int .i64 a0_0, .slice A0_1 l0_1.length c0_1]) (t := 24) ?hr ?_; (case hd => rfl); (case hg => rfl); (case hr => first | (go_simp; done) | (go_simp; rfl)); intro gb293 hg w27 hbox hb; have n0_ := Aside0.mk (below_step (by repeat (first | (with_reducible first | exact HB.out | apply below_alloc | apply pw_below_drewN | apply below_drew1) | exact HB.out)) hb); have n1_ := Aside0.mk (hbox); have n2_ := Aside0.mk ((by rw [hg]; exact (below_size (by repeat (first | (with_reducible first | exact HB.out | apply below_alloc | apply pw_below_drewN | apply below_drew1) | exact HB.out))) : w.heap.size ≤ gb293)); have n3_ := Aside0.mk ((by rw [hg]; exact (below_size (by repeat (first | (with_reducible first | exact HB.out | apply below_alloc | apply pw_below_drewN | apply below_drew1) | exact HB.out))) : w.heap.size ≤ gb293)); clear HB; have HB := n0_; have BK293 := n1_; have GW293 := n2_; have GE293 := n3_; clear n0_ n1_ n2_ n3_; clear hb hbox hg; have hcz28_0 : w27.cell? ⟨gb293, 0, none⟩ = some (.int .i64 a0_0) := (blk_cell BK293.out 0).trans rfl; have hcz28_1 : w27.cell? ⟨gb293, 1, none⟩ = some (.slice A0_1 l0_1.length c0_1) := (blk_cell BK293.out 1).trans rfl; have hfz28_0 := blk_frozen BK293.out 0; have hfz28_1 := blk_frozen BK293.out 1) | ((with_reducible refine gate_callee (f := 15) rfl ?_); refine goesL_ (some 8) rfl rfl Try.func15 (by kernel_rfl) rfl #[.agg #[.int .i64 a0_0, .slice A0_1 l0_1.length c0_1]] rfl (by (try simp only [List.map_toArray, List.map_cons, List.map_nil]); first | done | rfl | (simp only [List.length_drop, List.length_take]; rfl)) ?_; (with_reducible refine (timesynclaw18_long.calls a0_0 _ _ l0_1 false _ ?side1 ?side2 A4.out).mono ?_); (case side1 => repeat (first | exact (Kd.C_below HR0_1.out HB.out) | (with_reducible refine Kd.C_alloc ?_ _) | (with_reducible refine Kd.C_drewN ?_ _) | (with_reducible refine Kd.C_drew ?_))); (case side2 => exact HC0_1.out); rintro e w29 ⟨rfl, hb⟩; refine ⟨_, rfl, ?_⟩; have n0_ := Aside0.mk (blk_below (g := gb293) (o := .cells #[.int .i64 a0_0, .slice A0_1 l0_1.length c0_1] 24 (0, 0)) (by (with_reducible repeat (first | refine blk_drewN ?_ _ | refine blk_drew ?_ | refine blk_alloc ?_ _)); exact BK293.out) hb); have n1_ := Aside0.mk (below_step (by repeat (first | (with_reducible first | exact HB.out | apply below_alloc | apply pw_below_drewN | apply below_drew1 | refine below_set ?_ GE293.out) | exact HB.out)) hb); clear BK293; clear HB; have BK293 := n0_; have HB := n1_; clear n0_ n1_; (try clear hi)))
      have n0_ := Aside0.mk (blk_drew BK293.out)
      have n1_ := Aside0.mk (below_drew1 HB.out)
      clear BK293
      clear HB
      have BK293 := n0_
      have HB := n1_
      clear n0_ n1_
      refine start_ (n := 36) (S := fun w' => w'.cell? ⟨gb293, 0, none⟩ = some (.int .i64 a0_0) ∧ w'.cell? ⟨gb293, 1, none⟩ = some (.slice A0_1 l0_1.length c0_1)) (ds := []) #[false, false, false, false, false, false, false, false, false, false, false, false, false, false, false, false, false, false, false, false, false, false, false, false, false, false, false, false, false, false, false, false, false, false, false, false] (by kernel_rfl) rfl rfl ⟨(blk_cell BK293.out 0).trans rfl, (blk_cell BK293.out 1).trans rfl⟩ (fun hHeld => ?_); refine with_tabW timesynclaw18_TopoPaths.tab3 timesynclaw18_TopoPaths.bits3 (fun HT_ HW_ => ?_)
      generalize w29.drew = w30 at BK293 HB hHeld ⊢
      refine pure_ (i := 1) (N := some 11) (v := ?_) (a' := ?_) #[false, true, false, false, false, false, false, false, false, false, false, false, false, false, false, false, false, false, false, false, false, false, false, false, false, false, false, false, false, false, false, false, false, false, false, false] rfl rfl (any_of HT_.out (by kernel_rfl)) (fun _ _ _ h => h) (Or.inl ⟨by rfl, ?_⟩) ?_ ?_
      rotate_left
      ·intro w'
       go_simp
       with_reducible rfl
      rotate_left
      ·simp only [Act.put, List.setIfInBounds_toArray, List.set_cons_zero, List.set_cons_succ, i64_w, i32_w]
       rfl
      refine pure_ (i := 4) (N := some 14) (v := ?_) (a' := ?_) #[false, true, false, false, true, false, false, false, false, false, false, false, false, false, false, false, false, false, false, false, false, false, false, false, false, false, false, false, false, false, false, false, false, false, false, false] rfl rfl (any_of HT_.out (by kernel_rfl)) (fun _ _ _ h => h) (Or.inl ⟨by rfl, ?_⟩) ?_ ?_
      rotate_left
      ·intro w'
       go_simp
       with_reducible rfl
      rotate_left
      ·simp only [Act.put, List.setIfInBounds_toArray, List.set_cons_zero, List.set_cons_succ, i64_w, i32_w]
       rfl
      refine take_ (i := 0) (N := some 10) (v := ?_) (a' := ?_) #[true, true, false, false, true, false, false, false, false, false, false, false, false, false, false, false, false, false, false, false, false, false, false, false, false, false, false, false, false, false, false, false, false, false, false, false] rfl rfl (take_ofW HT_.out HW_.out (by kernel_rfl)) (fun _ _ _ h => h) (Or.inl ⟨by rfl, ?_⟩) hHeld ?_ ?_
      rotate_left
      ·rintro w' ⟨s0, s1⟩
       go_simp
       with_reducible rfl
      rotate_left
      ·simp only [Act.put, List.setIfInBounds_toArray, List.set_cons_zero, List.set_cons_succ, i64_w, i32_w]
       rfl
      refine take_ (i := 3) (N := some 13) (v := ?_) (a' := ?_) #[true, true, false, true, true, false, false, false, false, false, false, false, false, false, false, false, false, false, false, false, false, false, false, false, false, false, false, false, false, false, false, false, false, false, false, false] rfl rfl (take_ofW HT_.out HW_.out (by kernel_rfl)) (fun _ _ _ h => h) (Or.inl ⟨by rfl, ?_⟩) hHeld ?_ ?_
      rotate_left
      ·rintro w' ⟨s0, s1⟩
       go_simp
       with_reducible rfl
      rotate_left
      ·simp only [Act.put, List.setIfInBounds_toArray, List.set_cons_zero, List.set_cons_succ, i64_w, i32_w]
       rfl
      refine one_ (i := 2) (N := some 12) #[true, true, true, true, true, false, false, false, false, false, false, false, false, false, false, false, false, false, false, false, false, false, false, false, false, false, false, false, false, false, false, false, false, false, false, false] rfl rfl (one_of HT_.out (by kernel_rfl)) (by decide) (fun K hK => ?_)
      refine goes_ Try.func20 (by kernel_rfl) rfl #[.agg #[.int .i64 a0_0, .slice A0_1 l0_1.length c0_1], .int .i64 a1] (by rfl) rfl rfl (by (try simp only [List.map_toArray, List.map_cons, List.map_nil]); first | done | rfl | (simp only [List.length_drop, List.length_take]; rfl)) ?_
      with_reducible refine (topo_Dist.calls k a0_0 _ _ l0_1 a1 t296 _ ?side1 ?side2 A11.out).mono ?_
      (case side1 => exact (Kd.C_below HR0_1.out HB.out))
      (case side2 => exact HC0_1.out)
      rintro e w31 ⟨v297, rfl, ho0, hb⟩
      refine ⟨_, rfl, ?_⟩
      have n0_ := Aside0.mk (Kd.R_lower ho0 (below_size (by exact HB.out)))
      have n1_ := Aside0.mk (blk_below (g := gb293) (o := .cells #[.int .i64 a0_0, .slice A0_1 l0_1.length c0_1] 24 (0, 0)) (by exact BK293.out) hb)
      have n2_ := Aside0.mk (below_step (by exact HB.out) hb)
      clear BK293
      clear HB
      have HO298 := n0_
      have BK293 := n1_
      have HB := n2_
      clear n0_ n1_ n2_





      refine hK.out _ _ ⟨(blk_cell BK293.out 0).trans rfl, (blk_cell BK293.out 1).trans rfl⟩ (fun hHeld => ?_)
      clear hK K
      refine norm_ (a' := ?_) ?_ ?_
      rotate_left
      ·show Act.put _ (some 12) _ = _
       simp only [Act.put, List.setIfInBounds_toArray, List.set_cons_zero, List.set_cons_succ, i64_w, i32_w]
       rfl
      refine one_ (i := 5) (N := some 15) #[true, true, true, true, true, true, false, false, false, false, false, false, false, false, false, false, false, false, false, false, false, false, false, false, false, false, false, false, false, false, false, false, false, false, false, false] rfl rfl (one_of HT_.out (by kernel_rfl)) (by decide) (fun K hK => ?_)
      refine goes_ Try.func21 (by kernel_rfl) rfl #[.agg #[.int .i64 a0_0, .slice A0_1 l0_1.length c0_1], .int .i64 a1] (by rfl) rfl rfl (by (try simp only [List.map_toArray, List.map_cons, List.map_nil]); first | done | rfl | (simp only [List.length_drop, List.length_take]; rfl)) ?_
      with_reducible refine (timesyncref18_Dist.calls k a0_0 _ _ l0_1 a1 t299 _ ?side1 ?side2 A12.out).mono ?_
      (case side1 => exact (Kd.C_below HR0_1.out HB.out))
      (case side2 => exact HC0_1.out)
      rintro e w32 ⟨v300, rfl, ho0, hb⟩
      refine ⟨_, rfl, ?_⟩
      have n0_ := Aside0.mk (Kd.R_elder' (by exact HO298.out) (Kd.R_base ho0) hb)
      have n1_ := Aside0.mk (Kd.R_lower (Kd.R_new' ho0 (Kd.R_lt (by exact HO298.out))) (below_size (by exact HB.out)))
      have n2_ := Aside0.mk (blk_below (g := gb293) (o := .cells #[.int .i64 a0_0, .slice A0_1 l0_1.length c0_1] 24 (0, 0)) (by exact BK293.out) hb)
      have n3_ := Aside0.mk (below_step (by exact HB.out) hb)
      clear HO298
      clear BK293
      clear HB
      have HO298 := n0_
      have HO301 := n1_
      have BK293 := n2_
      have HB := n3_
      clear n0_ n1_ n2_ n3_





      obtain ⟨Ao33, co33, eo33⟩ := Kd.R_slice HO298.out
      (first | subst eo33 | (injection eo33 with f1_ f2_ f3_; have f4_ := f1_.symm; have f5_ := f3_.symm; clear f1_ f2_ f3_; subst f4_; subst f5_))
      obtain ⟨Ao34, co34, eo34⟩ := Kd.R_slice HO301.out
      (first | subst eo34 | (injection eo34 with f1_ f2_ f3_; have f4_ := f1_.symm; have f5_ := f3_.symm; clear f1_ f2_ f3_; subst f4_; subst f5_))
      refine hK.out _ _ ⟨(blk_cell BK293.out 0).trans rfl, (blk_cell BK293.out 1).trans rfl⟩ (fun hHeld => ?_)
      clear hK K
      refine norm_ (a' := ?_) ?_ ?_
      rotate_left
      ·show Act.put _ (some 15) _ = _
       simp only [Act.put, List.setIfInBounds_toArray, List.set_cons_zero, List.set_cons_succ, i64_w, i32_w]
       rfl
      refine one_ (i := 6) (N := some 16) #[true, true, true, true, true, true, true, false, false, false, false, false, false, false, false, false, false, false, false, false, false, false, false, false, false, false, false, false, false, false, false, false, false, false, false, false] rfl rfl (one_of HT_.out (by kernel_rfl)) (by decide) (fun K hK => ?_)
      refine goes_ Try.func19 (by kernel_rfl) rfl #[.slice Ao33 t296.length co33, .slice Ao34 t299.length co34] (by rfl) rfl rfl (by (try simp only [List.map_toArray, List.map_cons, List.map_nil]); first | done | rfl | (simp only [List.length_drop, List.length_take]; rfl)) ?_
      with_reducible refine (slices_Equal_int_int.calls k _ _ t296 _ _ t299 true _ ?side1 ?side2 ?side3 ?side4 A13.out).mono ?_
      (case side1 => repeat (first | exact (Kd.R_reads' HO298.out).2.2 | (with_reducible refine Kd.C_alloc ?_ _) | (with_reducible refine Kd.C_drewN ?_ _) | (with_reducible refine Kd.C_drew ?_)))
      (case side2 => exact (Kd.R_reads' HO298.out).2.1)
      (case side3 => repeat (first | exact (Kd.R_reads' HO301.out).2.2 | (with_reducible refine Kd.C_alloc ?_ _) | (with_reducible refine Kd.C_drewN ?_ _) | (with_reducible refine Kd.C_drew ?_)))
      (case side4 => exact (Kd.R_reads' HO301.out).2.1)
      rintro e w' ⟨rfl, ⟨nd, rfl⟩⟩
      refine ⟨_, rfl, ?_⟩
      refine hK.out _ _ ⟨(blk_cell BK293.out 0).trans rfl, (blk_cell BK293.out 1).trans rfl⟩ (fun hHeld => ?_)
      clear hK K
      refine norm_ (a' := ?_) ?_ ?_
      rotate_left
      ·show Act.put _ (some 16) _ = _
       simp only [Act.put, List.setIfInBounds_toArray, List.set_cons_zero, List.set_cons_succ, i64_w, i32_w]
       rfl
      refine pure_ (i := 7) (N := some 17) (v := ?_) (a' := ?_) #[true, true, true, true, true, true, true, true, false, false, false, false, false, false, false, false, false, false, false, false, false, false, false, false, false, false, false, false, false, false, false, false, false, false, false, false] rfl rfl (any_of HT_.out (by kernel_rfl)) (fun _ _ _ h => h) (Or.inl ⟨by rfl, ?_⟩) ?_ ?_
      rotate_left
      ·intro w'
       go_simp
       with_reducible rfl
      rotate_left
      ·simp only [Act.put, List.setIfInBounds_toArray, List.set_cons_zero, List.set_cons_succ, i64_w, i32_w]
       rfl
      refine take_ (i := 8) (N := some 18) (v := ?_) (a' := ?_) #[true, true, true, true, true, true, true, true, true, false, false, false, false, false, false, false, false, false, false, false, false, false, false, false, false, false, false, false, false, false, false, false, false, false, false, false] rfl rfl (take_ofW HT_.out HW_.out (by kernel_rfl)) (fun _ _ _ h => h) (Or.inl ⟨by rfl, ?_⟩) hHeld ?_ ?_
      rotate_left
      ·rintro w' ⟨s0, s1⟩
       go_simp
       with_reducible rfl
      rotate_left
      ·simp only [Act.put, List.setIfInBounds_toArray, List.set_cons_zero, List.set_cons_succ, i64_w, i32_w]
       rfl
      refine take_ (i := 10) (N := some 20) (v := ?_) (a' := ?_) #[true, true, true, true, true, true, true, true, true, false, true, false, false, false, false, false, false, false, false, false, false, false, false, false, false, false, false, false, false, false, false, false, false, false, false, false] rfl rfl (take_ofW HT_.out HW_.out (by kernel_rfl)) (fun _ _ _ h => h) (Or.inl ⟨by rfl, ?_⟩) hHeld ?_ ?_
      rotate_left
      ·rintro w' ⟨s0, s1⟩
       go_simp
       with_reducible rfl
      rotate_left
      ·simp only [Act.put, List.setIfInBounds_toArray, List.set_cons_zero, List.set_cons_succ, i64_w, i32_w]
       rfl
      refine one_ (i := 9) (N := some 19) #[true, true, true, true, true, true, true, true, true, true, true, false, false, false, false, false, false, false, false, false, false, false, false, false, false, false, false, false, false, false, false, false, false, false, false, false] rfl rfl (one_of HT_.out (by kernel_rfl)) (by decide) (fun K hK => ?_)
      refine goes_ Try.func22 (by kernel_rfl) rfl #[.agg #[.int .i64 a0_0, .slice A0_1 l0_1.length c0_1]] (by rfl) rfl rfl (by (try simp only [List.map_toArray, List.map_cons, List.map_nil]); first | done | rfl | (simp only [List.length_drop, List.length_take]; rfl)) ?_
      with_reducible refine (topo_Comp.calls k a0_0 _ _ l0_1 t303 _ ?side1 ?side2 A15.out).mono ?_
      (case side1 => repeat (first | exact (Kd.C_below HR0_1.out (by exact HB.out)) | (with_reducible refine Kd.C_alloc ?_ _) | (with_reducible refine Kd.C_drewN ?_ _) | (with_reducible refine Kd.C_drew ?_)))
      (case side2 => exact HC0_1.out)
      rintro e w35 ⟨v304, rfl, ho0, hb⟩
      refine ⟨_, rfl, ?_⟩
      have n0_ := Aside0.mk (Kd.R_elder' (by exact HO298.out) (Kd.R_base ho0) hb)
      have n1_ := Aside0.mk (Kd.R_elder' (by exact HO301.out) (Kd.R_base ho0) hb)
      have n2_ := Aside0.mk (Kd.R_lower (Kd.R_new' (Kd.R_new' ho0 (Kd.R_lt (by (with_reducible repeat (first | apply Kd.R_alloc | apply Kd.R_drewN | apply Kd.R_drew)); exact HO298.out))) (Kd.R_lt (by (with_reducible repeat (first | apply Kd.R_alloc | apply Kd.R_drewN | apply Kd.R_drew)); exact HO301.out))) (below_size (by repeat (first | (with_reducible first | exact HB.out | apply below_alloc | apply pw_below_drewN | apply below_drew1 | refine below_set ?_ GE293.out) | exact HB.out))))
      have n3_ := Aside0.mk (blk_below (g := gb293) (o := .cells #[.int .i64 a0_0, .slice A0_1 l0_1.length c0_1] 24 (0, 0)) (by exact BK293.out) hb)
      have n4_ := Aside0.mk (below_step (by repeat (first | (with_reducible first | exact HB.out | apply below_alloc | apply pw_below_drewN | apply below_drew1 | refine below_set ?_ GE293.out) | exact HB.out)) hb)
      clear HO298
      clear HO301
      clear BK293
      clear HB
      have HO298 := n0_
      have HO301 := n1_
      have HO305 := n2_
      have BK293 := n3_
      have HB := n4_
      clear n0_ n1_ n2_ n3_ n4_





      refine hK.out _ _ ⟨(blk_cell BK293.out 0).trans rfl, (blk_cell BK293.out 1).trans rfl⟩ (fun hHeld => ?_)
      clear hK K
      refine norm_ (a' := ?_) ?_ ?_
      rotate_left
      ·show Act.put _ (some 19) _ = _
       simp only [Act.put, List.setIfInBounds_toArray, List.set_cons_zero, List.set_cons_succ, i64_w, i32_w]
       rfl
      refine one_ (i := 11) (N := some 21) #[true, true, true, true, true, true, true, true, true, true, true, true, false, false, false, false, false, false, false, false, false, false, false, false, false, false, false, false, false, false, false, false, false, false, false, false] rfl rfl (one_of HT_.out (by kernel_rfl)) (by decide) (fun K hK => ?_)
      refine goes_ Try.func23 (by kernel_rfl) rfl #[.agg #[.int .i64 a0_0, .slice A0_1 l0_1.length c0_1]] (by rfl) rfl rfl (by (try simp only [List.map_toArray, List.map_cons, List.map_nil]); first | done | rfl | (simp only [List.length_drop, List.length_take]; rfl)) ?_
      with_reducible refine (timesyncref18_Comp.calls k a0_0 _ _ l0_1 t306 _ ?side1 ?side2 A16.out).mono ?_
      (case side1 => exact (Kd.C_below HR0_1.out HB.out))
      (case side2 => exact HC0_1.out)
      rintro e w36 ⟨v307, rfl, ho0, hb⟩
      refine ⟨_, rfl, ?_⟩
      have n0_ := Aside0.mk (Kd.R_elder' (by exact HO298.out) (Kd.R_base ho0) hb)
      have n1_ := Aside0.mk (Kd.R_elder' (by exact HO301.out) (Kd.R_base ho0) hb)
      have n2_ := Aside0.mk (Kd.R_elder' (by exact HO305.out) (Kd.R_base ho0) hb)
      have n3_ := Aside0.mk (Kd.R_lower (Kd.R_new' (Kd.R_new' (Kd.R_new' ho0 (Kd.R_lt (by exact HO298.out))) (Kd.R_lt (by exact HO301.out))) (Kd.R_lt (by exact HO305.out))) (below_size (by exact HB.out)))
      have n4_ := Aside0.mk (blk_below (g := gb293) (o := .cells #[.int .i64 a0_0, .slice A0_1 l0_1.length c0_1] 24 (0, 0)) (by exact BK293.out) hb)
      have n5_ := Aside0.mk (below_step (by exact HB.out) hb)
      clear HO298
      clear HO301
      clear HO305
      clear BK293
      clear HB
      have HO298 := n0_
      have HO301 := n1_
      have HO305 := n2_
      have HO308 := n3_
      have BK293 := n4_
      have HB := n5_
      clear n0_ n1_ n2_ n3_ n4_ n5_





      obtain ⟨Ao37, co37, eo37⟩ := Kd.R_slice HO305.out
      (first | subst eo37 | (injection eo37 with f1_ f2_ f3_; have f4_ := f1_.symm; have f5_ := f3_.symm; clear f1_ f2_ f3_; subst f4_; subst f5_))
      obtain ⟨Ao38, co38, eo38⟩ := Kd.R_slice HO308.out
      (first | subst eo38 | (injection eo38 with f1_ f2_ f3_; have f4_ := f1_.symm; have f5_ := f3_.symm; clear f1_ f2_ f3_; subst f4_; subst f5_))
      refine hK.out _ _ ⟨(blk_cell BK293.out 0).trans rfl, (blk_cell BK293.out 1).trans rfl⟩ (fun hHeld => ?_)
      clear hK K
      refine norm_ (a' := ?_) ?_ ?_
      rotate_left
      ·show Act.put _ (some 21) _ = _
       simp only [Act.put, List.setIfInBounds_toArray, List.set_cons_zero, List.set_cons_succ, i64_w, i32_w]
       rfl
      refine one_ (i := 12) (N := some 22) #[true, true, true, true, true, true, true, true, true, true, true, true, true, false, false, false, false, false, false, false, false, false, false, false, false, false, false, false, false, false, false, false, false, false, false, false] rfl rfl (one_of HT_.out (by kernel_rfl)) (by decide) (fun K hK => ?_)
      refine goes_ Try.func19 (by kernel_rfl) rfl #[.slice Ao37 t303.length co37, .slice Ao38 t306.length co38] (by rfl) rfl rfl (by (try simp only [List.map_toArray, List.map_cons, List.map_nil]); first | done | rfl | (simp only [List.length_drop, List.length_take]; rfl)) ?_
      with_reducible refine (slices_Equal_int_int.calls k _ _ t303 _ _ t306 true _ ?side1 ?side2 ?side3 ?side4 A17.out).mono ?_
      (case side1 => repeat (first | exact (Kd.R_reads' HO305.out).2.2 | (with_reducible refine Kd.C_alloc ?_ _) | (with_reducible refine Kd.C_drewN ?_ _) | (with_reducible refine Kd.C_drew ?_)))
      (case side2 => exact (Kd.R_reads' HO305.out).2.1)
      (case side3 => repeat (first | exact (Kd.R_reads' HO308.out).2.2 | (with_reducible refine Kd.C_alloc ?_ _) | (with_reducible refine Kd.C_drewN ?_ _) | (with_reducible refine Kd.C_drew ?_)))
      (case side4 => exact (Kd.R_reads' HO308.out).2.1)
      rintro e w' ⟨rfl, ⟨nd, rfl⟩⟩
      refine ⟨_, rfl, ?_⟩
      refine hK.out _ _ ⟨(blk_cell BK293.out 0).trans rfl, (blk_cell BK293.out 1).trans rfl⟩ (fun hHeld => ?_)
      clear hK K
      refine norm_ (a' := ?_) ?_ ?_
      rotate_left
      ·show Act.put _ (some 22) _ = _
       simp only [Act.put, List.setIfInBounds_toArray, List.set_cons_zero, List.set_cons_succ, i64_w, i32_w]
       rfl
      refine pure_ (i := 13) (N := some 23) (v := ?_) (a' := ?_) #[true, true, true, true, true, true, true, true, true, true, true, true, true, true, false, false, false, false, false, false, false, false, false, false, false, false, false, false, false, false, false, false, false, false, false, false] rfl rfl (any_of HT_.out (by kernel_rfl)) (fun _ _ _ h => h) (Or.inl ⟨by rfl, ?_⟩) ?_ ?_
      rotate_left
      ·intro w'
       go_simp
       with_reducible rfl
      rotate_left
      ·simp only [Act.put, List.setIfInBounds_toArray, List.set_cons_zero, List.set_cons_succ, i64_w, i32_w]
       rfl
      refine pure_ (i := 14) (N := some 24) (v := ?_) (a' := ?_) #[true, true, true, true, true, true, true, true, true, true, true, true, true, true, true, false, false, false, false, false, false, false, false, false, false, false, false, false, false, false, false, false, false, false, false, false] rfl rfl (any_of HT_.out (by kernel_rfl)) (fun _ _ _ h => h) (Or.inl ⟨by rfl, ?_⟩) ?_ ?_
      rotate_left
      ·intro w'
       go_simp
       with_reducible rfl
      rotate_left
      ·simp only [Act.put, List.setIfInBounds_toArray, List.set_cons_zero, List.set_cons_succ, i64_w, i32_w]
       rfl
      refine pure_ (i := 16) (N := some 26) (v := ?_) (a' := ?_) #[true, true, true, true, true, true, true, true, true, true, true, true, true, true, true, false, true, false, false, false, false, false, false, false, false, false, false, false, false, false, false, false, false, false, false, false] rfl rfl (any_of HT_.out (by kernel_rfl)) (fun _ _ _ h => h) (Or.inl ⟨by rfl, ?_⟩) ?_ ?_
      rotate_left
      ·intro w'
       go_simp
       with_reducible rfl
      rotate_left
      ·simp only [Act.put, List.setIfInBounds_toArray, List.set_cons_zero, List.set_cons_succ, i64_w, i32_w]
       rfl
      refine pure_ (i := 17) (N := some 27) (v := ?_) (a' := ?_) #[true, true, true, true, true, true, true, true, true, true, true, true, true, true, true, false, true, true, false, false, false, false, false, false, false, false, false, false, false, false, false, false, false, false, false, false] rfl rfl (any_of HT_.out (by kernel_rfl)) (fun _ _ _ h => h) (Or.inl ⟨by rfl, ?_⟩) ?_ ?_
      rotate_left
      ·intro w'
       go_simp
       with_reducible rfl
      rotate_left
      ·simp only [Act.put, List.setIfInBounds_toArray, List.set_cons_zero, List.set_cons_succ, i64_w, i32_w]
       rfl
      refine pure_ (i := 20) (N := some 30) (v := ?_) (a' := ?_) #[true, true, true, true, true, true, true, true, true, true, true, true, true, true, true, false, true, true, false, false, true, false, false, false, false, false, false, false, false, false, false, false, false, false, false, false] rfl rfl (any_of HT_.out (by kernel_rfl)) (fun _ _ _ h => h) (Or.inl ⟨by rfl, ?_⟩) ?_ ?_
      rotate_left
      ·intro w'
       go_simp
       with_reducible rfl
      rotate_left
      ·simp only [Act.put, List.setIfInBounds_toArray, List.set_cons_zero, List.set_cons_succ, i64_w, i32_w]
       rfl
      refine pure_ (i := 21) (N := some 31) (v := ?_) (a' := ?_) #[true, true, true, true, true, true, true, true, true, true, true, true, true, true, true, false, true, true, false, false, true, true, false, false, false, false, false, false, false, false, false, false, false, false, false, false] rfl rfl (any_of HT_.out (by kernel_rfl)) (fun _ _ _ h => h) (Or.inl ⟨by rfl, ?_⟩) ?_ ?_
      rotate_left
      ·intro w'
       go_simp
       with_reducible rfl
      rotate_left
      ·simp only [Act.put, List.setIfInBounds_toArray, List.set_cons_zero, List.set_cons_succ, i64_w, i32_w]
       rfl
      refine take_ (i := 15) (N := some 25) (v := ?_) (a' := ?_) #[true, true, true, true, true, true, true, true, true, true, true, true, true, true, true, true, true, true, false, false, true, true, false, false, false, false, false, false, false, false, false, false, false, false, false, false] rfl rfl (take_ofW HT_.out HW_.out (by kernel_rfl)) (fun _ _ _ h => h) (Or.inl ⟨by rfl, ?_⟩) hHeld ?_ ?_
      rotate_left
      ·rintro w' ⟨s0, s1⟩
       go_simp
       with_reducible rfl
      rotate_left
      ·simp only [Act.put, List.setIfInBounds_toArray, List.set_cons_zero, List.set_cons_succ, i64_w, i32_w]
       rfl
      refine take_ (i := 19) (N := some 29) (v := ?_) (a' := ?_) #[true, true, true, true, true, true, true, true, true, true, true, true, true, true, true, true, true, true, false, true, true, true, false, false, false, false, false, false, false, false, false, false, false, false, false, false] rfl rfl (take_ofW HT_.out HW_.out (by kernel_rfl)) (fun _ _ _ h => h) (Or.inl ⟨by rfl, ?_⟩) hHeld ?_ ?_
      rotate_left
      ·rintro w' ⟨s0, s1⟩
       go_simp
       with_reducible rfl
      rotate_left
      ·simp only [Act.put, List.setIfInBounds_toArray, List.set_cons_zero, List.set_cons_succ, i64_w, i32_w]
       rfl
      refine one_ (i := 18) (N := some 28) #[true, true, true, true, true, true, true, true, true, true, true, true, true, true, true, true, true, true, true, true, true, true, false, false, false, false, false, false, false, false, false, false, false, false, false, false] rfl rfl (one_of HT_.out (by kernel_rfl)) (by decide) (fun K hK => ?_)
      refine goes_ Try.func24 (by kernel_rfl) rfl #[.agg #[.int .i64 a0_0, .slice A0_1 l0_1.length c0_1], .int .i64 a1, .int .i64 a2] (by rfl) rfl rfl (by (try simp only [List.map_toArray, List.map_cons, List.map_nil]); first | done | rfl | (simp only [List.length_drop, List.length_take]; rfl)) ?_
      with_reducible refine (topo_Path.calls k a0_0 _ _ l0_1 a1 a2 t310 _ ?side1 ?side2 A19.out).mono ?_
      (case side1 => repeat (first | exact (Kd.C_below HR0_1.out (by exact HB.out)) | (with_reducible refine Kd.C_alloc ?_ _) | (with_reducible refine Kd.C_drewN ?_ _) | (with_reducible refine Kd.C_drew ?_)))
      (case side2 => exact HC0_1.out)
      rintro e w39 ⟨v311, rfl, ho0, hb⟩
      refine ⟨_, rfl, ?_⟩
      have n0_ := Aside0.mk (Kd.R_elder' (by exact HO298.out) (Kd.R_base ho0) hb)
      have n1_ := Aside0.mk (Kd.R_elder' (by exact HO301.out) (Kd.R_base ho0) hb)
      have n2_ := Aside0.mk (Kd.R_elder' (by exact HO305.out) (Kd.R_base ho0) hb)
      have n3_ := Aside0.mk (Kd.R_elder' (by exact HO308.out) (Kd.R_base ho0) hb)
      have n4_ := Aside0.mk (Kd.R_lower (Kd.R_new' (Kd.R_new' (Kd.R_new' (Kd.R_new' ho0 (Kd.R_lt (by (with_reducible repeat (first | apply Kd.R_alloc | apply Kd.R_drewN | apply Kd.R_drew)); exact HO298.out))) (Kd.R_lt (by (with_reducible repeat (first | apply Kd.R_alloc | apply Kd.R_drewN | apply Kd.R_drew)); exact HO301.out))) (Kd.R_lt (by (with_reducible repeat (first | apply Kd.R_alloc | apply Kd.R_drewN | apply Kd.R_drew)); exact HO305.out))) (Kd.R_lt (by (with_reducible repeat (first | apply Kd.R_alloc | apply Kd.R_drewN | apply Kd.R_drew)); exact HO308.out))) (below_size (by repeat (first | (with_reducible first | exact HB.out | apply below_alloc | apply pw_below_drewN | apply below_drew1 | refine below_set ?_ GE293.out) | exact HB.out))))
      have n5_ := Aside0.mk (blk_below (g := gb293) (o := .cells #[.int .i64 a0_0, .slice A0_1 l0_1.length c0_1] 24 (0, 0)) (by exact BK293.out) hb)
      have n6_ := Aside0.mk (below_step (by repeat (first | (with_reducible first | exact HB.out | apply below_alloc | apply pw_below_drewN | apply below_drew1 | refine below_set ?_ GE293.out) | exact HB.out)) hb)
      clear HO298
      clear HO301
      clear HO305
      clear HO308
      clear BK293
      clear HB
      have HO298 := n0_
      have HO301 := n1_
      have HO305 := n2_
      have HO308 := n3_
      have HO312 := n4_
      have BK293 := n5_
      have HB := n6_
      clear n0_ n1_ n2_ n3_ n4_ n5_ n6_





      refine hK.out _ _ ⟨(blk_cell BK293.out 0).trans rfl, (blk_cell BK293.out 1).trans rfl⟩ (fun hHeld => ?_)
      clear hK K
      refine norm_ (a' := ?_) ?_ ?_
      rotate_left
      ·show Act.put _ (some 28) _ = _
       simp only [Act.put, List.setIfInBounds_toArray, List.set_cons_zero, List.set_cons_succ, i64_w, i32_w]
       rfl
      refine one_ (i := 22) (N := some 32) #[true, true, true, true, true, true, true, true, true, true, true, true, true, true, true, true, true, true, true, true, true, true, true, false, false, false, false, false, false, false, false, false, false, false, false, false] rfl rfl (one_of HT_.out (by kernel_rfl)) (by decide) (fun K hK => ?_)
      refine goes_ Try.func25 (by kernel_rfl) rfl #[.agg #[.int .i64 a0_0, .slice A0_1 l0_1.length c0_1], .int .i64 a1, .int .i64 a2] (by rfl) rfl rfl (by (try simp only [List.map_toArray, List.map_cons, List.map_nil]); first | done | rfl | (simp only [List.length_drop, List.length_take]; rfl)) ?_
      with_reducible refine (timesyncref18_Path.calls k a0_0 _ _ l0_1 a1 a2 t313 _ ?side1 ?side2 A20.out).mono ?_
      (case side1 => exact (Kd.C_below HR0_1.out HB.out))
      (case side2 => exact HC0_1.out)
      rintro e w40 ⟨v314, rfl, ho0, hb⟩
      refine ⟨_, rfl, ?_⟩
      have n0_ := Aside0.mk (Kd.R_elder' (by exact HO298.out) (Kd.R_base ho0) hb)
      have n1_ := Aside0.mk (Kd.R_elder' (by exact HO301.out) (Kd.R_base ho0) hb)
      have n2_ := Aside0.mk (Kd.R_elder' (by exact HO305.out) (Kd.R_base ho0) hb)
      have n3_ := Aside0.mk (Kd.R_elder' (by exact HO308.out) (Kd.R_base ho0) hb)
      have n4_ := Aside0.mk (Kd.R_elder' (by exact HO312.out) (Kd.R_base ho0) hb)
      have n5_ := Aside0.mk (Kd.R_lower (Kd.R_new' (Kd.R_new' (Kd.R_new' (Kd.R_new' (Kd.R_new' ho0 (Kd.R_lt (by exact HO298.out))) (Kd.R_lt (by exact HO301.out))) (Kd.R_lt (by exact HO305.out))) (Kd.R_lt (by exact HO308.out))) (Kd.R_lt (by exact HO312.out))) (below_size (by exact HB.out)))
      have n6_ := Aside0.mk (blk_below (g := gb293) (o := .cells #[.int .i64 a0_0, .slice A0_1 l0_1.length c0_1] 24 (0, 0)) (by exact BK293.out) hb)
      have n7_ := Aside0.mk (below_step (by exact HB.out) hb)
      clear HO298
      clear HO301
      clear HO305
      clear HO308
      clear HO312
      clear BK293
      clear HB
      have HO298 := n0_
      have HO301 := n1_
      have HO305 := n2_
      have HO308 := n3_
      have HO312 := n4_
      have HO315 := n5_
      have BK293 := n6_
      have HB := n7_
      clear n0_ n1_ n2_ n3_ n4_ n5_ n6_ n7_





      obtain ⟨Ao41, co41, eo41⟩ := Kd.R_slice HO312.out
      (first | subst eo41 | (injection eo41 with f1_ f2_ f3_; have f4_ := f1_.symm; have f5_ := f3_.symm; clear f1_ f2_ f3_; subst f4_; subst f5_))
      obtain ⟨Ao42, co42, eo42⟩ := Kd.R_slice HO315.out
      (first | subst eo42 | (injection eo42 with f1_ f2_ f3_; have f4_ := f1_.symm; have f5_ := f3_.symm; clear f1_ f2_ f3_; subst f4_; subst f5_))
      refine hK.out _ _ ⟨(blk_cell BK293.out 0).trans rfl, (blk_cell BK293.out 1).trans rfl⟩ (fun hHeld => ?_)
      clear hK K
      refine norm_ (a' := ?_) ?_ ?_
      rotate_left
      ·show Act.put _ (some 32) _ = _
       simp only [Act.put, List.setIfInBounds_toArray, List.set_cons_zero, List.set_cons_succ, i64_w, i32_w]
       rfl
      refine one_ (i := 23) (N := some 33) #[true, true, true, true, true, true, true, true, true, true, true, true, true, true, true, true, true, true, true, true, true, true, true, true, false, false, false, false, false, false, false, false, false, false, false, false] rfl rfl (one_of HT_.out (by kernel_rfl)) (by decide) (fun K hK => ?_)
      refine goes_ Try.func19 (by kernel_rfl) rfl #[.slice Ao41 t310.length co41, .slice Ao42 t313.length co42] (by rfl) rfl rfl (by (try simp only [List.map_toArray, List.map_cons, List.map_nil]); first | done | rfl | (simp only [List.length_drop, List.length_take]; rfl)) ?_
      with_reducible refine (slices_Equal_int_int.calls k _ _ t310 _ _ t313 true _ ?side1 ?side2 ?side3 ?side4 A21.out).mono ?_
      (case side1 => repeat (first | exact (Kd.R_reads' HO312.out).2.2 | (with_reducible refine Kd.C_alloc ?_ _) | (with_reducible refine Kd.C_drewN ?_ _) | (with_reducible refine Kd.C_drew ?_)))
      (case side2 => exact (Kd.R_reads' HO312.out).2.1)
      (case side3 => repeat (first | exact (Kd.R_reads' HO315.out).2.2 | (with_reducible refine Kd.C_alloc ?_ _) | (with_reducible refine Kd.C_drewN ?_ _) | (with_reducible refine Kd.C_drew ?_)))
      (case side4 => exact (Kd.R_reads' HO315.out).2.1)
      rintro e w' ⟨rfl, ⟨nd, rfl⟩⟩
      refine ⟨_, rfl, ?_⟩
      refine hK.out _ _ ⟨(blk_cell BK293.out 0).trans rfl, (blk_cell BK293.out 1).trans rfl⟩ (fun hHeld => ?_)
      clear hK K
      refine norm_ (a' := ?_) ?_ ?_
      rotate_left
      ·show Act.put _ (some 33) _ = _
       simp only [Act.put, List.setIfInBounds_toArray, List.set_cons_zero, List.set_cons_succ, i64_w, i32_w]
       rfl
      refine pure_ (i := 24) (N := some 34) (v := ?_) (a' := ?_) #[true, true, true, true, true, true, true, true, true, true, true, true, true, true, true, true, true, true, true, true, true, true, true, true, true, false, false, false, false, false, false, false, false, false, false, false] rfl rfl (any_of HT_.out (by kernel_rfl)) (fun _ _ _ h => h) (Or.inl ⟨by rfl, ?_⟩) ?_ ?_
      rotate_left
      ·intro w'
       go_simp
       with_reducible rfl
      rotate_left
      ·simp only [Act.put, List.setIfInBounds_toArray, List.set_cons_zero, List.set_cons_succ, i64_w, i32_w]
       rfl
      refine pure_ (i := 25) (N := some 35) (v := ?_) (a' := ?_) #[true, true, true, true, true, true, true, true, true, true, true, true, true, true, true, true, true, true, true, true, true, true, true, true, true, true, false, false, false, false, false, false, false, false, false, false] rfl rfl (any_of HT_.out (by kernel_rfl)) (fun _ _ _ h => h) (Or.inl ⟨by rfl, ?_⟩) ?_ ?_
      rotate_left
      ·intro w'
       go_simp
       with_reducible rfl
      rotate_left
      ·simp only [Act.put, List.setIfInBounds_toArray, List.set_cons_zero, List.set_cons_succ, i64_w, i32_w]
       rfl
      refine take_ (i := 26) (N := some 36) (v := ?_) (a' := ?_) #[true, true, true, true, true, true, true, true, true, true, true, true, true, true, true, true, true, true, true, true, true, true, true, true, true, true, true, false, false, false, false, false, false, false, false, false] rfl rfl (take_ofW HT_.out HW_.out (by kernel_rfl)) (fun _ _ _ h => h) (Or.inl ⟨by rfl, ?_⟩) hHeld ?_ ?_
      rotate_left
      ·rintro w' ⟨s0, s1⟩
       go_simp
       with_reducible rfl
      rotate_left
      ·simp only [Act.put, List.setIfInBounds_toArray, List.set_cons_zero, List.set_cons_succ, i64_w, i32_w]
       rfl
      refine take_ (i := 28) (N := some 38) (v := ?_) (a' := ?_) #[true, true, true, true, true, true, true, true, true, true, true, true, true, true, true, true, true, true, true, true, true, true, true, true, true, true, true, false, true, false, false, false, false, false, false, false] rfl rfl (take_ofW HT_.out HW_.out (by kernel_rfl)) (fun _ _ _ h => h) (Or.inl ⟨by rfl, ?_⟩) hHeld ?_ ?_
      rotate_left
      ·rintro w' ⟨s0, s1⟩
       go_simp
       with_reducible rfl
      rotate_left
      ·simp only [Act.put, List.setIfInBounds_toArray, List.set_cons_zero, List.set_cons_succ, i64_w, i32_w]
       rfl
      refine one_ (i := 27) (N := some 37) #[true, true, true, true, true, true, true, true, true, true, true, true, true, true, true, true, true, true, true, true, true, true, true, true, true, true, true, true, true, false, false, false, false, false, false, false] rfl rfl (one_of HT_.out (by kernel_rfl)) (by decide) (fun K hK => ?_)
      refine goes_ Try.func26 (by kernel_rfl) rfl #[.agg #[.int .i64 a0_0, .slice A0_1 l0_1.length c0_1]] (by rfl) rfl rfl (by (try simp only [List.map_toArray, List.map_cons, List.map_nil]); first | done | rfl | (simp only [List.length_drop, List.length_take]; rfl)) ?_
      with_reducible refine (topo_Diameter.calls k a0_0 _ _ l0_1 t317 _ ?side1 ?side2 A23.out).mono ?_
      (case side1 => repeat (first | exact (Kd.C_below HR0_1.out (by exact HB.out)) | (with_reducible refine Kd.C_alloc ?_ _) | (with_reducible refine Kd.C_drewN ?_ _) | (with_reducible refine Kd.C_drew ?_)))
      (case side2 => exact HC0_1.out)
      rintro e w43 ⟨rfl, hb⟩
      refine ⟨_, rfl, ?_⟩
      have n0_ := Aside0.mk (Kd.R_below (by exact HO298.out) hb)
      have n1_ := Aside0.mk (Kd.R_below (by exact HO301.out) hb)
      have n2_ := Aside0.mk (Kd.R_below (by exact HO305.out) hb)
      have n3_ := Aside0.mk (Kd.R_below (by exact HO308.out) hb)
      have n4_ := Aside0.mk (Kd.R_below (by exact HO312.out) hb)
      have n5_ := Aside0.mk (Kd.R_below (by exact HO315.out) hb)
      have n6_ := Aside0.mk (blk_below (g := gb293) (o := .cells #[.int .i64 a0_0, .slice A0_1 l0_1.length c0_1] 24 (0, 0)) (by exact BK293.out) hb)
      have n7_ := Aside0.mk (below_step (by repeat (first | (with_reducible first | exact HB.out | apply below_alloc | apply pw_below_drewN | apply below_drew1 | refine below_set ?_ GE293.out) | exact HB.out)) hb)
      clear HO298
      clear HO301
      clear HO305
      clear HO308
      clear HO312
      clear HO315
      clear BK293
      clear HB
      have HO298 := n0_
      have HO301 := n1_
      have HO305 := n2_
      have HO308 := n3_
      have HO312 := n4_
      have HO315 := n5_
      have BK293 := n6_
      have HB := n7_
      clear n0_ n1_ n2_ n3_ n4_ n5_ n6_ n7_




      refine hK.out _ _ ⟨(blk_cell BK293.out 0).trans rfl, (blk_cell BK293.out 1).trans rfl⟩ (fun hHeld => ?_)
      clear hK K
      refine norm_ (a' := ?_) ?_ ?_
      rotate_left
      ·show Act.put _ (some 37) _ = _
       simp only [Act.put, List.setIfInBounds_toArray, List.set_cons_zero, List.set_cons_succ, i64_w, i32_w]
       rfl
      refine one_ (i := 29) (N := some 39) #[true, true, true, true, true, true, true, true, true, true, true, true, true, true, true, true, true, true, true, true, true, true, true, true, true, true, true, true, true, true, false, false, false, false, false, false] rfl rfl (one_of HT_.out (by kernel_rfl)) (by decide) (fun K hK => ?_)
      refine goes_ Try.func27 (by kernel_rfl) rfl #[.agg #[.int .i64 a0_0, .slice A0_1 l0_1.length c0_1]] (by rfl) rfl rfl (by (try simp only [List.map_toArray, List.map_cons, List.map_nil]); first | done | rfl | (simp only [List.length_drop, List.length_take]; rfl)) ?_
      with_reducible refine (timesyncref18_Diameter.calls k a0_0 _ _ l0_1 t318 _ ?side1 ?side2 A24.out).mono ?_
      (case side1 => exact (Kd.C_below HR0_1.out HB.out))
      (case side2 => exact HC0_1.out)
      rintro e w44 ⟨rfl, hb⟩
      refine ⟨_, rfl, ?_⟩
      have n0_ := Aside0.mk (Kd.R_below (by exact HO298.out) hb)
      have n1_ := Aside0.mk (Kd.R_below (by exact HO301.out) hb)
      have n2_ := Aside0.mk (Kd.R_below (by exact HO305.out) hb)
      have n3_ := Aside0.mk (Kd.R_below (by exact HO308.out) hb)
      have n4_ := Aside0.mk (Kd.R_below (by exact HO312.out) hb)
      have n5_ := Aside0.mk (Kd.R_below (by exact HO315.out) hb)
      have n6_ := Aside0.mk (blk_below (g := gb293) (o := .cells #[.int .i64 a0_0, .slice A0_1 l0_1.length c0_1] 24 (0, 0)) (by exact BK293.out) hb)
      have n7_ := Aside0.mk (below_step (by exact HB.out) hb)
      clear HO298
      clear HO301
      clear HO305
      clear HO308
      clear HO312
      clear HO315
      clear BK293
      clear HB
      have HO298 := n0_
      have HO301 := n1_
      have HO305 := n2_
      have HO308 := n3_
      have HO312 := n4_
      have HO315 := n5_
      have BK293 := n6_
      have HB := n7_
      clear n0_ n1_ n2_ n3_ n4_ n5_ n6_ n7_




      refine hK.out _ _ ⟨(blk_cell BK293.out 0).trans rfl, (blk_cell BK293.out 1).trans rfl⟩ (fun hHeld => ?_)
      clear hK K
      refine norm_ (a' := ?_) ?_ ?_
      rotate_left
      ·show Act.put _ (some 39) _ = _
       simp only [Act.put, List.setIfInBounds_toArray, List.set_cons_zero, List.set_cons_succ, i64_w, i32_w]
       rfl
      refine pure_ (i := 30) (N := some 40) (v := ?_) (a' := ?_) #[true, true, true, true, true, true, true, true, true, true, true, true, true, true, true, true, true, true, true, true, true, true, true, true, true, true, true, true, true, true, true, false, false, false, false, false] rfl rfl (any_of HT_.out (by kernel_rfl)) (fun _ _ _ h => h) (Or.inl ⟨by rfl, ?_⟩) ?_ ?_
      rotate_left
      ·intro w'
       go_simp
       with_reducible rfl
      rotate_left
      ·simp only [Act.put, List.setIfInBounds_toArray, List.set_cons_zero, List.set_cons_succ, i64_w, i32_w]
       rfl
      refine pure_ (i := 31) (N := some 41) (v := ?_) (a' := ?_) #[true, true, true, true, true, true, true, true, true, true, true, true, true, true, true, true, true, true, true, true, true, true, true, true, true, true, true, true, true, true, true, true, false, false, false, false] rfl rfl (any_of HT_.out (by kernel_rfl)) (fun _ _ _ h => h) (Or.inl ⟨by rfl, ?_⟩) ?_ ?_
      rotate_left
      ·intro w'
       go_simp
       with_reducible rfl
      rotate_left
      ·simp only [Act.put, List.setIfInBounds_toArray, List.set_cons_zero, List.set_cons_succ, i64_w, i32_w]
       rfl
      refine pure_ (i := 32) (N := some 42) (v := ?_) (a' := ?_) #[true, true, true, true, true, true, true, true, true, true, true, true, true, true, true, true, true, true, true, true, true, true, true, true, true, true, true, true, true, true, true, true, true, false, false, false] rfl rfl (any_of HT_.out (by kernel_rfl)) (fun _ _ _ h => h) (Or.inl ⟨by rfl, ?_⟩) ?_ ?_
      rotate_left
      ·intro w'
       go_simp
       with_reducible rfl
      rotate_left
      ·simp only [Act.put, List.setIfInBounds_toArray, List.set_cons_zero, List.set_cons_succ, i64_w, i32_w]
       rfl
      refine one_ (i := 33) (N := some 43) #[true, true, true, true, true, true, true, true, true, true, true, true, true, true, true, true, true, true, true, true, true, true, true, true, true, true, true, true, true, true, true, true, true, true, false, false] rfl rfl (one_of HT_.out (by kernel_rfl)) (by decide) (fun K hK => ?_)
      refine goes_ Try.func16 (by kernel_rfl) rfl #[] (by rfl) rfl rfl (by (try simp only [List.map_toArray, List.map_cons, List.map_nil]); first | done | rfl | (simp only [List.length_drop, List.length_take]; rfl)) ?_
      with_reducible refine (timesynclaw18_awake.calls k  t319 _ A26.out).mono ?_
      rintro e w45 ⟨rfl, hb⟩
      refine ⟨_, rfl, ?_⟩
      have n0_ := Aside0.mk (Kd.R_below (by exact HO298.out) hb)
      have n1_ := Aside0.mk (Kd.R_below (by exact HO301.out) hb)
      have n2_ := Aside0.mk (Kd.R_below (by exact HO305.out) hb)
      have n3_ := Aside0.mk (Kd.R_below (by exact HO308.out) hb)
      have n4_ := Aside0.mk (Kd.R_below (by exact HO312.out) hb)
      have n5_ := Aside0.mk (Kd.R_below (by exact HO315.out) hb)
      have n6_ := Aside0.mk (blk_below (g := gb293) (o := .cells #[.int .i64 a0_0, .slice A0_1 l0_1.length c0_1] 24 (0, 0)) (by exact BK293.out) hb)
      have n7_ := Aside0.mk (below_step (by exact HB.out) hb)
      clear HO298
      clear HO301
      clear HO305
      clear HO308
      clear HO312
      clear HO315
      clear BK293
      clear HB
      have HO298 := n0_
      have HO301 := n1_
      have HO305 := n2_
      have HO308 := n3_
      have HO312 := n4_
      have HO315 := n5_
      have BK293 := n6_
      have HB := n7_
      clear n0_ n1_ n2_ n3_ n4_ n5_ n6_ n7_




      refine hK.out _ _ ⟨(blk_cell BK293.out 0).trans rfl, (blk_cell BK293.out 1).trans rfl⟩ (fun hHeld => ?_)
      clear hK K
      refine norm_ (a' := ?_) ?_ ?_
      rotate_left
      ·show Act.put _ (some 43) _ = _
       simp only [Act.put, List.setIfInBounds_toArray, List.set_cons_zero, List.set_cons_succ, i64_w, i32_w]
       rfl
      refine pure_ (i := 34) (N := some 44) (v := ?_) (a' := ?_) #[true, true, true, true, true, true, true, true, true, true, true, true, true, true, true, true, true, true, true, true, true, true, true, true, true, true, true, true, true, true, true, true, true, true, true, false] rfl rfl (any_of HT_.out (by kernel_rfl)) (fun _ _ _ h => h) (Or.inl ⟨by rfl, ?_⟩) ?_ ?_
      rotate_left
      ·intro w'
       go_simp
       with_reducible rfl
      rotate_left
      ·simp only [Act.put, List.setIfInBounds_toArray, List.set_cons_zero, List.set_cons_succ, i64_w, i32_w]
       rfl
      refine pure_ (i := 35) (N := some 6) (v := ?_) (a' := ?_) #[true, true, true, true, true, true, true, true, true, true, true, true, true, true, true, true, true, true, true, true, true, true, true, true, true, true, true, true, true, true, true, true, true, true, true, true] rfl rfl (any_of HT_.out (by kernel_rfl)) (fun _ _ _ h => h) (Or.inl ⟨by rfl, ?_⟩) ?_ ?_
      rotate_left
      ·intro w'
       go_simp
       with_reducible rfl
      rotate_left
      ·simp only [Act.put, List.setIfInBounds_toArray, List.set_cons_zero, List.set_cons_succ, i64_w, i32_w]
       rfl
      refine done_ (done_of HT_.out (by kernel_rfl)) ?_
      try go_wp2
      go_ret
      exact ⟨by first | rfl | (simp [errW_none, errW_some] <;> rfl) | (simp [*, errW_none, errW_some] <;> rfl), by exact HB.out⟩
     ·rw [if_neg c25] at H
      have c25b0 : (t317 == t318) = false := beq_eq_false_iff_ne.mpr c25
      have c25b1 : (t317 != t318) = true := bne_iff_ne.mpr c25
      exact absurd H (by simp)
    ·replace c22 := Bool.eq_false_iff.mpr c22
     subst c22
     have H1 : (none) = some r := by rw [if_neg (show ¬ (false = true) by decide)] at H; exact H
     clear H
     have H := H1
     clear H1
     exact absurd H (by simp)
   ·replace c18 := Bool.eq_false_iff.mpr c18
    subst c18
    have H1 : (none) = some r := by rw [if_neg (show ¬ (false = true) by decide)] at H; exact H
    clear H
    have H := H1
    clear H1
    exact absurd H (by simp)
  ·replace c14 := Bool.eq_false_iff.mpr c14
   subst c14
   have H1 : (none) = some r := by rw [if_neg (show ¬ (false = true) by decide)] at H; exact H
   clear H
   have H := H1
   clear H1
   exact absurd H (by simp)

end Go.Proofs.Ythkpnkmbmlbefaa.X

namespace Go.Proofs.Ythkpnkmbmlbefaa.X
open Go.RowKit Go.Proofs.YthkpnkmbmlbefaaW.PrintWords Go.Proofs.YthkpnkmbmlbefaaW.PrintLast Go.Proofs.YthkpnkmbmlbefaaW.PrintMore
attribute [local go_sem] max2_int min2_int max_two min_two max_three min_three max_four min_four   -- for this text's walks alone
set_option linter.unusedVariables false
set_option linter.unusedSimpArgs false

def WFi64 (x : Int) : Prop := (Lit.int .i64 x).wf = true
def WF37 (x : S37) : Prop := WFi64 x.f0 ∧ WFi64 x.f1 ∧ WFi64 x.f2 ∧ WFi64 x.f3
def WFL37 (x : List (S37)) : Prop := x.length ≤ 9223372036854775807 ∧ ∀ y ∈ x, WF37 y
def WF24 (x : S24) : Prop := WFi64 x.f0 ∧ WFL37 x.f1
end Go.Proofs.Ythkpnkmbmlbefaa.X

/- Plain words of this seat: rounds, wrapped numbers, lists by index; the check of graphs: the program's and the reference's tell the same. -/
namespace Go.Proofs.Ythkpnkmbmlbefaa.PB
open Go.RowKit Go.Proofs.Ythkpnkmbmlbefaa.X Go.Proofs.YthkpnkmbmlbefaaW.PrintWords Go.Proofs.YthkpnkmbmlbefaaW.PrintLast

section
variable {α β : Type} {f g h : Nat → Option α} {r : α} {c : Prop} [Decidable c]
theorem Ev.pos (hc : c) (h : Ev f r) : Ev (fun n => if c then f n else g n) r := Ev.congr (fun _ => if_pos hc) h
theorem Ev.neg (hc : ¬ c) (h : Ev g r) : Ev (fun n => if c then f n else g n) r := Ev.congr (fun _ => if_neg hc) h
theorem Ev.ite_ (h1 : c → Ev f r) (h2 : ¬ c → Ev g r) : Ev (fun n => if c then f n else g n) r := by
  by_cases hc : c
  · exact Ev.pos hc (h1 hc)
  · exact Ev.neg hc (h2 hc)
theorem Ev.bind' {g : Nat → Option α} {f : Nat → α → Option β} {r : β} (a : α) (h : Ev g a) (k : Ev (fun n => f n a) r) : Ev (fun n => (g n).bind (f n)) r := Ev.bind h k
theorem Ev.some_bind {f : Nat → α → Option β} {a : α} {r : β} (k : Ev (fun n => f n a) r) : Ev (fun n => (some a).bind (f n)) r := k
theorem Ev.const {x : Option α} (h : x = some r) : Ev (fun _ => x) r := ⟨0, fun _ _ => h⟩
theorem Ev.uniq {r r' : α} (h : Ev f r) (h' : Ev f r') : r = r' := by
  obtain ⟨K, h⟩ := h
  obtain ⟨K', h'⟩ := h'
  have h1 := h (max K K') (by omega)
  have h2 := h' (max K K') (by omega)
  rw [h1] at h2
  exact Option.some.inj h2
end
theorem wrap_id {x : Int} (h0 : -9223372036854775808 ≤ x) (h1 : x < 9223372036854775808) : wrap64 x = x := by
  unfold wrap64; omega
theorem wrap_nat {i : Nat} (h : i < 9223372036854775807) : wrap64 ((i : Int) + 1) = ((i + 1 : Nat) : Int) := by
  rw [wrap_id (by omega) (by omega)]; rfl
theorem rd37 (l : List S37) (i : Nat) : rd_T37 l (i : Int) = l.getD i z37 := by simp [rd_T37]
theorem rdI (l : List Int) (i : Nat) : rd l (i : Int) = l.getD i 0 := by simp [rd]
theorem rdL3 (l : List (List Int)) (i : Nat) : rd_L3 l (i : Int) = l.getD i [] := by simp [rd_L3]

/-! ### Rows of numbers alike -/
theorem eq_from (x y : List Int) (hx : x.length < 9223372036854775807) (he : x.length = y.length) : ∀ d i, i + d = x.length → Ev (fun k => slices_Equal_int_int.l0 k x y x.length i) (decide (x.drop i = y.drop i)) := by
  intro d
  induction d with
  | zero =>
    intro i hi
    refine Ev.step (fun k => by rw [slices_Equal_int_int.l0]) ?_
    refine Ev.neg (by omega) (Ev.const ?_)
    rw [List.drop_of_length_le (by omega), List.drop_of_length_le (by omega)]
    simp
  | succ d ih =>
    intro i hi
    refine Ev.step (fun k => by rw [slices_Equal_int_int.l0]) ?_
    refine Ev.pos (by omega) (Ev.pos (by omega) (Ev.pos (by omega) (Ev.pos (by omega) ?_)))
    rw [rdI, rdI]
    have e1 : x.drop i = x.getD i 0 :: x.drop (i + 1) := by
      rw [List.drop_eq_getElem_cons (by omega)]; simp [List.getD, show i < x.length by omega]
    have e2 : y.drop i = y.getD i 0 :: y.drop (i + 1) := by
      rw [List.drop_eq_getElem_cons (by omega)]; simp [List.getD, show i < y.length by omega]
    refine Ev.ite_ (fun h => ?_) (fun h => Ev.const ?_)
    · rw [wrap_nat (by omega), e1, e2]
      have := ih (i + 1) (by omega)
      rw [h]
      simp only [List.cons.injEq, true_and]
      exact this
    · rw [e1, e2]
      have : ¬ (x.getD i 0 :: x.drop (i + 1) = y.getD i 0 :: y.drop (i + 1)) := fun q => h (by injection q)
      simp only [this, decide_false]
theorem eq_ints (x y : List Int) (hx : x.length < 9223372036854775807) : Ev (fun k => slices_Equal_int_int.f k x y) (decide (x = y)) := by
  unfold slices_Equal_int_int.f
  refine Ev.ite_ (fun h => ?_) (fun h => Ev.const ?_)
  · have he : x.length = y.length := by omega
    have := eq_from x y hx he x.length 0 (by omega)
    simpa using this
  · have : ¬ x = y := fun e => h (by rw [e])
    simp [this]

/-! ### Check -/
/-- An edge with its ends within the limits. -/
def OkE (a : Int) (e : S37) : Prop := 0 ≤ e.f0 ∧ e.f0 < a ∧ 0 ≤ e.f2 ∧ e.f2 < a ∧ 1 ≤ e.f1 ∧ e.f1 ≤ 8 ∧ 1 ≤ e.f3 ∧ e.f3 ≤ 8
instance (a : Int) (e : S37) : Decidable (OkE a e) := by unfold OkE; infer_instance
def hasEnd (e : S37) (q : Int × Int) : Prop := (e.f0 = q.1 ∧ e.f1 = q.2) ∨ (e.f2 = q.1 ∧ e.f3 = q.2)
instance (e : S37) (q : Int × Int) : Decidable (hasEnd e q) := by unfold hasEnd; infer_instance
/-- One of the n edges from j on has this end. -/
def usedFrom (l : List S37) (q : Int × Int) : Nat → Nat → Bool
  | 0, _ => false
  | d + 1, j => if hasEnd (l.getD j z37) q then true else usedFrom l q d (j + 1)
def chkFrom (a : Int) (l : List S37) : Nat → Nat → Int
  | 0, _ => 0
  | d + 1, i => if OkE a (l.getD i z37) then (if (l.getD i z37).f0 = (l.getD i z37).f2 then 18 else if usedFrom l ((l.getD i z37).f0, (l.getD i z37).f1) i 0 = true then 10 else if usedFrom l ((l.getD i z37).f2, (l.getD i z37).f3) i 0 = true then 10 else chkFrom a l d (i + 1)) else 3
def chk (a : Int) (l : List S37) : Int := if a < 1 ∨ a > 24 then 3 else if (l.length : Int) > 64 then 6 else chkFrom a l l.length 0
theorem usedFrom_iff (l : List S37) (q : Int × Int) : ∀ d j, usedFrom l q d j = true ↔ ∃ i, j ≤ i ∧ i < j + d ∧ hasEnd (l.getD i z37) q
  | 0, j => by simp [usedFrom]; omega
  | d + 1, j => by
    unfold usedFrom
    by_cases h : hasEnd (l.getD j z37) q
    · rw [if_pos h]
      exact ⟨fun _ => ⟨j, by omega, by omega, h⟩, fun _ => rfl⟩
    · rw [if_neg h, usedFrom_iff l q d (j + 1)]
      constructor
      · rintro ⟨i, h1, h2, h3⟩; exact ⟨i, by omega, by omega, h3⟩
      · rintro ⟨i, h1, h2, h3⟩
        refine ⟨i, ?_, by omega, h3⟩
        rcases Nat.lt_or_ge j i with q | q
        · omega
        · obtain rfl : i = j := by omega
          exact absurd h3 h
theorem ref_used (a : Int) (l : List S37) (hn : l.length ≤ 200) (n : Nat) (hnl : n ≤ l.length) (x y : Int) : ∀ d j, j + d = n → Ev (fun k => timesyncref18_used.l0 k n x y j a l) (usedFrom l (x, y) d j) := by
  intro d
  induction d with
  | zero =>
    intro j hj
    refine Ev.step (fun k => by rw [timesyncref18_used.l0]) ?_
    exact Ev.neg (by omega) (Ev.const rfl)
  | succ d ih =>
    intro j hj
    refine Ev.step (fun k => by rw [timesyncref18_used.l0]) ?_
    refine Ev.pos (by omega) (Ev.pos (by omega) (Ev.pos (by omega) ?_))
    rw [rd37, wrap_nat (by omega)]
    unfold usedFrom
    have next : ¬ hasEnd (l.getD j z37) (x, y) → Ev (fun k => timesyncref18_used.l0 k n x y ((j + 1 : Nat) : Int) a l) (if hasEnd (l.getD j z37) (x, y) then true else usedFrom l (x, y) d (j + 1)) := fun h => by
      rw [if_neg h]; exact ih (j + 1) (by omega)
    have second : ¬ ((l.getD j z37).f0 = x ∧ (l.getD j z37).f1 = y) → Ev (fun k => if (l.getD j z37).f2 = x then (if (l.getD j z37).f3 = y then some true else timesyncref18_used.l0 k n x y ((j + 1 : Nat) : Int) a l) else timesyncref18_used.l0 k n x y ((j + 1 : Nat) : Int) a l) (if hasEnd (l.getD j z37) (x, y) then true else usedFrom l (x, y) d (j + 1)) := fun h => by
      refine Ev.ite_ (fun h1 => Ev.ite_ (fun h2 => ?_) (fun h2 => next ?_)) (fun h1 => next ?_)
      · rw [if_pos (.inr ⟨h1, h2⟩)]; exact Ev.const rfl
      · rintro (q | q)
        · exact h q
        · exact h2 q.2
      · rintro (q | q)
        · exact h q
        · exact h1 q.1
    refine Ev.ite_ (fun h1 => Ev.ite_ (fun h2 => ?_) (fun h2 => second (fun q => h2 q.2))) (fun h1 => second (fun q => h1 q.1))
    rw [if_pos (.inl ⟨h1, h2⟩)]; exact Ev.const rfl
theorem ref_j2 (a : Int) (l : List S37) (hn : l.length ≤ 64) (i d : Nat) (hi : i < l.length) (bad : Bool) (hbad : bad = true ↔ ¬ OkE a (l.getD i z37)) (hnext : Ev (fun k => timesyncref18_Check.l0 k ((i + 1 : Nat) : Int) a l) (chkFrom a l d (i + 1))) :
    Ev (fun k => timesyncref18_Check.j2 k i bad a l (l.getD i z37).f0 (l.getD i z37).f1 (l.getD i z37).f2 (l.getD i z37).f3) (chkFrom a l (d + 1) i) := by
  refine Ev.step (fun k => by rw [timesyncref18_Check.j2]) ?_
  unfold chkFrom
  refine Ev.ite_ (fun h => ?_) (fun h => ?_)
  · rw [if_neg (hbad.1 h)]; exact Ev.const rfl
  · rw [if_pos (Decidable.not_not.1 (fun q => h (hbad.2 q)))]
    refine Ev.ite_ (fun h1 => ?_) (fun h1 => ?_)
    · rw [if_pos h1]; exact Ev.const rfl
    · rw [if_neg h1]
      have u1 := ref_used a l (by omega) i (by omega) (l.getD i z37).f0 (l.getD i z37).f1 i 0 (by omega)
      have u2 := ref_used a l (by omega) i (by omega) (l.getD i z37).f2 (l.getD i z37).f3 i 0 (by omega)
      refine Ev.bind' _ u1 (Ev.ite_ (fun h2 => ?_) (fun h2 => Ev.bind' _ u2 (Ev.ite_ (fun h3 => ?_) (fun h3 => ?_))))
      · rw [if_pos h2]; exact Ev.const rfl
      · rw [if_neg h2, if_pos h3]; exact Ev.const rfl
      · rw [if_neg h2, if_neg h3, wrap_nat (by omega)]; exact hnext
theorem ref_from (a : Int) (l : List S37) (hn : l.length ≤ 64) : ∀ d i, i + d = l.length → Ev (fun k => timesyncref18_Check.l0 k i a l) (chkFrom a l d i) := by
  intro d
  induction d with
  | zero =>
    intro i hi
    refine Ev.step (fun k => by rw [timesyncref18_Check.l0]) ?_
    exact Ev.neg (by omega) (Ev.const rfl)
  | succ d ih =>
    intro i hi
    have hnext := ih (i + 1) (by omega)
    have J : ∀ bad : Bool, (bad = true ↔ ¬ OkE a (l.getD i z37)) → _ := fun bad hb => ref_j2 a l hn i d (by omega) bad hb hnext
    refine Ev.step (fun k => by rw [timesyncref18_Check.l0]) ?_
    refine Ev.pos (by omega) (Ev.pos (by omega) ?_)
    rw [rd37]
    generalize l.getD i z37 = e at J ⊢
    unfold timesyncref18_isNode.f timesyncref18_isPort.f
    have T : ¬ OkE a e → Ev (fun k => timesyncref18_Check.j2 k i true a l e.f0 e.f1 e.f2 e.f3) (chkFrom a l (d + 1) i) := fun h => J true (by simp [h])
    have node : ∀ x : Int, (if x ≥ 0 then some (decide (x < a)) else some false) = some (decide (0 ≤ x ∧ x < a)) := fun x => by
      by_cases h : x ≥ 0
      · simp [h]
      · simp [h] <;> omega
    have port : ∀ x : Int, (if x ≥ 1 then some (decide (x ≤ 8)) else some false) = some (decide (1 ≤ x ∧ x ≤ 8)) := fun x => by
      by_cases h : x ≥ 1
      · simp [h]
      · simp [h] <;> omega
    simp only [node, port]
    refine Ev.some_bind (Ev.ite_ (fun h1 => Ev.some_bind (Ev.ite_ (fun h2 => Ev.some_bind (Ev.ite_ (fun h3 => Ev.some_bind ?_) (fun h3 => T ?_))) (fun h2 => T ?_))) (fun h1 => T ?_))
    · refine J _ ?_
      simp only [decide_eq_true_eq] at h1 h2 h3
      unfold OkE
      simp only [Bool.not_eq_true', decide_eq_false_iff_not]
      omega
    all_goals (simp only [decide_eq_true_eq] at *; unfold OkE; omega)
theorem ref_check (a : Int) (l : List S37) : Ev (fun k => timesyncref18_Check.f k a l) (chk a l) := by
  unfold timesyncref18_Check.f chk
  refine Ev.ite_ (fun h => ?_) (fun h => ?_)
  · rw [if_pos (.inl h)]
    refine Ev.step (fun k => by rw [timesyncref18_Check.j0]) ?_
    exact Ev.pos rfl (Ev.const rfl)
  · refine Ev.step (fun k => by rw [timesyncref18_Check.j0]) ?_
    refine Ev.ite_ (fun h1 => ?_) (fun h1 => ?_)
    · rw [if_pos (.inr (of_decide_eq_true h1))]; exact Ev.const rfl
    · rw [if_neg (by simp at h1; omega)]
      refine Ev.ite_ (fun h2 => ?_) (fun h2 => ?_)
      · rw [if_pos h2]; exact Ev.const rfl
      · rw [if_neg h2]; exact ref_from a l (by omega) l.length 0 (by omega)
theorem impl_from (a : Int) (l : List S37) (hn : l.length ≤ 64) : ∀ d i ks, i + d = l.length → (∀ q, q ∈ ks ↔ usedFrom l q i 0 = true) → Ev (fun k => topo_Check.l0 k l i a ks) (chkFrom a l d i) := by
  intro d
  induction d with
  | zero =>
    intro i ks hi _
    refine Ev.step (fun k => by rw [topo_Check.l0]) ?_
    exact Ev.neg (by omega) (Ev.const rfl)
  | succ d ih =>
    intro i ks hi hks
    refine Ev.step (fun k => by rw [topo_Check.l0]) ?_
    refine Ev.pos (by omega) (Ev.pos (by omega) (Ev.pos (by omega) ?_))
    rw [rd37]
    unfold topo_ends.f
    refine Ev.some_bind ?_
    dsimp only
    have hnext := ih (i + 1) ((((l.getD i z37).f2, (l.getD i z37).f3)) :: ((l.getD i z37).f0, (l.getD i z37).f1) :: ks) (by omega) (fun q => by
      rw [usedFrom_iff]
      simp only [List.mem_cons]
      rw [hks q, usedFrom_iff]
      constructor
      · rintro (h | h | ⟨j, h1, h2, h3⟩)
        · exact ⟨i, by omega, by omega, .inr (by rw [h]; exact ⟨rfl, rfl⟩)⟩
        · exact ⟨i, by omega, by omega, .inl (by rw [h]; exact ⟨rfl, rfl⟩)⟩
        · exact ⟨j, by omega, by omega, h3⟩
      · rintro ⟨j, h1, h2, h3⟩
        by_cases hj : j = i
        · subst hj
          rcases h3 with ⟨h3, h4⟩ | ⟨h3, h4⟩
          · exact .inr (.inl (by rw [h3, h4]))
          · exact .inl (by rw [h3, h4])
        · exact .inr (.inr ⟨j, h1, by omega, h3⟩))
    have k1 := hks ((l.getD i z37).f0, (l.getD i z37).f1)
    have k2 := hks ((l.getD i z37).f2, (l.getD i z37).f3)
    unfold chkFrom
    generalize l.getD i z37 = e at *
    have bad : ¬ OkE a e → ∀ r : Int, Ev (fun _ : Nat => some 3) (if OkE a e then r else 3) := fun h r => by rw [if_neg h]; exact Ev.const rfl
    refine Ev.step (fun k => by rw [topo_Check.l1]) ?_
    refine Ev.pos rfl (Ev.ite_ (fun h1 => bad (by unfold OkE; omega) _) (fun h1 => Ev.ite_ (fun h2 => bad (by unfold OkE; omega) _) (fun h2 => Ev.ite_ (fun h3 => bad (by unfold OkE; omega) _) (fun h3 => Ev.ite_ (fun h4 => bad (by unfold OkE; omega) _) (fun h4 => ?_)))))
    refine Ev.step (fun k => by rw [topo_Check.l1]) ?_
    refine Ev.neg (by decide) (Ev.pos rfl (Ev.ite_ (fun h5 => bad (by unfold OkE; omega) _) (fun h5 => Ev.ite_ (fun h6 => bad (by unfold OkE; omega) _) (fun h6 => Ev.ite_ (fun h7 => bad (by unfold OkE; omega) _) (fun h7 => Ev.ite_ (fun h8 => bad (by unfold OkE; omega) _) (fun h8 => ?_))))))
    refine Ev.step (fun k => by rw [topo_Check.l1]) ?_
    refine Ev.neg (by decide) (Ev.neg (by decide) ?_)
    rw [if_pos (by unfold OkE; omega)]
    refine Ev.ite_ (fun h9 => ?_) (fun h9 => ?_)
    · rw [if_pos h9]; exact Ev.const rfl
    · rw [if_neg h9]
      refine Ev.ite_ (fun h10 => ?_) (fun h10 => ?_)
      · rw [if_pos (k1.1 h10)]; exact Ev.const rfl
      · rw [if_neg (fun q => h10 (k1.2 q))]
        refine Ev.ite_ (fun h11 => ?_) (fun h11 => ?_)
        · rw [if_pos (k2.1 h11)]; exact Ev.const rfl
        · rw [if_neg (fun q => h11 (k2.2 q)), wrap_nat (by omega)]
          exact hnext
theorem impl_check (a : Int) (l : List S37) : Ev (fun k => topo_Check.f k a l) (chk a l) := by
  unfold topo_Check.f chk
  refine Ev.ite_ (fun h => ?_) (fun h => ?_)
  · rw [if_pos (.inl h)]
    refine Ev.step (fun k => by rw [topo_Check.j0]) ?_
    exact Ev.pos rfl (Ev.const rfl)
  · refine Ev.step (fun k => by rw [topo_Check.j0]) ?_
    refine Ev.ite_ (fun h1 => ?_) (fun h1 => ?_)
    · rw [if_pos (.inr (of_decide_eq_true h1))]; exact Ev.const rfl
    · have h1' : ¬ a > 24 := by simpa using h1
      rw [if_neg (by omega)]
      refine Ev.pos (by omega) (Ev.ite_ (fun h2 => ?_) (fun h2 => ?_))
      · rw [if_pos h2]; exact Ev.const rfl
      · rw [if_neg h2]
        exact impl_from a l (by omega) l.length 0 [] (by omega) (fun q => by simp [usedFrom])
end Go.Proofs.Ythkpnkmbmlbefaa.PB

/- Distances in a graph, as the chapter's rules determine them; the search in waves, the reference's rounds, and the way down give what they determine. -/
namespace Go.Proofs.Ythkpnkmbmlbefaa.PB
open Go.RowKit Go.Proofs.Ythkpnkmbmlbefaa Go.Proofs.Ythkpnkmbmlbefaa.X Go.Proofs.YthkpnkmbmlbefaaW.PrintWords Go.Proofs.YthkpnkmbmlbefaaW.PrintLast
structure IsDist (N : Nat) (adj : Nat → Nat → Prop) (a : Nat) (d : Nat → Int) : Prop where
  zero : d a = 0
  only : ∀ x, x < N → d x = 0 → x = a
  low : ∀ x, x < N → -1 ≤ d x
  edge : ∀ x y, adj x y → 0 ≤ d x → 0 ≤ d y ∧ d y ≤ d x + 1
  back : ∀ x, x < N → 0 < d x → ∃ y, adj y x ∧ d y = d x - 1
section
variable {N : Nat} {adj : Nat → Nat → Prop} {a : Nat} {d d' : Nat → Int}
theorem IsDist.le (hr : ∀ x y, adj x y → x < N ∧ y < N) (h : IsDist N adj a d) (h' : IsDist N adj a d') : ∀ (n : Nat) (x : Nat), x < N → d x = n → 0 ≤ d' x ∧ d' x ≤ n
  | 0, x, hx, e => by
    have := h.only x hx (by simpa using e)
    subst this
    have := h'.zero
    omega
  | n + 1, x, hx, e => by
    obtain ⟨y, ha, hy⟩ := h.back x hx (by omega)
    have h1 := IsDist.le hr h h' n y (hr _ _ ha).1 (by omega)
    have h2 := h'.edge y x ha h1.1
    omega
theorem IsDist.uniq (hr : ∀ x y, adj x y → x < N ∧ y < N) (h : IsDist N adj a d) (h' : IsDist N adj a d') (x : Nat) (hx : x < N) : d x = d' x := by
  have l1 := h.low x hx
  have l2 := h'.low x hx
  rcases Int.lt_or_le (d x) 0 with q | q
  · rcases Int.lt_or_le (d' x) 0 with q' | q'
    · omega
    · have := h'.le hr h (d' x).toNat x hx (by omega)
      omega
  · have h1 := h.le hr h' (d x).toNat x hx (by omega)
    have h2 := h'.le hr h (d' x).toNat x hx (by omega)
    omega
theorem pigeon : ∀ (N n : Nat) (f : Nat → Nat), (∀ i, i < n → f i < N) → (∀ i j, i < n → j < n → f i = f j → i = j) → n ≤ N
  | 0, n, f, h, _ => by
    rcases Nat.eq_zero_or_pos n with h0 | h0
    · omega
    · exact absurd (h 0 h0) (by omega)
  | N + 1, n, f, h, hi => by
    by_cases q : ∃ i, i < n ∧ f i = N
    · obtain ⟨i0, h0, e0⟩ := q
      have := pigeon N (n - 1) (fun j => if j < i0 then f j else f (j + 1)) (fun j hj => by
        split
        · rename_i hlt
          have h1 := h j (by omega)
          have h2 : f j ≠ N := fun e => by have := hi j i0 (by omega) h0 (by omega); omega
          omega
        · rename_i hlt
          have h1 := h (j + 1) (by omega)
          have h2 : f (j + 1) ≠ N := fun e => by have := hi (j + 1) i0 (by omega) h0 (by omega); omega
          omega) (fun i j hi' hj' e => by
        split at e <;> split at e
        · exact hi i j (by omega) (by omega) e
        · have := hi i (j + 1) (by omega) (by omega) e; omega
        · have := hi (i + 1) j (by omega) (by omega) e; omega
        · have := hi (i + 1) (j + 1) (by omega) (by omega) e; omega)
      omega
    · have := pigeon N n f (fun i hi' => by
        have h1 := h i hi'
        have h2 : f i ≠ N := fun e => q ⟨i, hi', e⟩
        omega) hi
      omega
theorem IsDist.levels (hr : ∀ x y, adj x y → x < N ∧ y < N) (h : IsDist N adj a d) : ∀ (n : Nat) (x : Nat), x < N → d x = n → ∀ k : Nat, k ≤ n → ∃ y, y < N ∧ d y = k
  | 0, x, hx, e, k, hk => ⟨x, hx, by omega⟩
  | n + 1, x, hx, e, k, hk => by
    by_cases q : k = n + 1
    · exact ⟨x, hx, by omega⟩
    · obtain ⟨y, ha, hy⟩ := h.back x hx (by omega)
      exact IsDist.levels hr h n y (hr _ _ ha).1 (by omega) k (by omega)
theorem IsDist.lt (hr : ∀ x y, adj x y → x < N ∧ y < N) (h : IsDist N adj a d) (x : Nat) (hx : x < N) : d x < N := by
  rcases Int.lt_or_le (d x) 0 with q | q
  · omega
  · have h1 := h.levels hr (d x).toNat x hx (by omega)
    have h2 : ∀ k : Nat, ∃ y, k ≤ (d x).toNat → (y < N ∧ d y = k) := fun k => by
      by_cases hk : k ≤ (d x).toNat
      · obtain ⟨y, hy⟩ := h1 k hk
        exact ⟨y, fun _ => hy⟩
      · exact ⟨0, fun h => absurd h hk⟩
    have := pigeon N ((d x).toNat + 1) (fun k => Classical.choose (h2 k)) (fun i hi => (Classical.choose_spec (h2 i) (by omega)).1) (fun i j hi hj e => by
      have e1 := (Classical.choose_spec (h2 i) (by omega)).2
      have e2 := (Classical.choose_spec (h2 j) (by omega)).2
      rw [e] at e1
      omega)
    omega
end
section
variable {N : Nat} {adj : Nat → Nat → Prop} {a : Nat}
def gd (l : List Int) (i : Nat) : Int := l.getD i 0
theorem gd_set {l : List Int} {i : Nat} (h : i < l.length) (v : Int) (j : Nat) : gd (l.set i v) j = if j = i then v else gd l j := by
  unfold gd
  by_cases q : j = i
  · subst q; simp [h]
  · rw [if_neg q]; simp [List.getD, Ne.symm q]
def push (x : Nat) (s : List Int × List Nat) (y : Nat) : List Int × List Nat := if gd s.1 y < 0 then (s.1.set y (gd s.1 x + 1), s.2 ++ [y]) else s
structure Base (N : Nat) (adj : Nat → Nat → Prop) (a : Nat) (d : List Int) (w : List Nat) : Prop where
  len : d.length = N
  node : ∀ x ∈ w, x < N ∧ 0 ≤ gd d x
  zero : gd d a = 0
  only : ∀ x, x < N → gd d x = 0 → x = a
  low : ∀ x, x < N → -1 ≤ gd d x
  back : ∀ x, x < N → 0 < gd d x → ∃ y, adj y x ∧ gd d y = gd d x - 1
  order : w.Pairwise (fun x y => gd d x ≤ gd d y)
structure Outer (N : Nat) (adj : Nat → Nat → Prop) (a : Nat) (d : List Int) (w : List Nat) : Prop extends Base N adj a d w where
  closed : ∀ z, z < N → 0 ≤ gd d z → z ∈ w ∨ ∀ y, adj z y → 0 ≤ gd d y ∧ gd d y ≤ gd d z + 1
  head : ∀ x ∈ w, ∀ z, z < N → gd d z ≤ gd d x + 1
structure Inner (N : Nat) (adj : Nat → Nat → Prop) (a : Nat) (x : Nat) (done : List Nat) (d : List Int) (w : List Nat) : Prop extends Base N adj a d w where
  hx : x < N ∧ 0 ≤ gd d x
  closed : ∀ z, z < N → 0 ≤ gd d z → z ∈ w ∨ z = x ∨ ∀ y, adj z y → 0 ≤ gd d y ∧ gd d y ≤ gd d z + 1
  did : ∀ y ∈ done, 0 ≤ gd d y ∧ gd d y ≤ gd d x + 1
  top : ∀ z, z < N → gd d z ≤ gd d x + 1
  wave : ∀ u ∈ w, gd d x ≤ gd d u
theorem Inner.push (hr : ∀ x y, adj x y → x < N ∧ y < N) {x : Nat} {done : List Nat} {d : List Int} {w : List Nat} (h : Inner N adj a x done d w) {y : Nat} (hy : adj x y) :
    Inner N adj a x (y :: done) (push x (d, w) y).1 (push x (d, w) y).2 := by
  have hyN := (hr _ _ hy).2
  unfold PB.push
  by_cases q : gd d y < 0
  · simp only [if_pos q]
    have g : ∀ j, gd (d.set y (gd d x + 1)) j = if j = y then gd d x + 1 else gd d j := fun j => gd_set (by rw [h.len]; exact hyN) _ j
    have hxy : x ≠ y := fun e => by subst e; have := h.hx.2; omega
    have gp : ∀ j, 0 ≤ gd d j → gd (d.set y (gd d x + 1)) j = gd d j := fun j hj => by
      rw [g, if_neg (fun e => by subst e; omega)]
    have gx : gd (d.set y (gd d x + 1)) x = gd d x := gp x h.hx.2
    have gy : gd (d.set y (gd d x + 1)) y = gd d x + 1 := by rw [g, if_pos rfl]
    have hx0 := h.hx.2
    refine { len := by simp [h.len], node := ?_, zero := ?_, only := ?_, low := ?_, back := ?_, order := ?_, hx := ⟨h.hx.1, by rw [gx]; exact hx0⟩, closed := ?_, did := ?_, top := ?_, wave := ?_ }
    · intro u hu
      rcases List.mem_append.1 hu with hu | hu
      · have := h.node u hu
        rw [gp u this.2]; exact this
      · obtain rfl := List.mem_singleton.1 hu
        rw [gy]; exact ⟨hyN, by omega⟩
    · rw [gp a (by have := h.zero; omega)]; exact h.zero
    · intro u hu e
      rw [g] at e
      split at e
      · omega
      · exact h.only u hu e
    · intro u hu
      rw [g]
      split
      · omega
      · exact h.low u hu
    · intro u hu e
      rw [g] at e ⊢
      split at e
      · rename_i q2
        subst q2
        rw [if_pos rfl]
        exact ⟨x, hy, by rw [gx]; omega⟩
      · rename_i q2
        rw [if_neg q2]
        obtain ⟨v, hv, e2⟩ := h.back u hu e
        exact ⟨v, hv, by rw [gp v (by omega)]; exact e2⟩
    · refine List.pairwise_append.2 ⟨?_, by simp, ?_⟩
      · refine (List.Pairwise.and_mem.1 h.order).imp ?_
        rintro u v ⟨hu, hv, huv⟩
        rw [gp u (h.node u hu).2, gp v (h.node v hv).2]; exact huv
      · intro u hu v hv
        obtain rfl := List.mem_singleton.1 hv
        rw [gp u (h.node u hu).2, gy]
        exact h.top u (h.node u hu).1
    · intro z hz e
      rw [g] at e
      split at e
      · rename_i q2
        exact .inl (by simp [q2])
      · rcases h.closed z hz e with q3 | q3 | q3
        · exact .inl (by simp [q3])
        · exact .inr (.inl q3)
        · refine .inr (.inr fun v hv => ?_)
          have := q3 v hv
          rw [gp v this.1, gp z e]
          exact this
    · intro v hv
      rw [gx]
      rcases List.mem_cons.1 hv with rfl | hv
      · rw [gy]; omega
      · have := h.did v hv
        rw [gp v this.1]; exact this
    · intro z hz
      rw [gx, g]
      split
      · omega
      · exact h.top z hz
    · intro u hu
      rw [gx]
      rcases List.mem_append.1 hu with hu | hu
      · rw [gp u (h.node u hu).2]; exact h.wave u hu
      · obtain rfl := List.mem_singleton.1 hu
        rw [gy]; omega
  · simp only [if_neg q]
    exact { h with
      did := fun v hv => by
        rcases List.mem_cons.1 hv with rfl | hv
        · exact ⟨by omega, h.top v hyN⟩
        · exact h.did v hv }
theorem Outer.inner {x : Nat} {d : List Int} {w : List Nat} (h : Outer N adj a d (x :: w)) : Inner N adj a x [] d w :=
  { len := h.len, node := fun u hu => h.node u (List.mem_cons_of_mem _ hu), zero := h.zero, only := h.only, low := h.low, back := h.back, order := (List.pairwise_cons.1 h.order).2,
    hx := h.node x List.mem_cons_self, closed := fun z hz e => by
      rcases h.closed z hz e with q | q
      · rcases List.mem_cons.1 q with q | q
        · exact .inr (.inl q)
        · exact .inl q
      · exact .inr (.inr q)
    did := fun y hy => by simp at hy
    top := h.head x List.mem_cons_self
    wave := (List.pairwise_cons.1 h.order).1 }
theorem Inner.outer {x : Nat} {done : List Nat} {d : List Int} {w : List Nat} (h : Inner N adj a x done d w) (hd : ∀ y, adj x y → y ∈ done) : Outer N adj a d w :=
  { h with
    closed := fun z hz e => by
      rcases h.closed z hz e with q | q | q
      · exact .inl q
      · subst q
        exact .inr fun y hy => h.did y (hd y hy)
      · exact .inr q
    head := fun u hu z hz => by have := h.top z hz; have := h.wave u hu; omega }
theorem Outer.dist {d : List Int} (h : Outer N adj a d []) (hr : ∀ x y, adj x y → x < N ∧ y < N) : IsDist N adj a (gd d) :=
  { zero := h.zero, only := h.only, low := h.low, back := h.back, edge := fun x y hxy e => by
      rcases h.closed x (hr _ _ hxy).1 e with q | q
      · simp at q
      · exact q y hxy }
theorem Outer.init (ha : a < N) : Outer N adj a ((List.replicate N (-1)).set a 0) [a] := by
  have g : ∀ j, gd ((List.replicate N (-1)).set a 0) j = if j = a then 0 else gd (List.replicate N (-1)) j := fun j => gd_set (by simpa using ha) _ j
  have gn : ∀ j, j < N → gd (List.replicate N (-1)) j = -1 := fun j hj => by simp [gd, List.getD, hj]
  have ga : gd ((List.replicate N (-1)).set a 0) a = 0 := by rw [g, if_pos rfl]
  refine { len := by simp, node := fun x hx => ?_, zero := ga, only := fun x hx e => ?_, low := fun x hx => ?_, back := fun x hx e => ?_, order := by simp, closed := fun z hz e => ?_, head := fun x hx z hz => ?_ }
  · obtain rfl := List.mem_singleton.1 hx
    exact ⟨ha, by omega⟩
  · rw [g] at e
    split at e
    · assumption
    · rw [gn x hx] at e; omega
  · rw [g]; split
    · omega
    · rw [gn x hx]; omega
  · rw [g] at e
    split at e
    · omega
    · rw [gn x hx] at e; omega
  · rw [g] at e
    split at e
    · rename_i q; simp [q]
    · rw [gn z hz] at e; omega
  · obtain rfl := List.mem_singleton.1 hx
    rw [ga, g]; split
    · omega
    · rw [gn z hz]; omega
/-- How many are without a number. -/
def negs (d : List Int) : Nat := d.countP (fun v => decide (v < 0))
theorem push_size {x y : Nat} {d : List Int} {w : List Nat} (hy : y < d.length) (hx : 0 ≤ gd d x) : negs (push x (d, w) y).1 + (push x (d, w) y).2.length = negs d + w.length := by
  unfold push
  by_cases q : gd d y < 0
  · simp only [if_pos q]
    have : negs (d.set y (gd d x + 1)) + 1 = negs d := by
      unfold negs
      rw [List.countP_set hy]
      have e : d[y] = gd d y := by simp [gd, hy]
      rw [e]
      have hp : 0 < d.countP (fun v => decide (v < 0)) := List.countP_pos_iff.2 ⟨d[y], List.getElem_mem hy, by rw [e]; simpa using q⟩
      rw [if_pos (by simpa using q), if_neg (by simp; omega)]
      omega
    simp only [List.length_append, List.length_singleton]
    omega
  · simp only [if_neg q]
end
/-! Rounds of the reference. -/
section
def better (d e : Int) : Int := if e ≥ 0 ∧ (d < 0 ∨ e + 1 < d) then e + 1 else d
def upd (d : List Int) (x y : Nat) : List Int := d.set x (better (gd d x) (gd d y))
def relax (d : List Int) (p : Nat × Nat) : List Int := upd (upd d p.1 p.2) p.2 p.1
def adjOf (es : List (Nat × Nat)) (x y : Nat) : Prop := (x, y) ∈ es ∨ (y, x) ∈ es
variable {N : Nat} {adj : Nat → Nat → Prop} {a : Nat} {D : Nat → Int}
structure Over (N : Nat) (D : Nat → Int) (e : List Int) : Prop where
  len : e.length = N
  over : ∀ x, x < N → gd e x = -1 ∨ (0 ≤ D x ∧ D x ≤ gd e x)
theorem Over.upd (hD : IsDist N adj a D) (hr : ∀ x y, adj x y → x < N ∧ y < N) (hs : ∀ x y, adj x y → adj y x) {e : List Int} (h : Over N D e) {x y : Nat} (hxy : adj x y) :
    Over N D (upd e x y) ∧ (∀ z, z < N → 0 ≤ D z → gd e z = D z → gd (upd e x y) z = D z) ∧ (0 ≤ D y → gd e y = D y → D x = D y + 1 → gd (upd e x y) x = D x) := by
  obtain ⟨hx, hy⟩ := hr _ _ hxy
  have g : ∀ j, gd (PB.upd e x y) j = if j = x then better (gd e x) (gd e y) else gd e j := fun j => gd_set (by rw [h.len]; exact hx) _ j
  have ex := h.over x hx
  have ey := h.over y hy
  have lx := hD.low x hx
  have key : 0 ≤ gd e y → 0 ≤ D x ∧ D x ≤ gd e y + 1 := fun q => by
    have := hD.edge y x (hs _ _ hxy) (by omega)
    omega
  refine ⟨⟨by simp [PB.upd, h.len], fun z hz => ?_⟩, fun z hz h0 e1 => ?_, fun h0 e1 e2 => ?_⟩
  · rw [g]
    split
    · rename_i q; subst q
      unfold better
      split
      · rename_i c; have := key c.1; omega
      · exact ex
    · exact h.over z hz
  · rw [g]
    split
    · rename_i q; subst q
      unfold better
      split
      · rename_i c; have := key c.1; omega
      · exact e1
    · exact e1
  · rw [g, if_pos rfl]
    unfold better
    split
    · omega
    · omega
theorem Over.relax (hD : IsDist N adj a D) (hr : ∀ x y, adj x y → x < N ∧ y < N) (hs : ∀ x y, adj x y → adj y x) {e : List Int} (h : Over N D e) {p : Nat × Nat} (hp : adj p.1 p.2) :
    Over N D (relax e p) ∧ (∀ z, z < N → 0 ≤ D z → gd e z = D z → gd (relax e p) z = D z) ∧ (∀ x y, (p = (x, y) ∨ p = (y, x)) → 0 ≤ D y → gd e y = D y → D x = D y + 1 → gd (relax e p) x = D x) := by
  obtain ⟨h1, k1, r1⟩ := h.upd hD hr hs hp
  obtain ⟨h2, k2, r2⟩ := h1.upd hD hr hs (hs _ _ hp)
  refine ⟨h2, fun z hz h0 e1 => k2 z hz h0 (k1 z hz h0 e1), fun x y hxy h0 e1 e2 => ?_⟩
  rcases hxy with rfl | rfl
  · exact k2 _ (hr _ _ hp).1 (by omega) (r1 h0 e1 e2)
  · exact r2 h0 (k1 _ (hr _ _ hp).1 h0 e1) e2
theorem round_ok (hD : IsDist N adj a D) (hr : ∀ x y, adj x y → x < N ∧ y < N) (hs : ∀ x y, adj x y → adj y x) : ∀ (es : List (Nat × Nat)) (e : List Int), (∀ p ∈ es, adj p.1 p.2) → Over N D e →
    Over N D (es.foldl relax e) ∧ (∀ z, z < N → 0 ≤ D z → gd e z = D z → gd (es.foldl relax e) z = D z) ∧ (∀ x y, adjOf es x y → 0 ≤ D y → gd e y = D y → D x = D y + 1 → gd (es.foldl relax e) x = D x)
  | [], e, _, h => ⟨h, fun _ _ _ h => h, fun x y hxy => by simp [adjOf] at hxy⟩
  | p :: es, e, ha, h => by
    obtain ⟨h1, k1, r1⟩ := h.relax hD hr hs (ha p List.mem_cons_self)
    obtain ⟨h2, k2, r2⟩ := round_ok hD hr hs es (PB.relax e p) (fun q hq => ha q (List.mem_cons_of_mem _ hq)) h1
    have hp := hr _ _ (ha p List.mem_cons_self)
    refine ⟨h2, fun z hz h0 e1 => k2 z hz h0 (k1 z hz h0 e1), fun x y hxy h0 e1 e2 => ?_⟩
    have hin : (p = (x, y) ∨ p = (y, x)) ∨ adjOf es x y := by
      rcases hxy with q | q <;> rcases List.mem_cons.1 q with q | q
      · exact .inl (.inl q.symm)
      · exact .inr (.inl q)
      · exact .inl (.inr q.symm)
      · exact .inr (.inr q)
    rcases hin with q | q
    · have hx : x < N := by rcases q with rfl | rfl <;> simp at hp <;> omega
      exact k2 x hx (by omega) (r1 x y q h0 e1 e2)
    · have hy : y < N := by
        have hh := fun p' hp' => hr _ _ (ha p' (List.mem_cons_of_mem _ hp'))
        rcases q with q | q
        · exact (hh _ q).2
        · exact (hh _ q).1
      exact r2 x y q h0 (k1 y hy h0 e1) e2
def rounds (es : List (Nat × Nat)) : Nat → List Int → List Int
  | 0, d => d
  | n + 1, d => rounds es n (es.foldl relax d)
theorem rounds_ok {es : List (Nat × Nat)} (hD : IsDist N (adjOf es) a D) (hr : ∀ x y, adjOf es x y → x < N ∧ y < N) : ∀ (n r : Nat) (e : List Int), Over N D e → (∀ x, x < N → 0 ≤ D x → D x ≤ r → gd e x = D x) →
    Over N D (rounds es n e) ∧ (∀ x, x < N → 0 ≤ D x → D x ≤ (r + n : Nat) → gd (rounds es n e) x = D x)
  | 0, r, e, h, k => ⟨h, k⟩
  | n + 1, r, e, h, k => by
    obtain ⟨h1, k1, r1⟩ := round_ok hD hr (fun x y q => q.symm) es e (fun p hp => .inl hp) h
    have := rounds_ok hD hr n (r + 1) (es.foldl PB.relax e) h1 (fun x hx h0 hle => by
      by_cases q : D x ≤ r
      · exact k1 x hx h0 (k x hx h0 q)
      · obtain ⟨y, hy, e2⟩ := hD.back x hx (by omega)
        exact r1 x y hy.symm (by omega) (k y (hr _ _ hy).1 (by omega) (by omega)) (by omega))
    rw [show r + (n + 1) = r + 1 + n by omega]
    exact this
def bf (N : Nat) (es : List (Nat × Nat)) (a : Nat) : List Int := rounds es N ((List.replicate N (-1)).set a 0)
theorem bf_ok {es : List (Nat × Nat)} (ha : a < N) (hD : IsDist N (adjOf es) a D) (hr : ∀ x y, adjOf es x y → x < N ∧ y < N) : (bf N es a).length = N ∧ ∀ x, x < N → gd (bf N es a) x = D x := by
  have g : ∀ j, gd ((List.replicate N (-1)).set a 0) j = if j = a then 0 else gd (List.replicate N (-1)) j := fun j => gd_set (by simpa using ha) _ j
  have gn : ∀ j, j < N → gd (List.replicate N (-1)) j = -1 := fun j hj => by simp [gd, List.getD, hj]
  obtain ⟨h1, h2⟩ := rounds_ok hD hr N 0 ((List.replicate N (-1)).set a 0) ⟨by simp, fun x hx => by
    rw [g]; split
    · rename_i q; subst q; have := hD.zero; omega
    · exact .inl (gn x hx)⟩ (fun x hx h0 h1 => by
      have := hD.only x hx (by omega)
      rw [g, if_pos this]; omega)
  refine ⟨h1.len, fun x hx => ?_⟩
  have l1 := hD.low x hx
  rcases Int.lt_or_le (D x) 0 with q | q
  · have := h1.over x hx
    show gd (rounds _ _ _) x = _
    omega
  · exact h2 x hx q (by have := hD.lt hr x hx; omega)
end
/-! The closure that goes down. -/
section
variable {N : Nat} {adj : Nat → Nat → Prop}
inductive Conn (adj : Nat → Nat → Prop) : Nat → Nat → Prop
  | refl (x : Nat) : Conn adj x x
  | step {x y z : Nat} : Conn adj x y → adj y z → Conn adj x z
theorem Conn.trans {x y z : Nat} (h : Conn adj x y) (k : Conn adj y z) : Conn adj x z := by
  induction k with
  | refl => exact h
  | step _ e ih => exact ih.step e
theorem Conn.symm (hs : ∀ x y, adj x y → adj y x) {x y : Nat} (h : Conn adj x y) : Conn adj y x := by
  induction h with
  | refl => exact .refl _
  | step _ e ih => exact ((Conn.refl _).step (hs _ _ e)).trans ih
/-- What one way down has done. -/
structure Down (N : Nat) (adj : Nat → Nat → Prop) (x : Nat) (least : Int) (c r : List Int) : Prop where
  len : r.length = N
  old : ∀ z, 0 ≤ gd c z → gd r z = gd c z
  new : ∀ z, z < N → gd c z < 0 → gd r z = gd c z ∨ (gd r z = least ∧ (∀ y, adj z y → 0 ≤ gd r y) ∧ Conn adj x z)
theorem Down.trans {x : Nat} {least : Int} {c r q : List Int} (h0 : 0 ≤ least) (h : Down N adj x least c r) (k : Down N adj x least r q) : Down N adj x least c q :=
  ⟨k.len, fun z hz => by have := h.old z hz; rw [k.old z (by omega), this], fun z hz e => by
    rcases h.new z hz e with e1 | ⟨e1, e2, e3⟩
    · rcases k.new z hz (by omega) with e4 | e4
      · exact .inl (by omega)
      · exact .inr e4
    · exact .inr ⟨by rw [k.old z (by omega), e1], fun y hy => by rw [k.old y (e2 y hy)]; exact e2 y hy, e3⟩⟩
end
section
variable {N : Nat}
/-- What the rows of neighbors say. -/
structure Rows (N : Nat) (next : List (List Int)) (adj : Nat → Nat → Prop) : Prop where
  len : next.length = N
  short : ∀ x, x < N → (next.getD x []).length < 4611686018427387904
  mem : ∀ x, x < N → ∀ y ∈ next.getD x [], ∃ z : Nat, y = z ∧ z < N ∧ adj x z
  all : ∀ x y, adj x y → x < N ∧ y < N ∧ (y : Int) ∈ next.getD x []
variable {next : List (List Int)} {adj : Nat → Nat → Prop}
theorem getD_in {α : Type} {l : List α} {j : Nat} (h : j < l.length) (d : α) : l.getD j d ∈ l := by
  rw [List.getD_eq_getElem?_getD, List.getElem?_eq_getElem h]; exact List.getElem_mem h
theorem Down.refl {x : Nat} {least : Int} {c : List Int} (h : c.length = N) : Down N adj x least c c := ⟨h, fun _ _ => rfl, fun _ _ _ => .inl rfl⟩
theorem Down.from {x y : Nat} {least : Int} {c r : List Int} (h : Down N adj y least c r) (hc : Conn adj x y) : Down N adj x least c r :=
  ⟨h.len, h.old, fun z hz e => by
    rcases h.new z hz e with q | ⟨q1, q2, q3⟩
    · exact .inl q
    · exact .inr ⟨q1, q2, hc.trans q3⟩⟩
theorem negs_set {c : List Int} {x : Nat} (hx : x < c.length) (hn : gd c x < 0) {v : Int} (hv : 0 ≤ v) : negs (c.set x v) + 1 = negs c := by
  unfold negs
  rw [List.countP_set hx]
  have e : c[x] = gd c x := by simp [gd, hx]
  rw [e]
  have hp : 0 < c.countP (fun v => decide (v < 0)) := List.countP_pos_iff.2 ⟨c[x], List.getElem_mem hx, by rw [e]; simpa using hn⟩
  rw [if_pos (by simpa using hn), if_neg (by simp; omega)]
  omega
theorem visit_ok (hR : Rows N next adj) {least : Int} (hl : 0 ≤ least) : ∀ (m : Nat) (c : List Int), c.length = N → negs c ≤ m → ∀ x : Nat, x < N →
    ∃ r, Ev (fun k => HV.visit k next c (x : Int) least) r ∧ Down N adj x least c r ∧ 0 ≤ gd r x ∧ negs r ≤ negs c := by
  intro m
  induction m with
  | zero =>
    intro c hc hm x hx
    have hge : 0 ≤ gd c x := by
      rcases Int.lt_or_le (gd c x) 0 with q | q
      · have := negs_set (by omega) q (Int.le_refl 0); omega
      · exact q
    refine ⟨c, Ev.step (fun k => by rw [HV.visit]) (Ev.pos (by omega) (Ev.pos (by omega) (Ev.pos (by rw [rdI]; exact hge) (Ev.const rfl)))), Down.refl hc, hge, Nat.le_refl _⟩
  | succ m ih =>
    intro c hc hm x hx
    by_cases q : 0 ≤ gd c x
    · exact ⟨c, Ev.step (fun k => by rw [HV.visit]) (Ev.pos (by omega) (Ev.pos (by omega) (Ev.pos (by rw [rdI]; exact q) (Ev.const rfl)))), Down.refl hc, q, Nat.le_refl _⟩
    · have hn := negs_set (c := c) (by omega) (Int.not_le.1 q) hl
      have g : ∀ j, gd (c.set x least) j = if j = x then least else gd c j := fun j => gd_set (by omega) _ j
      have hrow := hR.mem x hx
      have hsh := hR.short x hx
      have hV : ∀ d j, j + d = (next.getD x []).length → ∀ c1 : List Int, c1.length = N → negs c1 ≤ m →
          ∃ r, Ev (fun k => HV.visits k next (next.getD x []) (j : Int) c1 least) r ∧ Down N adj x least c1 r ∧ (∀ i, j ≤ i → i < (next.getD x []).length → 0 ≤ gd r ((next.getD x []).getD i 0).toNat) ∧ negs r ≤ negs c1 := by
        intro d
        induction d with
        | zero =>
          intro j hj c1 h1 h2
          exact ⟨c1, Ev.step (fun k => by rw [HV.visits]) (Ev.neg (by omega) (Ev.const rfl)), Down.refl h1, fun i h3 h4 => by omega, Nat.le_refl _⟩
        | succ d ihd =>
          intro j hj c1 h1 h2
          have hjl : j < (next.getD x []).length := by omega
          obtain ⟨y, hy, hyN, hadj⟩ := hrow ((next.getD x []).getD j 0) (getD_in hjl 0)
          obtain ⟨r1, e1, d1, p1, n1⟩ := ih c1 h1 h2 y hyN
          obtain ⟨r, e2, d2, p2, n2⟩ := ihd (j + 1) (by omega) r1 d1.len (by omega)
          refine ⟨r, Ev.step (fun k => by rw [HV.visits]) (Ev.pos (by omega) (Ev.pos (by omega) (Ev.bind' r1 ?_ ?_))), ?_, ?_, by omega⟩
          · rw [rdI, hy]; exact e1
          · rw [wrap_nat (by omega)]; exact e2
          · exact (d1.from ((Conn.refl x).step hadj)).trans hl d2
          · intro i h3 h4
            by_cases qi : i = j
            · subst qi
              rw [hy, Int.toNat_natCast, d2.old y p1]; exact p1
            · exact p2 i (by omega) h4
      obtain ⟨r, e, dn, p, n⟩ := hV _ 0 (Nat.zero_add _) (c.set x least) (by simpa using hc) (by omega)
      have hx' : gd r x = least := by rw [dn.old x (by rw [g, if_pos rfl]; exact hl), g, if_pos rfl]
      refine ⟨r, Ev.step (fun k => by rw [HV.visit]) (Ev.pos (by omega) (Ev.pos (by omega) (Ev.neg (by rw [rdI]; exact q) (Ev.pos (by have := hR.len; omega) ?_)))), ⟨dn.len, fun z hz => ?_, fun z hz e1 => ?_⟩, by omega, by omega⟩
      · rw [rdL3, Int.toNat_natCast]; exact e
      · have hzx : z ≠ x := fun h => by subst h; exact q hz
        have : gd (c.set x least) z = gd c z := by rw [g, if_neg hzx]
        rw [dn.old z (by omega), this]
      · by_cases hzx : z = x
        · subst hzx
          refine .inr ⟨hx', fun y hy => ?_, .refl _⟩
          obtain ⟨_, _, hm'⟩ := hR.all z y hy
          obtain ⟨i, hi, he⟩ := List.mem_iff_getElem.1 hm'
          have := p i (Nat.zero_le _) hi
          rw [List.getD_eq_getElem?_getD, List.getElem?_eq_getElem hi, Option.getD_some, he, Int.toNat_natCast] at this
          exact this
        · have h2 : gd (c.set x least) z = gd c z := by rw [g, if_neg hzx]
          rcases dn.new z hz (by omega) with q1 | q1
          · exact .inl (by omega)
          · exact .inr q1
/-- After the first i nodes have been visited. -/
structure Comps (N : Nat) (adj : Nat → Nat → Prop) (i : Nat) (c : List Int) : Prop where
  len : c.length = N
  low : ∀ z, z < N → -1 ≤ gd c z
  seen : ∀ z, z < i → z < N → 0 ≤ gd c z
  lab : ∀ z, z < N → 0 ≤ gd c z → ∃ b : Nat, gd c z = b ∧ b ≤ z ∧ b < N ∧ gd c b = b ∧ Conn adj b z
  edge : ∀ z y, adj z y → 0 ≤ gd c z → gd c y = gd c z
theorem Comps.init (hr : ∀ x y, adj x y → x < N ∧ y < N) : Comps N adj 0 (List.replicate N (-1)) := by
  have gn : ∀ j, j < N → gd (List.replicate N (-1)) j = -1 := fun j hj => by simp [gd, List.getD, hj]
  exact ⟨by simp, fun z hz => by rw [gn z hz]; omega, fun z hz => by omega, fun z hz h => by rw [gn z hz] at h; omega, fun z y h h1 => by
    rw [gn z (hr _ _ h).1] at h1; omega⟩
theorem Comps.conn {i : Nat} {c : List Int} (h : Comps N adj i c) {x y : Nat} (hc : Conn adj x y) (h0 : 0 ≤ gd c x) : gd c y = gd c x := by
  induction hc with
  | refl => rfl
  | step _ e ih => rw [h.edge _ _ e (by omega), ih]
theorem Comps.step (hs : ∀ x y, adj x y → adj y x) (hr : ∀ x y, adj x y → x < N ∧ y < N) {i : Nat} {c r : List Int} (h : Comps N adj i c) (hi : i < N) (hd : Down N adj i (i : Int) c r) (h0 : 0 ≤ gd r i) : Comps N adj (i + 1) r := by
  have key : ∀ z, z < N → gd c z < 0 → 0 ≤ gd r z → gd r z = i ∧ (∀ y, adj z y → 0 ≤ gd r y) ∧ Conn adj i z ∧ i ≤ z := fun z hz e1 e2 => by
    rcases hd.new z hz e1 with q | ⟨q1, q2, q3⟩
    · omega
    · refine ⟨q1, q2, q3, ?_⟩
      rcases Nat.lt_or_ge z i with q | q
      · have := h.seen z q hz; omega
      · exact q
  have hci : ∀ z, z < N → gd c z < 0 → 0 ≤ gd r z → gd c i < 0 := fun z hz e1 e2 => by
    rcases Int.lt_or_le (gd c i) 0 with q | q
    · exact q
    · have := h.conn (key z hz e1 e2).2.2.1 q; omega
  refine ⟨hd.len, fun z hz => ?_, fun z hz hz' => ?_, fun z hz e => ?_, fun z y hzy e => ?_⟩
  · rcases Int.lt_or_le (gd c z) 0 with q | q
    · rcases hd.new z hz q with q1 | q1
      · have := h.low z hz; omega
      · omega
    · rw [hd.old z q]; omega
  · by_cases q : z = i
    · subst q; exact h0
    · have := h.seen z (by omega) hz'
      rw [hd.old z this]; exact this
  · rcases Int.lt_or_le (gd c z) 0 with q | q
    · obtain ⟨k1, k2, k3, k4⟩ := key z hz q e
      exact ⟨i, k1, k4, hi, (key i hi (hci z hz q e) h0).1, k3⟩
    · obtain ⟨b, k1, k2, k3, k4, k5⟩ := h.lab z hz q
      exact ⟨b, by rw [hd.old z q, k1], k2, k3, by rw [hd.old b (by omega), k4], k5⟩
  · obtain ⟨hz, hy⟩ := hr _ _ hzy
    rcases Int.lt_or_le (gd c z) 0 with q | q
    · obtain ⟨k1, k2, k3, k4⟩ := key z hz q e
      have hy0 := k2 y hzy
      rcases Int.lt_or_le (gd c y) 0 with q2 | q2
      · rw [(key y hy q2 hy0).1, k1]
      · have := h.edge y z (hs _ _ hzy) q2; omega
    · have := h.edge z y hzy q
      rw [hd.old y (by omega), hd.old z q, this]
theorem IsDist.conn (hr : ∀ x y, adj x y → x < N ∧ y < N) {a : Nat} {d : Nat → Int} (h : IsDist N adj a d) {x : Nat} (hx : x < N) : 0 ≤ d x ↔ Conn adj a x := by
  constructor
  · intro h0
    have : ∀ (n : Nat) (x : Nat), x < N → d x = n → Conn adj a x := by
      intro n
      induction n with
      | zero => intro x hx e; rw [h.only x hx (by omega)]; exact .refl _
      | succ n ih =>
        intro x hx e
        obtain ⟨y, ha, hy⟩ := h.back x hx (by omega)
        exact (ih y (hr _ _ ha).1 (by omega)).step ha
    exact this (d x).toNat x hx (by omega)
  · intro hc
    clear hx
    induction hc with
    | refl => rw [h.zero]; omega
    | step _ e ih => exact (h.edge _ _ e ih).1
/-- The label is the least node that is not out of reach. -/
theorem Comps.least (hs : ∀ x y, adj x y → adj y x) (hr : ∀ x y, adj x y → x < N ∧ y < N) {c : List Int} (h : Comps N adj N c) {i : Nat} (hi : i < N) {d : Nat → Int} (hd : IsDist N adj i d) :
    ∃ b : Nat, gd c i = b ∧ b < N ∧ 0 ≤ d b ∧ ∀ k, k < N → 0 ≤ d k → b ≤ k := by
  obtain ⟨b, h1, h2, h3, h4, h5⟩ := h.lab i hi (h.seen i hi hi)
  refine ⟨b, h1, h3, (hd.conn hr h3).2 (h5.symm hs), fun k hk h0 => ?_⟩
  have := h.conn ((hd.conn hr hk).1 h0) (h.seen i hi hi)
  obtain ⟨b', k1, k2, _⟩ := h.lab k hk (h.seen k hk hk)
  omega
end
end Go.Proofs.Ythkpnkmbmlbefaa.PB

/- The rows of neighbors: what the program's rows hold, in order. -/
namespace Go.Proofs.Ythkpnkmbmlbefaa.PB
open Go.RowKit Go.Proofs.Ythkpnkmbmlbefaa Go.Proofs.Ythkpnkmbmlbefaa.X Go.Proofs.YthkpnkmbmlbefaaW.PrintWords Go.Proofs.YthkpnkmbmlbefaaW.PrintLast

/-! ### What a valid graph is -/
/-- A graph that the check lets pass. -/
structure Valid (a : Int) (l : List S37) : Prop where
  pos : 1 ≤ a
  most : a ≤ 24
  few : l.length ≤ 64
  ok : ∀ i, i < l.length → OkE a (l.getD i z37)
  loop : ∀ i, i < l.length → (l.getD i z37).f0 ≠ (l.getD i z37).f2
  once0 : ∀ i j, j < i → i < l.length → ¬ hasEnd (l.getD j z37) ((l.getD i z37).f0, (l.getD i z37).f1)
  once1 : ∀ i j, j < i → i < l.length → ¬ hasEnd (l.getD j z37) ((l.getD i z37).f2, (l.getD i z37).f3)
theorem chkFrom_ok {a : Int} {l : List S37} : ∀ {d i}, i + d = l.length → chkFrom a l d i = 0 → ∀ i', i ≤ i' → i' < l.length → OkE a (l.getD i' z37) ∧ (l.getD i' z37).f0 ≠ (l.getD i' z37).f2 ∧ (∀ j, j < i' → ¬ hasEnd (l.getD j z37) ((l.getD i' z37).f0, (l.getD i' z37).f1)) ∧ (∀ j, j < i' → ¬ hasEnd (l.getD j z37) ((l.getD i' z37).f2, (l.getD i' z37).f3))
  | 0, i, hi, _, i', h1, h2 => by omega
  | d + 1, i, hi, h, i', h1, h2 => by
    unfold chkFrom at h
    split at h
    · rename_i hok
      split at h
      · omega
      · rename_i hloop
        split at h
        · omega
        · rename_i hu1
          split at h
          · omega
          · rename_i hu2
            rw [usedFrom_iff] at hu1 hu2
            by_cases q : i' = i
            · subst q
              exact ⟨hok, hloop, fun j hj hh => hu1 ⟨j, by omega, by omega, hh⟩, fun j hj hh => hu2 ⟨j, by omega, by omega, hh⟩⟩
            · exact chkFrom_ok (by omega) h i' (by omega) h2
    · omega
theorem chk_valid {a : Int} {l : List S37} (h : chk a l = 0) : Valid a l := by
  unfold chk at h
  split at h
  · omega
  · split at h
    · omega
    · have k := chkFrom_ok (i := 0) (by omega) h
      exact ⟨by omega, by omega, by omega, fun i hi => (k i (by omega) hi).1, fun i hi => (k i (by omega) hi).2.1, fun i j hj hi => (k i (by omega) hi).2.2.1 j hj, fun i j hj hi => (k i (by omega) hi).2.2.2 j hj⟩

/-! ### The edges as pairs of nodes -/
def es (l : List S37) : List (Nat × Nat) := l.map fun e => (e.f0.toNat, e.f2.toNat)
theorem OkE.nat {a : Int} {e : S37} (h : OkE a e) : ∃ x y : Nat, e.f0 = x ∧ e.f2 = y ∧ x < a.toNat ∧ y < a.toNat := by
  unfold OkE at h
  exact ⟨e.f0.toNat, e.f2.toNat, by omega, by omega, by omega, by omega⟩
theorem Valid.mem {a : Int} {l : List S37} (h : Valid a l) {e : S37} (he : e ∈ l) : OkE a e ∧ e.f0 ≠ e.f2 := by
  obtain ⟨i, hi, rfl⟩ := List.mem_iff_getElem.1 he
  have h1 := h.ok i hi
  have h2 := h.loop i hi
  rw [List.getD_eq_getElem?_getD, List.getElem?_eq_getElem hi, Option.getD_some] at h1 h2
  exact ⟨h1, h2⟩
theorem adj_symm (l : List (Nat × Nat)) (x y : Nat) (h : adjOf l x y) : adjOf l y x := Or.symm h
theorem Valid.range {a : Int} {l : List S37} (h : Valid a l) (x y : Nat) (hxy : adjOf (es l) x y) : x < a.toNat ∧ y < a.toNat := by
  have key : ∀ u v : Nat, (u, v) ∈ es l → u < a.toNat ∧ v < a.toNat := fun u v hu => by
    obtain ⟨e, he, e1⟩ := List.mem_map.1 hu
    obtain ⟨x', y', h1, h2, h3, h4⟩ := (h.mem he).1.nat
    injection e1 with e1 e2
    omega
  rcases hxy with q | q
  · exact key _ _ q
  · exact (key _ _ q).symm

/-! ### The rows -/
def addE (rows : List (List Int)) (e : S37) : List (List Int) :=
  let r1 := rows.set e.f0.toNat (rows.getD e.f0.toNat [] ++ [e.f2])
  r1.set e.f2.toNat (r1.getD e.f2.toNat [] ++ [e.f0])
structure Raw (N : Nat) (l : List S37) (i : Nat) (rows : List (List Int)) : Prop where
  len : rows.length = N
  short : ∀ x, x < N → (rows.getD x []).length ≤ 2 * i
  mem : ∀ x, x < N → ∀ y : Int, y ∈ rows.getD x [] ↔ ∃ j, j < i ∧ (((l.getD j z37).f0 = x ∧ (l.getD j z37).f2 = y) ∨ ((l.getD j z37).f2 = x ∧ (l.getD j z37).f0 = y))
theorem getD_set {α : Type} {l : List α} {i : Nat} (h : i < l.length) (v : α) (j : Nat) (z : α) : (l.set i v).getD j z = if j = i then v else l.getD j z := by
  by_cases q : j = i
  · subst q; simp [h]
  · rw [if_neg q]; simp [List.getD, Ne.symm q]
theorem Raw.step {N : Nat} {a : Int} {l : List S37} {i : Nat} {rows : List (List Int)} (h : Raw N l i rows) (hok : OkE a (l.getD i z37)) (hN : N = a.toNat) : Raw N l (i + 1) (addE rows (l.getD i z37)) := by
  obtain ⟨u, v, hu, hv, hul, hvl⟩ := hok.nat
  subst hN
  have hlen := h.len
  unfold addE
  simp only [hu, hv, Int.toNat_natCast]
  have g1 : ∀ j, (rows.set u (rows.getD u [] ++ [(v : Int)])).getD j [] = if j = u then rows.getD u [] ++ [(v : Int)] else rows.getD j [] := fun j => getD_set (by omega) _ _ _
  have g2 : ∀ j (w : List Int), ((rows.set u (rows.getD u [] ++ [(v : Int)])).set v w).getD j [] = if j = v then w else (rows.set u (rows.getD u [] ++ [(v : Int)])).getD j [] := fun j w => getD_set (by rw [List.length_set]; omega) _ _ _
  refine ⟨by simp [hlen], fun x hx => ?_, fun x hx y => ?_⟩
  · have h1 := h.short x hx
    have h2 := h.short u hul
    have h3 := h.short v hvl
    rw [g2]
    split
    · rw [List.length_append, g1]
      split
      · rw [List.length_append]; simp; simp at h2; omega
      · simp; simp at h3; omega
    · rw [g1]
      split
      · rw [List.length_append]; simp; simp at h2; omega
      · omega
  · have hm := h.mem x hx y
    have split_ : (∃ j, j < i + 1 ∧ (((l.getD j z37).f0 = x ∧ (l.getD j z37).f2 = y) ∨ ((l.getD j z37).f2 = x ∧ (l.getD j z37).f0 = y))) ↔ (y ∈ rows.getD x [] ∨ ((u : Int) = x ∧ (v : Int) = y) ∨ ((v : Int) = x ∧ (u : Int) = y)) := by
      rw [hm]
      constructor
      · rintro ⟨j, hj, hh⟩
        by_cases q : j = i
        · subst q; rw [hu, hv] at hh; exact .inr hh
        · exact .inl ⟨j, by omega, hh⟩
      · rintro (⟨j, hj, hh⟩ | hh)
        · exact ⟨j, by omega, hh⟩
        · exact ⟨i, by omega, by rw [hu, hv]; exact hh⟩
    rw [split_, g2]
    by_cases q1 : x = v
    · subst q1
      rw [if_pos rfl, List.mem_append, g1]
      by_cases q2 : x = u
      · subst q2
        rw [if_pos rfl, List.mem_append]
        simp only [List.mem_singleton]
        constructor
        · rintro ((h1 | h1) | h1)
          · exact .inl h1
          · exact .inr (.inl ⟨by simp, h1.symm⟩)
          · exact .inr (.inl ⟨by simp, h1.symm⟩)
        · rintro (h1 | h1 | h1)
          · exact .inl (.inl h1)
          · exact .inr h1.2.symm
          · exact .inr h1.2.symm
      · rw [if_neg q2]
        simp only [List.mem_singleton]
        constructor
        · rintro (h1 | h1)
          · exact .inl h1
          · exact .inr (.inr ⟨by simp, h1.symm⟩)
        · rintro (h1 | h1 | h1)
          · exact .inl h1
          · exact absurd h1.1 (by omega)
          · exact .inr h1.2.symm
    · rw [if_neg q1, g1]
      by_cases q2 : x = u
      · subst q2
        rw [if_pos rfl, List.mem_append]
        simp only [List.mem_singleton]
        constructor
        · rintro (h1 | h1)
          · exact .inl h1
          · exact .inr (.inl ⟨by simp, h1.symm⟩)
        · rintro (h1 | h1 | h1)
          · exact .inl h1
          · exact .inr h1.2.symm
          · exact absurd h1.1 (by omega)
      · rw [if_neg q2]
        constructor
        · exact .inl
        · rintro (h1 | h1 | h1)
          · exact h1
          · exact absurd h1.1 (by omega)
          · exact absurd h1.1 (by omega)
theorem Raw.init (N : Nat) (l : List S37) : Raw N l 0 (List.replicate N []) :=
  ⟨by simp, fun x hx => by simp [List.getD, hx], fun x hx y => by simp [List.getD, hx]⟩
def rawFrom (l : List S37) : Nat → Nat → List (List Int) → List (List Int)
  | 0, _, rows => rows
  | d + 1, i, rows => rawFrom l d (i + 1) (addE rows (l.getD i z37))
def sortI (l : List Int) : List Int := l.mergeSort fun x y => decide (x ≤ y)
theorem sortI_sorted (z : List Int) : (sortI z).Pairwise (· ≤ ·) := by
  have := List.pairwise_mergeSort (le := fun a b : Int => decide (a ≤ b)) (fun a b c h1 h2 => by simp at *; omega) (fun a b => by simp; omega) z
  exact this.imp (fun h => by simpa using h)
theorem sortI_is {x y : List Int} (h : x.Perm y) (hs : y.Pairwise (· ≤ ·)) : sortI x = y :=
  List.Perm.eq_of_pairwise (fun _ _ _ _ h1 h2 => Int.le_antisymm h1 h2) (sortI_sorted x) hs ((List.mergeSort_perm x _).trans h)
theorem sortI_len (l : List Int) : (sortI l).length = l.length := (List.mergeSort_perm l _).length_eq
theorem sortI_mem {l : List Int} {y : Int} : y ∈ sortI l ↔ y ∈ l := (List.mergeSort_perm l _).mem_iff
def nb (a : Int) (l : List S37) : List (List Int) := (rawFrom l l.length 0 (List.replicate a.toNat [])).map sortI
theorem rawFrom_raw {N : Nat} {a : Int} {l : List S37} (h : Valid a l) (hN : N = a.toNat) : ∀ d i rows, i + d = l.length → Raw N l i rows → Raw N l l.length (rawFrom l d i rows)
  | 0, i, rows, hi, hr => by
    obtain rfl : i = l.length := by omega
    exact hr
  | d + 1, i, rows, hi, hr => rawFrom_raw h hN d (i + 1) _ (by omega) (hr.step (h.ok i (by omega)) hN)
theorem nb_get (a : Int) (l : List S37) (x : Nat) : (nb a l).getD x [] = sortI ((rawFrom l l.length 0 (List.replicate a.toNat [])).getD x []) := by
  unfold nb
  simp only [List.getD_eq_getElem?_getD, List.getElem?_map]
  cases (rawFrom l l.length 0 (List.replicate a.toNat []))[x]? with
  | none => simp [sortI]
  | some r => rfl
theorem Valid.raw {a : Int} {l : List S37} (h : Valid a l) : Raw a.toNat l l.length (rawFrom l l.length 0 (List.replicate a.toNat [])) := rawFrom_raw h rfl _ _ _ (by omega) (Raw.init _ _)
theorem Valid.nb_mem {a : Int} {l : List S37} (h : Valid a l) {x : Nat} (hx : x < a.toNat) (y : Int) : y ∈ (nb a l).getD x [] ↔ ∃ z : Nat, y = z ∧ z < a.toNat ∧ adjOf (es l) x z := by
  rw [nb_get, sortI_mem, h.raw.mem x hx]
  constructor
  · rintro ⟨j, hj, hh⟩
    obtain ⟨u, v, hu, hv, hul, hvl⟩ := (h.ok j hj).nat
    have hm : (u, v) ∈ es l := List.mem_map.2 ⟨l.getD j z37, getD_in hj _, by rw [hu, hv]; rfl⟩
    rw [hu, hv] at hh
    rcases hh with ⟨h1, h2⟩ | ⟨h1, h2⟩
    · obtain rfl : u = x := by omega
      exact ⟨v, h2.symm, hvl, .inl hm⟩
    · obtain rfl : v = x := by omega
      exact ⟨u, h2.symm, hul, .inr hm⟩
  · rintro ⟨z, rfl, hz, hadj⟩
    rcases hadj with q | q
    · obtain ⟨e, he, e1⟩ := List.mem_map.1 q
      obtain ⟨j, hj, e2⟩ := List.mem_iff_getElem.1 he
      obtain ⟨u, v, hu, hv, _, _⟩ := (h.mem he).1.nat
      injection e1 with e3 e4
      refine ⟨j, hj, .inl ?_⟩
      rw [List.getD_eq_getElem?_getD, List.getElem?_eq_getElem hj, Option.getD_some, e2]
      omega
    · obtain ⟨e, he, e1⟩ := List.mem_map.1 q
      obtain ⟨j, hj, e2⟩ := List.mem_iff_getElem.1 he
      obtain ⟨u, v, hu, hv, _, _⟩ := (h.mem he).1.nat
      injection e1 with e3 e4
      refine ⟨j, hj, .inr ?_⟩
      rw [List.getD_eq_getElem?_getD, List.getElem?_eq_getElem hj, Option.getD_some, e2]
      omega
theorem Valid.nb_len {a : Int} {l : List S37} (h : Valid a l) : (nb a l).length = a.toNat := by
  unfold nb; rw [List.length_map]; exact h.raw.len
theorem Valid.nb_short {a : Int} {l : List S37} (h : Valid a l) {x : Nat} (hx : x < a.toNat) : ((nb a l).getD x []).length ≤ 128 := by
  rw [nb_get, sortI_len]
  have := h.raw.short x hx
  have := h.few
  omega
theorem Valid.nb_sorted {a : Int} {l : List S37} (x : Nat) : ((nb a l).getD x []).Pairwise (· ≤ ·) := by rw [nb_get]; exact sortI_sorted _
theorem Valid.rows {a : Int} {l : List S37} (h : Valid a l) : Rows a.toNat (nb a l) (adjOf (es l)) :=
  ⟨h.nb_len, fun x hx => by have := h.nb_short hx; omega, fun x hx y hy => (h.nb_mem hx y).1 hy, fun x y hxy => ⟨(h.range x y hxy).1, (h.range x y hxy).2, (h.nb_mem (h.range x y hxy).1 y).2 ⟨y, rfl, (h.range x y hxy).2, hxy⟩⟩⟩
theorem sort_loop (rows : List (List Int)) (hsh : ∀ x, x < rows.length → (rows.getD x []).length ≤ 128) (hn : rows.length ≤ 24) : ∀ d i (cur : List (List Int)), i + d = rows.length → cur = (rows.take i).map sortI ++ rows.drop i → Ev (fun k => topo_neighbors.l1 k cur rows.length i) (rows.map sortI) := by
  intro d
  induction d with
  | zero =>
    intro i cur hi hc
    refine Ev.step (fun k => by rw [topo_neighbors.l1]) ?_
    refine Ev.neg (by omega) (Ev.const ?_)
    rw [hc, List.take_of_length_le (by omega), List.drop_of_length_le (by omega), List.append_nil]
  | succ d ih =>
    intro i cur hi hc
    have hil : i < rows.length := by omega
    have hlen : cur.length = rows.length := by rw [hc]; simp; omega
    have hget : cur.getD i [] = rows.getD i [] := by
      rw [hc]
      simp [List.getD, List.getElem?_append, Nat.min_eq_left (Nat.le_of_lt hil)]
    refine Ev.step (fun k => by rw [topo_neighbors.l1]) ?_
    refine Ev.pos (by omega) (Ev.pos (by omega) (Ev.pos (by omega) (Ev.bind' (sortI (rows.getD i [])) (Ev.const ?_) ?_)))
    · rw [rdL3, hget]
      unfold slices_Sort_int_int.f
      rw [if_pos (by have := hsh i hil; omega)]
      rfl
    · rw [wrap_nat (by omega), Int.toNat_natCast]
      refine ih (i + 1) _ (by omega) ?_
      rw [hc]
      apply List.ext_getElem?
      intro j
      have hmin : min i rows.length = i := by omega
      have hmin2 : min (i + 1) rows.length = i + 1 := by omega
      simp only [List.getElem?_set, List.getElem?_append, List.length_map, List.length_take, List.getElem?_map, List.getElem?_take, List.getElem?_drop, List.length_append, List.length_drop, hmin, hmin2]
      by_cases q1 : i = j
      · subst q1
        simp [hil, List.getD]
        omega
      · rw [if_neg q1]
        by_cases q2 : j < i
        · simp [q2, show j < i + 1 by omega]
        · have q3 : ¬ j < i + 1 := by omega
          simp only [q2, q3, if_false]
          congr 1
          omega
theorem impl_nb_from {a : Int} {l : List S37} (h : Valid a l) (r : List (List Int)) : ∀ d i rows, i + d = l.length → Raw a.toNat l i rows → Ev (fun k => topo_neighbors.l1 k (rawFrom l d i rows) ((rawFrom l d i rows).length : Int) 0) r → Ev (fun k => topo_neighbors.l0 k rows l l.length i) r := by
  intro d
  induction d with
  | zero =>
    intro i rows hi hr hk
    refine Ev.step (fun k => by rw [topo_neighbors.l0]) ?_
    exact Ev.neg (by omega) hk
  | succ d ih =>
    intro i rows hi hr hk
    have hil : i < l.length := by omega
    have hok := h.ok i hil
    have hfew := h.few
    obtain ⟨u, v, hu, hv, hul, hvl⟩ := hok.nat
    have hlen := hr.len
    have hst := hr.step hok rfl
    have s1 := hr.short u hul
    have s2 := hst.short v hvl
    refine Ev.step (fun k => by rw [topo_neighbors.l0]) ?_
    have hk2 := ih (i + 1) (addE rows (l.getD i z37)) (by omega) hst hk
    unfold addE at hk2 hst s2
    simp only [hu, hv, Int.toNat_natCast] at hk2 s2
    refine Ev.pos (by omega) (Ev.pos (by omega) (Ev.pos (by omega) ?_))
    rw [rd37, hu, hv, wrap_nat (by omega)]
    simp only [rdL3, Int.toNat_natCast]
    refine Ev.pos (by omega) (Ev.pos (by omega) (Ev.pos (by omega) (Ev.some_bind (Ev.pos (by omega) (Ev.pos (by omega) (Ev.pos ?_ ?_))))))
    · rw [getD_set (by omega)]
      have s3 := hr.short v hvl
      split
      · rw [List.length_append]; simp; simp at s1; omega
      · omega
    · exact hk2
theorem impl_nb {a : Int} {l : List S37} (h : Valid a l) : Ev (fun k => topo_neighbors.f k a l) (nb a l) := by
  unfold topo_neighbors.f
  have h1 := h.pos
  have h2 := h.most
  refine Ev.pos (by omega) (Ev.pos (by omega) (impl_nb_from h _ l.length 0 _ (by omega) (Raw.init _ _) ?_))
  have hr := h.raw
  refine sort_loop _ (fun x hx => ?_) (by rw [hr.len]; omega) _ 0 _ (Nat.zero_add _) (by simp)
  have := hr.short x (by rw [← hr.len]; exact hx)
  have := h.few
  omega
end Go.Proofs.Ythkpnkmbmlbefaa.PB

/- The examples of the chapter on graphs, reckoned. -/
namespace Go.Proofs.Ythkpnkmbmlbefaa.PB
open Go.RowKit Go.Proofs.Ythkpnkmbmlbefaa Go.Proofs.Ythkpnkmbmlbefaa.X Go.Proofs.YthkpnkmbmlbefaaW.PrintWords Go.Proofs.YthkpnkmbmlbefaaW.PrintLast
def exG : List S37 := [⟨0, 1, 2, 1⟩, ⟨3, 1, 2, 2⟩, ⟨0, 2, 1, 1⟩]
theorem exG_valid : Valid 4 exG := chk_valid (by kernel_rfl)
theorem ex0_valid : Valid 2 [] := chk_valid (by kernel_rfl)
theorem exG_nb : nb 4 exG = [[1, 2], [0], [0, 3], [2]] := by
  have h : rawFrom exG exG.length 0 (List.replicate (4 : Int).toNat []) = [[2, 1], [0], [0, 3], [2]] := by kernel_rfl
  unfold nb
  rw [h]
  simp only [List.map_cons, List.map_nil]
  rw [sortI_is (x := [2, 1]) (y := [1, 2]) (by decide) (by decide), sortI_is (x := [0]) (y := [0]) (by decide) (by decide), sortI_is (x := [0, 3]) (y := [0, 3]) (by decide) (by decide), sortI_is (x := [2]) (y := [2]) (by decide) (by decide)]
theorem ex0_nb : nb 2 [] = [[], []] := by
  unfold nb
  rw [show rawFrom [] ([] : List S37).length 0 (List.replicate (2 : Int).toNat []) = [[], []] by kernel_rfl]
  simp [sortI]
theorem exN : Ev (fun k => topo_neighbors.f k 4 exG) [[1, 2], [0], [0, 3], [2]] := exG_nb ▸ impl_nb exG_valid
theorem ex0N : Ev (fun k => topo_neighbors.f k 2 []) [[], []] := ex0_nb ▸ impl_nb ex0_valid
theorem exC : Ev (fun k => topo_Check.f k 4 exG) 0 := impl_check 4 exG
theorem ex0C : Ev (fun k => topo_Check.f k 2 []) 0 := impl_check 2 []
theorem ex_peer : Ev (fun k => topo_Peer.f k 4 exG 2 2) (3, 1, true) :=
  Ev.of (fun k => topo_Peer.mono _ _ _ _ k) (show topo_Peer.f 60 4 exG 2 2 = some (3, 1, true) by kernel_rfl)
theorem ex_knows (x : Int) (h : 0 ≤ x ∧ x < 4) : Ev (fun k => topo_knows.f k 4 exG x) true := by
  unfold topo_knows.f
  exact Ev.bind' _ exC (Ev.pos rfl (Ev.pos h.1 (Ev.const (by simp [h.2]))))
theorem ex_dist : Ev (fun k => topo_Dist.f k 4 exG 3) [2, 3, 1, 0] := by
  unfold topo_Dist.f
  exact Ev.bind' _ (ex_knows 3 (by decide)) (Ev.pos rfl (Ev.bind' _ exN (Ev.bind' _ (Ev.of (fun k => topo_distances.mono _ _ k) (show topo_distances.f 60 [[1, 2], [0], [0, 3], [2]] 3 = some [2, 3, 1, 0] by kernel_rfl)) (Ev.const rfl))))
theorem ex0_dist : Ev (fun k => topo_Dist.f k 2 [] 0) [0, -1] := by
  unfold topo_Dist.f topo_knows.f
  exact Ev.bind' true (Ev.bind' _ ex0C (Ev.pos rfl (Ev.pos (by decide) (Ev.const (by decide))))) (Ev.pos rfl (Ev.bind' _ ex0N (Ev.bind' _ (Ev.of (fun k => topo_distances.mono _ _ k) (show topo_distances.f 60 [[], []] 0 = some [0, -1] by kernel_rfl)) (Ev.const rfl))))
theorem ex_path : Ev (fun k => topo_Path.f k 4 exG 3 1) [3, 2, 0, 1] := by
  unfold topo_Path.f
  refine Ev.bind' _ (ex_knows 3 (by decide)) (Ev.pos rfl (Ev.bind' _ (ex_knows 1 (by decide)) ?_))
  refine Ev.step (fun k => by rw [topo_Path.j0]) ?_
  refine Ev.neg (by decide) (Ev.bind' _ exN (Ev.bind' _ (Ev.of (fun k => topo_distances.mono _ _ k) (show topo_distances.f 60 [[1, 2], [0], [0, 3], [2]] 1 = some [1, 0, 2, 3] by kernel_rfl)) ?_))
  refine Ev.pos (by decide) (Ev.pos (by decide) (Ev.neg (by decide) ?_))
  exact Ev.of (fun k => (topo_Path.mono_l k).2.1 _ _ _ _ _) (show topo_Path.l0 60 3 1 [[1, 2], [0], [0, 3], [2]] [1, 0, 2, 3] [3] = some [3, 2, 0, 1] by kernel_rfl)
theorem ex0_comp : Ev (fun k => topo_Comp.f k 2 []) [0, 1] := by
  unfold topo_Comp.f
  refine Ev.bind' _ ex0C (Ev.pos rfl (Ev.bind' _ ex0N (Ev.pos (by decide) (Ev.pos (by decide) ?_))))
  exact Ev.of (fun k => (topo_Comp.mono_l k).1 _ _ _) (show topo_Comp.l0 60 [[], []] (List.replicate (2 : Int).toNat 0) 0 = some [0, 1] by kernel_rfl)
theorem ex_diam : Ev (fun k => topo_Diameter.f k 4 exG) 3 := by
  unfold topo_Diameter.f
  refine Ev.bind' _ exC (Ev.pos rfl (Ev.bind' _ exN ?_))
  exact Ev.of (fun k => topo_Diameter.mono_l k _ _ _ _) (show topo_Diameter.l0 60 [[1, 2], [0], [0, 3], [2]] 0 4 0 = some 3 by kernel_rfl)
theorem eq_true' (x : List Int) (hx : x.length < 9223372036854775807) : Ev (fun k => slices_Equal_int_int.f k x x) true := by
  have := eq_ints x x hx
  simpa using this
theorem awake18 : Ev (fun k => timesynclaw18_awake.f k) true := by
  unfold timesynclaw18_awake.f
  refine Ev.some_bind (Ev.bind' (3, 1, true) ex_peer (Ev.pos rfl (Ev.pos rfl (Ev.pos rfl (Ev.bind' _ ex_dist (Ev.bind' _ (eq_true' _ (by decide)) (Ev.pos rfl (Ev.bind' _ ex_path (Ev.bind' _ (eq_true' _ (by decide)) (Ev.pos rfl (Ev.bind' _ ex0_dist (Ev.bind' _ (eq_true' _ (by decide)) (Ev.pos rfl ?_)))))))))))))
  exact Ev.bind' _ ex0_comp (Ev.bind' _ (eq_true' _ (by decide)) (Ev.pos rfl (Ev.bind' _ ex_diam (Ev.const rfl))))
theorem awake18' : Ev (fun k => (timesynclaw18_awake.f k).bind fun t => some t) true := Ev.bind' true awake18 (Ev.const rfl)
end Go.Proofs.Ythkpnkmbmlbefaa.PB

/- Distances: the program's search in waves and the reference's rounds give the numbers that the chapter's rules determine. -/
namespace Go.Proofs.Ythkpnkmbmlbefaa.PB
open Go.RowKit Go.Proofs.Ythkpnkmbmlbefaa Go.Proofs.Ythkpnkmbmlbefaa.X Go.Proofs.YthkpnkmbmlbefaaW.PrintWords Go.Proofs.YthkpnkmbmlbefaaW.PrintLast

theorem rd_gd (l : List Int) (i : Nat) : rd l (i : Int) = gd l i := rdI l i
theorem fill_set (i d : Nat) : (List.replicate i (-1 : Int) ++ List.replicate (d + 1) 0).set i (-1) = List.replicate (i + 1) (-1) ++ List.replicate d 0 := by
  rw [List.set_append_right _ _ (by simp), List.length_replicate, Nat.sub_self, List.replicate_succ, List.set_cons_zero, List.replicate_succ', List.append_assoc]
  rfl
theorem set_nat {l : List Int} {v : Int} (x : Nat) : l.set ((x : Int)).toNat v = l.set x v := by rw [Int.toNat_natCast]
/-! ### The search in waves -/
def toI (w : List Nat) : List Int := w.map fun n : Nat => (n : Int)
theorem toI_len (w : List Nat) : (toI w).length = w.length := by simp [toI]
section
variable {N a : Nat} {next : List (List Int)} {adj : Nat → Nat → Prop}
theorem push_high {x y : Nat} {d : List Int} {w : List Nat} (hlen : d.length = N) (hx : x < N) (hy : y < N) (hx0 : 0 ≤ gd d x) (h : ∀ z, z < N → gd d z + (negs d : Int) < N) (z : Nat) (hz : z < N) : gd (push x (d, w) y).1 z + (negs (push x (d, w) y).1 : Int) < N := by
  have hs := push_size (x := x) (y := y) (d := d) (w := w) (by omega) hx0
  unfold push at hs ⊢
  by_cases q : gd d y < 0
  · simp only [if_pos q] at hs ⊢
    rw [List.length_append, List.length_singleton] at hs
    rw [gd_set (by omega)]
    have h1 := h x hx
    have h2 := h z hz
    split <;> omega
  · simp only [if_neg q]
    exact h z hz
theorem bfs_ok (hR : Rows N next adj) (hN : N ≤ 24) : ∀ (m : Nat) (d : List Int) (w : List Nat), m ≤ 24 → Outer N adj a d w → negs d + w.length ≤ m → (∀ z, z < N → gd d z + (negs d : Int) < N) →
    ∃ r, Ev (fun k => topo_distances.l1 k next d (toI w)) r ∧ Outer N adj a r [] := by
  intro m
  induction m with
  | zero =>
    intro d w _ h hm _
    have hw : w = [] := List.length_eq_zero_iff.1 (by omega)
    subst hw
    refine ⟨d, ?_, h⟩
    refine Ev.step (fun k => by rw [topo_distances.l1]) ?_
    exact Ev.neg (by simp [toI]) (Ev.const rfl)
  | succ m ih =>
    intro d w hm24 h hm hhigh
    cases w with
    | nil =>
      refine ⟨d, ?_, h⟩
      refine Ev.step (fun k => by rw [topo_distances.l1]) ?_
      exact Ev.neg (by simp [toI]) (Ev.const rfl)
    | cons x w =>
      have hr : ∀ u v, adj u v → u < N ∧ v < N := fun u v q => ⟨(hR.all u v q).1, (hR.all u v q).2.1⟩
      have hx := (h.node x List.mem_cons_self).1
      have hrow := hR.mem x hx
      have hsh := hR.short x hx
      have hnl := hR.len
      rw [List.length_cons] at hm
      have hI : ∀ e j done d w, j + e = (next.getD x []).length → Inner N adj a x done d w → (∀ i, i < j → ∀ z : Nat, (next.getD x []).getD i 0 = z → z ∈ done) → negs d + w.length ≤ m → (∀ z, z < N → gd d z + (negs d : Int) < N) →
          ∃ r, Ev (fun k => topo_distances.l2 k next d (toI w) x (next.getD x []) (next.getD x []).length j) r ∧ Outer N adj a r [] := by
        intro e
        induction e with
        | zero =>
          intro j done d w hj hin hdone hm2 hh
          obtain ⟨r, h1, h2⟩ := ih d w (by omega) (hin.outer (fun y hy => by
            obtain ⟨_, _, hmem⟩ := hR.all x y hy
            obtain ⟨i, hi, he⟩ := List.mem_iff_getElem.1 hmem
            refine hdone i (by omega) y ?_
            rw [List.getD_eq_getElem?_getD, List.getElem?_eq_getElem hi, Option.getD_some, he])) hm2 hh
          refine ⟨r, ?_, h2⟩
          refine Ev.step (fun k => by rw [topo_distances.l2]) ?_
          exact Ev.neg (by omega) h1
        | succ e ihe =>
          intro j done d w hj hin hdone hm2 hh
          have hjl : j < (next.getD x []).length := by omega
          obtain ⟨y, hy, hyN, hadj⟩ := hrow ((next.getD x []).getD j 0) (getD_in hjl 0)
          have hlen := hin.len
          have hx0 := hin.hx.2
          have hsz := push_size (x := x) (y := y) (d := d) (w := w) (by omega) hx0
          have hhi := push_high (w := w) hlen hx hyN hx0 hh
          have hin2 := hin.push hr hadj
          obtain ⟨r, h1, h2⟩ := ihe (j + 1) (y :: done) (push x (d, w) y).1 (push x (d, w) y).2 (by omega) hin2 (fun i hi z hz => by
            by_cases q : i = j
            · subst q
              have : z = y := by rw [hy] at hz; omega
              subst this; exact List.mem_cons_self
            · exact List.mem_cons_of_mem _ (hdone i (by omega) z hz)) (by omega) hhi
          refine ⟨r, ?_, h2⟩
          refine Ev.step (fun k => by rw [topo_distances.l2]) ?_
          refine Ev.pos (by omega) (Ev.pos (by omega) (Ev.pos (by omega) ?_))
          rw [rdI, hy, rd_gd, rd_gd, wrap_nat (by omega), set_nat]
          unfold push at h1
          have b1 := hh x hx
          refine Ev.pos (by omega) (Ev.pos (by omega) (Ev.ite_ (fun q => ?_) (fun q => ?_)))
          · simp only [if_pos q] at h1
            refine Ev.pos (by omega) (Ev.pos (by omega) (Ev.pos (by rw [toI_len]; omega) ?_))
            rw [wrap_id (by omega) (by omega), show toI w ++ [(y : Int)] = toI (w ++ [y]) by simp [toI]]
            exact h1
          · simp only [if_neg q] at h1
            exact h1
      obtain ⟨r, h1, h2⟩ := hI _ 0 [] d w (Nat.zero_add _) h.inner (fun i hi => by omega) (by omega) hhigh
      refine ⟨r, ?_, h2⟩
      refine Ev.step (fun k => by rw [topo_distances.l1]) ?_
      have e1 : rd (toI (x :: w)) 0 = (x : Int) := rfl
      have e2 : (toI (x :: w)).drop ((1 : Int)).toNat = toI w := rfl
      rw [e1, e2, rdL3]
      refine Ev.pos (by rw [toI_len, List.length_cons]; omega) (Ev.pos (by rw [toI_len, List.length_cons]; omega) (Ev.pos (by rw [toI_len, List.length_cons]; omega) (Ev.pos (by omega) (Ev.pos (by omega) h1))))
theorem fill_ok (hN : N ≤ 24) {x1 : Int} {r : List Int} (hr : Ev (fun k => if 0 ≤ x1 then (if x1 < ((List.replicate N (-1 : Int)).length : Int) then (topo_distances.l1 k next ((List.replicate N (-1 : Int)).set x1.toNat 0) [x1]) else none) else none) r) :
    ∀ d i, i + d = N → Ev (fun k => topo_distances.l0 k next x1 (List.replicate i (-1 : Int) ++ List.replicate d 0) (N : Int) i) r := by
  intro d
  induction d with
  | zero =>
    intro i hi
    refine Ev.step (fun k => by rw [topo_distances.l0]) ?_
    obtain rfl : i = N := by omega
    rw [List.replicate_zero, List.append_nil]
    exact Ev.neg (by omega) hr
  | succ d ih =>
    intro i hi
    refine Ev.step (fun k => by rw [topo_distances.l0]) ?_
    refine Ev.pos (by omega) (Ev.pos (by omega) (Ev.pos (by simp; omega) ?_))
    rw [wrap_nat (by omega), set_nat, fill_set]
    exact ih (i + 1) (by omega)
theorem negs_init (ha : a < N) : negs ((List.replicate N (-1 : Int)).set a 0) + 1 = N := by
  have := negs_set (c := List.replicate N (-1 : Int)) (x := a) (by simpa using ha) (by simp [gd, List.getD, ha]) (v := 0) (by omega)
  rw [this]
  simp [negs, List.countP_replicate]
theorem distances_ok (hR : Rows N next adj) (hN : N ≤ 24) (ha : a < N) : ∃ r, Ev (fun k => topo_distances.f k next a) r ∧ r.length = N ∧ IsDist N adj a (gd r) := by
  have hr : ∀ u v, adj u v → u < N ∧ v < N := fun u v q => ⟨(hR.all u v q).1, (hR.all u v q).2.1⟩
  have hn := negs_init ha
  have h0 : Outer N adj a ((List.replicate N (-1 : Int)).set a 0) [a] := Outer.init ha
  have g : ∀ j, gd ((List.replicate N (-1)).set a 0) j = if j = a then 0 else gd (List.replicate N (-1)) j := fun j => gd_set (by simpa using ha) _ j
  have gn : ∀ j, j < N → gd (List.replicate N (-1)) j = -1 := fun j hj => by simp [gd, List.getD, hj]
  obtain ⟨r, h1, h2⟩ := bfs_ok hR hN N _ _ hN h0 (by simp; omega) (fun z hz => by rw [g]; split
                                                                                  · omega
                                                                                  · rw [gn z hz]; omega)
  refine ⟨r, ?_, h2.len, h2.dist hr⟩
  unfold topo_distances.f
  have hnl := hR.len
  rw [hnl]
  refine Ev.pos (by omega) (Ev.pos (by omega) (Ev.some_bind ?_))
  rw [Int.toNat_natCast, List.length_replicate]
  have := fill_ok (next := next) (x1 := (a : Int)) hN (r := r) (Ev.pos (by omega) (Ev.pos (by simpa using ha) (by rw [set_nat]; exact h1))) N 0 (by omega)
  simpa using this
end
/-- The distances that the chapter determines. -/
theorem Valid.dist {a : Int} {l : List S37} (h : Valid a l) {x : Nat} (hx : x < a.toNat) : ∃ r, Ev (fun k => topo_distances.f k (nb a l) x) r ∧ r.length = a.toNat ∧ IsDist a.toNat (adjOf (es l)) x (gd r) :=
  distances_ok h.rows (by have := h.most; omega) hx
open Classical in
noncomputable def dst (a : Int) (l : List S37) (x : Nat) : List Int := if h : Valid a l ∧ x < a.toNat then Classical.choose (h.1.dist h.2) else []
theorem Valid.dst_ev {a : Int} {l : List S37} (h : Valid a l) {x : Nat} (hx : x < a.toNat) : Ev (fun k => topo_distances.f k (nb a l) x) (dst a l x) := by
  unfold dst; rw [dif_pos ⟨h, hx⟩]; exact (Classical.choose_spec (h.dist hx)).1
theorem Valid.dst_len {a : Int} {l : List S37} (h : Valid a l) {x : Nat} (hx : x < a.toNat) : (dst a l x).length = a.toNat := by
  unfold dst; rw [dif_pos ⟨h, hx⟩]; exact (Classical.choose_spec (h.dist hx)).2.1
theorem Valid.dst_is {a : Int} {l : List S37} (h : Valid a l) {x : Nat} (hx : x < a.toNat) : IsDist a.toNat (adjOf (es l)) x (gd (dst a l x)) := by
  unfold dst; rw [dif_pos ⟨h, hx⟩]; exact (Classical.choose_spec (h.dist hx)).2.2
/-! ### knows, Dist -/
def isNode (a x : Int) : Prop := 0 ≤ x ∧ x < a
instance (a x : Int) : Decidable (isNode a x) := by unfold isNode; infer_instance
theorem impl_knows (a : Int) (l : List S37) (x : Int) : Ev (fun k => topo_knows.f k a l x) (decide (chk a l = 0 ∧ isNode a x)) := by
  unfold topo_knows.f
  refine Ev.bind' _ (impl_check a l) (Ev.ite_ (fun h => Ev.ite_ (fun h1 => Ev.const ?_) (fun h1 => Ev.const ?_)) (fun h => Ev.const ?_))
  · simp only [h, isNode, true_and]
    congr 1
    by_cases q : x < a <;> simp [q] <;> omega
  · have : ¬ (chk a l = 0 ∧ isNode a x) := fun q => h1 q.2.1
    simp [this]
  · simp [h]
/-- The answer of Dist. -/
noncomputable def distR (a : Int) (l : List S37) (x : Int) : List Int := if chk a l = 0 ∧ isNode a x then dst a l x.toNat else []
theorem impl_dist (a : Int) (l : List S37) (x : Int) : Ev (fun k => topo_Dist.f k a l x) (distR a l x) := by
  unfold topo_Dist.f distR
  refine Ev.bind' _ (impl_knows a l x) (Ev.ite_ (fun h => ?_) (fun h => ?_))
  · have h := of_decide_eq_true h
    rw [if_pos h]
    have hv := chk_valid h.1
    have hx := h.2
    unfold isNode at hx
    have := hv.dst_ev (x := x.toNat) (by omega)
    rw [Int.toNat_of_nonneg hx.1] at this
    exact Ev.bind' _ (impl_nb hv) (Ev.bind' _ this (Ev.const rfl))
  · rw [if_neg (by simpa using h)]
    exact Ev.const rfl
/-! ### The reference's rounds -/
theorem better_ok (d e : Int) (he : e < 9223372036854775807) (he0 : -1 ≤ e) : timesyncref18_better.f d e = some (better d e) := by
  unfold timesyncref18_better.f better
  rw [wrap_id (by omega) (by omega)]
  by_cases h1 : e ≥ 0
  · rw [if_pos h1]
    by_cases h2 : d < 0
    · rw [if_pos h2, if_pos ⟨h1, .inl h2⟩]
    · rw [if_neg h2]
      by_cases h3 : e + 1 < d
      · rw [if_pos h3, if_pos ⟨h1, .inr h3⟩]
      · rw [if_neg h3, if_neg (fun q => by omega)]
  · rw [if_neg h1, if_neg (fun q => h1 q.1)]
/-- Numbers within bounds. -/
def Small (N c : Nat) (d : List Int) : Prop := d.length = N ∧ ∀ x, x < N → -1 ≤ gd d x ∧ gd d x ≤ c
theorem Small.upd {N c : Nat} {d : List Int} (h : Small N c d) {x y : Nat} (hx : x < N) (hy : y < N) : Small N (c + 1) (upd d x y) := by
  refine ⟨by simp [PB.upd, h.1], fun z hz => ?_⟩
  have h1 := h.2 z hz
  have h2 := h.2 y hy
  have h3 := h.2 x hx
  unfold PB.upd
  rw [gd_set (by rw [h.1]; exact hx)]
  split
  · unfold better
    split <;> omega
  · omega
theorem Small.relax {N c : Nat} {d : List Int} (h : Small N c d) {p : Nat × Nat} (hx : p.1 < N) (hy : p.2 < N) : Small N (c + 2) (relax d p) := (h.upd hx hy).upd hy hx
theorem ref_l2 {a : Int} {l : List S37} (h : Valid a l) (rnd : Int) (r : List Int) : ∀ e j c d, j + e = l.length → Small a.toNat c d → c + 2 * e ≤ 100000 →
    (Small a.toNat (c + 2 * e) (((es l).drop j).foldl relax d) → Ev (fun k => timesyncref18_Dist.l1 k (((es l).drop j).foldl relax d) (wrap64 (rnd + 1)) a l) r) → Ev (fun k => timesyncref18_Dist.l2 k d rnd j a l) r := by
  intro e
  induction e with
  | zero =>
    intro j c d hj hs hc hk
    refine Ev.step (fun k => by rw [timesyncref18_Dist.l2]) ?_
    refine Ev.neg (by omega) ?_
    rw [List.drop_of_length_le (by simp [es]; omega)] at hk
    exact hk hs
  | succ e ih =>
    intro j c d hj hs hc hk
    have hjl : j < l.length := by omega
    have hfew := h.few
    obtain ⟨u, v, hu, hv, hul, hvl⟩ := (h.ok j hjl).nat
    have hdrop : (es l).drop j = (u, v) :: (es l).drop (j + 1) := by
      rw [List.drop_eq_getElem_cons (by simp [es]; omega)]
      congr 1
      have : (l.getD j z37) = l[j] := by simp [List.getD, hjl]
      rw [this] at hu hv
      simp [es, hu, hv]
    have hs1 := hs.upd hul hvl
    have hs2 := hs.relax (p := (u, v)) hul hvl
    have := ih (j + 1) (c + 2) (relax d (u, v)) (by omega) hs2 (by omega) (fun q => by
      have := hk (by rw [hdrop, List.foldl_cons]; rw [show c + 2 * (e + 1) = c + 2 + 2 * e by omega]; exact q)
      rw [hdrop, List.foldl_cons] at this
      exact this)
    have hlen := hs.1
    have b1 := hs.2 v hvl
    have b2 := hs1.2 u hul
    refine Ev.step (fun k => by rw [timesyncref18_Dist.l2]) ?_
    rw [rd37, hu, hv, rd_gd, rd_gd, wrap_nat (by omega), Int.toNat_natCast, Int.toNat_natCast]
    refine Ev.pos (by omega) (Ev.pos (by omega) (Ev.pos (by omega) (Ev.pos (by omega) (Ev.pos (by omega) (Ev.pos (by omega) (Ev.bind' (better (gd d u) (gd d v)) (Ev.const (better_ok _ _ (by omega) (by omega))) (Ev.some_bind ?_)))))))
    refine Ev.bind' (better (gd (upd d u v) v) (gd (upd d u v) u)) (Ev.const ?_) this
    rw [rd_gd, rd_gd]
    show timesyncref18_better.f (gd (PB.upd d u v) v) (gd (PB.upd d u v) u) = _
    exact better_ok _ _ (by omega) (by omega)
theorem ref_l1 {a : Int} {l : List S37} (h : Valid a l) : ∀ e j c d, j + e = a.toNat → Small a.toNat c d → c + 128 * e ≤ 100000 → Ev (fun k => timesyncref18_Dist.l1 k d j a l) (rounds (es l) e d) := by
  have hpos := h.pos
  have hmost := h.most
  have hfew := h.few
  intro e
  induction e with
  | zero =>
    intro j c d hj hs hc
    refine Ev.step (fun k => by rw [timesyncref18_Dist.l1]) ?_
    exact Ev.neg (by omega) (Ev.const rfl)
  | succ e ih =>
    intro j c d hj hs hc
    refine Ev.step (fun k => by rw [timesyncref18_Dist.l1]) ?_
    refine Ev.pos (by omega) (ref_l2 h j _ l.length 0 c d (Nat.zero_add _) hs (by omega) (fun q => ?_))
    rw [wrap_nat (by omega)]
    exact ih (j + 1) _ _ (by omega) q (by omega)
theorem ref_l0 {a : Int} {l : List S37} (h : Valid a l) {x1 : Int} (hx : isNode a x1) : ∀ d i, i + d = a.toNat → Ev (fun k => timesyncref18_Dist.l0 k x1 (List.replicate i (-1 : Int) ++ List.replicate d 0) i a l) (bf a.toNat (es l) x1.toNat) := by
  have hpos := h.pos
  have hmost := h.most
  unfold isNode at hx
  intro d
  induction d with
  | zero =>
    intro i hi
    refine Ev.step (fun k => by rw [timesyncref18_Dist.l0]) ?_
    obtain rfl : i = a.toNat := by omega
    rw [List.replicate_zero, List.append_nil]
    refine Ev.neg (by omega) (Ev.pos (by omega) (Ev.pos (by simp; omega) ?_))
    refine ref_l1 h a.toNat 0 0 _ (by omega) ⟨by simp, fun z hz => ?_⟩ (by omega)
    rw [gd_set (by simp; omega)]
    split
    · omega
    · have : gd (List.replicate a.toNat (-1)) z = -1 := by simp [gd, List.getD, hz]
      omega
  | succ d ih =>
    intro i hi
    refine Ev.step (fun k => by rw [timesyncref18_Dist.l0]) ?_
    refine Ev.pos (by omega) (Ev.pos (by omega) (Ev.pos (by simp; omega) ?_))
    rw [wrap_nat (by omega), set_nat, fill_set]
    exact ih (i + 1) (by omega)
theorem Valid.bf_dst {a : Int} {l : List S37} (h : Valid a l) {x : Nat} (hx : x < a.toNat) : bf a.toNat (es l) x = dst a l x := by
  obtain ⟨h1, h2⟩ := bf_ok hx (h.dst_is hx) h.range
  apply List.ext_getElem?
  intro i
  by_cases hi : i < a.toNat
  · have := h2 i hi
    have h3 := h.dst_len hx
    unfold gd at this
    simp only [List.getD_eq_getElem?_getD] at this
    rw [List.getElem?_eq_getElem (by omega), List.getElem?_eq_getElem (by omega)] at this ⊢
    simpa using this
  · rw [List.getElem?_eq_none (by omega), List.getElem?_eq_none (by have := h.dst_len hx; omega)]
theorem ref_isNode (a : Int) (l : List S37) (x : Int) : timesyncref18_isNode.f a l x = some (decide (isNode a x)) := by
  unfold timesyncref18_isNode.f isNode
  by_cases h : x ≥ 0
  · simp [h]
  · simp [h] <;> omega
theorem ref_dist (a : Int) (l : List S37) (x : Int) : Ev (fun k => timesyncref18_Dist.f k a l x) (distR a l x) := by
  unfold timesyncref18_Dist.f distR
  refine Ev.bind' _ (ref_check a l) (Ev.ite_ (fun h => ?_) (fun h => ?_))
  · rw [ref_isNode]
    refine Ev.some_bind ?_
    refine Ev.step (fun k => by rw [timesyncref18_Dist.j0]) ?_
    refine Ev.ite_ (fun h1 => ?_) (fun h1 => ?_)
    · have : ¬ isNode a x := by simpa using h1
      rw [if_neg (fun q => this q.2)]
      exact Ev.const rfl
    · have hx : isNode a x := by simpa using h1
      rw [if_pos ⟨h, hx⟩]
      have hv := chk_valid h
      have hpos := hv.pos
      have hmost := hv.most
      have hx' := hx
      unfold isNode at hx'
      refine Ev.pos (by omega) (Ev.pos (by omega) ?_)
      have := ref_l0 hv hx a.toNat 0 (by omega)
      rw [hv.bf_dst (by omega)] at this
      simpa using this
  · refine Ev.step (fun k => by rw [timesyncref18_Dist.j0]) ?_
    rw [if_neg (fun q => h q.1)]
    exact Ev.pos rfl (Ev.const rfl)
end Go.Proofs.Ythkpnkmbmlbefaa.PB
