/- Ytlfilhplklifjaa: part 4 of 4 of the proof that the law ChooseSelects returns true for every input, its arguments reading as before. No condition. -/
import Derived.Test.YtlfilhplklifjaaMChooseSelects1
import Derived.Test.YtlfilhplklifjaaMChooseSelects3
import Derived.Test.YtlfilhplklifjaaMChooseSelects2
import Derived.KernelRfl
import Derived.Test.YtlfilhplklifjaaWMore
import Derived.Deep.Slices
import Derived.DataReads
import Derived.Test.YtlfilhplklifjaaRows
import Derived.WalkKit
import Derived.ProofKit
import Derived.OpenShut
import Derived.ShutString
import Derived.ChangeOld
import Derived.Below
import Derived.SizedLaws
import Derived.WideShapes
namespace Go.Proofs.Ytlfilhplklifjaa.X
open Go.RowKit Go.Proofs.YtlfilhplklifjaaW.PrintWords Go.Proofs.YtlfilhplklifjaaW.PrintLast Go.Proofs.YtlfilhplklifjaaW.PrintMore
attribute [local go_sem] max2_int min2_int max_two min_two max_three min_three max_four min_four   -- for this text's walks alone
set_option linter.unusedVariables false
set_option linter.unusedSimpArgs false

attribute [local go_sem high] eqA29
/-! ### timesynclaw24_ChooseSelects: function 4 -/
def timesynclaw24_ChooseSelects.f (k : Nat) (l0 : List (S37)) : Option (Bool) := if (l0.length : Int) > 100 then ((timesynclaw24_awake.f k).bind fun t296 => (some t296)) else ((choose_Select.f k l0).bind fun bt297 => ((timesyncref24_Select.f k l0).bind fun bt304 => ((choose_Falsetickers.f k l0).bind fun bt311 => ((timesyncref24_Falsetickers.f k l0).bind fun bt315 => ((slices_Equal_int_int.f k bt297.1 bt304.1).bind fun t319 => (if t319 = true then (if (bt297.2.1 == bt304.2.1 && (bt297.2.2.1 == bt304.2.2.1)) = true then (if bt297.2.2.2 = bt304.2.2.2 then ((slices_Equal_int_int.f k bt311.1 bt315.1).bind fun t320 => (if t320 = true then (if bt311.2 = bt315.2 then ((timesynclaw24_awake.f k).bind fun t321 => (some t321)) else (none)) else (none))) else (none)) else (none)) else (none)))))))
theorem timesynclaw24_ChooseSelects.mono : ∀ a0 k, LeO (timesynclaw24_ChooseSelects.f k a0) (timesynclaw24_ChooseSelects.f (k + 1) a0) := by
 intro a0 k
 unfold timesynclaw24_ChooseSelects.f
 repeat' first
   | (with_reducible exact choose_Falsetickers.mono _ _)
   | (with_reducible exact choose_Select.mono _ _)
   | (with_reducible exact slices_Equal_int_int.mono _ _ _)
   | (with_reducible exact timesynclaw24_awake.mono _)
   | (with_reducible exact timesyncref24_Falsetickers.mono _ _)
   | (with_reducible exact timesyncref24_Select.mono _ _)
   | (with_reducible exact LeO.refl _)
   | (with_reducible exact LeO.none _)
   | (with_reducible refine LeO.ite ?_ ?_)
   | (with_reducible refine LeO.bind ?_ (fun _ => ?_))
   | exact choose_Falsetickers.mono _ _
   | exact choose_Select.mono _ _
   | exact slices_Equal_int_int.mono _ _ _
   | exact timesynclaw24_awake.mono _
   | exact timesyncref24_Falsetickers.mono _ _
   | exact timesyncref24_Select.mono _ _
   | exact LeO.none _
   | refine LeO.ite ?_ ?_
   | refine LeO.bind ?_ (fun _ => ?_)
set_option maxHeartbeats 8000000 in
set_option maxRecDepth 100000 in
theorem timesynclaw24_ChooseSelects.calls (k : Nat) (A0 : Option Addr) (c0 : Nat) (l0 : List (S37)) (r : Bool) (w : World) (hr0 : Kd.C k37 w A0 l0.length l0) (hc0 : l0.length ≤ c0) (h : timesynclaw24_ChooseSelects.f k l0 = some r) :
  Calls Try.prog 4 #[.slice A0 l0.length c0] w fun e w' => e = .returned (.bool r) ∧ Below w.heap.size w w' := by
 have hu29 := Try.underlying29
 have HR0 := Aside0.mk hr0
 have HC0 := Aside0.mk hc0
 clear hr0 hc0
 have HB := Aside0.mk (Below.refl w.heap.size w)
 have H : (if (l0.length : Int) > 100 then ((timesynclaw24_awake.f k).bind fun t296 => (some t296)) else ((choose_Select.f k l0).bind fun bt297 => ((timesyncref24_Select.f k l0).bind fun bt304 => ((choose_Falsetickers.f k l0).bind fun bt311 => ((timesyncref24_Falsetickers.f k l0).bind fun bt315 => ((slices_Equal_int_int.f k bt297.1 bt304.1).bind fun t319 => (if t319 = true then (if (bt297.2.1 == bt304.2.1 && (bt297.2.2.1 == bt304.2.2.1)) = true then (if bt297.2.2.2 = bt304.2.2.2 then ((slices_Equal_int_int.f k bt311.1 bt315.1).bind fun t320 => (if t320 = true then (if bt311.2 = bt315.2 then ((timesynclaw24_awake.f k).bind fun t321 => (some t321)) else (none)) else (none))) else (none)) else (none)) else (none)))))))) = some r := h
 clear h
 by_cases c2 : (l0.length : Int) > 100
 ·rw [if_pos c2] at H
  have c2b0 : decide (100 < (l0.length : Int)) = true := decide_eq_true c2
  have c2b1 : decide (100 < l0.length) = true := decide_eq_true (by omega)
  clear c2
  replace H := Option.bind_eq_some_iff.mp H
  obtain ⟨t296, A30, H⟩ := H
  replace H : (some t296) = some r := H
  have A3 := Aside0.mk A30
  clear A30
  obtain rfl := Option.some.inj H
  go_enter Try.func4, Try.ntmps4
  go_wp2_with (first | ((with_reducible refine gate_callee (f := 14) rfl ?_); refine goesL_ (some 16) rfl rfl Try.func14 (by kernel_rfl) rfl #[] rfl (by (try simp only [List.map_toArray, List.map_cons, List.map_nil]); first | done | rfl | (simp only [List.length_drop, List.length_take]; rfl)) ?_; (with_reducible refine (timesynclaw24_awake.calls k  t296 _ A3.out).mono ?_); rintro e w4 ⟨rfl, hb⟩; refine ⟨_, rfl, ?_⟩; have n0_ := Aside0.mk (below_step (by repeat (first | (with_reducible first | exact HB.out | apply below_alloc | apply pw_below_drewN | apply below_drew1) | exact HB.out)) hb); clear HB; have HB := n0_; clear n0_; (try clear hb); (try clear hb2); (try clear hk); (try clear hi)))
  go_ret
  exact ⟨by first | rfl | (simp [errW_none, errW_some] <;> rfl) | (simp [*, errW_none, errW_some] <;> rfl), by repeat (first | (with_reducible first | exact HB.out | apply below_alloc | apply pw_below_drewN | apply below_drew1) | exact HB.out)⟩
 ·rw [if_neg c2] at H
  have c2b0 : decide (100 < (l0.length : Int)) = false := decide_eq_false c2
  have c2b1 : decide (100 < l0.length) = false := decide_eq_false (by omega)
  clear c2
  replace H := Option.bind_eq_some_iff.mp H
  obtain ⟨⟨t297, t300, t301, t302⟩, A50, H⟩ := H
  replace H : ((timesyncref24_Select.f k l0).bind fun bt304 => ((choose_Falsetickers.f k l0).bind fun bt311 => ((timesyncref24_Falsetickers.f k l0).bind fun bt315 => ((slices_Equal_int_int.f k t297 bt304.1).bind fun t319 => (if t319 = true then (if (t300 == bt304.2.1 && (t301 == bt304.2.2.1)) = true then (if t302 = bt304.2.2.2 then ((slices_Equal_int_int.f k bt311.1 bt315.1).bind fun t320 => (if t320 = true then (if bt311.2 = bt315.2 then ((timesynclaw24_awake.f k).bind fun t321 => (some t321)) else (none)) else (none))) else (none)) else (none)) else (none)))))) = some r := H
  have A5 := Aside0.mk A50
  clear A50
  replace H := Option.bind_eq_some_iff.mp H
  obtain ⟨⟨t304, t307, t308, t309⟩, A60, H⟩ := H
  replace H : ((choose_Falsetickers.f k l0).bind fun bt311 => ((timesyncref24_Falsetickers.f k l0).bind fun bt315 => ((slices_Equal_int_int.f k t297 t304).bind fun t319 => (if t319 = true then (if (t300 == t307 && (t301 == t308)) = true then (if t302 = t309 then ((slices_Equal_int_int.f k bt311.1 bt315.1).bind fun t320 => (if t320 = true then (if bt311.2 = bt315.2 then ((timesynclaw24_awake.f k).bind fun t321 => (some t321)) else (none)) else (none))) else (none)) else (none)) else (none))))) = some r := H
  have A6 := Aside0.mk A60
  clear A60
  replace H := Option.bind_eq_some_iff.mp H
  obtain ⟨⟨t311, t312⟩, A70, H⟩ := H
  replace H : ((timesyncref24_Falsetickers.f k l0).bind fun bt315 => ((slices_Equal_int_int.f k t297 t304).bind fun t319 => (if t319 = true then (if (t300 == t307 && (t301 == t308)) = true then (if t302 = t309 then ((slices_Equal_int_int.f k t311 bt315.1).bind fun t320 => (if t320 = true then (if t312 = bt315.2 then ((timesynclaw24_awake.f k).bind fun t321 => (some t321)) else (none)) else (none))) else (none)) else (none)) else (none)))) = some r := H
  have A7 := Aside0.mk A70
  clear A70
  replace H := Option.bind_eq_some_iff.mp H
  obtain ⟨⟨t315, t316⟩, A80, H⟩ := H
  replace H : ((slices_Equal_int_int.f k t297 t304).bind fun t319 => (if t319 = true then (if (t300 == t307 && (t301 == t308)) = true then (if t302 = t309 then ((slices_Equal_int_int.f k t311 t315).bind fun t320 => (if t320 = true then (if t312 = t316 then ((timesynclaw24_awake.f k).bind fun t321 => (some t321)) else (none)) else (none))) else (none)) else (none)) else (none))) = some r := H
  have A8 := Aside0.mk A80
  clear A80
  replace H := Option.bind_eq_some_iff.mp H
  obtain ⟨t319, A90, H⟩ := H
  replace H : (if t319 = true then (if (t300 == t307 && (t301 == t308)) = true then (if t302 = t309 then ((slices_Equal_int_int.f k t311 t315).bind fun t320 => (if t320 = true then (if t312 = t316 then ((timesynclaw24_awake.f k).bind fun t321 => (some t321)) else (none)) else (none))) else (none)) else (none)) else (none)) = some r := H
  have A9 := Aside0.mk A90
  clear A90
  by_cases c10 : t319 = true
  ·subst c10
   have H1 : (if (t300 == t307 && (t301 == t308)) = true then (if t302 = t309 then ((slices_Equal_int_int.f k t311 t315).bind fun t320 => (if t320 = true then (if t312 = t316 then ((timesynclaw24_awake.f k).bind fun t321 => (some t321)) else (none)) else (none))) else (none)) else (none)) = some r := by rw [if_pos rfl] at H; exact H
   clear H
   have H := H1
   clear H1
   by_cases c11 : (t300 == t307 && (t301 == t308)) = true
   ·rw [if_pos c11] at H
    have c11b0 : (t300 == t307 && (t301 == t308)) = true := c11
    (try (have c11b1 : decide (t300 = t307 && (t301 == t308)) = true := by simpa using c11))
    (try (have c11b2 : (t300 == t307 && (t301 == t308)) = true := by simpa using c11))
    clear c11
    by_cases c12 : t302 = t309
    ·rw [if_pos c12] at H
     have c12b0 : (t302 == t309) = true := beq_iff_eq.mpr c12
     have c12b1 : (t302 != t309) = false := bne_eq_false_iff_eq.mpr c12
     clear c12
     replace H := Option.bind_eq_some_iff.mp H
     obtain ⟨t320, A130, H⟩ := H
     replace H : (if t320 = true then (if t312 = t316 then ((timesynclaw24_awake.f k).bind fun t321 => (some t321)) else (none)) else (none)) = some r := H
     have A13 := Aside0.mk A130
     clear A130
     by_cases c14 : t320 = true
     ·subst c14
      have H1 : (if t312 = t316 then ((timesynclaw24_awake.f k).bind fun t321 => (some t321)) else (none)) = some r := by rw [if_pos rfl] at H; exact H
      clear H
      have H := H1
      clear H1
      by_cases c15 : t312 = t316
      ·rw [if_pos c15] at H
       have c15b0 : (t312 == t316) = true := beq_iff_eq.mpr c15
       have c15b1 : (t312 != t316) = false := bne_eq_false_iff_eq.mpr c15
       clear c15
       replace H := Option.bind_eq_some_iff.mp H
       obtain ⟨t321, A160, H⟩ := H
       replace H : (some t321) = some r := H
       have A16 := Aside0.mk A160
       clear A160
       obtain rfl := Option.some.inj H
       go_enter Try.func4, Try.ntmps4
       go_wp2_with (first | ((with_reducible refine gate_callee (f := 17) rfl ?_); refine goesL_ (some 19) rfl rfl Try.func17 (by kernel_rfl) rfl #[.slice A0 l0.length c0] rfl (by (try simp only [List.map_toArray, List.map_cons, List.map_nil]); first | done | rfl | (simp only [List.length_drop, List.length_take]; rfl)) ?_; (with_reducible refine (choose_Select.calls k _ _ l0 t297 t300 t301 t302 _ ?side1 ?side2 A5.out).mono ?_); (case side1 => repeat (first | exact HR0.out | (with_reducible refine Kd.C_alloc ?_ _) | (with_reducible refine Kd.C_drewN ?_ _) | (with_reducible refine Kd.C_drew ?_))); (case side2 => exact HC0.out); rintro e w17 ⟨v298, rfl, ho0, hb⟩; refine ⟨_, rfl, ?_⟩; have n0_ := Aside0.mk (Kd.R_lower ho0 (below_size (by repeat (first | (with_reducible first | exact HB.out | apply below_alloc | apply pw_below_drewN | apply below_drew1) | exact HB.out)))); have n1_ := Aside0.mk (below_step (by repeat (first | (with_reducible first | exact HB.out | apply below_alloc | apply pw_below_drewN | apply below_drew1) | exact HB.out)) hb); clear HB; have HO299 := n0_; have HB := n1_; clear n0_ n1_; (try clear hb); (try clear hb2); (try clear hk); (try clear hi); (try clear ho0)) | ((with_reducible refine gate_dst (N := 4) rfl ?_); refine box_event ?hg (N := 4) ?hd (cs := #[.int .i64 0, .int .i64 0]) (t := 29) ?hr ?_; (case hd => rfl); (case hg => rfl); (case hr => first | (go_simp; done) | (go_simp; rfl)); intro gb303 hg w18 hbox hb; have n0_ := Aside0.mk (Kd.R_below (by (with_reducible repeat (first | apply Kd.R_alloc | apply Kd.R_drewN | apply Kd.R_drew)); exact HO299.out) hb); have n1_ := Aside0.mk (below_step (by repeat (first | (with_reducible first | exact HB.out | apply below_alloc | apply pw_below_drewN | apply below_drew1) | exact HB.out)) hb); have n2_ := Aside0.mk (hbox); have n3_ := Aside0.mk ((by rw [hg]; exact (below_size (by repeat (first | (with_reducible first | exact HB.out | apply below_alloc | apply pw_below_drewN | apply below_drew1) | exact HB.out))) : w.heap.size ≤ gb303)); have n4_ := Aside0.mk ((by rw [hg]; exact (below_size (by repeat (first | (with_reducible first | exact HB.out | apply below_alloc | apply pw_below_drewN | apply below_drew1) | exact HB.out))) : w.heap.size ≤ gb303)); clear HO299; clear HB; have HO299 := n0_; have HB := n1_; have BK303 := n2_; have GW303 := n3_; have GE303 := n4_; clear n0_ n1_ n2_ n3_ n4_; clear hb hbox hg; have hcz19_0 : w18.cell? ⟨gb303, 0, none⟩ = some (.int .i64 0) := (blk_cell BK303.out 0).trans rfl; have hcz19_1 : w18.cell? ⟨gb303, 1, none⟩ = some (.int .i64 0) := (blk_cell BK303.out 1).trans rfl; have hfz19_0 := blk_frozen BK303.out 0; have hfz19_1 := blk_frozen BK303.out 1) | ((with_reducible refine gate_callee (f := 18) rfl ?_); refine goesL_ (some 25) rfl rfl Try.func18 (by kernel_rfl) rfl #[.slice A0 l0.length c0] rfl (by (try simp only [List.map_toArray, List.map_cons, List.map_nil]); first | done | rfl | (simp only [List.length_drop, List.length_take]; rfl)) ?_; (with_reducible refine (timesyncref24_Select.calls k _ _ l0 t304 t307 t308 t309 _ ?side1 ?side2 A6.out).mono ?_); (case side1 => exact Kd.C_below HR0.out (by repeat (first | (with_reducible first | exact HB.out | apply below_alloc | apply pw_below_drewN | apply below_drew1 | refine below_set ?_ GE303.out) | exact HB.out))); (case side2 => exact HC0.out); rintro e w20 ⟨v305, rfl, ho0, hb⟩; refine ⟨_, rfl, ?_⟩; have n0_ := Aside0.mk (Kd.R_elder' (by (with_reducible repeat (first | apply Kd.R_alloc | apply Kd.R_drewN | apply Kd.R_drew)); exact (Kd.R_mono (Kd.R_far (p := ⟨gb303, 1, none⟩) (Kd.R_far (p := ⟨gb303, 0, none⟩) (Kd.R_types HO299.out BK303.out (by decide)) (fun _ hk => hk.2) (.int .i64 t300)) (fun _ hk => hk.2) (.int .i64 t301)) (fun _ h_ => h_.1))) (Kd.R_base ho0) hb); have n1_ := Aside0.mk (Kd.R_lower (Kd.R_new' ho0 (Kd.R_lt (by (with_reducible repeat (first | apply Kd.R_alloc | apply Kd.R_drewN | apply Kd.R_drew)); exact (Kd.R_mono (Kd.R_far (p := ⟨gb303, 1, none⟩) (Kd.R_far (p := ⟨gb303, 0, none⟩) (Kd.R_types HO299.out BK303.out (by decide)) (fun _ hk => hk.2) (.int .i64 t300)) (fun _ hk => hk.2) (.int .i64 t301)) (fun _ h_ => h_.1))))) (below_size (by repeat (first | (with_reducible first | exact HB.out | apply below_alloc | apply pw_below_drewN | apply below_drew1 | refine below_set ?_ GE303.out) | exact HB.out)))); have n2_ := Aside0.mk (blk_below (g := gb303) (o := .cells #[.int .i64 t300, .int .i64 t301] 29 (0, 0)) (by (with_reducible repeat (first | refine blk_drewN ?_ _ | refine blk_drew ?_ | refine blk_alloc ?_ _)); refine blk_put (cs := #[.int .i64 t300, .int .i64 0]) ?_ 1 _ rfl; (with_reducible repeat (first | refine blk_drewN ?_ _ | refine blk_drew ?_ | refine blk_alloc ?_ _)); refine blk_put (cs := #[.int .i64 0, .int .i64 0]) ?_ 0 _ rfl; (with_reducible repeat (first | refine blk_drewN ?_ _ | refine blk_drew ?_ | refine blk_alloc ?_ _)); exact BK303.out) hb); have n3_ := Aside0.mk (below_step (by repeat (first | (with_reducible first | exact HB.out | apply below_alloc | apply pw_below_drewN | apply below_drew1 | refine below_set ?_ GE303.out) | exact HB.out)) hb); clear HO299; clear BK303; clear HB; have HO299 := n0_; have HO306 := n1_; have BK303 := n2_; have HB := n3_; clear n0_ n1_ n2_ n3_; (try clear hb); (try clear hb2); (try clear hk); (try clear hi); (try clear ho0)) | ((with_reducible refine gate_dst (N := 7) rfl ?_); refine box_event ?hg (N := 7) ?hd (cs := #[.int .i64 0, .int .i64 0]) (t := 29) ?hr ?_; (case hd => rfl); (case hg => rfl); (case hr => first | (go_simp; done) | (go_simp; rfl)); intro gb310 hg w21 hbox hb; have n0_ := Aside0.mk (Kd.R_below (by (with_reducible repeat (first | apply Kd.R_alloc | apply Kd.R_drewN | apply Kd.R_drew)); exact HO299.out) hb); have n1_ := Aside0.mk (Kd.R_below (by (with_reducible repeat (first | apply Kd.R_alloc | apply Kd.R_drewN | apply Kd.R_drew)); exact HO306.out) hb); have n2_ := Aside0.mk (blk_below (g := gb303) (o := .cells #[.int .i64 t300, .int .i64 t301] 29 (0, 0)) (by (with_reducible repeat (first | refine blk_drewN ?_ _ | refine blk_drew ?_ | refine blk_alloc ?_ _)); exact BK303.out) hb); have n3_ := Aside0.mk (below_step (by repeat (first | (with_reducible first | exact HB.out | apply below_alloc | apply pw_below_drewN | apply below_drew1 | refine below_set ?_ GE303.out) | exact HB.out)) hb); have n4_ := Aside0.mk (hbox); have n5_ := Aside0.mk ((by rw [hg]; exact (below_size (by repeat (first | (with_reducible first | exact HB.out | apply below_alloc | apply pw_below_drewN | apply below_drew1 | refine below_set ?_ GE303.out) | exact HB.out))) : w.heap.size ≤ gb310)); have n6_ := Aside0.mk ((by rw [hg]; exact (below_size (by repeat (first | (with_reducible first | exact HB.out | apply below_alloc | apply pw_below_drewN | apply below_drew1 | refine below_set ?_ GE303.out) | exact HB.out))) : w.heap.size ≤ gb310)); have n7_ := Aside0.mk ((by rw [hg]; exact Nat.ne_of_lt (blk_lt (g := gb303) (o := .cells #[.int .i64 t300, .int .i64 t301] 29 (0, 0)) (by (with_reducible repeat (first | refine blk_drewN ?_ _ | refine blk_drew ?_ | refine blk_alloc ?_ _)); exact BK303.out)) : gb303 ≠ gb310)); have n8_ := Aside0.mk ((by rw [hg]; exact Nat.ne_of_gt (blk_lt (g := gb303) (o := .cells #[.int .i64 t300, .int .i64 t301] 29 (0, 0)) (by (with_reducible repeat (first | refine blk_drewN ?_ _ | refine blk_drew ?_ | refine blk_alloc ?_ _)); exact BK303.out)) : gb310 ≠ gb303)); clear HO299; clear HO306; clear BK303; clear HB; have HO299 := n0_; have HO306 := n1_; have BK303 := n2_; have HB := n3_; have BK310 := n4_; have GW310 := n5_; have GE310 := n6_; have NB303_310 := n7_; have NB310_303 := n8_; clear n0_ n1_ n2_ n3_ n4_ n5_ n6_ n7_ n8_; clear hb hbox hg; have hnb22 := NB310_303.out; have hnc22 := NB303_310.out; have hcz23_0 : w21.cell? ⟨gb310, 0, none⟩ = some (.int .i64 0) := (blk_cell BK310.out 0).trans rfl; have hcz23_1 : w21.cell? ⟨gb310, 1, none⟩ = some (.int .i64 0) := (blk_cell BK310.out 1).trans rfl; have hfz23_0 := blk_frozen BK310.out 0; have hfz23_1 := blk_frozen BK310.out 1) | ((with_reducible refine gate_callee (f := 19) rfl ?_); refine goesL_ (some 31) rfl rfl Try.func19 (by kernel_rfl) rfl #[.slice A0 l0.length c0] rfl (by (try simp only [List.map_toArray, List.map_cons, List.map_nil]); first | done | rfl | (simp only [List.length_drop, List.length_take]; rfl)) ?_; (with_reducible refine (choose_Falsetickers.calls k _ _ l0 t311 t312 _ ?side1 ?side2 A7.out).mono ?_); (case side1 => exact Kd.C_below HR0.out (by repeat (first | (with_reducible first | exact HB.out | apply below_alloc | apply pw_below_drewN | apply below_drew1 | refine below_set ?_ GE303.out | refine below_set ?_ GE310.out) | exact HB.out))); (case side2 => exact HC0.out); rintro e w24 ⟨v313, rfl, ho0, hb⟩; refine ⟨_, rfl, ?_⟩; have n0_ := Aside0.mk (Kd.R_elder' (by (with_reducible repeat (first | apply Kd.R_alloc | apply Kd.R_drewN | apply Kd.R_drew)); exact (Kd.R_mono (Kd.R_far (p := ⟨gb310, 1, none⟩) (Kd.R_far (p := ⟨gb310, 0, none⟩) (Kd.R_types HO299.out BK310.out (by decide)) (fun _ hk => hk.2) (.int .i64 t307)) (fun _ hk => hk.2) (.int .i64 t308)) (fun _ h_ => h_.1))) (Kd.R_base ho0) hb); have n1_ := Aside0.mk (Kd.R_elder' (by (with_reducible repeat (first | apply Kd.R_alloc | apply Kd.R_drewN | apply Kd.R_drew)); exact (Kd.R_mono (Kd.R_far (p := ⟨gb310, 1, none⟩) (Kd.R_far (p := ⟨gb310, 0, none⟩) (Kd.R_types HO306.out BK310.out (by decide)) (fun _ hk => hk.2) (.int .i64 t307)) (fun _ hk => hk.2) (.int .i64 t308)) (fun _ h_ => h_.1))) (Kd.R_base ho0) hb); have n2_ := Aside0.mk (Kd.R_lower (Kd.R_new' (Kd.R_new' ho0 (Kd.R_lt (by (with_reducible repeat (first | apply Kd.R_alloc | apply Kd.R_drewN | apply Kd.R_drew)); exact (Kd.R_mono (Kd.R_far (p := ⟨gb310, 1, none⟩) (Kd.R_far (p := ⟨gb310, 0, none⟩) (Kd.R_types HO299.out BK310.out (by decide)) (fun _ hk => hk.2) (.int .i64 t307)) (fun _ hk => hk.2) (.int .i64 t308)) (fun _ h_ => h_.1))))) (Kd.R_lt (by (with_reducible repeat (first | apply Kd.R_alloc | apply Kd.R_drewN | apply Kd.R_drew)); exact (Kd.R_mono (Kd.R_far (p := ⟨gb310, 1, none⟩) (Kd.R_far (p := ⟨gb310, 0, none⟩) (Kd.R_types HO306.out BK310.out (by decide)) (fun _ hk => hk.2) (.int .i64 t307)) (fun _ hk => hk.2) (.int .i64 t308)) (fun _ h_ => h_.1))))) (below_size (by repeat (first | (with_reducible first | exact HB.out | apply below_alloc | apply pw_below_drewN | apply below_drew1 | refine below_set ?_ GE303.out | refine below_set ?_ GE310.out) | exact HB.out)))); have n3_ := Aside0.mk (blk_below (g := gb303) (o := .cells #[.int .i64 t300, .int .i64 t301] 29 (0, 0)) (by (with_reducible repeat (first | refine blk_drewN ?_ _ | refine blk_drew ?_ | refine blk_alloc ?_ _)); refine blk_far ?_ NB303_310.out _; (with_reducible repeat (first | refine blk_drewN ?_ _ | refine blk_drew ?_ | refine blk_alloc ?_ _)); refine blk_far ?_ NB303_310.out _; (with_reducible repeat (first | refine blk_drewN ?_ _ | refine blk_drew ?_ | refine blk_alloc ?_ _)); exact BK303.out) hb); have n4_ := Aside0.mk (blk_below (g := gb310) (o := .cells #[.int .i64 t307, .int .i64 t308] 29 (0, 0)) (by (with_reducible repeat (first | refine blk_drewN ?_ _ | refine blk_drew ?_ | refine blk_alloc ?_ _)); refine blk_put (cs := #[.int .i64 t307, .int .i64 0]) ?_ 1 _ rfl; (with_reducible repeat (first | refine blk_drewN ?_ _ | refine blk_drew ?_ | refine blk_alloc ?_ _)); refine blk_put (cs := #[.int .i64 0, .int .i64 0]) ?_ 0 _ rfl; (with_reducible repeat (first | refine blk_drewN ?_ _ | refine blk_drew ?_ | refine blk_alloc ?_ _)); exact BK310.out) hb); have n5_ := Aside0.mk (below_step (by repeat (first | (with_reducible first | exact HB.out | apply below_alloc | apply pw_below_drewN | apply below_drew1 | refine below_set ?_ GE303.out | refine below_set ?_ GE310.out) | exact HB.out)) hb); clear HO299; clear HO306; clear BK303; clear BK310; clear HB; have HO299 := n0_; have HO306 := n1_; have HO314 := n2_; have BK303 := n3_; have BK310 := n4_; have HB := n5_; clear n0_ n1_ n2_ n3_ n4_ n5_; (try clear hb); (try clear hb2); (try clear hk); (try clear hi); (try clear ho0)) | ((with_reducible refine gate_callee (f := 20) rfl ?_); refine goesL_ (some 36) rfl rfl Try.func20 (by kernel_rfl) rfl #[.slice A0 l0.length c0] rfl (by (try simp only [List.map_toArray, List.map_cons, List.map_nil]); first | done | rfl | (simp only [List.length_drop, List.length_take]; rfl)) ?_; (with_reducible refine (timesyncref24_Falsetickers.calls k _ _ l0 t315 t316 _ ?side1 ?side2 A8.out).mono ?_); (case side1 => repeat (first | exact (Kd.C_below HR0.out HB.out) | (with_reducible refine Kd.C_alloc ?_ _) | (with_reducible refine Kd.C_drewN ?_ _) | (with_reducible refine Kd.C_drew ?_))); (case side2 => exact HC0.out); rintro e w25 ⟨v317, rfl, ho0, hb⟩; refine ⟨_, rfl, ?_⟩; have n0_ := Aside0.mk (Kd.R_elder' (by (with_reducible repeat (first | apply Kd.R_alloc | apply Kd.R_drewN | apply Kd.R_drew)); exact HO299.out) (Kd.R_base ho0) hb); have n1_ := Aside0.mk (Kd.R_elder' (by (with_reducible repeat (first | apply Kd.R_alloc | apply Kd.R_drewN | apply Kd.R_drew)); exact HO306.out) (Kd.R_base ho0) hb); have n2_ := Aside0.mk (Kd.R_elder' (by (with_reducible repeat (first | apply Kd.R_alloc | apply Kd.R_drewN | apply Kd.R_drew)); exact HO314.out) (Kd.R_base ho0) hb); have n3_ := Aside0.mk (Kd.R_lower (Kd.R_new' (Kd.R_new' (Kd.R_new' ho0 (Kd.R_lt (by (with_reducible repeat (first | apply Kd.R_alloc | apply Kd.R_drewN | apply Kd.R_drew)); exact HO299.out))) (Kd.R_lt (by (with_reducible repeat (first | apply Kd.R_alloc | apply Kd.R_drewN | apply Kd.R_drew)); exact HO306.out))) (Kd.R_lt (by (with_reducible repeat (first | apply Kd.R_alloc | apply Kd.R_drewN | apply Kd.R_drew)); exact HO314.out))) (below_size (by repeat (first | (with_reducible first | exact HB.out | apply below_alloc | apply pw_below_drewN | apply below_drew1 | refine below_set ?_ GE303.out | refine below_set ?_ GE310.out) | exact HB.out)))); have n4_ := Aside0.mk (blk_below (g := gb303) (o := .cells #[.int .i64 t300, .int .i64 t301] 29 (0, 0)) (by (with_reducible repeat (first | refine blk_drewN ?_ _ | refine blk_drew ?_ | refine blk_alloc ?_ _)); exact BK303.out) hb); have n5_ := Aside0.mk (blk_below (g := gb310) (o := .cells #[.int .i64 t307, .int .i64 t308] 29 (0, 0)) (by (with_reducible repeat (first | refine blk_drewN ?_ _ | refine blk_drew ?_ | refine blk_alloc ?_ _)); exact BK310.out) hb); have n6_ := Aside0.mk (below_step (by repeat (first | (with_reducible first | exact HB.out | apply below_alloc | apply pw_below_drewN | apply below_drew1 | refine below_set ?_ GE303.out | refine below_set ?_ GE310.out) | exact HB.out)) hb); clear HO299; clear HO306; clear HO314; clear BK303; clear BK310; clear HB; have HO299 := n0_; have HO306 := n1_; have HO314 := n2_; have HO318 := n3_; have BK303 := n4_; have BK310 := n5_; have HB := n6_; clear n0_ n1_ n2_ n3_ n4_ n5_ n6_; (try clear hb); (try clear hb2); (try clear hk); (try clear hi); (try clear ho0); obtain ⟨Ao26, co26, eo26⟩ := Kd.R_slice HO299.out; subst eo26; obtain ⟨Ao27, co27, eo27⟩ := Kd.R_slice HO306.out; subst eo27) | ((with_reducible refine gate_callee (f := 21) rfl ?_); refine goesL_ (some 41) rfl rfl Try.func21 (by kernel_rfl) rfl #[.slice Ao26 t297.length co26, .slice Ao27 t304.length co27] rfl (by (try simp only [List.map_toArray, List.map_cons, List.map_nil]); first | done | rfl | (simp only [List.length_drop, List.length_take]; rfl)) ?_; (with_reducible refine (slices_Equal_int_int.calls k _ _ t297 _ _ t304 true _ ?side1 ?side2 ?side3 ?side4 A9.out).mono ?_); (case side1 => repeat (first | exact (Kd.R_reads' HO299.out).2.2 | (with_reducible refine Kd.C_alloc ?_ _) | (with_reducible refine Kd.C_drewN ?_ _) | (with_reducible refine Kd.C_drew ?_))); (case side2 => exact (Kd.R_reads' HO299.out).2.1); (case side3 => repeat (first | exact (Kd.R_reads' HO306.out).2.2 | (with_reducible refine Kd.C_alloc ?_ _) | (with_reducible refine Kd.C_drewN ?_ _) | (with_reducible refine Kd.C_drew ?_))); (case side4 => exact (Kd.R_reads' HO306.out).2.1); rintro e w' ⟨rfl, ⟨nd, rfl⟩⟩; refine ⟨_, rfl, ?_⟩; have hcz28_0 : w25.cell? ⟨gb303, 0, none⟩ = some (.int .i64 t300) := (blk_cell BK303.out 0).trans rfl; have hcz28_1 : w25.cell? ⟨gb303, 1, none⟩ = some (.int .i64 t301) := (blk_cell BK303.out 1).trans rfl; have hfz28_0 := blk_frozen BK303.out 0; have hfz28_1 := blk_frozen BK303.out 1; have hcz29_0 : w25.cell? ⟨gb310, 0, none⟩ = some (.int .i64 t307) := (blk_cell BK310.out 0).trans rfl; have hcz29_1 : w25.cell? ⟨gb310, 1, none⟩ = some (.int .i64 t308) := (blk_cell BK310.out 1).trans rfl; have hfz29_0 := blk_frozen BK310.out 0; have hfz29_1 := blk_frozen BK310.out 1; obtain ⟨Ao30, co30, eo30⟩ := Kd.R_slice HO314.out; subst eo30; obtain ⟨Ao31, co31, eo31⟩ := Kd.R_slice HO318.out; subst eo31) | (go_at_call 21; (with_reducible refine (slices_Equal_int_int.calls k _ _ t311 _ _ t315 true _ ?side1 ?side2 ?side3 ?side4 A13.out).mono ?_); (case side1 => repeat (first | exact (Kd.R_reads' HO314.out).2.2 | (with_reducible refine Kd.C_alloc ?_ _) | (with_reducible refine Kd.C_drewN ?_ _) | (with_reducible refine Kd.C_drew ?_))); (case side2 => exact (Kd.R_reads' HO314.out).2.1); (case side3 => repeat (first | exact (Kd.R_reads' HO318.out).2.2 | (with_reducible refine Kd.C_alloc ?_ _) | (with_reducible refine Kd.C_drewN ?_ _) | (with_reducible refine Kd.C_drew ?_))); (case side4 => exact (Kd.R_reads' HO318.out).2.1); rintro e w' ⟨rfl, ⟨nd, rfl⟩⟩) | (go_at_call 14; (with_reducible refine (timesynclaw24_awake.calls k  t321 _ A16.out).mono ?_); rintro e w32 ⟨rfl, hb⟩; have n0_ := Aside0.mk (Kd.R_below (by (with_reducible repeat (first | apply Kd.R_alloc | apply Kd.R_drewN | apply Kd.R_drew)); exact HO299.out) hb); have n1_ := Aside0.mk (Kd.R_below (by (with_reducible repeat (first | apply Kd.R_alloc | apply Kd.R_drewN | apply Kd.R_drew)); exact HO306.out) hb); have n2_ := Aside0.mk (Kd.R_below (by (with_reducible repeat (first | apply Kd.R_alloc | apply Kd.R_drewN | apply Kd.R_drew)); exact HO314.out) hb); have n3_ := Aside0.mk (Kd.R_below (by (with_reducible repeat (first | apply Kd.R_alloc | apply Kd.R_drewN | apply Kd.R_drew)); exact HO318.out) hb); have n4_ := Aside0.mk (blk_below (g := gb303) (o := .cells #[.int .i64 t300, .int .i64 t301] 29 (0, 0)) (by (with_reducible repeat (first | refine blk_drewN ?_ _ | refine blk_drew ?_ | refine blk_alloc ?_ _)); exact BK303.out) hb); have n5_ := Aside0.mk (blk_below (g := gb310) (o := .cells #[.int .i64 t307, .int .i64 t308] 29 (0, 0)) (by (with_reducible repeat (first | refine blk_drewN ?_ _ | refine blk_drew ?_ | refine blk_alloc ?_ _)); exact BK310.out) hb); have n6_ := Aside0.mk (below_step (by repeat (first | (with_reducible first | exact HB.out | apply below_alloc | apply pw_below_drewN | apply below_drew1 | refine below_set ?_ GE303.out | refine below_set ?_ GE310.out) | exact HB.out)) hb); clear HO299; clear HO306; clear HO314; clear HO318; clear BK303; clear BK310; clear HB; have HO299 := n0_; have HO306 := n1_; have HO314 := n2_; have HO318 := n3_; have BK303 := n4_; have BK310 := n5_; have HB := n6_; clear n0_ n1_ n2_ n3_ n4_ n5_ n6_; (try clear hb); (try clear hb2); (try clear hk); (try clear hi)))
       go_ret
       exact ⟨by first | rfl | (simp [errW_none, errW_some] <;> rfl) | (simp [*, errW_none, errW_some] <;> rfl), by repeat (first | (with_reducible first | exact HB.out | apply below_alloc | apply pw_below_drewN | apply below_drew1 | refine below_set ?_ GE303.out | refine below_set ?_ GE310.out) | exact HB.out)⟩
      ·rw [if_neg c15] at H
       exact absurd H (by simp)
     ·replace c14 := Bool.eq_false_iff.mpr c14
      subst c14
      have H1 : (none) = some r := by rw [if_neg (show ¬ (false = true) by decide)] at H; exact H
      clear H
      have H := H1
      clear H1
      exact absurd H (by simp)
    ·rw [if_neg c12] at H
     exact absurd H (by simp)
   ·rw [if_neg c11] at H
    exact absurd H (by simp)
  ·replace c10 := Bool.eq_false_iff.mpr c10
   subst c10
   have H1 : (none) = some r := by rw [if_neg (show ¬ (false = true) by decide)] at H; exact H
   clear H
   have H := H1
   clear H1
   exact absurd H (by simp)

end Go.Proofs.Ytlfilhplklifjaa.X

namespace Go.Proofs.Ytlfilhplklifjaa.X
open Go.RowKit Go.Proofs.YtlfilhplklifjaaW.PrintWords Go.Proofs.YtlfilhplklifjaaW.PrintLast Go.Proofs.YtlfilhplklifjaaW.PrintMore
attribute [local go_sem] max2_int min2_int max_two min_two max_three min_three max_four min_four   -- for this text's walks alone
set_option linter.unusedVariables false
set_option linter.unusedSimpArgs false

def WFi64 (x : Int) : Prop := (Lit.int .i64 x).wf = true
def WF37 (x : S37) : Prop := WFi64 x.f0 ∧ WFi64 x.f1 ∧ WFi64 x.f2 ∧ WFi64 x.f3 ∧ WFi64 x.f4
def WFL37 (x : List (S37)) : Prop := x.length ≤ 9223372036854775807 ∧ ∀ y ∈ x, WF37 y
def WF29 (x : S29) : Prop := WFi64 x.f0 ∧ WFi64 x.f1
def WFi16 (x : Int) : Prop := (Lit.int .i16 x).wf = true
def WFi32 (x : Int) : Prop := (Lit.int .i32 x).wf = true
def WFL21 (x : List Int) : Prop := x.length ≤ 9223372036854775807 ∧ ∀ y ∈ x, WFi32 y
def WFu16 (x : Int) : Prop := (Lit.int .u16 x).wf = true
def WFL51 (x : List Int) : Prop := x.length ≤ 9223372036854775807 ∧ ∀ y ∈ x, WFu16 y
def WFu32 (x : Int) : Prop := (Lit.int .u32 x).wf = true
def WF83 (x : S83) : Prop := WFu32 x.f0 ∧ WFu32 x.f1
def WFL83 (x : List (S83)) : Prop := x.length ≤ 9223372036854775807 ∧ ∀ y ∈ x, WF83 y
def WFL29 (x : List (S29)) : Prop := x.length ≤ 9223372036854775807 ∧ ∀ y ∈ x, WF29 y
end Go.Proofs.Ytlfilhplklifjaa.X

/- Plain words of this seat: rounds, wrapped numbers, lists by index; the check of candidates. -/
namespace Go.Proofs.Ytlfilhplklifjaa.PA
open Go.RowKit Go.Proofs.Ytlfilhplklifjaa.X Go.Proofs.YtlfilhplklifjaaW.PrintWords Go.Proofs.YtlfilhplklifjaaW.PrintLast

section
variable {α β : Type} {f g h : Nat → Option α} {r : α} {c : Prop} [Decidable c]
theorem Ev.pos (hc : c) (h : Ev f r) : Ev (fun n => if c then f n else g n) r := Ev.congr (fun _ => if_pos hc) h
theorem Ev.neg (hc : ¬ c) (h : Ev g r) : Ev (fun n => if c then f n else g n) r := Ev.congr (fun _ => if_neg hc) h
theorem Ev.ite_ (h1 : c → Ev f r) (h2 : ¬ c → Ev g r) : Ev (fun n => if c then f n else g n) r := by
  by_cases hc : c
  · exact Ev.pos hc (h1 hc)
  · exact Ev.neg hc (h2 hc)
theorem Ev.bind' {g : Nat → Option α} {f : Nat → α → Option β} {r : β} (a : α) (h : Ev g a) (k : Ev (fun n => f n a) r) : Ev (fun n => (g n).bind (f n)) r := Ev.bind h k
theorem Ev.some_bind {f : Nat → α → Option β} {a : α} {r : β} (k : Ev (fun n => f n a) r) : Ev (fun n => (some a).bind (f n)) r := k
theorem Ev.const {x : Option α} (h : x = some r) : Ev (fun _ => x) r := ⟨0, fun _ _ => h⟩
theorem Ev.uniq {r r' : α} (h : Ev f r) (h' : Ev f r') : r = r' := by
  obtain ⟨K, h⟩ := h
  obtain ⟨K', h'⟩ := h'
  have h1 := h (max K K') (by omega)
  have h2 := h' (max K K') (by omega)
  rw [h1] at h2
  exact Option.some.inj h2
end

theorem wrap_id {x : Int} (h0 : -9223372036854775808 ≤ x) (h1 : x < 9223372036854775808) : wrap64 x = x := by
  unfold wrap64; omega
theorem wrap_nat {i : Nat} (h : i < 9223372036854775807) : wrap64 ((i : Int) + 1) = ((i + 1 : Nat) : Int) := by
  rw [wrap_id (by omega) (by omega)]; rfl
theorem rd37 (l : List S37) (i : Nat) : rd_T37 l (i : Int) = l.getD i z37 := by simp [rd_T37]
theorem rd29 (l : List S29) (i : Nat) : rd_T29 l (i : Int) = l.getD i z29 := by simp [rd_T29]
theorem rd88 (l : List S88) (i : Nat) : rd_T88 l (i : Int) = l.getD i z88 := by simp [rd_T88]
theorem rd110 (l : List S110) (i : Nat) : rd_T110 l (i : Int) = l.getD i z110 := by simp [rd_T110]
theorem rdI (l : List Int) (i : Nat) : rd l (i : Int) = l.getD i 0 := by simp [rd]

/-! ### Check -/
/-- A candidate within the limits. -/
def OkC (c : S37) : Prop := 0 ≤ c.f0 ∧ c.f0 ≤ 2147483647 ∧ -4503599627370496 ≤ c.f1 ∧ c.f1 ≤ 4503599627370496 ∧ 0 ≤ c.f2 ∧ c.f2 ≤ 9007199254740992 ∧ 0 ≤ c.f3 ∧ c.f3 ≤ 9007199254740992 ∧ 1 ≤ c.f4 ∧ c.f4 ≤ 16
instance (c : S37) : Decidable (OkC c) := by unfold OkC; infer_instance
/-- One of the candidates from j on, ahead of i, has i's number. -/
def dupFrom (l : List S37) (i : Nat) : Nat → Nat → Bool
  | 0, _ => false
  | d + 1, j => if (l.getD j z37).f0 = (l.getD i z37).f0 then true else dupFrom l i d (j + 1)
def chkFrom (l : List S37) : Nat → Nat → Int
  | 0, _ => 0
  | d + 1, i => if OkC (l.getD i z37) then (if dupFrom l i i 0 = true then 10 else chkFrom l d (i + 1)) else 3
def chk (l : List S37) : Int := if (l.length : Int) > 12 then 6 else chkFrom l l.length 0

theorem ref_right (c : S37) : timesyncref24_right.f c.f0 c.f1 c.f2 c.f3 c.f4 = some (decide (OkC c)) := by
  unfold timesyncref24_right.f timesyncref24_within.f OkC
  by_cases h1 : 0 ≤ c.f0 <;> by_cases h2 : c.f0 ≤ 2147483647 <;> by_cases h3 : -4503599627370496 ≤ c.f1 <;> by_cases h4 : c.f1 ≤ 4503599627370496 <;> simp [h1, h2, h3, h4]
  by_cases h5 : 0 ≤ c.f2 <;> by_cases h6 : c.f2 ≤ 9007199254740992 <;> by_cases h7 : 0 ≤ c.f3 <;> by_cases h8 : c.f3 ≤ 9007199254740992 <;> by_cases h9 : 1 ≤ c.f4 <;> simp [h5, h6, h7, h8, h9]

theorem ref_dup (l : List S37) (hn : l.length ≤ 12) (i : Nat) (hi : i < l.length) (r : Int) (hnext : Ev (fun k => timesyncref24_Check.l0 k l ((i + 1 : Nat) : Int)) r) :
    ∀ d j, j + d = i → Ev (fun k => timesyncref24_Check.l1 k l i j) (if dupFrom l i d j = true then 10 else r) := by
  intro d
  induction d with
  | zero =>
    intro j hj
    refine Ev.step (fun k => by rw [timesyncref24_Check.l1]) ?_
    refine Ev.neg (by omega) ?_
    rw [wrap_nat (by omega)]
    simpa [dupFrom] using hnext
  | succ d ih =>
    intro j hj
    refine Ev.step (fun k => by rw [timesyncref24_Check.l1]) ?_
    refine Ev.pos (by omega) (Ev.pos (by omega) (Ev.pos (by omega) (Ev.pos (by omega) (Ev.pos (by omega) ?_))))
    rw [rd37, rd37]
    unfold dupFrom
    by_cases h : (l.getD j z37).f0 = (l.getD i z37).f0
    · rw [if_pos h]
      exact Ev.pos h (Ev.const rfl)
    · rw [if_neg h]
      refine Ev.neg h ?_
      rw [wrap_nat (by omega)]
      exact ih (j + 1) (by omega)

theorem ref_chk_from (l : List S37) (hn : l.length ≤ 12) : ∀ d i, i + d = l.length → Ev (fun k => timesyncref24_Check.l0 k l i) (chkFrom l d i) := by
  intro d
  induction d with
  | zero =>
    intro i hi
    refine Ev.step (fun k => by rw [timesyncref24_Check.l0]) ?_
    exact Ev.neg (by omega) (Ev.const rfl)
  | succ d ih =>
    intro i hi
    refine Ev.step (fun k => by rw [timesyncref24_Check.l0]) ?_
    refine Ev.pos (by omega) (Ev.pos (by omega) ?_)
    rw [rd37, ref_right]
    refine Ev.some_bind ?_
    unfold chkFrom
    by_cases h : OkC (l.getD i z37)
    · rw [if_pos h]
      refine Ev.pos (by simpa using h) ?_
      have := ref_dup l hn i (by omega) _ (ih (i + 1) (by omega)) i 0 (by omega)
      exact this
    · rw [if_neg h]
      exact Ev.neg (by simpa using h) (Ev.const rfl)

theorem ref_check (l : List S37) : Ev (fun k => timesyncref24_Check.f k l) (chk l) := by
  unfold timesyncref24_Check.f chk
  by_cases h : (l.length : Int) > 12
  · rw [if_pos h]; exact Ev.pos h (Ev.const rfl)
  · rw [if_neg h]; exact Ev.neg h (ref_chk_from l (by omega) l.length 0 (by omega))

theorem impl_dup (l : List S37) (hn : l.length ≤ 12) (i : Nat) (hi : i < l.length) (r : Int) (hnext : Ev (fun k => choose_Check.l0 k l l l.length ((i + 1 : Nat) : Int)) r) (a b c e : Int) :
    ∀ d j, j + d = i → Ev (fun k => choose_Check.l1 k l l l.length i (l.take i) i j (l.getD i z37).f0 a b c e) (if dupFrom l i d j = true then 10 else r) := by
  intro d
  induction d with
  | zero =>
    intro j hj
    refine Ev.step (fun k => by rw [choose_Check.l1]) ?_
    refine Ev.neg (by omega) ?_
    rw [wrap_nat (by omega)]
    simpa [dupFrom] using hnext
  | succ d ih =>
    intro j hj
    refine Ev.step (fun k => by rw [choose_Check.l1]) ?_
    refine Ev.pos (by omega) (Ev.pos (by omega) (Ev.pos (by rw [List.length_take]; omega) ?_))
    rw [rd37]
    unfold dupFrom
    have e1 : (l.take i).getD j z37 = l.getD j z37 := by
      simp [List.getD, show j < i by omega]
    rw [e1]
    by_cases h : (l.getD j z37).f0 = (l.getD i z37).f0
    · rw [if_pos h]
      exact Ev.pos h (Ev.const rfl)
    · rw [if_neg h]
      refine Ev.neg h ?_
      rw [wrap_nat (by omega)]
      exact ih (j + 1) (by omega)

theorem impl_j1 (l : List S37) (hn : l.length ≤ 12) (i : Nat) (hi : i < l.length) (r : Int) (hnext : Ev (fun k => choose_Check.l0 k l l l.length ((i + 1 : Nat) : Int)) r) (bad : Bool) (a b c e : Int) :
    Ev (fun k => choose_Check.j1 k l i l l.length i bad (l.getD i z37).f0 a b c e) (if bad = true then 3 else if dupFrom l i i 0 = true then 10 else r) := by
  refine Ev.step (fun k => by rw [choose_Check.j1]) ?_
  cases bad with
  | true => exact Ev.pos rfl (Ev.const rfl)
  | false =>
    refine Ev.neg (by simp) (Ev.pos (by omega) (Ev.pos (by omega) (Ev.some_bind ?_)))
    have h1 : ((l.take ((i : Int)).toNat).length : Int) = i := by rw [List.length_take]; simp; omega
    simp only [h1]
    simp only [Int.toNat_natCast, Bool.false_eq_true, if_false]
    exact impl_dup l hn i hi r hnext a b c e i 0 (by omega)

theorem impl_chk_from (l : List S37) (hn : l.length ≤ 12) : ∀ d i, i + d = l.length → Ev (fun k => choose_Check.l0 k l l l.length i) (chkFrom l d i) := by
  intro d
  induction d with
  | zero =>
    intro i hi
    refine Ev.step (fun k => by rw [choose_Check.l0]) ?_
    exact Ev.neg (by omega) (Ev.const rfl)
  | succ d ih =>
    intro i hi
    have J := fun bad a b c e => impl_j1 l hn i (by omega) _ (ih (i + 1) (by omega)) bad a b c e
    refine Ev.step (fun k => by rw [choose_Check.l0]) ?_
    refine Ev.pos (by omega) (Ev.pos (by omega) (Ev.pos (by omega) ?_))
    simp only [rd37]
    unfold chkFrom
    generalize l.getD i z37 = c at J ⊢
    by_cases h : OkC c
    · rw [if_pos h]
      obtain ⟨h1, h2, h3, h4, h5, h6, h7, h8, h9, h10⟩ := h
      refine Ev.neg (by omega) (Ev.neg (by omega) (Ev.neg (by omega) (Ev.neg (by omega) (Ev.neg (by omega) (Ev.neg (by omega) (Ev.neg (by omega) (Ev.neg (by omega) (Ev.neg (by omega) ?_))))))))
      have e1 : decide (c.f4 > 16) = false := by simp; omega
      rw [e1]
      simpa using J false c.f1 c.f2 c.f3 c.f4
    · rw [if_neg h]
      have J3 := J true c.f1 c.f2 c.f3 c.f4
      simp only [if_true] at J3
      refine Ev.ite_ (fun _ => J3) (fun h1 => Ev.ite_ (fun _ => J3) (fun h2 => Ev.ite_ (fun _ => J3) (fun h3 => Ev.ite_ (fun _ => J3) (fun h4 => Ev.ite_ (fun _ => J3) (fun h5 => Ev.ite_ (fun _ => J3) (fun h6 => Ev.ite_ (fun _ => J3) (fun h7 => Ev.ite_ (fun _ => J3) (fun h8 => Ev.ite_ (fun _ => J3) (fun h9 => ?_)))))))))
      have e1 : decide (c.f4 > 16) = true := by
        simp only [decide_eq_true_eq]
        by_cases h10 : c.f4 > 16
        · exact h10
        · exact absurd ⟨by omega, by omega, by omega, by omega, by omega, by omega, by omega, by omega, by omega, by omega⟩ h
      rw [e1]
      exact J3

theorem impl_check (l : List S37) : Ev (fun k => choose_Check.f k l) (chk l) := by
  unfold choose_Check.f chk
  by_cases h : (l.length : Int) > 12
  · rw [if_pos h]; exact Ev.pos h (Ev.const rfl)
  · rw [if_neg h]; exact Ev.neg h (impl_chk_from l (by omega) l.length 0 (by omega))

/-- What a check that says 0 tells. -/
theorem chkFrom_ok {l : List S37} : ∀ {d i}, i + d = l.length → chkFrom l d i = 0 → ∀ j, i ≤ j → j < l.length → OkC (l.getD j z37) := by
  intro d
  induction d with
  | zero => intro i hi _ j hj hl; omega
  | succ d ih =>
    intro i hi h j hj hl
    unfold chkFrom at h
    by_cases hok : OkC (l.getD i z37)
    · rw [if_pos hok] at h
      by_cases hd : dupFrom l i i 0 = true
      · rw [if_pos hd] at h; omega
      · rw [if_neg hd] at h
        rcases Nat.lt_or_ge i j with h1 | h1
        · exact ih (by omega) h j (by omega) hl
        · rw [show j = i by omega]; exact hok
    · rw [if_neg hok] at h; omega
theorem chk_ok {l : List S37} (h : chk l = 0) : l.length ≤ 12 ∧ ∀ c ∈ l, OkC c := by
  unfold chk at h
  by_cases h12 : (l.length : Int) > 12
  · rw [if_pos h12] at h; omega
  · rw [if_neg h12] at h
    refine ⟨by omega, fun c hc => ?_⟩
    obtain ⟨j, hj, rfl⟩ := List.getElem_of_mem hc
    have := chkFrom_ok (by omega) h j (by omega) hj
    simpa [List.getD, hj] using this
end Go.Proofs.Ytlfilhplklifjaa.PA

/- The chapter's examples, reckoned. -/
namespace Go.Proofs.Ytlfilhplklifjaa.PA
open Go.RowKit Go.Proofs.Ytlfilhplklifjaa.X Go.Proofs.YtlfilhplklifjaaW.PrintWords
theorem awake24 : Ev (fun k => timesynclaw24_awake.f k) true := by
  have h : timesynclaw24_awake.f 30 = some true := by kernel_rfl
  exact Ev.of (fun k => timesynclaw24_awake.mono k) h
theorem awake24' : Ev (fun k => (timesynclaw24_awake.f k).bind fun t => some t) true := Ev.bind' true awake24 (Ev.const rfl)
end Go.Proofs.Ytlfilhplklifjaa.PA

/- Positions by a test; how many intervals hold an instant; the reference's hull. -/
namespace Go.Proofs.Ytlfilhplklifjaa.PA
open Go.RowKit Go.Proofs.Ytlfilhplklifjaa.X Go.Proofs.YtlfilhplklifjaaW.PrintWords Go.Proofs.YtlfilhplklifjaaW.PrintLast

/-! ### Positions -/
def idxFrom (l : List S37) (p : S37 → Bool) : Nat → Nat → List Int
  | 0, _ => []
  | d + 1, i => if p (l.getD i z37) = true then (i : Int) :: idxFrom l p d (i + 1) else idxFrom l p d (i + 1)
def idx (l : List S37) (p : S37 → Bool) : List Int := idxFrom l p l.length 0
def pIn (lo hi : Int) (c : S37) : Bool := decide (lo ≤ c.f1) && decide (c.f1 ≤ hi)
def pOut (lo hi : Int) (c : S37) : Bool := !pIn lo hi c
def pMeet (lo hi : Int) (c : S37) : Bool := decide (c.f1 - c.f2 ≤ hi) && decide (lo ≤ c.f1 + c.f2)

theorem where48 (l : List S37) (hn : l.length ≤ 100) (lo hi : Int) : ∀ d i (acc : List Int), i + d = l.length → acc.length ≤ i → Ev (fun k => api_Cand_47_48.l0 k acc l l.length i lo hi) (acc ++ idxFrom l (pIn lo hi) d i) := by
  intro d
  induction d with
  | zero =>
    intro i acc hi ha
    refine Ev.step (fun k => by rw [api_Cand_47_48.l0]) ?_
    exact Ev.neg (by omega) (Ev.const (by simp [idxFrom]))
  | succ d ih =>
    intro i acc hi' ha
    refine Ev.step (fun k => by rw [api_Cand_47_48.l0]) ?_
    refine Ev.pos (by omega) (Ev.pos (by omega) (Ev.pos (by omega) ?_))
    simp only [rd37]
    have e : choose_Select_1.f (l.getD i z37).f0 (l.getD i z37).f1 (l.getD i z37).f2 (l.getD i z37).f3 (l.getD i z37).f4 lo hi = some (pIn lo hi (l.getD i z37)) := by
      unfold choose_Select_1.f pIn
      by_cases h : (l.getD i z37).f1 ≥ lo
      · rw [if_pos h, decide_eq_true h, Bool.true_and]
      · rw [if_neg h, decide_eq_false h, Bool.false_and]
    rw [e]
    refine Ev.some_bind ?_
    unfold idxFrom
    rw [wrap_nat (by omega)]
    by_cases h : pIn lo hi (l.getD i z37) = true
    · rw [if_pos h]
      refine Ev.pos h (Ev.pos (by omega) ?_)
      have := ih (i + 1) (acc ++ [(i : Int)]) (by omega) (by simp; omega)
      simpa using this
    · rw [if_neg h]
      exact Ev.neg h (ih (i + 1) acc (by omega) (by omega))
theorem impl_in (l : List S37) (hn : l.length ≤ 100) (lo hi : Int) : Ev (fun k => api_Cand_47_48.f k l lo hi) (idx l (pIn lo hi)) := where48 l hn lo hi l.length 0 [] (by omega) (by simp)

theorem where51 (l : List S37) (hn : l.length ≤ 100) (lo hi : Int) : ∀ d i (acc : List Int), i + d = l.length → acc.length ≤ i → Ev (fun k => api_Cand_47_51.l0 k acc l l.length i lo hi) (acc ++ idxFrom l (pOut lo hi) d i) := by
  intro d
  induction d with
  | zero =>
    intro i acc hi ha
    refine Ev.step (fun k => by rw [api_Cand_47_51.l0]) ?_
    exact Ev.neg (by omega) (Ev.const (by simp [idxFrom]))
  | succ d ih =>
    intro i acc hi' ha
    refine Ev.step (fun k => by rw [api_Cand_47_51.l0]) ?_
    refine Ev.pos (by omega) (Ev.pos (by omega) (Ev.pos (by omega) ?_))
    simp only [rd37]
    have e : choose_Falsetickers_1.f (l.getD i z37).f0 (l.getD i z37).f1 (l.getD i z37).f2 (l.getD i z37).f3 (l.getD i z37).f4 lo hi = some (pOut lo hi (l.getD i z37)) := by
      unfold choose_Falsetickers_1.f pOut pIn
      by_cases h : (l.getD i z37).f1 < lo
      · rw [if_pos h, decide_eq_false (by omega : ¬ lo ≤ (l.getD i z37).f1)]; rfl
      · rw [if_neg h, decide_eq_true (by omega : lo ≤ (l.getD i z37).f1)]
        by_cases h2 : (l.getD i z37).f1 ≤ hi
        · rw [decide_eq_true h2, decide_eq_false (by omega : ¬ (l.getD i z37).f1 > hi)]; rfl
        · rw [decide_eq_false h2, decide_eq_true (by omega : (l.getD i z37).f1 > hi)]; rfl
    rw [e]
    refine Ev.some_bind ?_
    unfold idxFrom
    rw [wrap_nat (by omega)]
    by_cases h : pOut lo hi (l.getD i z37) = true
    · rw [if_pos h]
      refine Ev.pos h (Ev.pos (by omega) ?_)
      have := ih (i + 1) (acc ++ [(i : Int)]) (by omega) (by simp; omega)
      simpa using this
    · rw [if_neg h]
      exact Ev.neg h (ih (i + 1) acc (by omega) (by omega))
theorem impl_out (l : List S37) (hn : l.length ≤ 100) (lo hi : Int) : Ev (fun k => api_Cand_47_51.f k l lo hi) (idx l (pOut lo hi)) := where51 l hn lo hi l.length 0 [] (by omega) (by simp)

/-- The elements of a list of candidates, by index, are within the limits. -/
theorem okAt {l : List S37} (h : ∀ c ∈ l, OkC c) {i : Nat} (hi : i < l.length) : OkC (l.getD i z37) := by
  have : l.getD i z37 ∈ l := by simp [List.getD, hi]
  exact h _ this

theorem where52 (l : List S37) (hn : l.length ≤ 100) (hok : ∀ c ∈ l, OkC c) (lo hi : Int) : ∀ d i (acc : List Int), i + d = l.length → acc.length ≤ i → Ev (fun k => api_Cand_47_52.l0 k acc l l.length i lo hi) (acc ++ idxFrom l (pMeet lo hi) d i) := by
  intro d
  induction d with
  | zero =>
    intro i acc hi ha
    refine Ev.step (fun k => by rw [api_Cand_47_52.l0]) ?_
    exact Ev.neg (by omega) (Ev.const (by simp [idxFrom]))
  | succ d ih =>
    intro i acc hi' ha
    have ho := okAt hok (show i < l.length by omega)
    refine Ev.step (fun k => by rw [api_Cand_47_52.l0]) ?_
    refine Ev.pos (by omega) (Ev.pos (by omega) (Ev.pos (by omega) ?_))
    simp only [rd37]
    have e : choose_Majority_1.f (l.getD i z37).f0 (l.getD i z37).f1 (l.getD i z37).f2 (l.getD i z37).f3 (l.getD i z37).f4 lo hi = some (pMeet lo hi (l.getD i z37)) := by
      obtain ⟨_, _, h3, h4, h5, h6, _⟩ := ho
      unfold choose_Majority_1.f choose_span.f pMeet
      rw [wrap_id (by omega) (by omega), wrap_id (by omega) (by omega)]
      simp only [Option.bind_some]
      by_cases h : (l.getD i z37).f1 - (l.getD i z37).f2 ≤ hi
      · rw [if_pos h, decide_eq_true h, Bool.true_and]
      · rw [if_neg h, decide_eq_false h, Bool.false_and]
    rw [e]
    refine Ev.some_bind ?_
    unfold idxFrom
    rw [wrap_nat (by omega)]
    by_cases h : pMeet lo hi (l.getD i z37) = true
    · rw [if_pos h]
      refine Ev.pos h (Ev.pos (by omega) ?_)
      have := ih (i + 1) (acc ++ [(i : Int)]) (by omega) (by simp; omega)
      simpa using this
    · rw [if_neg h]
      exact Ev.neg h (ih (i + 1) acc (by omega) (by omega))
theorem impl_meet (l : List S37) (hn : l.length ≤ 100) (hok : ∀ c ∈ l, OkC c) (lo hi : Int) : Ev (fun k => api_Cand_47_52.f k l lo hi) (idx l (pMeet lo hi)) := where52 l hn hok lo hi l.length 0 [] (by omega) (by simp)

theorem ref_within (n lo hi : Int) : timesyncref24_within.f n lo hi = some (decide (lo ≤ n) && decide (n ≤ hi)) := by
  unfold timesyncref24_within.f
  by_cases h : lo ≤ n
  · rw [if_pos h, decide_eq_true h, Bool.true_and]
  · rw [if_neg h, decide_eq_false h, Bool.false_and]

theorem inside_from (l : List S37) (hn : l.length ≤ 100) (lo hi : Int) (is : Bool) : ∀ d i (acc : List Int), i + d = l.length → acc.length ≤ i → Ev (fun k => timesyncref24_inside.l0 k l is acc i lo hi) (acc ++ idxFrom l (fun c => pIn lo hi c == is) d i) := by
  intro d
  induction d with
  | zero =>
    intro i acc hi ha
    refine Ev.step (fun k => by rw [timesyncref24_inside.l0]) ?_
    exact Ev.neg (by omega) (Ev.const (by simp [idxFrom]))
  | succ d ih =>
    intro i acc hi' ha
    refine Ev.step (fun k => by rw [timesyncref24_inside.l0]) ?_
    refine Ev.pos (by omega) (Ev.pos (by omega) ?_)
    rw [rd37, ref_within]
    refine Ev.some_bind ?_
    unfold idxFrom
    rw [wrap_nat (by omega)]
    by_cases h : (pIn lo hi (l.getD i z37) == is) = true
    · rw [if_pos h]
      refine Ev.pos h (Ev.pos (by omega) ?_)
      have := ih (i + 1) (acc ++ [(i : Int)]) (by omega) (by simp; omega)
      simpa using this
    · rw [if_neg h]
      exact Ev.neg h (ih (i + 1) acc (by omega) (by omega))
theorem ref_in (l : List S37) (hn : l.length ≤ 100) (lo hi : Int) : Ev (fun k => timesyncref24_inside.f k l lo hi true) (idx l (pIn lo hi)) := by
  have := inside_from l hn lo hi true l.length 0 [] (by omega) (by simp)
  have e : (fun c => pIn lo hi c == true) = pIn lo hi := by funext c; cases pIn lo hi c <;> rfl
  rw [e] at this
  exact this
theorem ref_out (l : List S37) (hn : l.length ≤ 100) (lo hi : Int) : Ev (fun k => timesyncref24_inside.f k l lo hi false) (idx l (pOut lo hi)) := by
  have := inside_from l hn lo hi false l.length 0 [] (by omega) (by simp)
  have e : (fun c => pIn lo hi c == false) = pOut lo hi := by funext c; unfold pOut; cases pIn lo hi c <;> rfl
  rw [e] at this
  exact this

/-! ### Counts -/
def holds (s : S29) (t : Int) : Bool := decide (s.f0 ≤ t) && decide (t ≤ s.f1)
def cnt (v : List S29) (t : Int) : Nat := v.countP (fun s => holds s t)
def span (c : S37) : S29 := ⟨c.f1 - c.f2, c.f1 + c.f2⟩
def spans (l : List S37) : List S29 := l.map span
/-- What a hull is: the first and the last instant with at least 'need' intervals; none if there is no such instant. -/
def HullSpec (v : List S29) (need : Int) (lo hi : Int) (ok : Bool) : Prop :=
  (ok = true ∧ 1 ≤ need ∧ need ≤ cnt v lo ∧ need ≤ cnt v hi ∧ ∀ t, need ≤ cnt v t → lo ≤ t ∧ t ≤ hi) ∨ (ok = false ∧ lo = 0 ∧ hi = 0 ∧ (need < 1 ∨ ∀ t, (cnt v t : Int) < need))
theorem HullSpec.uniq {v : List S29} {need a b a' b' : Int} {o o' : Bool} (h : HullSpec v need a b o) (h' : HullSpec v need a' b' o') : a = a' ∧ b = b' ∧ o = o' := by
  rcases h with ⟨rfl, h1, h2, h3, h4⟩ | ⟨rfl, rfl, rfl, h1⟩ <;> rcases h' with ⟨rfl, g1, g2, g3, g4⟩ | ⟨rfl, rfl, rfl, g1⟩
  · have x1 := h4 _ g2; have x2 := h4 _ g3; have x3 := g4 _ h2; have x4 := g4 _ h3
    exact ⟨by omega, by omega, rfl⟩
  · rcases g1 with g1 | g1
    · omega
    · have := g1 a; omega
  · rcases h1 with h1 | h1
    · omega
    · have := h1 a'; omega
  · exact ⟨rfl, rfl, rfl⟩

theorem cnt_mono {v : List S29} {t u : Int} (h : ∀ s ∈ v, holds s t = true → holds s u = true) : cnt v t ≤ cnt v u := List.countP_mono_left h
theorem max_f0 : ∀ (v : List S29), v ≠ [] → ∃ s ∈ v, ∀ x ∈ v, x.f0 ≤ s.f0
  | [], h => absurd rfl h
  | [a], _ => ⟨a, by simp, by simp⟩
  | a :: b :: r, _ => by
    obtain ⟨s, hs, hm⟩ := max_f0 (b :: r) (by simp)
    by_cases h : s.f0 ≤ a.f0
    · exact ⟨a, by simp, fun x hx => by
        rcases List.mem_cons.1 hx with rfl | hx
        · exact Int.le_refl _
        · exact Int.le_trans (hm x hx) h⟩
    · exact ⟨s, List.mem_cons_of_mem _ hs, fun x hx => by
        rcases List.mem_cons.1 hx with rfl | hx
        · omega
        · exact hm x hx⟩
theorem min_f1 : ∀ (v : List S29), v ≠ [] → ∃ s ∈ v, ∀ x ∈ v, s.f1 ≤ x.f1
  | [], h => absurd rfl h
  | [a], _ => ⟨a, by simp, by simp⟩
  | a :: b :: r, _ => by
    obtain ⟨s, hs, hm⟩ := min_f1 (b :: r) (by simp)
    by_cases h : a.f1 ≤ s.f1
    · exact ⟨a, by simp, fun x hx => by
        rcases List.mem_cons.1 hx with rfl | hx
        · exact Int.le_refl _
        · exact Int.le_trans h (hm x hx)⟩
    · exact ⟨s, List.mem_cons_of_mem _ hs, fun x hx => by
        rcases List.mem_cons.1 hx with rfl | hx
        · omega
        · exact hm x hx⟩
theorem holds_iff {s : S29} {t : Int} : holds s t = true ↔ s.f0 ≤ t ∧ t ≤ s.f1 := by simp [holds]
/-- The last begin at or ahead of an instant has at least its count; the first end behind it, too. -/
theorem cnt_begin {v : List S29} {t : Int} (h : 1 ≤ cnt v t) : ∃ s ∈ v, s.f0 ≤ t ∧ cnt v t ≤ cnt v s.f0 := by
  have hne : v.filter (fun s => holds s t) ≠ [] := by
    intro e
    rw [cnt, List.countP_eq_length_filter, e] at h
    simp at h
  obtain ⟨s, hs, hm⟩ := max_f0 _ hne
  rw [List.mem_filter] at hs
  refine ⟨s, hs.1, (holds_iff.1 hs.2).1, cnt_mono fun x hx hx2 => ?_⟩
  have := hm x (List.mem_filter.2 ⟨hx, hx2⟩)
  have h1 := holds_iff.1 hx2
  have h2 := holds_iff.1 hs.2
  exact holds_iff.2 ⟨this, by omega⟩
theorem cnt_end {v : List S29} {t : Int} (h : 1 ≤ cnt v t) : ∃ s ∈ v, t ≤ s.f1 ∧ cnt v t ≤ cnt v s.f1 := by
  have hne : v.filter (fun s => holds s t) ≠ [] := by
    intro e
    rw [cnt, List.countP_eq_length_filter, e] at h
    simp at h
  obtain ⟨s, hs, hm⟩ := min_f1 _ hne
  rw [List.mem_filter] at hs
  refine ⟨s, hs.1, (holds_iff.1 hs.2).2, cnt_mono fun x hx hx2 => ?_⟩
  have := hm x (List.mem_filter.2 ⟨hx, hx2⟩)
  have h1 := holds_iff.1 hx2
  have h2 := holds_iff.1 hs.2
  exact holds_iff.2 ⟨by omega, this⟩

theorem count_from (l : List S37) (hn : l.length ≤ 100) (hok : ∀ c ∈ l, OkC c) (t : Int) : ∀ d i (n : Nat), i + d = l.length → n ≤ i → Ev (fun k => timesyncref24_count.l0 k l t n i) ((n + cnt (spans (l.drop i)) t : Nat) : Int) := by
  intro d
  induction d with
  | zero =>
    intro i n hi ha
    refine Ev.step (fun k => by rw [timesyncref24_count.l0]) ?_
    refine Ev.neg (by omega) (Ev.const ?_)
    rw [List.drop_eq_nil_of_le (by omega)]
    simp [spans, cnt]
  | succ d ih =>
    intro i n hi ha
    have hlt : i < l.length := by omega
    have ho := okAt hok hlt
    have hg : l.getD i z37 = l[i] := by simp [List.getD, hlt]
    refine Ev.step (fun k => by rw [timesyncref24_count.l0]) ?_
    refine Ev.pos (by omega) (Ev.pos (by omega) ?_)
    simp only [rd37]
    obtain ⟨_, _, h3, h4, h5, h6, _⟩ := ho
    rw [wrap_id (by omega) (by omega), wrap_id (by omega) (by omega), ref_within]
    refine Ev.some_bind ?_
    have e : spans (l.drop i) = span l[i] :: spans (l.drop (i + 1)) := by rw [List.drop_eq_getElem_cons hlt]; rfl
    rw [e, hg]
    have ew : wrap64 ((i : Int) + 1) = ((i + 1 : Nat) : Int) := wrap_nat (by omega)
    rw [ew]
    have eh : (decide (l[i].f1 - l[i].f2 ≤ t) && decide (t ≤ l[i].f1 + l[i].f2)) = holds (span l[i]) t := rfl
    rw [eh]
    by_cases h : holds (span l[i]) t = true
    · refine Ev.pos h ?_
      have := ih (i + 1) (n + 1) (by omega) (by omega)
      rw [wrap_nat (by omega)]
      have ec : n + cnt (span l[i] :: spans (l.drop (i + 1))) t = n + 1 + cnt (spans (l.drop (i + 1))) t := by
        unfold cnt; rw [List.countP_cons, if_pos h]; omega
      rw [ec]
      exact this
    · refine Ev.neg h ?_
      have ec : cnt (span l[i] :: spans (l.drop (i + 1))) t = cnt (spans (l.drop (i + 1))) t := by
        unfold cnt; rw [List.countP_cons, if_neg h]; rfl
      rw [ec]
      exact ih (i + 1) n (by omega) (by omega)
theorem ref_count (l : List S37) (hn : l.length ≤ 100) (hok : ∀ c ∈ l, OkC c) (t : Int) : Ev (fun k => timesyncref24_count.f k l t) (cnt (spans l) t : Int) := by
  have := count_from l hn hok t l.length 0 0 (by omega) (by omega)
  simpa [timesyncref24_count.f] using this

theorem spanAt {l : List S37} {i : Nat} (hi : i < l.length) : span (l.getD i z37) ∈ spans l := by
  have : l.getD i z37 ∈ l := by simp [List.getD, hi]
  exact List.mem_map.2 ⟨_, this, rfl⟩
theorem span_at {l : List S37} {s : S29} (h : s ∈ spans l) : ∃ i, i < l.length ∧ span (l.getD i z37) = s := by
  obtain ⟨c, hc, rfl⟩ := List.mem_map.1 h
  obtain ⟨i, hi, rfl⟩ := List.getElem_of_mem hc
  exact ⟨i, hi, by simp [List.getD, hi]⟩

theorem hull_hi (l : List S37) (hn : l.length ≤ 100) (hok : ∀ c ∈ l, OkC c) (need : Int) (h1 : 1 ≤ need) (lo : Int) (hlo : need ≤ cnt (spans l) lo) (hmin : ∀ t, need ≤ cnt (spans l) t → lo ≤ t) :
    ∀ d i hi, i + d = l.length → need ≤ cnt (spans l) hi → (∀ j, j < i → need ≤ cnt (spans l) (span (l.getD j z37)).f1 → (span (l.getD j z37)).f1 ≤ hi) →
      ∃ hi', Ev (fun k => timesyncref24_hull.l1 k l need i lo hi) (lo, hi', true) ∧ HullSpec (spans l) need lo hi' true := by
  intro d
  induction d with
  | zero =>
    intro i hi hi' hc hm
    refine ⟨hi, ?_, .inl ⟨rfl, h1, hlo, hc, fun t ht => ⟨hmin t ht, ?_⟩⟩⟩
    · refine Ev.step (fun k => by rw [timesyncref24_hull.l1]) ?_
      exact Ev.neg (by omega) (Ev.const rfl)
    · obtain ⟨s, hs, h2, h3⟩ := cnt_end (v := spans l) (t := t) (by omega)
      obtain ⟨j, hj, rfl⟩ := span_at hs
      have := hm j (by omega) (by omega)
      omega
  | succ d ih =>
    intro i hi hi' hc hm
    have hlt : i < l.length := by omega
    obtain ⟨_, _, g3, g4, g5, g6, _⟩ := okAt hok hlt
    have rc := ref_count l hn hok ((l.getD i z37).f1 + (l.getD i z37).f2)
    have key : ∃ hi2, need ≤ cnt (spans l) hi2 ∧ (∀ j, j < i + 1 → need ≤ cnt (spans l) (span (l.getD j z37)).f1 → (span (l.getD j z37)).f1 ≤ hi2) ∧
        ∀ r, Ev (fun k => timesyncref24_hull.l1 k l need ((i + 1 : Nat) : Int) lo hi2) r → Ev (fun k => timesyncref24_hull.l1 k l need i lo hi) r := by
      have st : ∀ r, Ev (fun k => (timesyncref24_count.f k l ((l.getD i z37).f1 + (l.getD i z37).f2)).bind fun t267 => (if t267 ≥ need then (if (l.getD i z37).f1 + (l.getD i z37).f2 > hi then (timesyncref24_hull.l1 k l need ((i + 1 : Nat) : Int) lo ((l.getD i z37).f1 + (l.getD i z37).f2)) else (timesyncref24_hull.l1 k l need ((i + 1 : Nat) : Int) lo hi)) else (timesyncref24_hull.l1 k l need ((i + 1 : Nat) : Int) lo hi))) r → Ev (fun k => timesyncref24_hull.l1 k l need i lo hi) r := by
        intro r hr
        refine Ev.step (fun k => by rw [timesyncref24_hull.l1]) ?_
        refine Ev.pos (by omega) (Ev.pos (by omega) ?_)
        simp only [rd37]
        rw [wrap_id (x := (l.getD i z37).f1 + (l.getD i z37).f2) (by omega) (by omega), wrap_nat (by omega)]
        exact hr
      by_cases hcn : (cnt (spans l) ((l.getD i z37).f1 + (l.getD i z37).f2) : Int) ≥ need
      · by_cases hgt : (l.getD i z37).f1 + (l.getD i z37).f2 > hi
        · refine ⟨(l.getD i z37).f1 + (l.getD i z37).f2, hcn, fun j hj hjn => ?_, fun r hr => st r (Ev.bind' _ rc (Ev.pos hcn (Ev.pos hgt hr)))⟩
          rcases Nat.lt_or_ge j i with hji | hji
          · have := hm j hji hjn; omega
          · rw [show j = i by omega]; exact Int.le_refl _
        · refine ⟨hi, hc, fun j hj hjn => ?_, fun r hr => st r (Ev.bind' _ rc (Ev.pos hcn (Ev.neg hgt hr)))⟩
          rcases Nat.lt_or_ge j i with hji | hji
          · exact hm j hji hjn
          · rw [show j = i by omega]; show (l.getD i z37).f1 + (l.getD i z37).f2 ≤ hi; omega
      · refine ⟨hi, hc, fun j hj hjn => ?_, fun r hr => st r (Ev.bind' _ rc (Ev.neg hcn hr))⟩
        rcases Nat.lt_or_ge j i with hji | hji
        · exact hm j hji hjn
        · have e : j = i := by omega
          subst e
          exact absurd hjn hcn
    obtain ⟨hi2, c1, c2, c3⟩ := key
    obtain ⟨hi3, e1, e2⟩ := ih (i + 1) hi2 (by omega) c1 c2
    exact ⟨hi3, c3 _ e1, e2⟩

theorem hull_lo (l : List S37) (hn : l.length ≤ 100) (hok : ∀ c ∈ l, OkC c) (need : Int) (h1 : 1 ≤ need) :
    ∀ d i (ok : Bool) lo, i + d = l.length → (ok = false ∧ lo = 0 ∧ (∀ j, j < i → (cnt (spans l) (span (l.getD j z37)).f0 : Int) < need) ∨ ok = true ∧ need ≤ cnt (spans l) lo ∧ ∀ j, j < i → need ≤ cnt (spans l) (span (l.getD j z37)).f0 → lo ≤ (span (l.getD j z37)).f0) →
      ∃ lo' hi' ok', Ev (fun k => timesyncref24_hull.l0 k l need ok i lo 0) (lo', hi', ok') ∧ HullSpec (spans l) need lo' hi' ok' := by
  intro d
  induction d with
  | zero =>
    intro i ok lo hi' hinv
    rcases hinv with ⟨rfl, rfl, hm⟩ | ⟨rfl, hc, hm⟩
    · refine ⟨0, 0, false, ?_, .inr ⟨rfl, rfl, rfl, .inr fun t => ?_⟩⟩
      · refine Ev.step (fun k => by rw [timesyncref24_hull.l0]) ?_
        exact Ev.neg (by omega) (Ev.neg (by simp) (Ev.const rfl))
      · rcases Nat.eq_zero_or_pos (cnt (spans l) t) with h0 | h0
        · omega
        · obtain ⟨s, hs, h2, h3⟩ := cnt_begin h0
          obtain ⟨j, hj, rfl⟩ := span_at hs
          have := hm j (by omega)
          omega
    · have hmin : ∀ t, need ≤ cnt (spans l) t → lo ≤ t := fun t ht => by
        obtain ⟨s, hs, h2, h3⟩ := cnt_begin (v := spans l) (t := t) (by omega)
        obtain ⟨j, hj, rfl⟩ := span_at hs
        have := hm j (by omega) (by omega)
        omega
      obtain ⟨hi2, e1, e2⟩ := hull_hi l hn hok need h1 lo hc hmin l.length 0 lo (by omega) hc (fun j hj => by omega)
      refine ⟨lo, hi2, true, ?_, e2⟩
      refine Ev.step (fun k => by rw [timesyncref24_hull.l0]) ?_
      exact Ev.neg (by omega) (Ev.pos rfl e1)
  | succ d ih =>
    intro i ok lo hi' hinv
    have hlt : i < l.length := by omega
    obtain ⟨_, _, g3, g4, g5, g6, _⟩ := okAt hok hlt
    have rc := ref_count l hn hok ((l.getD i z37).f1 - (l.getD i z37).f2)
    have st : ∀ r, Ev (fun k => (timesyncref24_count.f k l ((l.getD i z37).f1 - (l.getD i z37).f2)).bind fun t264 => (if t264 ≥ need then (if ok = true then (if ((l.getD i z37).f1 - (l.getD i z37).f2) < lo then (timesyncref24_hull.l0 k l need true ((i + 1 : Nat) : Int) ((l.getD i z37).f1 - (l.getD i z37).f2) 0) else (timesyncref24_hull.l0 k l need ok ((i + 1 : Nat) : Int) lo 0)) else (timesyncref24_hull.l0 k l need true ((i + 1 : Nat) : Int) ((l.getD i z37).f1 - (l.getD i z37).f2) 0)) else (timesyncref24_hull.l0 k l need ok ((i + 1 : Nat) : Int) lo 0))) r → Ev (fun k => timesyncref24_hull.l0 k l need ok i lo 0) r := by
      intro r hr
      refine Ev.step (fun k => by rw [timesyncref24_hull.l0]) ?_
      refine Ev.pos (by omega) (Ev.pos (by omega) ?_)
      simp only [rd37]
      rw [wrap_id (x := (l.getD i z37).f1 - (l.getD i z37).f2) (by omega) (by omega), wrap_nat (by omega)]
      exact hr
    by_cases hcn : (cnt (spans l) ((l.getD i z37).f1 - (l.getD i z37).f2) : Int) ≥ need
    · rcases hinv with ⟨rfl, rfl, hm⟩ | ⟨rfl, hc, hm⟩
      · obtain ⟨a, b, o, e1, e2⟩ := ih (i + 1) true ((l.getD i z37).f1 - (l.getD i z37).f2) (by omega) (.inr ⟨rfl, hcn, fun j hj hjn => by
          rcases Nat.lt_or_ge j i with hji | hji
          · have := hm j hji; omega
          · rw [show j = i by omega]; exact Int.le_refl _⟩)
        exact ⟨a, b, o, st _ (Ev.bind' _ rc (Ev.pos hcn (Ev.neg (by simp) e1))), e2⟩
      · by_cases hltlo : (l.getD i z37).f1 - (l.getD i z37).f2 < lo
        · obtain ⟨a, b, o, e1, e2⟩ := ih (i + 1) true ((l.getD i z37).f1 - (l.getD i z37).f2) (by omega) (.inr ⟨rfl, hcn, fun j hj hjn => by
            rcases Nat.lt_or_ge j i with hji | hji
            · have := hm j hji hjn; omega
            · rw [show j = i by omega]; exact Int.le_refl _⟩)
          exact ⟨a, b, o, st _ (Ev.bind' _ rc (Ev.pos hcn (Ev.pos rfl (Ev.pos hltlo e1)))), e2⟩
        · obtain ⟨a, b, o, e1, e2⟩ := ih (i + 1) true lo (by omega) (.inr ⟨rfl, hc, fun j hj hjn => by
            rcases Nat.lt_or_ge j i with hji | hji
            · exact hm j hji hjn
            · rw [show j = i by omega]; show lo ≤ (l.getD i z37).f1 - (l.getD i z37).f2; omega⟩)
          exact ⟨a, b, o, st _ (Ev.bind' _ rc (Ev.pos hcn (Ev.pos rfl (Ev.neg hltlo e1)))), e2⟩
    · have inv2 : (ok = false ∧ lo = 0 ∧ (∀ j, j < i + 1 → (cnt (spans l) (span (l.getD j z37)).f0 : Int) < need) ∨ ok = true ∧ need ≤ cnt (spans l) lo ∧ ∀ j, j < i + 1 → need ≤ cnt (spans l) (span (l.getD j z37)).f0 → lo ≤ (span (l.getD j z37)).f0) := by
        rcases hinv with ⟨h2, h3, hm⟩ | ⟨h2, hc, hm⟩
        · refine .inl ⟨h2, h3, fun j hj => ?_⟩
          rcases Nat.lt_or_ge j i with hji | hji
          · exact hm j hji
          · have e : j = i := by omega
            subst e
            exact Int.not_le.1 hcn
        · refine .inr ⟨h2, hc, fun j hj hjn => ?_⟩
          rcases Nat.lt_or_ge j i with hji | hji
          · exact hm j hji hjn
          · have e : j = i := by omega
            subst e
            exact absurd hjn hcn
      obtain ⟨a, b, o, e1, e2⟩ := ih (i + 1) ok lo (by omega) inv2
      exact ⟨a, b, o, st _ (Ev.bind' _ rc (Ev.neg hcn e1)), e2⟩
theorem ref_hull (l : List S37) (hn : l.length ≤ 100) (hok : ∀ c ∈ l, OkC c) (need : Int) (h1 : 1 ≤ need) :
    ∃ lo hi ok, Ev (fun k => timesyncref24_hull.f k l need) (lo, hi, ok) ∧ HullSpec (spans l) need lo hi ok :=
  hull_lo l hn hok need h1 l.length 0 false 0 (by omega) (.inl ⟨rfl, rfl, fun j hj => by omega⟩)
end Go.Proofs.Ytlfilhplklifjaa.PA

/- The program's runs and its hull. -/
namespace Go.Proofs.Ytlfilhplklifjaa.PA
open Go.RowKit Go.Proofs.Ytlfilhplklifjaa.X Go.Proofs.YtlfilhplklifjaaW.PrintWords Go.Proofs.YtlfilhplklifjaaW.PrintLast

/-! ### Valid intervals -/
def OkI (s : S29) : Prop := s.f0 ≤ s.f1 ∧ -8000000000000000000 ≤ s.f0 ∧ s.f1 ≤ 8000000000000000000
instance (s : S29) : Decidable (OkI s) := by unfold OkI; infer_instance
def valid (v : List S29) : List S29 := if (v.length : Int) > 48 then [] else v.filter (fun s => decide (OkI s))
theorem drift_check (s : S29) : drift_Check.f s.f0 s.f1 = some (if OkI s then 0 else 3) := by
  unfold drift_Check.f
  have nk : ∀ {p : Prop}, p → (OkI s → ¬ p) → ¬ OkI s := fun h h2 h3 => h2 h3 h
  by_cases h1 : s.f0 > s.f1
  · rw [if_pos h1, if_neg (nk h1 fun h => by unfold OkI at h; omega)]
  · rw [if_neg h1]
    by_cases h2 : s.f0 < -8000000000000000000
    · rw [if_pos h2, if_neg (nk h2 fun h => by unfold OkI at h; omega)]
    · rw [if_neg h2]
      by_cases h3 : s.f1 > 8000000000000000000
      · rw [if_pos h3, if_neg (nk h3 fun h => by unfold OkI at h; omega)]
      · rw [if_neg h3, if_pos (show OkI s by unfold OkI; omega)]
theorem valid_from (v : List S29) (hn : v.length ≤ 48) : ∀ d i (acc : List S29), i + d = v.length → acc.length ≤ i → Ev (fun k => interval_valid.l0 k acc v v.length i) (acc ++ (v.drop i).filter (fun s => decide (OkI s))) := by
  intro d
  induction d with
  | zero =>
    intro i acc hi ha
    refine Ev.step (fun k => by rw [interval_valid.l0]) ?_
    refine Ev.neg (by omega) (Ev.const ?_)
    rw [List.drop_eq_nil_of_le (by omega)]
    simp
  | succ d ih =>
    intro i acc hi ha
    have hlt : i < v.length := by omega
    have hg : v.getD i z29 = v[i] := by simp [List.getD, hlt]
    refine Ev.step (fun k => by rw [interval_valid.l0]) ?_
    refine Ev.pos (by omega) (Ev.pos (by omega) (Ev.pos (by omega) ?_))
    simp only [rd29]
    rw [drift_check, hg]
    refine Ev.some_bind ?_
    have ew : wrap64 ((i : Int) + 1) = ((i + 1 : Nat) : Int) := wrap_nat (by omega)
    rw [ew, List.drop_eq_getElem_cons hlt]
    by_cases h : OkI v[i]
    · rw [if_pos h, List.filter_cons_of_pos (by simpa using h)]
      refine Ev.pos rfl (Ev.pos (by omega) ?_)
      have := ih (i + 1) (acc ++ [v[i]]) (by omega) (by simp; omega)
      simpa using this
    · rw [if_neg h, List.filter_cons_of_neg (by simpa using h)]
      exact Ev.neg (by omega) (ih (i + 1) acc (by omega) (by omega))
theorem impl_valid (v : List S29) : Ev (fun k => interval_valid.f k v) (valid v) := by
  unfold interval_valid.f valid
  by_cases h : (v.length : Int) > 48
  · rw [if_pos h]; exact Ev.pos h (Ev.const rfl)
  · rw [if_neg h]
    refine Ev.neg h ?_
    have := valid_from v (by omega) v.length 0 [] (by omega) (by simp)
    simpa using this
theorem valid_len (v : List S29) : (valid v).length ≤ 48 := by
  unfold valid
  split
  · simp
  · exact Nat.le_trans (List.length_filter_le _ _) (by omega)
theorem valid_ok {v : List S29} {s : S29} (h : s ∈ valid v) : OkI s := by
  unfold valid at h
  split at h
  · simp at h
  · simpa using (List.mem_filter.1 h).2

/-! ### Changes -/
def changes (v : List S29) : List S110 := v.flatMap (fun s => [⟨s.f0, 1⟩, ⟨s.f1 + 1, -1⟩])
theorem changes_len (v : List S29) : (changes v).length = 2 * v.length := by
  unfold changes
  induction v with
  | nil => rfl
  | cons a r ih => simp only [List.flatMap_cons, List.length_append, List.length_cons, List.length_nil, ih]; omega
/-- What the changes up to an instant make together. -/
def sumLe (cs : List S110) (t : Int) : Int := (cs.map (fun x => if x.f0 ≤ t then x.f1 else 0)).sum
def total (cs : List S110) : Int := (cs.map (fun x => x.f1)).sum
theorem sumLe_changes (v : List S29) (h : ∀ s ∈ v, s.f0 ≤ s.f1) (t : Int) : sumLe (changes v) t = cnt v t := by
  induction v with
  | nil => rfl
  | cons a r ih =>
    have ih := ih (fun s hs => h s (List.mem_cons_of_mem _ hs))
    have ha := h a (by simp)
    have e1 : sumLe (changes (a :: r)) t = (if a.f0 ≤ t then 1 else 0) + ((if a.f1 + 1 ≤ t then -1 else 0) + sumLe (changes r) t) := by
      simp [sumLe, changes]
    have e2 : cnt (a :: r) t = cnt r t + (if holds a t = true then 1 else 0) := by simp [cnt, List.countP_cons]
    rw [e1, e2, ih]
    by_cases h1 : a.f0 ≤ t <;> by_cases h2 : a.f1 + 1 ≤ t
    · have : ¬ holds a t = true := fun hh => by have := holds_iff.1 hh; omega
      simp [h1, h2, this]; omega
    · have : holds a t = true := holds_iff.2 (by omega)
      simp [h1, h2, this]; omega
    · omega
    · have : ¬ holds a t = true := fun hh => by have := holds_iff.1 hh; omega
      simp [h1, h2, this]
theorem total_changes (v : List S29) : total (changes v) = 0 := by
  induction v with
  | nil => rfl
  | cons a r ih =>
    have : total (changes (a :: r)) = 1 + (-1 + total (changes r)) := by simp [total, changes]
    omega
theorem sum_perm {l l' : List Int} (h : l.Perm l') : l.sum = l'.sum := by
  induction h with
  | nil => rfl
  | cons x _ ih => simp [ih]
  | swap x y l => simp only [List.sum_cons]; omega
  | trans _ _ ih1 ih2 => exact ih1.trans ih2
theorem sumLe_perm {cs cs' : List S110} (h : cs.Perm cs') (t : Int) : sumLe cs t = sumLe cs' t := sum_perm (h.map _)
theorem total_perm {cs cs' : List S110} (h : cs.Perm cs') : total cs = total cs' := sum_perm (h.map _)

theorem runs_from (v : List S29) (hn : v.length ≤ 48) (hok : ∀ s ∈ v, OkI s) (r : List S88)
    (hr : Ev (fun k => (interval_change_82_83.f (changes v)).bind fun t => interval_runs.l1 k t [] 0 t ((changes v).length : Int) 0) r) :
    ∀ d i (acc : List S110), i + d = v.length → acc = changes (v.take i) → Ev (fun k => interval_runs.l0 k acc v v.length i) r := by
  intro d
  induction d with
  | zero =>
    intro i acc hi ha
    refine Ev.step (fun k => by rw [interval_runs.l0]) ?_
    refine Ev.neg (by omega) ?_
    rw [List.take_of_length_le (by omega)] at ha
    subst ha
    exact hr
  | succ d ih =>
    intro i acc hi ha
    have hlt : i < v.length := by omega
    have hg : v.getD i z29 = v[i] := by simp [List.getD, hlt]
    obtain ⟨_, h2, h3⟩ := hok v[i] (List.getElem_mem hlt)
    refine Ev.step (fun k => by rw [interval_runs.l0]) ?_
    refine Ev.pos (by omega) (Ev.pos (by omega) (Ev.pos (by omega) (Ev.some_bind ?_)))
    simp only [rd29]
    have ew : wrap64 ((i : Int) + 1) = ((i + 1 : Nat) : Int) := wrap_nat (by omega)
    have el : acc.length = 2 * i := by rw [ha, changes_len, List.length_take]; omega
    rw [hg, ew, wrap_id (x := v[i].f1 + 1) (by have := hok v[i] (List.getElem_mem hlt); unfold OkI at this; omega) (by omega)]
    refine Ev.pos (by simp [el]; omega) ?_
    refine ih (i + 1) _ (by omega) ?_
    rw [ha, List.take_succ_eq_append_getElem hlt]
    unfold changes
    rw [List.flatMap_append]
    rfl

/-! ### Runs -/
def runsOf : Int → List S110 → List S88
  | _, [] => []
  | _, [_] => []
  | c, x :: y :: rest => if y.f0 > x.f0 then ⟨x.f0, y.f0 - 1, c + x.f1⟩ :: runsOf (c + x.f1) (y :: rest) else runsOf (c + x.f1) (y :: rest)
theorem runsOf_len : ∀ (cs : List S110) (c : Int), (runsOf c cs).length ≤ cs.length
  | [], _ => by simp [runsOf]
  | [_], _ => by simp [runsOf]
  | x :: y :: rest, c => by
    have := runsOf_len (y :: rest) (c + x.f1)
    unfold runsOf
    split
    · simp only [List.length_cons] at this ⊢; omega
    · simp only [List.length_cons] at this ⊢; omega
/-- Small changes at small instants. -/
def Small (cs : List S110) : Prop := ∀ x ∈ cs, -1 ≤ x.f1 ∧ x.f1 ≤ 1 ∧ -8000000000000000000 ≤ x.f0 ∧ x.f0 ≤ 8000000000000000001
theorem runs_l1 (cs : List S110) (hn : cs.length ≤ 96) (hs : Small cs) : ∀ d i (acc : List S88) (c : Int), i + d = cs.length → acc.length ≤ i → -(i : Int) ≤ c → c ≤ i →
    Ev (fun k => interval_runs.l1 k cs acc c cs cs.length i) (acc ++ runsOf c (cs.drop i)) := by
  intro d
  induction d with
  | zero =>
    intro i acc c hi ha _ _
    refine Ev.step (fun k => by rw [interval_runs.l1]) ?_
    refine Ev.neg (by omega) (Ev.const ?_)
    rw [List.drop_eq_nil_of_le (by omega)]
    simp [runsOf]
  | succ d ih =>
    intro i acc c hi ha hc1 hc2
    have hlt : i < cs.length := by omega
    have hg : cs.getD i z110 = cs[i] := by simp [List.getD, hlt]
    obtain ⟨s1, s2, s3, s4⟩ := hs cs[i] (List.getElem_mem hlt)
    refine Ev.step (fun k => by rw [interval_runs.l1]) ?_
    have ew : wrap64 ((i : Int) + 1) = ((i + 1 : Nat) : Int) := wrap_nat (by omega)
    have ec : wrap64 (c + cs[i].f1) = c + cs[i].f1 := wrap_id (by omega) (by omega)
    refine Ev.pos (by omega) (Ev.pos (by omega) (Ev.pos (by omega) ?_))
    rw [ew]
    simp only [rd110]
    rw [hg, ec]
    rcases Nat.lt_or_ge (i + 1) cs.length with h1 | h1
    · have hg1 : cs.getD (i + 1) z110 = cs[i + 1] := by simp [List.getD, h1]
      obtain ⟨t1, t2, t3, t4⟩ := hs cs[i + 1] (List.getElem_mem h1)
      rw [hg1]
      refine Ev.pos (by omega) (Ev.pos (by omega) ?_)
      rw [List.drop_eq_getElem_cons hlt, List.drop_eq_getElem_cons h1]
      unfold runsOf
      by_cases hgt : cs[i + 1].f0 > cs[i].f0
      · rw [if_pos hgt]
        refine Ev.pos hgt (Ev.pos (by omega) ?_)
        rw [wrap_id (x := cs[i + 1].f0 - 1) (by omega) (by omega)]
        have := ih (i + 1) (acc ++ [⟨cs[i].f0, cs[i + 1].f0 - 1, c + cs[i].f1⟩]) (c + cs[i].f1) (by omega) (by simp; omega) (by omega) (by omega)
        rw [List.drop_eq_getElem_cons h1] at this
        simpa using this
      · rw [if_neg hgt]
        refine Ev.neg hgt ?_
        have := ih (i + 1) acc (c + cs[i].f1) (by omega) (by omega) (by omega) (by omega)
        rw [List.drop_eq_getElem_cons h1] at this
        exact this
    · refine Ev.neg (by omega) ?_
      have := ih (i + 1) acc (c + cs[i].f1) (by omega) (by omega) (by omega) (by omega)
      rw [List.drop_eq_getElem_cons hlt, List.drop_eq_nil_of_le (by omega)]
      rw [List.drop_eq_nil_of_le (by omega)] at this
      simpa [runsOf] using this

def sorted (v : List S29) : List S110 := sortChange (changes v)
theorem small_changes {v : List S29} (hok : ∀ s ∈ v, OkI s) : Small (changes v) := by
  intro x hx
  obtain ⟨s, hs, hx⟩ := List.mem_flatMap.1 hx
  obtain ⟨h1, h2, h3⟩ := hok s hs
  simp only [List.mem_cons, List.not_mem_nil, or_false] at hx
  rcases hx with rfl | rfl
  · exact ⟨by show (-1 : Int) ≤ 1; omega, by show (1 : Int) ≤ 1; omega, h2, by show s.f0 ≤ _; omega⟩
  · exact ⟨by show (-1 : Int) ≤ -1; omega, by show (-1 : Int) ≤ 1; omega, by show _ ≤ s.f1 + 1; omega, by show s.f1 + 1 ≤ _; omega⟩
theorem sorted_perm (v : List S29) : (sorted v).Perm (changes v) := (sortChange_spec _).2.1
theorem sorted_sorted (v : List S29) : (sorted v).Pairwise (fun x y => x.f0 ≤ y.f0) := by
  have h := (sortChange_spec (changes v)).2.2
  have hsz := (sortChange_spec (changes v)).1
  rw [List.pairwise_iff_getElem]
  intro i j hi hj hij
  have hj' : j < (pdqChange (changes v)).size := by simpa [sorted, sortChange] using hj
  have hi' : i < (pdqChange (changes v)).size := by omega
  have := h i j (Nat.zero_le _) hij (by omega)
  rw [lt110] at this
  have e1 : (pdqChange (changes v))[i]! = (sorted v)[i] := by
    rw [getElem!_pos _ i hi']; simp [sorted, sortChange]
  have e2 : (pdqChange (changes v))[j]! = (sorted v)[j] := by
    rw [getElem!_pos _ j hj']; simp [sorted, sortChange]
  rw [e1, e2] at this
  simp at this
  exact this
def runs (v : List S29) : List S88 := runsOf 0 (sorted (valid v))
theorem impl_runs (v : List S29) : Ev (fun k => interval_runs.f k v) (runs v) := by
  unfold interval_runs.f
  refine Ev.bind' _ (impl_valid v) ?_
  have hl := valid_len v
  have hs := sorted_perm (valid v)
  have hsm : Small (sorted (valid v)) := fun x hx => small_changes (fun s hs => valid_ok hs) x (hs.mem_iff.1 hx)
  have hlen : (sorted (valid v)).length = (changes (valid v)).length := hs.length_eq
  have hl2 : (sorted (valid v)).length ≤ 96 := by rw [hlen, changes_len]; omega
  refine runs_from (valid v) hl (fun s hs => valid_ok hs) _ ?_ (valid v).length 0 [] (by omega) (by simp [changes])
  have ef : interval_change_82_83.f (changes (valid v)) = some (sorted (valid v)) := by
    unfold interval_change_82_83.f
    rw [if_pos (by rw [← hlen]; omega)]
    rfl
  rw [ef]
  refine Ev.some_bind ?_
  rw [← hlen]
  have := runs_l1 (sorted (valid v)) hl2 hsm (sorted (valid v)).length 0 [] 0 (by omega) (by simp) (by simp) (by simp)
  simpa [runs] using this

/-! ### What the runs tell -/
theorem sumLe_cons (x : S110) (cs : List S110) (t : Int) : sumLe (x :: cs) t = (if x.f0 ≤ t then x.f1 else 0) + sumLe cs t := by simp [sumLe]
theorem sumLe_none {cs : List S110} {t : Int} (h : ∀ x ∈ cs, t < x.f0) : sumLe cs t = 0 := by
  induction cs with
  | nil => rfl
  | cons a r ih =>
    rw [sumLe_cons, ih (fun x hx => h x (List.mem_cons_of_mem _ hx)), if_neg (by have := h a (by simp); omega)]
    rfl
theorem sumLe_all {cs : List S110} {t : Int} (h : ∀ x ∈ cs, x.f0 ≤ t) : sumLe cs t = total cs := by
  induction cs with
  | nil => rfl
  | cons a r ih =>
    rw [sumLe_cons, ih (fun x hx => h x (List.mem_cons_of_mem _ hx)), if_pos (h a (by simp))]
    simp [total]
/-- Within a run the count stands; the runs follow one another; what is between the first change and the last one lies in one. -/
theorem runsOf_spec : ∀ (cs : List S110) (c : Int), cs.Pairwise (fun x y => x.f0 ≤ y.f0) →
    (∀ r ∈ runsOf c cs, r.f0 ≤ r.f1 ∧ (∀ t, r.f0 ≤ t → t ≤ r.f1 → c + sumLe cs t = r.f2) ∧ (∀ x ∈ cs.head?, x.f0 ≤ r.f0)) ∧
    (runsOf c cs).Pairwise (fun r q => r.f1 < q.f0) ∧
    (∀ t, (∃ x ∈ cs, x.f0 ≤ t) → (∃ x ∈ cs, t < x.f0) → ∃ r ∈ runsOf c cs, r.f0 ≤ t ∧ t ≤ r.f1)
  | [], c, _ => ⟨by simp [runsOf], by simp [runsOf], by simp⟩
  | [x], c, _ => ⟨by simp [runsOf], by simp [runsOf], fun t ⟨a, ha, h1⟩ ⟨b, hb, h2⟩ => by
      simp only [List.mem_cons, List.not_mem_nil, or_false] at ha hb
      subst ha; subst hb; omega⟩
  | x :: y :: rest, c, hp => by
    obtain ⟨hx, hp'⟩ := List.pairwise_cons.1 hp
    obtain ⟨i1, i2, i3⟩ := runsOf_spec (y :: rest) (c + x.f1) hp'
    have hxy := hx y (by simp)
    have later : ∀ t, x.f0 ≤ t → c + sumLe (x :: y :: rest) t = c + x.f1 + sumLe (y :: rest) t := fun t ht => by
      rw [sumLe_cons, if_pos ht]; omega
    have hy : ∀ z ∈ y :: rest, y.f0 ≤ z.f0 := fun z hz => by
      rcases List.mem_cons.1 hz with rfl | hz
      · exact Int.le_refl _
      · exact (List.pairwise_cons.1 hp').1 z hz
    have tail : ∀ r ∈ runsOf (c + x.f1) (y :: rest), r.f0 ≤ r.f1 ∧ (∀ t, r.f0 ≤ t → t ≤ r.f1 → c + sumLe (x :: y :: rest) t = r.f2) ∧ y.f0 ≤ r.f0 := fun r hr => by
      obtain ⟨a, b, d⟩ := i1 r hr
      have d' := d y rfl
      exact ⟨a, fun t h1 h2 => by rw [later t (by omega)]; exact b t h1 h2, d'⟩
    have cover : ∀ t, y.f0 ≤ t → (∃ z ∈ x :: y :: rest, t < z.f0) → ∃ r ∈ runsOf (c + x.f1) (y :: rest), r.f0 ≤ t ∧ t ≤ r.f1 := fun t ht ⟨z, hz, h2⟩ => by
      refine i3 t ⟨y, by simp, ht⟩ ⟨z, ?_, h2⟩
      rcases List.mem_cons.1 hz with rfl | hz
      · omega
      · exact hz
    unfold runsOf
    by_cases hgt : y.f0 > x.f0
    · rw [if_pos hgt]
      refine ⟨fun r hr => ?_, ?_, fun t ⟨a, ha, h1⟩ h2 => ?_⟩
      · rcases List.mem_cons.1 hr with rfl | hr
        · refine ⟨by show x.f0 ≤ y.f0 - 1; omega, fun t h1 h2 => ?_, fun z hz => by simp at hz; subst hz; exact Int.le_refl _⟩
          have h2' : t ≤ y.f0 - 1 := h2
          rw [later t h1, sumLe_none (fun z hz => by have := hy z hz; omega)]
          show c + x.f1 + 0 = c + x.f1
          omega
        · obtain ⟨a, b, d⟩ := tail r hr
          exact ⟨a, b, fun z hz => by simp at hz; subst hz; omega⟩
      · refine List.pairwise_cons.2 ⟨fun r hr => ?_, i2⟩
        have := (tail r hr).2.2
        show y.f0 - 1 < r.f0
        omega
      · by_cases hy2 : y.f0 ≤ t
        · obtain ⟨r, hr, h⟩ := cover t hy2 h2
          exact ⟨r, List.mem_cons_of_mem _ hr, h⟩
        · refine ⟨_, List.mem_cons_self, ?_, by show t ≤ y.f0 - 1; omega⟩
          show x.f0 ≤ t
          rcases List.mem_cons.1 ha with rfl | ha
          · exact h1
          · have := hx a ha; omega
    · rw [if_neg hgt]
      refine ⟨fun r hr => ?_, i2, fun t ⟨a, ha, h1⟩ h2 => ?_⟩
      · obtain ⟨a, b, d⟩ := tail r hr
        exact ⟨a, b, fun z hz => by simp at hz; subst hz; omega⟩
      · refine cover t ?_ h2
        rcases List.mem_cons.1 ha with rfl | ha
        · omega
        · exact Int.le_trans (hy a ha) h1

/-- The runs of a list of intervals: pieces in which the count stands, one behind the other; every instant that an interval holds lies in one. -/
theorem runs_spec (v : List S29) :
    (∀ r ∈ runs v, r.f0 ≤ r.f1 ∧ ∀ t, r.f0 ≤ t → t ≤ r.f1 → (cnt (valid v) t : Int) = r.f2) ∧ (runs v).Pairwise (fun r q => r.f1 < q.f0) ∧ ∀ t, 1 ≤ cnt (valid v) t → ∃ r ∈ runs v, r.f0 ≤ t ∧ t ≤ r.f1 := by
  have hs : ∀ t, sumLe (sorted (valid v)) t = cnt (valid v) t := fun t => by
    rw [sumLe_perm (sorted_perm _), sumLe_changes _ (fun s hs => (valid_ok hs).1)]
  obtain ⟨h1, h2, h3⟩ := runsOf_spec (sorted (valid v)) 0 (sorted_sorted _)
  refine ⟨fun r hr => ⟨(h1 r hr).1, fun t ha hb => ?_⟩, h2, fun t ht => h3 t ?_ ?_⟩
  · rw [← hs t]
    have := (h1 r hr).2.1 t ha hb
    omega
  · refine Classical.byContradiction fun hc => ?_
    have : sumLe (sorted (valid v)) t = 0 := sumLe_none fun x hx => Int.not_le.1 fun hle => hc ⟨x, hx, hle⟩
    rw [hs] at this
    omega
  · refine Classical.byContradiction fun hc => ?_
    have : sumLe (sorted (valid v)) t = total (sorted (valid v)) := sumLe_all fun x hx => Int.not_lt.1 fun hlt => hc ⟨x, hx, hlt⟩
    rw [hs, total_perm (sorted_perm _), total_changes] at this
    omega
theorem runs_len (v : List S29) : (runs v).length ≤ 96 := by
  have h := runsOf_len (sorted (valid v)) 0
  rw [(sorted_perm _).length_eq, changes_len] at h
  have := valid_len v
  unfold runs
  omega

/-! ### The hull -/
theorem index_from (R : List S88) (hn : R.length ≤ 96) (need : Int) : ∀ d i, i + d = R.length → (∀ j, j < i → (R.getD j z88).f2 < need) →
    (∃ j : Nat, j < R.length ∧ Ev (fun k => interval_run_64_63.l0 k R R.length i need) (j : Int) ∧ need ≤ (R.getD j z88).f2 ∧ ∀ q, q < j → (R.getD q z88).f2 < need) ∨
    (Ev (fun k => interval_run_64_63.l0 k R R.length i need) (-1) ∧ ∀ q, q < R.length → (R.getD q z88).f2 < need) := by
  intro d
  induction d with
  | zero =>
    intro i hi hm
    refine .inr ⟨?_, fun q hq => hm q (by omega)⟩
    refine Ev.step (fun k => by rw [interval_run_64_63.l0]) ?_
    exact Ev.neg (by omega) (Ev.const rfl)
  | succ d ih =>
    intro i hi hm
    have st : ∀ r, Ev (fun k => if decide ((R.getD i z88).f2 ≥ need) = true then some (i : Int) else interval_run_64_63.l0 k R R.length ((i + 1 : Nat) : Int) need) r → Ev (fun k => interval_run_64_63.l0 k R R.length i need) r := by
      intro r hr
      refine Ev.step (fun k => by rw [interval_run_64_63.l0]) ?_
      refine Ev.pos (by omega) (Ev.pos (by omega) (Ev.pos (by omega) ?_))
      simp only [rd88, interval_Hull_1.f]
      refine Ev.some_bind ?_
      rw [wrap_nat (by omega)]
      exact hr
    by_cases h : (R.getD i z88).f2 ≥ need
    · exact .inl ⟨i, by omega, st _ (Ev.pos (by simpa using h) (Ev.const rfl)), h, hm⟩
    · have hm' : ∀ j, j < i + 1 → (R.getD j z88).f2 < need := fun j hj => by
        rcases Nat.lt_or_ge j i with hji | hji
        · exact hm j hji
        · have e : j = i := by omega
          subst e
          exact Int.not_le.1 h
      rcases ih (i + 1) (by omega) hm' with ⟨j, h1, h2, h3, h4⟩ | ⟨h1, h2⟩
      · exact .inl ⟨j, h1, st _ (Ev.neg (by simpa using h) h2), h3, h4⟩
      · exact .inr ⟨st _ (Ev.neg (by simpa using h) h1), h2⟩
theorem impl_index (R : List S88) (hn : R.length ≤ 96) (need : Int) :
    (∃ j : Nat, j < R.length ∧ Ev (fun k => interval_run_64_63.f k R need) (j : Int) ∧ need ≤ (R.getD j z88).f2 ∧ ∀ q, q < j → (R.getD q z88).f2 < need) ∨
    (Ev (fun k => interval_run_64_63.f k R need) (-1) ∧ ∀ q, q < R.length → (R.getD q z88).f2 < need) :=
  index_from R hn need R.length 0 (by omega) (fun j hj => by omega)
theorem getD_mem {R : List S88} {j : Nat} (h : j < R.length) : R.getD j z88 ∈ R := by simp [List.getD, h]
theorem mem_getD {R : List S88} {r : S88} (h : r ∈ R) : ∃ j, j < R.length ∧ R.getD j z88 = r := by
  obtain ⟨j, hj, rfl⟩ := List.getElem_of_mem h
  exact ⟨j, hj, by simp [List.getD, hj]⟩

theorem impl_hull (v : List S29) (need : Int) : ∃ lo hi ok, Ev (fun k => interval_Hull.f k v need) (lo, hi, ok) ∧ HullSpec (valid v) need lo hi ok := by
  obtain ⟨s1, s2, s3⟩ := runs_spec v
  have hl := runs_len v
  have ix := impl_index (runs v) hl need
  have st : ∀ (i : Int) r, Ev (fun k => interval_run_64_63.f k (runs v) need) i → Ev (fun k => if need < 1 then (interval_Hull.j0 k (runs v) i true need) else (interval_Hull.j0 k (runs v) i (decide (i < 0)) need)) r → Ev (fun k => interval_Hull.f k v need) r := fun i r h1 h2 => by
    unfold interval_Hull.f
    exact Ev.bind' _ (impl_runs v) (Ev.bind' _ h1 h2)
  by_cases hneed : need < 1
  · have e0 : ∀ i : Int, Ev (fun k => interval_Hull.j0 k (runs v) i true need) (0, 0, false) := fun i => by
      refine Ev.step (fun k => by rw [interval_Hull.j0]) ?_
      exact Ev.pos rfl (Ev.const rfl)
    refine ⟨0, 0, false, ?_, .inr ⟨rfl, rfl, rfl, .inl hneed⟩⟩
    rcases ix with ⟨j, _, h2, _⟩ | ⟨h1, _⟩
    · exact st _ _ h2 (Ev.pos hneed (e0 _))
    · exact st _ _ h1 (Ev.pos hneed (e0 _))
  · rcases ix with ⟨j, hj, h2, h3, h4⟩ | ⟨h1, h2⟩
    · have ir := impl_index (runs v).reverse (by simpa using hl) need
      have er : interval_run_65.f (runs v) = some (runs v).reverse := by
        unfold interval_run_65.f
        rw [if_pos (by omega)]
      have rev : ∀ q, q < (runs v).length → (runs v).reverse.getD q z88 = (runs v).getD ((runs v).length - 1 - q) z88 := fun q hq => by
        simp [List.getD, List.getElem?_reverse hq]
      rcases ir with ⟨q, hq, g2, g3, g4⟩ | ⟨g1, g2⟩
      · have hq' : q < (runs v).length := by simpa using hq
        have hp : (runs v).length - 1 - q < (runs v).length := by omega
        rw [rev q hq'] at g3
        have ord : ∀ a b, a < b → b < (runs v).length → ((runs v).getD a z88).f1 < ((runs v).getD b z88).f0 := fun a b hab hb => by
          have ha : a < (runs v).length := by omega
          have := (List.pairwise_iff_getElem.1 s2) a b ha hb hab
          simpa [List.getD, ha, hb] using this
        refine ⟨((runs v).getD j z88).f0, ((runs v).getD ((runs v).length - 1 - q) z88).f1, true, ?_, .inl ⟨rfl, by omega, ?_, ?_, fun t ht => ?_⟩⟩
        · refine st _ _ h2 (Ev.neg hneed ?_)
          rw [decide_eq_false (by omega : ¬ (j : Int) < 0)]
          refine Ev.step (fun k => by rw [interval_Hull.j0]) ?_
          refine Ev.neg (by simp) (Ev.pos (by omega) (Ev.pos (by omega) ?_))
          rw [er]
          refine Ev.some_bind (Ev.bind' _ g2 (Ev.pos (by omega) (Ev.pos (by omega) (Ev.const ?_))))
          rw [rd88, rd88, rev q hq']
        · obtain ⟨a, b⟩ := s1 _ (getD_mem hj)
          rw [b _ (Int.le_refl _) a]; exact h3
        · obtain ⟨a, b⟩ := s1 _ (getD_mem hp)
          rw [b _ a (Int.le_refl _)]; exact g3
        · obtain ⟨r, hr, h5, h6⟩ := s3 t (by omega)
          have h7 := (s1 r hr).2 t h5 h6
          obtain ⟨m, hm, rfl⟩ := mem_getD hr
          constructor
          · rcases Nat.lt_or_ge m j with hmj | hmj
            · have := h4 m hmj; omega
            · rcases Nat.eq_or_lt_of_le hmj with e | hmj
              · rw [e]; exact h5
              · have := ord j m hmj hm
                have := (s1 _ (getD_mem hj)).1
                omega
          · rcases Nat.lt_or_ge ((runs v).length - 1 - q) m with hmq | hmq
            · have hx : (runs v).length - 1 - m < q := by omega
              have := g4 _ hx
              rw [rev _ (by omega), show (runs v).length - 1 - ((runs v).length - 1 - m) = m by omega] at this
              omega
            · rcases Nat.eq_or_lt_of_le hmq with e | hmq
              · rw [← e]; exact h6
              · have := ord m _ hmq hp
                have := (s1 _ (getD_mem hp)).1
                omega
      · exfalso
        have := g2 ((runs v).length - 1 - j) (by rw [List.length_reverse]; omega)
        rw [rev _ (by omega), show (runs v).length - 1 - ((runs v).length - 1 - j) = j by omega] at this
        omega
    · refine ⟨0, 0, false, ?_, .inr ⟨rfl, rfl, rfl, .inr fun t => ?_⟩⟩
      · refine st _ _ h1 (Ev.neg hneed ?_)
        rw [show decide ((-1 : Int) < 0) = true from rfl]
        refine Ev.step (fun k => by rw [interval_Hull.j0]) ?_
        exact Ev.pos rfl (Ev.const rfl)
      · rcases Nat.eq_zero_or_pos (cnt (valid v) t) with h0 | h0
        · omega
        · obtain ⟨r, hr, h5, h6⟩ := s3 t h0
          obtain ⟨q, hq, rfl⟩ := mem_getD hr
          have := h2 q hq
          rw [(s1 _ hr).2 t h5 h6]
          exact this
end Go.Proofs.Ytlfilhplklifjaa.PA

namespace Go.Proofs.Ytlfilhplklifjaa.X
open Go.RowKit Go.Proofs.YtlfilhplklifjaaW.PrintWords Go.Proofs.YtlfilhplklifjaaW.PrintLast Go.Proofs.YtlfilhplklifjaaW.PrintMore
attribute [local go_sem] max2_int min2_int max_two min_two max_three min_three max_four min_four   -- for this text's walks alone
set_option linter.unusedVariables false
set_option linter.unusedSimpArgs false

/-! ### timesyncref24_Majority: function 23 -/
mutual
def timesyncref24_Majority.j0 : Nat → List (S37) → Bool → Int → Int → Option (Bool)
 | 0, _, _, _, _ => none
 | k + 1, x0, x16, x323000, x323001 => if x16 = true then (some false) else (timesyncref24_Majority.l0 k x0 0 0 x323000 x323001)
def timesyncref24_Majority.l0 : Nat → List (S37) → Int → Int → Int → Int → Option (Bool)
 | 0, _, _, _, _, _ => none
 | k + 1, x0, x5, x6, x323000, x323001 => if x6 < (x0.length : Int) then (if 0 ≤ x6 then (if (wrap64 (((rd_T37 x0 x6).f1) - ((rd_T37 x0 x6).f2))) ≤ x323001 then (if (wrap64 (((rd_T37 x0 x6).f1) + ((rd_T37 x0 x6).f2))) ≥ x323000 then (timesyncref24_Majority.l0 k x0 (wrap64 (x5 + 1)) (wrap64 (x6 + 1)) x323000 x323001) else (timesyncref24_Majority.l0 k x0 x5 (wrap64 (x6 + 1)) x323000 x323001)) else (timesyncref24_Majority.l0 k x0 x5 (wrap64 (x6 + 1)) x323000 x323001)) else (none)) else (some (decide ((wrap64 (2 * x5)) > (x0.length : Int))))
end
def timesyncref24_Majority.f (k : Nat) (l0 : List (S37)) (a1_0 : Int) (a1_1 : Int) : Option (Bool) := (timesyncref24_Check.f k l0).bind fun t323 => (if t323 = 0 then (timesyncref24_Majority.j0 k l0 (decide (a1_0 > a1_1)) a1_0 a1_1) else (timesyncref24_Majority.j0 k l0 true a1_0 a1_1))
theorem timesyncref24_Majority.mono_l : ∀ k, (∀ y0 y1 y2 y3, LeO (timesyncref24_Majority.j0 k y0 y1 y2 y3) (timesyncref24_Majority.j0 (k + 1) y0 y1 y2 y3)) ∧ (∀ y0 y1 y2 y3 y4, LeO (timesyncref24_Majority.l0 k y0 y1 y2 y3 y4) (timesyncref24_Majority.l0 (k + 1) y0 y1 y2 y3 y4))
 | 0 => ⟨fun _ _ _ _ r h => by simp [timesyncref24_Majority.j0] at h, fun _ _ _ _ _ r h => by simp [timesyncref24_Majority.l0] at h⟩
 | k + 1 => by
  obtain ⟨ih0, ih1⟩ := timesyncref24_Majority.mono_l k
  refine ⟨?_, ?_⟩
  ·intro y0 y1 y2 y3
   unfold timesyncref24_Majority.j0
   repeat' first
   | (with_reducible exact ih0 _ _ _ _)
   | (with_reducible exact ih1 _ _ _ _ _)
   | (with_reducible exact timesyncref24_Check.mono _ _)
   | (with_reducible exact LeO.refl _)
   | (with_reducible exact LeO.none _)
   | (with_reducible refine LeO.ite ?_ ?_)
   | (with_reducible refine LeO.bind ?_ (fun _ => ?_))
   | exact ih0 _ _ _ _
   | exact ih1 _ _ _ _ _
   | exact timesyncref24_Check.mono _ _
   | exact LeO.none _
   | refine LeO.ite ?_ ?_
   | refine LeO.bind ?_ (fun _ => ?_)
  ·intro y0 y1 y2 y3 y4
   unfold timesyncref24_Majority.l0
   repeat' first
   | (with_reducible exact ih0 _ _ _ _)
   | (with_reducible exact ih1 _ _ _ _ _)
   | (with_reducible exact timesyncref24_Check.mono _ _)
   | (with_reducible exact LeO.refl _)
   | (with_reducible exact LeO.none _)
   | (with_reducible refine LeO.ite ?_ ?_)
   | (with_reducible refine LeO.bind ?_ (fun _ => ?_))
   | exact ih0 _ _ _ _
   | exact ih1 _ _ _ _ _
   | exact timesyncref24_Check.mono _ _
   | exact LeO.none _
   | refine LeO.ite ?_ ?_
   | refine LeO.bind ?_ (fun _ => ?_)
theorem timesyncref24_Majority.mono : ∀ a0 a1 a2 k, LeO (timesyncref24_Majority.f k a0 a1 a2) (timesyncref24_Majority.f (k + 1) a0 a1 a2) := by
 intro a0 a1 a2 k
 obtain ⟨ih0, ih1⟩ := timesyncref24_Majority.mono_l k
 unfold timesyncref24_Majority.f
 repeat' first
   | (with_reducible exact ih0 _ _ _ _)
   | (with_reducible exact ih1 _ _ _ _ _)
   | (with_reducible exact timesyncref24_Check.mono _ _)
   | (with_reducible exact LeO.refl _)
   | (with_reducible exact LeO.none _)
   | (with_reducible refine LeO.ite ?_ ?_)
   | (with_reducible refine LeO.bind ?_ (fun _ => ?_))
   | exact ih0 _ _ _ _
   | exact ih1 _ _ _ _ _
   | exact timesyncref24_Check.mono _ _
   | exact LeO.none _
   | refine LeO.ite ?_ ?_
   | refine LeO.bind ?_ (fun _ => ?_)
set_option maxHeartbeats 8000000 in
set_option maxRecDepth 100000 in
theorem timesyncref24_Majority.calls (k : Nat) (A0 : Option Addr) (c0 : Nat) (l0 : List (S37)) (a1_0 : Int) (a1_1 : Int) (r : Bool) (w : World) (hr0 : Kd.C k37 w A0 l0.length l0) (hc0 : l0.length ≤ c0) (h : timesyncref24_Majority.f k l0 a1_0 a1_1 = some r) :
  Calls Try.prog 23 #[.slice A0 l0.length c0, .agg #[.int .i64 a1_0, .int .i64 a1_1]] w fun e w' => e = .returned (.bool r) ∧ Below w.heap.size w w' := by
 have hu29 := Try.underlying29
 have HR0 := Aside0.mk hr0
 have HC0 := Aside0.mk hc0
 clear hr0 hc0
 have HB := Aside0.mk (Below.refl w.heap.size w)
 have H : ((timesyncref24_Check.f k l0).bind fun t323 => (if t323 = 0 then (timesyncref24_Majority.j0 k l0 (decide (a1_0 > a1_1)) a1_0 a1_1) else (timesyncref24_Majority.j0 k l0 true a1_0 a1_1))) = some r := h
 clear h
 have HC3 := Aside0.mk H
 clear H
 go_enter Try.func23, Try.ntmps23
 go_upto_region 1 with (first | ((with_reducible refine gate_dst (N := 3) rfl ?_); refine box_event ?hg (N := 3) ?hd (cs := #[.int .i64 a1_0, .int .i64 a1_1]) (t := 29) ?hr ?_; (case hd => rfl); (case hg => rfl); (case hr => first | (go_simp; done) | (go_simp; rfl)); intro gb322 hg w4 hbox hb; have n0_ := Aside0.mk (below_step (by repeat (first | (with_reducible first | exact HB.out | apply below_alloc | apply pw_below_drewN | apply below_drew1) | exact HB.out)) hb); have n1_ := Aside0.mk (hbox); have n2_ := Aside0.mk ((by rw [hg]; exact (below_size (by repeat (first | (with_reducible first | exact HB.out | apply below_alloc | apply pw_below_drewN | apply below_drew1) | exact HB.out))) : w.heap.size ≤ gb322)); have n3_ := Aside0.mk ((by rw [hg]; exact (below_size (by repeat (first | (with_reducible first | exact HB.out | apply below_alloc | apply pw_below_drewN | apply below_drew1) | exact HB.out))) : w.heap.size ≤ gb322)); clear HB; have HB := n0_; have BK322 := n1_; have GW322 := n2_; have GE322 := n3_; clear n0_ n1_ n2_ n3_; clear hb hbox hg))
 repeat (go_quiet (first | ((with_reducible refine gate_dst (N := 3) rfl ?_); refine box_event ?hg (N := 3) ?hd (cs := #[.int .i64 a1_0, .int .i64 a1_1]) (t := 29) ?hr ?_; (case hd => rfl); (case hg => rfl); (case hr => first | (go_simp; done) | (go_simp; rfl)); intro gb322 hg w4 hbox hb; have n0_ := Aside0.mk (below_step (by repeat (first | (with_reducible first | exact HB.out | apply below_alloc | apply pw_below_drewN | apply below_drew1) | exact HB.out)) hb); have n1_ := Aside0.mk (hbox); have n2_ := Aside0.mk ((by rw [hg]; exact (below_size (by repeat (first | (with_reducible first | exact HB.out | apply below_alloc | apply pw_below_drewN | apply below_drew1) | exact HB.out))) : w.heap.size ≤ gb322)); have n3_ := Aside0.mk ((by rw [hg]; exact (below_size (by repeat (first | (with_reducible first | exact HB.out | apply below_alloc | apply pw_below_drewN | apply below_drew1) | exact HB.out))) : w.heap.size ≤ gb322)); clear HB; have HB := n0_; have BK322 := n1_; have GW322 := n2_; have GE322 := n3_; clear n0_ n1_ n2_ n3_; clear hb hbox hg)); go_upto_region 1 with (first | ((with_reducible refine gate_dst (N := 3) rfl ?_); refine box_event ?hg (N := 3) ?hd (cs := #[.int .i64 a1_0, .int .i64 a1_1]) (t := 29) ?hr ?_; (case hd => rfl); (case hg => rfl); (case hr => first | (go_simp; done) | (go_simp; rfl)); intro gb322 hg w4 hbox hb; have n0_ := Aside0.mk (below_step (by repeat (first | (with_reducible first | exact HB.out | apply below_alloc | apply pw_below_drewN | apply below_drew1) | exact HB.out)) hb); have n1_ := Aside0.mk (hbox); have n2_ := Aside0.mk ((by rw [hg]; exact (below_size (by repeat (first | (with_reducible first | exact HB.out | apply below_alloc | apply pw_below_drewN | apply below_drew1) | exact HB.out))) : w.heap.size ≤ gb322)); have n3_ := Aside0.mk ((by rw [hg]; exact (below_size (by repeat (first | (with_reducible first | exact HB.out | apply below_alloc | apply pw_below_drewN | apply below_drew1) | exact HB.out))) : w.heap.size ≤ gb322)); clear HB; have HB := n0_; have BK322 := n1_; have GW322 := n2_; have GE322 := n3_; clear n0_ n1_ n2_ n3_; clear hb hbox hg)))
 (try simp only [Act.put, List.setIfInBounds_toArray, List.set_cons_zero, List.set_cons_succ])
 go_cut [16] (fun v16 wc => ∃ (kq : Nat) (x16_2 : Bool), v16 = .bool x16_2 ∧ Aside0 (timesyncref24_Majority.j0 kq l0 x16_2 a1_0 a1_1 = some r) ∧ Aside0 (kq ≤ k) ∧ Aside0 (wc.heap[gb322]? = some (.cells #[.int .i64 a1_0, .int .i64 a1_1] 29 (0, 0))) ∧ Aside0 (Below w.heap.size w wc))
 case first =>
  have H := HC3.out
  clear HC3
  replace H := Option.bind_eq_some_iff.mp H
  obtain ⟨t323, A50, H⟩ := H
  replace H : (if t323 = 0 then (timesyncref24_Majority.j0 k l0 (decide (a1_0 > a1_1)) a1_0 a1_1) else (timesyncref24_Majority.j0 k l0 true a1_0 a1_1)) = some r := H
  have A5 := Aside0.mk A50
  clear A50
  by_cases c6 : t323 = 0
  ·rw [if_pos c6] at H
   have c6b0 : (t323 == 0) = true := beq_iff_eq.mpr c6
   have c6b1 : (t323 != 0) = false := bne_eq_false_iff_eq.mpr c6
   clear c6
   (first | rw [c6b0] | (simp only [i64_w, i32_w]; rw [c6b0]) | skip)
   have H' := Aside0.mk H
   clear H
   go_wp2_with (first | (go_at_call 16; (with_reducible refine (timesyncref24_Check.calls k _ _ l0 t323 _ ?side1 ?side2 A5.out).mono ?_); (case side1 => repeat (first | exact (Kd.C_below HR0.out HB.out) | (with_reducible refine Kd.C_alloc ?_ _) | (with_reducible refine Kd.C_drewN ?_ _) | (with_reducible refine Kd.C_drew ?_))); (case side2 => exact HC0.out); rintro e w7 ⟨rfl, hb⟩; have n0_ := Aside0.mk (blk_below (g := gb322) (o := .cells #[.int .i64 a1_0, .int .i64 a1_1] 29 (0, 0)) (by (with_reducible repeat (first | refine blk_drewN ?_ _ | refine blk_drew ?_ | refine blk_alloc ?_ _)); exact BK322.out) hb); have n1_ := Aside0.mk (below_step (by repeat (first | (with_reducible first | exact HB.out | apply below_alloc | apply pw_below_drewN | apply below_drew1 | refine below_set ?_ GE322.out) | exact HB.out)) hb); clear BK322; clear HB; have BK322 := n0_; have HB := n1_; clear n0_ n1_; (try clear hb); (try clear hb2); (try clear hk); (try clear hi); have hcz8_0 : w7.cell? ⟨gb322, 0, none⟩ = some (.int .i64 a1_0) := (blk_cell BK322.out 0).trans rfl; have hcz8_1 : w7.cell? ⟨gb322, 1, none⟩ = some (.int .i64 a1_1) := (blk_cell BK322.out 1).trans rfl; have hfz8_0 := blk_frozen BK322.out 0; have hfz8_1 := blk_frozen BK322.out 1))
   repeat (go_quiet (first | (go_at_call 16; (with_reducible refine (timesyncref24_Check.calls k _ _ l0 t323 _ ?side1 ?side2 A5.out).mono ?_); (case side1 => repeat (first | exact (Kd.C_below HR0.out HB.out) | (with_reducible refine Kd.C_alloc ?_ _) | (with_reducible refine Kd.C_drewN ?_ _) | (with_reducible refine Kd.C_drew ?_))); (case side2 => exact HC0.out); rintro e w7 ⟨rfl, hb⟩; have n0_ := Aside0.mk (blk_below (g := gb322) (o := .cells #[.int .i64 a1_0, .int .i64 a1_1] 29 (0, 0)) (by (with_reducible repeat (first | refine blk_drewN ?_ _ | refine blk_drew ?_ | refine blk_alloc ?_ _)); exact BK322.out) hb); have n1_ := Aside0.mk (below_step (by repeat (first | (with_reducible first | exact HB.out | apply below_alloc | apply pw_below_drewN | apply below_drew1 | refine below_set ?_ GE322.out) | exact HB.out)) hb); clear BK322; clear HB; have BK322 := n0_; have HB := n1_; clear n0_ n1_; (try clear hb); (try clear hb2); (try clear hk); (try clear hi); have hcz8_0 : w7.cell? ⟨gb322, 0, none⟩ = some (.int .i64 a1_0) := (blk_cell BK322.out 0).trans rfl; have hcz8_1 : w7.cell? ⟨gb322, 1, none⟩ = some (.int .i64 a1_1) := (blk_cell BK322.out 1).trans rfl; have hfz8_0 := blk_frozen BK322.out 0; have hfz8_1 := blk_frozen BK322.out 1)); try go_wp2_with (first | (go_at_call 16; (with_reducible refine (timesyncref24_Check.calls k _ _ l0 t323 _ ?side1 ?side2 A5.out).mono ?_); (case side1 => repeat (first | exact (Kd.C_below HR0.out HB.out) | (with_reducible refine Kd.C_alloc ?_ _) | (with_reducible refine Kd.C_drewN ?_ _) | (with_reducible refine Kd.C_drew ?_))); (case side2 => exact HC0.out); rintro e w7 ⟨rfl, hb⟩; have n0_ := Aside0.mk (blk_below (g := gb322) (o := .cells #[.int .i64 a1_0, .int .i64 a1_1] 29 (0, 0)) (by (with_reducible repeat (first | refine blk_drewN ?_ _ | refine blk_drew ?_ | refine blk_alloc ?_ _)); exact BK322.out) hb); have n1_ := Aside0.mk (below_step (by repeat (first | (with_reducible first | exact HB.out | apply below_alloc | apply pw_below_drewN | apply below_drew1 | refine below_set ?_ GE322.out) | exact HB.out)) hb); clear BK322; clear HB; have BK322 := n0_; have HB := n1_; clear n0_ n1_; (try clear hb); (try clear hb2); (try clear hk); (try clear hi); have hcz8_0 : w7.cell? ⟨gb322, 0, none⟩ = some (.int .i64 a1_0) := (blk_cell BK322.out 0).trans rfl; have hcz8_1 : w7.cell? ⟨gb322, 1, none⟩ = some (.int .i64 a1_1) := (blk_cell BK322.out 1).trans rfl; have hfz8_0 := blk_frozen BK322.out 0; have hfz8_1 := blk_frozen BK322.out 1)))
   go_meet
   case rel => exact ⟨_, (decide (a1_0 > a1_1)), (by first | rfl | (simp; done) | (simp [*]; done)), H', ⟨by first | omega | exact Nat.le_refl _⟩, ⟨by (with_reducible repeat (first | refine blk_drewN ?_ _ | refine blk_drew ?_ | refine blk_alloc ?_ _)); exact BK322.out⟩, ⟨by repeat (first | (with_reducible first | exact HB.out | apply below_alloc | apply pw_below_drewN | apply below_drew1 | refine below_set ?_ GE322.out) | exact HB.out)⟩⟩
  ·rw [if_neg c6] at H
   have c6b0 : (t323 == 0) = false := beq_eq_false_iff_ne.mpr c6
   have c6b1 : (t323 != 0) = true := bne_iff_ne.mpr c6
   (first | rw [c6b0] | (simp only [i64_w, i32_w]; rw [c6b0]) | skip)
   have H' := Aside0.mk H
   clear H
   go_wp2_with (first | (go_at_call 16; (with_reducible refine (timesyncref24_Check.calls k _ _ l0 t323 _ ?side1 ?side2 A5.out).mono ?_); (case side1 => repeat (first | exact (Kd.C_below HR0.out HB.out) | (with_reducible refine Kd.C_alloc ?_ _) | (with_reducible refine Kd.C_drewN ?_ _) | (with_reducible refine Kd.C_drew ?_))); (case side2 => exact HC0.out); rintro e w9 ⟨rfl, hb⟩; have n0_ := Aside0.mk (blk_below (g := gb322) (o := .cells #[.int .i64 a1_0, .int .i64 a1_1] 29 (0, 0)) (by (with_reducible repeat (first | refine blk_drewN ?_ _ | refine blk_drew ?_ | refine blk_alloc ?_ _)); exact BK322.out) hb); have n1_ := Aside0.mk (below_step (by repeat (first | (with_reducible first | exact HB.out | apply below_alloc | apply pw_below_drewN | apply below_drew1 | refine below_set ?_ GE322.out) | exact HB.out)) hb); clear BK322; clear HB; have BK322 := n0_; have HB := n1_; clear n0_ n1_; (try clear hb); (try clear hb2); (try clear hk); (try clear hi)))
   repeat (go_quiet (first | (go_at_call 16; (with_reducible refine (timesyncref24_Check.calls k _ _ l0 t323 _ ?side1 ?side2 A5.out).mono ?_); (case side1 => repeat (first | exact (Kd.C_below HR0.out HB.out) | (with_reducible refine Kd.C_alloc ?_ _) | (with_reducible refine Kd.C_drewN ?_ _) | (with_reducible refine Kd.C_drew ?_))); (case side2 => exact HC0.out); rintro e w9 ⟨rfl, hb⟩; have n0_ := Aside0.mk (blk_below (g := gb322) (o := .cells #[.int .i64 a1_0, .int .i64 a1_1] 29 (0, 0)) (by (with_reducible repeat (first | refine blk_drewN ?_ _ | refine blk_drew ?_ | refine blk_alloc ?_ _)); exact BK322.out) hb); have n1_ := Aside0.mk (below_step (by repeat (first | (with_reducible first | exact HB.out | apply below_alloc | apply pw_below_drewN | apply below_drew1 | refine below_set ?_ GE322.out) | exact HB.out)) hb); clear BK322; clear HB; have BK322 := n0_; have HB := n1_; clear n0_ n1_; (try clear hb); (try clear hb2); (try clear hk); (try clear hi))); try go_wp2_with (first | (go_at_call 16; (with_reducible refine (timesyncref24_Check.calls k _ _ l0 t323 _ ?side1 ?side2 A5.out).mono ?_); (case side1 => repeat (first | exact (Kd.C_below HR0.out HB.out) | (with_reducible refine Kd.C_alloc ?_ _) | (with_reducible refine Kd.C_drewN ?_ _) | (with_reducible refine Kd.C_drew ?_))); (case side2 => exact HC0.out); rintro e w9 ⟨rfl, hb⟩; have n0_ := Aside0.mk (blk_below (g := gb322) (o := .cells #[.int .i64 a1_0, .int .i64 a1_1] 29 (0, 0)) (by (with_reducible repeat (first | refine blk_drewN ?_ _ | refine blk_drew ?_ | refine blk_alloc ?_ _)); exact BK322.out) hb); have n1_ := Aside0.mk (below_step (by repeat (first | (with_reducible first | exact HB.out | apply below_alloc | apply pw_below_drewN | apply below_drew1 | refine below_set ?_ GE322.out) | exact HB.out)) hb); clear BK322; clear HB; have BK322 := n0_; have HB := n1_; clear n0_ n1_; (try clear hb); (try clear hb2); (try clear hk); (try clear hi))))
   go_meet
   case rel => exact ⟨_, (true), (by first | rfl | (simp; done) | (simp [*]; done)), H', ⟨by first | omega | exact Nat.le_refl _⟩, ⟨by (with_reducible repeat (first | refine blk_drewN ?_ _ | refine blk_drew ?_ | refine blk_alloc ?_ _)); exact BK322.out⟩, ⟨by repeat (first | (with_reducible first | exact HB.out | apply below_alloc | apply pw_below_drewN | apply below_drew1 | refine below_set ?_ GE322.out) | exact HB.out)⟩⟩
 case rest =>
  clear HC3
  try clear c2
  try clear p2
  try clear c6
  try clear c6b0
  try clear c6b1
  try clear hcz8_0
  try clear hcz8_1
  try clear hfz8_0
  try clear hfz8_1
  obtain ⟨kq, x16_2, rfl, HA, HJ2, BK322, HB⟩ := hcut
  cases kq with
  | zero => exact absurd HA.out (by simp [timesyncref24_Majority.j0])
  | succ kj2 =>
   have H := HA.out
   clear HA
   simp only [timesyncref24_Majority.j0] at H
   by_cases c10 : x16_2 = true
   ·subst c10
    have H1 : (some false) = some r := by rw [if_pos rfl] at H; exact H
    clear H
    have H := H1
    clear H1
    obtain rfl := Option.some.inj H
    go_wp2
    repeat (go_quiet (fail); try go_wp2)
    go_ret
    exact ⟨by first | rfl | (simp [errW_none, errW_some] <;> rfl) | (simp [*, errW_none, errW_some] <;> rfl), by repeat (first | (with_reducible first | exact HB.out | apply below_alloc | apply pw_below_drewN | apply below_drew1 | refine below_set ?_ GE322.out) | exact HB.out)⟩
   ·replace c10 := Bool.eq_false_iff.mpr c10
    subst c10
    have H1 : (timesyncref24_Majority.l0 kj2 l0 0 0 a1_0 a1_1) = some r := by rw [if_neg (show ¬ (false = true) by decide)] at H; exact H
    clear H
    have H := H1
    clear H1
    have H' := Aside0.mk H
    clear H
    go_wp2
    repeat (go_quiet (fail); try go_wp2)
    go_loopg [5, 6] kj2 (fun kq v5 v6 w' => ∃ (x5_2 : Int) (x6_2 : Int), v5 = .int .i64 x5_2 ∧ v6 = .int .i64 x6_2 ∧ Aside0 (timesyncref24_Majority.l0 kq l0 x5_2 x6_2 a1_0 a1_1 = some r) ∧ Aside0 (kq ≤ kj2) ∧ Aside0 (w'.heap[gb322]? = some (.cells #[.int .i64 a1_0, .int .i64 a1_1] 29 (0, 0))) ∧ Aside0 (Below w.heap.size w w'))
    case atStart => exact ⟨(0), (0), (by first | rfl | (simp; done) | (simp [*]; done)), (by first | rfl | (simp; done) | (simp [*]; done)), H', ⟨Nat.le_refl _⟩, ⟨by (with_reducible repeat (first | refine blk_drewN ?_ _ | refine blk_drew ?_ | refine blk_alloc ?_ _)); exact BK322.out⟩, ⟨by repeat (first | (with_reducible first | exact HB.out | apply below_alloc | apply pw_below_drewN | apply below_drew1 | refine below_set ?_ GE322.out) | exact HB.out)⟩⟩
    case round =>
     clear H'
     try clear c1
     try clear c2
     try clear p2
     try clear c6
     try clear c6b0
     try clear c6b1
     try clear c10
     try clear hcz8_0
     try clear hcz8_1
     try clear hfz8_0
     try clear hfz8_1
     try clear p2
     obtain ⟨x5_2, x6_2, rfl, rfl, HA, HK2, BK322, HB⟩ := hrel
     cases gk with
     | zero => exact absurd HA.out (by simp [timesyncref24_Majority.l0])
     | succ k2 =>
      have H := HA.out
      clear HA
      simp only [timesyncref24_Majority.l0] at H
      by_cases c11 : x6_2 < (l0.length : Int)
      ·rw [if_pos c11] at H
       have c11b0 : decide (x6_2 < (l0.length : Int)) = true := decide_eq_true c11
       clear c11
       by_cases c12 : 0 ≤ x6_2
       ·rw [if_pos c12] at H
        have c12b0 : decide (0 ≤ x6_2) = true := decide_eq_true c12
        clear c12
        by_cases c13 : (wrap64 (((rd_T37 l0 x6_2).f1) - ((rd_T37 l0 x6_2).f2))) ≤ a1_1
        ·rw [if_pos c13] at H
         have c13b0 : decide ((wrap64 (((rd_T37 l0 x6_2).f1) - ((rd_T37 l0 x6_2).f2))) ≤ a1_1) = true := decide_eq_true c13
         clear c13
         by_cases c14 : (wrap64 (((rd_T37 l0 x6_2).f1) + ((rd_T37 l0 x6_2).f2))) ≥ a1_0
         ·rw [if_pos c14] at H
          have c14b0 : decide (a1_0 ≤ (wrap64 (((rd_T37 l0 x6_2).f1) + ((rd_T37 l0 x6_2).f2)))) = true := decide_eq_true c14
          clear c14
          have H' := Aside0.mk H
          clear H
          have p324 : 0 ≤ (x6_2 : Int) := of_decide_eq_true (by first | (with_reducible assumption) | assumption)
          have q324 : x6_2 < (l0.length : Int) := of_decide_eq_true (by first | (with_reducible assumption) | assumption)
          obtain ⟨ad324, e324, hx324_0, hx324_1, hx324_2, hx324_3, hx324_4⟩ := at_T37 HR0.out x6_2 p324 q324
          cases e324
          replace hx324_0 := (HB.out.cell (World.block_lt_of_cell? w _ hx324_0)).trans hx324_0
          replace hx324_1 := (HB.out.cell (World.block_lt_of_cell? w _ hx324_1)).trans hx324_1
          replace hx324_2 := (HB.out.cell (World.block_lt_of_cell? w _ hx324_2)).trans hx324_2
          replace hx324_3 := (HB.out.cell (World.block_lt_of_cell? w _ hx324_3)).trans hx324_3
          replace hx324_4 := (HB.out.cell (World.block_lt_of_cell? w _ hx324_4)).trans hx324_4
          replace p324 := eq_true p324
          replace q324 := eq_true q324
          have p325 : 0 ≤ (x6_2 : Int) := of_decide_eq_true (by first | (with_reducible assumption) | assumption)
          have q325 : x6_2 < (l0.length : Int) := of_decide_eq_true (by first | (with_reducible assumption) | assumption)
          obtain ⟨ad325, e325, hx325_0, hx325_1, hx325_2, hx325_3, hx325_4⟩ := at_T37 HR0.out x6_2 p325 q325
          obtain rfl : ad324 = ad325 := (by injection e325)
          replace hx325_0 := (HB.out.cell (World.block_lt_of_cell? w _ hx325_0)).trans hx325_0
          replace hx325_1 := (HB.out.cell (World.block_lt_of_cell? w _ hx325_1)).trans hx325_1
          replace hx325_2 := (HB.out.cell (World.block_lt_of_cell? w _ hx325_2)).trans hx325_2
          replace hx325_3 := (HB.out.cell (World.block_lt_of_cell? w _ hx325_3)).trans hx325_3
          replace hx325_4 := (HB.out.cell (World.block_lt_of_cell? w _ hx325_4)).trans hx325_4
          replace p325 := eq_true p325
          replace q325 := eq_true q325
          have hcz15_0 : wr.cell? ⟨gb322, 0, none⟩ = some (.int .i64 a1_0) := (blk_cell BK322.out 0).trans rfl
          have hcz15_1 : wr.cell? ⟨gb322, 1, none⟩ = some (.int .i64 a1_1) := (blk_cell BK322.out 1).trans rfl
          have hfz15_0 := blk_frozen BK322.out 0
          have hfz15_1 := blk_frozen BK322.out 1
          have p326 : 0 ≤ (x6_2 : Int) := of_decide_eq_true (by first | (with_reducible assumption) | assumption)
          have q326 : x6_2 < (l0.length : Int) := of_decide_eq_true (by first | (with_reducible assumption) | assumption)
          obtain ⟨ad326, e326, hx326_0, hx326_1, hx326_2, hx326_3, hx326_4⟩ := at_T37 HR0.out x6_2 p326 q326
          obtain rfl : ad324 = ad326 := (by injection e326)
          replace hx326_0 := (HB.out.cell (World.block_lt_of_cell? w _ hx326_0)).trans hx326_0
          replace hx326_1 := (HB.out.cell (World.block_lt_of_cell? w _ hx326_1)).trans hx326_1
          replace hx326_2 := (HB.out.cell (World.block_lt_of_cell? w _ hx326_2)).trans hx326_2
          replace hx326_3 := (HB.out.cell (World.block_lt_of_cell? w _ hx326_3)).trans hx326_3
          replace hx326_4 := (HB.out.cell (World.block_lt_of_cell? w _ hx326_4)).trans hx326_4
          replace p326 := eq_true p326
          replace q326 := eq_true q326
          have p327 : 0 ≤ (x6_2 : Int) := of_decide_eq_true (by first | (with_reducible assumption) | assumption)
          have q327 : x6_2 < (l0.length : Int) := of_decide_eq_true (by first | (with_reducible assumption) | assumption)
          obtain ⟨ad327, e327, hx327_0, hx327_1, hx327_2, hx327_3, hx327_4⟩ := at_T37 HR0.out x6_2 p327 q327
          obtain rfl : ad324 = ad327 := (by injection e327)
          replace hx327_0 := (HB.out.cell (World.block_lt_of_cell? w _ hx327_0)).trans hx327_0
          replace hx327_1 := (HB.out.cell (World.block_lt_of_cell? w _ hx327_1)).trans hx327_1
          replace hx327_2 := (HB.out.cell (World.block_lt_of_cell? w _ hx327_2)).trans hx327_2
          replace hx327_3 := (HB.out.cell (World.block_lt_of_cell? w _ hx327_3)).trans hx327_3
          replace hx327_4 := (HB.out.cell (World.block_lt_of_cell? w _ hx327_4)).trans hx327_4
          replace p327 := eq_true p327
          replace q327 := eq_true q327
          go_wp2
          repeat (go_quiet (fail); try go_wp2)
          go_roundg k2
          case measure => have := HJ2.out; have := HK2.out; omega
          case rel => exact ⟨(wrap64 (x5_2 + 1)), (wrap64 (x6_2 + 1)), (by first | rfl | (simp; done) | (simp [*]; done)), (by first | rfl | (simp; done) | (simp [*]; done)), H', ⟨by have := HJ2.out; have := HK2.out; omega⟩, ⟨by (with_reducible repeat (first | refine blk_drewN ?_ _ | refine blk_drew ?_ | refine blk_alloc ?_ _)); exact BK322.out⟩, ⟨by repeat (first | (with_reducible first | exact HB.out | apply below_alloc | apply pw_below_drewN | apply below_drew1 | refine below_set ?_ GE322.out) | exact HB.out)⟩⟩
         ·rw [if_neg c14] at H
          have c14b0 : decide (a1_0 ≤ (wrap64 (((rd_T37 l0 x6_2).f1) + ((rd_T37 l0 x6_2).f2)))) = false := decide_eq_false c14
          clear c14
          have H' := Aside0.mk H
          clear H
          have p324 : 0 ≤ (x6_2 : Int) := of_decide_eq_true (by first | (with_reducible assumption) | assumption)
          have q324 : x6_2 < (l0.length : Int) := of_decide_eq_true (by first | (with_reducible assumption) | assumption)
          obtain ⟨ad324, e324, hx324_0, hx324_1, hx324_2, hx324_3, hx324_4⟩ := at_T37 HR0.out x6_2 p324 q324
          cases e324
          replace hx324_0 := (HB.out.cell (World.block_lt_of_cell? w _ hx324_0)).trans hx324_0
          replace hx324_1 := (HB.out.cell (World.block_lt_of_cell? w _ hx324_1)).trans hx324_1
          replace hx324_2 := (HB.out.cell (World.block_lt_of_cell? w _ hx324_2)).trans hx324_2
          replace hx324_3 := (HB.out.cell (World.block_lt_of_cell? w _ hx324_3)).trans hx324_3
          replace hx324_4 := (HB.out.cell (World.block_lt_of_cell? w _ hx324_4)).trans hx324_4
          replace p324 := eq_true p324
          replace q324 := eq_true q324
          have p325 : 0 ≤ (x6_2 : Int) := of_decide_eq_true (by first | (with_reducible assumption) | assumption)
          have q325 : x6_2 < (l0.length : Int) := of_decide_eq_true (by first | (with_reducible assumption) | assumption)
          obtain ⟨ad325, e325, hx325_0, hx325_1, hx325_2, hx325_3, hx325_4⟩ := at_T37 HR0.out x6_2 p325 q325
          obtain rfl : ad324 = ad325 := (by injection e325)
          replace hx325_0 := (HB.out.cell (World.block_lt_of_cell? w _ hx325_0)).trans hx325_0
          replace hx325_1 := (HB.out.cell (World.block_lt_of_cell? w _ hx325_1)).trans hx325_1
          replace hx325_2 := (HB.out.cell (World.block_lt_of_cell? w _ hx325_2)).trans hx325_2
          replace hx325_3 := (HB.out.cell (World.block_lt_of_cell? w _ hx325_3)).trans hx325_3
          replace hx325_4 := (HB.out.cell (World.block_lt_of_cell? w _ hx325_4)).trans hx325_4
          replace p325 := eq_true p325
          replace q325 := eq_true q325
          have hcz16_0 : wr.cell? ⟨gb322, 0, none⟩ = some (.int .i64 a1_0) := (blk_cell BK322.out 0).trans rfl
          have hcz16_1 : wr.cell? ⟨gb322, 1, none⟩ = some (.int .i64 a1_1) := (blk_cell BK322.out 1).trans rfl
          have hfz16_0 := blk_frozen BK322.out 0
          have hfz16_1 := blk_frozen BK322.out 1
          have p326 : 0 ≤ (x6_2 : Int) := of_decide_eq_true (by first | (with_reducible assumption) | assumption)
          have q326 : x6_2 < (l0.length : Int) := of_decide_eq_true (by first | (with_reducible assumption) | assumption)
          obtain ⟨ad326, e326, hx326_0, hx326_1, hx326_2, hx326_3, hx326_4⟩ := at_T37 HR0.out x6_2 p326 q326
          obtain rfl : ad324 = ad326 := (by injection e326)
          replace hx326_0 := (HB.out.cell (World.block_lt_of_cell? w _ hx326_0)).trans hx326_0
          replace hx326_1 := (HB.out.cell (World.block_lt_of_cell? w _ hx326_1)).trans hx326_1
          replace hx326_2 := (HB.out.cell (World.block_lt_of_cell? w _ hx326_2)).trans hx326_2
          replace hx326_3 := (HB.out.cell (World.block_lt_of_cell? w _ hx326_3)).trans hx326_3
          replace hx326_4 := (HB.out.cell (World.block_lt_of_cell? w _ hx326_4)).trans hx326_4
          replace p326 := eq_true p326
          replace q326 := eq_true q326
          have p327 : 0 ≤ (x6_2 : Int) := of_decide_eq_true (by first | (with_reducible assumption) | assumption)
          have q327 : x6_2 < (l0.length : Int) := of_decide_eq_true (by first | (with_reducible assumption) | assumption)
          obtain ⟨ad327, e327, hx327_0, hx327_1, hx327_2, hx327_3, hx327_4⟩ := at_T37 HR0.out x6_2 p327 q327
          obtain rfl : ad324 = ad327 := (by injection e327)
          replace hx327_0 := (HB.out.cell (World.block_lt_of_cell? w _ hx327_0)).trans hx327_0
          replace hx327_1 := (HB.out.cell (World.block_lt_of_cell? w _ hx327_1)).trans hx327_1
          replace hx327_2 := (HB.out.cell (World.block_lt_of_cell? w _ hx327_2)).trans hx327_2
          replace hx327_3 := (HB.out.cell (World.block_lt_of_cell? w _ hx327_3)).trans hx327_3
          replace hx327_4 := (HB.out.cell (World.block_lt_of_cell? w _ hx327_4)).trans hx327_4
          replace p327 := eq_true p327
          replace q327 := eq_true q327
          go_wp2
          repeat (go_quiet (fail); try go_wp2)
          go_roundg k2
          case measure => have := HJ2.out; have := HK2.out; omega
          case rel => exact ⟨(x5_2), (wrap64 (x6_2 + 1)), (by first | rfl | (simp; done) | (simp [*]; done)), (by first | rfl | (simp; done) | (simp [*]; done)), H', ⟨by have := HJ2.out; have := HK2.out; omega⟩, ⟨by (with_reducible repeat (first | refine blk_drewN ?_ _ | refine blk_drew ?_ | refine blk_alloc ?_ _)); exact BK322.out⟩, ⟨by repeat (first | (with_reducible first | exact HB.out | apply below_alloc | apply pw_below_drewN | apply below_drew1 | refine below_set ?_ GE322.out) | exact HB.out)⟩⟩
        ·rw [if_neg c13] at H
         have c13b0 : decide ((wrap64 (((rd_T37 l0 x6_2).f1) - ((rd_T37 l0 x6_2).f2))) ≤ a1_1) = false := decide_eq_false c13
         clear c13
         have H' := Aside0.mk H
         clear H
         have p324 : 0 ≤ (x6_2 : Int) := of_decide_eq_true (by first | (with_reducible assumption) | assumption)
         have q324 : x6_2 < (l0.length : Int) := of_decide_eq_true (by first | (with_reducible assumption) | assumption)
         obtain ⟨ad324, e324, hx324_0, hx324_1, hx324_2, hx324_3, hx324_4⟩ := at_T37 HR0.out x6_2 p324 q324
         cases e324
         replace hx324_0 := (HB.out.cell (World.block_lt_of_cell? w _ hx324_0)).trans hx324_0
         replace hx324_1 := (HB.out.cell (World.block_lt_of_cell? w _ hx324_1)).trans hx324_1
         replace hx324_2 := (HB.out.cell (World.block_lt_of_cell? w _ hx324_2)).trans hx324_2
         replace hx324_3 := (HB.out.cell (World.block_lt_of_cell? w _ hx324_3)).trans hx324_3
         replace hx324_4 := (HB.out.cell (World.block_lt_of_cell? w _ hx324_4)).trans hx324_4
         replace p324 := eq_true p324
         replace q324 := eq_true q324
         have p325 : 0 ≤ (x6_2 : Int) := of_decide_eq_true (by first | (with_reducible assumption) | assumption)
         have q325 : x6_2 < (l0.length : Int) := of_decide_eq_true (by first | (with_reducible assumption) | assumption)
         obtain ⟨ad325, e325, hx325_0, hx325_1, hx325_2, hx325_3, hx325_4⟩ := at_T37 HR0.out x6_2 p325 q325
         obtain rfl : ad324 = ad325 := (by injection e325)
         replace hx325_0 := (HB.out.cell (World.block_lt_of_cell? w _ hx325_0)).trans hx325_0
         replace hx325_1 := (HB.out.cell (World.block_lt_of_cell? w _ hx325_1)).trans hx325_1
         replace hx325_2 := (HB.out.cell (World.block_lt_of_cell? w _ hx325_2)).trans hx325_2
         replace hx325_3 := (HB.out.cell (World.block_lt_of_cell? w _ hx325_3)).trans hx325_3
         replace hx325_4 := (HB.out.cell (World.block_lt_of_cell? w _ hx325_4)).trans hx325_4
         replace p325 := eq_true p325
         replace q325 := eq_true q325
         have hcz17_0 : wr.cell? ⟨gb322, 0, none⟩ = some (.int .i64 a1_0) := (blk_cell BK322.out 0).trans rfl
         have hcz17_1 : wr.cell? ⟨gb322, 1, none⟩ = some (.int .i64 a1_1) := (blk_cell BK322.out 1).trans rfl
         have hfz17_0 := blk_frozen BK322.out 0
         have hfz17_1 := blk_frozen BK322.out 1
         go_wp2
         repeat (go_quiet (fail); try go_wp2)
         go_roundg k2
         case measure => have := HJ2.out; have := HK2.out; omega
         case rel => exact ⟨(x5_2), (wrap64 (x6_2 + 1)), (by first | rfl | (simp; done) | (simp [*]; done)), (by first | rfl | (simp; done) | (simp [*]; done)), H', ⟨by have := HJ2.out; have := HK2.out; omega⟩, ⟨by (with_reducible repeat (first | refine blk_drewN ?_ _ | refine blk_drew ?_ | refine blk_alloc ?_ _)); exact BK322.out⟩, ⟨by repeat (first | (with_reducible first | exact HB.out | apply below_alloc | apply pw_below_drewN | apply below_drew1 | refine below_set ?_ GE322.out) | exact HB.out)⟩⟩
       ·rw [if_neg c12] at H
        exact absurd H (by simp)
      ·rw [if_neg c11] at H
       have c11b0 : decide (x6_2 < (l0.length : Int)) = false := decide_eq_false c11
       clear c11
       obtain rfl := Option.some.inj H
       go_wp2
       repeat (go_quiet (fail); try go_wp2)
       go_ret
       exact ⟨by first | rfl | (simp [errW_none, errW_some] <;> rfl) | (simp [*, errW_none, errW_some] <;> rfl), by repeat (first | (with_reducible first | exact HB.out | apply below_alloc | apply pw_below_drewN | apply below_drew1 | refine below_set ?_ GE322.out) | exact HB.out)⟩

end Go.Proofs.Ytlfilhplklifjaa.X

/- The selection, the falsetickers, the majority: both texts tell the same. -/
namespace Go.Proofs.Ytlfilhplklifjaa.PA
open Go.RowKit Go.Proofs.Ytlfilhplklifjaa.X Go.Proofs.YtlfilhplklifjaaW.PrintWords Go.Proofs.YtlfilhplklifjaaW.PrintLast

theorem eq_from (x y : List Int) (hx : x.length < 9223372036854775807) (he : x.length = y.length) : ∀ d i, i + d = x.length → Ev (fun k => slices_Equal_int_int.l0 k x y x.length i) (decide (x.drop i = y.drop i)) := by
  intro d
  induction d with
  | zero =>
    intro i hi
    refine Ev.step (fun k => by rw [slices_Equal_int_int.l0]) ?_
    refine Ev.neg (by omega) (Ev.const ?_)
    rw [List.drop_eq_nil_of_le (by omega), List.drop_eq_nil_of_le (by omega)]
    simp
  | succ d ih =>
    intro i hi
    have h1 : i < x.length := by omega
    have h2 : i < y.length := by omega
    refine Ev.step (fun k => by rw [slices_Equal_int_int.l0]) ?_
    refine Ev.pos (by omega) (Ev.pos (by omega) (Ev.pos (by omega) (Ev.pos (by omega) ?_)))
    rw [rdI, rdI, wrap_nat (by omega)]
    rw [List.drop_eq_getElem_cons h1, List.drop_eq_getElem_cons h2]
    have e1 : x.getD i 0 = x[i] := by simp [List.getD, h1]
    have e2 : y.getD i 0 = y[i] := by simp [List.getD, h2]
    rw [e1, e2]
    by_cases h : x[i] = y[i]
    · refine Ev.pos h ?_
      have e : decide (x[i] :: x.drop (i + 1) = y[i] :: y.drop (i + 1)) = decide (x.drop (i + 1) = y.drop (i + 1)) := by
        refine decide_eq_decide.2 ?_
        simp only [List.cons.injEq, h, true_and]
      rw [e]
      exact ih (i + 1) (by omega)
    · refine Ev.neg h (Ev.const ?_)
      rw [decide_eq_false fun he => h (List.cons.inj he).1]
theorem eq_ints (x y : List Int) (hx : x.length < 9223372036854775807) : Ev (fun k => slices_Equal_int_int.f k x y) (decide (x = y)) := by
  unfold slices_Equal_int_int.f
  by_cases h : (x.length : Int) = (y.length : Int)
  · refine Ev.pos h ?_
    have := eq_from x y hx (by omega) x.length 0 (by omega)
    simpa using this
  · refine Ev.neg h (Ev.const ?_)
    have : x ≠ y := fun e => h (by rw [e])
    simp [this]

theorem idxFrom_parts (l : List S37) (p : S37 → Bool) : ∀ d i, (idxFrom l p d i).length + (idxFrom l (fun c => !p c) d i).length = d
  | 0, _ => rfl
  | d + 1, i => by
    have := idxFrom_parts l p d (i + 1)
    unfold idxFrom
    cases p (l.getD i z37) <;> simp <;> omega
theorem idx_parts (l : List S37) (lo hi : Int) : (idx l (pIn lo hi)).length + (idx l (pOut lo hi)).length = l.length := idxFrom_parts l (pIn lo hi) l.length 0
theorem idxFrom_le (l : List S37) (p : S37 → Bool) : ∀ d i, (idxFrom l p d i).length ≤ d
  | 0, _ => by simp [idxFrom]
  | d + 1, i => by
    have := idxFrom_le l p d (i + 1)
    unfold idxFrom
    split
    · simp; omega
    · omega
theorem idx_le (l : List S37) (p : S37 → Bool) : (idx l p).length ≤ l.length := idxFrom_le l p l.length 0

theorem spans_ok {l : List S37} (h : ∀ c ∈ l, OkC c) : ∀ s ∈ spans l, OkI s := by
  intro s hs
  obtain ⟨c, hc, rfl⟩ := List.mem_map.1 hs
  obtain ⟨_, _, h3, h4, h5, h6, _⟩ := h c hc
  unfold OkI span
  refine ⟨?_, ?_, ?_⟩ <;> simp only <;> omega
theorem valid_spans {l : List S37} (h : ∀ c ∈ l, OkC c) (hn : l.length ≤ 12) : valid (spans l) = spans l := by
  unfold valid
  rw [if_neg (by simp [spans]; omega), List.filter_eq_self.2 fun s hs => by simpa using spans_ok h s hs]

theorem hull_ex (v : List S29) (need : Int) : ∃ r : Int × Int × Bool, Ev (fun k => interval_Hull.f k v need) r ∧ HullSpec (valid v) need r.1 r.2.1 r.2.2 := by
  obtain ⟨a, b, o, h1, h2⟩ := impl_hull v need
  exact ⟨(a, b, o), h1, h2⟩
noncomputable def hullR (v : List S29) (need : Int) : Int × Int × Bool := Classical.choose (hull_ex v need)
theorem hullR_ev (v : List S29) (need : Int) : Ev (fun k => interval_Hull.f k v need) (hullR v need) := (Classical.choose_spec (hull_ex v need)).1
theorem hullR_spec (v : List S29) (need : Int) : HullSpec (valid v) need (hullR v need).1 (hullR v need).2.1 (hullR v need).2.2 := (Classical.choose_spec (hull_ex v need)).2
theorem ref_hullR {l : List S37} (hok : ∀ c ∈ l, OkC c) (hn : l.length ≤ 12) (need : Int) (h1 : 1 ≤ need) : Ev (fun k => timesyncref24_hull.f k l need) (hullR (spans l) need) := by
  obtain ⟨a, b, o, e1, e2⟩ := ref_hull l (by omega) hok need h1
  have h3 := hullR_spec (spans l) need
  rw [valid_spans hok hn] at h3
  obtain ⟨h4, h5, h6⟩ := e2.uniq h3
  have : (a, b, o) = hullR (spans l) need := by rw [h4, h5, h6]
  rw [← this]
  exact e1

/-- The selection from 'a' wrong ones on. -/
noncomputable def selFrom (l : List S37) : Nat → Nat → List Int × Int × Int × Int
  | 0, _ => ([], 0, 0, 11)
  | d + 1, a => if 2 * a < l.length then (if (hullR (spans l) ((l.length : Int) - a)).2.2 = true then
      (if (l.length : Int) - ((idx l (pIn (hullR (spans l) ((l.length : Int) - a)).1 (hullR (spans l) ((l.length : Int) - a)).2.1)).length : Int) ≤ a then (idx l (pIn (hullR (spans l) ((l.length : Int) - a)).1 (hullR (spans l) ((l.length : Int) - a)).2.1), (hullR (spans l) ((l.length : Int) - a)).1, (hullR (spans l) ((l.length : Int) - a)).2.1, 0)
       else selFrom l d (a + 1)) else selFrom l d (a + 1)) else ([], 0, 0, 11)
noncomputable def sel (l : List S37) : List Int × Int × Int × Int := if chk l = 0 then selFrom l (l.length + 1) 0 else ([], 0, 0, chk l)

theorem impl_spans (l : List S37) (hn : l.length ≤ 12) (hok : ∀ c ∈ l, OkC c) (r : List Int × Int × Int × Int) (hr : Ev (fun k => choose_Select.l1 k l (spans l) 0) r) :
    ∀ d i (acc : List S29), i + d = l.length → acc = spans (l.take i) → Ev (fun k => choose_Select.l0 k l acc l l.length i) r := by
  intro d
  induction d with
  | zero =>
    intro i acc hi ha
    refine Ev.step (fun k => by rw [choose_Select.l0]) ?_
    refine Ev.neg (by omega) ?_
    rw [List.take_of_length_le (by omega)] at ha
    subst ha
    exact hr
  | succ d ih =>
    intro i acc hi ha
    have hlt : i < l.length := by omega
    have hg : l.getD i z37 = l[i] := by simp [List.getD, hlt]
    have ho := hok l[i] (List.getElem_mem hlt)
    refine Ev.step (fun k => by rw [choose_Select.l0]) ?_
    refine Ev.pos (by omega) (Ev.pos (by omega) (Ev.pos (by omega) ?_))
    simp only [rd37, choose_span.f]
    refine Ev.some_bind ?_
    have el : acc.length = i := by rw [ha]; simp [spans]; omega
    refine Ev.pos (by omega) ?_
    obtain ⟨_, _, h3, h4, h5, h6, _⟩ := ho
    rw [hg, wrap_id (x := l[i].f1 - l[i].f2) (by omega) (by omega), wrap_id (x := l[i].f1 + l[i].f2) (by omega) (by omega), wrap_nat (by omega)]
    refine ih (i + 1) _ (by omega) ?_
    rw [ha, List.take_succ_eq_append_getElem hlt]
    unfold spans
    rw [List.map_append]
    rfl

theorem impl_sel_from (l : List S37) (hn : l.length ≤ 12) : ∀ d a, a + d = l.length + 1 → Ev (fun k => choose_Select.l1 k l (spans l) a) (selFrom l d a) := by
  intro d
  induction d with
  | zero =>
    intro a ha
    refine Ev.step (fun k => by rw [choose_Select.l1]) ?_
    refine Ev.neg ?_ (Ev.const rfl)
    rw [wrap_id (by omega) (by omega)]; omega
  | succ d ih =>
    intro a ha
    refine Ev.step (fun k => by rw [choose_Select.l1]) ?_
    rw [wrap_id (x := 2 * (a : Int)) (by omega) (by omega)]
    unfold selFrom
    by_cases h2 : 2 * a < l.length
    · rw [if_pos h2]
      refine Ev.pos (by omega) ?_
      rw [wrap_id (x := (l.length : Int) - a) (by omega) (by omega), wrap_nat (by omega)]
      refine Ev.bind' _ (hullR_ev (spans l) _) ?_
      by_cases h3 : (hullR (spans l) ((l.length : Int) - a)).2.2 = true
      · rw [if_pos h3]
        refine Ev.pos h3 (Ev.bind' _ (impl_in l (by omega) _ _) ?_)
        have hle := idx_le l (pIn (hullR (spans l) ((l.length : Int) - a)).1 (hullR (spans l) ((l.length : Int) - a)).2.1)
        rw [wrap_id (x := (l.length : Int) - _) (by omega) (by omega)]
        by_cases h4 : (l.length : Int) - ((idx l (pIn (hullR (spans l) ((l.length : Int) - a)).1 (hullR (spans l) ((l.length : Int) - a)).2.1)).length : Int) ≤ a
        · rw [if_pos h4]; exact Ev.pos h4 (Ev.const rfl)
        · rw [if_neg h4]; exact Ev.neg h4 (ih (a + 1) (by omega))
      · rw [if_neg h3]; exact Ev.neg h3 (ih (a + 1) (by omega))
    · rw [if_neg h2]
      exact Ev.neg (by omega) (Ev.const rfl)
theorem ref_sel_from (l : List S37) (hn : l.length ≤ 12) (hok : ∀ c ∈ l, OkC c) : ∀ d a, a + d = l.length + 1 → Ev (fun k => timesyncref24_Select.l0 k l a) (selFrom l d a) := by
  intro d
  induction d with
  | zero =>
    intro a ha
    refine Ev.step (fun k => by rw [timesyncref24_Select.l0]) ?_
    refine Ev.neg ?_ (Ev.const rfl)
    rw [wrap_id (by omega) (by omega)]; omega
  | succ d ih =>
    intro a ha
    refine Ev.step (fun k => by rw [timesyncref24_Select.l0]) ?_
    rw [wrap_id (x := 2 * (a : Int)) (by omega) (by omega)]
    unfold selFrom
    by_cases h2 : 2 * a < l.length
    · rw [if_pos h2]
      refine Ev.pos (by omega) ?_
      rw [wrap_id (x := (l.length : Int) - a) (by omega) (by omega), wrap_nat (by omega)]
      refine Ev.bind' _ (ref_hullR hok hn _ (by omega)) ?_
      by_cases h3 : (hullR (spans l) ((l.length : Int) - a)).2.2 = true
      · rw [if_pos h3]
        refine Ev.pos h3 (Ev.bind' _ (ref_out l (by omega) _ _) ?_)
        have hp := idx_parts l (hullR (spans l) ((l.length : Int) - a)).1 (hullR (spans l) ((l.length : Int) - a)).2.1
        by_cases h4 : (l.length : Int) - ((idx l (pIn (hullR (spans l) ((l.length : Int) - a)).1 (hullR (spans l) ((l.length : Int) - a)).2.1)).length : Int) ≤ a
        · rw [if_pos h4]; exact Ev.pos (by omega) (Ev.bind' _ (ref_in l (by omega) _ _) (Ev.const rfl))
        · rw [if_neg h4]; exact Ev.neg (by omega) (ih (a + 1) (by omega))
      · rw [if_neg h3]; exact Ev.neg h3 (ih (a + 1) (by omega))
    · rw [if_neg h2]
      exact Ev.neg (by omega) (Ev.const rfl)
theorem impl_select (l : List S37) : Ev (fun k => choose_Select.f k l) (sel l) := by
  unfold choose_Select.f sel
  refine Ev.bind' _ (impl_check l) ?_
  by_cases h : chk l = 0
  · rw [if_pos h]
    obtain ⟨hn, hok⟩ := chk_ok h
    exact Ev.pos h (impl_spans l hn hok _ (impl_sel_from l hn (l.length + 1) 0 (by omega)) l.length 0 [] (by omega) (by simp [spans]))
  · rw [if_neg h]; exact Ev.neg h (Ev.const rfl)
theorem ref_select (l : List S37) : Ev (fun k => timesyncref24_Select.f k l) (sel l) := by
  unfold timesyncref24_Select.f sel
  refine Ev.bind' _ (ref_check l) ?_
  by_cases h : chk l = 0
  · rw [if_pos h]
    obtain ⟨hn, hok⟩ := chk_ok h
    exact Ev.pos h (ref_sel_from l hn hok (l.length + 1) 0 (by omega))
  · rw [if_neg h]; exact Ev.neg h (Ev.const rfl)

/-- What a selection is. -/
structure SelOk (l : List S37) (p : List Int) (lo hi : Int) : Prop where
  chk0 : chk l = 0
  wit : ∃ a : Nat, 2 * a < l.length ∧ HullSpec (spans l) ((l.length : Int) - a) lo hi true ∧ (l.length : Int) - (p.length : Int) ≤ a ∧ ∀ b : Nat, b < a → ∀ lo' hi', HullSpec (spans l) ((l.length : Int) - b) lo' hi' true → (b : Int) < (l.length : Int) - ((idx l (pIn lo' hi')).length : Int)
  pos : p = idx l (pIn lo hi)
def SelNone (l : List S37) : Prop := ∀ a : Nat, 2 * a < l.length → ∀ lo hi, HullSpec (spans l) ((l.length : Int) - a) lo hi true → (a : Int) < (l.length : Int) - ((idx l (pIn lo hi)).length : Int)
theorem selFrom_spec {l : List S37} (h0 : chk l = 0) : ∀ d a, a + d = l.length + 1 → (∀ b : Nat, b < a → 2 * b < l.length → ∀ lo' hi', HullSpec (spans l) ((l.length : Int) - b) lo' hi' true → (b : Int) < (l.length : Int) - ((idx l (pIn lo' hi')).length : Int)) →
    (selFrom l d a = ([], 0, 0, 11) ∧ SelNone l) ∨ ∃ p lo hi, selFrom l d a = (p, lo, hi, 0) ∧ SelOk l p lo hi := by
  obtain ⟨hn, hok⟩ := chk_ok h0
  intro d
  induction d with
  | zero => exact fun a ha hb => .inl ⟨rfl, fun b h2 => hb b (by omega) h2⟩
  | succ d ih =>
    intro a ha hb
    have hs := hullR_spec (spans l) ((l.length : Int) - a)
    rw [valid_spans hok hn] at hs
    have next : (∀ lo' hi', HullSpec (spans l) ((l.length : Int) - a) lo' hi' true → (a : Int) < (l.length : Int) - ((idx l (pIn lo' hi')).length : Int)) → ∀ b : Nat, b < a + 1 → 2 * b < l.length → ∀ lo' hi', HullSpec (spans l) ((l.length : Int) - b) lo' hi' true → (b : Int) < (l.length : Int) - ((idx l (pIn lo' hi')).length : Int) := fun hx b hba h2 => by
      rcases Nat.lt_or_ge b a with h3 | h3
      · exact hb b h3 h2
      · have e : b = a := by omega
        subst e; exact hx
    unfold selFrom
    by_cases h2 : 2 * a < l.length
    · rw [if_pos h2]
      by_cases h3 : (hullR (spans l) ((l.length : Int) - a)).2.2 = true
      · rw [if_pos h3]
        rw [h3] at hs
        by_cases h4 : (l.length : Int) - ((idx l (pIn (hullR (spans l) ((l.length : Int) - a)).1 (hullR (spans l) ((l.length : Int) - a)).2.1)).length : Int) ≤ a
        · rw [if_pos h4]
          exact .inr ⟨_, _, _, rfl, h0, ⟨a, h2, hs, h4, fun b hba => hb b hba (by omega)⟩, rfl⟩
        · rw [if_neg h4]
          refine ih (a + 1) (by omega) (next fun lo' hi' hh => ?_)
          obtain ⟨e1, e2, _⟩ := hh.uniq hs
          rw [e1, e2]; omega
      · rw [if_neg h3]
        refine ih (a + 1) (by omega) (next fun lo' hi' hh => ?_)
        exact absurd (hh.uniq hs).2.2.symm h3
    · rw [if_neg h2]
      exact .inl ⟨rfl, fun b hb2 => hb b (by omega) hb2⟩
/-- The three ends of a selection. -/
theorem sel_cases (l : List S37) : (chk l ≠ 0 ∧ sel l = ([], 0, 0, chk l)) ∨ (chk l = 0 ∧ sel l = ([], 0, 0, 11) ∧ SelNone l) ∨ ∃ p lo hi, sel l = (p, lo, hi, 0) ∧ SelOk l p lo hi := by
  unfold sel
  by_cases h : chk l = 0
  · rw [if_pos h]
    rcases selFrom_spec h (l.length + 1) 0 (by omega) (fun b hb => by omega) with ⟨h1, h2⟩ | ⟨p, lo, hi, h1, h2⟩
    · exact .inr (.inl ⟨h, h1, h2⟩)
    · exact .inr (.inr ⟨p, lo, hi, h1, h2⟩)
  · rw [if_neg h]; exact .inl ⟨h, rfl⟩

noncomputable def fals (l : List S37) : List Int × Int := if (sel l).2.2.2 = 0 then (idx l (pOut (sel l).2.1 (sel l).2.2.1), 0) else ([], (sel l).2.2.2)
theorem sel_len (l : List S37) (h : (sel l).2.2.2 = 0) : l.length ≤ 12 ∧ ∀ c ∈ l, OkC c := by
  by_cases h0 : chk l = 0
  · exact chk_ok h0
  · unfold sel at h
    rw [if_neg h0] at h
    exact absurd h h0
theorem impl_fals (l : List S37) : Ev (fun k => choose_Falsetickers.f k l) (fals l) := by
  unfold choose_Falsetickers.f fals
  refine Ev.bind' _ (impl_select l) ?_
  by_cases h : (sel l).2.2.2 = 0
  · rw [if_pos h]
    exact Ev.pos h (Ev.bind' _ (impl_out l (by have := (sel_len l h).1; omega) _ _) (Ev.const rfl))
  · rw [if_neg h]; exact Ev.neg h (Ev.const rfl)
theorem ref_fals (l : List S37) : Ev (fun k => timesyncref24_Falsetickers.f k l) (fals l) := by
  unfold timesyncref24_Falsetickers.f fals
  refine Ev.bind' _ (ref_select l) ?_
  by_cases h : (sel l).2.2.2 = 0
  · rw [if_pos h]
    exact Ev.pos h (Ev.bind' _ (ref_out l (by have := (sel_len l h).1; omega) _ _) (Ev.const rfl))
  · rw [if_neg h]; exact Ev.neg h (Ev.const rfl)

/-! ### Majority -/
def maj (l : List S37) (lo hi : Int) : Bool := if chk l = 0 then (if lo > hi then false else decide (2 * (idx l (pMeet lo hi)).length > l.length)) else false
theorem impl_maj (l : List S37) (lo hi : Int) : Ev (fun k => choose_Majority.f k l lo hi) (maj l lo hi) := by
  unfold choose_Majority.f maj
  refine Ev.bind' _ (impl_check l) ?_
  by_cases h : chk l = 0
  · obtain ⟨hn, hok⟩ := chk_ok h
    rw [if_pos h]
    refine Ev.pos h ?_
    by_cases h2 : lo > hi
    · rw [if_pos h2]; exact Ev.pos h2 (Ev.const rfl)
    · rw [if_neg h2]
      refine Ev.neg h2 (Ev.bind' _ (impl_meet l (by omega) hok _ _) (Ev.const ?_))
      have := idx_le l (pMeet lo hi)
      rw [wrap_id (by omega) (by omega)]
      congr 1
      by_cases h3 : 2 * (idx l (pMeet lo hi)).length > l.length
      · rw [decide_eq_true h3, decide_eq_true (by omega)]
      · rw [decide_eq_false h3, decide_eq_false (by omega)]
  · rw [if_neg h]; exact Ev.neg h (Ev.const rfl)
theorem ref_maj_from (l : List S37) (hn : l.length ≤ 100) (hok : ∀ c ∈ l, OkC c) (lo hi : Int) : ∀ d i (n : Nat), i + d = l.length → n ≤ i →
    Ev (fun k => timesyncref24_Majority.l0 k l n i lo hi) (decide (2 * (n + (idxFrom l (pMeet lo hi) d i).length) > l.length)) := by
  intro d
  induction d with
  | zero =>
    intro i n hi' ha
    refine Ev.step (fun k => by rw [timesyncref24_Majority.l0]) ?_
    refine Ev.neg (by omega) (Ev.const ?_)
    rw [wrap_id (by omega) (by omega)]
    congr 1
    refine decide_eq_decide.2 ?_
    simp only [idxFrom, List.length_nil, Nat.add_zero]
    omega
  | succ d ih =>
    intro i n hi' ha
    have ho := okAt hok (show i < l.length by omega)
    obtain ⟨_, _, h3, h4, h5, h6, _⟩ := ho
    refine Ev.step (fun k => by rw [timesyncref24_Majority.l0]) ?_
    refine Ev.pos (by omega) (Ev.pos (by omega) ?_)
    simp only [rd37]
    rw [wrap_id (x := (l.getD i z37).f1 - (l.getD i z37).f2) (by omega) (by omega), wrap_id (x := (l.getD i z37).f1 + (l.getD i z37).f2) (by omega) (by omega), wrap_nat (i := i) (by omega), wrap_nat (i := n) (by omega)]
    unfold idxFrom
    by_cases g1 : (l.getD i z37).f1 - (l.getD i z37).f2 ≤ hi
    · by_cases g2 : (l.getD i z37).f1 + (l.getD i z37).f2 ≥ lo
      · have hp : pMeet lo hi (l.getD i z37) = true := by unfold pMeet; rw [decide_eq_true g1, decide_eq_true g2]; rfl
        rw [if_pos hp]
        refine Ev.pos g1 (Ev.pos g2 ?_)
        have := ih (i + 1) (n + 1) (by omega) (by omega)
        rw [show n + 1 + (idxFrom l (pMeet lo hi) d (i + 1)).length = n + ((i : Int) :: idxFrom l (pMeet lo hi) d (i + 1)).length by simp; omega] at this
        exact this
      · have hp : ¬ pMeet lo hi (l.getD i z37) = true := by unfold pMeet; rw [decide_eq_true g1, decide_eq_false g2]; simp
        rw [if_neg hp]
        exact Ev.pos g1 (Ev.neg g2 (ih (i + 1) n (by omega) (by omega)))
    · have hp : ¬ pMeet lo hi (l.getD i z37) = true := by unfold pMeet; rw [decide_eq_false g1]; simp
      rw [if_neg hp]
      exact Ev.neg g1 (ih (i + 1) n (by omega) (by omega))
theorem ref_maj (l : List S37) (lo hi : Int) : Ev (fun k => timesyncref24_Majority.f k l lo hi) (maj l lo hi) := by
  unfold timesyncref24_Majority.f maj
  refine Ev.bind' _ (ref_check l) ?_
  by_cases h : chk l = 0
  · obtain ⟨hn, hok⟩ := chk_ok h
    rw [if_pos h]
    refine Ev.pos h ?_
    refine Ev.step (fun k => by rw [timesyncref24_Majority.j0]) ?_
    by_cases h2 : lo > hi
    · rw [if_pos h2]; exact Ev.pos (by simpa using h2) (Ev.const rfl)
    · rw [if_neg h2]
      refine Ev.neg (by simpa using h2) ?_
      have := ref_maj_from l (by omega) hok lo hi l.length 0 0 (by omega) (by omega)
      simpa [idx] using this
  · rw [if_neg h]
    refine Ev.neg h (Ev.step (fun k => by rw [timesyncref24_Majority.j0]) ?_)
    exact Ev.pos rfl (Ev.const rfl)
end Go.Proofs.Ytlfilhplklifjaa.PA

/- The pure statement of ChooseSelects: both texts select the same positions, with the same interval and error. -/
namespace Go.Proofs.Ytlfilhplklifjaa.PureChooseSelects
open Go.RowKit Go.Proofs.Ytlfilhplklifjaa.X Go.Proofs.Ytlfilhplklifjaa.PA Go.Proofs.YtlfilhplklifjaaW.PrintWords
theorem small_sel (l : List S37) : (sel l).1.length < 9223372036854775807 := by
  rcases sel_cases l with ⟨_, h⟩ | ⟨_, h, _⟩ | ⟨p, lo, hi, h, h2⟩
  · rw [h]; simp
  · rw [h]; simp
  · rw [h]
    have := idx_le l (pIn lo hi)
    have := (chk_ok h2.chk0).1
    rw [h2.pos]
    show (idx l (pIn lo hi)).length < _
    omega
theorem small_fals (l : List S37) : (fals l).1.length < 9223372036854775807 := by
  unfold fals
  split
  · rename_i h
    have := idx_le l (pOut (sel l).2.1 (sel l).2.2.1)
    have := (sel_len l h).1
    show (idx l _).length < _
    omega
  · simp
theorem ChooseSelects : ∀ (x0 : List (S37)), WFL37 x0 → ∃ k, timesynclaw24_ChooseSelects.f k x0 = some true := by
  intro l _
  refine Ev.rounds ?_
  unfold timesynclaw24_ChooseSelects.f
  refine Ev.ite_ (fun _ => awake24') (fun _ => Ev.bind' _ (impl_select l) (Ev.bind' _ (ref_select l) (Ev.bind' _ (impl_fals l) (Ev.bind' _ (ref_fals l) (Ev.bind' _ (eq_ints _ _ (small_sel l)) ?_)))))
  refine Ev.pos (by simp) (Ev.pos (by simp) (Ev.pos rfl (Ev.bind' _ (eq_ints _ _ (small_fals l)) (Ev.pos (by simp) (Ev.pos rfl awake24')))))
end Go.Proofs.Ytlfilhplklifjaa.PureChooseSelects

/- What an argument reads as, in the printed words: a type's reading gives cells of its kind, and bounds on the numbers. -/
namespace Go.Proofs.Ytlfilhplklifjaa.HO
open Go.RowKit Go.Proofs.YtlfilhplklifjaaW.PrintWords Go.Deep

structure Opens {α : Type} (P : Program) (t : TypeId) (d : Kd α) (B : α → Prop) : Prop where
  out : ∀ {H : Type} (enc : TypeId × Value → H) (w : World) (base : Nat) (spare : Nat → Bool) (held : Bool) (fuel : Nat) (cs : List Value) (x : DataW H × List MemPlace),
    DataW.trod enc P w base spare held fuel t cs = some x → ∃ a : α, d.K w a cs ∧ B a

theorem opens_int {P : Program} {t : TypeId} {k : IntKind} (ht : P.underlying t = some (.int k)) : Opens P t (Kd.int k) (fun n => (Lit.int k n).wf = true) := by
  constructor
  intro H enc w base spare held fuel cs x h
  obtain ⟨n, rfl, _, hw⟩ := DataW.trod_int ht h
  exact ⟨n, rfl, hw⟩
theorem opens_bool {P : Program} {t : TypeId} (ht : P.underlying t = some .bool) : Opens P t Kd.bool (fun _ => True) := by
  constructor
  intro H enc w base spare held fuel cs x h
  obtain ⟨b, rfl, _⟩ := DataW.trod_bool ht h
  exact ⟨b, rfl, trivial⟩

theorem opens_slice {α : Type} [Inhabited α] {P : Program} {t e : TypeId} {d : Kd α} {B : α → Prop} (he : Opens P e d B) (ht : P.underlying t = some (.slice e)) (hs : P.cellsOf e = d.sz) :
    Opens P t (Kd.slice e d) (fun xs => xs.length ≤ 9223372036854775807 ∧ ∀ x ∈ xs, B x) := by
  constructor
  intro H enc w base spare held fuel cs x h
  rcases open_slice ht h with ⟨rfl, _⟩ | ⟨a, len, cap, m, n, D, Pl, rfl, _, hl, hm, hmm, _, hx⟩
  · exact ⟨[], ⟨none, 0, rfl, Nat.le_refl _, rfl, by simp, fun h => by simp at h⟩, by simp, by simp⟩
  · have hlm : len ≤ m := by rw [hmm]; split <;> omega
    obtain ⟨X, hX⟩ := choose_lt (α := α) (n := len) (p := fun i x => B x ∧ ∃ c, c.length = d.sz ∧ d.K w x c ∧ ∀ j u, c[j]? = some u → w.cell? (a.add (i * d.sz + j)) = some u) (fun i hi => by
      obtain ⟨cs', h1, h2⟩ := hx i (Nat.lt_of_lt_of_le hi hlm)
      obtain ⟨x, hK, hB⟩ := he.out enc w base spare held n cs' _ h2
      refine ⟨x, hB, cs', d.K_len hK, hK, fun j u hj => ?_⟩
      obtain ⟨_, h4, h5⟩ := World.cells?_some h1
      have hj' : j < cs'.length := (List.getElem?_eq_some_iff.1 hj).1
      have h6 := h5 j (by rw [h4] at hj'; exact hj')
      rw [Go.Deep.add_add, hs] at h6
      rw [h6, hj])
    refine ⟨(List.range len).map X, ⟨some a, cap, by simp, by simpa using hl, by simp, ?_, fun h0 => ⟨a, rfl, fun j p hp => ?_⟩⟩, ?_, ?_⟩
    · have : cap ≤ 9223372036854775807 := by simpa [maxLen] using hm
      simp only [List.length_map, List.length_range]; omega
    · have hj : j < len := by
        have := (List.getElem?_eq_some_iff.1 hp).1
        simpa using this
      have : X j = p := by simpa [hj] using hp
      subst this
      obtain ⟨_, c, h1, h2, h3⟩ := hX j hj
      exact ⟨c, h1, h2, h3⟩
    · have : cap ≤ 9223372036854775807 := by simpa [maxLen] using hm
      simp only [List.length_map, List.length_range]; omega
    · intro x hx
      obtain ⟨j, hj, rfl⟩ := List.mem_map.1 hx
      exact (hX j (List.mem_range.1 hj)).1

/-- The fields from cell 'off' on. -/
structure OpF {α : Type} (P : Program) (off : Nat) (fs : List Field) (d : Kd α) (B : α → Prop) : Prop where
  out : ∀ {H : Type} (enc : TypeId × Value → H) (w : World) (base : Nat) (spare : Nat → Bool) (held : Bool) (n : Nat) (cs : List Value), cs.length = off + d.sz →
    (∀ f ∈ fs, ∃ y, DataW.trod enc P w base spare held n f.type ((cs.drop f.offset).take (P.cellsOf f.type)) = some y) → ∃ a : α, d.K w a (cs.drop off) ∧ B a
theorem opF_one {α : Type} {P : Program} {off : Nat} {f : Field} {d : Kd α} {B : α → Prop} (h : Opens P f.type d B) (ho : f.offset = off) (hs : P.cellsOf f.type = d.sz) : OpF P off [f] d B := by
  constructor
  intro H enc w base spare held n cs hl hf
  obtain ⟨y, hy⟩ := hf f (by simp)
  rw [ho, hs, List.take_of_length_le (by rw [List.length_drop]; omega)] at hy
  exact h.out enc w base spare held n _ _ hy
theorem opF_cons {α β : Type} {P : Program} {off : Nat} {f : Field} {fs : List Field} {d : Kd α} {d' : Kd β} {B : α → Prop} {B' : β → Prop} (h : Opens P f.type d B) (ho : f.offset = off) (hs : P.cellsOf f.type = d.sz) (hr : OpF P (off + d.sz) fs d' B') :
    OpF P off (f :: fs) (Kd.pair d d') (fun p => B p.1 ∧ B' p.2) := by
  constructor
  intro H enc w base spare held n cs hl hf
  obtain ⟨y, hy⟩ := hf f (by simp)
  rw [ho, hs] at hy
  have hl' : cs.length = off + (d.sz + d'.sz) := hl
  obtain ⟨a, hK, hB⟩ := h.out enc w base spare held n _ _ hy
  obtain ⟨b, hK', hB'⟩ := hr.out enc w base spare held n cs (by omega) (fun g hg => hf g (by simp [hg]))
  refine ⟨(a, b), ⟨(cs.drop off).take d.sz, cs.drop (off + d.sz), ?_, hK, hK'⟩, hB, hB'⟩
  rw [← List.drop_drop]
  exact (List.take_append_drop _ _).symm
theorem opens_struct {α β : Type} {P : Program} {t : TypeId} {fs : Array Field} {d : Kd α} {B : α → Prop} (f : β → α) (g : α → β) (hfg : ∀ a, f (g a) = a) (h : OpF P 0 fs.toList d B) (ht : P.underlying t = some (.struct fs)) (hs : P.cellsOf t = d.sz) :
    Opens P t (Kd.iso d f) (fun x => B (f x)) := by
  constructor
  intro H enc w base spare held fuel cs x hx
  obtain ⟨xs, n, _, _, hl, hlen, hf⟩ := DataW.trod_struct ht hx
  obtain ⟨a, hK, hB⟩ := h.out enc w base spare held n cs (by omega) (fun q hq => by
    obtain ⟨i, hi⟩ := List.mem_iff_getElem?.1 hq
    have hi' : fs[i]? = some q := by simpa using hi
    have hlt : i < xs.length := by
      have := (Array.getElem?_eq_some_iff.1 hi').1
      omega
    exact ⟨xs[i], by rw [hf i q hi', List.getElem?_eq_getElem hlt]⟩)
  refine ⟨g a, ?_, by show B (f (g a)); rw [hfg]; exact hB⟩
  show d.K w (f (g a)) cs
  rw [hfg]
  exact hK
end Go.Proofs.Ytlfilhplklifjaa.HO

/- The row of ChooseSelects: for every input the law returns true, and each argument reads as it read before: out of its pure statement (YtlfilhplklifjaaPureChooseSelects) and the printed walk. No condition. -/
namespace Go.Proofs.Ytlfilhplklifjaa.chooseSelects
open Go.ChangeShapes Go.WideShapes Go.ChangeAt Go.RowKit Go.Proofs.Ytlfilhplklifjaa.X Go.Proofs.YtlfilhplklifjaaW.PrintWords
open Go.ChangeMaps (open_string shut_string)
set_option linter.unusedVariables false
theorem own : ownKnob Try.prog.godebug = none := by kernel_rfl
theorem laidOut : laidOutB Try.prog = true := by kernel_rfl
theorem opens3 : HO.Opens Try.prog 3 (Kd.int .i64) WFi64 := HO.opens_int Try.underlying3
theorem opens37 : HO.Opens Try.prog 37 k37 WF37 := HO.opens_struct (d := (Kd.pair (Kd.int .i64) (Kd.pair (Kd.int .i64) (Kd.pair (Kd.int .i64) (Kd.pair (Kd.int .i64) (Kd.int .i64)))))) (B := fun p => WFi64 p.1 ∧ WFi64 p.2.1 ∧ WFi64 p.2.2.1 ∧ WFi64 p.2.2.2.1 ∧ WFi64 p.2.2.2.2) (fun x : S37 => (x.f0, x.f1, x.f2, x.f3, x.f4)) (fun p => (⟨p.1, p.2.1, p.2.2.1, p.2.2.2.1, p.2.2.2.2⟩ : S37)) (fun _ => rfl) (HO.opF_cons (B := WFi64) (B' := (fun p : (Int) × (Int) × (Int) × (Int) => WFi64 p.1 ∧ WFi64 p.2.1 ∧ WFi64 p.2.2.1 ∧ WFi64 p.2.2.2)) opens3 rfl (by kernel_rfl) (HO.opF_cons (B := WFi64) (B' := (fun p : (Int) × (Int) × (Int) => WFi64 p.1 ∧ WFi64 p.2.1 ∧ WFi64 p.2.2)) opens3 rfl (by kernel_rfl) (HO.opF_cons (B := WFi64) (B' := (fun p : (Int) × (Int) => WFi64 p.1 ∧ WFi64 p.2)) opens3 rfl (by kernel_rfl) (HO.opF_cons (B := WFi64) (B' := WFi64) opens3 rfl (by kernel_rfl) (HO.opF_one opens3 rfl (by kernel_rfl)))))) Try.underlying37 (by kernel_rfl)
theorem opens22 : HO.Opens Try.prog 22 (Kd.slice 37 k37) WFL37 := haveI : Inhabited S37 := ⟨z37⟩; HO.opens_slice opens37 Try.underlying22 (by kernel_rfl)
set_option maxRecDepth 100000 in
theorem lifted (os : Os) (started : os.Started) (H : Type) (enc : TypeId × Value → H) :
    ReturnsInHanded {} Try.checked os 4 .any (Rows.chooseSelectsSpec.pre6 enc Try.prog Try.f4 Rows.chooseSelectsRow.domain false) (Rows.chooseSelectsSpec.post enc Try.prog Try.f4 false true false false) := by
  refine returnsInHanded_of_change_sized (C := Try.checked) own started (by kernel_rfl) Try.func4
    (ChangeSpec.witness6 (enc := enc) (C := Try.checked) false ⟨#[], #[.slice none 0 0], []⟩ 8 (by kernel_rfl) (by kernel_rfl) (by kernel_rfl) (by kernel_rfl)) ?_
  intro W base args ds gs before hval0 hW hcnd hsz0 _
  have hval : ∀ (j : Nat) t v, Try.f4.params[j]? = some t → args[j]? = some v → Value.okWide Try.prog W .any base t v := hval0
  have hW' := hW
  obtain ⟨p, q, hA0, hV, rfl, hfz, hnd⟩ := hW
  have hA : DataW.TrodAll enc Try.prog W 0 (fun _ => true) true Try.f4.params.toList args.toList ds p := hA0
  rw [Try.params4] at hA hval
  obtain ⟨v0, vs0, d0, ds0, p0, q0, hargs, rfl, rfl, h0, r0⟩ := trodAll_cons hA
  obtain ⟨rfl, rfl, rfl⟩ := trodAll_nil r0
  obtain rfl : args = #[v0] := by cases args; simp_all
  obtain ⟨rfl, rfl⟩ := trodVars_none hV
  have k0 := h0
  have lt0 : ∀ x ∈ p0, x.block < W.heap.size := by obtain ⟨m, hm⟩ := k0; exact DataW.trod_lt m _ _ _ hm
  obtain ⟨fuel0, hf0⟩ := h0
  obtain ⟨x0, K0, B0⟩ := opens22.out enc W 0 _ true fuel0 _ _ hf0
  obtain ⟨a0, len0, cap0, rfl⟩ := okWide_slice Try.underlying22 (hval 0 22 v0 rfl rfl)
  obtain ⟨A0, c0, e0, hc0, hr0⟩ := K0
  simp only [Value.cells, List.cons.injEq, Value.slice.injEq, and_true] at e0
  obtain ⟨rfl, rfl, rfl⟩ := e0
  clear hA0 hval0 hsz0
  obtain ⟨k, hp⟩ := PureChooseSelects.ChooseSelects x0 B0
  refine (timesynclaw24_ChooseSelects.calls k _ _ x0 true W hr0 hc0 hp).mono fun e W' ⟨he, bel0⟩ => ?_
  have bel := bel0
  subst he
  exact ⟨_, rfl, _, _, _, [], _, [], hW', trodAll_mk1 (shut_bool Try.underlying4 _), (trodAll_cons_mk (Below.trod laidOut (by kernel_rfl) (of_decide_eq_true (by kernel_rfl)) k0 bel lt0) trodAll_mk0), rfl, bel.frame _, fun h => by cases h⟩
theorem over : Rows.chooseSelectsRow.holds Try.pinned (OpenSpec.ofChange Rows.chooseSelectsSpec) :=
  OpenClaim.holds_of_wide 4 Try.f4 rfl rfl rfl rfl rfl rfl rfl ⟨rfl, rfl, rfl, rfl, rfl⟩ rfl rfl rfl rfl rfl (by kernel_rfl) Try.func4 (by kernel_rfl)
    (of_decide_eq_true (by kernel_rfl)) (by unfold Func.isWrapper; first | (rw [if_pos (by decide +kernel)]; kernel_rfl) | (rw [if_neg (by decide +kernel)]; exact ⟨rfl, rfl⟩))
    (fun os started H enc _ => lifted os started H enc)
#print axioms over
end Go.Proofs.Ytlfilhplklifjaa.chooseSelects
namespace Go.Proofs.Ytlfilhplklifjaa
/-- The row of ChooseSelects. -/
theorem chooseSelects_holds : Rows.ChooseSelectsSaid := chooseSelects.over
end Go.Proofs.Ytlfilhplklifjaa
