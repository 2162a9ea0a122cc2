/- Ytlfilhplklifjaa: part 2 of 2 of the proof that the law IntervalPeaks returns true for every input, its arguments reading as before. No condition. -/
import Derived.Test.YtlfilhplklifjaaMIntervalPeaks1
import Derived.KernelRfl
import Derived.Test.YtlfilhplklifjaaWMore
import Derived.Deep.Slices
import Derived.DataReads
import Derived.Test.YtlfilhplklifjaaRows
import Derived.WalkKit
import Derived.ProofKit
import Derived.OpenShut
import Derived.ShutString
import Derived.ChangeOld
import Derived.Below
import Derived.SizedLaws
import Derived.WideShapes
namespace Go.Proofs.Ytlfilhplklifjaa.X
open Go.RowKit Go.Proofs.YtlfilhplklifjaaW.PrintWords Go.Proofs.YtlfilhplklifjaaW.PrintLast Go.Proofs.YtlfilhplklifjaaW.PrintMore
attribute [local go_sem] max2_int min2_int max_two min_two max_three min_three max_four min_four   -- for this text's walks alone
set_option linter.unusedVariables false
set_option linter.unusedSimpArgs false

/-! ### interval_Edges: function 40 -/
def interval_Edges.l0 : Nat → List Int → List (S29) → Int → Int → Option (List Int)
 | 0, _, _, _, _ => none
 | k + 1, x3, x7, x8, x9 => if x9 < x8 then (if 0 ≤ x9 then (if x9 < (x7.length : Int) then ((some (([(rd_T29 x7 x9).f0, (rd_T29 x7 x9).f1] : List Int) : List Int)).bind fun y525 => (if x3.length + y525.length < 17592186044416 then (interval_Edges.l0 k (x3 ++ y525) x7 x8 (wrap64 (x9 + 1))) else (none))) else (none)) else (none)) else ((slices_Sort_int_int.f x3).bind fun t531 => ((slices_Compact_int_int.f t531).bind fun t532 => (some t532)))
def interval_Edges.f (k : Nat) (l0 : List (S29)) : Option (List Int) := (interval_valid.f k l0).bind fun t520 => (interval_Edges.l0 k ([] : List Int) t520 (t520.length : Int) 0)
set_option maxHeartbeats 8000000 in
set_option maxRecDepth 100000 in
theorem interval_Edges.calls (k : Nat) (A0 : Option Addr) (c0 : Nat) (l0 : List (S29)) (r : List Int) (w : World) (hr0 : Kd.C k29 w A0 l0.length l0) (hc0 : l0.length ≤ c0) (h : interval_Edges.f k l0 = some r) :
  Calls Try.prog 40 #[.slice A0 l0.length c0] w fun e w' => ∃ v0_ : Value, e = .returned (v0_) ∧ Kd.R (Kd.int .i64) 3 w' w.heap.size (fun _ => True) v0_ r ∧ Below w.heap.size w w' := by
 have hu29 := Try.underlying29
 have HR0 := Aside0.mk hr0
 have HC0 := Aside0.mk hc0
 clear hr0 hc0
 have HB := Aside0.mk (Below.refl w.heap.size w)
 have H : ((interval_valid.f k l0).bind fun t520 => (interval_Edges.l0 k ([] : List Int) t520 (t520.length : Int) 0)) = some r := h
 clear h
 replace H := Option.bind_eq_some_iff.mp H
 obtain ⟨t520, A20, H⟩ := H
 replace H : (interval_Edges.l0 k ([] : List Int) t520 (t520.length : Int) 0) = some r := H
 have A2 := Aside0.mk A20
 clear A20
 have H' := Aside0.mk H
 clear H
 go_enter Try.func40, Try.ntmps40
 go_wp2_with (first | ((with_reducible refine gate_callee (f := 66) rfl ?_); refine goesL_ (some 7) rfl rfl Try.func66 (by kernel_rfl) rfl #[.slice A0 l0.length c0] rfl (by (try simp only [List.map_toArray, List.map_cons, List.map_nil]); first | done | rfl | (simp only [List.length_drop, List.length_take]; rfl)) ?_; (with_reducible refine (interval_valid.calls k _ _ l0 t520 _ ?side1 ?side2 A2.out).mono ?_); (case side1 => repeat (first | exact HR0.out | (with_reducible refine Kd.C_alloc ?_ _) | (with_reducible refine Kd.C_drewN ?_ _) | (with_reducible refine Kd.C_drew ?_))); (case side2 => exact HC0.out); rintro e w3 ⟨v521, rfl, ho0, hb⟩; refine ⟨_, rfl, ?_⟩; have n0_ := Aside0.mk (Kd.R_lower ho0 (below_size (by repeat (first | (with_reducible first | exact HB.out | apply below_alloc | apply pw_below_drewN | apply below_drew1) | exact HB.out)))); have n1_ := Aside0.mk (below_step (by repeat (first | (with_reducible first | exact HB.out | apply below_alloc | apply pw_below_drewN | apply below_drew1) | exact HB.out)) hb); clear HB; have HO522 := n0_; have HB := n1_; clear n0_ n1_; (try clear hb); (try clear hb2); (try clear hk); (try clear hi); (try clear ho0); obtain ⟨Ao4, co4, eo4⟩ := Kd.R_slice HO522.out; subst eo4))
 go_loopg [3, 9] k (fun kq v3 v9 w' => ∃ (x3_1 : List Int) (x9_1 : Int), v9 = .int .i64 x9_1 ∧ Aside0 (interval_Edges.l0 kq x3_1 t520 (t520.length : Int) x9_1 = some r) ∧ Aside0 (kq ≤ k) ∧ Aside0 (Kd.R (Kd.int .i64) 3 w' w.heap.size (fun _ => True) v3 x3_1) ∧ Aside0 (Kd.R k29 29 w' w.heap.size (fun _ => True) (.slice Ao4 t520.length co4) t520) ∧ Aside0 (Below w.heap.size w w'))
 case atStart => exact ⟨(([] : List Int)), (0), (by first | rfl | (simp; done) | (simp [*]; done)), H', ⟨Nat.le_refl _⟩, ⟨by first | exact Kd.R_nil _ _ _ _ _ | exact Kd.N_nil _ _ _ _ _ | exact Kd.V_nil _ _ _ _ _ | exact Kd.Q_nil _ _ _ _ _ | exact Kd.S_nil _ _ _ _ _⟩, ⟨by (with_reducible repeat (first | apply Kd.R_alloc | apply Kd.R_drewN | apply Kd.R_drew)); exact HO522.out⟩, ⟨by repeat (first | (with_reducible first | exact HB.out | apply below_alloc | apply pw_below_drewN | apply below_drew1) | exact HB.out)⟩⟩
 case round =>
  clear H'
  try clear p2
  try clear c4
  obtain ⟨x3_1, x9_1, rfl, HA, HK1, HO_3, HO_7, HB⟩ := hrel
  cases gk with
  | zero => exact absurd HA.out (by simp [interval_Edges.l0])
  | succ k1 =>
   have H := HA.out
   clear HA
   simp only [interval_Edges.l0] at H
   by_cases c5 : x9_1 < (t520.length : Int)
   ·rw [if_pos c5] at H
    have c5b0 : decide (x9_1 < (t520.length : Int)) = true := decide_eq_true c5
    clear c5
    by_cases c6 : 0 ≤ x9_1
    ·rw [if_pos c6] at H
     have c6b0 : decide (0 ≤ x9_1) = true := decide_eq_true c6
     clear c6
     by_cases c7 : x9_1 < (t520.length : Int)
     ·rw [if_pos c7] at H
      have c7b0 : decide (x9_1 < (t520.length : Int)) = true := decide_eq_true c7
      clear c7
      obtain ⟨y525, hy525⟩ : ∃ y_ : List Int, y_ = (([(rd_T29 t520 x9_1).f0, (rd_T29 t520 x9_1).f1] : List Int)) := ⟨_, rfl⟩
      replace H : (if x3_1.length + y525.length < 17592186044416 then (interval_Edges.l0 k1 (x3_1 ++ y525) t520 (t520.length : Int) (wrap64 (x9_1 + 1))) else (none)) = some r := by first | (rw [hy525]; with_reducible exact H) | (have H2_ := (Option.bind_some _ _).symm.trans H; rw [hy525]; with_reducible exact H2_) | (have H2_ := (Option.bind_some _ _).symm.trans H; with_reducible exact H2_) | with_reducible exact H | (rw [hy525]; exact H) | exact H
      have Ny525 := Aside0.mk hy525
      clear hy525
      by_cases c8 : x3_1.length + y525.length < 17592186044416
      ·rw [if_pos c8] at H
       have LMc8 := Aside0.mk c8
       clear c8
       obtain ⟨y528, hy528⟩ : ∃ y_ : List Int, y_ = (x3_1 ++ y525) := ⟨_, rfl⟩
       replace H : (interval_Edges.l0 k1 y528 t520 (t520.length : Int) (wrap64 (x9_1 + 1))) = some r := by first | (rw [hy528]; with_reducible exact H) | (have H2_ := (Option.bind_some _ _).symm.trans H; rw [hy528]; with_reducible exact H2_) | (have H2_ := (Option.bind_some _ _).symm.trans H; with_reducible exact H2_) | with_reducible exact H | (rw [hy528]; exact H) | exact H
       have Ny528 := Aside0.mk hy528
       clear hy528
       have H' := Aside0.mk H
       clear H
       have p523 : 0 ≤ (x9_1 : Int) := of_decide_eq_true (by first | (with_reducible assumption) | assumption)
       have q523 : x9_1 < (t520.length : Int) := of_decide_eq_true (by first | (with_reducible assumption) | assumption)
       obtain ⟨ad523, e523, hx523_0, hx523_1⟩ := at_T29 (Kd.R_reads' HO_7.out).2.2 x9_1 p523 q523
       cases e523
       replace p523 := eq_true p523
       replace q523 := eq_true q523
       go_wp2_with (first | ((with_reducible refine gate_dst (N := 5) rfl ?_); refine box_event ?hg (N := 5) ?hd (cs := #[.int .i64 0, .int .i64 0]) (t := 29) ?hr ?_; (case hd => rfl); (case hg => rfl); (case hr => first | (go_simp; done) | (go_simp; rfl)); intro gb524 hg w9 hbox hb; have n0_ := Aside0.mk (Kd.R_below (by (with_reducible repeat (first | apply Kd.R_alloc | apply Kd.R_drewN | apply Kd.R_drew)); exact HO_3.out) hb); have n1_ := Aside0.mk (Kd.R_below (Kd.R_elderB (by (with_reducible repeat (first | apply Kd.R_alloc | apply Kd.R_drewN | apply Kd.R_drew)); exact HO_7.out) gb524 (Nat.le_of_eq hg.symm)) hb); have n2_ := Aside0.mk (below_step (by repeat (first | (with_reducible first | exact HB.out | apply below_alloc | apply pw_below_drewN | apply below_drew1) | exact HB.out)) hb); have n3_ := Aside0.mk (hbox); have n4_ := Aside0.mk ((by rw [hg]; exact (below_size (by repeat (first | (with_reducible first | exact HB.out | apply below_alloc | apply pw_below_drewN | apply below_drew1) | exact HB.out))) : w.heap.size ≤ gb524)); have n5_ := Aside0.mk ((by rw [hg]; exact (below_size (by repeat (first | (with_reducible first | exact HB.out | apply below_alloc | apply pw_below_drewN | apply below_drew1) | exact HB.out))) : w.heap.size ≤ gb524)); clear HO_3; clear HO_7; clear HB; have HO_3 := n0_; have HO_7 := n1_; have HB := n2_; have BK524 := n3_; have GW524 := n4_; have GE524 := n5_; clear n0_ n1_ n2_ n3_ n4_ n5_; clear hb hbox hg; have hcz10_0 : w9.cell? ⟨gb524, 0, none⟩ = some (.int .i64 0) := (blk_cell BK524.out 0).trans rfl; have hcz10_1 : w9.cell? ⟨gb524, 1, none⟩ = some (.int .i64 0) := (blk_cell BK524.out 1).trans rfl; have hfz10_0 := blk_frozen BK524.out 0; have hfz10_1 := blk_frozen BK524.out 1) | ((with_reducible refine gate_dst (N := 18) rfl ?_); refine Kd.R_lit (Kd.int .i64) _ 3 ?hg (N := 18) ?hd (xs := ([(rd_T29 t520 x9_1).f0, (rd_T29 t520 x9_1).f1] : List Int)) (inner := [.int .i64 ((rd_T29 t520 x9_1).f0), .int .i64 ((rd_T29 t520 x9_1).f1)]) (ok := fun _ => True) (okp := fun _ => True) ?hr ?hp (fun _ hk => hk) trivial (Below.refl _ _) (Nat.le_refl _) (by simp) ?_; (case hd => rfl); (case hg => rfl); (case hr => first | (go_simp; done) | (go_simp; rfl)); (case hp => exact (Reps.one (show Kd.M (Kd.int .i64) _ _ _ ((rd_T29 t520 x9_1).f0) [.int .i64 ((rd_T29 t520 x9_1).f0)] from rfl) (Reps.one (show Kd.M (Kd.int .i64) _ _ _ ((rd_T29 t520 x9_1).f1) [.int .i64 ((rd_T29 t520 x9_1).f1)] from rfl) (Reps.none _ _)))); intro v526 w11 ho12 hb hg_ hnew_; clear hg_ hnew_; (first | rw [← Ny525.out] at ho12 | (simp only [Int.reduceToNat] at ho12; rw [← Ny525.out] at ho12)); have n0_ := Aside0.mk (Kd.R_elder' (by (with_reducible repeat (first | apply Kd.R_alloc | apply Kd.R_drewN | apply Kd.R_drew)); exact (Kd.R_mono (Kd.R_far (p := ⟨gb524, 1, none⟩) (Kd.R_far (p := ⟨gb524, 0, none⟩) (Kd.R_types HO_3.out BK524.out (by decide)) (fun _ hk => hk.2) (.int .i64 ((rd_T29 t520 x9_1).f0))) (fun _ hk => hk.2) (.int .i64 ((rd_T29 t520 x9_1).f1))) (fun _ h_ => h_.1))) (Kd.R_base ho12) hb); have n1_ := Aside0.mk (Kd.R_below (by (with_reducible repeat (first | apply Kd.R_alloc | apply Kd.R_drewN | apply Kd.R_drew)); exact (Kd.R_mono (Kd.R_far (p := ⟨gb524, 1, none⟩) (Kd.R_far (p := ⟨gb524, 0, none⟩) (Kd.R_mono HO_7.out (fun k_ hk => (⟨hk, hk.2⟩ : _ ∧ k_ ≠ gb524))) (fun _ hk => hk.2) (.int .i64 ((rd_T29 t520 x9_1).f0))) (fun _ hk => hk.2) (.int .i64 ((rd_T29 t520 x9_1).f1))) (fun _ h_ => h_.1))) hb); have n2_ := Aside0.mk (Kd.R_lower (Kd.R_new' ho12 (Kd.R_lt (by (with_reducible repeat (first | apply Kd.R_alloc | apply Kd.R_drewN | apply Kd.R_drew)); exact (Kd.R_mono (Kd.R_far (p := ⟨gb524, 1, none⟩) (Kd.R_far (p := ⟨gb524, 0, none⟩) (Kd.R_types HO_3.out BK524.out (by decide)) (fun _ hk => hk.2) (.int .i64 ((rd_T29 t520 x9_1).f0))) (fun _ hk => hk.2) (.int .i64 ((rd_T29 t520 x9_1).f1))) (fun _ h_ => h_.1))))) (below_size (by repeat (first | (with_reducible first | exact HB.out | apply below_alloc | apply pw_below_drewN | apply below_drew1 | refine below_set ?_ GE524.out) | exact HB.out)))); have n3_ := Aside0.mk (blk_below (g := gb524) (o := .cells #[.int .i64 ((rd_T29 t520 x9_1).f0), .int .i64 ((rd_T29 t520 x9_1).f1)] 29 (0, 0)) (by (with_reducible repeat (first | refine blk_drewN ?_ _ | refine blk_drew ?_ | refine blk_alloc ?_ _)); refine blk_put (cs := #[.int .i64 ((rd_T29 t520 x9_1).f0), .int .i64 0]) ?_ 1 _ rfl; (with_reducible repeat (first | refine blk_drewN ?_ _ | refine blk_drew ?_ | refine blk_alloc ?_ _)); refine blk_put (cs := #[.int .i64 0, .int .i64 0]) ?_ 0 _ rfl; (with_reducible repeat (first | refine blk_drewN ?_ _ | refine blk_drew ?_ | refine blk_alloc ?_ _)); exact BK524.out) hb); have n4_ := Aside0.mk (below_step (by repeat (first | (with_reducible first | exact HB.out | apply below_alloc | apply pw_below_drewN | apply below_drew1 | refine below_set ?_ GE524.out) | exact HB.out)) hb); clear HO_3; clear HO_7; clear BK524; clear HB; have HO_3 := n0_; have HO_7 := n1_; have HO527 := n2_; have BK524 := n3_; have HB := n4_; clear n0_ n1_ n2_ n3_ n4_; clear hb ho12; obtain ⟨Ao14, co14, eo14⟩ := Kd.R_slice HO527.out; subst eo14) | ((with_reducible refine gate_builtin (b := .append) (xs := #[.tmp 13, .tmp 18]) rfl ?_); at_builtin; refine Kd.R_append_rows (Kd.int .i64) (w0 := w) w.heap.size rfl (.tmp 13) (.tmp 18) 27 3 (.int .i64 0) 8 rfl Try.underlying27 info3 rfl (by decide) (by omega) u3 x3_1 y525 _ _ _ (fun k_ => some k_ ≠ (.slice Ao14 y525.length co14 : Value).ownBlock) (fun _ => False) rfl rfl ?aO ?aR (fun _ _ h => h) (fun _ h => h.elim) ?aF ?aB ?aS ?aL ?_; (case aR => repeat (first | exact (Kd.R_reads' HO527.out).2.2 | (with_reducible refine Kd.C_alloc ?_ _) | (with_reducible refine Kd.C_drewN ?_ _) | (with_reducible refine Kd.C_drew ?_))); (case aB => exact (by repeat (first | (with_reducible first | exact HB.out | apply below_alloc | apply pw_below_drewN | apply below_drew1 | refine below_set ?_ GE524.out) | exact HB.out))); (case aF => exact (fun k_ hk => Kd.fresh' (Kd.R_lt (by (with_reducible repeat (first | apply Kd.R_alloc | apply Kd.R_drewN | apply Kd.R_drew)); exact HO527.out)) k_ hk)); (case aO => exact (by (with_reducible repeat (first | apply Kd.R_alloc | apply Kd.R_drewN | apply Kd.R_drew)); exact Kd.R_mono HO_3.out (fun _ hk => hk.2))); (case aS => exact (below_size (by repeat (first | (with_reducible first | exact HB.out | apply below_alloc | apply pw_below_drewN | apply below_drew1 | refine below_set ?_ GE524.out) | exact HB.out)))); (case aL => have := LMc8.out; omega); intro v529 w13 ho hb hg hat; rw [← Ny528.out] at ho; have n0_ := Aside0.mk (Kd.R_over' (by (with_reducible repeat (first | apply Kd.R_alloc | apply Kd.R_drewN | apply Kd.R_drew)); exact HO_7.out) (Kd.R_typed (by (with_reducible repeat (first | apply Kd.R_alloc | apply Kd.R_drewN | apply Kd.R_drew)); exact HO_3.out)) (by decide) hg); have n1_ := Aside0.mk (blk_grown (g := gb524) (o := .cells #[.int .i64 ((rd_T29 t520 x9_1).f0), .int .i64 ((rd_T29 t520 x9_1).f1)] 29 (0, 0)) (by (with_reducible repeat (first | refine blk_drewN ?_ _ | refine blk_drew ?_ | refine blk_alloc ?_ _)); exact BK524.out) hg (Kd.R_ne HO_3.out BK524.out (by decide))); have n2_ := Aside0.mk (Kd.R_after (ok := (fun _ => True)) (by (with_reducible repeat (first | apply Kd.R_alloc | apply Kd.R_drewN | apply Kd.R_drew)); exact HO527.out) hg hat); have n3_ := Aside0.mk (hb); have n4_ := Aside0.mk (ho); clear HO_7; clear BK524; clear HO527; clear HB; clear HO_3; have HO_7 := n0_; have BK524 := n1_; have HO527 := n2_; have HB := n3_; have HO530 := n4_; clear n0_ n1_ n2_ n3_ n4_; clear ho hb hg hat))
       go_roundg k1
       case measure => have := HK1.out; omega
       case rel => exact ⟨(y528), (wrap64 (x9_1 + 1)), (by first | rfl | (simp; done) | (simp [*]; done)), H', ⟨by have := HK1.out; omega⟩, ⟨by (with_reducible repeat (first | apply Kd.R_alloc | apply Kd.R_drewN | apply Kd.R_drew)); exact Kd.R_mono HO530.out (fun _ hk => trivial)⟩, ⟨by (with_reducible repeat (first | apply Kd.R_alloc | apply Kd.R_drewN | apply Kd.R_drew)); exact Kd.R_mono HO_7.out (fun _ hk => trivial)⟩, ⟨by repeat (first | (with_reducible first | exact HB.out | apply below_alloc | apply pw_below_drewN | apply below_drew1 | refine below_set ?_ GE524.out) | exact HB.out)⟩⟩
      ·rw [if_neg c8] at H
       exact absurd H (by simp)
     ·rw [if_neg c7] at H
      exact absurd H (by simp)
    ·rw [if_neg c6] at H
     exact absurd H (by simp)
   ·rw [if_neg c5] at H
    have c5b0 : decide (x9_1 < (t520.length : Int)) = false := decide_eq_false c5
    clear c5
    replace H := Option.bind_eq_some_iff.mp H
    obtain ⟨t531, A150, H⟩ := H
    replace H : ((slices_Compact_int_int.f t531).bind fun t532 => (some t532)) = some r := H
    have A15 := Aside0.mk A150
    clear A150
    replace H := Option.bind_eq_some_iff.mp H
    obtain ⟨t532, A160, H⟩ := H
    replace H : (some t532) = some r := H
    have A16 := Aside0.mk A160
    clear A160
    obtain rfl := Option.some.inj H
    obtain ⟨Ao17, co17, eo17⟩ := Kd.R_slice HO_3.out
    subst eo17
    go_wp2_with (first | ((with_reducible refine gate_callee (f := 67) rfl ?_); refine goesL_ (some 22) rfl rfl Try.func67 (by kernel_rfl) rfl #[.slice Ao17 x3_1.length co17] rfl (by (try simp only [List.map_toArray, List.map_cons, List.map_nil]); first | done | rfl | (simp only [List.length_drop, List.length_take]; rfl)) ?_; (with_reducible refine (slices_Sort_int_int.calls (fun k_ => some k_ = (.slice Ao17 x3_1.length co17 : Value).ownBlock) (.slice Ao17 x3_1.length co17) x3_1 t531 w _ ?side1 ?side2 A15.out).mono ?_); (case side1 => repeat (first | (with_reducible first | exact HB.out | apply below_alloc | apply pw_below_drewN | apply below_drew1) | exact HB.out)); (case side2 => exact Kd.R_tight rfl HO_3.out); rintro e w18 ⟨rfl, hy0, hb, hkp⟩; refine ⟨_, rfl, ?_⟩; have n0_ := Aside0.mk (Kd.R_reok rfl hy0 (fun k_ e_ => HO_3.out.1 k_ e_)); have n1_ := Aside0.mk (Kd.R_mono (ok' := fun k_ => True) (Kd.R_keptB ((Kd.R_apart' HO_7.out (Kd.R_typed HO_3.out) (by decide))) hkp (fun k_ hk_ hs_ => (hk_.2) hs_)) (fun k_ hk_ => trivial)); have n2_ := Aside0.mk (hb); clear HO_3; clear HO_7; clear HB; have HO_3 := n0_; have HO_7 := n1_; have HB := n2_; clear n0_ n1_ n2_; (try clear hb); (try clear hkp); (try clear hy0)) | ((with_reducible refine gate_callee (f := 68) rfl ?_); refine goesL_ (some 24) rfl rfl Try.func68 (by kernel_rfl) rfl #[.slice Ao17 x3_1.length co17] rfl (by (try simp only [List.map_toArray, List.map_cons, List.map_nil]); first | done | rfl | (simp only [List.length_drop, List.length_take]; rfl)) ?_; (with_reducible refine (slices_Compact_int_int.calls (fun k_ => some k_ = (.slice Ao17 x3_1.length co17 : Value).ownBlock) (.slice Ao17 x3_1.length co17) t531 t532 w _ ?side1 ?side2 A16.out).mono ?_); (case side1 => repeat (first | (with_reducible first | exact HB.out | apply below_alloc | apply pw_below_drewN | apply below_drew1) | exact HB.out)); (case side2 => exact Kd.R_tight rfl HO_3.out); rintro e w19 ⟨v533, rfl, ho0, hb, hkp⟩; refine ⟨_, rfl, ?_⟩; have n0_ := Aside0.mk (Kd.R_mono (ok' := fun k_ => True) (Kd.R_keptB ((Kd.R_apart' HO_7.out (Kd.R_typed HO_3.out) (by decide))) hkp (fun k_ hk_ hs_ => (hk_.2) hs_)) (fun k_ hk_ => trivial)); have n1_ := Aside0.mk (Kd.R_mono (ok' := fun k_ => True) ho0 (fun k_ hk_ => trivial)); have n2_ := Aside0.mk (hb); clear HO_7; clear HB; clear HO_3; have HO_7 := n0_; have HO534 := n1_; have HB := n2_; clear n0_ n1_ n2_; (try clear hb); (try clear hkp); (try clear ho0)))
    go_ret
    exact ⟨_, by first | rfl | (simp [errW_none, errW_some] <;> rfl) | (simp [*, errW_none, errW_some] <;> rfl), by (with_reducible repeat (first | apply Kd.R_alloc | apply Kd.R_drewN | apply Kd.R_drew)); exact HO534.out, by repeat (first | (with_reducible first | exact HB.out | apply below_alloc | apply pw_below_drewN | apply below_drew1) | exact HB.out)⟩

end Go.Proofs.Ytlfilhplklifjaa.X

namespace Go.Proofs.Ytlfilhplklifjaa.X
open Go.RowKit Go.Proofs.YtlfilhplklifjaaW.PrintWords Go.Proofs.YtlfilhplklifjaaW.PrintLast Go.Proofs.YtlfilhplklifjaaW.PrintMore
attribute [local go_sem] max2_int min2_int max_two min_two max_three min_three max_four min_four   -- for this text's walks alone
set_option linter.unusedVariables false
set_option linter.unusedSimpArgs false

/-! ### interval_Honest: function 42 -/
def interval_Honest.f (k : Nat) (l0 : List (S29)) (a1 : Int) : Option (Int × Int × Bool) := (interval_valid.f k l0).bind fun t536 => (if a1 < 0 then (some (0, 0, false)) else (if a1 ≥ (t536.length : Int) then (some (0, 0, false)) else ((interval_Hull.f k l0 (wrap64 ((t536.length : Int) - a1))).bind fun bt539 => (some (bt539.1, bt539.2.1, bt539.2.2)))))
theorem interval_Honest.mono : ∀ a0 a1 k, LeO (interval_Honest.f k a0 a1) (interval_Honest.f (k + 1) a0 a1) := by
 intro a0 a1 k
 unfold interval_Honest.f
 repeat' first
   | (with_reducible exact interval_Hull.mono _ _ _)
   | (with_reducible exact interval_valid.mono _ _)
   | (with_reducible exact LeO.refl _)
   | (with_reducible exact LeO.none _)
   | (with_reducible refine LeO.ite ?_ ?_)
   | (with_reducible refine LeO.bind ?_ (fun _ => ?_))
   | exact interval_Hull.mono _ _ _
   | exact interval_valid.mono _ _
   | exact LeO.none _
   | refine LeO.ite ?_ ?_
   | refine LeO.bind ?_ (fun _ => ?_)
set_option maxHeartbeats 8000000 in
set_option maxRecDepth 100000 in
theorem interval_Honest.calls (k : Nat) (A0 : Option Addr) (c0 : Nat) (l0 : List (S29)) (a1 : Int) (r1 : Int) (r2 : Int) (r3 : Bool) (w : World) (hr0 : Kd.C k29 w A0 l0.length l0) (hc0 : l0.length ≤ c0) (h : interval_Honest.f k l0 a1 = some (r1, r2, r3)) :
  Calls Try.prog 42 #[.slice A0 l0.length c0, .int .i64 a1] w fun e w' => e = .returned (.tuple #[.agg #[.int .i64 r1, .int .i64 r2], .bool r3]) ∧ Below w.heap.size w w' := by
 have hu29 := Try.underlying29
 have HR0 := Aside0.mk hr0
 have HC0 := Aside0.mk hc0
 clear hr0 hc0
 have HB := Aside0.mk (Below.refl w.heap.size w)
 have H : ((interval_valid.f k l0).bind fun t536 => (if a1 < 0 then (some (0, 0, false)) else (if a1 ≥ (t536.length : Int) then (some (0, 0, false)) else ((interval_Hull.f k l0 (wrap64 ((t536.length : Int) - a1))).bind fun bt539 => (some (bt539.1, bt539.2.1, bt539.2.2)))))) = some (r1, r2, r3) := h
 clear h
 replace H := Option.bind_eq_some_iff.mp H
 obtain ⟨t536, A30, H⟩ := H
 replace H : (if a1 < 0 then (some (0, 0, false)) else (if a1 ≥ (t536.length : Int) then (some (0, 0, false)) else ((interval_Hull.f k l0 (wrap64 ((t536.length : Int) - a1))).bind fun bt539 => (some (bt539.1, bt539.2.1, bt539.2.2))))) = some (r1, r2, r3) := H
 have A3 := Aside0.mk A30
 clear A30
 by_cases c4 : a1 < 0
 ·rw [if_pos c4] at H
  have c4b0 : decide (a1 < 0) = true := decide_eq_true c4
  clear c4
  simp only [Option.some.injEq, Prod.mk.injEq] at H
  obtain ⟨rfl, rfl, rfl⟩ := H
  go_enter Try.func42, Try.ntmps42
  go_wp2_with (first | ((with_reducible refine gate_dst (N := 4) rfl ?_); refine box_event ?hg (N := 4) ?hd (cs := #[.int .i64 0, .int .i64 0]) (t := 29) ?hr ?_; (case hd => rfl); (case hg => rfl); (case hr => first | (go_simp; done) | (go_simp; rfl)); intro gb535 hg w5 hbox hb; have n0_ := Aside0.mk (below_step (by repeat (first | (with_reducible first | exact HB.out | apply below_alloc | apply pw_below_drewN | apply below_drew1) | exact HB.out)) hb); have n1_ := Aside0.mk (hbox); have n2_ := Aside0.mk ((by rw [hg]; exact (below_size (by repeat (first | (with_reducible first | exact HB.out | apply below_alloc | apply pw_below_drewN | apply below_drew1) | exact HB.out))) : w.heap.size ≤ gb535)); have n3_ := Aside0.mk ((by rw [hg]; exact (below_size (by repeat (first | (with_reducible first | exact HB.out | apply below_alloc | apply pw_below_drewN | apply below_drew1) | exact HB.out))) : w.heap.size ≤ gb535)); clear HB; have HB := n0_; have BK535 := n1_; have GW535 := n2_; have GE535 := n3_; clear n0_ n1_ n2_ n3_; clear hb hbox hg) | ((with_reducible refine gate_callee (f := 66) rfl ?_); refine goesL_ (some 8) rfl rfl Try.func66 (by kernel_rfl) rfl #[.slice A0 l0.length c0] rfl (by (try simp only [List.map_toArray, List.map_cons, List.map_nil]); first | done | rfl | (simp only [List.length_drop, List.length_take]; rfl)) ?_; (with_reducible refine (interval_valid.calls k _ _ l0 t536 _ ?side1 ?side2 A3.out).mono ?_); (case side1 => repeat (first | exact (Kd.C_below HR0.out HB.out) | (with_reducible refine Kd.C_alloc ?_ _) | (with_reducible refine Kd.C_drewN ?_ _) | (with_reducible refine Kd.C_drew ?_))); (case side2 => exact HC0.out); rintro e w6 ⟨v537, rfl, ho0, hb⟩; refine ⟨_, rfl, ?_⟩; have n0_ := Aside0.mk (Kd.R_lower (Kd.R_newB ho0 (g := gb535) (o := .cells #[.int .i64 0, .int .i64 0] 29 (0, 0)) (by (with_reducible repeat (first | refine blk_drewN ?_ _ | refine blk_drew ?_ | refine blk_alloc ?_ _)); exact BK535.out)) (below_size (by repeat (first | (with_reducible first | exact HB.out | apply below_alloc | apply pw_below_drewN | apply below_drew1 | refine below_set ?_ GE535.out) | exact HB.out)))); have n1_ := Aside0.mk (blk_below (g := gb535) (o := .cells #[.int .i64 0, .int .i64 0] 29 (0, 0)) (by (with_reducible repeat (first | refine blk_drewN ?_ _ | refine blk_drew ?_ | refine blk_alloc ?_ _)); exact BK535.out) hb); have n2_ := Aside0.mk (below_step (by repeat (first | (with_reducible first | exact HB.out | apply below_alloc | apply pw_below_drewN | apply below_drew1 | refine below_set ?_ GE535.out) | exact HB.out)) hb); clear BK535; clear HB; have HO538 := n0_; have BK535 := n1_; have HB := n2_; clear n0_ n1_ n2_; (try clear hb); (try clear hb2); (try clear hk); (try clear hi); (try clear ho0); obtain ⟨Ao7, co7, eo7⟩ := Kd.R_slice HO538.out; subst eo7; have hcz8_0 : w6.cell? ⟨gb535, 0, none⟩ = some (.int .i64 0) := (blk_cell BK535.out 0).trans rfl; have hcz8_1 : w6.cell? ⟨gb535, 1, none⟩ = some (.int .i64 0) := (blk_cell BK535.out 1).trans rfl; have hfz8_0 := blk_frozen BK535.out 0; have hfz8_1 := blk_frozen BK535.out 1))
  refine bodyPost_ret (results_ct rfl _ _ gb535 29 #[.int .i64 0, .int .i64 0] (0, 0) _ rfl (by (with_reducible repeat (first | refine blk_drewN ?_ _ | refine blk_drew ?_ | refine blk_alloc ?_ _)); refine blk_put (cs := #[.int .i64 0, .int .i64 0]) ?_ 1 _ rfl; (with_reducible repeat (first | refine blk_drewN ?_ _ | refine blk_drew ?_ | refine blk_alloc ?_ _)); refine blk_put (cs := #[.int .i64 0, .int .i64 0]) ?_ 0 _ rfl; (with_reducible repeat (first | refine blk_drewN ?_ _ | refine blk_drew ?_ | refine blk_alloc ?_ _)); exact BK535.out) Try.underlying29 rfl (by kernel_rfl)) rfl ?_
  exact ⟨by first | rfl | (simp [errW_none, errW_some] <;> rfl) | (simp [*, errW_none, errW_some] <;> rfl), by repeat (first | (with_reducible first | exact HB.out | apply below_alloc | apply pw_below_drewN | apply below_drew1 | refine below_set ?_ GE535.out) | exact HB.out)⟩
 ·rw [if_neg c4] at H
  have c4b0 : decide (a1 < 0) = false := decide_eq_false c4
  clear c4
  by_cases c9 : a1 ≥ (t536.length : Int)
  ·rw [if_pos c9] at H
   have c9b0 : decide ((t536.length : Int) ≤ a1) = true := decide_eq_true c9
   clear c9
   simp only [Option.some.injEq, Prod.mk.injEq] at H
   obtain ⟨rfl, rfl, rfl⟩ := H
   go_enter Try.func42, Try.ntmps42
   go_wp2_with (first | ((with_reducible refine gate_dst (N := 4) rfl ?_); refine box_event ?hg (N := 4) ?hd (cs := #[.int .i64 0, .int .i64 0]) (t := 29) ?hr ?_; (case hd => rfl); (case hg => rfl); (case hr => first | (go_simp; done) | (go_simp; rfl)); intro gb535 hg w10 hbox hb; have n0_ := Aside0.mk (below_step (by repeat (first | (with_reducible first | exact HB.out | apply below_alloc | apply pw_below_drewN | apply below_drew1) | exact HB.out)) hb); have n1_ := Aside0.mk (hbox); have n2_ := Aside0.mk ((by rw [hg]; exact (below_size (by repeat (first | (with_reducible first | exact HB.out | apply below_alloc | apply pw_below_drewN | apply below_drew1) | exact HB.out))) : w.heap.size ≤ gb535)); have n3_ := Aside0.mk ((by rw [hg]; exact (below_size (by repeat (first | (with_reducible first | exact HB.out | apply below_alloc | apply pw_below_drewN | apply below_drew1) | exact HB.out))) : w.heap.size ≤ gb535)); clear HB; have HB := n0_; have BK535 := n1_; have GW535 := n2_; have GE535 := n3_; clear n0_ n1_ n2_ n3_; clear hb hbox hg) | ((with_reducible refine gate_callee (f := 66) rfl ?_); refine goesL_ (some 8) rfl rfl Try.func66 (by kernel_rfl) rfl #[.slice A0 l0.length c0] rfl (by (try simp only [List.map_toArray, List.map_cons, List.map_nil]); first | done | rfl | (simp only [List.length_drop, List.length_take]; rfl)) ?_; (with_reducible refine (interval_valid.calls k _ _ l0 t536 _ ?side1 ?side2 A3.out).mono ?_); (case side1 => repeat (first | exact (Kd.C_below HR0.out HB.out) | (with_reducible refine Kd.C_alloc ?_ _) | (with_reducible refine Kd.C_drewN ?_ _) | (with_reducible refine Kd.C_drew ?_))); (case side2 => exact HC0.out); rintro e w11 ⟨v537, rfl, ho0, hb⟩; refine ⟨_, rfl, ?_⟩; have n0_ := Aside0.mk (Kd.R_lower (Kd.R_newB ho0 (g := gb535) (o := .cells #[.int .i64 0, .int .i64 0] 29 (0, 0)) (by (with_reducible repeat (first | refine blk_drewN ?_ _ | refine blk_drew ?_ | refine blk_alloc ?_ _)); exact BK535.out)) (below_size (by repeat (first | (with_reducible first | exact HB.out | apply below_alloc | apply pw_below_drewN | apply below_drew1 | refine below_set ?_ GE535.out) | exact HB.out)))); have n1_ := Aside0.mk (blk_below (g := gb535) (o := .cells #[.int .i64 0, .int .i64 0] 29 (0, 0)) (by (with_reducible repeat (first | refine blk_drewN ?_ _ | refine blk_drew ?_ | refine blk_alloc ?_ _)); exact BK535.out) hb); have n2_ := Aside0.mk (below_step (by repeat (first | (with_reducible first | exact HB.out | apply below_alloc | apply pw_below_drewN | apply below_drew1 | refine below_set ?_ GE535.out) | exact HB.out)) hb); clear BK535; clear HB; have HO538 := n0_; have BK535 := n1_; have HB := n2_; clear n0_ n1_ n2_; (try clear hb); (try clear hb2); (try clear hk); (try clear hi); (try clear ho0); obtain ⟨Ao12, co12, eo12⟩ := Kd.R_slice HO538.out; subst eo12; have hcz13_0 : w11.cell? ⟨gb535, 0, none⟩ = some (.int .i64 0) := (blk_cell BK535.out 0).trans rfl; have hcz13_1 : w11.cell? ⟨gb535, 1, none⟩ = some (.int .i64 0) := (blk_cell BK535.out 1).trans rfl; have hfz13_0 := blk_frozen BK535.out 0; have hfz13_1 := blk_frozen BK535.out 1))
   refine bodyPost_ret (results_ct rfl _ _ gb535 29 #[.int .i64 0, .int .i64 0] (0, 0) _ rfl (by (with_reducible repeat (first | refine blk_drewN ?_ _ | refine blk_drew ?_ | refine blk_alloc ?_ _)); refine blk_put (cs := #[.int .i64 0, .int .i64 0]) ?_ 1 _ rfl; (with_reducible repeat (first | refine blk_drewN ?_ _ | refine blk_drew ?_ | refine blk_alloc ?_ _)); refine blk_put (cs := #[.int .i64 0, .int .i64 0]) ?_ 0 _ rfl; (with_reducible repeat (first | refine blk_drewN ?_ _ | refine blk_drew ?_ | refine blk_alloc ?_ _)); exact BK535.out) Try.underlying29 rfl (by kernel_rfl)) rfl ?_
   exact ⟨by first | rfl | (simp [errW_none, errW_some] <;> rfl) | (simp [*, errW_none, errW_some] <;> rfl), by repeat (first | (with_reducible first | exact HB.out | apply below_alloc | apply pw_below_drewN | apply below_drew1 | refine below_set ?_ GE535.out) | exact HB.out)⟩
  ·rw [if_neg c9] at H
   have c9b0 : decide ((t536.length : Int) ≤ a1) = false := decide_eq_false c9
   clear c9
   replace H := Option.bind_eq_some_iff.mp H
   obtain ⟨⟨t539, t540, t541⟩, A140, H⟩ := H
   replace H : (some (t539, t540, t541)) = some (r1, r2, r3) := H
   have A14 := Aside0.mk A140
   clear A140
   simp only [Option.some.injEq, Prod.mk.injEq] at H
   obtain ⟨rfl, rfl, rfl⟩ := H
   go_enter Try.func42, Try.ntmps42
   go_wp2_with (first | ((with_reducible refine gate_dst (N := 4) rfl ?_); refine box_event ?hg (N := 4) ?hd (cs := #[.int .i64 0, .int .i64 0]) (t := 29) ?hr ?_; (case hd => rfl); (case hg => rfl); (case hr => first | (go_simp; done) | (go_simp; rfl)); intro gb535 hg w15 hbox hb; have n0_ := Aside0.mk (below_step (by repeat (first | (with_reducible first | exact HB.out | apply below_alloc | apply pw_below_drewN | apply below_drew1) | exact HB.out)) hb); have n1_ := Aside0.mk (hbox); have n2_ := Aside0.mk ((by rw [hg]; exact (below_size (by repeat (first | (with_reducible first | exact HB.out | apply below_alloc | apply pw_below_drewN | apply below_drew1) | exact HB.out))) : w.heap.size ≤ gb535)); have n3_ := Aside0.mk ((by rw [hg]; exact (below_size (by repeat (first | (with_reducible first | exact HB.out | apply below_alloc | apply pw_below_drewN | apply below_drew1) | exact HB.out))) : w.heap.size ≤ gb535)); clear HB; have HB := n0_; have BK535 := n1_; have GW535 := n2_; have GE535 := n3_; clear n0_ n1_ n2_ n3_; clear hb hbox hg) | ((with_reducible refine gate_callee (f := 66) rfl ?_); refine goesL_ (some 8) rfl rfl Try.func66 (by kernel_rfl) rfl #[.slice A0 l0.length c0] rfl (by (try simp only [List.map_toArray, List.map_cons, List.map_nil]); first | done | rfl | (simp only [List.length_drop, List.length_take]; rfl)) ?_; (with_reducible refine (interval_valid.calls k _ _ l0 t536 _ ?side1 ?side2 A3.out).mono ?_); (case side1 => repeat (first | exact (Kd.C_below HR0.out HB.out) | (with_reducible refine Kd.C_alloc ?_ _) | (with_reducible refine Kd.C_drewN ?_ _) | (with_reducible refine Kd.C_drew ?_))); (case side2 => exact HC0.out); rintro e w16 ⟨v537, rfl, ho0, hb⟩; refine ⟨_, rfl, ?_⟩; have n0_ := Aside0.mk (Kd.R_lower (Kd.R_newB ho0 (g := gb535) (o := .cells #[.int .i64 0, .int .i64 0] 29 (0, 0)) (by (with_reducible repeat (first | refine blk_drewN ?_ _ | refine blk_drew ?_ | refine blk_alloc ?_ _)); exact BK535.out)) (below_size (by repeat (first | (with_reducible first | exact HB.out | apply below_alloc | apply pw_below_drewN | apply below_drew1 | refine below_set ?_ GE535.out) | exact HB.out)))); have n1_ := Aside0.mk (blk_below (g := gb535) (o := .cells #[.int .i64 0, .int .i64 0] 29 (0, 0)) (by (with_reducible repeat (first | refine blk_drewN ?_ _ | refine blk_drew ?_ | refine blk_alloc ?_ _)); exact BK535.out) hb); have n2_ := Aside0.mk (below_step (by repeat (first | (with_reducible first | exact HB.out | apply below_alloc | apply pw_below_drewN | apply below_drew1 | refine below_set ?_ GE535.out) | exact HB.out)) hb); clear BK535; clear HB; have HO538 := n0_; have BK535 := n1_; have HB := n2_; clear n0_ n1_ n2_; (try clear hb); (try clear hb2); (try clear hk); (try clear hi); (try clear ho0); obtain ⟨Ao17, co17, eo17⟩ := Kd.R_slice HO538.out; subst eo17) | ((with_reducible refine gate_callee (f := 39) rfl ?_); refine goesL_ (some 22) rfl rfl Try.func39 (by kernel_rfl) rfl #[.slice A0 l0.length c0, .int .i64 (wrap64 ((t536.length : Int) - a1))] rfl (by (try simp only [List.map_toArray, List.map_cons, List.map_nil]); first | done | rfl | (simp only [List.length_drop, List.length_take]; rfl)) ?_; (with_reducible refine (interval_Hull.calls k _ _ l0 (wrap64 ((t536.length : Int) - a1)) t539 t540 t541 _ ?side1 ?side2 A14.out).mono ?_); (case side1 => repeat (first | exact (Kd.C_below HR0.out HB.out) | (with_reducible refine Kd.C_alloc ?_ _) | (with_reducible refine Kd.C_drewN ?_ _) | (with_reducible refine Kd.C_drew ?_))); (case side2 => exact HC0.out); rintro e w18 ⟨rfl, hb⟩; refine ⟨_, rfl, ?_⟩; have n0_ := Aside0.mk (Kd.R_below (by (with_reducible repeat (first | apply Kd.R_alloc | apply Kd.R_drewN | apply Kd.R_drew)); exact HO538.out) hb); have n1_ := Aside0.mk (blk_below (g := gb535) (o := .cells #[.int .i64 0, .int .i64 0] 29 (0, 0)) (by (with_reducible repeat (first | refine blk_drewN ?_ _ | refine blk_drew ?_ | refine blk_alloc ?_ _)); exact BK535.out) hb); have n2_ := Aside0.mk (below_step (by repeat (first | (with_reducible first | exact HB.out | apply below_alloc | apply pw_below_drewN | apply below_drew1 | refine below_set ?_ GE535.out) | exact HB.out)) hb); clear HO538; clear BK535; clear HB; have HO538 := n0_; have BK535 := n1_; have HB := n2_; clear n0_ n1_ n2_; (try clear hb); (try clear hb2); (try clear hk); (try clear hi); have hcz19_0 : w18.cell? ⟨gb535, 0, none⟩ = some (.int .i64 0) := (blk_cell BK535.out 0).trans rfl; have hcz19_1 : w18.cell? ⟨gb535, 1, none⟩ = some (.int .i64 0) := (blk_cell BK535.out 1).trans rfl; have hfz19_0 := blk_frozen BK535.out 0; have hfz19_1 := blk_frozen BK535.out 1))
   refine bodyPost_ret (results_ct rfl _ _ gb535 29 #[.int .i64 t539, .int .i64 t540] (0, 0) _ rfl (by (with_reducible repeat (first | refine blk_drewN ?_ _ | refine blk_drew ?_ | refine blk_alloc ?_ _)); refine blk_put (cs := #[.int .i64 t539, .int .i64 0]) ?_ 1 _ rfl; (with_reducible repeat (first | refine blk_drewN ?_ _ | refine blk_drew ?_ | refine blk_alloc ?_ _)); refine blk_put (cs := #[.int .i64 0, .int .i64 0]) ?_ 0 _ rfl; (with_reducible repeat (first | refine blk_drewN ?_ _ | refine blk_drew ?_ | refine blk_alloc ?_ _)); exact BK535.out) Try.underlying29 rfl (by kernel_rfl)) rfl ?_
   exact ⟨by first | rfl | (simp [errW_none, errW_some] <;> rfl) | (simp [*, errW_none, errW_some] <;> rfl), by repeat (first | (with_reducible first | exact HB.out | apply below_alloc | apply pw_below_drewN | apply below_drew1 | refine below_set ?_ GE535.out) | exact HB.out)⟩

end Go.Proofs.Ytlfilhplklifjaa.X

namespace Go.Proofs.Ytlfilhplklifjaa.X
open Go.RowKit Go.Proofs.YtlfilhplklifjaaW.PrintWords Go.Proofs.YtlfilhplklifjaaW.PrintLast Go.Proofs.YtlfilhplklifjaaW.PrintMore
attribute [local go_sem] max2_int min2_int max_two min_two max_three min_three max_four min_four   -- for this text's walks alone
set_option linter.unusedVariables false
set_option linter.unusedSimpArgs false

/-! ### interval_Faulty: function 61 -/
def interval_Faulty.f (k : Nat) (l0 : List (S29)) : Option (Int) := (interval_Best.f k l0).bind fun bt542 => ((interval_valid.f k l0).bind fun t546 => (some (wrap64 ((t546.length : Int) - bt542.2.2))))
theorem interval_Faulty.mono : ∀ a0 k, LeO (interval_Faulty.f k a0) (interval_Faulty.f (k + 1) a0) := by
 intro a0 k
 unfold interval_Faulty.f
 repeat' first
   | (with_reducible exact interval_Best.mono _ _)
   | (with_reducible exact interval_valid.mono _ _)
   | (with_reducible exact LeO.refl _)
   | (with_reducible exact LeO.none _)
   | (with_reducible refine LeO.ite ?_ ?_)
   | (with_reducible refine LeO.bind ?_ (fun _ => ?_))
   | exact interval_Best.mono _ _
   | exact interval_valid.mono _ _
   | exact LeO.none _
   | refine LeO.ite ?_ ?_
   | refine LeO.bind ?_ (fun _ => ?_)
set_option maxHeartbeats 8000000 in
set_option maxRecDepth 100000 in
theorem interval_Faulty.calls (k : Nat) (A0 : Option Addr) (c0 : Nat) (l0 : List (S29)) (r : Int) (w : World) (hr0 : Kd.C k29 w A0 l0.length l0) (hc0 : l0.length ≤ c0) (h : interval_Faulty.f k l0 = some r) :
  Calls Try.prog 61 #[.slice A0 l0.length c0] w fun e w' => e = .returned (.int .i64 r) ∧ Below w.heap.size w w' := by
 have hu29 := Try.underlying29
 have HR0 := Aside0.mk hr0
 have HC0 := Aside0.mk hc0
 clear hr0 hc0
 have HB := Aside0.mk (Below.refl w.heap.size w)
 have H : ((interval_Best.f k l0).bind fun bt542 => ((interval_valid.f k l0).bind fun t546 => (some (wrap64 ((t546.length : Int) - bt542.2.2))))) = some r := h
 clear h
 replace H := Option.bind_eq_some_iff.mp H
 obtain ⟨⟨t542, t543, t544⟩, A20, H⟩ := H
 replace H : ((interval_valid.f k l0).bind fun t546 => (some (wrap64 ((t546.length : Int) - t544)))) = some r := H
 have A2 := Aside0.mk A20
 clear A20
 replace H := Option.bind_eq_some_iff.mp H
 obtain ⟨t546, A30, H⟩ := H
 replace H : (some (wrap64 ((t546.length : Int) - t544))) = some r := H
 have A3 := Aside0.mk A30
 clear A30
 obtain rfl := Option.some.inj H
 go_enter Try.func61, Try.ntmps61
 go_wp2_with (first | ((with_reducible refine gate_callee (f := 38) rfl ?_); refine goesL_ (some 7) rfl rfl Try.func38 (by kernel_rfl) rfl #[.slice A0 l0.length c0] rfl (by (try simp only [List.map_toArray, List.map_cons, List.map_nil]); first | done | rfl | (simp only [List.length_drop, List.length_take]; rfl)) ?_; (with_reducible refine (interval_Best.calls k _ _ l0 t542 t543 t544 _ ?side1 ?side2 A2.out).mono ?_); (case side1 => repeat (first | exact HR0.out | (with_reducible refine Kd.C_alloc ?_ _) | (with_reducible refine Kd.C_drewN ?_ _) | (with_reducible refine Kd.C_drew ?_))); (case side2 => exact HC0.out); rintro e w4 ⟨rfl, hb⟩; refine ⟨_, rfl, ?_⟩; have n0_ := Aside0.mk (below_step (by repeat (first | (with_reducible first | exact HB.out | apply below_alloc | apply pw_below_drewN | apply below_drew1) | exact HB.out)) hb); clear HB; have HB := n0_; clear n0_; (try clear hb); (try clear hb2); (try clear hk); (try clear hi)) | ((with_reducible refine gate_dst (N := 3) rfl ?_); refine box_event ?hg (N := 3) ?hd (cs := #[.int .i64 0, .int .i64 0]) (t := 29) ?hr ?_; (case hd => rfl); (case hg => rfl); (case hr => first | (go_simp; done) | (go_simp; rfl)); intro gb545 hg w5 hbox hb; have n0_ := Aside0.mk (below_step (by repeat (first | (with_reducible first | exact HB.out | apply below_alloc | apply pw_below_drewN | apply below_drew1) | exact HB.out)) hb); have n1_ := Aside0.mk (hbox); have n2_ := Aside0.mk ((by rw [hg]; exact (below_size (by repeat (first | (with_reducible first | exact HB.out | apply below_alloc | apply pw_below_drewN | apply below_drew1) | exact HB.out))) : w.heap.size ≤ gb545)); have n3_ := Aside0.mk ((by rw [hg]; exact (below_size (by repeat (first | (with_reducible first | exact HB.out | apply below_alloc | apply pw_below_drewN | apply below_drew1) | exact HB.out))) : w.heap.size ≤ gb545)); clear HB; have HB := n0_; have BK545 := n1_; have GW545 := n2_; have GE545 := n3_; clear n0_ n1_ n2_ n3_; clear hb hbox hg; have hcz6_0 : w5.cell? ⟨gb545, 0, none⟩ = some (.int .i64 0) := (blk_cell BK545.out 0).trans rfl; have hcz6_1 : w5.cell? ⟨gb545, 1, none⟩ = some (.int .i64 0) := (blk_cell BK545.out 1).trans rfl; have hfz6_0 := blk_frozen BK545.out 0; have hfz6_1 := blk_frozen BK545.out 1) | ((with_reducible refine gate_callee (f := 66) rfl ?_); refine goesL_ (some 11) rfl rfl Try.func66 (by kernel_rfl) rfl #[.slice A0 l0.length c0] rfl (by (try simp only [List.map_toArray, List.map_cons, List.map_nil]); first | done | rfl | (simp only [List.length_drop, List.length_take]; rfl)) ?_; (with_reducible refine (interval_valid.calls k _ _ l0 t546 _ ?side1 ?side2 A3.out).mono ?_); (case side1 => exact Kd.C_below HR0.out (by repeat (first | (with_reducible first | exact HB.out | apply below_alloc | apply pw_below_drewN | apply below_drew1 | refine below_set ?_ GE545.out) | exact HB.out))); (case side2 => exact HC0.out); rintro e w7 ⟨v547, rfl, ho0, hb⟩; refine ⟨_, rfl, ?_⟩; have n0_ := Aside0.mk (Kd.R_lower (Kd.R_newB ho0 (g := gb545) (o := .cells #[.int .i64 t542, .int .i64 t543] 29 (0, 0)) (by (with_reducible repeat (first | refine blk_drewN ?_ _ | refine blk_drew ?_ | refine blk_alloc ?_ _)); refine blk_put (cs := #[.int .i64 t542, .int .i64 0]) ?_ 1 _ rfl; (with_reducible repeat (first | refine blk_drewN ?_ _ | refine blk_drew ?_ | refine blk_alloc ?_ _)); refine blk_put (cs := #[.int .i64 0, .int .i64 0]) ?_ 0 _ rfl; (with_reducible repeat (first | refine blk_drewN ?_ _ | refine blk_drew ?_ | refine blk_alloc ?_ _)); exact BK545.out)) (below_size (by repeat (first | (with_reducible first | exact HB.out | apply below_alloc | apply pw_below_drewN | apply below_drew1 | refine below_set ?_ GE545.out) | exact HB.out)))); have n1_ := Aside0.mk (blk_below (g := gb545) (o := .cells #[.int .i64 t542, .int .i64 t543] 29 (0, 0)) (by (with_reducible repeat (first | refine blk_drewN ?_ _ | refine blk_drew ?_ | refine blk_alloc ?_ _)); refine blk_put (cs := #[.int .i64 t542, .int .i64 0]) ?_ 1 _ rfl; (with_reducible repeat (first | refine blk_drewN ?_ _ | refine blk_drew ?_ | refine blk_alloc ?_ _)); refine blk_put (cs := #[.int .i64 0, .int .i64 0]) ?_ 0 _ rfl; (with_reducible repeat (first | refine blk_drewN ?_ _ | refine blk_drew ?_ | refine blk_alloc ?_ _)); exact BK545.out) hb); have n2_ := Aside0.mk (below_step (by repeat (first | (with_reducible first | exact HB.out | apply below_alloc | apply pw_below_drewN | apply below_drew1 | refine below_set ?_ GE545.out) | exact HB.out)) hb); clear BK545; clear HB; have HO548 := n0_; have BK545 := n1_; have HB := n2_; clear n0_ n1_ n2_; (try clear hb); (try clear hb2); (try clear hk); (try clear hi); (try clear ho0); obtain ⟨Ao8, co8, eo8⟩ := Kd.R_slice HO548.out; subst eo8))
 go_ret
 exact ⟨by first | rfl | (simp [errW_none, errW_some] <;> rfl) | (simp [*, errW_none, errW_some] <;> rfl), by repeat (first | (with_reducible first | exact HB.out | apply below_alloc | apply pw_below_drewN | apply below_drew1 | refine below_set ?_ GE545.out) | exact HB.out)⟩

end Go.Proofs.Ytlfilhplklifjaa.X

namespace Go.Proofs.Ytlfilhplklifjaa.X
open Go.RowKit Go.Proofs.YtlfilhplklifjaaW.PrintWords Go.Proofs.YtlfilhplklifjaaW.PrintLast Go.Proofs.YtlfilhplklifjaaW.PrintMore
attribute [local go_sem] max2_int min2_int max_two min_two max_three min_three max_four min_four   -- for this text's walks alone
set_option linter.unusedVariables false
set_option linter.unusedSimpArgs false

attribute [local go_sem high] eqA29
/-! ### timesynclaw23_awake: function 35 -/
def timesynclaw23_awake.f (k : Nat)  : Option (Bool) := (some (([(⟨1, 5⟩ : S29), (⟨4, 9⟩ : S29), (⟨4, 6⟩ : S29)] : List (S29)) : List (S29))).bind fun y549 => ((interval_Best.f k y549).bind fun bt552 => ((interval_Hull.f k y549 2).bind fun bt556 => ((interval_Best.f k (([(⟨1, 5⟩ : S29), (⟨6, 9⟩ : S29)] : List (S29)))).bind fun bt563 => ((some (([(⟨1, 2⟩ : S29), (⟨1, 3⟩ : S29), (⟨7, 8⟩ : S29)] : List (S29)) : List (S29))).bind fun y567 => ((interval_Honest.f k y567 1).bind fun bt570 => (if (bt552.1 == 4 && (bt552.2.1 == 5)) = true then (if bt552.2.2 = 3 then (if (bt556.1 == 4 && (bt556.2.1 == 6)) = true then (if bt556.2.2 = true then ((interval_Edges.f k y549).bind fun t574 => ((slices_Equal_int_int.f k t574 (([1, 4, 5, 6, 9] : List Int))).bind fun t580 => (if t580 = true then (if (bt563.1 == 1 && (bt563.2.1 == 9)) = true then (if bt563.2.2 = 1 then ((interval_Faulty.f k y567).bind fun t581 => (if t581 = 1 then (if (bt570.1 == 1 && (bt570.2.1 == 2)) = true then (some bt570.2.2) else (none)) else (none))) else (none)) else (none)) else (none)))) else (none)) else (none)) else (none)) else (none)))))))
set_option maxHeartbeats 8000000 in
set_option maxRecDepth 100000 in
theorem timesynclaw23_awake.calls (k : Nat)  (r : Bool) (w : World) (h : timesynclaw23_awake.f k  = some r) :
  Calls Try.prog 35 #[] w fun e w' => e = .returned (.bool r) ∧ Below w.heap.size w w' := by
 have hu29 := Try.underlying29
 have HB := Aside0.mk (Below.refl w.heap.size w)
 have H : ((some (([(⟨1, 5⟩ : S29), (⟨4, 9⟩ : S29), (⟨4, 6⟩ : S29)] : List (S29)) : List (S29))).bind fun y549 => ((interval_Best.f k y549).bind fun bt552 => ((interval_Hull.f k y549 2).bind fun bt556 => ((interval_Best.f k (([(⟨1, 5⟩ : S29), (⟨6, 9⟩ : S29)] : List (S29)))).bind fun bt563 => ((some (([(⟨1, 2⟩ : S29), (⟨1, 3⟩ : S29), (⟨7, 8⟩ : S29)] : List (S29)) : List (S29))).bind fun y567 => ((interval_Honest.f k y567 1).bind fun bt570 => (if (bt552.1 == 4 && (bt552.2.1 == 5)) = true then (if bt552.2.2 = 3 then (if (bt556.1 == 4 && (bt556.2.1 == 6)) = true then (if bt556.2.2 = true then ((interval_Edges.f k y549).bind fun t574 => ((slices_Equal_int_int.f k t574 (([1, 4, 5, 6, 9] : List Int))).bind fun t580 => (if t580 = true then (if (bt563.1 == 1 && (bt563.2.1 == 9)) = true then (if bt563.2.2 = 1 then ((interval_Faulty.f k y567).bind fun t581 => (if t581 = 1 then (if (bt570.1 == 1 && (bt570.2.1 == 2)) = true then (some bt570.2.2) else (none)) else (none))) else (none)) else (none)) else (none)))) else (none)) else (none)) else (none)) else (none)))))))) = some r := h
 clear h
 obtain ⟨y549, hy549⟩ : ∃ y_ : List (S29), y_ = (([(⟨1, 5⟩ : S29), (⟨4, 9⟩ : S29), (⟨4, 6⟩ : S29)] : List (S29))) := ⟨_, rfl⟩
 replace H : ((interval_Best.f k y549).bind fun bt552 => ((interval_Hull.f k y549 2).bind fun bt556 => ((interval_Best.f k (([(⟨1, 5⟩ : S29), (⟨6, 9⟩ : S29)] : List (S29)))).bind fun bt563 => ((some (([(⟨1, 2⟩ : S29), (⟨1, 3⟩ : S29), (⟨7, 8⟩ : S29)] : List (S29)) : List (S29))).bind fun y567 => ((interval_Honest.f k y567 1).bind fun bt570 => (if (bt552.1 == 4 && (bt552.2.1 == 5)) = true then (if bt552.2.2 = 3 then (if (bt556.1 == 4 && (bt556.2.1 == 6)) = true then (if bt556.2.2 = true then ((interval_Edges.f k y549).bind fun t574 => ((slices_Equal_int_int.f k t574 (([1, 4, 5, 6, 9] : List Int))).bind fun t580 => (if t580 = true then (if (bt563.1 == 1 && (bt563.2.1 == 9)) = true then (if bt563.2.2 = 1 then ((interval_Faulty.f k y567).bind fun t581 => (if t581 = 1 then (if (bt570.1 == 1 && (bt570.2.1 == 2)) = true then (some bt570.2.2) else (none)) else (none))) else (none)) else (none)) else (none)))) else (none)) else (none)) else (none)) else (none))))))) = some r := by first | (rw [hy549]; with_reducible exact H) | (have H2_ := (Option.bind_some _ _).symm.trans H; rw [hy549]; with_reducible exact H2_) | (have H2_ := (Option.bind_some _ _).symm.trans H; with_reducible exact H2_) | with_reducible exact H | (rw [hy549]; exact H) | exact H
 have Ny549 := Aside0.mk hy549
 clear hy549
 replace H := Option.bind_eq_some_iff.mp H
 obtain ⟨⟨t552, t553, t554⟩, A10, H⟩ := H
 replace H : ((interval_Hull.f k y549 2).bind fun bt556 => ((interval_Best.f k (([(⟨1, 5⟩ : S29), (⟨6, 9⟩ : S29)] : List (S29)))).bind fun bt563 => ((some (([(⟨1, 2⟩ : S29), (⟨1, 3⟩ : S29), (⟨7, 8⟩ : S29)] : List (S29)) : List (S29))).bind fun y567 => ((interval_Honest.f k y567 1).bind fun bt570 => (if (t552 == 4 && (t553 == 5)) = true then (if t554 = 3 then (if (bt556.1 == 4 && (bt556.2.1 == 6)) = true then (if bt556.2.2 = true then ((interval_Edges.f k y549).bind fun t574 => ((slices_Equal_int_int.f k t574 (([1, 4, 5, 6, 9] : List Int))).bind fun t580 => (if t580 = true then (if (bt563.1 == 1 && (bt563.2.1 == 9)) = true then (if bt563.2.2 = 1 then ((interval_Faulty.f k y567).bind fun t581 => (if t581 = 1 then (if (bt570.1 == 1 && (bt570.2.1 == 2)) = true then (some bt570.2.2) else (none)) else (none))) else (none)) else (none)) else (none)))) else (none)) else (none)) else (none)) else (none)))))) = some r := H
 have A1 := Aside0.mk A10
 clear A10
 replace H := Option.bind_eq_some_iff.mp H
 obtain ⟨⟨t556, t557, t558⟩, A20, H⟩ := H
 replace H : ((interval_Best.f k (([(⟨1, 5⟩ : S29), (⟨6, 9⟩ : S29)] : List (S29)))).bind fun bt563 => ((some (([(⟨1, 2⟩ : S29), (⟨1, 3⟩ : S29), (⟨7, 8⟩ : S29)] : List (S29)) : List (S29))).bind fun y567 => ((interval_Honest.f k y567 1).bind fun bt570 => (if (t552 == 4 && (t553 == 5)) = true then (if t554 = 3 then (if (t556 == 4 && (t557 == 6)) = true then (if t558 = true then ((interval_Edges.f k y549).bind fun t574 => ((slices_Equal_int_int.f k t574 (([1, 4, 5, 6, 9] : List Int))).bind fun t580 => (if t580 = true then (if (bt563.1 == 1 && (bt563.2.1 == 9)) = true then (if bt563.2.2 = 1 then ((interval_Faulty.f k y567).bind fun t581 => (if t581 = 1 then (if (bt570.1 == 1 && (bt570.2.1 == 2)) = true then (some bt570.2.2) else (none)) else (none))) else (none)) else (none)) else (none)))) else (none)) else (none)) else (none)) else (none))))) = some r := H
 have A2 := Aside0.mk A20
 clear A20
 obtain ⟨y560, hy560⟩ : ∃ y_ : List (S29), y_ = (([(⟨1, 5⟩ : S29), (⟨6, 9⟩ : S29)] : List (S29))) := ⟨_, rfl⟩
 replace H : ((interval_Best.f k y560).bind fun bt563 => ((some (([(⟨1, 2⟩ : S29), (⟨1, 3⟩ : S29), (⟨7, 8⟩ : S29)] : List (S29)) : List (S29))).bind fun y567 => ((interval_Honest.f k y567 1).bind fun bt570 => (if (t552 == 4 && (t553 == 5)) = true then (if t554 = 3 then (if (t556 == 4 && (t557 == 6)) = true then (if t558 = true then ((interval_Edges.f k y549).bind fun t574 => ((slices_Equal_int_int.f k t574 (([1, 4, 5, 6, 9] : List Int))).bind fun t580 => (if t580 = true then (if (bt563.1 == 1 && (bt563.2.1 == 9)) = true then (if bt563.2.2 = 1 then ((interval_Faulty.f k y567).bind fun t581 => (if t581 = 1 then (if (bt570.1 == 1 && (bt570.2.1 == 2)) = true then (some bt570.2.2) else (none)) else (none))) else (none)) else (none)) else (none)))) else (none)) else (none)) else (none)) else (none))))) = some r := by first | (rw [hy560]; with_reducible exact H) | (have H2_ := (Option.bind_some _ _).symm.trans H; rw [hy560]; with_reducible exact H2_) | (have H2_ := (Option.bind_some _ _).symm.trans H; with_reducible exact H2_) | with_reducible exact H | (rw [hy560]; exact H) | exact H
 have Ny560 := Aside0.mk hy560
 clear hy560
 replace H := Option.bind_eq_some_iff.mp H
 obtain ⟨⟨t563, t564, t565⟩, A30, H⟩ := H
 replace H : ((some (([(⟨1, 2⟩ : S29), (⟨1, 3⟩ : S29), (⟨7, 8⟩ : S29)] : List (S29)) : List (S29))).bind fun y567 => ((interval_Honest.f k y567 1).bind fun bt570 => (if (t552 == 4 && (t553 == 5)) = true then (if t554 = 3 then (if (t556 == 4 && (t557 == 6)) = true then (if t558 = true then ((interval_Edges.f k y549).bind fun t574 => ((slices_Equal_int_int.f k t574 (([1, 4, 5, 6, 9] : List Int))).bind fun t580 => (if t580 = true then (if (t563 == 1 && (t564 == 9)) = true then (if t565 = 1 then ((interval_Faulty.f k y567).bind fun t581 => (if t581 = 1 then (if (bt570.1 == 1 && (bt570.2.1 == 2)) = true then (some bt570.2.2) else (none)) else (none))) else (none)) else (none)) else (none)))) else (none)) else (none)) else (none)) else (none)))) = some r := H
 have A3 := Aside0.mk A30
 clear A30
 obtain ⟨y567, hy567⟩ : ∃ y_ : List (S29), y_ = (([(⟨1, 2⟩ : S29), (⟨1, 3⟩ : S29), (⟨7, 8⟩ : S29)] : List (S29))) := ⟨_, rfl⟩
 replace H : ((interval_Honest.f k y567 1).bind fun bt570 => (if (t552 == 4 && (t553 == 5)) = true then (if t554 = 3 then (if (t556 == 4 && (t557 == 6)) = true then (if t558 = true then ((interval_Edges.f k y549).bind fun t574 => ((slices_Equal_int_int.f k t574 (([1, 4, 5, 6, 9] : List Int))).bind fun t580 => (if t580 = true then (if (t563 == 1 && (t564 == 9)) = true then (if t565 = 1 then ((interval_Faulty.f k y567).bind fun t581 => (if t581 = 1 then (if (bt570.1 == 1 && (bt570.2.1 == 2)) = true then (some bt570.2.2) else (none)) else (none))) else (none)) else (none)) else (none)))) else (none)) else (none)) else (none)) else (none))) = some r := by first | (rw [hy567]; with_reducible exact H) | (have H2_ := (Option.bind_some _ _).symm.trans H; rw [hy567]; with_reducible exact H2_) | (have H2_ := (Option.bind_some _ _).symm.trans H; with_reducible exact H2_) | with_reducible exact H | (rw [hy567]; exact H) | exact H
 have Ny567 := Aside0.mk hy567
 clear hy567
 replace H := Option.bind_eq_some_iff.mp H
 obtain ⟨⟨t570, t571, t572⟩, A40, H⟩ := H
 replace H : (if (t552 == 4 && (t553 == 5)) = true then (if t554 = 3 then (if (t556 == 4 && (t557 == 6)) = true then (if t558 = true then ((interval_Edges.f k y549).bind fun t574 => ((slices_Equal_int_int.f k t574 (([1, 4, 5, 6, 9] : List Int))).bind fun t580 => (if t580 = true then (if (t563 == 1 && (t564 == 9)) = true then (if t565 = 1 then ((interval_Faulty.f k y567).bind fun t581 => (if t581 = 1 then (if (t570 == 1 && (t571 == 2)) = true then (some t572) else (none)) else (none))) else (none)) else (none)) else (none)))) else (none)) else (none)) else (none)) else (none)) = some r := H
 have A4 := Aside0.mk A40
 clear A40
 by_cases c5 : (t552 == 4 && (t553 == 5)) = true
 ·rw [if_pos c5] at H
  have c5b0 : (t552 == 4 && (t553 == 5)) = true := c5
  (try (have c5b1 : decide (t552 = 4 && (t553 == 5)) = true := by simpa using c5))
  (try (have c5b2 : (t552 == 4 && (t553 == 5)) = true := by simpa using c5))
  clear c5
  by_cases c6 : t554 = 3
  ·rw [if_pos c6] at H
   have c6b0 : (t554 == 3) = true := beq_iff_eq.mpr c6
   have c6b1 : (t554 != 3) = false := bne_eq_false_iff_eq.mpr c6
   clear c6
   by_cases c7 : (t556 == 4 && (t557 == 6)) = true
   ·rw [if_pos c7] at H
    have c7b0 : (t556 == 4 && (t557 == 6)) = true := c7
    (try (have c7b1 : decide (t556 = 4 && (t557 == 6)) = true := by simpa using c7))
    (try (have c7b2 : (t556 == 4 && (t557 == 6)) = true := by simpa using c7))
    clear c7
    by_cases c8 : t558 = true
    ·subst c8
     have H1 : ((interval_Edges.f k y549).bind fun t574 => ((slices_Equal_int_int.f k t574 (([1, 4, 5, 6, 9] : List Int))).bind fun t580 => (if t580 = true then (if (t563 == 1 && (t564 == 9)) = true then (if t565 = 1 then ((interval_Faulty.f k y567).bind fun t581 => (if t581 = 1 then (if (t570 == 1 && (t571 == 2)) = true then (some t572) else (none)) else (none))) else (none)) else (none)) else (none)))) = some r := by rw [if_pos rfl] at H; exact H
     clear H
     have H := H1
     clear H1
     replace H := Option.bind_eq_some_iff.mp H
     obtain ⟨t574, A90, H⟩ := H
     replace H : ((slices_Equal_int_int.f k t574 (([1, 4, 5, 6, 9] : List Int))).bind fun t580 => (if t580 = true then (if (t563 == 1 && (t564 == 9)) = true then (if t565 = 1 then ((interval_Faulty.f k y567).bind fun t581 => (if t581 = 1 then (if (t570 == 1 && (t571 == 2)) = true then (some t572) else (none)) else (none))) else (none)) else (none)) else (none))) = some r := H
     have A9 := Aside0.mk A90
     clear A90
     obtain ⟨y577, hy577⟩ : ∃ y_ : List Int, y_ = (([1, 4, 5, 6, 9] : List Int)) := ⟨_, rfl⟩
     replace H : ((slices_Equal_int_int.f k t574 y577).bind fun t580 => (if t580 = true then (if (t563 == 1 && (t564 == 9)) = true then (if t565 = 1 then ((interval_Faulty.f k y567).bind fun t581 => (if t581 = 1 then (if (t570 == 1 && (t571 == 2)) = true then (some t572) else (none)) else (none))) else (none)) else (none)) else (none))) = some r := by first | (rw [hy577]; with_reducible exact H) | (have H2_ := (Option.bind_some _ _).symm.trans H; rw [hy577]; with_reducible exact H2_) | (have H2_ := (Option.bind_some _ _).symm.trans H; with_reducible exact H2_) | with_reducible exact H | (rw [hy577]; exact H) | exact H
     have Ny577 := Aside0.mk hy577
     clear hy577
     replace H := Option.bind_eq_some_iff.mp H
     obtain ⟨t580, A100, H⟩ := H
     replace H : (if t580 = true then (if (t563 == 1 && (t564 == 9)) = true then (if t565 = 1 then ((interval_Faulty.f k y567).bind fun t581 => (if t581 = 1 then (if (t570 == 1 && (t571 == 2)) = true then (some t572) else (none)) else (none))) else (none)) else (none)) else (none)) = some r := H
     have A10 := Aside0.mk A100
     clear A100
     by_cases c11 : t580 = true
     ·subst c11
      have H1 : (if (t563 == 1 && (t564 == 9)) = true then (if t565 = 1 then ((interval_Faulty.f k y567).bind fun t581 => (if t581 = 1 then (if (t570 == 1 && (t571 == 2)) = true then (some t572) else (none)) else (none))) else (none)) else (none)) = some r := by rw [if_pos rfl] at H; exact H
      clear H
      have H := H1
      clear H1
      by_cases c12 : (t563 == 1 && (t564 == 9)) = true
      ·rw [if_pos c12] at H
       have c12b0 : (t563 == 1 && (t564 == 9)) = true := c12
       (try (have c12b1 : decide (t563 = 1 && (t564 == 9)) = true := by simpa using c12))
       (try (have c12b2 : (t563 == 1 && (t564 == 9)) = true := by simpa using c12))
       clear c12
       by_cases c13 : t565 = 1
       ·rw [if_pos c13] at H
        have c13b0 : (t565 == 1) = true := beq_iff_eq.mpr c13
        have c13b1 : (t565 != 1) = false := bne_eq_false_iff_eq.mpr c13
        clear c13
        replace H := Option.bind_eq_some_iff.mp H
        obtain ⟨t581, A140, H⟩ := H
        replace H : (if t581 = 1 then (if (t570 == 1 && (t571 == 2)) = true then (some t572) else (none)) else (none)) = some r := H
        have A14 := Aside0.mk A140
        clear A140
        by_cases c15 : t581 = 1
        ·rw [if_pos c15] at H
         have c15b0 : (t581 == 1) = true := beq_iff_eq.mpr c15
         have c15b1 : (t581 != 1) = false := bne_eq_false_iff_eq.mpr c15
         clear c15
         by_cases c16 : (t570 == 1 && (t571 == 2)) = true
         ·rw [if_pos c16] at H
          have c16b0 : (t570 == 1 && (t571 == 2)) = true := c16
          (try (have c16b1 : decide (t570 = 1 && (t571 == 2)) = true := by simpa using c16))
          (try (have c16b2 : (t570 == 1 && (t571 == 2)) = true := by simpa using c16))
          clear c16
          obtain rfl := Option.some.inj H
          go_enter Try.func35, Try.ntmps35
          go_wp2_with (first | ((with_reducible refine gate_dst (N := 14) rfl ?_); (try (refine gate_guard (by rfl) ?_; dsimp only)); refine Kd.R_lit k29 _ 29 ?hg (N := 14) ?hd (xs := ([(⟨1, 5⟩ : S29), (⟨4, 9⟩ : S29), (⟨4, 6⟩ : S29)] : List (S29))) (inner := [.int .i64 1, .int .i64 5, .int .i64 4, .int .i64 9, .int .i64 4, .int .i64 6]) (ok := fun _ => True) (okp := fun _ => True) ?hr ?hp (fun _ hk => hk) trivial (Below.refl _ _) (Nat.le_refl _) (by simp) ?_; (case hd => rfl); (case hg => rfl); (case hr => first | (go_simp; done) | (go_simp; rfl)); (case hp => exact (Reps.c2 (show Kd.M k29 _ _ _ (⟨1, 5⟩ : S29) [.int .i64 1, .int .i64 5] from (k29_mkM _ _ _ (⟨1, 5⟩ : S29) )) (Reps.c2 (show Kd.M k29 _ _ _ (⟨4, 9⟩ : S29) [.int .i64 4, .int .i64 9] from (k29_mkM _ _ _ (⟨4, 9⟩ : S29) )) (Reps.c2 (show Kd.M k29 _ _ _ (⟨4, 6⟩ : S29) [.int .i64 4, .int .i64 6] from (k29_mkM _ _ _ (⟨4, 6⟩ : S29) )) (Reps.none _ _))))); intro v550 w17 ho18 hb hg_ hnew_; clear hg_ hnew_; (first | rw [← Ny549.out] at ho18 | (simp only [Int.reduceToNat] at ho18; rw [← Ny549.out] at ho18)); have n0_ := Aside0.mk (Kd.R_lower ho18 (below_size (by repeat (first | (with_reducible first | exact HB.out | apply below_alloc | apply pw_below_drewN | apply below_drew1) | exact HB.out)))); have n1_ := Aside0.mk (below_step (by repeat (first | (with_reducible first | exact HB.out | apply below_alloc | apply pw_below_drewN | apply below_drew1) | exact HB.out)) hb); clear HB; have HO551 := n0_; have HB := n1_; clear n0_ n1_; clear hb ho18; obtain ⟨Ao19, co19, eo19⟩ := Kd.R_slice HO551.out; subst eo19) | ((with_reducible refine gate_callee (f := 38) rfl ?_); refine goesL_ (some 17) rfl rfl Try.func38 (by kernel_rfl) rfl #[.slice Ao19 y549.length co19] rfl (by (try simp only [List.map_toArray, List.map_cons, List.map_nil]); first | done | rfl | (simp only [List.length_drop, List.length_take]; rfl)) ?_; (with_reducible refine (interval_Best.calls k _ _ y549 t552 t553 t554 _ ?side1 ?side2 A1.out).mono ?_); (case side1 => repeat (first | exact (Kd.R_reads' HO551.out).2.2 | (with_reducible refine Kd.C_alloc ?_ _) | (with_reducible refine Kd.C_drewN ?_ _) | (with_reducible refine Kd.C_drew ?_))); (case side2 => exact (Kd.R_reads' HO551.out).2.1); rintro e w20 ⟨rfl, hb⟩; refine ⟨_, rfl, ?_⟩; have n0_ := Aside0.mk (Kd.R_below (by (with_reducible repeat (first | apply Kd.R_alloc | apply Kd.R_drewN | apply Kd.R_drew)); exact HO551.out) hb); have n1_ := Aside0.mk (below_step (by repeat (first | (with_reducible first | exact HB.out | apply below_alloc | apply pw_below_drewN | apply below_drew1) | exact HB.out)) hb); clear HO551; clear HB; have HO551 := n0_; have HB := n1_; clear n0_ n1_; (try clear hb); (try clear hb2); (try clear hk); (try clear hi)) | ((with_reducible refine gate_dst (N := 2) rfl ?_); (try (refine gate_guard (by rfl) ?_; dsimp only)); refine box_event ?hg (N := 2) ?hd (cs := #[.int .i64 0, .int .i64 0]) (t := 29) ?hr ?_; (case hd => rfl); (case hg => rfl); (case hr => first | (go_simp; done) | (go_simp; rfl)); intro gb555 hg w21 hbox hb; have n0_ := Aside0.mk (Kd.R_below (Kd.R_elderB (by (with_reducible repeat (first | apply Kd.R_alloc | apply Kd.R_drewN | apply Kd.R_drew)); exact HO551.out) gb555 (Nat.le_of_eq hg.symm)) hb); have n1_ := Aside0.mk (below_step (by repeat (first | (with_reducible first | exact HB.out | apply below_alloc | apply pw_below_drewN | apply below_drew1) | exact HB.out)) hb); have n2_ := Aside0.mk (hbox); have n3_ := Aside0.mk ((by rw [hg]; exact (below_size (by repeat (first | (with_reducible first | exact HB.out | apply below_alloc | apply pw_below_drewN | apply below_drew1) | exact HB.out))) : w.heap.size ≤ gb555)); have n4_ := Aside0.mk ((by rw [hg]; exact (below_size (by repeat (first | (with_reducible first | exact HB.out | apply below_alloc | apply pw_below_drewN | apply below_drew1) | exact HB.out))) : w.heap.size ≤ gb555)); clear HO551; clear HB; have HO551 := n0_; have HB := n1_; have BK555 := n2_; have GW555 := n3_; have GE555 := n4_; clear n0_ n1_ n2_ n3_ n4_; clear hb hbox hg; have hcz22_0 : w21.cell? ⟨gb555, 0, none⟩ = some (.int .i64 0) := (blk_cell BK555.out 0).trans rfl; have hcz22_1 : w21.cell? ⟨gb555, 1, none⟩ = some (.int .i64 0) := (blk_cell BK555.out 1).trans rfl; have hfz22_0 := blk_frozen BK555.out 0; have hfz22_1 := blk_frozen BK555.out 1) | ((with_reducible refine gate_callee (f := 39) rfl ?_); refine goesL_ (some 22) rfl rfl Try.func39 (by kernel_rfl) rfl #[.slice Ao19 y549.length co19, .int .i64 2] rfl (by (try simp only [List.map_toArray, List.map_cons, List.map_nil]); first | done | rfl | (simp only [List.length_drop, List.length_take]; rfl)) ?_; (with_reducible refine (interval_Hull.calls k _ _ y549 2 t556 t557 true _ ?side1 ?side2 A2.out).mono ?_); (case side1 => refine (Kd.R_reads' (e := 29) (base := w.heap.size) (ok := fun k_ => (True ∧ k_ ≠ gb555)) (n := y549.length) (c := co19) ?_).2.2; exact (by (with_reducible repeat (first | apply Kd.R_alloc | apply Kd.R_drewN | apply Kd.R_drew)); exact (Kd.R_mono (Kd.R_far (p := ⟨gb555, 1, none⟩) (Kd.R_far (p := ⟨gb555, 0, none⟩) (Kd.R_mono HO551.out (fun k_ hk => (⟨hk, hk.2⟩ : _ ∧ k_ ≠ gb555))) (fun _ hk => hk.2) (.int .i64 t552)) (fun _ hk => hk.2) (.int .i64 t553)) (fun _ h_ => h_.1)))); (case side2 => exact (Kd.R_reads' HO551.out).2.1); rintro e w23 ⟨rfl, hb⟩; refine ⟨_, rfl, ?_⟩; have n0_ := Aside0.mk (Kd.R_below (by (with_reducible repeat (first | apply Kd.R_alloc | apply Kd.R_drewN | apply Kd.R_drew)); exact (Kd.R_mono (Kd.R_far (p := ⟨gb555, 1, none⟩) (Kd.R_far (p := ⟨gb555, 0, none⟩) (Kd.R_mono HO551.out (fun k_ hk => (⟨hk, hk.2⟩ : _ ∧ k_ ≠ gb555))) (fun _ hk => hk.2) (.int .i64 t552)) (fun _ hk => hk.2) (.int .i64 t553)) (fun _ h_ => h_.1))) hb); have n1_ := Aside0.mk (blk_below (g := gb555) (o := .cells #[.int .i64 t552, .int .i64 t553] 29 (0, 0)) (by (with_reducible repeat (first | refine blk_drewN ?_ _ | refine blk_drew ?_ | refine blk_alloc ?_ _)); refine blk_put (cs := #[.int .i64 t552, .int .i64 0]) ?_ 1 _ rfl; (with_reducible repeat (first | refine blk_drewN ?_ _ | refine blk_drew ?_ | refine blk_alloc ?_ _)); refine blk_put (cs := #[.int .i64 0, .int .i64 0]) ?_ 0 _ rfl; (with_reducible repeat (first | refine blk_drewN ?_ _ | refine blk_drew ?_ | refine blk_alloc ?_ _)); exact BK555.out) hb); have n2_ := Aside0.mk (below_step (by repeat (first | (with_reducible first | exact HB.out | apply below_alloc | apply pw_below_drewN | apply below_drew1 | refine below_set ?_ GE555.out) | exact HB.out)) hb); clear HO551; clear BK555; clear HB; have HO551 := n0_; have BK555 := n1_; have HB := n2_; clear n0_ n1_ n2_; (try clear hb); (try clear hb2); (try clear hk); (try clear hi)) | ((with_reducible refine gate_dst (N := 4) rfl ?_); (try (refine gate_guard (by rfl) ?_; dsimp only)); refine box_event ?hg (N := 4) ?hd (cs := #[.int .i64 0, .int .i64 0]) (t := 29) ?hr ?_; (case hd => rfl); (case hg => rfl); (case hr => first | (go_simp; done) | (go_simp; rfl)); intro gb559 hg w24 hbox hb; have n0_ := Aside0.mk (Kd.R_below (Kd.R_elderB (by (with_reducible repeat (first | apply Kd.R_alloc | apply Kd.R_drewN | apply Kd.R_drew)); exact HO551.out) gb559 (Nat.le_of_eq hg.symm)) hb); have n1_ := Aside0.mk (blk_below (g := gb555) (o := .cells #[.int .i64 t552, .int .i64 t553] 29 (0, 0)) (by (with_reducible repeat (first | refine blk_drewN ?_ _ | refine blk_drew ?_ | refine blk_alloc ?_ _)); exact BK555.out) hb); have n2_ := Aside0.mk (below_step (by repeat (first | (with_reducible first | exact HB.out | apply below_alloc | apply pw_below_drewN | apply below_drew1 | refine below_set ?_ GE555.out) | exact HB.out)) hb); have n3_ := Aside0.mk (hbox); have n4_ := Aside0.mk ((by rw [hg]; exact (below_size (by repeat (first | (with_reducible first | exact HB.out | apply below_alloc | apply pw_below_drewN | apply below_drew1 | refine below_set ?_ GE555.out) | exact HB.out))) : w.heap.size ≤ gb559)); have n5_ := Aside0.mk ((by rw [hg]; exact (below_size (by repeat (first | (with_reducible first | exact HB.out | apply below_alloc | apply pw_below_drewN | apply below_drew1 | refine below_set ?_ GE555.out) | exact HB.out))) : w.heap.size ≤ gb559)); have n6_ := Aside0.mk ((by rw [hg]; exact Nat.ne_of_lt (blk_lt (g := gb555) (o := .cells #[.int .i64 t552, .int .i64 t553] 29 (0, 0)) (by (with_reducible repeat (first | refine blk_drewN ?_ _ | refine blk_drew ?_ | refine blk_alloc ?_ _)); exact BK555.out)) : gb555 ≠ gb559)); have n7_ := Aside0.mk ((by rw [hg]; exact Nat.ne_of_gt (blk_lt (g := gb555) (o := .cells #[.int .i64 t552, .int .i64 t553] 29 (0, 0)) (by (with_reducible repeat (first | refine blk_drewN ?_ _ | refine blk_drew ?_ | refine blk_alloc ?_ _)); exact BK555.out)) : gb559 ≠ gb555)); clear HO551; clear BK555; clear HB; have HO551 := n0_; have BK555 := n1_; have HB := n2_; have BK559 := n3_; have GW559 := n4_; have GE559 := n5_; have NB555_559 := n6_; have NB559_555 := n7_; clear n0_ n1_ n2_ n3_ n4_ n5_ n6_ n7_; clear hb hbox hg; have hnb25 := NB559_555.out; have hnc25 := NB555_559.out; have hcz26_0 : w24.cell? ⟨gb559, 0, none⟩ = some (.int .i64 0) := (blk_cell BK559.out 0).trans rfl; have hcz26_1 : w24.cell? ⟨gb559, 1, none⟩ = some (.int .i64 0) := (blk_cell BK559.out 1).trans rfl; have hfz26_0 := blk_frozen BK559.out 0; have hfz26_1 := blk_frozen BK559.out 1) | ((with_reducible refine gate_dst (N := 28) rfl ?_); (try (refine gate_guard (by rfl) ?_; dsimp only)); refine Kd.R_lit k29 _ 29 ?hg (N := 28) ?hd (xs := ([(⟨1, 5⟩ : S29), (⟨6, 9⟩ : S29)] : List (S29))) (inner := [.int .i64 1, .int .i64 5, .int .i64 6, .int .i64 9]) (ok := fun _ => True) (okp := fun _ => True) ?hr ?hp (fun _ hk => hk) trivial (Below.refl _ _) (Nat.le_refl _) (by simp) ?_; (case hd => rfl); (case hg => rfl); (case hr => first | (go_simp; done) | (go_simp; rfl)); (case hp => exact (Reps.c2 (show Kd.M k29 _ _ _ (⟨1, 5⟩ : S29) [.int .i64 1, .int .i64 5] from (k29_mkM _ _ _ (⟨1, 5⟩ : S29) )) (Reps.c2 (show Kd.M k29 _ _ _ (⟨6, 9⟩ : S29) [.int .i64 6, .int .i64 9] from (k29_mkM _ _ _ (⟨6, 9⟩ : S29) )) (Reps.none _ _)))); intro v561 w27 ho28 hb hg_ hnew_; clear hg_ hnew_; (first | rw [← Ny560.out] at ho28 | (simp only [Int.reduceToNat] at ho28; rw [← Ny560.out] at ho28)); have n0_ := Aside0.mk (Kd.R_elder' (by (with_reducible repeat (first | apply Kd.R_alloc | apply Kd.R_drewN | apply Kd.R_drew)); exact (Kd.R_mono (Kd.R_far (p := ⟨gb559, 1, none⟩) (Kd.R_far (p := ⟨gb559, 0, none⟩) (Kd.R_mono HO551.out (fun k_ hk => (⟨hk, hk.2⟩ : _ ∧ k_ ≠ gb559))) (fun _ hk => hk.2) (.int .i64 t556)) (fun _ hk => hk.2) (.int .i64 t557)) (fun _ h_ => h_.1))) (Kd.R_base ho28) hb); have n1_ := Aside0.mk (Kd.R_lower (Kd.R_newB (Kd.R_newB (Kd.R_new' ho28 (Kd.R_lt (by (with_reducible repeat (first | apply Kd.R_alloc | apply Kd.R_drewN | apply Kd.R_drew)); exact (Kd.R_mono (Kd.R_far (p := ⟨gb559, 1, none⟩) (Kd.R_far (p := ⟨gb559, 0, none⟩) (Kd.R_mono HO551.out (fun k_ hk => (⟨hk, hk.2⟩ : _ ∧ k_ ≠ gb559))) (fun _ hk => hk.2) (.int .i64 t556)) (fun _ hk => hk.2) (.int .i64 t557)) (fun _ h_ => h_.1))))) (g := gb555) (o := .cells #[.int .i64 t552, .int .i64 t553] 29 (0, 0)) (by (with_reducible repeat (first | refine blk_drewN ?_ _ | refine blk_drew ?_ | refine blk_alloc ?_ _)); refine blk_far ?_ NB555_559.out _; (with_reducible repeat (first | refine blk_drewN ?_ _ | refine blk_drew ?_ | refine blk_alloc ?_ _)); refine blk_far ?_ NB555_559.out _; (with_reducible repeat (first | refine blk_drewN ?_ _ | refine blk_drew ?_ | refine blk_alloc ?_ _)); exact BK555.out)) (g := gb559) (o := .cells #[.int .i64 t556, .int .i64 t557] 29 (0, 0)) (by (with_reducible repeat (first | refine blk_drewN ?_ _ | refine blk_drew ?_ | refine blk_alloc ?_ _)); refine blk_put (cs := #[.int .i64 t556, .int .i64 0]) ?_ 1 _ rfl; (with_reducible repeat (first | refine blk_drewN ?_ _ | refine blk_drew ?_ | refine blk_alloc ?_ _)); refine blk_put (cs := #[.int .i64 0, .int .i64 0]) ?_ 0 _ rfl; (with_reducible repeat (first | refine blk_drewN ?_ _ | refine blk_drew ?_ | refine blk_alloc ?_ _)); exact BK559.out)) (below_size (by repeat (first | (with_reducible first | exact HB.out | apply below_alloc | apply pw_below_drewN | apply below_drew1 | refine below_set ?_ GE555.out | refine below_set ?_ GE559.out) | exact HB.out)))); have n2_ := Aside0.mk (blk_below (g := gb555) (o := .cells #[.int .i64 t552, .int .i64 t553] 29 (0, 0)) (by (with_reducible repeat (first | refine blk_drewN ?_ _ | refine blk_drew ?_ | refine blk_alloc ?_ _)); refine blk_far ?_ NB555_559.out _; (with_reducible repeat (first | refine blk_drewN ?_ _ | refine blk_drew ?_ | refine blk_alloc ?_ _)); refine blk_far ?_ NB555_559.out _; (with_reducible repeat (first | refine blk_drewN ?_ _ | refine blk_drew ?_ | refine blk_alloc ?_ _)); exact BK555.out) hb); have n3_ := Aside0.mk (blk_below (g := gb559) (o := .cells #[.int .i64 t556, .int .i64 t557] 29 (0, 0)) (by (with_reducible repeat (first | refine blk_drewN ?_ _ | refine blk_drew ?_ | refine blk_alloc ?_ _)); refine blk_put (cs := #[.int .i64 t556, .int .i64 0]) ?_ 1 _ rfl; (with_reducible repeat (first | refine blk_drewN ?_ _ | refine blk_drew ?_ | refine blk_alloc ?_ _)); refine blk_put (cs := #[.int .i64 0, .int .i64 0]) ?_ 0 _ rfl; (with_reducible repeat (first | refine blk_drewN ?_ _ | refine blk_drew ?_ | refine blk_alloc ?_ _)); exact BK559.out) hb); have n4_ := Aside0.mk (below_step (by repeat (first | (with_reducible first | exact HB.out | apply below_alloc | apply pw_below_drewN | apply below_drew1 | refine below_set ?_ GE555.out | refine below_set ?_ GE559.out) | exact HB.out)) hb); clear HO551; clear BK555; clear BK559; clear HB; have HO551 := n0_; have HO562 := n1_; have BK555 := n2_; have BK559 := n3_; have HB := n4_; clear n0_ n1_ n2_ n3_ n4_; clear hb ho28; obtain ⟨Ao29, co29, eo29⟩ := Kd.R_slice HO562.out; subst eo29) | ((with_reducible refine gate_callee (f := 38) rfl ?_); refine goesL_ (some 29) rfl rfl Try.func38 (by kernel_rfl) rfl #[.slice Ao29 y560.length co29] rfl (by (try simp only [List.map_toArray, List.map_cons, List.map_nil]); first | done | rfl | (simp only [List.length_drop, List.length_take]; rfl)) ?_; (with_reducible refine (interval_Best.calls k _ _ y560 t563 t564 t565 _ ?side1 ?side2 A3.out).mono ?_); (case side1 => repeat (first | exact (Kd.R_reads' HO562.out).2.2 | (with_reducible refine Kd.C_alloc ?_ _) | (with_reducible refine Kd.C_drewN ?_ _) | (with_reducible refine Kd.C_drew ?_))); (case side2 => exact (Kd.R_reads' HO562.out).2.1); rintro e w30 ⟨rfl, hb⟩; refine ⟨_, rfl, ?_⟩; have n0_ := Aside0.mk (Kd.R_below (by (with_reducible repeat (first | apply Kd.R_alloc | apply Kd.R_drewN | apply Kd.R_drew)); exact HO551.out) hb); have n1_ := Aside0.mk (Kd.R_below (by (with_reducible repeat (first | apply Kd.R_alloc | apply Kd.R_drewN | apply Kd.R_drew)); exact HO562.out) hb); have n2_ := Aside0.mk (blk_below (g := gb555) (o := .cells #[.int .i64 t552, .int .i64 t553] 29 (0, 0)) (by (with_reducible repeat (first | refine blk_drewN ?_ _ | refine blk_drew ?_ | refine blk_alloc ?_ _)); exact BK555.out) hb); have n3_ := Aside0.mk (blk_below (g := gb559) (o := .cells #[.int .i64 t556, .int .i64 t557] 29 (0, 0)) (by (with_reducible repeat (first | refine blk_drewN ?_ _ | refine blk_drew ?_ | refine blk_alloc ?_ _)); exact BK559.out) hb); have n4_ := Aside0.mk (below_step (by repeat (first | (with_reducible first | exact HB.out | apply below_alloc | apply pw_below_drewN | apply below_drew1 | refine below_set ?_ GE555.out | refine below_set ?_ GE559.out) | exact HB.out)) hb); clear HO551; clear HO562; clear BK555; clear BK559; clear HB; have HO551 := n0_; have HO562 := n1_; have BK555 := n2_; have BK559 := n3_; have HB := n4_; clear n0_ n1_ n2_ n3_ n4_; (try clear hb); (try clear hb2); (try clear hk); (try clear hi)) | ((with_reducible refine gate_dst (N := 6) rfl ?_); (try (refine gate_guard (by rfl) ?_; dsimp only)); refine box_event ?hg (N := 6) ?hd (cs := #[.int .i64 0, .int .i64 0]) (t := 29) ?hr ?_; (case hd => rfl); (case hg => rfl); (case hr => first | (go_simp; done) | (go_simp; rfl)); intro gb566 hg w31 hbox hb; have n0_ := Aside0.mk (Kd.R_below (Kd.R_elderB (by (with_reducible repeat (first | apply Kd.R_alloc | apply Kd.R_drewN | apply Kd.R_drew)); exact HO551.out) gb566 (Nat.le_of_eq hg.symm)) hb); have n1_ := Aside0.mk (Kd.R_below (Kd.R_elderB (by (with_reducible repeat (first | apply Kd.R_alloc | apply Kd.R_drewN | apply Kd.R_drew)); exact HO562.out) gb566 (Nat.le_of_eq hg.symm)) hb); have n2_ := Aside0.mk (blk_below (g := gb555) (o := .cells #[.int .i64 t552, .int .i64 t553] 29 (0, 0)) (by (with_reducible repeat (first | refine blk_drewN ?_ _ | refine blk_drew ?_ | refine blk_alloc ?_ _)); exact BK555.out) hb); have n3_ := Aside0.mk (blk_below (g := gb559) (o := .cells #[.int .i64 t556, .int .i64 t557] 29 (0, 0)) (by (with_reducible repeat (first | refine blk_drewN ?_ _ | refine blk_drew ?_ | refine blk_alloc ?_ _)); exact BK559.out) hb); have n4_ := Aside0.mk (below_step (by repeat (first | (with_reducible first | exact HB.out | apply below_alloc | apply pw_below_drewN | apply below_drew1 | refine below_set ?_ GE555.out | refine below_set ?_ GE559.out) | exact HB.out)) hb); have n5_ := Aside0.mk (hbox); have n6_ := Aside0.mk ((by rw [hg]; exact (below_size (by repeat (first | (with_reducible first | exact HB.out | apply below_alloc | apply pw_below_drewN | apply below_drew1 | refine below_set ?_ GE555.out | refine below_set ?_ GE559.out) | exact HB.out))) : w.heap.size ≤ gb566)); have n7_ := Aside0.mk ((by rw [hg]; exact (below_size (by repeat (first | (with_reducible first | exact HB.out | apply below_alloc | apply pw_below_drewN | apply below_drew1 | refine below_set ?_ GE555.out | refine below_set ?_ GE559.out) | exact HB.out))) : w.heap.size ≤ gb566)); have n8_ := Aside0.mk ((by rw [hg]; exact Nat.ne_of_lt (blk_lt (g := gb555) (o := .cells #[.int .i64 t552, .int .i64 t553] 29 (0, 0)) (by (with_reducible repeat (first | refine blk_drewN ?_ _ | refine blk_drew ?_ | refine blk_alloc ?_ _)); exact BK555.out)) : gb555 ≠ gb566)); have n9_ := Aside0.mk ((by rw [hg]; exact Nat.ne_of_gt (blk_lt (g := gb555) (o := .cells #[.int .i64 t552, .int .i64 t553] 29 (0, 0)) (by (with_reducible repeat (first | refine blk_drewN ?_ _ | refine blk_drew ?_ | refine blk_alloc ?_ _)); exact BK555.out)) : gb566 ≠ gb555)); have n10_ := Aside0.mk ((by rw [hg]; exact Nat.ne_of_lt (blk_lt (g := gb559) (o := .cells #[.int .i64 t556, .int .i64 t557] 29 (0, 0)) (by (with_reducible repeat (first | refine blk_drewN ?_ _ | refine blk_drew ?_ | refine blk_alloc ?_ _)); exact BK559.out)) : gb559 ≠ gb566)); have n11_ := Aside0.mk ((by rw [hg]; exact Nat.ne_of_gt (blk_lt (g := gb559) (o := .cells #[.int .i64 t556, .int .i64 t557] 29 (0, 0)) (by (with_reducible repeat (first | refine blk_drewN ?_ _ | refine blk_drew ?_ | refine blk_alloc ?_ _)); exact BK559.out)) : gb566 ≠ gb559)); clear HO551; clear HO562; clear BK555; clear BK559; clear HB; have HO551 := n0_; have HO562 := n1_; have BK555 := n2_; have BK559 := n3_; have HB := n4_; have BK566 := n5_; have GW566 := n6_; have GE566 := n7_; have NB555_566 := n8_; have NB566_555 := n9_; have NB559_566 := n10_; have NB566_559 := n11_; clear n0_ n1_ n2_ n3_ n4_ n5_ n6_ n7_ n8_ n9_ n10_ n11_; clear hb hbox hg; have hnb32 := NB566_555.out; have hnc32 := NB555_566.out; have hnb33 := NB566_559.out; have hnc33 := NB559_566.out; have hcz34_0 : w31.cell? ⟨gb566, 0, none⟩ = some (.int .i64 0) := (blk_cell BK566.out 0).trans rfl; have hcz34_1 : w31.cell? ⟨gb566, 1, none⟩ = some (.int .i64 0) := (blk_cell BK566.out 1).trans rfl; have hfz34_0 := blk_frozen BK566.out 0; have hfz34_1 := blk_frozen BK566.out 1) | ((with_reducible refine gate_dst (N := 35) rfl ?_); (try (refine gate_guard (by rfl) ?_; dsimp only)); refine Kd.R_lit k29 _ 29 ?hg (N := 35) ?hd (xs := ([(⟨1, 2⟩ : S29), (⟨1, 3⟩ : S29), (⟨7, 8⟩ : S29)] : List (S29))) (inner := [.int .i64 1, .int .i64 2, .int .i64 1, .int .i64 3, .int .i64 7, .int .i64 8]) (ok := fun _ => True) (okp := fun _ => True) ?hr ?hp (fun _ hk => hk) trivial (Below.refl _ _) (Nat.le_refl _) (by simp) ?_; (case hd => rfl); (case hg => rfl); (case hr => first | (go_simp; done) | (go_simp; rfl)); (case hp => exact (Reps.c2 (show Kd.M k29 _ _ _ (⟨1, 2⟩ : S29) [.int .i64 1, .int .i64 2] from (k29_mkM _ _ _ (⟨1, 2⟩ : S29) )) (Reps.c2 (show Kd.M k29 _ _ _ (⟨1, 3⟩ : S29) [.int .i64 1, .int .i64 3] from (k29_mkM _ _ _ (⟨1, 3⟩ : S29) )) (Reps.c2 (show Kd.M k29 _ _ _ (⟨7, 8⟩ : S29) [.int .i64 7, .int .i64 8] from (k29_mkM _ _ _ (⟨7, 8⟩ : S29) )) (Reps.none _ _))))); intro v568 w35 ho36 hb hg_ hnew_; clear hg_ hnew_; (first | rw [← Ny567.out] at ho36 | (simp only [Int.reduceToNat] at ho36; rw [← Ny567.out] at ho36)); have n0_ := Aside0.mk (Kd.R_elder' (by (with_reducible repeat (first | apply Kd.R_alloc | apply Kd.R_drewN | apply Kd.R_drew)); exact (Kd.R_mono (Kd.R_far (p := ⟨gb566, 1, none⟩) (Kd.R_far (p := ⟨gb566, 0, none⟩) (Kd.R_mono HO551.out (fun k_ hk => (⟨hk, hk.2⟩ : _ ∧ k_ ≠ gb566))) (fun _ hk => hk.2) (.int .i64 t563)) (fun _ hk => hk.2) (.int .i64 t564)) (fun _ h_ => h_.1))) (Kd.R_base ho36) hb); have n1_ := Aside0.mk (Kd.R_elder' (by (with_reducible repeat (first | apply Kd.R_alloc | apply Kd.R_drewN | apply Kd.R_drew)); exact (Kd.R_mono (Kd.R_far (p := ⟨gb566, 1, none⟩) (Kd.R_far (p := ⟨gb566, 0, none⟩) (Kd.R_mono HO562.out (fun k_ hk => (⟨hk, hk.2⟩ : _ ∧ k_ ≠ gb566))) (fun _ hk => hk.2) (.int .i64 t563)) (fun _ hk => hk.2) (.int .i64 t564)) (fun _ h_ => h_.1))) (Kd.R_base ho36) hb); have n2_ := Aside0.mk (Kd.R_lower (Kd.R_newB (Kd.R_newB (Kd.R_newB (Kd.R_new' (Kd.R_new' ho36 (Kd.R_lt (by (with_reducible repeat (first | apply Kd.R_alloc | apply Kd.R_drewN | apply Kd.R_drew)); exact (Kd.R_mono (Kd.R_far (p := ⟨gb566, 1, none⟩) (Kd.R_far (p := ⟨gb566, 0, none⟩) (Kd.R_mono HO551.out (fun k_ hk => (⟨hk, hk.2⟩ : _ ∧ k_ ≠ gb566))) (fun _ hk => hk.2) (.int .i64 t563)) (fun _ hk => hk.2) (.int .i64 t564)) (fun _ h_ => h_.1))))) (Kd.R_lt (by (with_reducible repeat (first | apply Kd.R_alloc | apply Kd.R_drewN | apply Kd.R_drew)); exact (Kd.R_mono (Kd.R_far (p := ⟨gb566, 1, none⟩) (Kd.R_far (p := ⟨gb566, 0, none⟩) (Kd.R_mono HO562.out (fun k_ hk => (⟨hk, hk.2⟩ : _ ∧ k_ ≠ gb566))) (fun _ hk => hk.2) (.int .i64 t563)) (fun _ hk => hk.2) (.int .i64 t564)) (fun _ h_ => h_.1))))) (g := gb555) (o := .cells #[.int .i64 t552, .int .i64 t553] 29 (0, 0)) (by (with_reducible repeat (first | refine blk_drewN ?_ _ | refine blk_drew ?_ | refine blk_alloc ?_ _)); refine blk_far ?_ NB555_566.out _; (with_reducible repeat (first | refine blk_drewN ?_ _ | refine blk_drew ?_ | refine blk_alloc ?_ _)); refine blk_far ?_ NB555_566.out _; (with_reducible repeat (first | refine blk_drewN ?_ _ | refine blk_drew ?_ | refine blk_alloc ?_ _)); exact BK555.out)) (g := gb559) (o := .cells #[.int .i64 t556, .int .i64 t557] 29 (0, 0)) (by (with_reducible repeat (first | refine blk_drewN ?_ _ | refine blk_drew ?_ | refine blk_alloc ?_ _)); refine blk_far ?_ NB559_566.out _; (with_reducible repeat (first | refine blk_drewN ?_ _ | refine blk_drew ?_ | refine blk_alloc ?_ _)); refine blk_far ?_ NB559_566.out _; (with_reducible repeat (first | refine blk_drewN ?_ _ | refine blk_drew ?_ | refine blk_alloc ?_ _)); exact BK559.out)) (g := gb566) (o := .cells #[.int .i64 t563, .int .i64 t564] 29 (0, 0)) (by (with_reducible repeat (first | refine blk_drewN ?_ _ | refine blk_drew ?_ | refine blk_alloc ?_ _)); refine blk_put (cs := #[.int .i64 t563, .int .i64 0]) ?_ 1 _ rfl; (with_reducible repeat (first | refine blk_drewN ?_ _ | refine blk_drew ?_ | refine blk_alloc ?_ _)); refine blk_put (cs := #[.int .i64 0, .int .i64 0]) ?_ 0 _ rfl; (with_reducible repeat (first | refine blk_drewN ?_ _ | refine blk_drew ?_ | refine blk_alloc ?_ _)); exact BK566.out)) (below_size (by repeat (first | (with_reducible first | exact HB.out | apply below_alloc | apply pw_below_drewN | apply below_drew1 | refine below_set ?_ GE555.out | refine below_set ?_ GE559.out | refine below_set ?_ GE566.out) | exact HB.out)))); have n3_ := Aside0.mk (blk_below (g := gb555) (o := .cells #[.int .i64 t552, .int .i64 t553] 29 (0, 0)) (by (with_reducible repeat (first | refine blk_drewN ?_ _ | refine blk_drew ?_ | refine blk_alloc ?_ _)); refine blk_far ?_ NB555_566.out _; (with_reducible repeat (first | refine blk_drewN ?_ _ | refine blk_drew ?_ | refine blk_alloc ?_ _)); refine blk_far ?_ NB555_566.out _; (with_reducible repeat (first | refine blk_drewN ?_ _ | refine blk_drew ?_ | refine blk_alloc ?_ _)); exact BK555.out) hb); have n4_ := Aside0.mk (blk_below (g := gb559) (o := .cells #[.int .i64 t556, .int .i64 t557] 29 (0, 0)) (by (with_reducible repeat (first | refine blk_drewN ?_ _ | refine blk_drew ?_ | refine blk_alloc ?_ _)); refine blk_far ?_ NB559_566.out _; (with_reducible repeat (first | refine blk_drewN ?_ _ | refine blk_drew ?_ | refine blk_alloc ?_ _)); refine blk_far ?_ NB559_566.out _; (with_reducible repeat (first | refine blk_drewN ?_ _ | refine blk_drew ?_ | refine blk_alloc ?_ _)); exact BK559.out) hb); have n5_ := Aside0.mk (blk_below (g := gb566) (o := .cells #[.int .i64 t563, .int .i64 t564] 29 (0, 0)) (by (with_reducible repeat (first | refine blk_drewN ?_ _ | refine blk_drew ?_ | refine blk_alloc ?_ _)); refine blk_put (cs := #[.int .i64 t563, .int .i64 0]) ?_ 1 _ rfl; (with_reducible repeat (first | refine blk_drewN ?_ _ | refine blk_drew ?_ | refine blk_alloc ?_ _)); refine blk_put (cs := #[.int .i64 0, .int .i64 0]) ?_ 0 _ rfl; (with_reducible repeat (first | refine blk_drewN ?_ _ | refine blk_drew ?_ | refine blk_alloc ?_ _)); exact BK566.out) hb); have n6_ := Aside0.mk (below_step (by repeat (first | (with_reducible first | exact HB.out | apply below_alloc | apply pw_below_drewN | apply below_drew1 | refine below_set ?_ GE555.out | refine below_set ?_ GE559.out | refine below_set ?_ GE566.out) | exact HB.out)) hb); clear HO551; clear HO562; clear BK555; clear BK559; clear BK566; clear HB; have HO551 := n0_; have HO562 := n1_; have HO569 := n2_; have BK555 := n3_; have BK559 := n4_; have BK566 := n5_; have HB := n6_; clear n0_ n1_ n2_ n3_ n4_ n5_ n6_; clear hb ho36; obtain ⟨Ao37, co37, eo37⟩ := Kd.R_slice HO569.out; subst eo37) | ((with_reducible refine gate_callee (f := 42) rfl ?_); refine goesL_ (some 38) rfl rfl Try.func42 (by kernel_rfl) rfl #[.slice Ao37 y567.length co37, .int .i64 1] rfl (by (try simp only [List.map_toArray, List.map_cons, List.map_nil]); first | done | rfl | (simp only [List.length_drop, List.length_take]; rfl)) ?_; (with_reducible refine (interval_Honest.calls k _ _ y567 1 t570 t571 t572 _ ?side1 ?side2 A4.out).mono ?_); (case side1 => repeat (first | exact (Kd.R_reads' HO569.out).2.2 | (with_reducible refine Kd.C_alloc ?_ _) | (with_reducible refine Kd.C_drewN ?_ _) | (with_reducible refine Kd.C_drew ?_))); (case side2 => exact (Kd.R_reads' HO569.out).2.1); rintro e w38 ⟨rfl, hb⟩; refine ⟨_, rfl, ?_⟩; have n0_ := Aside0.mk (Kd.R_below (by (with_reducible repeat (first | apply Kd.R_alloc | apply Kd.R_drewN | apply Kd.R_drew)); exact HO551.out) hb); have n1_ := Aside0.mk (Kd.R_below (by (with_reducible repeat (first | apply Kd.R_alloc | apply Kd.R_drewN | apply Kd.R_drew)); exact HO562.out) hb); have n2_ := Aside0.mk (Kd.R_below (by (with_reducible repeat (first | apply Kd.R_alloc | apply Kd.R_drewN | apply Kd.R_drew)); exact HO569.out) hb); have n3_ := Aside0.mk (blk_below (g := gb555) (o := .cells #[.int .i64 t552, .int .i64 t553] 29 (0, 0)) (by (with_reducible repeat (first | refine blk_drewN ?_ _ | refine blk_drew ?_ | refine blk_alloc ?_ _)); exact BK555.out) hb); have n4_ := Aside0.mk (blk_below (g := gb559) (o := .cells #[.int .i64 t556, .int .i64 t557] 29 (0, 0)) (by (with_reducible repeat (first | refine blk_drewN ?_ _ | refine blk_drew ?_ | refine blk_alloc ?_ _)); exact BK559.out) hb); have n5_ := Aside0.mk (blk_below (g := gb566) (o := .cells #[.int .i64 t563, .int .i64 t564] 29 (0, 0)) (by (with_reducible repeat (first | refine blk_drewN ?_ _ | refine blk_drew ?_ | refine blk_alloc ?_ _)); exact BK566.out) hb); have n6_ := Aside0.mk (below_step (by repeat (first | (with_reducible first | exact HB.out | apply below_alloc | apply pw_below_drewN | apply below_drew1 | refine below_set ?_ GE555.out | refine below_set ?_ GE559.out | refine below_set ?_ GE566.out) | exact HB.out)) hb); clear HO551; clear HO562; clear HO569; clear BK555; clear BK559; clear BK566; clear HB; have HO551 := n0_; have HO562 := n1_; have HO569 := n2_; have BK555 := n3_; have BK559 := n4_; have BK566 := n5_; have HB := n6_; clear n0_ n1_ n2_ n3_ n4_ n5_ n6_; (try clear hb); (try clear hb2); (try clear hk); (try clear hi)) | ((with_reducible refine gate_dst (N := 9) rfl ?_); (try (refine gate_guard (by rfl) ?_; dsimp only)); refine box_event ?hg (N := 9) ?hd (cs := #[.int .i64 0, .int .i64 0]) (t := 29) ?hr ?_; (case hd => rfl); (case hg => rfl); (case hr => first | (go_simp; done) | (go_simp; rfl)); intro gb573 hg w39 hbox hb; have n0_ := Aside0.mk (Kd.R_below (Kd.R_elderB (by (with_reducible repeat (first | apply Kd.R_alloc | apply Kd.R_drewN | apply Kd.R_drew)); exact HO551.out) gb573 (Nat.le_of_eq hg.symm)) hb); have n1_ := Aside0.mk (Kd.R_below (Kd.R_elderB (by (with_reducible repeat (first | apply Kd.R_alloc | apply Kd.R_drewN | apply Kd.R_drew)); exact HO562.out) gb573 (Nat.le_of_eq hg.symm)) hb); have n2_ := Aside0.mk (Kd.R_below (Kd.R_elderB (by (with_reducible repeat (first | apply Kd.R_alloc | apply Kd.R_drewN | apply Kd.R_drew)); exact HO569.out) gb573 (Nat.le_of_eq hg.symm)) hb); have n3_ := Aside0.mk (blk_below (g := gb555) (o := .cells #[.int .i64 t552, .int .i64 t553] 29 (0, 0)) (by (with_reducible repeat (first | refine blk_drewN ?_ _ | refine blk_drew ?_ | refine blk_alloc ?_ _)); exact BK555.out) hb); have n4_ := Aside0.mk (blk_below (g := gb559) (o := .cells #[.int .i64 t556, .int .i64 t557] 29 (0, 0)) (by (with_reducible repeat (first | refine blk_drewN ?_ _ | refine blk_drew ?_ | refine blk_alloc ?_ _)); exact BK559.out) hb); have n5_ := Aside0.mk (blk_below (g := gb566) (o := .cells #[.int .i64 t563, .int .i64 t564] 29 (0, 0)) (by (with_reducible repeat (first | refine blk_drewN ?_ _ | refine blk_drew ?_ | refine blk_alloc ?_ _)); exact BK566.out) hb); have n6_ := Aside0.mk (below_step (by repeat (first | (with_reducible first | exact HB.out | apply below_alloc | apply pw_below_drewN | apply below_drew1 | refine below_set ?_ GE555.out | refine below_set ?_ GE559.out | refine below_set ?_ GE566.out) | exact HB.out)) hb); have n7_ := Aside0.mk (hbox); have n8_ := Aside0.mk ((by rw [hg]; exact (below_size (by repeat (first | (with_reducible first | exact HB.out | apply below_alloc | apply pw_below_drewN | apply below_drew1 | refine below_set ?_ GE555.out | refine below_set ?_ GE559.out | refine below_set ?_ GE566.out) | exact HB.out))) : w.heap.size ≤ gb573)); have n9_ := Aside0.mk ((by rw [hg]; exact (below_size (by repeat (first | (with_reducible first | exact HB.out | apply below_alloc | apply pw_below_drewN | apply below_drew1 | refine below_set ?_ GE555.out | refine below_set ?_ GE559.out | refine below_set ?_ GE566.out) | exact HB.out))) : w.heap.size ≤ gb573)); have n10_ := Aside0.mk ((by rw [hg]; exact Nat.ne_of_lt (blk_lt (g := gb555) (o := .cells #[.int .i64 t552, .int .i64 t553] 29 (0, 0)) (by (with_reducible repeat (first | refine blk_drewN ?_ _ | refine blk_drew ?_ | refine blk_alloc ?_ _)); exact BK555.out)) : gb555 ≠ gb573)); have n11_ := Aside0.mk ((by rw [hg]; exact Nat.ne_of_gt (blk_lt (g := gb555) (o := .cells #[.int .i64 t552, .int .i64 t553] 29 (0, 0)) (by (with_reducible repeat (first | refine blk_drewN ?_ _ | refine blk_drew ?_ | refine blk_alloc ?_ _)); exact BK555.out)) : gb573 ≠ gb555)); have n12_ := Aside0.mk ((by rw [hg]; exact Nat.ne_of_lt (blk_lt (g := gb559) (o := .cells #[.int .i64 t556, .int .i64 t557] 29 (0, 0)) (by (with_reducible repeat (first | refine blk_drewN ?_ _ | refine blk_drew ?_ | refine blk_alloc ?_ _)); exact BK559.out)) : gb559 ≠ gb573)); have n13_ := Aside0.mk ((by rw [hg]; exact Nat.ne_of_gt (blk_lt (g := gb559) (o := .cells #[.int .i64 t556, .int .i64 t557] 29 (0, 0)) (by (with_reducible repeat (first | refine blk_drewN ?_ _ | refine blk_drew ?_ | refine blk_alloc ?_ _)); exact BK559.out)) : gb573 ≠ gb559)); have n14_ := Aside0.mk ((by rw [hg]; exact Nat.ne_of_lt (blk_lt (g := gb566) (o := .cells #[.int .i64 t563, .int .i64 t564] 29 (0, 0)) (by (with_reducible repeat (first | refine blk_drewN ?_ _ | refine blk_drew ?_ | refine blk_alloc ?_ _)); exact BK566.out)) : gb566 ≠ gb573)); have n15_ := Aside0.mk ((by rw [hg]; exact Nat.ne_of_gt (blk_lt (g := gb566) (o := .cells #[.int .i64 t563, .int .i64 t564] 29 (0, 0)) (by (with_reducible repeat (first | refine blk_drewN ?_ _ | refine blk_drew ?_ | refine blk_alloc ?_ _)); exact BK566.out)) : gb573 ≠ gb566)); clear HO551; clear HO562; clear HO569; clear BK555; clear BK559; clear BK566; clear HB; have HO551 := n0_; have HO562 := n1_; have HO569 := n2_; have BK555 := n3_; have BK559 := n4_; have BK566 := n5_; have HB := n6_; have BK573 := n7_; have GW573 := n8_; have GE573 := n9_; have NB555_573 := n10_; have NB573_555 := n11_; have NB559_573 := n12_; have NB573_559 := n13_; have NB566_573 := n14_; have NB573_566 := n15_; clear n0_ n1_ n2_ n3_ n4_ n5_ n6_ n7_ n8_ n9_ n10_ n11_ n12_ n13_ n14_ n15_; clear hb hbox hg; have hnb40 := NB573_555.out; have hnc40 := NB555_573.out; have hnb41 := NB573_559.out; have hnc41 := NB559_573.out; have hnb42 := NB573_566.out; have hnc42 := NB566_573.out; have hcz43_0 : w39.cell? ⟨gb573, 0, none⟩ = some (.int .i64 0) := (blk_cell BK573.out 0).trans rfl; have hcz43_1 : w39.cell? ⟨gb573, 1, none⟩ = some (.int .i64 0) := (blk_cell BK573.out 1).trans rfl; have hfz43_0 := blk_frozen BK573.out 0; have hfz43_1 := blk_frozen BK573.out 1; have hcz44_0 : w39.cell? ⟨gb555, 0, none⟩ = some (.int .i64 t552) := (blk_cell BK555.out 0).trans rfl; have hcz44_1 : w39.cell? ⟨gb555, 1, none⟩ = some (.int .i64 t553) := (blk_cell BK555.out 1).trans rfl; have hfz44_0 := blk_frozen BK555.out 0; have hfz44_1 := blk_frozen BK555.out 1; have hcz45_0 : w39.cell? ⟨gb559, 0, none⟩ = some (.int .i64 t556) := (blk_cell BK559.out 0).trans rfl; have hcz45_1 : w39.cell? ⟨gb559, 1, none⟩ = some (.int .i64 t557) := (blk_cell BK559.out 1).trans rfl; have hfz45_0 := blk_frozen BK559.out 0; have hfz45_1 := blk_frozen BK559.out 1) | (go_at_call 40; (with_reducible refine (interval_Edges.calls k _ _ y549 t574 _ ?side1 ?side2 A9.out).mono ?_); (case side1 => refine (Kd.R_reads' (e := 29) (base := w.heap.size) (ok := fun k_ => ((((((True ∧ k_ ≠ gb555) ∧ k_ ≠ gb559) ∧ some k_ ≠ (.slice Ao29 y560.length co29 : Value).ownBlock) ∧ k_ ≠ gb566) ∧ some k_ ≠ (.slice Ao37 y567.length co37 : Value).ownBlock) ∧ k_ ≠ gb573)) (n := y549.length) (c := co19) ?_).2.2; exact (by (with_reducible repeat (first | apply Kd.R_alloc | apply Kd.R_drewN | apply Kd.R_drew)); exact (Kd.R_mono (Kd.R_far (p := ⟨gb573, 1, none⟩) (Kd.R_far (p := ⟨gb573, 0, none⟩) (Kd.R_mono HO551.out (fun k_ hk => (⟨hk, hk.2⟩ : _ ∧ k_ ≠ gb573))) (fun _ hk => hk.2) (.int .i64 t570)) (fun _ hk => hk.2) (.int .i64 t571)) (fun _ h_ => h_.1)))); (case side2 => exact (Kd.R_reads' HO551.out).2.1); rintro e w46 ⟨v575, rfl, ho0, hb⟩; have n0_ := Aside0.mk (Kd.R_below (by (with_reducible repeat (first | apply Kd.R_alloc | apply Kd.R_drewN | apply Kd.R_drew)); exact (Kd.R_mono (Kd.R_far (p := ⟨gb573, 1, none⟩) (Kd.R_far (p := ⟨gb573, 0, none⟩) (Kd.R_mono HO551.out (fun k_ hk => (⟨hk, hk.2⟩ : _ ∧ k_ ≠ gb573))) (fun _ hk => hk.2) (.int .i64 t570)) (fun _ hk => hk.2) (.int .i64 t571)) (fun _ h_ => h_.1))) hb); have n1_ := Aside0.mk (Kd.R_below (by (with_reducible repeat (first | apply Kd.R_alloc | apply Kd.R_drewN | apply Kd.R_drew)); exact (Kd.R_mono (Kd.R_far (p := ⟨gb573, 1, none⟩) (Kd.R_far (p := ⟨gb573, 0, none⟩) (Kd.R_mono HO562.out (fun k_ hk => (⟨hk, hk.2⟩ : _ ∧ k_ ≠ gb573))) (fun _ hk => hk.2) (.int .i64 t570)) (fun _ hk => hk.2) (.int .i64 t571)) (fun _ h_ => h_.1))) hb); have n2_ := Aside0.mk (Kd.R_below (by (with_reducible repeat (first | apply Kd.R_alloc | apply Kd.R_drewN | apply Kd.R_drew)); exact (Kd.R_mono (Kd.R_far (p := ⟨gb573, 1, none⟩) (Kd.R_far (p := ⟨gb573, 0, none⟩) (Kd.R_mono HO569.out (fun k_ hk => (⟨hk, hk.2⟩ : _ ∧ k_ ≠ gb573))) (fun _ hk => hk.2) (.int .i64 t570)) (fun _ hk => hk.2) (.int .i64 t571)) (fun _ h_ => h_.1))) hb); have n3_ := Aside0.mk (Kd.R_lower ho0 (below_size (by repeat (first | (with_reducible first | exact HB.out | apply below_alloc | apply pw_below_drewN | apply below_drew1 | refine below_set ?_ GE555.out | refine below_set ?_ GE559.out | refine below_set ?_ GE566.out | refine below_set ?_ GE573.out) | exact HB.out)))); have n4_ := Aside0.mk (blk_below (g := gb555) (o := .cells #[.int .i64 t552, .int .i64 t553] 29 (0, 0)) (by (with_reducible repeat (first | refine blk_drewN ?_ _ | refine blk_drew ?_ | refine blk_alloc ?_ _)); refine blk_far ?_ NB555_573.out _; (with_reducible repeat (first | refine blk_drewN ?_ _ | refine blk_drew ?_ | refine blk_alloc ?_ _)); refine blk_far ?_ NB555_573.out _; (with_reducible repeat (first | refine blk_drewN ?_ _ | refine blk_drew ?_ | refine blk_alloc ?_ _)); exact BK555.out) hb); have n5_ := Aside0.mk (blk_below (g := gb559) (o := .cells #[.int .i64 t556, .int .i64 t557] 29 (0, 0)) (by (with_reducible repeat (first | refine blk_drewN ?_ _ | refine blk_drew ?_ | refine blk_alloc ?_ _)); refine blk_far ?_ NB559_573.out _; (with_reducible repeat (first | refine blk_drewN ?_ _ | refine blk_drew ?_ | refine blk_alloc ?_ _)); refine blk_far ?_ NB559_573.out _; (with_reducible repeat (first | refine blk_drewN ?_ _ | refine blk_drew ?_ | refine blk_alloc ?_ _)); exact BK559.out) hb); have n6_ := Aside0.mk (blk_below (g := gb566) (o := .cells #[.int .i64 t563, .int .i64 t564] 29 (0, 0)) (by (with_reducible repeat (first | refine blk_drewN ?_ _ | refine blk_drew ?_ | refine blk_alloc ?_ _)); refine blk_far ?_ NB566_573.out _; (with_reducible repeat (first | refine blk_drewN ?_ _ | refine blk_drew ?_ | refine blk_alloc ?_ _)); refine blk_far ?_ NB566_573.out _; (with_reducible repeat (first | refine blk_drewN ?_ _ | refine blk_drew ?_ | refine blk_alloc ?_ _)); exact BK566.out) hb); have n7_ := Aside0.mk (blk_below (g := gb573) (o := .cells #[.int .i64 t570, .int .i64 t571] 29 (0, 0)) (by (with_reducible repeat (first | refine blk_drewN ?_ _ | refine blk_drew ?_ | refine blk_alloc ?_ _)); refine blk_put (cs := #[.int .i64 t570, .int .i64 0]) ?_ 1 _ rfl; (with_reducible repeat (first | refine blk_drewN ?_ _ | refine blk_drew ?_ | refine blk_alloc ?_ _)); refine blk_put (cs := #[.int .i64 0, .int .i64 0]) ?_ 0 _ rfl; (with_reducible repeat (first | refine blk_drewN ?_ _ | refine blk_drew ?_ | refine blk_alloc ?_ _)); exact BK573.out) hb); have n8_ := Aside0.mk (below_step (by repeat (first | (with_reducible first | exact HB.out | apply below_alloc | apply pw_below_drewN | apply below_drew1 | refine below_set ?_ GE555.out | refine below_set ?_ GE559.out | refine below_set ?_ GE566.out | refine below_set ?_ GE573.out) | exact HB.out)) hb); clear HO551; clear HO562; clear HO569; clear BK555; clear BK559; clear BK566; clear BK573; clear HB; have HO551 := n0_; have HO562 := n1_; have HO569 := n2_; have HO576 := n3_; have BK555 := n4_; have BK559 := n5_; have BK566 := n6_; have BK573 := n7_; have HB := n8_; clear n0_ n1_ n2_ n3_ n4_ n5_ n6_ n7_ n8_; (try clear hb); (try clear hb2); (try clear hk); (try clear hi); (try clear ho0)) | ((with_reducible refine gate_dst (N := 59) rfl ?_); (try (refine gate_guard (by rfl) ?_; dsimp only)); refine Kd.R_lit (Kd.int .i64) _ 3 ?hg (N := 59) ?hd (xs := ([1, 4, 5, 6, 9] : List Int)) (inner := [.int .i64 1, .int .i64 4, .int .i64 5, .int .i64 6, .int .i64 9]) (ok := fun _ => True) (okp := fun _ => True) ?hr ?hp (fun _ hk => hk) trivial (Below.refl _ _) (Nat.le_refl _) (by simp) ?_; (case hd => rfl); (case hg => rfl); (case hr => first | (go_simp; done) | (go_simp; rfl)); (case hp => exact (Reps.one (show Kd.M (Kd.int .i64) _ _ _ 1 [.int .i64 1] from rfl) (Reps.one (show Kd.M (Kd.int .i64) _ _ _ 4 [.int .i64 4] from rfl) (Reps.one (show Kd.M (Kd.int .i64) _ _ _ 5 [.int .i64 5] from rfl) (Reps.one (show Kd.M (Kd.int .i64) _ _ _ 6 [.int .i64 6] from rfl) (Reps.one (show Kd.M (Kd.int .i64) _ _ _ 9 [.int .i64 9] from rfl) (Reps.none _ _))))))); intro v578 w47 ho48 hb hg_ hnew_; clear hg_ hnew_; (first | rw [← Ny577.out] at ho48 | (simp only [Int.reduceToNat] at ho48; rw [← Ny577.out] at ho48)); have n0_ := Aside0.mk (Kd.R_below (by (with_reducible repeat (first | apply Kd.R_alloc | apply Kd.R_drewN | apply Kd.R_drew)); exact HO551.out) hb); have n1_ := Aside0.mk (Kd.R_below (by (with_reducible repeat (first | apply Kd.R_alloc | apply Kd.R_drewN | apply Kd.R_drew)); exact HO562.out) hb); have n2_ := Aside0.mk (Kd.R_below (by (with_reducible repeat (first | apply Kd.R_alloc | apply Kd.R_drewN | apply Kd.R_drew)); exact HO569.out) hb); have n3_ := Aside0.mk (Kd.R_elder' (by (with_reducible repeat (first | apply Kd.R_alloc | apply Kd.R_drewN | apply Kd.R_drew)); exact HO576.out) (Kd.R_base ho48) hb); have n4_ := Aside0.mk (Kd.R_lower (Kd.R_new' ho48 (Kd.R_lt (by (with_reducible repeat (first | apply Kd.R_alloc | apply Kd.R_drewN | apply Kd.R_drew)); exact HO576.out))) (below_size (by repeat (first | (with_reducible first | exact HB.out | apply below_alloc | apply pw_below_drewN | apply below_drew1 | refine below_set ?_ GE555.out | refine below_set ?_ GE559.out | refine below_set ?_ GE566.out | refine below_set ?_ GE573.out) | exact HB.out)))); have n5_ := Aside0.mk (blk_below (g := gb555) (o := .cells #[.int .i64 t552, .int .i64 t553] 29 (0, 0)) (by (with_reducible repeat (first | refine blk_drewN ?_ _ | refine blk_drew ?_ | refine blk_alloc ?_ _)); exact BK555.out) hb); have n6_ := Aside0.mk (blk_below (g := gb559) (o := .cells #[.int .i64 t556, .int .i64 t557] 29 (0, 0)) (by (with_reducible repeat (first | refine blk_drewN ?_ _ | refine blk_drew ?_ | refine blk_alloc ?_ _)); exact BK559.out) hb); have n7_ := Aside0.mk (blk_below (g := gb566) (o := .cells #[.int .i64 t563, .int .i64 t564] 29 (0, 0)) (by (with_reducible repeat (first | refine blk_drewN ?_ _ | refine blk_drew ?_ | refine blk_alloc ?_ _)); exact BK566.out) hb); have n8_ := Aside0.mk (blk_below (g := gb573) (o := .cells #[.int .i64 t570, .int .i64 t571] 29 (0, 0)) (by (with_reducible repeat (first | refine blk_drewN ?_ _ | refine blk_drew ?_ | refine blk_alloc ?_ _)); exact BK573.out) hb); have n9_ := Aside0.mk (below_step (by repeat (first | (with_reducible first | exact HB.out | apply below_alloc | apply pw_below_drewN | apply below_drew1 | refine below_set ?_ GE555.out | refine below_set ?_ GE559.out | refine below_set ?_ GE566.out | refine below_set ?_ GE573.out) | exact HB.out)) hb); clear HO551; clear HO562; clear HO569; clear HO576; clear BK555; clear BK559; clear BK566; clear BK573; clear HB; have HO551 := n0_; have HO562 := n1_; have HO569 := n2_; have HO576 := n3_; have HO579 := n4_; have BK555 := n5_; have BK559 := n6_; have BK566 := n7_; have BK573 := n8_; have HB := n9_; clear n0_ n1_ n2_ n3_ n4_ n5_ n6_ n7_ n8_ n9_; clear hb ho48; obtain ⟨Ao49, co49, eo49⟩ := Kd.R_slice HO576.out; subst eo49; obtain ⟨Ao50, co50, eo50⟩ := Kd.R_slice HO579.out; subst eo50) | (go_at_call 21; (with_reducible refine (slices_Equal_int_int.calls k _ _ t574 _ _ y577 true _ ?side1 ?side2 ?side3 ?side4 A10.out).mono ?_); (case side1 => repeat (first | exact (Kd.R_reads' HO576.out).2.2 | (with_reducible refine Kd.C_alloc ?_ _) | (with_reducible refine Kd.C_drewN ?_ _) | (with_reducible refine Kd.C_drew ?_))); (case side2 => exact (Kd.R_reads' HO576.out).2.1); (case side3 => repeat (first | exact (Kd.R_reads' HO579.out).2.2 | (with_reducible refine Kd.C_alloc ?_ _) | (with_reducible refine Kd.C_drewN ?_ _) | (with_reducible refine Kd.C_drew ?_))); (case side4 => exact (Kd.R_reads' HO579.out).2.1); rintro e w' ⟨rfl, ⟨nd, rfl⟩⟩; have hcz51_0 : w47.cell? ⟨gb566, 0, none⟩ = some (.int .i64 t563) := (blk_cell BK566.out 0).trans rfl; have hcz51_1 : w47.cell? ⟨gb566, 1, none⟩ = some (.int .i64 t564) := (blk_cell BK566.out 1).trans rfl; have hfz51_0 := blk_frozen BK566.out 0; have hfz51_1 := blk_frozen BK566.out 1) | (go_at_call 61; (with_reducible refine (interval_Faulty.calls k _ _ y567 t581 _ ?side1 ?side2 A14.out).mono ?_); (case side1 => repeat (first | exact (Kd.R_reads' HO569.out).2.2 | (with_reducible refine Kd.C_alloc ?_ _) | (with_reducible refine Kd.C_drewN ?_ _) | (with_reducible refine Kd.C_drew ?_))); (case side2 => exact (Kd.R_reads' HO569.out).2.1); rintro e w52 ⟨rfl, hb⟩; have n0_ := Aside0.mk (Kd.R_below (by (with_reducible repeat (first | apply Kd.R_alloc | apply Kd.R_drewN | apply Kd.R_drew)); exact HO551.out) hb); have n1_ := Aside0.mk (Kd.R_below (by (with_reducible repeat (first | apply Kd.R_alloc | apply Kd.R_drewN | apply Kd.R_drew)); exact HO562.out) hb); have n2_ := Aside0.mk (Kd.R_below (by (with_reducible repeat (first | apply Kd.R_alloc | apply Kd.R_drewN | apply Kd.R_drew)); exact HO569.out) hb); have n3_ := Aside0.mk (Kd.R_below (by (with_reducible repeat (first | apply Kd.R_alloc | apply Kd.R_drewN | apply Kd.R_drew)); exact HO576.out) hb); have n4_ := Aside0.mk (Kd.R_below (by (with_reducible repeat (first | apply Kd.R_alloc | apply Kd.R_drewN | apply Kd.R_drew)); exact HO579.out) hb); have n5_ := Aside0.mk (blk_below (g := gb555) (o := .cells #[.int .i64 t552, .int .i64 t553] 29 (0, 0)) (by (with_reducible repeat (first | refine blk_drewN ?_ _ | refine blk_drew ?_ | refine blk_alloc ?_ _)); exact BK555.out) hb); have n6_ := Aside0.mk (blk_below (g := gb559) (o := .cells #[.int .i64 t556, .int .i64 t557] 29 (0, 0)) (by (with_reducible repeat (first | refine blk_drewN ?_ _ | refine blk_drew ?_ | refine blk_alloc ?_ _)); exact BK559.out) hb); have n7_ := Aside0.mk (blk_below (g := gb566) (o := .cells #[.int .i64 t563, .int .i64 t564] 29 (0, 0)) (by (with_reducible repeat (first | refine blk_drewN ?_ _ | refine blk_drew ?_ | refine blk_alloc ?_ _)); exact BK566.out) hb); have n8_ := Aside0.mk (blk_below (g := gb573) (o := .cells #[.int .i64 t570, .int .i64 t571] 29 (0, 0)) (by (with_reducible repeat (first | refine blk_drewN ?_ _ | refine blk_drew ?_ | refine blk_alloc ?_ _)); exact BK573.out) hb); have n9_ := Aside0.mk (below_step (by repeat (first | (with_reducible first | exact HB.out | apply below_alloc | apply pw_below_drewN | apply below_drew1 | refine below_set ?_ GE555.out | refine below_set ?_ GE559.out | refine below_set ?_ GE566.out | refine below_set ?_ GE573.out) | exact HB.out)) hb); clear HO551; clear HO562; clear HO569; clear HO576; clear HO579; clear BK555; clear BK559; clear BK566; clear BK573; clear HB; have HO551 := n0_; have HO562 := n1_; have HO569 := n2_; have HO576 := n3_; have HO579 := n4_; have BK555 := n5_; have BK559 := n6_; have BK566 := n7_; have BK573 := n8_; have HB := n9_; clear n0_ n1_ n2_ n3_ n4_ n5_ n6_ n7_ n8_ n9_; (try clear hb); (try clear hb2); (try clear hk); (try clear hi); have hcz53_0 : w52.cell? ⟨gb573, 0, none⟩ = some (.int .i64 t570) := (blk_cell BK573.out 0).trans rfl; have hcz53_1 : w52.cell? ⟨gb573, 1, none⟩ = some (.int .i64 t571) := (blk_cell BK573.out 1).trans rfl; have hfz53_0 := blk_frozen BK573.out 0; have hfz53_1 := blk_frozen BK573.out 1))
          go_ret
          exact ⟨by first | rfl | (simp [errW_none, errW_some] <;> rfl) | (simp [*, errW_none, errW_some] <;> rfl), by repeat (first | (with_reducible first | exact HB.out | apply below_alloc | apply pw_below_drewN | apply below_drew1 | refine below_set ?_ GE555.out | refine below_set ?_ GE559.out | refine below_set ?_ GE566.out | refine below_set ?_ GE573.out) | exact HB.out)⟩
         ·rw [if_neg c16] at H
          exact absurd H (by simp)
        ·rw [if_neg c15] at H
         exact absurd H (by simp)
       ·rw [if_neg c13] at H
        exact absurd H (by simp)
      ·rw [if_neg c12] at H
       exact absurd H (by simp)
     ·replace c11 := Bool.eq_false_iff.mpr c11
      subst c11
      have H1 : (none) = some r := by rw [if_neg (show ¬ (false = true) by decide)] at H; exact H
      clear H
      have H := H1
      clear H1
      exact absurd H (by simp)
    ·replace c8 := Bool.eq_false_iff.mpr c8
     subst c8
     have H1 : (none) = some r := by rw [if_neg (show ¬ (false = true) by decide)] at H; exact H
     clear H
     have H := H1
     clear H1
     exact absurd H (by simp)
   ·rw [if_neg c7] at H
    exact absurd H (by simp)
  ·rw [if_neg c6] at H
   exact absurd H (by simp)
 ·rw [if_neg c5] at H
  exact absurd H (by simp)

end Go.Proofs.Ytlfilhplklifjaa.X

namespace Go.Proofs.Ytlfilhplklifjaa.X
open Go.RowKit Go.Proofs.YtlfilhplklifjaaW.PrintWords Go.Proofs.YtlfilhplklifjaaW.PrintLast Go.Proofs.YtlfilhplklifjaaW.PrintMore
attribute [local go_sem] max2_int min2_int max_two min_two max_three min_three max_four min_four   -- for this text's walks alone
set_option linter.unusedVariables false
set_option linter.unusedSimpArgs false

/-! ### drift_Has: function 44 -/
def drift_Has.f (a0_0 : Int) (a0_1 : Int) (a1 : Int) : Option (Bool) := (drift_Check.f a0_0 a0_1).bind fun t618 => (if t618 = 0 then (if a0_0 ≤ a1 then (some (decide (a1 ≤ a0_1))) else (some false)) else (some false))
set_option maxHeartbeats 8000000 in
set_option maxRecDepth 100000 in
theorem drift_Has.calls (a0_0 : Int) (a0_1 : Int) (a1 : Int) (r : Bool) (w : World) (h : drift_Has.f a0_0 a0_1 a1 = some r) :
  Calls Try.prog 44 #[.agg #[.int .i64 a0_0, .int .i64 a0_1], .int .i64 a1] w fun e w' => e = .returned (.bool r) ∧ Below w.heap.size w w' := by
 have hu29 := Try.underlying29
 have HB := Aside0.mk (Below.refl w.heap.size w)
 have H : ((drift_Check.f a0_0 a0_1).bind fun t618 => (if t618 = 0 then (if a0_0 ≤ a1 then (some (decide (a1 ≤ a0_1))) else (some false)) else (some false))) = some r := h
 clear h
 replace H := Option.bind_eq_some_iff.mp H
 obtain ⟨t618, A30, H⟩ := H
 replace H : (if t618 = 0 then (if a0_0 ≤ a1 then (some (decide (a1 ≤ a0_1))) else (some false)) else (some false)) = some r := H
 have A3 := Aside0.mk A30
 clear A30
 by_cases c4 : t618 = 0
 ·rw [if_pos c4] at H
  have c4b0 : (t618 == 0) = true := beq_iff_eq.mpr c4
  have c4b1 : (t618 != 0) = false := bne_eq_false_iff_eq.mpr c4
  clear c4
  by_cases c5 : a0_0 ≤ a1
  ·rw [if_pos c5] at H
   have c5b0 : decide (a0_0 ≤ a1) = true := decide_eq_true c5
   clear c5
   obtain rfl := Option.some.inj H
   go_enter Try.func44, Try.ntmps44
   go_wp2_with (first | ((with_reducible refine gate_dst (N := 2) rfl ?_); refine box_event ?hg (N := 2) ?hd (cs := #[.int .i64 a0_0, .int .i64 a0_1]) (t := 29) ?hr ?_; (case hd => rfl); (case hg => rfl); (case hr => first | (go_simp; done) | (go_simp; rfl)); intro gb617 hg w6 hbox hb; have n0_ := Aside0.mk (below_step (by repeat (first | (with_reducible first | exact HB.out | apply below_alloc | apply pw_below_drewN | apply below_drew1) | exact HB.out)) hb); have n1_ := Aside0.mk (hbox); have n2_ := Aside0.mk ((by rw [hg]; exact (below_size (by repeat (first | (with_reducible first | exact HB.out | apply below_alloc | apply pw_below_drewN | apply below_drew1) | exact HB.out))) : w.heap.size ≤ gb617)); have n3_ := Aside0.mk ((by rw [hg]; exact (below_size (by repeat (first | (with_reducible first | exact HB.out | apply below_alloc | apply pw_below_drewN | apply below_drew1) | exact HB.out))) : w.heap.size ≤ gb617)); clear HB; have HB := n0_; have BK617 := n1_; have GW617 := n2_; have GE617 := n3_; clear n0_ n1_ n2_ n3_; clear hb hbox hg; have hcz7_0 : w6.cell? ⟨gb617, 0, none⟩ = some (.int .i64 a0_0) := (blk_cell BK617.out 0).trans rfl; have hcz7_1 : w6.cell? ⟨gb617, 1, none⟩ = some (.int .i64 a0_1) := (blk_cell BK617.out 1).trans rfl; have hfz7_0 := blk_frozen BK617.out 0; have hfz7_1 := blk_frozen BK617.out 1) | ((with_reducible refine gate_callee (f := 41) rfl ?_); refine goesL_ (some 6) rfl rfl Try.func41 (by kernel_rfl) rfl #[.agg #[.int .i64 a0_0, .int .i64 a0_1]] rfl (by (try simp only [List.map_toArray, List.map_cons, List.map_nil]); first | done | rfl | (simp only [List.length_drop, List.length_take]; rfl)) ?_; (with_reducible refine (drift_Check.calls a0_0 a0_1 t618 _ A3.out).mono ?_); rintro e w8 ⟨rfl, hb⟩; refine ⟨_, rfl, ?_⟩; have n0_ := Aside0.mk (blk_below (g := gb617) (o := .cells #[.int .i64 a0_0, .int .i64 a0_1] 29 (0, 0)) (by (with_reducible repeat (first | refine blk_drewN ?_ _ | refine blk_drew ?_ | refine blk_alloc ?_ _)); exact BK617.out) hb); have n1_ := Aside0.mk (below_step (by repeat (first | (with_reducible first | exact HB.out | apply below_alloc | apply pw_below_drewN | apply below_drew1 | refine below_set ?_ GE617.out) | exact HB.out)) hb); clear BK617; clear HB; have BK617 := n0_; have HB := n1_; clear n0_ n1_; (try clear hb); (try clear hb2); (try clear hk); (try clear hi); have hcz9_0 : w8.cell? ⟨gb617, 0, none⟩ = some (.int .i64 a0_0) := (blk_cell BK617.out 0).trans rfl; have hcz9_1 : w8.cell? ⟨gb617, 1, none⟩ = some (.int .i64 a0_1) := (blk_cell BK617.out 1).trans rfl; have hfz9_0 := blk_frozen BK617.out 0; have hfz9_1 := blk_frozen BK617.out 1))
   go_ret
   exact ⟨by first | rfl | (simp [errW_none, errW_some] <;> rfl) | (simp [*, errW_none, errW_some] <;> rfl), by repeat (first | (with_reducible first | exact HB.out | apply below_alloc | apply pw_below_drewN | apply below_drew1 | refine below_set ?_ GE617.out) | exact HB.out)⟩
  ·rw [if_neg c5] at H
   have c5b0 : decide (a0_0 ≤ a1) = false := decide_eq_false c5
   clear c5
   obtain rfl := Option.some.inj H
   go_enter Try.func44, Try.ntmps44
   go_wp2_with (first | ((with_reducible refine gate_dst (N := 2) rfl ?_); refine box_event ?hg (N := 2) ?hd (cs := #[.int .i64 a0_0, .int .i64 a0_1]) (t := 29) ?hr ?_; (case hd => rfl); (case hg => rfl); (case hr => first | (go_simp; done) | (go_simp; rfl)); intro gb617 hg w10 hbox hb; have n0_ := Aside0.mk (below_step (by repeat (first | (with_reducible first | exact HB.out | apply below_alloc | apply pw_below_drewN | apply below_drew1) | exact HB.out)) hb); have n1_ := Aside0.mk (hbox); have n2_ := Aside0.mk ((by rw [hg]; exact (below_size (by repeat (first | (with_reducible first | exact HB.out | apply below_alloc | apply pw_below_drewN | apply below_drew1) | exact HB.out))) : w.heap.size ≤ gb617)); have n3_ := Aside0.mk ((by rw [hg]; exact (below_size (by repeat (first | (with_reducible first | exact HB.out | apply below_alloc | apply pw_below_drewN | apply below_drew1) | exact HB.out))) : w.heap.size ≤ gb617)); clear HB; have HB := n0_; have BK617 := n1_; have GW617 := n2_; have GE617 := n3_; clear n0_ n1_ n2_ n3_; clear hb hbox hg; have hcz11_0 : w10.cell? ⟨gb617, 0, none⟩ = some (.int .i64 a0_0) := (blk_cell BK617.out 0).trans rfl; have hcz11_1 : w10.cell? ⟨gb617, 1, none⟩ = some (.int .i64 a0_1) := (blk_cell BK617.out 1).trans rfl; have hfz11_0 := blk_frozen BK617.out 0; have hfz11_1 := blk_frozen BK617.out 1) | ((with_reducible refine gate_callee (f := 41) rfl ?_); refine goesL_ (some 6) rfl rfl Try.func41 (by kernel_rfl) rfl #[.agg #[.int .i64 a0_0, .int .i64 a0_1]] rfl (by (try simp only [List.map_toArray, List.map_cons, List.map_nil]); first | done | rfl | (simp only [List.length_drop, List.length_take]; rfl)) ?_; (with_reducible refine (drift_Check.calls a0_0 a0_1 t618 _ A3.out).mono ?_); rintro e w12 ⟨rfl, hb⟩; refine ⟨_, rfl, ?_⟩; have n0_ := Aside0.mk (blk_below (g := gb617) (o := .cells #[.int .i64 a0_0, .int .i64 a0_1] 29 (0, 0)) (by (with_reducible repeat (first | refine blk_drewN ?_ _ | refine blk_drew ?_ | refine blk_alloc ?_ _)); exact BK617.out) hb); have n1_ := Aside0.mk (below_step (by repeat (first | (with_reducible first | exact HB.out | apply below_alloc | apply pw_below_drewN | apply below_drew1 | refine below_set ?_ GE617.out) | exact HB.out)) hb); clear BK617; clear HB; have BK617 := n0_; have HB := n1_; clear n0_ n1_; (try clear hb); (try clear hb2); (try clear hk); (try clear hi); have hcz13_0 : w12.cell? ⟨gb617, 0, none⟩ = some (.int .i64 a0_0) := (blk_cell BK617.out 0).trans rfl; have hcz13_1 : w12.cell? ⟨gb617, 1, none⟩ = some (.int .i64 a0_1) := (blk_cell BK617.out 1).trans rfl; have hfz13_0 := blk_frozen BK617.out 0; have hfz13_1 := blk_frozen BK617.out 1))
   go_ret
   exact ⟨by first | rfl | (simp [errW_none, errW_some] <;> rfl) | (simp [*, errW_none, errW_some] <;> rfl), by repeat (first | (with_reducible first | exact HB.out | apply below_alloc | apply pw_below_drewN | apply below_drew1 | refine below_set ?_ GE617.out) | exact HB.out)⟩
 ·rw [if_neg c4] at H
  have c4b0 : (t618 == 0) = false := beq_eq_false_iff_ne.mpr c4
  have c4b1 : (t618 != 0) = true := bne_iff_ne.mpr c4
  obtain rfl := Option.some.inj H
  go_enter Try.func44, Try.ntmps44
  go_wp2_with (first | ((with_reducible refine gate_dst (N := 2) rfl ?_); refine box_event ?hg (N := 2) ?hd (cs := #[.int .i64 a0_0, .int .i64 a0_1]) (t := 29) ?hr ?_; (case hd => rfl); (case hg => rfl); (case hr => first | (go_simp; done) | (go_simp; rfl)); intro gb617 hg w14 hbox hb; have n0_ := Aside0.mk (below_step (by repeat (first | (with_reducible first | exact HB.out | apply below_alloc | apply pw_below_drewN | apply below_drew1) | exact HB.out)) hb); have n1_ := Aside0.mk (hbox); have n2_ := Aside0.mk ((by rw [hg]; exact (below_size (by repeat (first | (with_reducible first | exact HB.out | apply below_alloc | apply pw_below_drewN | apply below_drew1) | exact HB.out))) : w.heap.size ≤ gb617)); have n3_ := Aside0.mk ((by rw [hg]; exact (below_size (by repeat (first | (with_reducible first | exact HB.out | apply below_alloc | apply pw_below_drewN | apply below_drew1) | exact HB.out))) : w.heap.size ≤ gb617)); clear HB; have HB := n0_; have BK617 := n1_; have GW617 := n2_; have GE617 := n3_; clear n0_ n1_ n2_ n3_; clear hb hbox hg; have hcz15_0 : w14.cell? ⟨gb617, 0, none⟩ = some (.int .i64 a0_0) := (blk_cell BK617.out 0).trans rfl; have hcz15_1 : w14.cell? ⟨gb617, 1, none⟩ = some (.int .i64 a0_1) := (blk_cell BK617.out 1).trans rfl; have hfz15_0 := blk_frozen BK617.out 0; have hfz15_1 := blk_frozen BK617.out 1) | ((with_reducible refine gate_callee (f := 41) rfl ?_); refine goesL_ (some 6) rfl rfl Try.func41 (by kernel_rfl) rfl #[.agg #[.int .i64 a0_0, .int .i64 a0_1]] rfl (by (try simp only [List.map_toArray, List.map_cons, List.map_nil]); first | done | rfl | (simp only [List.length_drop, List.length_take]; rfl)) ?_; (with_reducible refine (drift_Check.calls a0_0 a0_1 t618 _ A3.out).mono ?_); rintro e w16 ⟨rfl, hb⟩; refine ⟨_, rfl, ?_⟩; have n0_ := Aside0.mk (blk_below (g := gb617) (o := .cells #[.int .i64 a0_0, .int .i64 a0_1] 29 (0, 0)) (by (with_reducible repeat (first | refine blk_drewN ?_ _ | refine blk_drew ?_ | refine blk_alloc ?_ _)); exact BK617.out) hb); have n1_ := Aside0.mk (below_step (by repeat (first | (with_reducible first | exact HB.out | apply below_alloc | apply pw_below_drewN | apply below_drew1 | refine below_set ?_ GE617.out) | exact HB.out)) hb); clear BK617; clear HB; have BK617 := n0_; have HB := n1_; clear n0_ n1_; (try clear hb); (try clear hb2); (try clear hk); (try clear hi)))
  go_ret
  exact ⟨by first | rfl | (simp [errW_none, errW_some] <;> rfl) | (simp [*, errW_none, errW_some] <;> rfl), by repeat (first | (with_reducible first | exact HB.out | apply below_alloc | apply pw_below_drewN | apply below_drew1 | refine below_set ?_ GE617.out) | exact HB.out)⟩

end Go.Proofs.Ytlfilhplklifjaa.X

namespace Go.Proofs.Ytlfilhplklifjaa.X
open Go.RowKit Go.Proofs.YtlfilhplklifjaaW.PrintWords Go.Proofs.YtlfilhplklifjaaW.PrintLast Go.Proofs.YtlfilhplklifjaaW.PrintMore
attribute [local go_sem] max2_int min2_int max_two min_two max_three min_three max_four min_four   -- for this text's walks alone
set_option linter.unusedVariables false
set_option linter.unusedSimpArgs false

/-! ### interval_Agree: function 69 -/
def interval_Agree.l0 : Nat → Int → List Int → List (S29) → Int → Int → Option (List Int)
 | 0, _, _, _, _, _ => none
 | k + 1, x1, x5, x11, x12, x13 => if x13 < x12 then (if 0 ≤ x13 then (if x13 < (x11.length : Int) then ((drift_Has.f ((rd_T29 x11 x13).f0) ((rd_T29 x11 x13).f1) x1).bind fun t621 => (if t621 = true then (if x5.length < 17592186044416 then (interval_Agree.l0 k x1 (x5 ++ [x13]) x11 x12 (wrap64 (x13 + 1))) else (none)) else (interval_Agree.l0 k x1 x5 x11 x12 (wrap64 (x13 + 1))))) else (none)) else (none)) else (some x5)
def interval_Agree.f (k : Nat) (l0 : List (S29)) (a1 : Int) : Option (List Int) := if (l0.length : Int) > 48 then (some ([] : List Int)) else (interval_Agree.l0 k a1 ([] : List Int) l0 (l0.length : Int) 0)
set_option maxHeartbeats 8000000 in
set_option maxRecDepth 100000 in
theorem interval_Agree.calls (k : Nat) (A0 : Option Addr) (c0 : Nat) (l0 : List (S29)) (a1 : Int) (r : List Int) (w : World) (hr0 : Kd.C k29 w A0 l0.length l0) (hc0 : l0.length ≤ c0) (h : interval_Agree.f k l0 a1 = some r) :
  Calls Try.prog 69 #[.slice A0 l0.length c0, .int .i64 a1] w fun e w' => ∃ v0_ : Value, e = .returned (v0_) ∧ Kd.R (Kd.int .i64) 3 w' w.heap.size (fun _ => True) v0_ r ∧ Below w.heap.size w w' := by
 have hu29 := Try.underlying29
 have HR0 := Aside0.mk hr0
 have HC0 := Aside0.mk hc0
 clear hr0 hc0
 have HB := Aside0.mk (Below.refl w.heap.size w)
 have H : (if (l0.length : Int) > 48 then (some ([] : List Int)) else (interval_Agree.l0 k a1 ([] : List Int) l0 (l0.length : Int) 0)) = some r := h
 clear h
 by_cases c3 : (l0.length : Int) > 48
 ·rw [if_pos c3] at H
  have c3b0 : decide (48 < (l0.length : Int)) = true := decide_eq_true c3
  have c3b1 : decide (48 < l0.length) = true := decide_eq_true (by omega)
  clear c3
  obtain rfl := Option.some.inj H
  go_enter Try.func69, Try.ntmps69
  go_wp2
  go_ret
  exact ⟨_, by first | rfl | (simp [errW_none, errW_some] <;> rfl) | (simp [*, errW_none, errW_some] <;> rfl), by first | exact Kd.R_nil _ _ _ _ _ | exact Kd.N_nil _ _ _ _ _ | exact Kd.V_nil _ _ _ _ _ | exact Kd.Q_nil _ _ _ _ _ | exact Kd.S_nil _ _ _ _ _, by repeat (first | (with_reducible first | exact HB.out | apply below_alloc | apply pw_below_drewN | apply below_drew1) | exact HB.out)⟩
 ·rw [if_neg c3] at H
  have c3b0 : decide (48 < (l0.length : Int)) = false := decide_eq_false c3
  have c3b1 : decide (48 < l0.length) = false := decide_eq_false (by omega)
  clear c3
  have H' := Aside0.mk H
  clear H
  go_enter Try.func69, Try.ntmps69
  go_wp2
  go_loopg [5, 13] k (fun kq v5 v13 w' => ∃ (x5_1 : List Int) (x13_1 : Int), v13 = .int .i64 x13_1 ∧ Aside0 (interval_Agree.l0 kq a1 x5_1 l0 (l0.length : Int) x13_1 = some r) ∧ Aside0 (kq ≤ k) ∧ Aside0 (Kd.R (Kd.int .i64) 3 w' w.heap.size (fun _ => True) v5 x5_1) ∧ Aside0 (Below w.heap.size w w'))
  case atStart => exact ⟨(([] : List Int)), (0), (by first | rfl | (simp; done) | (simp [*]; done)), H', ⟨Nat.le_refl _⟩, ⟨by first | exact Kd.R_nil _ _ _ _ _ | exact Kd.N_nil _ _ _ _ _ | exact Kd.V_nil _ _ _ _ _ | exact Kd.Q_nil _ _ _ _ _ | exact Kd.S_nil _ _ _ _ _⟩, ⟨by repeat (first | (with_reducible first | exact HB.out | apply below_alloc | apply pw_below_drewN | apply below_drew1) | exact HB.out)⟩⟩
  case round =>
   clear H'
   try clear p2
   try clear c3
   try clear c3b0
   try clear c3b1
   obtain ⟨x5_1, x13_1, rfl, HA, HK1, HO_5, HB⟩ := hrel
   cases gk with
   | zero => exact absurd HA.out (by simp [interval_Agree.l0])
   | succ k1 =>
    have H := HA.out
    clear HA
    simp only [interval_Agree.l0] at H
    by_cases c4 : x13_1 < (l0.length : Int)
    ·rw [if_pos c4] at H
     have c4b0 : decide (x13_1 < (l0.length : Int)) = true := decide_eq_true c4
     clear c4
     by_cases c5 : 0 ≤ x13_1
     ·rw [if_pos c5] at H
      have c5b0 : decide (0 ≤ x13_1) = true := decide_eq_true c5
      clear c5
      by_cases c6 : x13_1 < (l0.length : Int)
      ·rw [if_pos c6] at H
       have c6b0 : decide (x13_1 < (l0.length : Int)) = true := decide_eq_true c6
       clear c6
       replace H := Option.bind_eq_some_iff.mp H
       obtain ⟨t621, A70, H⟩ := H
       replace H : (if t621 = true then (if x5_1.length < 17592186044416 then (interval_Agree.l0 k1 a1 (x5_1 ++ [x13_1]) l0 (l0.length : Int) (wrap64 (x13_1 + 1))) else (none)) else (interval_Agree.l0 k1 a1 x5_1 l0 (l0.length : Int) (wrap64 (x13_1 + 1)))) = some r := H
       have A7 := Aside0.mk A70
       clear A70
       by_cases c8 : t621 = true
       ·subst c8
        have H1 : (if x5_1.length < 17592186044416 then (interval_Agree.l0 k1 a1 (x5_1 ++ [x13_1]) l0 (l0.length : Int) (wrap64 (x13_1 + 1))) else (none)) = some r := by rw [if_pos rfl] at H; exact H
        clear H
        have H := H1
        clear H1
        by_cases c9 : x5_1.length < 17592186044416
        ·rw [if_pos c9] at H
         have LMc9 := Aside0.mk c9
         clear c9
         obtain ⟨y622, hy622⟩ : ∃ y_ : List Int, y_ = (x5_1 ++ [x13_1]) := ⟨_, rfl⟩
         replace H : (interval_Agree.l0 k1 a1 y622 l0 (l0.length : Int) (wrap64 (x13_1 + 1))) = some r := by first | (rw [hy622]; with_reducible exact H) | (have H2_ := (Option.bind_some _ _).symm.trans H; rw [hy622]; with_reducible exact H2_) | (have H2_ := (Option.bind_some _ _).symm.trans H; with_reducible exact H2_) | with_reducible exact H | (rw [hy622]; exact H) | exact H
         have Ny622 := Aside0.mk hy622
         clear hy622
         have H' := Aside0.mk H
         clear H
         have p619 : 0 ≤ (x13_1 : Int) := of_decide_eq_true (by first | (with_reducible assumption) | assumption)
         have q619 : x13_1 < (l0.length : Int) := of_decide_eq_true (by first | (with_reducible assumption) | assumption)
         obtain ⟨ad619, e619, hx619_0, hx619_1⟩ := at_T29 HR0.out x13_1 p619 q619
         cases e619
         replace hx619_0 := (HB.out.cell (World.block_lt_of_cell? w _ hx619_0)).trans hx619_0
         replace hx619_1 := (HB.out.cell (World.block_lt_of_cell? w _ hx619_1)).trans hx619_1
         replace p619 := eq_true p619
         replace q619 := eq_true q619
         go_wp2_with (first | ((with_reducible refine gate_dst (N := 7) rfl ?_); refine box_event ?hg (N := 7) ?hd (cs := #[.int .i64 0, .int .i64 0]) (t := 29) ?hr ?_; (case hd => rfl); (case hg => rfl); (case hr => first | (go_simp; done) | (go_simp; rfl)); intro gb620 hg w10 hbox hb; have n0_ := Aside0.mk (Kd.R_below (by (with_reducible repeat (first | apply Kd.R_alloc | apply Kd.R_drewN | apply Kd.R_drew)); exact HO_5.out) hb); have n1_ := Aside0.mk (below_step (by repeat (first | (with_reducible first | exact HB.out | apply below_alloc | apply pw_below_drewN | apply below_drew1) | exact HB.out)) hb); have n2_ := Aside0.mk (hbox); have n3_ := Aside0.mk ((by rw [hg]; exact (below_size (by repeat (first | (with_reducible first | exact HB.out | apply below_alloc | apply pw_below_drewN | apply below_drew1) | exact HB.out))) : w.heap.size ≤ gb620)); have n4_ := Aside0.mk ((by rw [hg]; exact (below_size (by repeat (first | (with_reducible first | exact HB.out | apply below_alloc | apply pw_below_drewN | apply below_drew1) | exact HB.out))) : w.heap.size ≤ gb620)); clear HO_5; clear HB; have HO_5 := n0_; have HB := n1_; have BK620 := n2_; have GW620 := n3_; have GE620 := n4_; clear n0_ n1_ n2_ n3_ n4_; clear hb hbox hg; have hcz11_0 : w10.cell? ⟨gb620, 0, none⟩ = some (.int .i64 0) := (blk_cell BK620.out 0).trans rfl; have hcz11_1 : w10.cell? ⟨gb620, 1, none⟩ = some (.int .i64 0) := (blk_cell BK620.out 1).trans rfl; have hfz11_0 := blk_frozen BK620.out 0; have hfz11_1 := blk_frozen BK620.out 1) | ((with_reducible refine gate_callee (f := 44) rfl ?_); refine goesL_ (some 20) rfl rfl Try.func44 (by kernel_rfl) rfl #[.agg #[.int .i64 ((rd_T29 l0 x13_1).f0), .int .i64 ((rd_T29 l0 x13_1).f1)], .int .i64 a1] rfl (by (try simp only [List.map_toArray, List.map_cons, List.map_nil]); first | done | rfl | (simp only [List.length_drop, List.length_take]; rfl)) ?_; (with_reducible refine (drift_Has.calls ((rd_T29 l0 x13_1).f0) ((rd_T29 l0 x13_1).f1) a1 true _ A7.out).mono ?_); rintro e w12 ⟨rfl, hb⟩; refine ⟨_, rfl, ?_⟩; have n0_ := Aside0.mk (Kd.R_below (by (with_reducible repeat (first | apply Kd.R_alloc | apply Kd.R_drewN | apply Kd.R_drew)); exact (Kd.R_mono (Kd.R_far (p := ⟨gb620, 1, none⟩) (Kd.R_far (p := ⟨gb620, 0, none⟩) (Kd.R_types HO_5.out BK620.out (by decide)) (fun _ hk => hk.2) (.int .i64 ((rd_T29 l0 x13_1).f0))) (fun _ hk => hk.2) (.int .i64 ((rd_T29 l0 x13_1).f1))) (fun _ h_ => h_.1))) hb); have n1_ := Aside0.mk (blk_below (g := gb620) (o := .cells #[.int .i64 ((rd_T29 l0 x13_1).f0), .int .i64 ((rd_T29 l0 x13_1).f1)] 29 (0, 0)) (by (with_reducible repeat (first | refine blk_drewN ?_ _ | refine blk_drew ?_ | refine blk_alloc ?_ _)); refine blk_put (cs := #[.int .i64 ((rd_T29 l0 x13_1).f0), .int .i64 0]) ?_ 1 _ rfl; (with_reducible repeat (first | refine blk_drewN ?_ _ | refine blk_drew ?_ | refine blk_alloc ?_ _)); refine blk_put (cs := #[.int .i64 0, .int .i64 0]) ?_ 0 _ rfl; (with_reducible repeat (first | refine blk_drewN ?_ _ | refine blk_drew ?_ | refine blk_alloc ?_ _)); exact BK620.out) hb); have n2_ := Aside0.mk (below_step (by repeat (first | (with_reducible first | exact HB.out | apply below_alloc | apply pw_below_drewN | apply below_drew1 | refine below_set ?_ GE620.out) | exact HB.out)) hb); clear HO_5; clear BK620; clear HB; have HO_5 := n0_; have BK620 := n1_; have HB := n2_; clear n0_ n1_ n2_; (try clear hb); (try clear hb2); (try clear hk); (try clear hi)) | ((with_reducible refine gate_builtin (b := .append) (xs := #[.tmp 21, .tmp 23]) rfl ?_); at_builtin; refine Kd.R_append (Kd.int .i64) (w0 := w) w.heap.size rfl (.tmp 21) (.tmp 23) 27 3 (.int .i64 0) 8 rfl Try.underlying27 info3 rfl (by decide) (by omega) u5 x5_1 x13_1 [.int .i64 x13_1] (fun _ => True) (fun _ => False) rfl rfl ?aP (fun _ hk => hk.elim) ?aF ?aO ?aB ?aS ?aL ?_; (case aP => exact rfl); (case aB => exact (by repeat (first | (with_reducible first | exact HB.out | apply below_alloc | apply pw_below_drewN | apply below_drew1 | refine below_set ?_ GE620.out) | exact HB.out))); (case aF => exact (fun _ _ => trivial)); (case aO => exact (by (with_reducible repeat (first | apply Kd.R_alloc | apply Kd.R_drewN | apply Kd.R_drew)); exact HO_5.out)); (case aS => exact (below_size (by repeat (first | (with_reducible first | exact HB.out | apply below_alloc | apply pw_below_drewN | apply below_drew1 | refine below_set ?_ GE620.out) | exact HB.out)))); (case aL => have := LMc9.out; omega); intro v623 w13 ho hb hg hat; rw [← Ny622.out] at ho; have n0_ := Aside0.mk (blk_grown (g := gb620) (o := .cells #[.int .i64 ((rd_T29 l0 x13_1).f0), .int .i64 ((rd_T29 l0 x13_1).f1)] 29 (0, 0)) (by (with_reducible repeat (first | refine blk_drewN ?_ _ | refine blk_drew ?_ | refine blk_alloc ?_ _)); exact BK620.out) hg (Kd.R_ne HO_5.out BK620.out (by decide))); have n1_ := Aside0.mk (hb); have n2_ := Aside0.mk (ho); clear BK620; clear HB; clear HO_5; have BK620 := n0_; have HB := n1_; have HO624 := n2_; clear n0_ n1_ n2_; clear ho hb hg hat))
         go_roundg k1
         case measure => have := HK1.out; omega
         case rel => exact ⟨(y622), (wrap64 (x13_1 + 1)), (by first | rfl | (simp; done) | (simp [*]; done)), H', ⟨by have := HK1.out; omega⟩, ⟨by (with_reducible repeat (first | apply Kd.R_alloc | apply Kd.R_drewN | apply Kd.R_drew)); exact HO624.out⟩, ⟨by repeat (first | (with_reducible first | exact HB.out | apply below_alloc | apply pw_below_drewN | apply below_drew1 | refine below_set ?_ GE620.out) | exact HB.out)⟩⟩
        ·rw [if_neg c9] at H
         exact absurd H (by simp)
       ·replace c8 := Bool.eq_false_iff.mpr c8
        subst c8
        have H1 : (interval_Agree.l0 k1 a1 x5_1 l0 (l0.length : Int) (wrap64 (x13_1 + 1))) = some r := by rw [if_neg (show ¬ (false = true) by decide)] at H; exact H
        clear H
        have H := H1
        clear H1
        have H' := Aside0.mk H
        clear H
        have p619 : 0 ≤ (x13_1 : Int) := of_decide_eq_true (by first | (with_reducible assumption) | assumption)
        have q619 : x13_1 < (l0.length : Int) := of_decide_eq_true (by first | (with_reducible assumption) | assumption)
        obtain ⟨ad619, e619, hx619_0, hx619_1⟩ := at_T29 HR0.out x13_1 p619 q619
        cases e619
        replace hx619_0 := (HB.out.cell (World.block_lt_of_cell? w _ hx619_0)).trans hx619_0
        replace hx619_1 := (HB.out.cell (World.block_lt_of_cell? w _ hx619_1)).trans hx619_1
        replace p619 := eq_true p619
        replace q619 := eq_true q619
        go_wp2_with (first | ((with_reducible refine gate_dst (N := 7) rfl ?_); refine box_event ?hg (N := 7) ?hd (cs := #[.int .i64 0, .int .i64 0]) (t := 29) ?hr ?_; (case hd => rfl); (case hg => rfl); (case hr => first | (go_simp; done) | (go_simp; rfl)); intro gb620 hg w14 hbox hb; have n0_ := Aside0.mk (Kd.R_below (by (with_reducible repeat (first | apply Kd.R_alloc | apply Kd.R_drewN | apply Kd.R_drew)); exact HO_5.out) hb); have n1_ := Aside0.mk (below_step (by repeat (first | (with_reducible first | exact HB.out | apply below_alloc | apply pw_below_drewN | apply below_drew1) | exact HB.out)) hb); have n2_ := Aside0.mk (hbox); have n3_ := Aside0.mk ((by rw [hg]; exact (below_size (by repeat (first | (with_reducible first | exact HB.out | apply below_alloc | apply pw_below_drewN | apply below_drew1) | exact HB.out))) : w.heap.size ≤ gb620)); have n4_ := Aside0.mk ((by rw [hg]; exact (below_size (by repeat (first | (with_reducible first | exact HB.out | apply below_alloc | apply pw_below_drewN | apply below_drew1) | exact HB.out))) : w.heap.size ≤ gb620)); clear HO_5; clear HB; have HO_5 := n0_; have HB := n1_; have BK620 := n2_; have GW620 := n3_; have GE620 := n4_; clear n0_ n1_ n2_ n3_ n4_; clear hb hbox hg; have hcz15_0 : w14.cell? ⟨gb620, 0, none⟩ = some (.int .i64 0) := (blk_cell BK620.out 0).trans rfl; have hcz15_1 : w14.cell? ⟨gb620, 1, none⟩ = some (.int .i64 0) := (blk_cell BK620.out 1).trans rfl; have hfz15_0 := blk_frozen BK620.out 0; have hfz15_1 := blk_frozen BK620.out 1) | ((with_reducible refine gate_callee (f := 44) rfl ?_); refine goesL_ (some 20) rfl rfl Try.func44 (by kernel_rfl) rfl #[.agg #[.int .i64 ((rd_T29 l0 x13_1).f0), .int .i64 ((rd_T29 l0 x13_1).f1)], .int .i64 a1] rfl (by (try simp only [List.map_toArray, List.map_cons, List.map_nil]); first | done | rfl | (simp only [List.length_drop, List.length_take]; rfl)) ?_; (with_reducible refine (drift_Has.calls ((rd_T29 l0 x13_1).f0) ((rd_T29 l0 x13_1).f1) a1 false _ A7.out).mono ?_); rintro e w16 ⟨rfl, hb⟩; refine ⟨_, rfl, ?_⟩; have n0_ := Aside0.mk (Kd.R_below (by (with_reducible repeat (first | apply Kd.R_alloc | apply Kd.R_drewN | apply Kd.R_drew)); exact (Kd.R_mono (Kd.R_far (p := ⟨gb620, 1, none⟩) (Kd.R_far (p := ⟨gb620, 0, none⟩) (Kd.R_types HO_5.out BK620.out (by decide)) (fun _ hk => hk.2) (.int .i64 ((rd_T29 l0 x13_1).f0))) (fun _ hk => hk.2) (.int .i64 ((rd_T29 l0 x13_1).f1))) (fun _ h_ => h_.1))) hb); have n1_ := Aside0.mk (blk_below (g := gb620) (o := .cells #[.int .i64 ((rd_T29 l0 x13_1).f0), .int .i64 ((rd_T29 l0 x13_1).f1)] 29 (0, 0)) (by (with_reducible repeat (first | refine blk_drewN ?_ _ | refine blk_drew ?_ | refine blk_alloc ?_ _)); refine blk_put (cs := #[.int .i64 ((rd_T29 l0 x13_1).f0), .int .i64 0]) ?_ 1 _ rfl; (with_reducible repeat (first | refine blk_drewN ?_ _ | refine blk_drew ?_ | refine blk_alloc ?_ _)); refine blk_put (cs := #[.int .i64 0, .int .i64 0]) ?_ 0 _ rfl; (with_reducible repeat (first | refine blk_drewN ?_ _ | refine blk_drew ?_ | refine blk_alloc ?_ _)); exact BK620.out) hb); have n2_ := Aside0.mk (below_step (by repeat (first | (with_reducible first | exact HB.out | apply below_alloc | apply pw_below_drewN | apply below_drew1 | refine below_set ?_ GE620.out) | exact HB.out)) hb); clear HO_5; clear BK620; clear HB; have HO_5 := n0_; have BK620 := n1_; have HB := n2_; clear n0_ n1_ n2_; (try clear hb); (try clear hb2); (try clear hk); (try clear hi)))
        go_roundg k1
        case measure => have := HK1.out; omega
        case rel => exact ⟨(x5_1), (wrap64 (x13_1 + 1)), (by first | rfl | (simp; done) | (simp [*]; done)), H', ⟨by have := HK1.out; omega⟩, ⟨by (with_reducible repeat (first | apply Kd.R_alloc | apply Kd.R_drewN | apply Kd.R_drew)); exact HO_5.out⟩, ⟨by repeat (first | (with_reducible first | exact HB.out | apply below_alloc | apply pw_below_drewN | apply below_drew1 | refine below_set ?_ GE620.out) | exact HB.out)⟩⟩
      ·rw [if_neg c6] at H
       exact absurd H (by simp)
     ·rw [if_neg c5] at H
      exact absurd H (by simp)
    ·rw [if_neg c4] at H
     have c4b0 : decide (x13_1 < (l0.length : Int)) = false := decide_eq_false c4
     clear c4
     obtain rfl := Option.some.inj H
     go_wp2
     go_ret
     exact ⟨_, by first | rfl | (simp [errW_none, errW_some] <;> rfl) | (simp [*, errW_none, errW_some] <;> rfl), by (with_reducible repeat (first | apply Kd.R_alloc | apply Kd.R_drewN | apply Kd.R_drew)); exact HO_5.out, by repeat (first | (with_reducible first | exact HB.out | apply below_alloc | apply pw_below_drewN | apply below_drew1) | exact HB.out)⟩

end Go.Proofs.Ytlfilhplklifjaa.X

namespace Go.Proofs.Ytlfilhplklifjaa.X
open Go.RowKit Go.Proofs.YtlfilhplklifjaaW.PrintWords Go.Proofs.YtlfilhplklifjaaW.PrintLast Go.Proofs.YtlfilhplklifjaaW.PrintMore
attribute [local go_sem] max2_int min2_int max_two min_two max_three min_three max_four min_four   -- for this text's walks alone
set_option linter.unusedVariables false
set_option linter.unusedSimpArgs false

/-! ### interval_Count: function 43 -/
def interval_Count.f (k : Nat) (l0 : List (S29)) (a1 : Int) : Option (Int) := (interval_Agree.f k l0 a1).bind fun t625 => (some (t625.length : Int))
set_option maxHeartbeats 8000000 in
set_option maxRecDepth 100000 in
theorem interval_Count.calls (k : Nat) (A0 : Option Addr) (c0 : Nat) (l0 : List (S29)) (a1 : Int) (r : Int) (w : World) (hr0 : Kd.C k29 w A0 l0.length l0) (hc0 : l0.length ≤ c0) (h : interval_Count.f k l0 a1 = some r) :
  Calls Try.prog 43 #[.slice A0 l0.length c0, .int .i64 a1] w fun e w' => e = .returned (.int .i64 r) ∧ Below w.heap.size w w' := by
 have HR0 := Aside0.mk hr0
 have HC0 := Aside0.mk hc0
 clear hr0 hc0
 have HB := Aside0.mk (Below.refl w.heap.size w)
 have H : ((interval_Agree.f k l0 a1).bind fun t625 => (some (t625.length : Int))) = some r := h
 clear h
 replace H := Option.bind_eq_some_iff.mp H
 obtain ⟨t625, A30, H⟩ := H
 replace H : (some (t625.length : Int)) = some r := H
 have A3 := Aside0.mk A30
 clear A30
 obtain rfl := Option.some.inj H
 go_enter Try.func43, Try.ntmps43
 go_wp2_with (first | ((with_reducible refine gate_callee (f := 69) rfl ?_); refine goesL_ (some 7) rfl rfl Try.func69 (by kernel_rfl) rfl #[.slice A0 l0.length c0, .int .i64 a1] rfl (by (try simp only [List.map_toArray, List.map_cons, List.map_nil]); first | done | rfl | (simp only [List.length_drop, List.length_take]; rfl)) ?_; (with_reducible refine (interval_Agree.calls k _ _ l0 a1 t625 _ ?side1 ?side2 A3.out).mono ?_); (case side1 => repeat (first | exact HR0.out | (with_reducible refine Kd.C_alloc ?_ _) | (with_reducible refine Kd.C_drewN ?_ _) | (with_reducible refine Kd.C_drew ?_))); (case side2 => exact HC0.out); rintro e w4 ⟨v626, rfl, ho0, hb⟩; refine ⟨_, rfl, ?_⟩; have n0_ := Aside0.mk (Kd.R_lower ho0 (below_size (by repeat (first | (with_reducible first | exact HB.out | apply below_alloc | apply pw_below_drewN | apply below_drew1) | exact HB.out)))); have n1_ := Aside0.mk (below_step (by repeat (first | (with_reducible first | exact HB.out | apply below_alloc | apply pw_below_drewN | apply below_drew1) | exact HB.out)) hb); clear HB; have HO627 := n0_; have HB := n1_; clear n0_ n1_; (try clear hb); (try clear hb2); (try clear hk); (try clear hi); (try clear ho0); obtain ⟨Ao5, co5, eo5⟩ := Kd.R_slice HO627.out; subst eo5))
 go_ret
 exact ⟨by first | rfl | (simp [errW_none, errW_some] <;> rfl) | (simp [*, errW_none, errW_some] <;> rfl), by repeat (first | (with_reducible first | exact HB.out | apply below_alloc | apply pw_below_drewN | apply below_drew1) | exact HB.out)⟩

end Go.Proofs.Ytlfilhplklifjaa.X

namespace Go.Proofs.Ytlfilhplklifjaa.X
open Go.RowKit Go.Proofs.YtlfilhplklifjaaW.PrintWords Go.Proofs.YtlfilhplklifjaaW.PrintLast Go.Proofs.YtlfilhplklifjaaW.PrintMore
attribute [local go_sem] max2_int min2_int max_two min_two max_three min_three max_four min_four   -- for this text's walks alone
set_option linter.unusedVariables false
set_option linter.unusedSimpArgs false

attribute [local go_sem high] eqA29
/-! ### timesynclaw23_IntervalPeaks: function 13 -/
mutual
def timesynclaw23_IntervalPeaks.l0 : Nat → List (S29) → Int → Int → List Int → Int → Int → Int → Int → Option (Bool)
 | 0, _, _, _, _, _, _, _, _ => none
 | k + 1, x0, x1, x6, x22, x23, x24, x648000, x648001 => if x24 < x23 then (if 0 ≤ x24 then (if x24 < (x22.length : Int) then ((interval_Count.f k x0 (rd x22 x24)).bind fun t655 => (if t655 > x6 then (none) else (timesynclaw23_IntervalPeaks.l0 k x0 x1 x6 x22 x23 (wrap64 (x24 + 1)) x648000 x648001))) else (none)) else (none)) else (if x6 = 0 then (if (x648000 == 0 && (x648001 == 0)) = true then ((timesynclaw23_awake.f k).bind fun t656 => (some t656)) else (none)) else ((interval_Count.f k x0 x648000).bind fun t657 => (if t657 = x6 then ((interval_Count.f k x0 x648001).bind fun t658 => (if t658 = x6 then ((interval_Count.f k x0 (wrap64 (x648000 - 1))).bind fun t659 => (if t659 = x6 then (timesynclaw23_IntervalPeaks.j1 k x0 x1 x6 true x648000 x648001) else ((interval_Count.f k x0 (wrap64 (x648001 + 1))).bind fun t660 => (timesynclaw23_IntervalPeaks.j1 k x0 x1 x6 (t660 == x6) x648000 x648001)))) else (timesynclaw23_IntervalPeaks.j1 k x0 x1 x6 true x648000 x648001))) else (timesynclaw23_IntervalPeaks.j1 k x0 x1 x6 true x648000 x648001))))
def timesynclaw23_IntervalPeaks.j1 : Nat → List (S29) → Int → Int → Bool → Int → Int → Option (Bool)
 | 0, _, _, _, _, _, _ => none
 | k + 1, x0, x1, x6, x73, x648000, x648001 => if x73 = true then (none) else (if x1 < x648000 then (if x1 ≥ x648000 then (none) else ((interval_Count.f k x0 x1).bind fun t661 => (if t661 < x6 then ((timesynclaw23_awake.f k).bind fun t662 => (some t662)) else (none)))) else (if x1 > x648001 then (if x1 ≥ x648000 then ((timesynclaw23_awake.f k).bind fun t663 => (some t663)) else (none)) else ((interval_Count.f k x0 x1).bind fun t664 => (if t664 = x6 then (if x1 ≥ x648000 then ((timesynclaw23_awake.f k).bind fun t665 => (some t665)) else (none)) else (none)))))
end
def timesynclaw23_IntervalPeaks.f (k : Nat) (l0 : List (S29)) (a1 : Int) : Option (Bool) := if (l0.length : Int) > 48 then ((timesynclaw23_awake.f k).bind fun t643 => (some t643)) else ((interval_Best.f k l0).bind fun bt644 => ((interval_Edges.f k l0).bind fun t648 => (if t648.length < 17592186044416 then ((some (t648 ++ [a1] : List Int)).bind fun y651 => (timesynclaw23_IntervalPeaks.l0 k l0 a1 bt644.2.2 y651 (y651.length : Int) 0 bt644.1 bt644.2.1)) else (none))))
set_option maxHeartbeats 8000000 in
set_option maxRecDepth 100000 in
theorem timesynclaw23_IntervalPeaks.calls (k : Nat) (A0 : Option Addr) (c0 : Nat) (l0 : List (S29)) (a1 : Int) (r : Bool) (w : World) (hr0 : Kd.C k29 w A0 l0.length l0) (hc0 : l0.length ≤ c0) (h : timesynclaw23_IntervalPeaks.f k l0 a1 = some r) :
  Calls Try.prog 13 #[.slice A0 l0.length c0, .int .i64 a1] w fun e w' => e = .returned (.bool r) ∧ Below w.heap.size w w' := by
 have hu29 := Try.underlying29
 have HR0 := Aside0.mk hr0
 have HC0 := Aside0.mk hc0
 clear hr0 hc0
 have HB := Aside0.mk (Below.refl w.heap.size w)
 have H : (if (l0.length : Int) > 48 then ((timesynclaw23_awake.f k).bind fun t643 => (some t643)) else ((interval_Best.f k l0).bind fun bt644 => ((interval_Edges.f k l0).bind fun t648 => (if t648.length < 17592186044416 then ((some (t648 ++ [a1] : List Int)).bind fun y651 => (timesynclaw23_IntervalPeaks.l0 k l0 a1 bt644.2.2 y651 (y651.length : Int) 0 bt644.1 bt644.2.1)) else (none))))) = some r := h
 clear h
 by_cases c3 : (l0.length : Int) > 48
 ·rw [if_pos c3] at H
  have c3b0 : decide (48 < (l0.length : Int)) = true := decide_eq_true c3
  have c3b1 : decide (48 < l0.length) = true := decide_eq_true (by omega)
  clear c3
  replace H := Option.bind_eq_some_iff.mp H
  obtain ⟨t643, A40, H⟩ := H
  replace H : (some t643) = some r := H
  have A4 := Aside0.mk A40
  clear A40
  obtain rfl := Option.some.inj H
  go_enter Try.func13, Try.ntmps13
  go_wp2_with (first | ((with_reducible refine gate_callee (f := 35) rfl ?_); refine goesL_ (some 12) rfl rfl Try.func35 (by kernel_rfl) rfl #[] rfl (by (try simp only [List.map_toArray, List.map_cons, List.map_nil]); first | done | rfl | (simp only [List.length_drop, List.length_take]; rfl)) ?_; (with_reducible refine (timesynclaw23_awake.calls k  t643 _ A4.out).mono ?_); rintro e w5 ⟨rfl, hb⟩; refine ⟨_, rfl, ?_⟩; have n0_ := Aside0.mk (below_step (by repeat (first | (with_reducible first | exact HB.out | apply below_alloc | apply pw_below_drewN | apply below_drew1) | exact HB.out)) hb); clear HB; have HB := n0_; clear n0_; (try clear hb); (try clear hb2); (try clear hk); (try clear hi)))
  go_ret
  exact ⟨by first | rfl | (simp [errW_none, errW_some] <;> rfl) | (simp [*, errW_none, errW_some] <;> rfl), by repeat (first | (with_reducible first | exact HB.out | apply below_alloc | apply pw_below_drewN | apply below_drew1) | exact HB.out)⟩
 ·rw [if_neg c3] at H
  have c3b0 : decide (48 < (l0.length : Int)) = false := decide_eq_false c3
  have c3b1 : decide (48 < l0.length) = false := decide_eq_false (by omega)
  clear c3
  replace H := Option.bind_eq_some_iff.mp H
  obtain ⟨⟨t644, t645, t646⟩, A60, H⟩ := H
  replace H : ((interval_Edges.f k l0).bind fun t648 => (if t648.length < 17592186044416 then ((some (t648 ++ [a1] : List Int)).bind fun y651 => (timesynclaw23_IntervalPeaks.l0 k l0 a1 t646 y651 (y651.length : Int) 0 t644 t645)) else (none))) = some r := H
  have A6 := Aside0.mk A60
  clear A60
  replace H := Option.bind_eq_some_iff.mp H
  obtain ⟨t648, A70, H⟩ := H
  replace H : (if t648.length < 17592186044416 then ((some (t648 ++ [a1] : List Int)).bind fun y651 => (timesynclaw23_IntervalPeaks.l0 k l0 a1 t646 y651 (y651.length : Int) 0 t644 t645)) else (none)) = some r := H
  have A7 := Aside0.mk A70
  clear A70
  by_cases c8 : t648.length < 17592186044416
  ·rw [if_pos c8] at H
   have LMc8 := Aside0.mk c8
   clear c8
   obtain ⟨y651, hy651⟩ : ∃ y_ : List Int, y_ = (t648 ++ [a1]) := ⟨_, rfl⟩
   replace H : (timesynclaw23_IntervalPeaks.l0 k l0 a1 t646 y651 (y651.length : Int) 0 t644 t645) = some r := by first | (rw [hy651]; with_reducible exact H) | (have H2_ := (Option.bind_some _ _).symm.trans H; rw [hy651]; with_reducible exact H2_) | (have H2_ := (Option.bind_some _ _).symm.trans H; with_reducible exact H2_) | with_reducible exact H | (rw [hy651]; exact H) | exact H
   have Ny651 := Aside0.mk hy651
   clear hy651
   have H' := Aside0.mk H
   clear H
   go_enter Try.func13, Try.ntmps13
   go_wp2_with (first | ((with_reducible refine gate_callee (f := 38) rfl ?_); refine goesL_ (some 15) rfl rfl Try.func38 (by kernel_rfl) rfl #[.slice A0 l0.length c0] rfl (by (try simp only [List.map_toArray, List.map_cons, List.map_nil]); first | done | rfl | (simp only [List.length_drop, List.length_take]; rfl)) ?_; (with_reducible refine (interval_Best.calls k _ _ l0 t644 t645 t646 _ ?side1 ?side2 A6.out).mono ?_); (case side1 => repeat (first | exact HR0.out | (with_reducible refine Kd.C_alloc ?_ _) | (with_reducible refine Kd.C_drewN ?_ _) | (with_reducible refine Kd.C_drew ?_))); (case side2 => exact HC0.out); rintro e w9 ⟨rfl, hb⟩; refine ⟨_, rfl, ?_⟩; have n0_ := Aside0.mk (below_step (by repeat (first | (with_reducible first | exact HB.out | apply below_alloc | apply pw_below_drewN | apply below_drew1) | exact HB.out)) hb); clear HB; have HB := n0_; clear n0_; (try clear hb); (try clear hb2); (try clear hk); (try clear hi)) | ((with_reducible refine gate_dst (N := 5) rfl ?_); refine box_event ?hg (N := 5) ?hd (cs := #[.int .i64 0, .int .i64 0]) (t := 29) ?hr ?_; (case hd => rfl); (case hg => rfl); (case hr => first | (go_simp; done) | (go_simp; rfl)); intro gb647 hg w10 hbox hb; have n0_ := Aside0.mk (below_step (by repeat (first | (with_reducible first | exact HB.out | apply below_alloc | apply pw_below_drewN | apply below_drew1) | exact HB.out)) hb); have n1_ := Aside0.mk (hbox); have n2_ := Aside0.mk ((by rw [hg]; exact (below_size (by repeat (first | (with_reducible first | exact HB.out | apply below_alloc | apply pw_below_drewN | apply below_drew1) | exact HB.out))) : w.heap.size ≤ gb647)); have n3_ := Aside0.mk ((by rw [hg]; exact (below_size (by repeat (first | (with_reducible first | exact HB.out | apply below_alloc | apply pw_below_drewN | apply below_drew1) | exact HB.out))) : w.heap.size ≤ gb647)); clear HB; have HB := n0_; have BK647 := n1_; have GW647 := n2_; have GE647 := n3_; clear n0_ n1_ n2_ n3_; clear hb hbox hg; have hcz11_0 : w10.cell? ⟨gb647, 0, none⟩ = some (.int .i64 0) := (blk_cell BK647.out 0).trans rfl; have hcz11_1 : w10.cell? ⟨gb647, 1, none⟩ = some (.int .i64 0) := (blk_cell BK647.out 1).trans rfl; have hfz11_0 := blk_frozen BK647.out 0; have hfz11_1 := blk_frozen BK647.out 1) | ((with_reducible refine gate_callee (f := 40) rfl ?_); refine goesL_ (some 19) rfl rfl Try.func40 (by kernel_rfl) rfl #[.slice A0 l0.length c0] rfl (by (try simp only [List.map_toArray, List.map_cons, List.map_nil]); first | done | rfl | (simp only [List.length_drop, List.length_take]; rfl)) ?_; (with_reducible refine (interval_Edges.calls k _ _ l0 t648 _ ?side1 ?side2 A7.out).mono ?_); (case side1 => exact Kd.C_below HR0.out (by repeat (first | (with_reducible first | exact HB.out | apply below_alloc | apply pw_below_drewN | apply below_drew1 | refine below_set ?_ GE647.out) | exact HB.out))); (case side2 => exact HC0.out); rintro e w12 ⟨v649, rfl, ho0, hb⟩; refine ⟨_, rfl, ?_⟩; have n0_ := Aside0.mk (Kd.R_lower ho0 (below_size (by repeat (first | (with_reducible first | exact HB.out | apply below_alloc | apply pw_below_drewN | apply below_drew1 | refine below_set ?_ GE647.out) | exact HB.out)))); have n1_ := Aside0.mk (blk_below (g := gb647) (o := .cells #[.int .i64 t644, .int .i64 t645] 29 (0, 0)) (by (with_reducible repeat (first | refine blk_drewN ?_ _ | refine blk_drew ?_ | refine blk_alloc ?_ _)); refine blk_put (cs := #[.int .i64 t644, .int .i64 0]) ?_ 1 _ rfl; (with_reducible repeat (first | refine blk_drewN ?_ _ | refine blk_drew ?_ | refine blk_alloc ?_ _)); refine blk_put (cs := #[.int .i64 0, .int .i64 0]) ?_ 0 _ rfl; (with_reducible repeat (first | refine blk_drewN ?_ _ | refine blk_drew ?_ | refine blk_alloc ?_ _)); exact BK647.out) hb); have n2_ := Aside0.mk (below_step (by repeat (first | (with_reducible first | exact HB.out | apply below_alloc | apply pw_below_drewN | apply below_drew1 | refine below_set ?_ GE647.out) | exact HB.out)) hb); clear BK647; clear HB; have HO650 := n0_; have BK647 := n1_; have HB := n2_; clear n0_ n1_ n2_; (try clear hb); (try clear hb2); (try clear hk); (try clear hi); (try clear ho0)) | ((with_reducible refine gate_builtin (b := .append) (xs := #[.tmp 19, .tmp 21]) rfl ?_); at_builtin; refine Kd.R_append (Kd.int .i64) (w0 := w) w.heap.size rfl (.tmp 19) (.tmp 21) 27 3 (.int .i64 0) 8 rfl Try.underlying27 info3 rfl (by decide) (by omega) v649 t648 a1 [.int .i64 a1] (fun _ => True) (fun _ => False) rfl rfl ?aP (fun _ hk => hk.elim) ?aF ?aO ?aB ?aS ?aL ?_; (case aP => exact rfl); (case aB => exact (by repeat (first | (with_reducible first | exact HB.out | apply below_alloc | apply pw_below_drewN | apply below_drew1 | refine below_set ?_ GE647.out) | exact HB.out))); (case aF => exact (fun _ _ => trivial)); (case aO => exact (by (with_reducible repeat (first | apply Kd.R_alloc | apply Kd.R_drewN | apply Kd.R_drew)); exact HO650.out)); (case aS => exact (below_size (by repeat (first | (with_reducible first | exact HB.out | apply below_alloc | apply pw_below_drewN | apply below_drew1 | refine below_set ?_ GE647.out) | exact HB.out)))); (case aL => have := LMc8.out; omega); intro v652 w13 ho hb hg hat; rw [← Ny651.out] at ho; have n0_ := Aside0.mk (blk_grown (g := gb647) (o := .cells #[.int .i64 t644, .int .i64 t645] 29 (0, 0)) (by (with_reducible repeat (first | refine blk_drewN ?_ _ | refine blk_drew ?_ | refine blk_alloc ?_ _)); exact BK647.out) hg (Kd.R_ne HO650.out BK647.out (by decide))); have n1_ := Aside0.mk (hb); have n2_ := Aside0.mk (ho); clear BK647; clear HB; clear HO650; have BK647 := n0_; have HB := n1_; have HO653 := n2_; clear n0_ n1_ n2_; clear ho hb hg hat; obtain ⟨Ao14, co14, eo14⟩ := Kd.R_slice HO653.out; subst eo14))
   go_loopg [24] k (fun kq v24 w' => ∃ (x24_1 : Int), v24 = .int .i64 x24_1 ∧ Aside0 (timesynclaw23_IntervalPeaks.l0 kq l0 a1 t646 y651 (y651.length : Int) x24_1 t644 t645 = some r) ∧ Aside0 (kq ≤ k) ∧ Aside0 (Kd.R (Kd.int .i64) 3 w' w.heap.size (fun _ => True) (.slice Ao14 y651.length co14) y651) ∧ Aside0 (w'.heap[gb647]? = some (.cells #[.int .i64 t644, .int .i64 t645] 29 (0, 0))) ∧ Aside0 (Below w.heap.size w w'))
   case atStart => exact ⟨(0), (by first | rfl | (simp; done) | (simp [*]; done)), H', ⟨Nat.le_refl _⟩, ⟨by (with_reducible repeat (first | apply Kd.R_alloc | apply Kd.R_drewN | apply Kd.R_drew)); exact HO653.out⟩, ⟨by (with_reducible repeat (first | refine blk_drewN ?_ _ | refine blk_drew ?_ | refine blk_alloc ?_ _)); exact BK647.out⟩, ⟨by repeat (first | (with_reducible first | exact HB.out | apply below_alloc | apply pw_below_drewN | apply below_drew1 | refine below_set ?_ GE647.out) | exact HB.out)⟩⟩
   case round =>
    clear H'
    try clear c1
    try clear p2
    try clear c3
    try clear c3b0
    try clear c3b1
    try clear c4
    try clear c8
    try clear c13
    try clear hcz11_0
    try clear hcz11_1
    try clear hfz11_0
    try clear hfz11_1
    obtain ⟨x24_1, rfl, HA, HK1, HO_22, BK647, HB⟩ := hrel
    cases gk with
    | zero => exact absurd HA.out (by simp [timesynclaw23_IntervalPeaks.l0])
    | succ k1 =>
     have H := HA.out
     clear HA
     simp only [timesynclaw23_IntervalPeaks.l0] at H
     by_cases c15 : x24_1 < (y651.length : Int)
     ·rw [if_pos c15] at H
      have c15b0 : decide (x24_1 < (y651.length : Int)) = true := decide_eq_true c15
      clear c15
      by_cases c16 : 0 ≤ x24_1
      ·rw [if_pos c16] at H
       have c16b0 : decide (0 ≤ x24_1) = true := decide_eq_true c16
       clear c16
       by_cases c17 : x24_1 < (y651.length : Int)
       ·rw [if_pos c17] at H
        have c17b0 : decide (x24_1 < (y651.length : Int)) = true := decide_eq_true c17
        clear c17
        replace H := Option.bind_eq_some_iff.mp H
        obtain ⟨t655, A180, H⟩ := H
        replace H : (if t655 > t646 then (none) else (timesynclaw23_IntervalPeaks.l0 k1 l0 a1 t646 y651 (y651.length : Int) (wrap64 (x24_1 + 1)) t644 t645)) = some r := H
        have A18 := Aside0.mk A180
        clear A180
        by_cases c19 : t655 > t646
        ·rw [if_pos c19] at H
         exact absurd H (by simp)
        ·rw [if_neg c19] at H
         have c19b0 : decide (t646 < t655) = false := decide_eq_false c19
         clear c19
         have H' := Aside0.mk H
         clear H
         have p654 : 0 ≤ (x24_1 : Int) := of_decide_eq_true (by first | (with_reducible assumption) | assumption)
         have q654 : x24_1 < (y651.length : Int) := of_decide_eq_true (by first | (with_reducible assumption) | assumption)
         obtain ⟨ad654, e654, hx654_0⟩ := Kd.at_int (Kd.R_reads' HO_22.out).2.2 x24_1 p654 q654
         cases e654
         replace p654 := eq_true p654
         replace q654 := eq_true q654
         go_wp2_with (first | ((with_reducible refine gate_callee (f := 43) rfl ?_); refine goesL_ (some 30) rfl rfl Try.func43 (by kernel_rfl) rfl #[.slice A0 l0.length c0, .int .i64 (rd y651 x24_1)] rfl (by (try simp only [List.map_toArray, List.map_cons, List.map_nil]); first | done | rfl | (simp only [List.length_drop, List.length_take]; rfl)) ?_; (with_reducible refine (interval_Count.calls k1 _ _ l0 (rd y651 x24_1) t655 _ ?side1 ?side2 A18.out).mono ?_); (case side1 => repeat (first | exact (Kd.C_below HR0.out HB.out) | (with_reducible refine Kd.C_alloc ?_ _) | (with_reducible refine Kd.C_drewN ?_ _) | (with_reducible refine Kd.C_drew ?_))); (case side2 => exact HC0.out); rintro e w20 ⟨rfl, hb⟩; refine ⟨_, rfl, ?_⟩; have n0_ := Aside0.mk (Kd.R_below (by (with_reducible repeat (first | apply Kd.R_alloc | apply Kd.R_drewN | apply Kd.R_drew)); exact HO_22.out) hb); have n1_ := Aside0.mk (blk_below (g := gb647) (o := .cells #[.int .i64 t644, .int .i64 t645] 29 (0, 0)) (by (with_reducible repeat (first | refine blk_drewN ?_ _ | refine blk_drew ?_ | refine blk_alloc ?_ _)); exact BK647.out) hb); have n2_ := Aside0.mk (below_step (by repeat (first | (with_reducible first | exact HB.out | apply below_alloc | apply pw_below_drewN | apply below_drew1 | refine below_set ?_ GE647.out) | exact HB.out)) hb); clear HO_22; clear BK647; clear HB; have HO_22 := n0_; have BK647 := n1_; have HB := n2_; clear n0_ n1_ n2_; (try clear hb); (try clear hb2); (try clear hk); (try clear hi)))
         go_roundg k1
         case measure => have := HK1.out; omega
         case rel => exact ⟨(wrap64 (x24_1 + 1)), (by first | rfl | (simp; done) | (simp [*]; done)), H', ⟨by have := HK1.out; omega⟩, ⟨by (with_reducible repeat (first | apply Kd.R_alloc | apply Kd.R_drewN | apply Kd.R_drew)); exact HO_22.out⟩, ⟨by (with_reducible repeat (first | refine blk_drewN ?_ _ | refine blk_drew ?_ | refine blk_alloc ?_ _)); exact BK647.out⟩, ⟨by repeat (first | (with_reducible first | exact HB.out | apply below_alloc | apply pw_below_drewN | apply below_drew1 | refine below_set ?_ GE647.out) | exact HB.out)⟩⟩
       ·rw [if_neg c17] at H
        exact absurd H (by simp)
      ·rw [if_neg c16] at H
       exact absurd H (by simp)
     ·rw [if_neg c15] at H
      have c15b0 : decide (x24_1 < (y651.length : Int)) = false := decide_eq_false c15
      clear c15
      by_cases c21 : t646 = 0
      ·rw [if_pos c21] at H
       have c21b0 : (t646 == 0) = true := beq_iff_eq.mpr c21
       have c21b1 : (t646 != 0) = false := bne_eq_false_iff_eq.mpr c21
       clear c21
       by_cases c22 : (t644 == 0 && (t645 == 0)) = true
       ·rw [if_pos c22] at H
        have c22b0 : (t644 == 0 && (t645 == 0)) = true := c22
        (try (have c22b1 : decide (t644 = 0 && (t645 == 0)) = true := by simpa using c22))
        (try (have c22b2 : (t644 == 0 && (t645 == 0)) = true := by simpa using c22))
        clear c22
        replace H := Option.bind_eq_some_iff.mp H
        obtain ⟨t656, A230, H⟩ := H
        replace H : (some t656) = some r := H
        have A23 := Aside0.mk A230
        clear A230
        obtain rfl := Option.some.inj H
        have hcz24_0 : wr.cell? ⟨gb647, 0, none⟩ = some (.int .i64 t644) := (blk_cell BK647.out 0).trans rfl
        have hcz24_1 : wr.cell? ⟨gb647, 1, none⟩ = some (.int .i64 t645) := (blk_cell BK647.out 1).trans rfl
        have hfz24_0 := blk_frozen BK647.out 0
        have hfz24_1 := blk_frozen BK647.out 1
        go_wp2_with (first | (go_at_call 35; (with_reducible refine (timesynclaw23_awake.calls k1  t656 _ A23.out).mono ?_); rintro e w25 ⟨rfl, hb⟩; have n0_ := Aside0.mk (Kd.R_below (by (with_reducible repeat (first | apply Kd.R_alloc | apply Kd.R_drewN | apply Kd.R_drew)); exact HO_22.out) hb); have n1_ := Aside0.mk (blk_below (g := gb647) (o := .cells #[.int .i64 t644, .int .i64 t645] 29 (0, 0)) (by (with_reducible repeat (first | refine blk_drewN ?_ _ | refine blk_drew ?_ | refine blk_alloc ?_ _)); exact BK647.out) hb); have n2_ := Aside0.mk (below_step (by repeat (first | (with_reducible first | exact HB.out | apply below_alloc | apply pw_below_drewN | apply below_drew1 | refine below_set ?_ GE647.out) | exact HB.out)) hb); clear HO_22; clear BK647; clear HB; have HO_22 := n0_; have BK647 := n1_; have HB := n2_; clear n0_ n1_ n2_; (try clear hb); (try clear hb2); (try clear hk); (try clear hi)))
        go_ret
        exact ⟨by first | rfl | (simp [errW_none, errW_some] <;> rfl) | (simp [*, errW_none, errW_some] <;> rfl), by repeat (first | (with_reducible first | exact HB.out | apply below_alloc | apply pw_below_drewN | apply below_drew1 | refine below_set ?_ GE647.out) | exact HB.out)⟩
       ·rw [if_neg c22] at H
        exact absurd H (by simp)
      ·rw [if_neg c21] at H
       have c21b0 : (t646 == 0) = false := beq_eq_false_iff_ne.mpr c21
       have c21b1 : (t646 != 0) = true := bne_iff_ne.mpr c21
       have HC26 := Aside0.mk H
       clear H
       go_upto_region 12 with (fail)
       go_cut [73] (fun v73 wc => ∃ (kq : Nat) (x73_25 : Bool), v73 = .bool x73_25 ∧ Aside0 (timesynclaw23_IntervalPeaks.j1 kq l0 a1 t646 x73_25 t644 t645 = some r) ∧ Aside0 (kq ≤ k1) ∧ Aside0 (wc.heap[gb647]? = some (.cells #[.int .i64 t644, .int .i64 t645] 29 (0, 0))) ∧ Aside0 (Below w.heap.size w wc))
       case first =>
        have H := HC26.out
        clear HC26
        replace H := Option.bind_eq_some_iff.mp H
        obtain ⟨t657, A270, H⟩ := H
        replace H : (if t657 = t646 then ((interval_Count.f k1 l0 t645).bind fun t658 => (if t658 = t646 then ((interval_Count.f k1 l0 (wrap64 (t644 - 1))).bind fun t659 => (if t659 = t646 then (timesynclaw23_IntervalPeaks.j1 k1 l0 a1 t646 true t644 t645) else ((interval_Count.f k1 l0 (wrap64 (t645 + 1))).bind fun t660 => (timesynclaw23_IntervalPeaks.j1 k1 l0 a1 t646 (t660 == t646) t644 t645)))) else (timesynclaw23_IntervalPeaks.j1 k1 l0 a1 t646 true t644 t645))) else (timesynclaw23_IntervalPeaks.j1 k1 l0 a1 t646 true t644 t645)) = some r := H
        have A27 := Aside0.mk A270
        clear A270
        by_cases c28 : t657 = t646
        ·rw [if_pos c28] at H
         have c28b0 : (t657 == t646) = true := beq_iff_eq.mpr c28
         have c28b1 : (t657 != t646) = false := bne_eq_false_iff_eq.mpr c28
         clear c28
         (first | rw [c28b0] | (simp only [i64_w, i32_w]; rw [c28b0]) | skip)
         replace H := Option.bind_eq_some_iff.mp H
         obtain ⟨t658, A290, H⟩ := H
         replace H : (if t658 = t646 then ((interval_Count.f k1 l0 (wrap64 (t644 - 1))).bind fun t659 => (if t659 = t646 then (timesynclaw23_IntervalPeaks.j1 k1 l0 a1 t646 true t644 t645) else ((interval_Count.f k1 l0 (wrap64 (t645 + 1))).bind fun t660 => (timesynclaw23_IntervalPeaks.j1 k1 l0 a1 t646 (t660 == t646) t644 t645)))) else (timesynclaw23_IntervalPeaks.j1 k1 l0 a1 t646 true t644 t645)) = some r := H
         have A29 := Aside0.mk A290
         clear A290
         by_cases c30 : t658 = t646
         ·rw [if_pos c30] at H
          have c30b0 : (t658 == t646) = true := beq_iff_eq.mpr c30
          have c30b1 : (t658 != t646) = false := bne_eq_false_iff_eq.mpr c30
          clear c30
          replace H := Option.bind_eq_some_iff.mp H
          obtain ⟨t659, A310, H⟩ := H
          replace H : (if t659 = t646 then (timesynclaw23_IntervalPeaks.j1 k1 l0 a1 t646 true t644 t645) else ((interval_Count.f k1 l0 (wrap64 (t645 + 1))).bind fun t660 => (timesynclaw23_IntervalPeaks.j1 k1 l0 a1 t646 (t660 == t646) t644 t645))) = some r := H
          have A31 := Aside0.mk A310
          clear A310
          by_cases c32 : t659 = t646
          ·rw [if_pos c32] at H
           have c32b0 : (t659 == t646) = true := beq_iff_eq.mpr c32
           have c32b1 : (t659 != t646) = false := bne_eq_false_iff_eq.mpr c32
           clear c32
           have H' := Aside0.mk H
           clear H
           have hcz33_0 : wr.cell? ⟨gb647, 0, none⟩ = some (.int .i64 t644) := (blk_cell BK647.out 0).trans rfl
           have hcz33_1 : wr.cell? ⟨gb647, 1, none⟩ = some (.int .i64 t645) := (blk_cell BK647.out 1).trans rfl
           have hfz33_0 := blk_frozen BK647.out 0
           have hfz33_1 := blk_frozen BK647.out 1
           go_wp2_with (first | ((with_reducible refine gate_callee (f := 43) rfl ?_); refine goesL_ (some 45) rfl rfl Try.func43 (by kernel_rfl) rfl #[.slice A0 l0.length c0, .int .i64 t644] rfl (by (try simp only [List.map_toArray, List.map_cons, List.map_nil]); first | done | rfl | (simp only [List.length_drop, List.length_take]; rfl)) ?_; (with_reducible refine (interval_Count.calls k1 _ _ l0 t644 t657 _ ?side1 ?side2 A27.out).mono ?_); (case side1 => repeat (first | exact (Kd.C_below HR0.out HB.out) | (with_reducible refine Kd.C_alloc ?_ _) | (with_reducible refine Kd.C_drewN ?_ _) | (with_reducible refine Kd.C_drew ?_))); (case side2 => exact HC0.out); rintro e w34 ⟨rfl, hb⟩; refine ⟨_, rfl, ?_⟩; have n0_ := Aside0.mk (Kd.R_below (by (with_reducible repeat (first | apply Kd.R_alloc | apply Kd.R_drewN | apply Kd.R_drew)); exact HO_22.out) hb); have n1_ := Aside0.mk (blk_below (g := gb647) (o := .cells #[.int .i64 t644, .int .i64 t645] 29 (0, 0)) (by (with_reducible repeat (first | refine blk_drewN ?_ _ | refine blk_drew ?_ | refine blk_alloc ?_ _)); exact BK647.out) hb); have n2_ := Aside0.mk (below_step (by repeat (first | (with_reducible first | exact HB.out | apply below_alloc | apply pw_below_drewN | apply below_drew1 | refine below_set ?_ GE647.out) | exact HB.out)) hb); clear HO_22; clear BK647; clear HB; have HO_22 := n0_; have BK647 := n1_; have HB := n2_; clear n0_ n1_ n2_; (try clear hb); (try clear hb2); (try clear hk); (try clear hi); have hcz35_0 : w34.cell? ⟨gb647, 0, none⟩ = some (.int .i64 t644) := (blk_cell BK647.out 0).trans rfl; have hcz35_1 : w34.cell? ⟨gb647, 1, none⟩ = some (.int .i64 t645) := (blk_cell BK647.out 1).trans rfl; have hfz35_0 := blk_frozen BK647.out 0; have hfz35_1 := blk_frozen BK647.out 1) | (go_at_call 43; (with_reducible refine (interval_Count.calls k1 _ _ l0 t645 t658 _ ?side1 ?side2 A29.out).mono ?_); (case side1 => repeat (first | exact (Kd.C_below HR0.out HB.out) | (with_reducible refine Kd.C_alloc ?_ _) | (with_reducible refine Kd.C_drewN ?_ _) | (with_reducible refine Kd.C_drew ?_))); (case side2 => exact HC0.out); rintro e w36 ⟨rfl, hb⟩; have n0_ := Aside0.mk (Kd.R_below (by (with_reducible repeat (first | apply Kd.R_alloc | apply Kd.R_drewN | apply Kd.R_drew)); exact HO_22.out) hb); have n1_ := Aside0.mk (blk_below (g := gb647) (o := .cells #[.int .i64 t644, .int .i64 t645] 29 (0, 0)) (by (with_reducible repeat (first | refine blk_drewN ?_ _ | refine blk_drew ?_ | refine blk_alloc ?_ _)); exact BK647.out) hb); have n2_ := Aside0.mk (below_step (by repeat (first | (with_reducible first | exact HB.out | apply below_alloc | apply pw_below_drewN | apply below_drew1 | refine below_set ?_ GE647.out) | exact HB.out)) hb); clear HO_22; clear BK647; clear HB; have HO_22 := n0_; have BK647 := n1_; have HB := n2_; clear n0_ n1_ n2_; (try clear hb); (try clear hb2); (try clear hk); (try clear hi); have hcz37_0 : w36.cell? ⟨gb647, 0, none⟩ = some (.int .i64 t644) := (blk_cell BK647.out 0).trans rfl; have hcz37_1 : w36.cell? ⟨gb647, 1, none⟩ = some (.int .i64 t645) := (blk_cell BK647.out 1).trans rfl; have hfz37_0 := blk_frozen BK647.out 0; have hfz37_1 := blk_frozen BK647.out 1) | (go_at_call 43; (with_reducible refine (interval_Count.calls k1 _ _ l0 (wrap64 (t644 - 1)) t659 _ ?side1 ?side2 A31.out).mono ?_); (case side1 => repeat (first | exact (Kd.C_below HR0.out HB.out) | (with_reducible refine Kd.C_alloc ?_ _) | (with_reducible refine Kd.C_drewN ?_ _) | (with_reducible refine Kd.C_drew ?_))); (case side2 => exact HC0.out); rintro e w38 ⟨rfl, hb⟩; have n0_ := Aside0.mk (Kd.R_below (by (with_reducible repeat (first | apply Kd.R_alloc | apply Kd.R_drewN | apply Kd.R_drew)); exact HO_22.out) hb); have n1_ := Aside0.mk (blk_below (g := gb647) (o := .cells #[.int .i64 t644, .int .i64 t645] 29 (0, 0)) (by (with_reducible repeat (first | refine blk_drewN ?_ _ | refine blk_drew ?_ | refine blk_alloc ?_ _)); exact BK647.out) hb); have n2_ := Aside0.mk (below_step (by repeat (first | (with_reducible first | exact HB.out | apply below_alloc | apply pw_below_drewN | apply below_drew1 | refine below_set ?_ GE647.out) | exact HB.out)) hb); clear HO_22; clear BK647; clear HB; have HO_22 := n0_; have BK647 := n1_; have HB := n2_; clear n0_ n1_ n2_; (try clear hb); (try clear hb2); (try clear hk); (try clear hi)))
           go_meet
           case rel => exact ⟨_, (true), (by first | rfl | (simp; done) | (simp [*]; done)), H', ⟨by have := HK1.out; first | omega | exact Nat.le_refl _⟩, ⟨by (with_reducible repeat (first | refine blk_drewN ?_ _ | refine blk_drew ?_ | refine blk_alloc ?_ _)); exact BK647.out⟩, ⟨by repeat (first | (with_reducible first | exact HB.out | apply below_alloc | apply pw_below_drewN | apply below_drew1 | refine below_set ?_ GE647.out) | exact HB.out)⟩⟩
          ·rw [if_neg c32] at H
           have c32b0 : (t659 == t646) = false := beq_eq_false_iff_ne.mpr c32
           have c32b1 : (t659 != t646) = true := bne_iff_ne.mpr c32
           replace H := Option.bind_eq_some_iff.mp H
           obtain ⟨t660, A390, H⟩ := H
           replace H : (timesynclaw23_IntervalPeaks.j1 k1 l0 a1 t646 (t660 == t646) t644 t645) = some r := H
           have A39 := Aside0.mk A390
           clear A390
           have H' := Aside0.mk H
           clear H
           have hcz40_0 : wr.cell? ⟨gb647, 0, none⟩ = some (.int .i64 t644) := (blk_cell BK647.out 0).trans rfl
           have hcz40_1 : wr.cell? ⟨gb647, 1, none⟩ = some (.int .i64 t645) := (blk_cell BK647.out 1).trans rfl
           have hfz40_0 := blk_frozen BK647.out 0
           have hfz40_1 := blk_frozen BK647.out 1
           go_wp2_with (first | ((with_reducible refine gate_callee (f := 43) rfl ?_); refine goesL_ (some 45) rfl rfl Try.func43 (by kernel_rfl) rfl #[.slice A0 l0.length c0, .int .i64 t644] rfl (by (try simp only [List.map_toArray, List.map_cons, List.map_nil]); first | done | rfl | (simp only [List.length_drop, List.length_take]; rfl)) ?_; (with_reducible refine (interval_Count.calls k1 _ _ l0 t644 t657 _ ?side1 ?side2 A27.out).mono ?_); (case side1 => repeat (first | exact (Kd.C_below HR0.out HB.out) | (with_reducible refine Kd.C_alloc ?_ _) | (with_reducible refine Kd.C_drewN ?_ _) | (with_reducible refine Kd.C_drew ?_))); (case side2 => exact HC0.out); rintro e w41 ⟨rfl, hb⟩; refine ⟨_, rfl, ?_⟩; have n0_ := Aside0.mk (Kd.R_below (by (with_reducible repeat (first | apply Kd.R_alloc | apply Kd.R_drewN | apply Kd.R_drew)); exact HO_22.out) hb); have n1_ := Aside0.mk (blk_below (g := gb647) (o := .cells #[.int .i64 t644, .int .i64 t645] 29 (0, 0)) (by (with_reducible repeat (first | refine blk_drewN ?_ _ | refine blk_drew ?_ | refine blk_alloc ?_ _)); exact BK647.out) hb); have n2_ := Aside0.mk (below_step (by repeat (first | (with_reducible first | exact HB.out | apply below_alloc | apply pw_below_drewN | apply below_drew1 | refine below_set ?_ GE647.out) | exact HB.out)) hb); clear HO_22; clear BK647; clear HB; have HO_22 := n0_; have BK647 := n1_; have HB := n2_; clear n0_ n1_ n2_; (try clear hb); (try clear hb2); (try clear hk); (try clear hi); have hcz42_0 : w41.cell? ⟨gb647, 0, none⟩ = some (.int .i64 t644) := (blk_cell BK647.out 0).trans rfl; have hcz42_1 : w41.cell? ⟨gb647, 1, none⟩ = some (.int .i64 t645) := (blk_cell BK647.out 1).trans rfl; have hfz42_0 := blk_frozen BK647.out 0; have hfz42_1 := blk_frozen BK647.out 1) | (go_at_call 43; (with_reducible refine (interval_Count.calls k1 _ _ l0 t645 t658 _ ?side1 ?side2 A29.out).mono ?_); (case side1 => repeat (first | exact (Kd.C_below HR0.out HB.out) | (with_reducible refine Kd.C_alloc ?_ _) | (with_reducible refine Kd.C_drewN ?_ _) | (with_reducible refine Kd.C_drew ?_))); (case side2 => exact HC0.out); rintro e w43 ⟨rfl, hb⟩; have n0_ := Aside0.mk (Kd.R_below (by (with_reducible repeat (first | apply Kd.R_alloc | apply Kd.R_drewN | apply Kd.R_drew)); exact HO_22.out) hb); have n1_ := Aside0.mk (blk_below (g := gb647) (o := .cells #[.int .i64 t644, .int .i64 t645] 29 (0, 0)) (by (with_reducible repeat (first | refine blk_drewN ?_ _ | refine blk_drew ?_ | refine blk_alloc ?_ _)); exact BK647.out) hb); have n2_ := Aside0.mk (below_step (by repeat (first | (with_reducible first | exact HB.out | apply below_alloc | apply pw_below_drewN | apply below_drew1 | refine below_set ?_ GE647.out) | exact HB.out)) hb); clear HO_22; clear BK647; clear HB; have HO_22 := n0_; have BK647 := n1_; have HB := n2_; clear n0_ n1_ n2_; (try clear hb); (try clear hb2); (try clear hk); (try clear hi); have hcz44_0 : w43.cell? ⟨gb647, 0, none⟩ = some (.int .i64 t644) := (blk_cell BK647.out 0).trans rfl; have hcz44_1 : w43.cell? ⟨gb647, 1, none⟩ = some (.int .i64 t645) := (blk_cell BK647.out 1).trans rfl; have hfz44_0 := blk_frozen BK647.out 0; have hfz44_1 := blk_frozen BK647.out 1) | (go_at_call 43; (with_reducible refine (interval_Count.calls k1 _ _ l0 (wrap64 (t644 - 1)) t659 _ ?side1 ?side2 A31.out).mono ?_); (case side1 => repeat (first | exact (Kd.C_below HR0.out HB.out) | (with_reducible refine Kd.C_alloc ?_ _) | (with_reducible refine Kd.C_drewN ?_ _) | (with_reducible refine Kd.C_drew ?_))); (case side2 => exact HC0.out); rintro e w45 ⟨rfl, hb⟩; have n0_ := Aside0.mk (Kd.R_below (by (with_reducible repeat (first | apply Kd.R_alloc | apply Kd.R_drewN | apply Kd.R_drew)); exact HO_22.out) hb); have n1_ := Aside0.mk (blk_below (g := gb647) (o := .cells #[.int .i64 t644, .int .i64 t645] 29 (0, 0)) (by (with_reducible repeat (first | refine blk_drewN ?_ _ | refine blk_drew ?_ | refine blk_alloc ?_ _)); exact BK647.out) hb); have n2_ := Aside0.mk (below_step (by repeat (first | (with_reducible first | exact HB.out | apply below_alloc | apply pw_below_drewN | apply below_drew1 | refine below_set ?_ GE647.out) | exact HB.out)) hb); clear HO_22; clear BK647; clear HB; have HO_22 := n0_; have BK647 := n1_; have HB := n2_; clear n0_ n1_ n2_; (try clear hb); (try clear hb2); (try clear hk); (try clear hi); have hcz46_0 : w45.cell? ⟨gb647, 0, none⟩ = some (.int .i64 t644) := (blk_cell BK647.out 0).trans rfl; have hcz46_1 : w45.cell? ⟨gb647, 1, none⟩ = some (.int .i64 t645) := (blk_cell BK647.out 1).trans rfl; have hfz46_0 := blk_frozen BK647.out 0; have hfz46_1 := blk_frozen BK647.out 1) | (go_at_call 43; (with_reducible refine (interval_Count.calls k1 _ _ l0 (wrap64 (t645 + 1)) t660 _ ?side1 ?side2 A39.out).mono ?_); (case side1 => repeat (first | exact (Kd.C_below HR0.out HB.out) | (with_reducible refine Kd.C_alloc ?_ _) | (with_reducible refine Kd.C_drewN ?_ _) | (with_reducible refine Kd.C_drew ?_))); (case side2 => exact HC0.out); rintro e w47 ⟨rfl, hb⟩; have n0_ := Aside0.mk (Kd.R_below (by (with_reducible repeat (first | apply Kd.R_alloc | apply Kd.R_drewN | apply Kd.R_drew)); exact HO_22.out) hb); have n1_ := Aside0.mk (blk_below (g := gb647) (o := .cells #[.int .i64 t644, .int .i64 t645] 29 (0, 0)) (by (with_reducible repeat (first | refine blk_drewN ?_ _ | refine blk_drew ?_ | refine blk_alloc ?_ _)); exact BK647.out) hb); have n2_ := Aside0.mk (below_step (by repeat (first | (with_reducible first | exact HB.out | apply below_alloc | apply pw_below_drewN | apply below_drew1 | refine below_set ?_ GE647.out) | exact HB.out)) hb); clear HO_22; clear BK647; clear HB; have HO_22 := n0_; have BK647 := n1_; have HB := n2_; clear n0_ n1_ n2_; (try clear hb); (try clear hb2); (try clear hk); (try clear hi)))
           go_meet
           case rel => exact ⟨_, ((t660 == t646)), (by first | rfl | (simp; done) | (simp [*]; done)), H', ⟨by have := HK1.out; first | omega | exact Nat.le_refl _⟩, ⟨by (with_reducible repeat (first | refine blk_drewN ?_ _ | refine blk_drew ?_ | refine blk_alloc ?_ _)); exact BK647.out⟩, ⟨by repeat (first | (with_reducible first | exact HB.out | apply below_alloc | apply pw_below_drewN | apply below_drew1 | refine below_set ?_ GE647.out) | exact HB.out)⟩⟩
         ·rw [if_neg c30] at H
          have c30b0 : (t658 == t646) = false := beq_eq_false_iff_ne.mpr c30
          have c30b1 : (t658 != t646) = true := bne_iff_ne.mpr c30
          have H' := Aside0.mk H
          clear H
          have hcz48_0 : wr.cell? ⟨gb647, 0, none⟩ = some (.int .i64 t644) := (blk_cell BK647.out 0).trans rfl
          have hcz48_1 : wr.cell? ⟨gb647, 1, none⟩ = some (.int .i64 t645) := (blk_cell BK647.out 1).trans rfl
          have hfz48_0 := blk_frozen BK647.out 0
          have hfz48_1 := blk_frozen BK647.out 1
          go_wp2_with (first | ((with_reducible refine gate_callee (f := 43) rfl ?_); refine goesL_ (some 45) rfl rfl Try.func43 (by kernel_rfl) rfl #[.slice A0 l0.length c0, .int .i64 t644] rfl (by (try simp only [List.map_toArray, List.map_cons, List.map_nil]); first | done | rfl | (simp only [List.length_drop, List.length_take]; rfl)) ?_; (with_reducible refine (interval_Count.calls k1 _ _ l0 t644 t657 _ ?side1 ?side2 A27.out).mono ?_); (case side1 => repeat (first | exact (Kd.C_below HR0.out HB.out) | (with_reducible refine Kd.C_alloc ?_ _) | (with_reducible refine Kd.C_drewN ?_ _) | (with_reducible refine Kd.C_drew ?_))); (case side2 => exact HC0.out); rintro e w49 ⟨rfl, hb⟩; refine ⟨_, rfl, ?_⟩; have n0_ := Aside0.mk (Kd.R_below (by (with_reducible repeat (first | apply Kd.R_alloc | apply Kd.R_drewN | apply Kd.R_drew)); exact HO_22.out) hb); have n1_ := Aside0.mk (blk_below (g := gb647) (o := .cells #[.int .i64 t644, .int .i64 t645] 29 (0, 0)) (by (with_reducible repeat (first | refine blk_drewN ?_ _ | refine blk_drew ?_ | refine blk_alloc ?_ _)); exact BK647.out) hb); have n2_ := Aside0.mk (below_step (by repeat (first | (with_reducible first | exact HB.out | apply below_alloc | apply pw_below_drewN | apply below_drew1 | refine below_set ?_ GE647.out) | exact HB.out)) hb); clear HO_22; clear BK647; clear HB; have HO_22 := n0_; have BK647 := n1_; have HB := n2_; clear n0_ n1_ n2_; (try clear hb); (try clear hb2); (try clear hk); (try clear hi); have hcz50_0 : w49.cell? ⟨gb647, 0, none⟩ = some (.int .i64 t644) := (blk_cell BK647.out 0).trans rfl; have hcz50_1 : w49.cell? ⟨gb647, 1, none⟩ = some (.int .i64 t645) := (blk_cell BK647.out 1).trans rfl; have hfz50_0 := blk_frozen BK647.out 0; have hfz50_1 := blk_frozen BK647.out 1) | (go_at_call 43; (with_reducible refine (interval_Count.calls k1 _ _ l0 t645 t658 _ ?side1 ?side2 A29.out).mono ?_); (case side1 => repeat (first | exact (Kd.C_below HR0.out HB.out) | (with_reducible refine Kd.C_alloc ?_ _) | (with_reducible refine Kd.C_drewN ?_ _) | (with_reducible refine Kd.C_drew ?_))); (case side2 => exact HC0.out); rintro e w51 ⟨rfl, hb⟩; have n0_ := Aside0.mk (Kd.R_below (by (with_reducible repeat (first | apply Kd.R_alloc | apply Kd.R_drewN | apply Kd.R_drew)); exact HO_22.out) hb); have n1_ := Aside0.mk (blk_below (g := gb647) (o := .cells #[.int .i64 t644, .int .i64 t645] 29 (0, 0)) (by (with_reducible repeat (first | refine blk_drewN ?_ _ | refine blk_drew ?_ | refine blk_alloc ?_ _)); exact BK647.out) hb); have n2_ := Aside0.mk (below_step (by repeat (first | (with_reducible first | exact HB.out | apply below_alloc | apply pw_below_drewN | apply below_drew1 | refine below_set ?_ GE647.out) | exact HB.out)) hb); clear HO_22; clear BK647; clear HB; have HO_22 := n0_; have BK647 := n1_; have HB := n2_; clear n0_ n1_ n2_; (try clear hb); (try clear hb2); (try clear hk); (try clear hi)))
          go_meet
          case rel => exact ⟨_, (true), (by first | rfl | (simp; done) | (simp [*]; done)), H', ⟨by have := HK1.out; first | omega | exact Nat.le_refl _⟩, ⟨by (with_reducible repeat (first | refine blk_drewN ?_ _ | refine blk_drew ?_ | refine blk_alloc ?_ _)); exact BK647.out⟩, ⟨by repeat (first | (with_reducible first | exact HB.out | apply below_alloc | apply pw_below_drewN | apply below_drew1 | refine below_set ?_ GE647.out) | exact HB.out)⟩⟩
        ·rw [if_neg c28] at H
         have c28b0 : (t657 == t646) = false := beq_eq_false_iff_ne.mpr c28
         have c28b1 : (t657 != t646) = true := bne_iff_ne.mpr c28
         (first | rw [c28b0] | (simp only [i64_w, i32_w]; rw [c28b0]) | skip)
         have H' := Aside0.mk H
         clear H
         have hcz52_0 : wr.cell? ⟨gb647, 0, none⟩ = some (.int .i64 t644) := (blk_cell BK647.out 0).trans rfl
         have hcz52_1 : wr.cell? ⟨gb647, 1, none⟩ = some (.int .i64 t645) := (blk_cell BK647.out 1).trans rfl
         have hfz52_0 := blk_frozen BK647.out 0
         have hfz52_1 := blk_frozen BK647.out 1
         go_wp2_with (first | ((with_reducible refine gate_callee (f := 43) rfl ?_); refine goesL_ (some 45) rfl rfl Try.func43 (by kernel_rfl) rfl #[.slice A0 l0.length c0, .int .i64 t644] rfl (by (try simp only [List.map_toArray, List.map_cons, List.map_nil]); first | done | rfl | (simp only [List.length_drop, List.length_take]; rfl)) ?_; (with_reducible refine (interval_Count.calls k1 _ _ l0 t644 t657 _ ?side1 ?side2 A27.out).mono ?_); (case side1 => repeat (first | exact (Kd.C_below HR0.out HB.out) | (with_reducible refine Kd.C_alloc ?_ _) | (with_reducible refine Kd.C_drewN ?_ _) | (with_reducible refine Kd.C_drew ?_))); (case side2 => exact HC0.out); rintro e w53 ⟨rfl, hb⟩; refine ⟨_, rfl, ?_⟩; have n0_ := Aside0.mk (Kd.R_below (by (with_reducible repeat (first | apply Kd.R_alloc | apply Kd.R_drewN | apply Kd.R_drew)); exact HO_22.out) hb); have n1_ := Aside0.mk (blk_below (g := gb647) (o := .cells #[.int .i64 t644, .int .i64 t645] 29 (0, 0)) (by (with_reducible repeat (first | refine blk_drewN ?_ _ | refine blk_drew ?_ | refine blk_alloc ?_ _)); exact BK647.out) hb); have n2_ := Aside0.mk (below_step (by repeat (first | (with_reducible first | exact HB.out | apply below_alloc | apply pw_below_drewN | apply below_drew1 | refine below_set ?_ GE647.out) | exact HB.out)) hb); clear HO_22; clear BK647; clear HB; have HO_22 := n0_; have BK647 := n1_; have HB := n2_; clear n0_ n1_ n2_; (try clear hb); (try clear hb2); (try clear hk); (try clear hi)))
         go_meet
         case rel => exact ⟨_, (true), (by first | rfl | (simp; done) | (simp [*]; done)), H', ⟨by have := HK1.out; first | omega | exact Nat.le_refl _⟩, ⟨by (with_reducible repeat (first | refine blk_drewN ?_ _ | refine blk_drew ?_ | refine blk_alloc ?_ _)); exact BK647.out⟩, ⟨by repeat (first | (with_reducible first | exact HB.out | apply below_alloc | apply pw_below_drewN | apply below_drew1 | refine below_set ?_ GE647.out) | exact HB.out)⟩⟩
       case rest =>
        clear HC26
        try clear c1
        try clear c2
        try clear p2
        try clear c3
        try clear c3b0
        try clear c3b1
        try clear c4
        try clear p6
        try clear q6
        try clear hx6
        try clear c8
        try clear c13
        try clear c15
        try clear c15b0
        try clear c16
        try clear c16b0
        try clear c17
        try clear c17b0
        try clear c19
        try clear c19b0
        try clear c21
        try clear c21b0
        try clear c21b1
        try clear c22
        try clear c22b0
        try clear c22b1
        try clear c22b2
        try clear c28
        try clear c28b0
        try clear c28b1
        try clear c30
        try clear c30b0
        try clear c30b1
        try clear c32
        try clear c32b0
        try clear c32b1
        try clear c35
        try clear c38
        try clear c40
        try clear c43
        try clear hcz11_0
        try clear hcz11_1
        try clear hcz24_0
        try clear hcz24_1
        try clear hcz33_0
        try clear hcz33_1
        try clear hcz35_0
        try clear hcz35_1
        try clear hcz37_0
        try clear hcz37_1
        try clear hcz40_0
        try clear hcz40_1
        try clear hcz42_0
        try clear hcz42_1
        try clear hcz44_0
        try clear hcz44_1
        try clear hcz46_0
        try clear hcz46_1
        try clear hcz48_0
        try clear hcz48_1
        try clear hcz50_0
        try clear hcz50_1
        try clear hcz52_0
        try clear hcz52_1
        try clear hfz11_0
        try clear hfz11_1
        try clear hfz24_0
        try clear hfz24_1
        try clear hfz33_0
        try clear hfz33_1
        try clear hfz35_0
        try clear hfz35_1
        try clear hfz37_0
        try clear hfz37_1
        try clear hfz40_0
        try clear hfz40_1
        try clear hfz42_0
        try clear hfz42_1
        try clear hfz44_0
        try clear hfz44_1
        try clear hfz46_0
        try clear hfz46_1
        try clear hfz48_0
        try clear hfz48_1
        try clear hfz50_0
        try clear hfz50_1
        try clear hfz52_0
        try clear hfz52_1
        try clear hx654_0
        try clear p2
        try clear p654
        try clear q654
        obtain ⟨kq, x73_25, rfl, HA, HJ25, BK647, HB⟩ := hcut
        cases kq with
        | zero => exact absurd HA.out (by simp [timesynclaw23_IntervalPeaks.j1])
        | succ kj25 =>
         have H := HA.out
         clear HA
         simp only [timesynclaw23_IntervalPeaks.j1] at H
         by_cases c54 : x73_25 = true
         ·subst c54
          have H1 : (none) = some r := by rw [if_pos rfl] at H; exact H
          clear H
          have H := H1
          clear H1
          exact absurd H (by simp)
         ·replace c54 := Bool.eq_false_iff.mpr c54
          subst c54
          have H1 : (if a1 < t644 then (if a1 ≥ t644 then (none) else ((interval_Count.f kj25 l0 a1).bind fun t661 => (if t661 < t646 then ((timesynclaw23_awake.f kj25).bind fun t662 => (some t662)) else (none)))) else (if a1 > t645 then (if a1 ≥ t644 then ((timesynclaw23_awake.f kj25).bind fun t663 => (some t663)) else (none)) else ((interval_Count.f kj25 l0 a1).bind fun t664 => (if t664 = t646 then (if a1 ≥ t644 then ((timesynclaw23_awake.f kj25).bind fun t665 => (some t665)) else (none)) else (none))))) = some r := by rw [if_neg (show ¬ (false = true) by decide)] at H; exact H
          clear H
          have H := H1
          clear H1
          by_cases c55 : a1 < t644
          ·rw [if_pos c55] at H
           have c55b0 : decide (a1 < t644) = true := decide_eq_true c55
           clear c55
           by_cases c56 : a1 ≥ t644
           ·rw [if_pos c56] at H
            exact absurd H (by simp)
           ·rw [if_neg c56] at H
            have c56b0 : decide (t644 ≤ a1) = false := decide_eq_false c56
            clear c56
            replace H := Option.bind_eq_some_iff.mp H
            obtain ⟨t661, A570, H⟩ := H
            replace H : (if t661 < t646 then ((timesynclaw23_awake.f kj25).bind fun t662 => (some t662)) else (none)) = some r := H
            have A57 := Aside0.mk A570
            clear A570
            by_cases c58 : t661 < t646
            ·rw [if_pos c58] at H
             have c58b0 : decide (t661 < t646) = true := decide_eq_true c58
             clear c58
             replace H := Option.bind_eq_some_iff.mp H
             obtain ⟨t662, A590, H⟩ := H
             replace H : (some t662) = some r := H
             have A59 := Aside0.mk A590
             clear A590
             obtain rfl := Option.some.inj H
             have hcz60_0 : wc.cell? ⟨gb647, 0, none⟩ = some (.int .i64 t644) := (blk_cell BK647.out 0).trans rfl
             have hcz60_1 : wc.cell? ⟨gb647, 1, none⟩ = some (.int .i64 t645) := (blk_cell BK647.out 1).trans rfl
             have hfz60_0 := blk_frozen BK647.out 0
             have hfz60_1 := blk_frozen BK647.out 1
             go_wp2_with (first | (go_at_call 43; (with_reducible refine (interval_Count.calls kj25 _ _ l0 a1 t661 _ ?side1 ?side2 A57.out).mono ?_); (case side1 => repeat (first | exact (Kd.C_below HR0.out HB.out) | (with_reducible refine Kd.C_alloc ?_ _) | (with_reducible refine Kd.C_drewN ?_ _) | (with_reducible refine Kd.C_drew ?_))); (case side2 => exact HC0.out); rintro e w61 ⟨rfl, hb⟩; have n0_ := Aside0.mk (blk_below (g := gb647) (o := .cells #[.int .i64 t644, .int .i64 t645] 29 (0, 0)) (by (with_reducible repeat (first | refine blk_drewN ?_ _ | refine blk_drew ?_ | refine blk_alloc ?_ _)); exact BK647.out) hb); have n1_ := Aside0.mk (below_step (by repeat (first | (with_reducible first | exact HB.out | apply below_alloc | apply pw_below_drewN | apply below_drew1 | refine below_set ?_ GE647.out) | exact HB.out)) hb); clear BK647; clear HB; have BK647 := n0_; have HB := n1_; clear n0_ n1_; (try clear hb); (try clear hb2); (try clear hk); (try clear hi)) | (go_at_call 35; (with_reducible refine (timesynclaw23_awake.calls kj25  t662 _ A59.out).mono ?_); rintro e w62 ⟨rfl, hb⟩; have n0_ := Aside0.mk (blk_below (g := gb647) (o := .cells #[.int .i64 t644, .int .i64 t645] 29 (0, 0)) (by (with_reducible repeat (first | refine blk_drewN ?_ _ | refine blk_drew ?_ | refine blk_alloc ?_ _)); exact BK647.out) hb); have n1_ := Aside0.mk (below_step (by repeat (first | (with_reducible first | exact HB.out | apply below_alloc | apply pw_below_drewN | apply below_drew1 | refine below_set ?_ GE647.out) | exact HB.out)) hb); clear BK647; clear HB; have BK647 := n0_; have HB := n1_; clear n0_ n1_; (try clear hb); (try clear hb2); (try clear hk); (try clear hi)))
             go_ret
             exact ⟨by first | rfl | (simp [errW_none, errW_some] <;> rfl) | (simp [*, errW_none, errW_some] <;> rfl), by repeat (first | (with_reducible first | exact HB.out | apply below_alloc | apply pw_below_drewN | apply below_drew1 | refine below_set ?_ GE647.out) | exact HB.out)⟩
            ·rw [if_neg c58] at H
             exact absurd H (by simp)
          ·rw [if_neg c55] at H
           have c55b0 : decide (a1 < t644) = false := decide_eq_false c55
           clear c55
           by_cases c63 : a1 > t645
           ·rw [if_pos c63] at H
            have c63b0 : decide (t645 < a1) = true := decide_eq_true c63
            clear c63
            by_cases c64 : a1 ≥ t644
            ·rw [if_pos c64] at H
             have c64b0 : decide (t644 ≤ a1) = true := decide_eq_true c64
             clear c64
             replace H := Option.bind_eq_some_iff.mp H
             obtain ⟨t663, A650, H⟩ := H
             replace H : (some t663) = some r := H
             have A65 := Aside0.mk A650
             clear A650
             obtain rfl := Option.some.inj H
             have hcz66_0 : wc.cell? ⟨gb647, 0, none⟩ = some (.int .i64 t644) := (blk_cell BK647.out 0).trans rfl
             have hcz66_1 : wc.cell? ⟨gb647, 1, none⟩ = some (.int .i64 t645) := (blk_cell BK647.out 1).trans rfl
             have hfz66_0 := blk_frozen BK647.out 0
             have hfz66_1 := blk_frozen BK647.out 1
             go_wp2_with (first | (go_at_call 35; (with_reducible refine (timesynclaw23_awake.calls kj25  t663 _ A65.out).mono ?_); rintro e w67 ⟨rfl, hb⟩; have n0_ := Aside0.mk (blk_below (g := gb647) (o := .cells #[.int .i64 t644, .int .i64 t645] 29 (0, 0)) (by (with_reducible repeat (first | refine blk_drewN ?_ _ | refine blk_drew ?_ | refine blk_alloc ?_ _)); exact BK647.out) hb); have n1_ := Aside0.mk (below_step (by repeat (first | (with_reducible first | exact HB.out | apply below_alloc | apply pw_below_drewN | apply below_drew1 | refine below_set ?_ GE647.out) | exact HB.out)) hb); clear BK647; clear HB; have BK647 := n0_; have HB := n1_; clear n0_ n1_; (try clear hb); (try clear hb2); (try clear hk); (try clear hi)))
             go_ret
             exact ⟨by first | rfl | (simp [errW_none, errW_some] <;> rfl) | (simp [*, errW_none, errW_some] <;> rfl), by repeat (first | (with_reducible first | exact HB.out | apply below_alloc | apply pw_below_drewN | apply below_drew1 | refine below_set ?_ GE647.out) | exact HB.out)⟩
            ·rw [if_neg c64] at H
             exact absurd H (by simp)
           ·rw [if_neg c63] at H
            have c63b0 : decide (t645 < a1) = false := decide_eq_false c63
            clear c63
            replace H := Option.bind_eq_some_iff.mp H
            obtain ⟨t664, A680, H⟩ := H
            replace H : (if t664 = t646 then (if a1 ≥ t644 then ((timesynclaw23_awake.f kj25).bind fun t665 => (some t665)) else (none)) else (none)) = some r := H
            have A68 := Aside0.mk A680
            clear A680
            by_cases c69 : t664 = t646
            ·rw [if_pos c69] at H
             have c69b0 : (t664 == t646) = true := beq_iff_eq.mpr c69
             have c69b1 : (t664 != t646) = false := bne_eq_false_iff_eq.mpr c69
             clear c69
             by_cases c70 : a1 ≥ t644
             ·rw [if_pos c70] at H
              have c70b0 : decide (t644 ≤ a1) = true := decide_eq_true c70
              clear c70
              replace H := Option.bind_eq_some_iff.mp H
              obtain ⟨t665, A710, H⟩ := H
              replace H : (some t665) = some r := H
              have A71 := Aside0.mk A710
              clear A710
              obtain rfl := Option.some.inj H
              have hcz72_0 : wc.cell? ⟨gb647, 0, none⟩ = some (.int .i64 t644) := (blk_cell BK647.out 0).trans rfl
              have hcz72_1 : wc.cell? ⟨gb647, 1, none⟩ = some (.int .i64 t645) := (blk_cell BK647.out 1).trans rfl
              have hfz72_0 := blk_frozen BK647.out 0
              have hfz72_1 := blk_frozen BK647.out 1
              go_wp2_with (first | (go_at_call 43; (with_reducible refine (interval_Count.calls kj25 _ _ l0 a1 t664 _ ?side1 ?side2 A68.out).mono ?_); (case side1 => repeat (first | exact (Kd.C_below HR0.out HB.out) | (with_reducible refine Kd.C_alloc ?_ _) | (with_reducible refine Kd.C_drewN ?_ _) | (with_reducible refine Kd.C_drew ?_))); (case side2 => exact HC0.out); rintro e w73 ⟨rfl, hb⟩; have n0_ := Aside0.mk (blk_below (g := gb647) (o := .cells #[.int .i64 t644, .int .i64 t645] 29 (0, 0)) (by (with_reducible repeat (first | refine blk_drewN ?_ _ | refine blk_drew ?_ | refine blk_alloc ?_ _)); exact BK647.out) hb); have n1_ := Aside0.mk (below_step (by repeat (first | (with_reducible first | exact HB.out | apply below_alloc | apply pw_below_drewN | apply below_drew1 | refine below_set ?_ GE647.out) | exact HB.out)) hb); clear BK647; clear HB; have BK647 := n0_; have HB := n1_; clear n0_ n1_; (try clear hb); (try clear hb2); (try clear hk); (try clear hi); have hcz74_0 : w73.cell? ⟨gb647, 0, none⟩ = some (.int .i64 t644) := (blk_cell BK647.out 0).trans rfl; have hcz74_1 : w73.cell? ⟨gb647, 1, none⟩ = some (.int .i64 t645) := (blk_cell BK647.out 1).trans rfl; have hfz74_0 := blk_frozen BK647.out 0; have hfz74_1 := blk_frozen BK647.out 1) | (go_at_call 35; (with_reducible refine (timesynclaw23_awake.calls kj25  t665 _ A71.out).mono ?_); rintro e w75 ⟨rfl, hb⟩; have n0_ := Aside0.mk (blk_below (g := gb647) (o := .cells #[.int .i64 t644, .int .i64 t645] 29 (0, 0)) (by (with_reducible repeat (first | refine blk_drewN ?_ _ | refine blk_drew ?_ | refine blk_alloc ?_ _)); exact BK647.out) hb); have n1_ := Aside0.mk (below_step (by repeat (first | (with_reducible first | exact HB.out | apply below_alloc | apply pw_below_drewN | apply below_drew1 | refine below_set ?_ GE647.out) | exact HB.out)) hb); clear BK647; clear HB; have BK647 := n0_; have HB := n1_; clear n0_ n1_; (try clear hb); (try clear hb2); (try clear hk); (try clear hi)))
              go_ret
              exact ⟨by first | rfl | (simp [errW_none, errW_some] <;> rfl) | (simp [*, errW_none, errW_some] <;> rfl), by repeat (first | (with_reducible first | exact HB.out | apply below_alloc | apply pw_below_drewN | apply below_drew1 | refine below_set ?_ GE647.out) | exact HB.out)⟩
             ·rw [if_neg c70] at H
              exact absurd H (by simp)
            ·rw [if_neg c69] at H
             exact absurd H (by simp)
  ·rw [if_neg c8] at H
   exact absurd H (by simp)

end Go.Proofs.Ytlfilhplklifjaa.X

namespace Go.Proofs.Ytlfilhplklifjaa.X
open Go.RowKit Go.Proofs.YtlfilhplklifjaaW.PrintWords Go.Proofs.YtlfilhplklifjaaW.PrintLast Go.Proofs.YtlfilhplklifjaaW.PrintMore
attribute [local go_sem] max2_int min2_int max_two min_two max_three min_three max_four min_four   -- for this text's walks alone
set_option linter.unusedVariables false
set_option linter.unusedSimpArgs false

def WFi64 (x : Int) : Prop := (Lit.int .i64 x).wf = true
def WF29 (x : S29) : Prop := WFi64 x.f0 ∧ WFi64 x.f1
def WFL29 (x : List (S29)) : Prop := x.length ≤ 9223372036854775807 ∧ ∀ y ∈ x, WF29 y
end Go.Proofs.Ytlfilhplklifjaa.X

/- Plain words of this seat: rounds, wrapped numbers, lists by index; the check of candidates. -/
namespace Go.Proofs.Ytlfilhplklifjaa.PA
open Go.RowKit Go.Proofs.Ytlfilhplklifjaa.X Go.Proofs.YtlfilhplklifjaaW.PrintWords Go.Proofs.YtlfilhplklifjaaW.PrintLast

section
variable {α β : Type} {f g h : Nat → Option α} {r : α} {c : Prop} [Decidable c]
theorem Ev.pos (hc : c) (h : Ev f r) : Ev (fun n => if c then f n else g n) r := Ev.congr (fun _ => if_pos hc) h
theorem Ev.neg (hc : ¬ c) (h : Ev g r) : Ev (fun n => if c then f n else g n) r := Ev.congr (fun _ => if_neg hc) h
theorem Ev.ite_ (h1 : c → Ev f r) (h2 : ¬ c → Ev g r) : Ev (fun n => if c then f n else g n) r := by
  by_cases hc : c
  · exact Ev.pos hc (h1 hc)
  · exact Ev.neg hc (h2 hc)
theorem Ev.bind' {g : Nat → Option α} {f : Nat → α → Option β} {r : β} (a : α) (h : Ev g a) (k : Ev (fun n => f n a) r) : Ev (fun n => (g n).bind (f n)) r := Ev.bind h k
theorem Ev.some_bind {f : Nat → α → Option β} {a : α} {r : β} (k : Ev (fun n => f n a) r) : Ev (fun n => (some a).bind (f n)) r := k
theorem Ev.const {x : Option α} (h : x = some r) : Ev (fun _ => x) r := ⟨0, fun _ _ => h⟩
theorem Ev.uniq {r r' : α} (h : Ev f r) (h' : Ev f r') : r = r' := by
  obtain ⟨K, h⟩ := h
  obtain ⟨K', h'⟩ := h'
  have h1 := h (max K K') (by omega)
  have h2 := h' (max K K') (by omega)
  rw [h1] at h2
  exact Option.some.inj h2
end

theorem wrap_id {x : Int} (h0 : -9223372036854775808 ≤ x) (h1 : x < 9223372036854775808) : wrap64 x = x := by
  unfold wrap64; omega
theorem wrap_nat {i : Nat} (h : i < 9223372036854775807) : wrap64 ((i : Int) + 1) = ((i + 1 : Nat) : Int) := by
  rw [wrap_id (by omega) (by omega)]; rfl
theorem rd29 (l : List S29) (i : Nat) : rd_T29 l (i : Int) = l.getD i z29 := by simp [rd_T29]
theorem rd88 (l : List S88) (i : Nat) : rd_T88 l (i : Int) = l.getD i z88 := by simp [rd_T88]
theorem rd110 (l : List S110) (i : Nat) : rd_T110 l (i : Int) = l.getD i z110 := by simp [rd_T110]
theorem rdI (l : List Int) (i : Nat) : rd l (i : Int) = l.getD i 0 := by simp [rd]

/-! ### Check -/
/-- A candidate within the limits. -/
def OkC (c : S37) : Prop := 0 ≤ c.f0 ∧ c.f0 ≤ 2147483647 ∧ -4503599627370496 ≤ c.f1 ∧ c.f1 ≤ 4503599627370496 ∧ 0 ≤ c.f2 ∧ c.f2 ≤ 9007199254740992 ∧ 0 ≤ c.f3 ∧ c.f3 ≤ 9007199254740992 ∧ 1 ≤ c.f4 ∧ c.f4 ≤ 16
instance (c : S37) : Decidable (OkC c) := by unfold OkC; infer_instance
/-- One of the candidates from j on, ahead of i, has i's number. -/
def dupFrom (l : List S37) (i : Nat) : Nat → Nat → Bool
  | 0, _ => false
  | d + 1, j => if (l.getD j z37).f0 = (l.getD i z37).f0 then true else dupFrom l i d (j + 1)
def chkFrom (l : List S37) : Nat → Nat → Int
  | 0, _ => 0
  | d + 1, i => if OkC (l.getD i z37) then (if dupFrom l i i 0 = true then 10 else chkFrom l d (i + 1)) else 3
def chk (l : List S37) : Int := if (l.length : Int) > 12 then 6 else chkFrom l l.length 0

end Go.Proofs.Ytlfilhplklifjaa.PA

/- Positions by a test; how many intervals hold an instant; the reference's hull. -/
namespace Go.Proofs.Ytlfilhplklifjaa.PA
open Go.RowKit Go.Proofs.Ytlfilhplklifjaa.X Go.Proofs.YtlfilhplklifjaaW.PrintWords Go.Proofs.YtlfilhplklifjaaW.PrintLast

/-! ### Positions -/
def idxFrom (l : List S37) (p : S37 → Bool) : Nat → Nat → List Int
  | 0, _ => []
  | d + 1, i => if p (l.getD i z37) = true then (i : Int) :: idxFrom l p d (i + 1) else idxFrom l p d (i + 1)
def idx (l : List S37) (p : S37 → Bool) : List Int := idxFrom l p l.length 0
def pIn (lo hi : Int) (c : S37) : Bool := decide (lo ≤ c.f1) && decide (c.f1 ≤ hi)
/-! ### Counts -/
def holds (s : S29) (t : Int) : Bool := decide (s.f0 ≤ t) && decide (t ≤ s.f1)
def cnt (v : List S29) (t : Int) : Nat := v.countP (fun s => holds s t)
def span (c : S37) : S29 := ⟨c.f1 - c.f2, c.f1 + c.f2⟩
def spans (l : List S37) : List S29 := l.map span
/-- What a hull is: the first and the last instant with at least 'need' intervals; none if there is no such instant. -/
def HullSpec (v : List S29) (need : Int) (lo hi : Int) (ok : Bool) : Prop :=
  (ok = true ∧ 1 ≤ need ∧ need ≤ cnt v lo ∧ need ≤ cnt v hi ∧ ∀ t, need ≤ cnt v t → lo ≤ t ∧ t ≤ hi) ∨ (ok = false ∧ lo = 0 ∧ hi = 0 ∧ (need < 1 ∨ ∀ t, (cnt v t : Int) < need))
theorem HullSpec.uniq {v : List S29} {need a b a' b' : Int} {o o' : Bool} (h : HullSpec v need a b o) (h' : HullSpec v need a' b' o') : a = a' ∧ b = b' ∧ o = o' := by
  rcases h with ⟨rfl, h1, h2, h3, h4⟩ | ⟨rfl, rfl, rfl, h1⟩ <;> rcases h' with ⟨rfl, g1, g2, g3, g4⟩ | ⟨rfl, rfl, rfl, g1⟩
  · have x1 := h4 _ g2; have x2 := h4 _ g3; have x3 := g4 _ h2; have x4 := g4 _ h3
    exact ⟨by omega, by omega, rfl⟩
  · rcases g1 with g1 | g1
    · omega
    · have := g1 a; omega
  · rcases h1 with h1 | h1
    · omega
    · have := h1 a'; omega
  · exact ⟨rfl, rfl, rfl⟩

theorem cnt_mono {v : List S29} {t u : Int} (h : ∀ s ∈ v, holds s t = true → holds s u = true) : cnt v t ≤ cnt v u := List.countP_mono_left h
theorem max_f0 : ∀ (v : List S29), v ≠ [] → ∃ s ∈ v, ∀ x ∈ v, x.f0 ≤ s.f0
  | [], h => absurd rfl h
  | [a], _ => ⟨a, by simp, by simp⟩
  | a :: b :: r, _ => by
    obtain ⟨s, hs, hm⟩ := max_f0 (b :: r) (by simp)
    by_cases h : s.f0 ≤ a.f0
    · exact ⟨a, by simp, fun x hx => by
        rcases List.mem_cons.1 hx with rfl | hx
        · exact Int.le_refl _
        · exact Int.le_trans (hm x hx) h⟩
    · exact ⟨s, List.mem_cons_of_mem _ hs, fun x hx => by
        rcases List.mem_cons.1 hx with rfl | hx
        · omega
        · exact hm x hx⟩
theorem min_f1 : ∀ (v : List S29), v ≠ [] → ∃ s ∈ v, ∀ x ∈ v, s.f1 ≤ x.f1
  | [], h => absurd rfl h
  | [a], _ => ⟨a, by simp, by simp⟩
  | a :: b :: r, _ => by
    obtain ⟨s, hs, hm⟩ := min_f1 (b :: r) (by simp)
    by_cases h : a.f1 ≤ s.f1
    · exact ⟨a, by simp, fun x hx => by
        rcases List.mem_cons.1 hx with rfl | hx
        · exact Int.le_refl _
        · exact Int.le_trans h (hm x hx)⟩
    · exact ⟨s, List.mem_cons_of_mem _ hs, fun x hx => by
        rcases List.mem_cons.1 hx with rfl | hx
        · omega
        · exact hm x hx⟩
theorem holds_iff {s : S29} {t : Int} : holds s t = true ↔ s.f0 ≤ t ∧ t ≤ s.f1 := by simp [holds]
/-- The last begin at or ahead of an instant has at least its count; the first end behind it, too. -/
theorem cnt_begin {v : List S29} {t : Int} (h : 1 ≤ cnt v t) : ∃ s ∈ v, s.f0 ≤ t ∧ cnt v t ≤ cnt v s.f0 := by
  have hne : v.filter (fun s => holds s t) ≠ [] := by
    intro e
    rw [cnt, List.countP_eq_length_filter, e] at h
    simp at h
  obtain ⟨s, hs, hm⟩ := max_f0 _ hne
  rw [List.mem_filter] at hs
  refine ⟨s, hs.1, (holds_iff.1 hs.2).1, cnt_mono fun x hx hx2 => ?_⟩
  have := hm x (List.mem_filter.2 ⟨hx, hx2⟩)
  have h1 := holds_iff.1 hx2
  have h2 := holds_iff.1 hs.2
  exact holds_iff.2 ⟨this, by omega⟩
theorem cnt_end {v : List S29} {t : Int} (h : 1 ≤ cnt v t) : ∃ s ∈ v, t ≤ s.f1 ∧ cnt v t ≤ cnt v s.f1 := by
  have hne : v.filter (fun s => holds s t) ≠ [] := by
    intro e
    rw [cnt, List.countP_eq_length_filter, e] at h
    simp at h
  obtain ⟨s, hs, hm⟩ := min_f1 _ hne
  rw [List.mem_filter] at hs
  refine ⟨s, hs.1, (holds_iff.1 hs.2).2, cnt_mono fun x hx hx2 => ?_⟩
  have := hm x (List.mem_filter.2 ⟨hx, hx2⟩)
  have h1 := holds_iff.1 hx2
  have h2 := holds_iff.1 hs.2
  exact holds_iff.2 ⟨by omega, this⟩

end Go.Proofs.Ytlfilhplklifjaa.PA

/- The program's runs and its hull. -/
namespace Go.Proofs.Ytlfilhplklifjaa.PA
open Go.RowKit Go.Proofs.Ytlfilhplklifjaa.X Go.Proofs.YtlfilhplklifjaaW.PrintWords Go.Proofs.YtlfilhplklifjaaW.PrintLast

/-! ### Valid intervals -/
def OkI (s : S29) : Prop := s.f0 ≤ s.f1 ∧ -8000000000000000000 ≤ s.f0 ∧ s.f1 ≤ 8000000000000000000
instance (s : S29) : Decidable (OkI s) := by unfold OkI; infer_instance
def valid (v : List S29) : List S29 := if (v.length : Int) > 48 then [] else v.filter (fun s => decide (OkI s))
theorem drift_check (s : S29) : drift_Check.f s.f0 s.f1 = some (if OkI s then 0 else 3) := by
  unfold drift_Check.f
  have nk : ∀ {p : Prop}, p → (OkI s → ¬ p) → ¬ OkI s := fun h h2 h3 => h2 h3 h
  by_cases h1 : s.f0 > s.f1
  · rw [if_pos h1, if_neg (nk h1 fun h => by unfold OkI at h; omega)]
  · rw [if_neg h1]
    by_cases h2 : s.f0 < -8000000000000000000
    · rw [if_pos h2, if_neg (nk h2 fun h => by unfold OkI at h; omega)]
    · rw [if_neg h2]
      by_cases h3 : s.f1 > 8000000000000000000
      · rw [if_pos h3, if_neg (nk h3 fun h => by unfold OkI at h; omega)]
      · rw [if_neg h3, if_pos (show OkI s by unfold OkI; omega)]
theorem valid_from (v : List S29) (hn : v.length ≤ 48) : ∀ d i (acc : List S29), i + d = v.length → acc.length ≤ i → Ev (fun k => interval_valid.l0 k acc v v.length i) (acc ++ (v.drop i).filter (fun s => decide (OkI s))) := by
  intro d
  induction d with
  | zero =>
    intro i acc hi ha
    refine Ev.step (fun k => by rw [interval_valid.l0]) ?_
    refine Ev.neg (by omega) (Ev.const ?_)
    rw [List.drop_eq_nil_of_le (by omega)]
    simp
  | succ d ih =>
    intro i acc hi ha
    have hlt : i < v.length := by omega
    have hg : v.getD i z29 = v[i] := by simp [List.getD, hlt]
    refine Ev.step (fun k => by rw [interval_valid.l0]) ?_
    refine Ev.pos (by omega) (Ev.pos (by omega) (Ev.pos (by omega) ?_))
    simp only [rd29]
    rw [drift_check, hg]
    refine Ev.some_bind ?_
    have ew : wrap64 ((i : Int) + 1) = ((i + 1 : Nat) : Int) := wrap_nat (by omega)
    rw [ew, List.drop_eq_getElem_cons hlt]
    by_cases h : OkI v[i]
    · rw [if_pos h, List.filter_cons_of_pos (by simpa using h)]
      refine Ev.pos rfl (Ev.pos (by omega) ?_)
      have := ih (i + 1) (acc ++ [v[i]]) (by omega) (by simp; omega)
      simpa using this
    · rw [if_neg h, List.filter_cons_of_neg (by simpa using h)]
      exact Ev.neg (by omega) (ih (i + 1) acc (by omega) (by omega))
theorem impl_valid (v : List S29) : Ev (fun k => interval_valid.f k v) (valid v) := by
  unfold interval_valid.f valid
  by_cases h : (v.length : Int) > 48
  · rw [if_pos h]; exact Ev.pos h (Ev.const rfl)
  · rw [if_neg h]
    refine Ev.neg h ?_
    have := valid_from v (by omega) v.length 0 [] (by omega) (by simp)
    simpa using this
theorem valid_len (v : List S29) : (valid v).length ≤ 48 := by
  unfold valid
  split
  · simp
  · exact Nat.le_trans (List.length_filter_le _ _) (by omega)
theorem valid_ok {v : List S29} {s : S29} (h : s ∈ valid v) : OkI s := by
  unfold valid at h
  split at h
  · simp at h
  · simpa using (List.mem_filter.1 h).2

/-! ### Changes -/
def changes (v : List S29) : List S110 := v.flatMap (fun s => [⟨s.f0, 1⟩, ⟨s.f1 + 1, -1⟩])
theorem changes_len (v : List S29) : (changes v).length = 2 * v.length := by
  unfold changes
  induction v with
  | nil => rfl
  | cons a r ih => simp only [List.flatMap_cons, List.length_append, List.length_cons, List.length_nil, ih]; omega
/-- What the changes up to an instant make together. -/
def sumLe (cs : List S110) (t : Int) : Int := (cs.map (fun x => if x.f0 ≤ t then x.f1 else 0)).sum
def total (cs : List S110) : Int := (cs.map (fun x => x.f1)).sum
theorem sumLe_changes (v : List S29) (h : ∀ s ∈ v, s.f0 ≤ s.f1) (t : Int) : sumLe (changes v) t = cnt v t := by
  induction v with
  | nil => rfl
  | cons a r ih =>
    have ih := ih (fun s hs => h s (List.mem_cons_of_mem _ hs))
    have ha := h a (by simp)
    have e1 : sumLe (changes (a :: r)) t = (if a.f0 ≤ t then 1 else 0) + ((if a.f1 + 1 ≤ t then -1 else 0) + sumLe (changes r) t) := by
      simp [sumLe, changes]
    have e2 : cnt (a :: r) t = cnt r t + (if holds a t = true then 1 else 0) := by simp [cnt, List.countP_cons]
    rw [e1, e2, ih]
    by_cases h1 : a.f0 ≤ t <;> by_cases h2 : a.f1 + 1 ≤ t
    · have : ¬ holds a t = true := fun hh => by have := holds_iff.1 hh; omega
      simp [h1, h2, this]; omega
    · have : holds a t = true := holds_iff.2 (by omega)
      simp [h1, h2, this]; omega
    · omega
    · have : ¬ holds a t = true := fun hh => by have := holds_iff.1 hh; omega
      simp [h1, h2, this]
theorem total_changes (v : List S29) : total (changes v) = 0 := by
  induction v with
  | nil => rfl
  | cons a r ih =>
    have : total (changes (a :: r)) = 1 + (-1 + total (changes r)) := by simp [total, changes]
    omega
theorem sum_perm {l l' : List Int} (h : l.Perm l') : l.sum = l'.sum := by
  induction h with
  | nil => rfl
  | cons x _ ih => simp [ih]
  | swap x y l => simp only [List.sum_cons]; omega
  | trans _ _ ih1 ih2 => exact ih1.trans ih2
theorem sumLe_perm {cs cs' : List S110} (h : cs.Perm cs') (t : Int) : sumLe cs t = sumLe cs' t := sum_perm (h.map _)
theorem total_perm {cs cs' : List S110} (h : cs.Perm cs') : total cs = total cs' := sum_perm (h.map _)

theorem runs_from (v : List S29) (hn : v.length ≤ 48) (hok : ∀ s ∈ v, OkI s) (r : List S88)
    (hr : Ev (fun k => (interval_change_82_83.f (changes v)).bind fun t => interval_runs.l1 k t [] 0 t ((changes v).length : Int) 0) r) :
    ∀ d i (acc : List S110), i + d = v.length → acc = changes (v.take i) → Ev (fun k => interval_runs.l0 k acc v v.length i) r := by
  intro d
  induction d with
  | zero =>
    intro i acc hi ha
    refine Ev.step (fun k => by rw [interval_runs.l0]) ?_
    refine Ev.neg (by omega) ?_
    rw [List.take_of_length_le (by omega)] at ha
    subst ha
    exact hr
  | succ d ih =>
    intro i acc hi ha
    have hlt : i < v.length := by omega
    have hg : v.getD i z29 = v[i] := by simp [List.getD, hlt]
    obtain ⟨_, h2, h3⟩ := hok v[i] (List.getElem_mem hlt)
    refine Ev.step (fun k => by rw [interval_runs.l0]) ?_
    refine Ev.pos (by omega) (Ev.pos (by omega) (Ev.pos (by omega) (Ev.some_bind ?_)))
    simp only [rd29]
    have ew : wrap64 ((i : Int) + 1) = ((i + 1 : Nat) : Int) := wrap_nat (by omega)
    have el : acc.length = 2 * i := by rw [ha, changes_len, List.length_take]; omega
    rw [hg, ew, wrap_id (x := v[i].f1 + 1) (by have := hok v[i] (List.getElem_mem hlt); unfold OkI at this; omega) (by omega)]
    refine Ev.pos (by simp [el]; omega) ?_
    refine ih (i + 1) _ (by omega) ?_
    rw [ha, List.take_succ_eq_append_getElem hlt]
    unfold changes
    rw [List.flatMap_append]
    rfl

/-! ### Runs -/
def runsOf : Int → List S110 → List S88
  | _, [] => []
  | _, [_] => []
  | c, x :: y :: rest => if y.f0 > x.f0 then ⟨x.f0, y.f0 - 1, c + x.f1⟩ :: runsOf (c + x.f1) (y :: rest) else runsOf (c + x.f1) (y :: rest)
theorem runsOf_len : ∀ (cs : List S110) (c : Int), (runsOf c cs).length ≤ cs.length
  | [], _ => by simp [runsOf]
  | [_], _ => by simp [runsOf]
  | x :: y :: rest, c => by
    have := runsOf_len (y :: rest) (c + x.f1)
    unfold runsOf
    split
    · simp only [List.length_cons] at this ⊢; omega
    · simp only [List.length_cons] at this ⊢; omega
/-- Small changes at small instants. -/
def Small (cs : List S110) : Prop := ∀ x ∈ cs, -1 ≤ x.f1 ∧ x.f1 ≤ 1 ∧ -8000000000000000000 ≤ x.f0 ∧ x.f0 ≤ 8000000000000000001
theorem runs_l1 (cs : List S110) (hn : cs.length ≤ 96) (hs : Small cs) : ∀ d i (acc : List S88) (c : Int), i + d = cs.length → acc.length ≤ i → -(i : Int) ≤ c → c ≤ i →
    Ev (fun k => interval_runs.l1 k cs acc c cs cs.length i) (acc ++ runsOf c (cs.drop i)) := by
  intro d
  induction d with
  | zero =>
    intro i acc c hi ha _ _
    refine Ev.step (fun k => by rw [interval_runs.l1]) ?_
    refine Ev.neg (by omega) (Ev.const ?_)
    rw [List.drop_eq_nil_of_le (by omega)]
    simp [runsOf]
  | succ d ih =>
    intro i acc c hi ha hc1 hc2
    have hlt : i < cs.length := by omega
    have hg : cs.getD i z110 = cs[i] := by simp [List.getD, hlt]
    obtain ⟨s1, s2, s3, s4⟩ := hs cs[i] (List.getElem_mem hlt)
    refine Ev.step (fun k => by rw [interval_runs.l1]) ?_
    have ew : wrap64 ((i : Int) + 1) = ((i + 1 : Nat) : Int) := wrap_nat (by omega)
    have ec : wrap64 (c + cs[i].f1) = c + cs[i].f1 := wrap_id (by omega) (by omega)
    refine Ev.pos (by omega) (Ev.pos (by omega) (Ev.pos (by omega) ?_))
    rw [ew]
    simp only [rd110]
    rw [hg, ec]
    rcases Nat.lt_or_ge (i + 1) cs.length with h1 | h1
    · have hg1 : cs.getD (i + 1) z110 = cs[i + 1] := by simp [List.getD, h1]
      obtain ⟨t1, t2, t3, t4⟩ := hs cs[i + 1] (List.getElem_mem h1)
      rw [hg1]
      refine Ev.pos (by omega) (Ev.pos (by omega) ?_)
      rw [List.drop_eq_getElem_cons hlt, List.drop_eq_getElem_cons h1]
      unfold runsOf
      by_cases hgt : cs[i + 1].f0 > cs[i].f0
      · rw [if_pos hgt]
        refine Ev.pos hgt (Ev.pos (by omega) ?_)
        rw [wrap_id (x := cs[i + 1].f0 - 1) (by omega) (by omega)]
        have := ih (i + 1) (acc ++ [⟨cs[i].f0, cs[i + 1].f0 - 1, c + cs[i].f1⟩]) (c + cs[i].f1) (by omega) (by simp; omega) (by omega) (by omega)
        rw [List.drop_eq_getElem_cons h1] at this
        simpa using this
      · rw [if_neg hgt]
        refine Ev.neg hgt ?_
        have := ih (i + 1) acc (c + cs[i].f1) (by omega) (by omega) (by omega) (by omega)
        rw [List.drop_eq_getElem_cons h1] at this
        exact this
    · refine Ev.neg (by omega) ?_
      have := ih (i + 1) acc (c + cs[i].f1) (by omega) (by omega) (by omega) (by omega)
      rw [List.drop_eq_getElem_cons hlt, List.drop_eq_nil_of_le (by omega)]
      rw [List.drop_eq_nil_of_le (by omega)] at this
      simpa [runsOf] using this

def sorted (v : List S29) : List S110 := sortChange (changes v)
theorem small_changes {v : List S29} (hok : ∀ s ∈ v, OkI s) : Small (changes v) := by
  intro x hx
  obtain ⟨s, hs, hx⟩ := List.mem_flatMap.1 hx
  obtain ⟨h1, h2, h3⟩ := hok s hs
  simp only [List.mem_cons, List.not_mem_nil, or_false] at hx
  rcases hx with rfl | rfl
  · exact ⟨by show (-1 : Int) ≤ 1; omega, by show (1 : Int) ≤ 1; omega, h2, by show s.f0 ≤ _; omega⟩
  · exact ⟨by show (-1 : Int) ≤ -1; omega, by show (-1 : Int) ≤ 1; omega, by show _ ≤ s.f1 + 1; omega, by show s.f1 + 1 ≤ _; omega⟩
theorem sorted_perm (v : List S29) : (sorted v).Perm (changes v) := (sortChange_spec _).2.1
theorem sorted_sorted (v : List S29) : (sorted v).Pairwise (fun x y => x.f0 ≤ y.f0) := by
  have h := (sortChange_spec (changes v)).2.2
  have hsz := (sortChange_spec (changes v)).1
  rw [List.pairwise_iff_getElem]
  intro i j hi hj hij
  have hj' : j < (pdqChange (changes v)).size := by simpa [sorted, sortChange] using hj
  have hi' : i < (pdqChange (changes v)).size := by omega
  have := h i j (Nat.zero_le _) hij (by omega)
  rw [lt110] at this
  have e1 : (pdqChange (changes v))[i]! = (sorted v)[i] := by
    rw [getElem!_pos _ i hi']; simp [sorted, sortChange]
  have e2 : (pdqChange (changes v))[j]! = (sorted v)[j] := by
    rw [getElem!_pos _ j hj']; simp [sorted, sortChange]
  rw [e1, e2] at this
  simp at this
  exact this
def runs (v : List S29) : List S88 := runsOf 0 (sorted (valid v))
theorem impl_runs (v : List S29) : Ev (fun k => interval_runs.f k v) (runs v) := by
  unfold interval_runs.f
  refine Ev.bind' _ (impl_valid v) ?_
  have hl := valid_len v
  have hs := sorted_perm (valid v)
  have hsm : Small (sorted (valid v)) := fun x hx => small_changes (fun s hs => valid_ok hs) x (hs.mem_iff.1 hx)
  have hlen : (sorted (valid v)).length = (changes (valid v)).length := hs.length_eq
  have hl2 : (sorted (valid v)).length ≤ 96 := by rw [hlen, changes_len]; omega
  refine runs_from (valid v) hl (fun s hs => valid_ok hs) _ ?_ (valid v).length 0 [] (by omega) (by simp [changes])
  have ef : interval_change_82_83.f (changes (valid v)) = some (sorted (valid v)) := by
    unfold interval_change_82_83.f
    rw [if_pos (by rw [← hlen]; omega)]
    rfl
  rw [ef]
  refine Ev.some_bind ?_
  rw [← hlen]
  have := runs_l1 (sorted (valid v)) hl2 hsm (sorted (valid v)).length 0 [] 0 (by omega) (by simp) (by simp) (by simp)
  simpa [runs] using this

/-! ### What the runs tell -/
theorem sumLe_cons (x : S110) (cs : List S110) (t : Int) : sumLe (x :: cs) t = (if x.f0 ≤ t then x.f1 else 0) + sumLe cs t := by simp [sumLe]
theorem sumLe_none {cs : List S110} {t : Int} (h : ∀ x ∈ cs, t < x.f0) : sumLe cs t = 0 := by
  induction cs with
  | nil => rfl
  | cons a r ih =>
    rw [sumLe_cons, ih (fun x hx => h x (List.mem_cons_of_mem _ hx)), if_neg (by have := h a (by simp); omega)]
    rfl
theorem sumLe_all {cs : List S110} {t : Int} (h : ∀ x ∈ cs, x.f0 ≤ t) : sumLe cs t = total cs := by
  induction cs with
  | nil => rfl
  | cons a r ih =>
    rw [sumLe_cons, ih (fun x hx => h x (List.mem_cons_of_mem _ hx)), if_pos (h a (by simp))]
    simp [total]
/-- Within a run the count stands; the runs follow one another; what is between the first change and the last one lies in one. -/
theorem runsOf_spec : ∀ (cs : List S110) (c : Int), cs.Pairwise (fun x y => x.f0 ≤ y.f0) →
    (∀ r ∈ runsOf c cs, r.f0 ≤ r.f1 ∧ (∀ t, r.f0 ≤ t → t ≤ r.f1 → c + sumLe cs t = r.f2) ∧ (∀ x ∈ cs.head?, x.f0 ≤ r.f0)) ∧
    (runsOf c cs).Pairwise (fun r q => r.f1 < q.f0) ∧
    (∀ t, (∃ x ∈ cs, x.f0 ≤ t) → (∃ x ∈ cs, t < x.f0) → ∃ r ∈ runsOf c cs, r.f0 ≤ t ∧ t ≤ r.f1)
  | [], c, _ => ⟨by simp [runsOf], by simp [runsOf], by simp⟩
  | [x], c, _ => ⟨by simp [runsOf], by simp [runsOf], fun t ⟨a, ha, h1⟩ ⟨b, hb, h2⟩ => by
      simp only [List.mem_cons, List.not_mem_nil, or_false] at ha hb
      subst ha; subst hb; omega⟩
  | x :: y :: rest, c, hp => by
    obtain ⟨hx, hp'⟩ := List.pairwise_cons.1 hp
    obtain ⟨i1, i2, i3⟩ := runsOf_spec (y :: rest) (c + x.f1) hp'
    have hxy := hx y (by simp)
    have later : ∀ t, x.f0 ≤ t → c + sumLe (x :: y :: rest) t = c + x.f1 + sumLe (y :: rest) t := fun t ht => by
      rw [sumLe_cons, if_pos ht]; omega
    have hy : ∀ z ∈ y :: rest, y.f0 ≤ z.f0 := fun z hz => by
      rcases List.mem_cons.1 hz with rfl | hz
      · exact Int.le_refl _
      · exact (List.pairwise_cons.1 hp').1 z hz
    have tail : ∀ r ∈ runsOf (c + x.f1) (y :: rest), r.f0 ≤ r.f1 ∧ (∀ t, r.f0 ≤ t → t ≤ r.f1 → c + sumLe (x :: y :: rest) t = r.f2) ∧ y.f0 ≤ r.f0 := fun r hr => by
      obtain ⟨a, b, d⟩ := i1 r hr
      have d' := d y rfl
      exact ⟨a, fun t h1 h2 => by rw [later t (by omega)]; exact b t h1 h2, d'⟩
    have cover : ∀ t, y.f0 ≤ t → (∃ z ∈ x :: y :: rest, t < z.f0) → ∃ r ∈ runsOf (c + x.f1) (y :: rest), r.f0 ≤ t ∧ t ≤ r.f1 := fun t ht ⟨z, hz, h2⟩ => by
      refine i3 t ⟨y, by simp, ht⟩ ⟨z, ?_, h2⟩
      rcases List.mem_cons.1 hz with rfl | hz
      · omega
      · exact hz
    unfold runsOf
    by_cases hgt : y.f0 > x.f0
    · rw [if_pos hgt]
      refine ⟨fun r hr => ?_, ?_, fun t ⟨a, ha, h1⟩ h2 => ?_⟩
      · rcases List.mem_cons.1 hr with rfl | hr
        · refine ⟨by show x.f0 ≤ y.f0 - 1; omega, fun t h1 h2 => ?_, fun z hz => by simp at hz; subst hz; exact Int.le_refl _⟩
          have h2' : t ≤ y.f0 - 1 := h2
          rw [later t h1, sumLe_none (fun z hz => by have := hy z hz; omega)]
          show c + x.f1 + 0 = c + x.f1
          omega
        · obtain ⟨a, b, d⟩ := tail r hr
          exact ⟨a, b, fun z hz => by simp at hz; subst hz; omega⟩
      · refine List.pairwise_cons.2 ⟨fun r hr => ?_, i2⟩
        have := (tail r hr).2.2
        show y.f0 - 1 < r.f0
        omega
      · by_cases hy2 : y.f0 ≤ t
        · obtain ⟨r, hr, h⟩ := cover t hy2 h2
          exact ⟨r, List.mem_cons_of_mem _ hr, h⟩
        · refine ⟨_, List.mem_cons_self, ?_, by show t ≤ y.f0 - 1; omega⟩
          show x.f0 ≤ t
          rcases List.mem_cons.1 ha with rfl | ha
          · exact h1
          · have := hx a ha; omega
    · rw [if_neg hgt]
      refine ⟨fun r hr => ?_, i2, fun t ⟨a, ha, h1⟩ h2 => ?_⟩
      · obtain ⟨a, b, d⟩ := tail r hr
        exact ⟨a, b, fun z hz => by simp at hz; subst hz; omega⟩
      · refine cover t ?_ h2
        rcases List.mem_cons.1 ha with rfl | ha
        · omega
        · exact Int.le_trans (hy a ha) h1

/-- The runs of a list of intervals: pieces in which the count stands, one behind the other; every instant that an interval holds lies in one. -/
theorem runs_spec (v : List S29) :
    (∀ r ∈ runs v, r.f0 ≤ r.f1 ∧ ∀ t, r.f0 ≤ t → t ≤ r.f1 → (cnt (valid v) t : Int) = r.f2) ∧ (runs v).Pairwise (fun r q => r.f1 < q.f0) ∧ ∀ t, 1 ≤ cnt (valid v) t → ∃ r ∈ runs v, r.f0 ≤ t ∧ t ≤ r.f1 := by
  have hs : ∀ t, sumLe (sorted (valid v)) t = cnt (valid v) t := fun t => by
    rw [sumLe_perm (sorted_perm _), sumLe_changes _ (fun s hs => (valid_ok hs).1)]
  obtain ⟨h1, h2, h3⟩ := runsOf_spec (sorted (valid v)) 0 (sorted_sorted _)
  refine ⟨fun r hr => ⟨(h1 r hr).1, fun t ha hb => ?_⟩, h2, fun t ht => h3 t ?_ ?_⟩
  · rw [← hs t]
    have := (h1 r hr).2.1 t ha hb
    omega
  · refine Classical.byContradiction fun hc => ?_
    have : sumLe (sorted (valid v)) t = 0 := sumLe_none fun x hx => Int.not_le.1 fun hle => hc ⟨x, hx, hle⟩
    rw [hs] at this
    omega
  · refine Classical.byContradiction fun hc => ?_
    have : sumLe (sorted (valid v)) t = total (sorted (valid v)) := sumLe_all fun x hx => Int.not_lt.1 fun hlt => hc ⟨x, hx, hlt⟩
    rw [hs, total_perm (sorted_perm _), total_changes] at this
    omega
theorem runs_len (v : List S29) : (runs v).length ≤ 96 := by
  have h := runsOf_len (sorted (valid v)) 0
  rw [(sorted_perm _).length_eq, changes_len] at h
  have := valid_len v
  unfold runs
  omega

/-! ### The hull -/
end Go.Proofs.Ytlfilhplklifjaa.PA

/- The selection, the falsetickers, the majority: both texts tell the same. -/
namespace Go.Proofs.Ytlfilhplklifjaa.PA
open Go.RowKit Go.Proofs.Ytlfilhplklifjaa.X Go.Proofs.YtlfilhplklifjaaW.PrintWords Go.Proofs.YtlfilhplklifjaaW.PrintLast

theorem eq_from (x y : List Int) (hx : x.length < 9223372036854775807) (he : x.length = y.length) : ∀ d i, i + d = x.length → Ev (fun k => slices_Equal_int_int.l0 k x y x.length i) (decide (x.drop i = y.drop i)) := by
  intro d
  induction d with
  | zero =>
    intro i hi
    refine Ev.step (fun k => by rw [slices_Equal_int_int.l0]) ?_
    refine Ev.neg (by omega) (Ev.const ?_)
    rw [List.drop_eq_nil_of_le (by omega), List.drop_eq_nil_of_le (by omega)]
    simp
  | succ d ih =>
    intro i hi
    have h1 : i < x.length := by omega
    have h2 : i < y.length := by omega
    refine Ev.step (fun k => by rw [slices_Equal_int_int.l0]) ?_
    refine Ev.pos (by omega) (Ev.pos (by omega) (Ev.pos (by omega) (Ev.pos (by omega) ?_)))
    rw [rdI, rdI, wrap_nat (by omega)]
    rw [List.drop_eq_getElem_cons h1, List.drop_eq_getElem_cons h2]
    have e1 : x.getD i 0 = x[i] := by simp [List.getD, h1]
    have e2 : y.getD i 0 = y[i] := by simp [List.getD, h2]
    rw [e1, e2]
    by_cases h : x[i] = y[i]
    · refine Ev.pos h ?_
      have e : decide (x[i] :: x.drop (i + 1) = y[i] :: y.drop (i + 1)) = decide (x.drop (i + 1) = y.drop (i + 1)) := by
        refine decide_eq_decide.2 ?_
        simp only [List.cons.injEq, h, true_and]
      rw [e]
      exact ih (i + 1) (by omega)
    · refine Ev.neg h (Ev.const ?_)
      rw [decide_eq_false fun he => h (List.cons.inj he).1]
theorem eq_ints (x y : List Int) (hx : x.length < 9223372036854775807) : Ev (fun k => slices_Equal_int_int.f k x y) (decide (x = y)) := by
  unfold slices_Equal_int_int.f
  by_cases h : (x.length : Int) = (y.length : Int)
  · refine Ev.pos h ?_
    have := eq_from x y hx (by omega) x.length 0 (by omega)
    simpa using this
  · refine Ev.neg h (Ev.const ?_)
    have : x ≠ y := fun e => h (by rw [e])
    simp [this]

/-- What a selection is. -/
structure SelOk (l : List S37) (p : List Int) (lo hi : Int) : Prop where
  chk0 : chk l = 0
  wit : ∃ a : Nat, 2 * a < l.length ∧ HullSpec (spans l) ((l.length : Int) - a) lo hi true ∧ (l.length : Int) - (p.length : Int) ≤ a ∧ ∀ b : Nat, b < a → ∀ lo' hi', HullSpec (spans l) ((l.length : Int) - b) lo' hi' true → (b : Int) < (l.length : Int) - ((idx l (pIn lo' hi')).length : Int)
  pos : p = idx l (pIn lo hi)
/-! ### Majority -/
end Go.Proofs.Ytlfilhplklifjaa.PA

/- Best, Count, Has, Honest, Edges. -/
namespace Go.Proofs.Ytlfilhplklifjaa.PA
open Go.RowKit Go.Proofs.Ytlfilhplklifjaa.X Go.Proofs.YtlfilhplklifjaaW.PrintWords Go.Proofs.YtlfilhplklifjaaW.PrintLast

theorem runsOf_bound : ∀ (cs : List S110) (c : Int), Small cs → ∀ r ∈ runsOf c cs, -8000000000000000000 ≤ r.f0 ∧ r.f1 ≤ 8000000000000000000
  | [], _, _ => by simp [runsOf]
  | [_], _, _ => by simp [runsOf]
  | x :: y :: rest, c, h => by
    have ih := runsOf_bound (y :: rest) (c + x.f1) (fun z hz => h z (List.mem_cons_of_mem _ hz))
    have hx := h x (by simp)
    have hy := h y (by simp)
    unfold runsOf
    split
    · intro r hr
      rcases List.mem_cons.1 hr with rfl | hr
      · exact ⟨hx.2.2.1, by show y.f0 - 1 ≤ _; omega⟩
      · exact ih r hr
    · exact ih
theorem runs_bound (v : List S29) : ∀ r ∈ runs v, -8000000000000000000 ≤ r.f0 ∧ r.f1 ≤ 8000000000000000000 :=
  runsOf_bound _ _ fun x hx => small_changes (fun _ hs => valid_ok hs) x ((sorted_perm (valid v)).mem_iff.1 hx)

/-! ### Best -/
def BestSpec (v : List S29) (lo hi n : Int) : Prop :=
  (n = 0 ∧ lo = 0 ∧ hi = 0 ∧ ∀ t, cnt v t = 0) ∨ (1 ≤ n ∧ lo ≤ hi ∧ (∀ t, (cnt v t : Int) ≤ n) ∧ (∀ t, lo ≤ t → t ≤ hi → (cnt v t : Int) = n) ∧ (∀ t, t < lo → (cnt v t : Int) < n) ∧ (cnt v (hi + 1) : Int) < n)
theorem BestSpec.uniq {v : List S29} {a b c a' b' c' : Int} (h : BestSpec v a b c) (h' : BestSpec v a' b' c') : a = a' ∧ b = b' ∧ c = c' := by
  rcases h with ⟨rfl, rfl, rfl, h4⟩ | ⟨h1, h2, h3, h4, h5, h6⟩ <;> rcases h' with ⟨rfl, rfl, rfl, g4⟩ | ⟨g1, g2, g3, g4, g5, g6⟩
  · exact ⟨rfl, rfl, rfl⟩
  · have := g4 a' (Int.le_refl _) g2
    rw [h4] at this; omega
  · have := h4 a (Int.le_refl _) h2
    rw [g4] at this; omega
  · have x1 := h4 a (Int.le_refl _) h2
    have x2 := g4 a' (Int.le_refl _) g2
    have x3 := h3 a'
    have x4 := g3 a
    have e : c = c' := by omega
    subst e
    have ea : a = a' := by
      rcases Int.lt_trichotomy a a' with q | q | q
      · have := g5 a q; omega
      · exact q
      · have := h5 a' q; omega
    subst ea
    refine ⟨rfl, ?_, rfl⟩
    rcases Int.lt_trichotomy b b' with q | q | q
    · have := g4 (b + 1) (by omega) (by omega); omega
    · exact q
    · have := h4 (b' + 1) (by omega) (by omega); omega
/-- The best one of the runs ahead of the i-th. -/
structure BestInv (v : List S29) (R : List S88) (i : Nat) (lo hi n : Int) : Prop where
  nn : 0 ≤ n
  bd : -8000000000000000000 ≤ hi ∧ hi ≤ 8000000000000000000
  le : ∀ t, (∀ r ∈ R.drop i, t < r.f0) → (cnt v t : Int) ≤ n
  br : n = 0 ∨ (1 ≤ n ∧ lo ≤ hi ∧ (∀ t, lo ≤ t → t ≤ hi → (cnt v t : Int) = n) ∧ (∀ t, t < lo → (cnt v t : Int) < n) ∧ (∀ r ∈ R.drop i, hi < r.f0) ∧ ((∀ r ∈ R.drop i, hi + 1 < r.f0) → (cnt v (hi + 1) : Int) < n))
theorem best_from (v : List S29) (R : List S88) (hn : R.length ≤ 96)
    (h1 : ∀ r ∈ R, r.f0 ≤ r.f1 ∧ ∀ t, r.f0 ≤ t → t ≤ r.f1 → (cnt v t : Int) = r.f2) (h2 : R.Pairwise (fun r q => r.f1 < q.f0)) (h3 : ∀ t, 1 ≤ cnt v t → ∃ r ∈ R, r.f0 ≤ t ∧ t ≤ r.f1)
    (hb : ∀ r ∈ R, -8000000000000000000 ≤ r.f0 ∧ r.f1 ≤ 8000000000000000000) :
    ∀ d i lo hi n, i + d = R.length → BestInv v R i lo hi n → ∃ a b c, Ev (fun k => interval_Best.l0 k R R.length i lo hi n) (a, b, c) ∧ BestSpec v a b c := by
  intro d
  induction d with
  | zero =>
    intro i lo hi n hi' hv
    have hd : R.drop i = [] := List.drop_eq_nil_of_le (by omega)
    rcases hv.br with h0 | ⟨q1, q2, q3, q4, q5, q6⟩
    · refine ⟨0, 0, 0, ?_, .inl ⟨rfl, rfl, rfl, fun t => ?_⟩⟩
      · refine Ev.step (fun k => by rw [interval_Best.l0]) ?_
        exact Ev.neg (by omega) (Ev.pos h0 (Ev.const rfl))
      · have := hv.le t (by rw [hd]; simp)
        omega
    · refine ⟨lo, hi, n, ?_, .inr ⟨q1, q2, fun t => hv.le t (by rw [hd]; simp), q3, q4, q6 (by rw [hd]; simp)⟩⟩
      refine Ev.step (fun k => by rw [interval_Best.l0]) ?_
      exact Ev.neg (by omega) (Ev.neg (by omega) (Ev.const rfl))
  | succ d ih =>
    intro i lo hi n hi' hv
    have hlt : i < R.length := by omega
    have eg : R.getD i z88 = R[i] := by simp [List.getD, hlt]
    have ed : R.drop i = R[i] :: R.drop (i + 1) := List.drop_eq_getElem_cons hlt
    obtain ⟨x1, x2⟩ := h1 R[i] (List.getElem_mem hlt)
    have xb := hb R[i] (List.getElem_mem hlt)
    have hp : ∀ r ∈ R.drop (i + 1), R[i].f1 < r.f0 := by
      have := h2.sublist (List.drop_sublist i R)
      rw [ed] at this
      exact (List.pairwise_cons.1 this).1
    have hq : ∀ r ∈ R.take i, r.f1 < R[i].f0 := fun r hr => by
      obtain ⟨j, hj, rfl⟩ := List.getElem_of_mem hr
      have hj2 : j < i := by have := hj; simp at this; omega
      rw [List.getElem_take]
      exact (List.pairwise_iff_getElem.1 h2) j i (by omega) hlt hj2
    -- an instant behind this run, ahead of the next one, lies in none
    have gap : ∀ t, R[i].f1 < t → (∀ r ∈ R.drop (i + 1), t < r.f0) → (cnt v t : Int) = 0 := fun t ht hr => by
      rcases Nat.eq_zero_or_pos (cnt v t) with q | q
      · omega
      · obtain ⟨r, hrm, hr1, hr2⟩ := h3 t q
        rw [← List.take_append_drop i R, ed] at hrm
        rcases List.mem_append.1 hrm with hrm | hrm
        · have := hq r hrm; omega
        · rcases List.mem_cons.1 hrm with rfl | hrm
          · omega
          · have := hr r hrm; omega
    have ahead : ∀ t, t < R[i].f0 → ∀ r ∈ R.drop i, t < r.f0 := fun t ht r hr => by
      rw [ed] at hr
      rcases List.mem_cons.1 hr with rfl | hr
      · exact ht
      · have := hp r hr; omega
    have upto : ∀ m, n ≤ m → R[i].f2 ≤ m → ∀ t, (∀ r ∈ R.drop (i + 1), t < r.f0) → (cnt v t : Int) ≤ m := fun m hm1 hm2 t ht => by
      rcases Int.lt_or_le t R[i].f0 with q | q
      · have := hv.le t (ahead t q); omega
      · rcases Int.lt_or_le R[i].f1 t with u | u
        · have := gap t u ht; have := hv.nn; omega
        · have := x2 t q u; omega
    have ew : wrap64 ((i : Int) + 1) = ((i + 1 : Nat) : Int) := wrap_nat (by omega)
    by_cases c1 : R[i].f2 > n
    · obtain ⟨a, b, c, e1, e2⟩ := ih (i + 1) R[i].f0 R[i].f1 R[i].f2 (by omega) ⟨by have := hv.nn; omega, ⟨by omega, by omega⟩, upto _ (by omega) (Int.le_refl _), .inr ⟨by have := hv.nn; omega, x1, x2, fun t ht => by have := hv.le t (ahead t ht); omega, hp, fun hr => by
        have := gap (R[i].f1 + 1) (by omega) hr
        have := hv.nn; omega⟩⟩
      refine ⟨a, b, c, ?_, e2⟩
      refine Ev.step (fun k => by rw [interval_Best.l0]) ?_
      refine Ev.pos (by omega) (Ev.pos (by omega) (Ev.pos (by omega) ?_))
      simp only [rd88]
      rw [eg, ew]
      exact Ev.pos c1 e1
    · by_cases c2 : R[i].f2 = n ∧ R[i].f0 = hi + 1
      · obtain ⟨c2, c3⟩ := c2
        obtain ⟨a, b, c, e1, e2⟩ := ih (i + 1) lo R[i].f1 n (by omega) ⟨hv.nn, ⟨by omega, by omega⟩, upto _ (Int.le_refl _) (by omega), hv.br.imp id fun ⟨q1, q2, q3, q4, q5, q6⟩ => ⟨q1, by omega, fun t h5 h6 => by
          rcases Int.lt_or_le hi t with u | u
          · rw [x2 t (by omega) h6]; exact c2
          · exact q3 t h5 u, q4, hp, fun hr => by
          have := gap (R[i].f1 + 1) (by omega) hr
          omega⟩⟩
        refine ⟨a, b, c, ?_, e2⟩
        refine Ev.step (fun k => by rw [interval_Best.l0]) ?_
        refine Ev.pos (by omega) (Ev.pos (by omega) (Ev.pos (by omega) ?_))
        simp only [rd88]
        have hbd := hv.bd
        rw [eg, ew, wrap_id (x := hi + 1) (by omega) (by omega)]
        exact Ev.neg c1 (Ev.pos c2 (Ev.pos c3 e1))
      · obtain ⟨a, b, c, e1, e2⟩ := ih (i + 1) lo hi n (by omega) ⟨hv.nn, hv.bd, upto _ (Int.le_refl _) (by omega), hv.br.imp id fun ⟨q1, q2, q3, q4, q5, q6⟩ => ⟨q1, q2, q3, q4, fun r hr => q5 r (by rw [ed]; exact List.mem_cons_of_mem _ hr), fun hr => by
          rcases Int.lt_or_le (hi + 1) R[i].f0 with u | u
          · exact q6 (ahead _ u)
          · have u2 := q5 R[i] (by rw [ed]; exact List.mem_cons_self)
            have u3 := x2 (hi + 1) (by omega) (by omega)
            have : R[i].f2 ≠ n := fun e => c2 ⟨e, by omega⟩
            omega⟩⟩
        refine ⟨a, b, c, ?_, e2⟩
        refine Ev.step (fun k => by rw [interval_Best.l0]) ?_
        refine Ev.pos (by omega) (Ev.pos (by omega) (Ev.pos (by omega) ?_))
        simp only [rd88]
        have hbd := hv.bd
        rw [eg, ew, wrap_id (x := hi + 1) (by omega) (by omega)]
        refine Ev.neg c1 (Ev.ite_ (fun c3 => Ev.ite_ (fun c4 => absurd ⟨c3, c4⟩ c2) (fun _ => e1)) (fun _ => e1))
theorem impl_best (v : List S29) : ∃ a b c, Ev (fun k => interval_Best.f k v) (a, b, c) ∧ BestSpec (valid v) a b c := by
  obtain ⟨h1, h2, h3⟩ := runs_spec v
  have hn := runs_len v
  obtain ⟨a, b, c, e1, e2⟩ := best_from (valid v) (runs v) hn h1 h2 h3 (runs_bound v) (runs v).length 0 0 0 0 (by omega) ⟨Int.le_refl _, by omega, fun t ht => by
    rcases Nat.eq_zero_or_pos (cnt (valid v) t) with q | q
    · omega
    · obtain ⟨r, hr, h4, _⟩ := h3 t q
      have := ht r (by simpa using hr)
      omega, .inl rfl⟩
  refine ⟨a, b, c, ?_, e2⟩
  unfold interval_Best.f
  exact Ev.bind' _ (impl_runs v) e1

/-! ### Count -/
theorem drift_has (s : S29) (t : Int) : drift_Has.f s.f0 s.f1 t = some (decide (OkI s) && holds s t) := by
  unfold drift_Has.f
  rw [drift_check]
  by_cases h : OkI s
  · rw [if_pos h, decide_eq_true h, Bool.true_and]
    unfold holds
    by_cases h2 : s.f0 ≤ t
    · simp [h2]
    · simp [h2]
  · rw [if_neg h, decide_eq_false h]; rfl
theorem cnt_valid (v : List S29) (hn : v.length ≤ 48) (t : Int) : cnt (valid v) t = v.countP (fun s => decide (OkI s) && holds s t) := by
  unfold valid
  rw [if_neg (by omega)]
  unfold cnt
  rw [List.countP_filter]
  exact List.countP_congr fun _ _ => by rw [Bool.and_comm]
theorem agree_from (v : List S29) (hn : v.length ≤ 48) (t : Int) : ∀ d i (acc : List Int), i + d = v.length → acc.length ≤ i →
    ∃ x : List Int, Ev (fun k => interval_Agree.l0 k t acc v v.length i) x ∧ x.length = acc.length + (v.drop i).countP (fun s => decide (OkI s) && holds s t) := by
  intro d
  induction d with
  | zero =>
    intro i acc hi ha
    refine ⟨acc, ?_, ?_⟩
    · refine Ev.step (fun k => by rw [interval_Agree.l0]) ?_
      exact Ev.neg (by omega) (Ev.const rfl)
    · rw [List.drop_eq_nil_of_le (by omega)]; simp
  | succ d ih =>
    intro i acc hi ha
    have hlt : i < v.length := by omega
    have eg : v.getD i z29 = v[i] := by simp [List.getD, hlt]
    have ew : wrap64 ((i : Int) + 1) = ((i + 1 : Nat) : Int) := wrap_nat (by omega)
    rw [List.drop_eq_getElem_cons hlt, List.countP_cons]
    by_cases h : (decide (OkI v[i]) && holds v[i] t) = true
    · obtain ⟨x, h1, h2⟩ := ih (i + 1) (acc ++ [(i : Int)]) (by omega) (by simp; omega)
      refine ⟨x, ?_, by rw [h2, if_pos h]; simp; omega⟩
      refine Ev.step (fun k => by rw [interval_Agree.l0]) ?_
      refine Ev.pos (by omega) (Ev.pos (by omega) (Ev.pos (by omega) ?_))
      rw [rd29, eg, drift_has, ew]
      exact Ev.some_bind (Ev.pos h (Ev.pos (by omega) h1))
    · obtain ⟨x, h1, h2⟩ := ih (i + 1) acc (by omega) (by omega)
      refine ⟨x, ?_, by rw [h2, if_neg h]; omega⟩
      refine Ev.step (fun k => by rw [interval_Agree.l0]) ?_
      refine Ev.pos (by omega) (Ev.pos (by omega) (Ev.pos (by omega) ?_))
      rw [rd29, eg, drift_has, ew]
      exact Ev.some_bind (Ev.neg h h1)
theorem impl_count (v : List S29) (hn : v.length ≤ 48) (t : Int) : Ev (fun k => interval_Count.f k v t) (cnt (valid v) t : Int) := by
  obtain ⟨x, h1, h2⟩ := agree_from v hn t v.length 0 [] (by omega) (by simp)
  have e : Ev (fun k => interval_Agree.f k v t) x := by
    unfold interval_Agree.f
    exact Ev.neg (by omega) h1
  unfold interval_Count.f
  refine Ev.bind' _ e (Ev.const ?_)
  rw [cnt_valid v hn, h2]; simp

/-! ### Honest -/
/-! ### Edges -/
def ends (v : List S29) : List Int := v.flatMap (fun s => [s.f0, s.f1])
theorem ends_len (v : List S29) : (ends v).length = 2 * v.length := by
  unfold ends
  induction v with
  | nil => rfl
  | cons a r ih => simp only [List.flatMap_cons, List.length_append, List.length_cons, List.length_nil, ih]; omega
def sortI (l : List Int) : List Int := l.mergeSort fun x y => decide (x ≤ y)
theorem sortI_sorted (z : List Int) : (sortI z).Pairwise (fun a b => a ≤ b) := by
  have := List.pairwise_mergeSort (le := fun a b : Int => decide (a ≤ b)) (fun a b c h1 h2 => by simp at *; omega) (fun a b => by simp; omega) z
  exact this.imp fun h => by simpa using h
theorem sortI_is {x y : List Int} (h : x.Perm y) (hs : y.Pairwise (fun a b => a ≤ b)) : sortI x = y :=
  List.Perm.eq_of_pairwise (fun _ _ _ _ h1 h2 => Int.le_antisymm h1 h2) (sortI_sorted x) hs ((List.mergeSort_perm x _).trans h)
theorem sortI_len (l : List Int) : (sortI l).length = l.length := (List.mergeSort_perm l _).length_eq
def edges (v : List S29) : List Int := Lib.compact (sortI (ends (valid v)))
theorem edges_len (v : List S29) : (edges v).length ≤ 96 := by
  have h1 := valid_len v
  have h2 := compact_le (sortI (ends (valid v)))
  rw [sortI_len, ends_len] at h2
  unfold edges
  omega
theorem edges_from (u : List S29) (hn : u.length ≤ 48) : ∀ d i (acc : List Int), i + d = u.length → acc = ends (u.take i) → Ev (fun k => interval_Edges.l0 k acc u u.length i) (Lib.compact (sortI (ends u))) := by
  intro d
  induction d with
  | zero =>
    intro i acc hi ha
    rw [List.take_of_length_le (by omega)] at ha
    subst ha
    have hl := ends_len u
    refine Ev.step (fun k => by rw [interval_Edges.l0]) ?_
    have e1 : slices_Sort_int_int.f (ends u) = some (sortI (ends u)) := by
      unfold slices_Sort_int_int.f; rw [if_pos (by omega)]; rfl
    have e2 : slices_Compact_int_int.f (sortI (ends u)) = some (Lib.compact (sortI (ends u))) := by
      unfold slices_Compact_int_int.f; rw [if_pos (by rw [sortI_len]; omega)]
    rw [e1]
    refine Ev.neg (by omega) (Ev.some_bind ?_)
    rw [e2]
    exact Ev.some_bind (Ev.const rfl)
  | succ d ih =>
    intro i acc hi ha
    have hlt : i < u.length := by omega
    have eg : u.getD i z29 = u[i] := by simp [List.getD, hlt]
    have ew : wrap64 ((i : Int) + 1) = ((i + 1 : Nat) : Int) := wrap_nat (by omega)
    have hl := ends_len (u.take i)
    rw [List.length_take] at hl
    refine Ev.step (fun k => by rw [interval_Edges.l0]) ?_
    refine Ev.pos (by omega) (Ev.pos (by omega) (Ev.pos (by omega) (Ev.some_bind (Ev.pos ?_ ?_))))
    · rw [ha]; simp only [List.length_cons, List.length_nil]; omega
    · simp only [rd29]
      rw [eg, ew]
      refine ih (i + 1) _ (by omega) ?_
      rw [ha, List.take_succ_eq_append_getElem hlt]
      unfold ends
      rw [List.flatMap_append]
      rfl
theorem impl_edges (v : List S29) : Ev (fun k => interval_Edges.f k v) (edges v) := by
  unfold interval_Edges.f edges
  exact Ev.bind' _ (impl_valid v) (edges_from (valid v) (valid_len v) _ 0 [] (Nat.zero_add _) rfl)
end Go.Proofs.Ytlfilhplklifjaa.PA

/- The examples of the intervals' chapter, reckoned. -/
namespace Go.Proofs.Ytlfilhplklifjaa.PA
open Go.RowKit Go.Proofs.Ytlfilhplklifjaa.X Go.Proofs.YtlfilhplklifjaaW.PrintWords
theorem ex_edges : edges [⟨1, 5⟩, ⟨4, 9⟩, ⟨4, 6⟩] = [1, 4, 5, 6, 9] := by
  have h1 : valid [⟨1, 5⟩, ⟨4, 9⟩, ⟨4, 6⟩] = [⟨1, 5⟩, ⟨4, 9⟩, ⟨4, 6⟩] := by kernel_rfl
  have h2 : sortI (ends [⟨1, 5⟩, ⟨4, 9⟩, ⟨4, 6⟩]) = [1, 4, 4, 5, 6, 9] := sortI_is (by decide) (by decide)
  unfold edges
  rw [h1, h2]
  decide
theorem ex_best1 : Ev (fun k => interval_Best.f k [⟨1, 5⟩, ⟨4, 9⟩, ⟨4, 6⟩]) (4, 5, 3) :=
  Ev.of (fun k => interval_Best.mono _ k) (show interval_Best.f 30 [⟨1, 5⟩, ⟨4, 9⟩, ⟨4, 6⟩] = some (4, 5, 3) by kernel_rfl)
theorem ex_hull : Ev (fun k => interval_Hull.f k [⟨1, 5⟩, ⟨4, 9⟩, ⟨4, 6⟩] 2) (4, 6, true) :=
  Ev.of (fun k => interval_Hull.mono _ _ k) (show interval_Hull.f 30 [⟨1, 5⟩, ⟨4, 9⟩, ⟨4, 6⟩] 2 = some (4, 6, true) by kernel_rfl)
theorem ex_best2 : Ev (fun k => interval_Best.f k [⟨1, 5⟩, ⟨6, 9⟩]) (1, 9, 1) :=
  Ev.of (fun k => interval_Best.mono _ k) (show interval_Best.f 30 [⟨1, 5⟩, ⟨6, 9⟩] = some (1, 9, 1) by kernel_rfl)
theorem ex_honest : Ev (fun k => interval_Honest.f k [⟨1, 2⟩, ⟨1, 3⟩, ⟨7, 8⟩] 1) (1, 2, true) :=
  Ev.of (fun k => interval_Honest.mono _ _ k) (show interval_Honest.f 30 [⟨1, 2⟩, ⟨1, 3⟩, ⟨7, 8⟩] 1 = some (1, 2, true) by kernel_rfl)
theorem ex_faulty : Ev (fun k => interval_Faulty.f k [⟨1, 2⟩, ⟨1, 3⟩, ⟨7, 8⟩]) 1 :=
  Ev.of (fun k => interval_Faulty.mono _ k) (show interval_Faulty.f 30 [⟨1, 2⟩, ⟨1, 3⟩, ⟨7, 8⟩] = some 1 by kernel_rfl)
theorem awake23 : Ev (fun k => timesynclaw23_awake.f k) true := by
  unfold timesynclaw23_awake.f
  refine Ev.some_bind (Ev.bind' _ ex_best1 (Ev.bind' _ ex_hull (Ev.bind' _ ex_best2 (Ev.some_bind (Ev.bind' _ ex_honest (Ev.pos rfl (Ev.pos rfl (Ev.pos rfl (Ev.pos rfl (Ev.bind' _ (impl_edges _) ?_))))))))))
  rw [ex_edges]
  exact Ev.bind' _ (eq_ints _ _ (by decide)) (Ev.pos (by decide) (Ev.pos rfl (Ev.pos rfl (Ev.bind' _ ex_faulty (Ev.pos rfl (Ev.pos rfl (Ev.const rfl)))))))
theorem awake23' : Ev (fun k => (timesynclaw23_awake.f k).bind fun t => some t) true := Ev.bind' true awake23 (Ev.const rfl)
end Go.Proofs.Ytlfilhplklifjaa.PA

/- The pure statement of IntervalPeaks: Best's count is the greatest; it stands in its whole interval, and not next to it. -/
namespace Go.Proofs.Ytlfilhplklifjaa.PureIntervalPeaks
open Go.RowKit Go.Proofs.Ytlfilhplklifjaa.X Go.Proofs.Ytlfilhplklifjaa.PA Go.Proofs.YtlfilhplklifjaaW.PrintWords Go.Proofs.YtlfilhplklifjaaW.PrintLast Go.Proofs.YtlfilhplklifjaaW.PrintMore
theorem best_le {v : List S29} {a b c : Int} (h : BestSpec v a b c) (t : Int) : (cnt v t : Int) ≤ c := by
  rcases h with ⟨rfl, _, _, h⟩ | ⟨_, _, h, _⟩
  · rw [h]; omega
  · exact h t
theorem loop (l : List S29) (hn : l.length ≤ 48) (t lo hi n : Int) (hb : BestSpec (valid l) lo hi n) (x : List Int) (hx : x.length ≤ 97) : ∀ d i, i + d = x.length →
    Ev (fun k => timesynclaw23_IntervalPeaks.l0 k l t n x x.length i lo hi) true := by
  intro d
  induction d with
  | zero =>
    intro i hi'
    refine Ev.step (fun k => by rw [timesynclaw23_IntervalPeaks.l0]) ?_
    refine Ev.neg (by omega) ?_
    rcases hb with ⟨rfl, rfl, rfl, h⟩ | ⟨h1, h2, h3, h4, h5, h6⟩
    · exact Ev.pos rfl (Ev.pos (by simp) awake23')
    · have hb1 : -8000000000000000000 ≤ lo ∧ hi ≤ 8000000000000000000 := by
        have c1 := h4 lo (Int.le_refl _) h2
        have c2 := h4 hi h2 (Int.le_refl _)
        obtain ⟨s, hs, s1, _⟩ := cnt_begin (v := valid l) (t := lo) (by omega)
        obtain ⟨u, hu, u1, _⟩ := cnt_end (v := valid l) (t := hi) (by omega)
        obtain ⟨_, s2, _⟩ := valid_ok hs
        obtain ⟨_, _, u2⟩ := valid_ok hu
        omega
      refine Ev.neg (by omega) (Ev.bind' _ (impl_count l hn lo) (Ev.pos (h4 lo (Int.le_refl _) h2) (Ev.bind' _ (impl_count l hn hi) (Ev.pos (h4 hi h2 (Int.le_refl _)) ?_))))
      rw [wrap_id (x := lo - 1) (by omega) (by omega), wrap_id (x := hi + 1) (by omega) (by omega)]
      have g1 := h5 (lo - 1) (by omega)
      refine Ev.bind' _ (impl_count l hn (lo - 1)) (Ev.neg (by omega) (Ev.bind' _ (impl_count l hn (hi + 1)) ?_))
      have e : ((cnt (valid l) (hi + 1) : Int) == n) = false := by simp; omega
      rw [e]
      refine Ev.step (fun k => by rw [timesynclaw23_IntervalPeaks.j1]) ?_
      refine Ev.neg (by simp) (Ev.ite_ (fun c1 => Ev.neg (by omega) ?_) (fun c1 => Ev.ite_ (fun c2 => Ev.pos (by omega) awake23') (fun c2 => ?_)))
      · exact Ev.bind' _ (impl_count l hn t) (Ev.pos (h5 t c1) awake23')
      · exact Ev.bind' _ (impl_count l hn t) (Ev.pos (h4 t (by omega) (by omega)) (Ev.pos (by omega) awake23'))
  | succ d ih =>
    intro i hi'
    have hlt : i < x.length := by omega
    have := best_le hb (x.getD i 0)
    refine Ev.step (fun k => by rw [timesynclaw23_IntervalPeaks.l0]) ?_
    refine Ev.pos (by omega) (Ev.pos (by omega) (Ev.pos (by omega) ?_))
    rw [rdI, wrap_nat (by omega)]
    exact Ev.bind' _ (impl_count l hn _) (Ev.neg (by omega) (ih (i + 1) (by omega)))
theorem IntervalPeaks : ∀ (x0 : List (S29)) (a1 : Int), WFL29 x0 → WFi64 a1 → ∃ k, timesynclaw23_IntervalPeaks.f k x0 a1 = some true := by
  intro l t _ _
  refine Ev.rounds ?_
  unfold timesynclaw23_IntervalPeaks.f
  refine Ev.ite_ (fun _ => awake23') (fun hn => ?_)
  obtain ⟨a, b, c, e1, e2⟩ := impl_best l
  have he := edges_len l
  refine Ev.bind' _ e1 (Ev.bind' _ (impl_edges l) (Ev.pos (by omega) (Ev.some_bind ?_)))
  exact loop l (by omega) t a b c e2 (edges l ++ [t]) (by simp; omega) _ 0 (Nat.zero_add _)
end Go.Proofs.Ytlfilhplklifjaa.PureIntervalPeaks

/- What an argument reads as, in the printed words: a type's reading gives cells of its kind, and bounds on the numbers. -/
namespace Go.Proofs.Ytlfilhplklifjaa.HO
open Go.RowKit Go.Proofs.YtlfilhplklifjaaW.PrintWords Go.Deep

structure Opens {α : Type} (P : Program) (t : TypeId) (d : Kd α) (B : α → Prop) : Prop where
  out : ∀ {H : Type} (enc : TypeId × Value → H) (w : World) (base : Nat) (spare : Nat → Bool) (held : Bool) (fuel : Nat) (cs : List Value) (x : DataW H × List MemPlace),
    DataW.trod enc P w base spare held fuel t cs = some x → ∃ a : α, d.K w a cs ∧ B a

theorem opens_int {P : Program} {t : TypeId} {k : IntKind} (ht : P.underlying t = some (.int k)) : Opens P t (Kd.int k) (fun n => (Lit.int k n).wf = true) := by
  constructor
  intro H enc w base spare held fuel cs x h
  obtain ⟨n, rfl, _, hw⟩ := DataW.trod_int ht h
  exact ⟨n, rfl, hw⟩
theorem opens_slice {α : Type} [Inhabited α] {P : Program} {t e : TypeId} {d : Kd α} {B : α → Prop} (he : Opens P e d B) (ht : P.underlying t = some (.slice e)) (hs : P.cellsOf e = d.sz) :
    Opens P t (Kd.slice e d) (fun xs => xs.length ≤ 9223372036854775807 ∧ ∀ x ∈ xs, B x) := by
  constructor
  intro H enc w base spare held fuel cs x h
  rcases open_slice ht h with ⟨rfl, _⟩ | ⟨a, len, cap, m, n, D, Pl, rfl, _, hl, hm, hmm, _, hx⟩
  · exact ⟨[], ⟨none, 0, rfl, Nat.le_refl _, rfl, by simp, fun h => by simp at h⟩, by simp, by simp⟩
  · have hlm : len ≤ m := by rw [hmm]; split <;> omega
    obtain ⟨X, hX⟩ := choose_lt (α := α) (n := len) (p := fun i x => B x ∧ ∃ c, c.length = d.sz ∧ d.K w x c ∧ ∀ j u, c[j]? = some u → w.cell? (a.add (i * d.sz + j)) = some u) (fun i hi => by
      obtain ⟨cs', h1, h2⟩ := hx i (Nat.lt_of_lt_of_le hi hlm)
      obtain ⟨x, hK, hB⟩ := he.out enc w base spare held n cs' _ h2
      refine ⟨x, hB, cs', d.K_len hK, hK, fun j u hj => ?_⟩
      obtain ⟨_, h4, h5⟩ := World.cells?_some h1
      have hj' : j < cs'.length := (List.getElem?_eq_some_iff.1 hj).1
      have h6 := h5 j (by rw [h4] at hj'; exact hj')
      rw [Go.Deep.add_add, hs] at h6
      rw [h6, hj])
    refine ⟨(List.range len).map X, ⟨some a, cap, by simp, by simpa using hl, by simp, ?_, fun h0 => ⟨a, rfl, fun j p hp => ?_⟩⟩, ?_, ?_⟩
    · have : cap ≤ 9223372036854775807 := by simpa [maxLen] using hm
      simp only [List.length_map, List.length_range]; omega
    · have hj : j < len := by
        have := (List.getElem?_eq_some_iff.1 hp).1
        simpa using this
      have : X j = p := by simpa [hj] using hp
      subst this
      obtain ⟨_, c, h1, h2, h3⟩ := hX j hj
      exact ⟨c, h1, h2, h3⟩
    · have : cap ≤ 9223372036854775807 := by simpa [maxLen] using hm
      simp only [List.length_map, List.length_range]; omega
    · intro x hx
      obtain ⟨j, hj, rfl⟩ := List.mem_map.1 hx
      exact (hX j (List.mem_range.1 hj)).1

/-- The fields from cell 'off' on. -/
structure OpF {α : Type} (P : Program) (off : Nat) (fs : List Field) (d : Kd α) (B : α → Prop) : Prop where
  out : ∀ {H : Type} (enc : TypeId × Value → H) (w : World) (base : Nat) (spare : Nat → Bool) (held : Bool) (n : Nat) (cs : List Value), cs.length = off + d.sz →
    (∀ f ∈ fs, ∃ y, DataW.trod enc P w base spare held n f.type ((cs.drop f.offset).take (P.cellsOf f.type)) = some y) → ∃ a : α, d.K w a (cs.drop off) ∧ B a
theorem opF_one {α : Type} {P : Program} {off : Nat} {f : Field} {d : Kd α} {B : α → Prop} (h : Opens P f.type d B) (ho : f.offset = off) (hs : P.cellsOf f.type = d.sz) : OpF P off [f] d B := by
  constructor
  intro H enc w base spare held n cs hl hf
  obtain ⟨y, hy⟩ := hf f (by simp)
  rw [ho, hs, List.take_of_length_le (by rw [List.length_drop]; omega)] at hy
  exact h.out enc w base spare held n _ _ hy
theorem opF_cons {α β : Type} {P : Program} {off : Nat} {f : Field} {fs : List Field} {d : Kd α} {d' : Kd β} {B : α → Prop} {B' : β → Prop} (h : Opens P f.type d B) (ho : f.offset = off) (hs : P.cellsOf f.type = d.sz) (hr : OpF P (off + d.sz) fs d' B') :
    OpF P off (f :: fs) (Kd.pair d d') (fun p => B p.1 ∧ B' p.2) := by
  constructor
  intro H enc w base spare held n cs hl hf
  obtain ⟨y, hy⟩ := hf f (by simp)
  rw [ho, hs] at hy
  have hl' : cs.length = off + (d.sz + d'.sz) := hl
  obtain ⟨a, hK, hB⟩ := h.out enc w base spare held n _ _ hy
  obtain ⟨b, hK', hB'⟩ := hr.out enc w base spare held n cs (by omega) (fun g hg => hf g (by simp [hg]))
  refine ⟨(a, b), ⟨(cs.drop off).take d.sz, cs.drop (off + d.sz), ?_, hK, hK'⟩, hB, hB'⟩
  rw [← List.drop_drop]
  exact (List.take_append_drop _ _).symm
theorem opens_struct {α β : Type} {P : Program} {t : TypeId} {fs : Array Field} {d : Kd α} {B : α → Prop} (f : β → α) (g : α → β) (hfg : ∀ a, f (g a) = a) (h : OpF P 0 fs.toList d B) (ht : P.underlying t = some (.struct fs)) (hs : P.cellsOf t = d.sz) :
    Opens P t (Kd.iso d f) (fun x => B (f x)) := by
  constructor
  intro H enc w base spare held fuel cs x hx
  obtain ⟨xs, n, _, _, hl, hlen, hf⟩ := DataW.trod_struct ht hx
  obtain ⟨a, hK, hB⟩ := h.out enc w base spare held n cs (by omega) (fun q hq => by
    obtain ⟨i, hi⟩ := List.mem_iff_getElem?.1 hq
    have hi' : fs[i]? = some q := by simpa using hi
    have hlt : i < xs.length := by
      have := (Array.getElem?_eq_some_iff.1 hi').1
      omega
    exact ⟨xs[i], by rw [hf i q hi', List.getElem?_eq_getElem hlt]⟩)
  refine ⟨g a, ?_, by show B (f (g a)); rw [hfg]; exact hB⟩
  show d.K w (f (g a)) cs
  rw [hfg]
  exact hK
end Go.Proofs.Ytlfilhplklifjaa.HO

/- The row of IntervalPeaks: for every input the law returns true, and each argument reads as it read before: out of its pure statement (YtlfilhplklifjaaPureIntervalPeaks) and the printed walk. No condition. -/
namespace Go.Proofs.Ytlfilhplklifjaa.intervalPeaks
open Go.ChangeShapes Go.WideShapes Go.ChangeAt Go.RowKit Go.Proofs.Ytlfilhplklifjaa.X Go.Proofs.YtlfilhplklifjaaW.PrintWords
open Go.ChangeMaps (open_string shut_string)
set_option linter.unusedVariables false
theorem own : ownKnob Try.prog.godebug = none := by kernel_rfl
theorem laidOut : laidOutB Try.prog = true := by kernel_rfl
theorem opens3 : HO.Opens Try.prog 3 (Kd.int .i64) WFi64 := HO.opens_int Try.underlying3
theorem opens29 : HO.Opens Try.prog 29 k29 WF29 := HO.opens_struct (d := (Kd.pair (Kd.int .i64) (Kd.int .i64))) (B := fun p => WFi64 p.1 ∧ WFi64 p.2) (fun x : S29 => (x.f0, x.f1)) (fun p => (⟨p.1, p.2⟩ : S29)) (fun _ => rfl) (HO.opF_cons (B := WFi64) (B' := WFi64) opens3 rfl (by kernel_rfl) (HO.opF_one opens3 rfl (by kernel_rfl))) Try.underlying29 (by kernel_rfl)
theorem opens58 : HO.Opens Try.prog 58 (Kd.slice 29 k29) WFL29 := haveI : Inhabited S29 := ⟨z29⟩; HO.opens_slice opens29 Try.underlying58 (by kernel_rfl)
set_option maxRecDepth 100000 in
theorem lifted (os : Os) (started : os.Started) (H : Type) (enc : TypeId × Value → H) :
    ReturnsInHanded {} Try.checked os 13 .any (Rows.intervalPeaksSpec.pre6 enc Try.prog Try.f13 Rows.intervalPeaksRow.domain false) (Rows.intervalPeaksSpec.post enc Try.prog Try.f13 false true false false) := by
  refine returnsInHanded_of_change_sized (C := Try.checked) own started (by kernel_rfl) Try.func13
    (ChangeSpec.witness6 (enc := enc) (C := Try.checked) false ⟨#[], #[.slice none 0 0, .int .i64 0], []⟩ 8 (by kernel_rfl) (by kernel_rfl) (by kernel_rfl) (by kernel_rfl)) ?_
  intro W base args ds gs before hval0 hW hcnd hsz0 _
  have hval : ∀ (j : Nat) t v, Try.f13.params[j]? = some t → args[j]? = some v → Value.okWide Try.prog W .any base t v := hval0
  have hW' := hW
  obtain ⟨p, q, hA0, hV, rfl, hfz, hnd⟩ := hW
  have hA : DataW.TrodAll enc Try.prog W 0 (fun _ => true) true Try.f13.params.toList args.toList ds p := hA0
  rw [Try.params13] at hA hval
  obtain ⟨v0, vs0, d0, ds0, p0, q0, hargs, rfl, rfl, h0, r0⟩ := trodAll_cons hA
  obtain ⟨v1, vs1, d1, ds1, p1, q1, rfl, rfl, rfl, h1, r1⟩ := trodAll_cons r0
  obtain ⟨rfl, rfl, rfl⟩ := trodAll_nil r1
  obtain rfl : args = #[v0, v1] := by cases args; simp_all
  obtain ⟨rfl, rfl⟩ := trodVars_none hV
  have k0 := h0
  have lt0 : ∀ x ∈ p0, x.block < W.heap.size := by obtain ⟨m, hm⟩ := k0; exact DataW.trod_lt m _ _ _ hm
  obtain ⟨fuel0, hf0⟩ := h0
  obtain ⟨x0, K0, B0⟩ := opens58.out enc W 0 _ true fuel0 _ _ hf0
  obtain ⟨a0, len0, cap0, rfl⟩ := okWide_slice Try.underlying58 (hval 0 58 v0 rfl rfl)
  obtain ⟨A0, c0, e0, hc0, hr0⟩ := K0
  simp only [Value.cells, List.cons.injEq, Value.slice.injEq, and_true] at e0
  obtain ⟨rfl, rfl, rfl⟩ := e0
  obtain ⟨a1, rfl, rfl, rfl, w1⟩ := open_int Try.underlying3 (hval 1 3 v1 rfl rfl) h1
  clear hA0 hval0 hsz0
  obtain ⟨k, hp⟩ := PureIntervalPeaks.IntervalPeaks x0 a1 B0 w1
  refine (timesynclaw23_IntervalPeaks.calls k _ _ x0 a1 true W hr0 hc0 hp).mono fun e W' ⟨he, bel0⟩ => ?_
  have bel := bel0
  subst he
  exact ⟨_, rfl, _, _, _, [], _, [], hW', trodAll_mk1 (shut_bool Try.underlying4 _), (trodAll_cons_mk (Below.trod laidOut (by kernel_rfl) (of_decide_eq_true (by kernel_rfl)) k0 bel lt0) (trodAll_cons_mk (shut_int Try.underlying3 w1) trodAll_mk0)), rfl, bel.frame _, fun h => by cases h⟩
theorem over : Rows.intervalPeaksRow.holds Try.pinned (OpenSpec.ofChange Rows.intervalPeaksSpec) :=
  OpenClaim.holds_of_wide 13 Try.f13 rfl rfl rfl rfl rfl rfl rfl ⟨rfl, rfl, rfl, rfl, rfl⟩ rfl rfl rfl rfl rfl (by kernel_rfl) Try.func13 (by kernel_rfl)
    (of_decide_eq_true (by kernel_rfl)) (by unfold Func.isWrapper; first | (rw [if_pos (by decide +kernel)]; kernel_rfl) | (rw [if_neg (by decide +kernel)]; exact ⟨rfl, rfl⟩))
    (fun os started H enc _ => lifted os started H enc)
#print axioms over
end Go.Proofs.Ytlfilhplklifjaa.intervalPeaks
namespace Go.Proofs.Ytlfilhplklifjaa
/-- The row of IntervalPeaks. -/
theorem intervalPeaks_holds : Rows.IntervalPeaksSaid := intervalPeaks.over
end Go.Proofs.Ytlfilhplklifjaa
