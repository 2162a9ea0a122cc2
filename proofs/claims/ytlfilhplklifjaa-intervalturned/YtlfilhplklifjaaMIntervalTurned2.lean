/- Ytlfilhplklifjaa: part 2 of 3 of the proof that the law IntervalTurned returns true for every input, its arguments reading as before. No condition. -/
import Derived.Test.YtlfilhplklifjaaMIntervalTurned1
import Derived.Laws.AppendOwn
namespace Go.Proofs.Ytlfilhplklifjaa.X
open Go.RowKit Go.Proofs.YtlfilhplklifjaaW.PrintWords Go.Proofs.YtlfilhplklifjaaW.PrintLast Go.Proofs.YtlfilhplklifjaaW.PrintMore
attribute [local go_sem] max2_int min2_int max_two min_two max_three min_three max_four min_four   -- for this text's walks alone
set_option linter.unusedVariables false
set_option linter.unusedSimpArgs false

/-! ### interval_Edges: function 40 -/
def interval_Edges.l0 : Nat → List Int → List (S29) → Int → Int → Option (List Int)
 | 0, _, _, _, _ => none
 | k + 1, x3, x7, x8, x9 => if x9 < x8 then (if 0 ≤ x9 then (if x9 < (x7.length : Int) then ((some (([(rd_T29 x7 x9).f0, (rd_T29 x7 x9).f1] : List Int) : List Int)).bind fun y525 => (if x3.length + y525.length < 17592186044416 then (interval_Edges.l0 k (x3 ++ y525) x7 x8 (wrap64 (x9 + 1))) else (none))) else (none)) else (none)) else ((slices_Sort_int_int.f x3).bind fun t531 => ((slices_Compact_int_int.f t531).bind fun t532 => (some t532)))
def interval_Edges.f (k : Nat) (l0 : List (S29)) : Option (List Int) := (interval_valid.f k l0).bind fun t520 => (interval_Edges.l0 k ([] : List Int) t520 (t520.length : Int) 0)
set_option maxHeartbeats 8000000 in
set_option maxRecDepth 100000 in
theorem interval_Edges.calls (k : Nat) (A0 : Option Addr) (c0 : Nat) (l0 : List (S29)) (r : List Int) (w : World) (hr0 : Kd.C k29 w A0 l0.length l0) (hc0 : l0.length ≤ c0) (h : interval_Edges.f k l0 = some r) :
  Calls Try.prog 40 #[.slice A0 l0.length c0] w fun e w' => ∃ v0_ : Value, e = .returned (v0_) ∧ Kd.R (Kd.int .i64) 3 w' w.heap.size (fun _ => True) v0_ r ∧ Below w.heap.size w w' := by
 have hu29 := Try.underlying29
 have HR0 := Aside0.mk hr0
 have HC0 := Aside0.mk hc0
 clear hr0 hc0
 have HB := Aside0.mk (Below.refl w.heap.size w)
 have H : ((interval_valid.f k l0).bind fun t520 => (interval_Edges.l0 k ([] : List Int) t520 (t520.length : Int) 0)) = some r := h
 clear h
 replace H := Option.bind_eq_some_iff.mp H
 obtain ⟨t520, A20, H⟩ := H
 replace H : (interval_Edges.l0 k ([] : List Int) t520 (t520.length : Int) 0) = some r := H
 have A2 := Aside0.mk A20
 clear A20
 have H' := Aside0.mk H
 clear H
 go_enter Try.func40, Try.ntmps40
 go_wp2_with (first | ((with_reducible refine gate_callee (f := 66) rfl ?_); refine goesL_ (some 7) rfl rfl Try.func66 (by kernel_rfl) rfl #[.slice A0 l0.length c0] rfl (by (try simp only [List.map_toArray, List.map_cons, List.map_nil]); first | done | rfl | (simp only [List.length_drop, List.length_take]; rfl)) ?_; (with_reducible refine (interval_valid.calls k _ _ l0 t520 _ ?side1 ?side2 A2.out).mono ?_); (case side1 => repeat (first | exact HR0.out | (with_reducible refine Kd.C_alloc ?_ _) | (with_reducible refine Kd.C_drewN ?_ _) | (with_reducible refine Kd.C_drew ?_))); (case side2 => exact HC0.out); rintro e w3 ⟨v521, rfl, ho0, hb⟩; refine ⟨_, rfl, ?_⟩; have n0_ := Aside0.mk (Kd.R_lower ho0 (below_size (by repeat (first | (with_reducible first | exact HB.out | apply below_alloc | apply pw_below_drewN | apply below_drew1) | exact HB.out)))); have n1_ := Aside0.mk (below_step (by repeat (first | (with_reducible first | exact HB.out | apply below_alloc | apply pw_below_drewN | apply below_drew1) | exact HB.out)) hb); clear HB; have HO522 := n0_; have HB := n1_; clear n0_ n1_; (try clear hb); (try clear hb2); (try clear hk); (try clear hi); (try clear ho0); obtain ⟨Ao4, co4, eo4⟩ := Kd.R_slice HO522.out; subst eo4))
 go_loopg [3, 9] k (fun kq v3 v9 w' => ∃ (x3_1 : List Int) (x9_1 : Int), v9 = .int .i64 x9_1 ∧ Aside0 (interval_Edges.l0 kq x3_1 t520 (t520.length : Int) x9_1 = some r) ∧ Aside0 (kq ≤ k) ∧ Aside0 (Kd.R (Kd.int .i64) 3 w' w.heap.size (fun _ => True) v3 x3_1) ∧ Aside0 (Kd.R k29 29 w' w.heap.size (fun _ => True) (.slice Ao4 t520.length co4) t520) ∧ Aside0 (Below w.heap.size w w'))
 case atStart => exact ⟨(([] : List Int)), (0), (by first | rfl | (simp; done) | (simp [*]; done)), H', ⟨Nat.le_refl _⟩, ⟨by first | exact Kd.R_nil _ _ _ _ _ | exact Kd.N_nil _ _ _ _ _ | exact Kd.V_nil _ _ _ _ _ | exact Kd.Q_nil _ _ _ _ _ | exact Kd.S_nil _ _ _ _ _⟩, ⟨by (with_reducible repeat (first | apply Kd.R_alloc | apply Kd.R_drewN | apply Kd.R_drew)); exact HO522.out⟩, ⟨by repeat (first | (with_reducible first | exact HB.out | apply below_alloc | apply pw_below_drewN | apply below_drew1) | exact HB.out)⟩⟩
 case round =>
  clear H'
  try clear p2
  try clear c4
  obtain ⟨x3_1, x9_1, rfl, HA, HK1, HO_3, HO_7, HB⟩ := hrel
  cases gk with
  | zero => exact absurd HA.out (by simp [interval_Edges.l0])
  | succ k1 =>
   have H := HA.out
   clear HA
   simp only [interval_Edges.l0] at H
   by_cases c5 : x9_1 < (t520.length : Int)
   ·rw [if_pos c5] at H
    have c5b0 : decide (x9_1 < (t520.length : Int)) = true := decide_eq_true c5
    clear c5
    by_cases c6 : 0 ≤ x9_1
    ·rw [if_pos c6] at H
     have c6b0 : decide (0 ≤ x9_1) = true := decide_eq_true c6
     clear c6
     by_cases c7 : x9_1 < (t520.length : Int)
     ·rw [if_pos c7] at H
      have c7b0 : decide (x9_1 < (t520.length : Int)) = true := decide_eq_true c7
      clear c7
      obtain ⟨y525, hy525⟩ : ∃ y_ : List Int, y_ = (([(rd_T29 t520 x9_1).f0, (rd_T29 t520 x9_1).f1] : List Int)) := ⟨_, rfl⟩
      replace H : (if x3_1.length + y525.length < 17592186044416 then (interval_Edges.l0 k1 (x3_1 ++ y525) t520 (t520.length : Int) (wrap64 (x9_1 + 1))) else (none)) = some r := by first | (rw [hy525]; with_reducible exact H) | (have H2_ := (Option.bind_some _ _).symm.trans H; rw [hy525]; with_reducible exact H2_) | (have H2_ := (Option.bind_some _ _).symm.trans H; with_reducible exact H2_) | with_reducible exact H | (rw [hy525]; exact H) | exact H
      have Ny525 := Aside0.mk hy525
      clear hy525
      by_cases c8 : x3_1.length + y525.length < 17592186044416
      ·rw [if_pos c8] at H
       have LMc8 := Aside0.mk c8
       clear c8
       obtain ⟨y528, hy528⟩ : ∃ y_ : List Int, y_ = (x3_1 ++ y525) := ⟨_, rfl⟩
       replace H : (interval_Edges.l0 k1 y528 t520 (t520.length : Int) (wrap64 (x9_1 + 1))) = some r := by first | (rw [hy528]; with_reducible exact H) | (have H2_ := (Option.bind_some _ _).symm.trans H; rw [hy528]; with_reducible exact H2_) | (have H2_ := (Option.bind_some _ _).symm.trans H; with_reducible exact H2_) | with_reducible exact H | (rw [hy528]; exact H) | exact H
       have Ny528 := Aside0.mk hy528
       clear hy528
       have H' := Aside0.mk H
       clear H
       have p523 : 0 ≤ (x9_1 : Int) := of_decide_eq_true (by first | (with_reducible assumption) | assumption)
       have q523 : x9_1 < (t520.length : Int) := of_decide_eq_true (by first | (with_reducible assumption) | assumption)
       obtain ⟨ad523, e523, hx523_0, hx523_1⟩ := at_T29 (Kd.R_reads' HO_7.out).2.2 x9_1 p523 q523
       cases e523
       replace p523 := eq_true p523
       replace q523 := eq_true q523
       go_wp2_with (first | ((with_reducible refine gate_dst (N := 5) rfl ?_); refine box_event ?hg (N := 5) ?hd (cs := #[.int .i64 0, .int .i64 0]) (t := 29) ?hr ?_; (case hd => rfl); (case hg => rfl); (case hr => first | (go_simp; done) | (go_simp; rfl)); intro gb524 hg w9 hbox hb; have n0_ := Aside0.mk (Kd.R_below (by (with_reducible repeat (first | apply Kd.R_alloc | apply Kd.R_drewN | apply Kd.R_drew)); exact HO_3.out) hb); have n1_ := Aside0.mk (Kd.R_below (Kd.R_elderB (by (with_reducible repeat (first | apply Kd.R_alloc | apply Kd.R_drewN | apply Kd.R_drew)); exact HO_7.out) gb524 (Nat.le_of_eq hg.symm)) hb); have n2_ := Aside0.mk (below_step (by repeat (first | (with_reducible first | exact HB.out | apply below_alloc | apply pw_below_drewN | apply below_drew1) | exact HB.out)) hb); have n3_ := Aside0.mk (hbox); have n4_ := Aside0.mk ((by rw [hg]; exact (below_size (by repeat (first | (with_reducible first | exact HB.out | apply below_alloc | apply pw_below_drewN | apply below_drew1) | exact HB.out))) : w.heap.size ≤ gb524)); have n5_ := Aside0.mk ((by rw [hg]; exact (below_size (by repeat (first | (with_reducible first | exact HB.out | apply below_alloc | apply pw_below_drewN | apply below_drew1) | exact HB.out))) : w.heap.size ≤ gb524)); clear HO_3; clear HO_7; clear HB; have HO_3 := n0_; have HO_7 := n1_; have HB := n2_; have BK524 := n3_; have GW524 := n4_; have GE524 := n5_; clear n0_ n1_ n2_ n3_ n4_ n5_; clear hb hbox hg; have hcz10_0 : w9.cell? ⟨gb524, 0, none⟩ = some (.int .i64 0) := (blk_cell BK524.out 0).trans rfl; have hcz10_1 : w9.cell? ⟨gb524, 1, none⟩ = some (.int .i64 0) := (blk_cell BK524.out 1).trans rfl; have hfz10_0 := blk_frozen BK524.out 0; have hfz10_1 := blk_frozen BK524.out 1) | ((with_reducible refine gate_dst (N := 18) rfl ?_); refine Kd.R_lit (Kd.int .i64) _ 3 ?hg (N := 18) ?hd (xs := ([(rd_T29 t520 x9_1).f0, (rd_T29 t520 x9_1).f1] : List Int)) (inner := [.int .i64 ((rd_T29 t520 x9_1).f0), .int .i64 ((rd_T29 t520 x9_1).f1)]) (ok := fun _ => True) (okp := fun _ => True) ?hr ?hp (fun _ hk => hk) trivial (Below.refl _ _) (Nat.le_refl _) (by simp) ?_; (case hd => rfl); (case hg => rfl); (case hr => first | (go_simp; done) | (go_simp; rfl)); (case hp => exact (Reps.one (show Kd.M (Kd.int .i64) _ _ _ ((rd_T29 t520 x9_1).f0) [.int .i64 ((rd_T29 t520 x9_1).f0)] from rfl) (Reps.one (show Kd.M (Kd.int .i64) _ _ _ ((rd_T29 t520 x9_1).f1) [.int .i64 ((rd_T29 t520 x9_1).f1)] from rfl) (Reps.none _ _)))); intro v526 w11 ho12 hb hg_ hnew_; clear hg_ hnew_; (first | rw [← Ny525.out] at ho12 | (simp only [Int.reduceToNat] at ho12; rw [← Ny525.out] at ho12)); have n0_ := Aside0.mk (Kd.R_elder' (by (with_reducible repeat (first | apply Kd.R_alloc | apply Kd.R_drewN | apply Kd.R_drew)); exact (Kd.R_mono (Kd.R_far (p := ⟨gb524, 1, none⟩) (Kd.R_far (p := ⟨gb524, 0, none⟩) (Kd.R_types HO_3.out BK524.out (by decide)) (fun _ hk => hk.2) (.int .i64 ((rd_T29 t520 x9_1).f0))) (fun _ hk => hk.2) (.int .i64 ((rd_T29 t520 x9_1).f1))) (fun _ h_ => h_.1))) (Kd.R_base ho12) hb); have n1_ := Aside0.mk (Kd.R_below (by (with_reducible repeat (first | apply Kd.R_alloc | apply Kd.R_drewN | apply Kd.R_drew)); exact (Kd.R_mono (Kd.R_far (p := ⟨gb524, 1, none⟩) (Kd.R_far (p := ⟨gb524, 0, none⟩) (Kd.R_mono HO_7.out (fun k_ hk => (⟨hk, hk.2⟩ : _ ∧ k_ ≠ gb524))) (fun _ hk => hk.2) (.int .i64 ((rd_T29 t520 x9_1).f0))) (fun _ hk => hk.2) (.int .i64 ((rd_T29 t520 x9_1).f1))) (fun _ h_ => h_.1))) hb); have n2_ := Aside0.mk (Kd.R_lower (Kd.R_new' ho12 (Kd.R_lt (by (with_reducible repeat (first | apply Kd.R_alloc | apply Kd.R_drewN | apply Kd.R_drew)); exact (Kd.R_mono (Kd.R_far (p := ⟨gb524, 1, none⟩) (Kd.R_far (p := ⟨gb524, 0, none⟩) (Kd.R_types HO_3.out BK524.out (by decide)) (fun _ hk => hk.2) (.int .i64 ((rd_T29 t520 x9_1).f0))) (fun _ hk => hk.2) (.int .i64 ((rd_T29 t520 x9_1).f1))) (fun _ h_ => h_.1))))) (below_size (by repeat (first | (with_reducible first | exact HB.out | apply below_alloc | apply pw_below_drewN | apply below_drew1 | refine below_set ?_ GE524.out) | exact HB.out)))); have n3_ := Aside0.mk (blk_below (g := gb524) (o := .cells #[.int .i64 ((rd_T29 t520 x9_1).f0), .int .i64 ((rd_T29 t520 x9_1).f1)] 29 (0, 0)) (by (with_reducible repeat (first | refine blk_drewN ?_ _ | refine blk_drew ?_ | refine blk_alloc ?_ _)); refine blk_put (cs := #[.int .i64 ((rd_T29 t520 x9_1).f0), .int .i64 0]) ?_ 1 _ rfl; (with_reducible repeat (first | refine blk_drewN ?_ _ | refine blk_drew ?_ | refine blk_alloc ?_ _)); refine blk_put (cs := #[.int .i64 0, .int .i64 0]) ?_ 0 _ rfl; (with_reducible repeat (first | refine blk_drewN ?_ _ | refine blk_drew ?_ | refine blk_alloc ?_ _)); exact BK524.out) hb); have n4_ := Aside0.mk (below_step (by repeat (first | (with_reducible first | exact HB.out | apply below_alloc | apply pw_below_drewN | apply below_drew1 | refine below_set ?_ GE524.out) | exact HB.out)) hb); clear HO_3; clear HO_7; clear BK524; clear HB; have HO_3 := n0_; have HO_7 := n1_; have HO527 := n2_; have BK524 := n3_; have HB := n4_; clear n0_ n1_ n2_ n3_ n4_; clear hb ho12; obtain ⟨Ao14, co14, eo14⟩ := Kd.R_slice HO527.out; subst eo14) | ((with_reducible refine gate_builtin (b := .append) (xs := #[.tmp 13, .tmp 18]) rfl ?_); at_builtin; refine Kd.R_append_rows (Kd.int .i64) (w0 := w) w.heap.size rfl (.tmp 13) (.tmp 18) 27 3 (.int .i64 0) 8 rfl Try.underlying27 info3 rfl (by decide) (by omega) u3 x3_1 y525 _ _ _ (fun k_ => some k_ ≠ (.slice Ao14 y525.length co14 : Value).ownBlock) (fun _ => False) rfl rfl ?aO ?aR (fun _ _ h => h) (fun _ h => h.elim) ?aF ?aB ?aS ?aL ?_; (case aR => repeat (first | exact (Kd.R_reads' HO527.out).2.2 | (with_reducible refine Kd.C_alloc ?_ _) | (with_reducible refine Kd.C_drewN ?_ _) | (with_reducible refine Kd.C_drew ?_))); (case aB => exact (by repeat (first | (with_reducible first | exact HB.out | apply below_alloc | apply pw_below_drewN | apply below_drew1 | refine below_set ?_ GE524.out) | exact HB.out))); (case aF => exact (fun k_ hk => Kd.fresh' (Kd.R_lt (by (with_reducible repeat (first | apply Kd.R_alloc | apply Kd.R_drewN | apply Kd.R_drew)); exact HO527.out)) k_ hk)); (case aO => exact (by (with_reducible repeat (first | apply Kd.R_alloc | apply Kd.R_drewN | apply Kd.R_drew)); exact Kd.R_mono HO_3.out (fun _ hk => hk.2))); (case aS => exact (below_size (by repeat (first | (with_reducible first | exact HB.out | apply below_alloc | apply pw_below_drewN | apply below_drew1 | refine below_set ?_ GE524.out) | exact HB.out)))); (case aL => have := LMc8.out; omega); intro v529 w13 ho hb hg hat; rw [← Ny528.out] at ho; have n0_ := Aside0.mk (Kd.R_over' (by (with_reducible repeat (first | apply Kd.R_alloc | apply Kd.R_drewN | apply Kd.R_drew)); exact HO_7.out) (Kd.R_typed (by (with_reducible repeat (first | apply Kd.R_alloc | apply Kd.R_drewN | apply Kd.R_drew)); exact HO_3.out)) (by decide) hg); have n1_ := Aside0.mk (blk_grown (g := gb524) (o := .cells #[.int .i64 ((rd_T29 t520 x9_1).f0), .int .i64 ((rd_T29 t520 x9_1).f1)] 29 (0, 0)) (by (with_reducible repeat (first | refine blk_drewN ?_ _ | refine blk_drew ?_ | refine blk_alloc ?_ _)); exact BK524.out) hg (Kd.R_ne HO_3.out BK524.out (by decide))); have n2_ := Aside0.mk (Kd.R_after (ok := (fun _ => True)) (by (with_reducible repeat (first | apply Kd.R_alloc | apply Kd.R_drewN | apply Kd.R_drew)); exact HO527.out) hg hat); have n3_ := Aside0.mk (hb); have n4_ := Aside0.mk (ho); clear HO_7; clear BK524; clear HO527; clear HB; clear HO_3; have HO_7 := n0_; have BK524 := n1_; have HO527 := n2_; have HB := n3_; have HO530 := n4_; clear n0_ n1_ n2_ n3_ n4_; clear ho hb hg hat))
       go_roundg k1
       case measure => have := HK1.out; omega
       case rel => exact ⟨(y528), (wrap64 (x9_1 + 1)), (by first | rfl | (simp; done) | (simp [*]; done)), H', ⟨by have := HK1.out; omega⟩, ⟨by (with_reducible repeat (first | apply Kd.R_alloc | apply Kd.R_drewN | apply Kd.R_drew)); exact Kd.R_mono HO530.out (fun _ hk => trivial)⟩, ⟨by (with_reducible repeat (first | apply Kd.R_alloc | apply Kd.R_drewN | apply Kd.R_drew)); exact Kd.R_mono HO_7.out (fun _ hk => trivial)⟩, ⟨by repeat (first | (with_reducible first | exact HB.out | apply below_alloc | apply pw_below_drewN | apply below_drew1 | refine below_set ?_ GE524.out) | exact HB.out)⟩⟩
      ·rw [if_neg c8] at H
       exact absurd H (by simp)
     ·rw [if_neg c7] at H
      exact absurd H (by simp)
    ·rw [if_neg c6] at H
     exact absurd H (by simp)
   ·rw [if_neg c5] at H
    have c5b0 : decide (x9_1 < (t520.length : Int)) = false := decide_eq_false c5
    clear c5
    replace H := Option.bind_eq_some_iff.mp H
    obtain ⟨t531, A150, H⟩ := H
    replace H : ((slices_Compact_int_int.f t531).bind fun t532 => (some t532)) = some r := H
    have A15 := Aside0.mk A150
    clear A150
    replace H := Option.bind_eq_some_iff.mp H
    obtain ⟨t532, A160, H⟩ := H
    replace H : (some t532) = some r := H
    have A16 := Aside0.mk A160
    clear A160
    obtain rfl := Option.some.inj H
    obtain ⟨Ao17, co17, eo17⟩ := Kd.R_slice HO_3.out
    subst eo17
    go_wp2_with (first | ((with_reducible refine gate_callee (f := 67) rfl ?_); refine goesL_ (some 22) rfl rfl Try.func67 (by kernel_rfl) rfl #[.slice Ao17 x3_1.length co17] rfl (by (try simp only [List.map_toArray, List.map_cons, List.map_nil]); first | done | rfl | (simp only [List.length_drop, List.length_take]; rfl)) ?_; (with_reducible refine (slices_Sort_int_int.calls (fun k_ => some k_ = (.slice Ao17 x3_1.length co17 : Value).ownBlock) (.slice Ao17 x3_1.length co17) x3_1 t531 w _ ?side1 ?side2 A15.out).mono ?_); (case side1 => repeat (first | (with_reducible first | exact HB.out | apply below_alloc | apply pw_below_drewN | apply below_drew1) | exact HB.out)); (case side2 => exact Kd.R_tight rfl HO_3.out); rintro e w18 ⟨rfl, hy0, hb, hkp⟩; refine ⟨_, rfl, ?_⟩; have n0_ := Aside0.mk (Kd.R_reok rfl hy0 (fun k_ e_ => HO_3.out.1 k_ e_)); have n1_ := Aside0.mk (Kd.R_mono (ok' := fun k_ => True) (Kd.R_keptB ((Kd.R_apart' HO_7.out (Kd.R_typed HO_3.out) (by decide))) hkp (fun k_ hk_ hs_ => (hk_.2) hs_)) (fun k_ hk_ => trivial)); have n2_ := Aside0.mk (hb); clear HO_3; clear HO_7; clear HB; have HO_3 := n0_; have HO_7 := n1_; have HB := n2_; clear n0_ n1_ n2_; (try clear hb); (try clear hkp); (try clear hy0)) | ((with_reducible refine gate_callee (f := 68) rfl ?_); refine goesL_ (some 24) rfl rfl Try.func68 (by kernel_rfl) rfl #[.slice Ao17 x3_1.length co17] rfl (by (try simp only [List.map_toArray, List.map_cons, List.map_nil]); first | done | rfl | (simp only [List.length_drop, List.length_take]; rfl)) ?_; (with_reducible refine (slices_Compact_int_int.calls (fun k_ => some k_ = (.slice Ao17 x3_1.length co17 : Value).ownBlock) (.slice Ao17 x3_1.length co17) t531 t532 w _ ?side1 ?side2 A16.out).mono ?_); (case side1 => repeat (first | (with_reducible first | exact HB.out | apply below_alloc | apply pw_below_drewN | apply below_drew1) | exact HB.out)); (case side2 => exact Kd.R_tight rfl HO_3.out); rintro e w19 ⟨v533, rfl, ho0, hb, hkp⟩; refine ⟨_, rfl, ?_⟩; have n0_ := Aside0.mk (Kd.R_mono (ok' := fun k_ => True) (Kd.R_keptB ((Kd.R_apart' HO_7.out (Kd.R_typed HO_3.out) (by decide))) hkp (fun k_ hk_ hs_ => (hk_.2) hs_)) (fun k_ hk_ => trivial)); have n1_ := Aside0.mk (Kd.R_mono (ok' := fun k_ => True) ho0 (fun k_ hk_ => trivial)); have n2_ := Aside0.mk (hb); clear HO_7; clear HB; clear HO_3; have HO_7 := n0_; have HO534 := n1_; have HB := n2_; clear n0_ n1_ n2_; (try clear hb); (try clear hkp); (try clear ho0)))
    go_ret
    exact ⟨_, by first | rfl | (simp [errW_none, errW_some] <;> rfl) | (simp [*, errW_none, errW_some] <;> rfl), by (with_reducible repeat (first | apply Kd.R_alloc | apply Kd.R_drewN | apply Kd.R_drew)); exact HO534.out, by repeat (first | (with_reducible first | exact HB.out | apply below_alloc | apply pw_below_drewN | apply below_drew1) | exact HB.out)⟩

end Go.Proofs.Ytlfilhplklifjaa.X

namespace Go.Proofs.Ytlfilhplklifjaa.X
open Go.RowKit Go.Proofs.YtlfilhplklifjaaW.PrintWords Go.Proofs.YtlfilhplklifjaaW.PrintLast Go.Proofs.YtlfilhplklifjaaW.PrintMore
attribute [local go_sem] max2_int min2_int max_two min_two max_three min_three max_four min_four   -- for this text's walks alone
set_option linter.unusedVariables false
set_option linter.unusedSimpArgs false

/-! ### interval_Honest: function 42 -/
def interval_Honest.f (k : Nat) (l0 : List (S29)) (a1 : Int) : Option (Int × Int × Bool) := (interval_valid.f k l0).bind fun t536 => (if a1 < 0 then (some (0, 0, false)) else (if a1 ≥ (t536.length : Int) then (some (0, 0, false)) else ((interval_Hull.f k l0 (wrap64 ((t536.length : Int) - a1))).bind fun bt539 => (some (bt539.1, bt539.2.1, bt539.2.2)))))
theorem interval_Honest.mono : ∀ a0 a1 k, LeO (interval_Honest.f k a0 a1) (interval_Honest.f (k + 1) a0 a1) := by
 intro a0 a1 k
 unfold interval_Honest.f
 repeat' first
   | (with_reducible exact interval_Hull.mono _ _ _)
   | (with_reducible exact interval_valid.mono _ _)
   | (with_reducible exact LeO.refl _)
   | (with_reducible exact LeO.none _)
   | (with_reducible refine LeO.ite ?_ ?_)
   | (with_reducible refine LeO.bind ?_ (fun _ => ?_))
   | exact interval_Hull.mono _ _ _
   | exact interval_valid.mono _ _
   | exact LeO.none _
   | refine LeO.ite ?_ ?_
   | refine LeO.bind ?_ (fun _ => ?_)
set_option maxHeartbeats 8000000 in
set_option maxRecDepth 100000 in
theorem interval_Honest.calls (k : Nat) (A0 : Option Addr) (c0 : Nat) (l0 : List (S29)) (a1 : Int) (r1 : Int) (r2 : Int) (r3 : Bool) (w : World) (hr0 : Kd.C k29 w A0 l0.length l0) (hc0 : l0.length ≤ c0) (h : interval_Honest.f k l0 a1 = some (r1, r2, r3)) :
  Calls Try.prog 42 #[.slice A0 l0.length c0, .int .i64 a1] w fun e w' => e = .returned (.tuple #[.agg #[.int .i64 r1, .int .i64 r2], .bool r3]) ∧ Below w.heap.size w w' := by
 have hu29 := Try.underlying29
 have HR0 := Aside0.mk hr0
 have HC0 := Aside0.mk hc0
 clear hr0 hc0
 have HB := Aside0.mk (Below.refl w.heap.size w)
 have H : ((interval_valid.f k l0).bind fun t536 => (if a1 < 0 then (some (0, 0, false)) else (if a1 ≥ (t536.length : Int) then (some (0, 0, false)) else ((interval_Hull.f k l0 (wrap64 ((t536.length : Int) - a1))).bind fun bt539 => (some (bt539.1, bt539.2.1, bt539.2.2)))))) = some (r1, r2, r3) := h
 clear h
 replace H := Option.bind_eq_some_iff.mp H
 obtain ⟨t536, A30, H⟩ := H
 replace H : (if a1 < 0 then (some (0, 0, false)) else (if a1 ≥ (t536.length : Int) then (some (0, 0, false)) else ((interval_Hull.f k l0 (wrap64 ((t536.length : Int) - a1))).bind fun bt539 => (some (bt539.1, bt539.2.1, bt539.2.2))))) = some (r1, r2, r3) := H
 have A3 := Aside0.mk A30
 clear A30
 by_cases c4 : a1 < 0
 ·rw [if_pos c4] at H
  have c4b0 : decide (a1 < 0) = true := decide_eq_true c4
  clear c4
  simp only [Option.some.injEq, Prod.mk.injEq] at H
  obtain ⟨rfl, rfl, rfl⟩ := H
  go_enter Try.func42, Try.ntmps42
  go_wp2_with (first | ((with_reducible refine gate_dst (N := 4) rfl ?_); refine box_event ?hg (N := 4) ?hd (cs := #[.int .i64 0, .int .i64 0]) (t := 29) ?hr ?_; (case hd => rfl); (case hg => rfl); (case hr => first | (go_simp; done) | (go_simp; rfl)); intro gb535 hg w5 hbox hb; have n0_ := Aside0.mk (below_step (by repeat (first | (with_reducible first | exact HB.out | apply below_alloc | apply pw_below_drewN | apply below_drew1) | exact HB.out)) hb); have n1_ := Aside0.mk (hbox); have n2_ := Aside0.mk ((by rw [hg]; exact (below_size (by repeat (first | (with_reducible first | exact HB.out | apply below_alloc | apply pw_below_drewN | apply below_drew1) | exact HB.out))) : w.heap.size ≤ gb535)); have n3_ := Aside0.mk ((by rw [hg]; exact (below_size (by repeat (first | (with_reducible first | exact HB.out | apply below_alloc | apply pw_below_drewN | apply below_drew1) | exact HB.out))) : w.heap.size ≤ gb535)); clear HB; have HB := n0_; have BK535 := n1_; have GW535 := n2_; have GE535 := n3_; clear n0_ n1_ n2_ n3_; clear hb hbox hg) | ((with_reducible refine gate_callee (f := 66) rfl ?_); refine goesL_ (some 8) rfl rfl Try.func66 (by kernel_rfl) rfl #[.slice A0 l0.length c0] rfl (by (try simp only [List.map_toArray, List.map_cons, List.map_nil]); first | done | rfl | (simp only [List.length_drop, List.length_take]; rfl)) ?_; (with_reducible refine (interval_valid.calls k _ _ l0 t536 _ ?side1 ?side2 A3.out).mono ?_); (case side1 => repeat (first | exact (Kd.C_below HR0.out HB.out) | (with_reducible refine Kd.C_alloc ?_ _) | (with_reducible refine Kd.C_drewN ?_ _) | (with_reducible refine Kd.C_drew ?_))); (case side2 => exact HC0.out); rintro e w6 ⟨v537, rfl, ho0, hb⟩; refine ⟨_, rfl, ?_⟩; have n0_ := Aside0.mk (Kd.R_lower (Kd.R_newB ho0 (g := gb535) (o := .cells #[.int .i64 0, .int .i64 0] 29 (0, 0)) (by (with_reducible repeat (first | refine blk_drewN ?_ _ | refine blk_drew ?_ | refine blk_alloc ?_ _)); exact BK535.out)) (below_size (by repeat (first | (with_reducible first | exact HB.out | apply below_alloc | apply pw_below_drewN | apply below_drew1 | refine below_set ?_ GE535.out) | exact HB.out)))); have n1_ := Aside0.mk (blk_below (g := gb535) (o := .cells #[.int .i64 0, .int .i64 0] 29 (0, 0)) (by (with_reducible repeat (first | refine blk_drewN ?_ _ | refine blk_drew ?_ | refine blk_alloc ?_ _)); exact BK535.out) hb); have n2_ := Aside0.mk (below_step (by repeat (first | (with_reducible first | exact HB.out | apply below_alloc | apply pw_below_drewN | apply below_drew1 | refine below_set ?_ GE535.out) | exact HB.out)) hb); clear BK535; clear HB; have HO538 := n0_; have BK535 := n1_; have HB := n2_; clear n0_ n1_ n2_; (try clear hb); (try clear hb2); (try clear hk); (try clear hi); (try clear ho0); obtain ⟨Ao7, co7, eo7⟩ := Kd.R_slice HO538.out; subst eo7; have hcz8_0 : w6.cell? ⟨gb535, 0, none⟩ = some (.int .i64 0) := (blk_cell BK535.out 0).trans rfl; have hcz8_1 : w6.cell? ⟨gb535, 1, none⟩ = some (.int .i64 0) := (blk_cell BK535.out 1).trans rfl; have hfz8_0 := blk_frozen BK535.out 0; have hfz8_1 := blk_frozen BK535.out 1))
  refine bodyPost_ret (results_ct rfl _ _ gb535 29 #[.int .i64 0, .int .i64 0] (0, 0) _ rfl (by (with_reducible repeat (first | refine blk_drewN ?_ _ | refine blk_drew ?_ | refine blk_alloc ?_ _)); refine blk_put (cs := #[.int .i64 0, .int .i64 0]) ?_ 1 _ rfl; (with_reducible repeat (first | refine blk_drewN ?_ _ | refine blk_drew ?_ | refine blk_alloc ?_ _)); refine blk_put (cs := #[.int .i64 0, .int .i64 0]) ?_ 0 _ rfl; (with_reducible repeat (first | refine blk_drewN ?_ _ | refine blk_drew ?_ | refine blk_alloc ?_ _)); exact BK535.out) Try.underlying29 rfl (by kernel_rfl)) rfl ?_
  exact ⟨by first | rfl | (simp [errW_none, errW_some] <;> rfl) | (simp [*, errW_none, errW_some] <;> rfl), by repeat (first | (with_reducible first | exact HB.out | apply below_alloc | apply pw_below_drewN | apply below_drew1 | refine below_set ?_ GE535.out) | exact HB.out)⟩
 ·rw [if_neg c4] at H
  have c4b0 : decide (a1 < 0) = false := decide_eq_false c4
  clear c4
  by_cases c9 : a1 ≥ (t536.length : Int)
  ·rw [if_pos c9] at H
   have c9b0 : decide ((t536.length : Int) ≤ a1) = true := decide_eq_true c9
   clear c9
   simp only [Option.some.injEq, Prod.mk.injEq] at H
   obtain ⟨rfl, rfl, rfl⟩ := H
   go_enter Try.func42, Try.ntmps42
   go_wp2_with (first | ((with_reducible refine gate_dst (N := 4) rfl ?_); refine box_event ?hg (N := 4) ?hd (cs := #[.int .i64 0, .int .i64 0]) (t := 29) ?hr ?_; (case hd => rfl); (case hg => rfl); (case hr => first | (go_simp; done) | (go_simp; rfl)); intro gb535 hg w10 hbox hb; have n0_ := Aside0.mk (below_step (by repeat (first | (with_reducible first | exact HB.out | apply below_alloc | apply pw_below_drewN | apply below_drew1) | exact HB.out)) hb); have n1_ := Aside0.mk (hbox); have n2_ := Aside0.mk ((by rw [hg]; exact (below_size (by repeat (first | (with_reducible first | exact HB.out | apply below_alloc | apply pw_below_drewN | apply below_drew1) | exact HB.out))) : w.heap.size ≤ gb535)); have n3_ := Aside0.mk ((by rw [hg]; exact (below_size (by repeat (first | (with_reducible first | exact HB.out | apply below_alloc | apply pw_below_drewN | apply below_drew1) | exact HB.out))) : w.heap.size ≤ gb535)); clear HB; have HB := n0_; have BK535 := n1_; have GW535 := n2_; have GE535 := n3_; clear n0_ n1_ n2_ n3_; clear hb hbox hg) | ((with_reducible refine gate_callee (f := 66) rfl ?_); refine goesL_ (some 8) rfl rfl Try.func66 (by kernel_rfl) rfl #[.slice A0 l0.length c0] rfl (by (try simp only [List.map_toArray, List.map_cons, List.map_nil]); first | done | rfl | (simp only [List.length_drop, List.length_take]; rfl)) ?_; (with_reducible refine (interval_valid.calls k _ _ l0 t536 _ ?side1 ?side2 A3.out).mono ?_); (case side1 => repeat (first | exact (Kd.C_below HR0.out HB.out) | (with_reducible refine Kd.C_alloc ?_ _) | (with_reducible refine Kd.C_drewN ?_ _) | (with_reducible refine Kd.C_drew ?_))); (case side2 => exact HC0.out); rintro e w11 ⟨v537, rfl, ho0, hb⟩; refine ⟨_, rfl, ?_⟩; have n0_ := Aside0.mk (Kd.R_lower (Kd.R_newB ho0 (g := gb535) (o := .cells #[.int .i64 0, .int .i64 0] 29 (0, 0)) (by (with_reducible repeat (first | refine blk_drewN ?_ _ | refine blk_drew ?_ | refine blk_alloc ?_ _)); exact BK535.out)) (below_size (by repeat (first | (with_reducible first | exact HB.out | apply below_alloc | apply pw_below_drewN | apply below_drew1 | refine below_set ?_ GE535.out) | exact HB.out)))); have n1_ := Aside0.mk (blk_below (g := gb535) (o := .cells #[.int .i64 0, .int .i64 0] 29 (0, 0)) (by (with_reducible repeat (first | refine blk_drewN ?_ _ | refine blk_drew ?_ | refine blk_alloc ?_ _)); exact BK535.out) hb); have n2_ := Aside0.mk (below_step (by repeat (first | (with_reducible first | exact HB.out | apply below_alloc | apply pw_below_drewN | apply below_drew1 | refine below_set ?_ GE535.out) | exact HB.out)) hb); clear BK535; clear HB; have HO538 := n0_; have BK535 := n1_; have HB := n2_; clear n0_ n1_ n2_; (try clear hb); (try clear hb2); (try clear hk); (try clear hi); (try clear ho0); obtain ⟨Ao12, co12, eo12⟩ := Kd.R_slice HO538.out; subst eo12; have hcz13_0 : w11.cell? ⟨gb535, 0, none⟩ = some (.int .i64 0) := (blk_cell BK535.out 0).trans rfl; have hcz13_1 : w11.cell? ⟨gb535, 1, none⟩ = some (.int .i64 0) := (blk_cell BK535.out 1).trans rfl; have hfz13_0 := blk_frozen BK535.out 0; have hfz13_1 := blk_frozen BK535.out 1))
   refine bodyPost_ret (results_ct rfl _ _ gb535 29 #[.int .i64 0, .int .i64 0] (0, 0) _ rfl (by (with_reducible repeat (first | refine blk_drewN ?_ _ | refine blk_drew ?_ | refine blk_alloc ?_ _)); refine blk_put (cs := #[.int .i64 0, .int .i64 0]) ?_ 1 _ rfl; (with_reducible repeat (first | refine blk_drewN ?_ _ | refine blk_drew ?_ | refine blk_alloc ?_ _)); refine blk_put (cs := #[.int .i64 0, .int .i64 0]) ?_ 0 _ rfl; (with_reducible repeat (first | refine blk_drewN ?_ _ | refine blk_drew ?_ | refine blk_alloc ?_ _)); exact BK535.out) Try.underlying29 rfl (by kernel_rfl)) rfl ?_
   exact ⟨by first | rfl | (simp [errW_none, errW_some] <;> rfl) | (simp [*, errW_none, errW_some] <;> rfl), by repeat (first | (with_reducible first | exact HB.out | apply below_alloc | apply pw_below_drewN | apply below_drew1 | refine below_set ?_ GE535.out) | exact HB.out)⟩
  ·rw [if_neg c9] at H
   have c9b0 : decide ((t536.length : Int) ≤ a1) = false := decide_eq_false c9
   clear c9
   replace H := Option.bind_eq_some_iff.mp H
   obtain ⟨⟨t539, t540, t541⟩, A140, H⟩ := H
   replace H : (some (t539, t540, t541)) = some (r1, r2, r3) := H
   have A14 := Aside0.mk A140
   clear A140
   simp only [Option.some.injEq, Prod.mk.injEq] at H
   obtain ⟨rfl, rfl, rfl⟩ := H
   go_enter Try.func42, Try.ntmps42
   go_wp2_with (first | ((with_reducible refine gate_dst (N := 4) rfl ?_); refine box_event ?hg (N := 4) ?hd (cs := #[.int .i64 0, .int .i64 0]) (t := 29) ?hr ?_; (case hd => rfl); (case hg => rfl); (case hr => first | (go_simp; done) | (go_simp; rfl)); intro gb535 hg w15 hbox hb; have n0_ := Aside0.mk (below_step (by repeat (first | (with_reducible first | exact HB.out | apply below_alloc | apply pw_below_drewN | apply below_drew1) | exact HB.out)) hb); have n1_ := Aside0.mk (hbox); have n2_ := Aside0.mk ((by rw [hg]; exact (below_size (by repeat (first | (with_reducible first | exact HB.out | apply below_alloc | apply pw_below_drewN | apply below_drew1) | exact HB.out))) : w.heap.size ≤ gb535)); have n3_ := Aside0.mk ((by rw [hg]; exact (below_size (by repeat (first | (with_reducible first | exact HB.out | apply below_alloc | apply pw_below_drewN | apply below_drew1) | exact HB.out))) : w.heap.size ≤ gb535)); clear HB; have HB := n0_; have BK535 := n1_; have GW535 := n2_; have GE535 := n3_; clear n0_ n1_ n2_ n3_; clear hb hbox hg) | ((with_reducible refine gate_callee (f := 66) rfl ?_); refine goesL_ (some 8) rfl rfl Try.func66 (by kernel_rfl) rfl #[.slice A0 l0.length c0] rfl (by (try simp only [List.map_toArray, List.map_cons, List.map_nil]); first | done | rfl | (simp only [List.length_drop, List.length_take]; rfl)) ?_; (with_reducible refine (interval_valid.calls k _ _ l0 t536 _ ?side1 ?side2 A3.out).mono ?_); (case side1 => repeat (first | exact (Kd.C_below HR0.out HB.out) | (with_reducible refine Kd.C_alloc ?_ _) | (with_reducible refine Kd.C_drewN ?_ _) | (with_reducible refine Kd.C_drew ?_))); (case side2 => exact HC0.out); rintro e w16 ⟨v537, rfl, ho0, hb⟩; refine ⟨_, rfl, ?_⟩; have n0_ := Aside0.mk (Kd.R_lower (Kd.R_newB ho0 (g := gb535) (o := .cells #[.int .i64 0, .int .i64 0] 29 (0, 0)) (by (with_reducible repeat (first | refine blk_drewN ?_ _ | refine blk_drew ?_ | refine blk_alloc ?_ _)); exact BK535.out)) (below_size (by repeat (first | (with_reducible first | exact HB.out | apply below_alloc | apply pw_below_drewN | apply below_drew1 | refine below_set ?_ GE535.out) | exact HB.out)))); have n1_ := Aside0.mk (blk_below (g := gb535) (o := .cells #[.int .i64 0, .int .i64 0] 29 (0, 0)) (by (with_reducible repeat (first | refine blk_drewN ?_ _ | refine blk_drew ?_ | refine blk_alloc ?_ _)); exact BK535.out) hb); have n2_ := Aside0.mk (below_step (by repeat (first | (with_reducible first | exact HB.out | apply below_alloc | apply pw_below_drewN | apply below_drew1 | refine below_set ?_ GE535.out) | exact HB.out)) hb); clear BK535; clear HB; have HO538 := n0_; have BK535 := n1_; have HB := n2_; clear n0_ n1_ n2_; (try clear hb); (try clear hb2); (try clear hk); (try clear hi); (try clear ho0); obtain ⟨Ao17, co17, eo17⟩ := Kd.R_slice HO538.out; subst eo17) | ((with_reducible refine gate_callee (f := 39) rfl ?_); refine goesL_ (some 22) rfl rfl Try.func39 (by kernel_rfl) rfl #[.slice A0 l0.length c0, .int .i64 (wrap64 ((t536.length : Int) - a1))] rfl (by (try simp only [List.map_toArray, List.map_cons, List.map_nil]); first | done | rfl | (simp only [List.length_drop, List.length_take]; rfl)) ?_; (with_reducible refine (interval_Hull.calls k _ _ l0 (wrap64 ((t536.length : Int) - a1)) t539 t540 t541 _ ?side1 ?side2 A14.out).mono ?_); (case side1 => repeat (first | exact (Kd.C_below HR0.out HB.out) | (with_reducible refine Kd.C_alloc ?_ _) | (with_reducible refine Kd.C_drewN ?_ _) | (with_reducible refine Kd.C_drew ?_))); (case side2 => exact HC0.out); rintro e w18 ⟨rfl, hb⟩; refine ⟨_, rfl, ?_⟩; have n0_ := Aside0.mk (Kd.R_below (by (with_reducible repeat (first | apply Kd.R_alloc | apply Kd.R_drewN | apply Kd.R_drew)); exact HO538.out) hb); have n1_ := Aside0.mk (blk_below (g := gb535) (o := .cells #[.int .i64 0, .int .i64 0] 29 (0, 0)) (by (with_reducible repeat (first | refine blk_drewN ?_ _ | refine blk_drew ?_ | refine blk_alloc ?_ _)); exact BK535.out) hb); have n2_ := Aside0.mk (below_step (by repeat (first | (with_reducible first | exact HB.out | apply below_alloc | apply pw_below_drewN | apply below_drew1 | refine below_set ?_ GE535.out) | exact HB.out)) hb); clear HO538; clear BK535; clear HB; have HO538 := n0_; have BK535 := n1_; have HB := n2_; clear n0_ n1_ n2_; (try clear hb); (try clear hb2); (try clear hk); (try clear hi); have hcz19_0 : w18.cell? ⟨gb535, 0, none⟩ = some (.int .i64 0) := (blk_cell BK535.out 0).trans rfl; have hcz19_1 : w18.cell? ⟨gb535, 1, none⟩ = some (.int .i64 0) := (blk_cell BK535.out 1).trans rfl; have hfz19_0 := blk_frozen BK535.out 0; have hfz19_1 := blk_frozen BK535.out 1))
   refine bodyPost_ret (results_ct rfl _ _ gb535 29 #[.int .i64 t539, .int .i64 t540] (0, 0) _ rfl (by (with_reducible repeat (first | refine blk_drewN ?_ _ | refine blk_drew ?_ | refine blk_alloc ?_ _)); refine blk_put (cs := #[.int .i64 t539, .int .i64 0]) ?_ 1 _ rfl; (with_reducible repeat (first | refine blk_drewN ?_ _ | refine blk_drew ?_ | refine blk_alloc ?_ _)); refine blk_put (cs := #[.int .i64 0, .int .i64 0]) ?_ 0 _ rfl; (with_reducible repeat (first | refine blk_drewN ?_ _ | refine blk_drew ?_ | refine blk_alloc ?_ _)); exact BK535.out) Try.underlying29 rfl (by kernel_rfl)) rfl ?_
   exact ⟨by first | rfl | (simp [errW_none, errW_some] <;> rfl) | (simp [*, errW_none, errW_some] <;> rfl), by repeat (first | (with_reducible first | exact HB.out | apply below_alloc | apply pw_below_drewN | apply below_drew1 | refine below_set ?_ GE535.out) | exact HB.out)⟩

end Go.Proofs.Ytlfilhplklifjaa.X

namespace Go.Proofs.Ytlfilhplklifjaa.X
open Go.RowKit Go.Proofs.YtlfilhplklifjaaW.PrintWords Go.Proofs.YtlfilhplklifjaaW.PrintLast Go.Proofs.YtlfilhplklifjaaW.PrintMore
attribute [local go_sem] max2_int min2_int max_two min_two max_three min_three max_four min_four   -- for this text's walks alone
set_option linter.unusedVariables false
set_option linter.unusedSimpArgs false

/-! ### interval_Faulty: function 61 -/
def interval_Faulty.f (k : Nat) (l0 : List (S29)) : Option (Int) := (interval_Best.f k l0).bind fun bt542 => ((interval_valid.f k l0).bind fun t546 => (some (wrap64 ((t546.length : Int) - bt542.2.2))))
theorem interval_Faulty.mono : ∀ a0 k, LeO (interval_Faulty.f k a0) (interval_Faulty.f (k + 1) a0) := by
 intro a0 k
 unfold interval_Faulty.f
 repeat' first
   | (with_reducible exact interval_Best.mono _ _)
   | (with_reducible exact interval_valid.mono _ _)
   | (with_reducible exact LeO.refl _)
   | (with_reducible exact LeO.none _)
   | (with_reducible refine LeO.ite ?_ ?_)
   | (with_reducible refine LeO.bind ?_ (fun _ => ?_))
   | exact interval_Best.mono _ _
   | exact interval_valid.mono _ _
   | exact LeO.none _
   | refine LeO.ite ?_ ?_
   | refine LeO.bind ?_ (fun _ => ?_)
set_option maxHeartbeats 8000000 in
set_option maxRecDepth 100000 in
theorem interval_Faulty.calls (k : Nat) (A0 : Option Addr) (c0 : Nat) (l0 : List (S29)) (r : Int) (w : World) (hr0 : Kd.C k29 w A0 l0.length l0) (hc0 : l0.length ≤ c0) (h : interval_Faulty.f k l0 = some r) :
  Calls Try.prog 61 #[.slice A0 l0.length c0] w fun e w' => e = .returned (.int .i64 r) ∧ Below w.heap.size w w' := by
 have hu29 := Try.underlying29
 have HR0 := Aside0.mk hr0
 have HC0 := Aside0.mk hc0
 clear hr0 hc0
 have HB := Aside0.mk (Below.refl w.heap.size w)
 have H : ((interval_Best.f k l0).bind fun bt542 => ((interval_valid.f k l0).bind fun t546 => (some (wrap64 ((t546.length : Int) - bt542.2.2))))) = some r := h
 clear h
 replace H := Option.bind_eq_some_iff.mp H
 obtain ⟨⟨t542, t543, t544⟩, A20, H⟩ := H
 replace H : ((interval_valid.f k l0).bind fun t546 => (some (wrap64 ((t546.length : Int) - t544)))) = some r := H
 have A2 := Aside0.mk A20
 clear A20
 replace H := Option.bind_eq_some_iff.mp H
 obtain ⟨t546, A30, H⟩ := H
 replace H : (some (wrap64 ((t546.length : Int) - t544))) = some r := H
 have A3 := Aside0.mk A30
 clear A30
 obtain rfl := Option.some.inj H
 go_enter Try.func61, Try.ntmps61
 go_wp2_with (first | ((with_reducible refine gate_callee (f := 38) rfl ?_); refine goesL_ (some 7) rfl rfl Try.func38 (by kernel_rfl) rfl #[.slice A0 l0.length c0] rfl (by (try simp only [List.map_toArray, List.map_cons, List.map_nil]); first | done | rfl | (simp only [List.length_drop, List.length_take]; rfl)) ?_; (with_reducible refine (interval_Best.calls k _ _ l0 t542 t543 t544 _ ?side1 ?side2 A2.out).mono ?_); (case side1 => repeat (first | exact HR0.out | (with_reducible refine Kd.C_alloc ?_ _) | (with_reducible refine Kd.C_drewN ?_ _) | (with_reducible refine Kd.C_drew ?_))); (case side2 => exact HC0.out); rintro e w4 ⟨rfl, hb⟩; refine ⟨_, rfl, ?_⟩; have n0_ := Aside0.mk (below_step (by repeat (first | (with_reducible first | exact HB.out | apply below_alloc | apply pw_below_drewN | apply below_drew1) | exact HB.out)) hb); clear HB; have HB := n0_; clear n0_; (try clear hb); (try clear hb2); (try clear hk); (try clear hi)) | ((with_reducible refine gate_dst (N := 3) rfl ?_); refine box_event ?hg (N := 3) ?hd (cs := #[.int .i64 0, .int .i64 0]) (t := 29) ?hr ?_; (case hd => rfl); (case hg => rfl); (case hr => first | (go_simp; done) | (go_simp; rfl)); intro gb545 hg w5 hbox hb; have n0_ := Aside0.mk (below_step (by repeat (first | (with_reducible first | exact HB.out | apply below_alloc | apply pw_below_drewN | apply below_drew1) | exact HB.out)) hb); have n1_ := Aside0.mk (hbox); have n2_ := Aside0.mk ((by rw [hg]; exact (below_size (by repeat (first | (with_reducible first | exact HB.out | apply below_alloc | apply pw_below_drewN | apply below_drew1) | exact HB.out))) : w.heap.size ≤ gb545)); have n3_ := Aside0.mk ((by rw [hg]; exact (below_size (by repeat (first | (with_reducible first | exact HB.out | apply below_alloc | apply pw_below_drewN | apply below_drew1) | exact HB.out))) : w.heap.size ≤ gb545)); clear HB; have HB := n0_; have BK545 := n1_; have GW545 := n2_; have GE545 := n3_; clear n0_ n1_ n2_ n3_; clear hb hbox hg; have hcz6_0 : w5.cell? ⟨gb545, 0, none⟩ = some (.int .i64 0) := (blk_cell BK545.out 0).trans rfl; have hcz6_1 : w5.cell? ⟨gb545, 1, none⟩ = some (.int .i64 0) := (blk_cell BK545.out 1).trans rfl; have hfz6_0 := blk_frozen BK545.out 0; have hfz6_1 := blk_frozen BK545.out 1) | ((with_reducible refine gate_callee (f := 66) rfl ?_); refine goesL_ (some 11) rfl rfl Try.func66 (by kernel_rfl) rfl #[.slice A0 l0.length c0] rfl (by (try simp only [List.map_toArray, List.map_cons, List.map_nil]); first | done | rfl | (simp only [List.length_drop, List.length_take]; rfl)) ?_; (with_reducible refine (interval_valid.calls k _ _ l0 t546 _ ?side1 ?side2 A3.out).mono ?_); (case side1 => exact Kd.C_below HR0.out (by repeat (first | (with_reducible first | exact HB.out | apply below_alloc | apply pw_below_drewN | apply below_drew1 | refine below_set ?_ GE545.out) | exact HB.out))); (case side2 => exact HC0.out); rintro e w7 ⟨v547, rfl, ho0, hb⟩; refine ⟨_, rfl, ?_⟩; have n0_ := Aside0.mk (Kd.R_lower (Kd.R_newB ho0 (g := gb545) (o := .cells #[.int .i64 t542, .int .i64 t543] 29 (0, 0)) (by (with_reducible repeat (first | refine blk_drewN ?_ _ | refine blk_drew ?_ | refine blk_alloc ?_ _)); refine blk_put (cs := #[.int .i64 t542, .int .i64 0]) ?_ 1 _ rfl; (with_reducible repeat (first | refine blk_drewN ?_ _ | refine blk_drew ?_ | refine blk_alloc ?_ _)); refine blk_put (cs := #[.int .i64 0, .int .i64 0]) ?_ 0 _ rfl; (with_reducible repeat (first | refine blk_drewN ?_ _ | refine blk_drew ?_ | refine blk_alloc ?_ _)); exact BK545.out)) (below_size (by repeat (first | (with_reducible first | exact HB.out | apply below_alloc | apply pw_below_drewN | apply below_drew1 | refine below_set ?_ GE545.out) | exact HB.out)))); have n1_ := Aside0.mk (blk_below (g := gb545) (o := .cells #[.int .i64 t542, .int .i64 t543] 29 (0, 0)) (by (with_reducible repeat (first | refine blk_drewN ?_ _ | refine blk_drew ?_ | refine blk_alloc ?_ _)); refine blk_put (cs := #[.int .i64 t542, .int .i64 0]) ?_ 1 _ rfl; (with_reducible repeat (first | refine blk_drewN ?_ _ | refine blk_drew ?_ | refine blk_alloc ?_ _)); refine blk_put (cs := #[.int .i64 0, .int .i64 0]) ?_ 0 _ rfl; (with_reducible repeat (first | refine blk_drewN ?_ _ | refine blk_drew ?_ | refine blk_alloc ?_ _)); exact BK545.out) hb); have n2_ := Aside0.mk (below_step (by repeat (first | (with_reducible first | exact HB.out | apply below_alloc | apply pw_below_drewN | apply below_drew1 | refine below_set ?_ GE545.out) | exact HB.out)) hb); clear BK545; clear HB; have HO548 := n0_; have BK545 := n1_; have HB := n2_; clear n0_ n1_ n2_; (try clear hb); (try clear hb2); (try clear hk); (try clear hi); (try clear ho0); obtain ⟨Ao8, co8, eo8⟩ := Kd.R_slice HO548.out; subst eo8))
 go_ret
 exact ⟨by first | rfl | (simp [errW_none, errW_some] <;> rfl) | (simp [*, errW_none, errW_some] <;> rfl), by repeat (first | (with_reducible first | exact HB.out | apply below_alloc | apply pw_below_drewN | apply below_drew1 | refine below_set ?_ GE545.out) | exact HB.out)⟩

end Go.Proofs.Ytlfilhplklifjaa.X

namespace Go.Proofs.Ytlfilhplklifjaa.X
open Go.RowKit Go.Proofs.YtlfilhplklifjaaW.PrintWords Go.Proofs.YtlfilhplklifjaaW.PrintLast Go.Proofs.YtlfilhplklifjaaW.PrintMore
attribute [local go_sem] max2_int min2_int max_two min_two max_three min_three max_four min_four   -- for this text's walks alone
set_option linter.unusedVariables false
set_option linter.unusedSimpArgs false

attribute [local go_sem high] eqA29
/-! ### timesynclaw23_awake: function 35 -/
def timesynclaw23_awake.f (k : Nat)  : Option (Bool) := (some (([(⟨1, 5⟩ : S29), (⟨4, 9⟩ : S29), (⟨4, 6⟩ : S29)] : List (S29)) : List (S29))).bind fun y549 => ((interval_Best.f k y549).bind fun bt552 => ((interval_Hull.f k y549 2).bind fun bt556 => ((interval_Best.f k (([(⟨1, 5⟩ : S29), (⟨6, 9⟩ : S29)] : List (S29)))).bind fun bt563 => ((some (([(⟨1, 2⟩ : S29), (⟨1, 3⟩ : S29), (⟨7, 8⟩ : S29)] : List (S29)) : List (S29))).bind fun y567 => ((interval_Honest.f k y567 1).bind fun bt570 => (if (bt552.1 == 4 && (bt552.2.1 == 5)) = true then (if bt552.2.2 = 3 then (if (bt556.1 == 4 && (bt556.2.1 == 6)) = true then (if bt556.2.2 = true then ((interval_Edges.f k y549).bind fun t574 => ((slices_Equal_int_int.f k t574 (([1, 4, 5, 6, 9] : List Int))).bind fun t580 => (if t580 = true then (if (bt563.1 == 1 && (bt563.2.1 == 9)) = true then (if bt563.2.2 = 1 then ((interval_Faulty.f k y567).bind fun t581 => (if t581 = 1 then (if (bt570.1 == 1 && (bt570.2.1 == 2)) = true then (some bt570.2.2) else (none)) else (none))) else (none)) else (none)) else (none)))) else (none)) else (none)) else (none)) else (none)))))))
set_option maxHeartbeats 8000000 in
set_option maxRecDepth 100000 in
theorem timesynclaw23_awake.calls (k : Nat)  (r : Bool) (w : World) (h : timesynclaw23_awake.f k  = some r) :
  Calls Try.prog 35 #[] w fun e w' => e = .returned (.bool r) ∧ Below w.heap.size w w' := by
 have hu29 := Try.underlying29
 have HB := Aside0.mk (Below.refl w.heap.size w)
 have H : ((some (([(⟨1, 5⟩ : S29), (⟨4, 9⟩ : S29), (⟨4, 6⟩ : S29)] : List (S29)) : List (S29))).bind fun y549 => ((interval_Best.f k y549).bind fun bt552 => ((interval_Hull.f k y549 2).bind fun bt556 => ((interval_Best.f k (([(⟨1, 5⟩ : S29), (⟨6, 9⟩ : S29)] : List (S29)))).bind fun bt563 => ((some (([(⟨1, 2⟩ : S29), (⟨1, 3⟩ : S29), (⟨7, 8⟩ : S29)] : List (S29)) : List (S29))).bind fun y567 => ((interval_Honest.f k y567 1).bind fun bt570 => (if (bt552.1 == 4 && (bt552.2.1 == 5)) = true then (if bt552.2.2 = 3 then (if (bt556.1 == 4 && (bt556.2.1 == 6)) = true then (if bt556.2.2 = true then ((interval_Edges.f k y549).bind fun t574 => ((slices_Equal_int_int.f k t574 (([1, 4, 5, 6, 9] : List Int))).bind fun t580 => (if t580 = true then (if (bt563.1 == 1 && (bt563.2.1 == 9)) = true then (if bt563.2.2 = 1 then ((interval_Faulty.f k y567).bind fun t581 => (if t581 = 1 then (if (bt570.1 == 1 && (bt570.2.1 == 2)) = true then (some bt570.2.2) else (none)) else (none))) else (none)) else (none)) else (none)))) else (none)) else (none)) else (none)) else (none)))))))) = some r := h
 clear h
 obtain ⟨y549, hy549⟩ : ∃ y_ : List (S29), y_ = (([(⟨1, 5⟩ : S29), (⟨4, 9⟩ : S29), (⟨4, 6⟩ : S29)] : List (S29))) := ⟨_, rfl⟩
 replace H : ((interval_Best.f k y549).bind fun bt552 => ((interval_Hull.f k y549 2).bind fun bt556 => ((interval_Best.f k (([(⟨1, 5⟩ : S29), (⟨6, 9⟩ : S29)] : List (S29)))).bind fun bt563 => ((some (([(⟨1, 2⟩ : S29), (⟨1, 3⟩ : S29), (⟨7, 8⟩ : S29)] : List (S29)) : List (S29))).bind fun y567 => ((interval_Honest.f k y567 1).bind fun bt570 => (if (bt552.1 == 4 && (bt552.2.1 == 5)) = true then (if bt552.2.2 = 3 then (if (bt556.1 == 4 && (bt556.2.1 == 6)) = true then (if bt556.2.2 = true then ((interval_Edges.f k y549).bind fun t574 => ((slices_Equal_int_int.f k t574 (([1, 4, 5, 6, 9] : List Int))).bind fun t580 => (if t580 = true then (if (bt563.1 == 1 && (bt563.2.1 == 9)) = true then (if bt563.2.2 = 1 then ((interval_Faulty.f k y567).bind fun t581 => (if t581 = 1 then (if (bt570.1 == 1 && (bt570.2.1 == 2)) = true then (some bt570.2.2) else (none)) else (none))) else (none)) else (none)) else (none)))) else (none)) else (none)) else (none)) else (none))))))) = some r := by first | (rw [hy549]; with_reducible exact H) | (have H2_ := (Option.bind_some _ _).symm.trans H; rw [hy549]; with_reducible exact H2_) | (have H2_ := (Option.bind_some _ _).symm.trans H; with_reducible exact H2_) | with_reducible exact H | (rw [hy549]; exact H) | exact H
 have Ny549 := Aside0.mk hy549
 clear hy549
 replace H := Option.bind_eq_some_iff.mp H
 obtain ⟨⟨t552, t553, t554⟩, A10, H⟩ := H
 replace H : ((interval_Hull.f k y549 2).bind fun bt556 => ((interval_Best.f k (([(⟨1, 5⟩ : S29), (⟨6, 9⟩ : S29)] : List (S29)))).bind fun bt563 => ((some (([(⟨1, 2⟩ : S29), (⟨1, 3⟩ : S29), (⟨7, 8⟩ : S29)] : List (S29)) : List (S29))).bind fun y567 => ((interval_Honest.f k y567 1).bind fun bt570 => (if (t552 == 4 && (t553 == 5)) = true then (if t554 = 3 then (if (bt556.1 == 4 && (bt556.2.1 == 6)) = true then (if bt556.2.2 = true then ((interval_Edges.f k y549).bind fun t574 => ((slices_Equal_int_int.f k t574 (([1, 4, 5, 6, 9] : List Int))).bind fun t580 => (if t580 = true then (if (bt563.1 == 1 && (bt563.2.1 == 9)) = true then (if bt563.2.2 = 1 then ((interval_Faulty.f k y567).bind fun t581 => (if t581 = 1 then (if (bt570.1 == 1 && (bt570.2.1 == 2)) = true then (some bt570.2.2) else (none)) else (none))) else (none)) else (none)) else (none)))) else (none)) else (none)) else (none)) else (none)))))) = some r := H
 have A1 := Aside0.mk A10
 clear A10
 replace H := Option.bind_eq_some_iff.mp H
 obtain ⟨⟨t556, t557, t558⟩, A20, H⟩ := H
 replace H : ((interval_Best.f k (([(⟨1, 5⟩ : S29), (⟨6, 9⟩ : S29)] : List (S29)))).bind fun bt563 => ((some (([(⟨1, 2⟩ : S29), (⟨1, 3⟩ : S29), (⟨7, 8⟩ : S29)] : List (S29)) : List (S29))).bind fun y567 => ((interval_Honest.f k y567 1).bind fun bt570 => (if (t552 == 4 && (t553 == 5)) = true then (if t554 = 3 then (if (t556 == 4 && (t557 == 6)) = true then (if t558 = true then ((interval_Edges.f k y549).bind fun t574 => ((slices_Equal_int_int.f k t574 (([1, 4, 5, 6, 9] : List Int))).bind fun t580 => (if t580 = true then (if (bt563.1 == 1 && (bt563.2.1 == 9)) = true then (if bt563.2.2 = 1 then ((interval_Faulty.f k y567).bind fun t581 => (if t581 = 1 then (if (bt570.1 == 1 && (bt570.2.1 == 2)) = true then (some bt570.2.2) else (none)) else (none))) else (none)) else (none)) else (none)))) else (none)) else (none)) else (none)) else (none))))) = some r := H
 have A2 := Aside0.mk A20
 clear A20
 obtain ⟨y560, hy560⟩ : ∃ y_ : List (S29), y_ = (([(⟨1, 5⟩ : S29), (⟨6, 9⟩ : S29)] : List (S29))) := ⟨_, rfl⟩
 replace H : ((interval_Best.f k y560).bind fun bt563 => ((some (([(⟨1, 2⟩ : S29), (⟨1, 3⟩ : S29), (⟨7, 8⟩ : S29)] : List (S29)) : List (S29))).bind fun y567 => ((interval_Honest.f k y567 1).bind fun bt570 => (if (t552 == 4 && (t553 == 5)) = true then (if t554 = 3 then (if (t556 == 4 && (t557 == 6)) = true then (if t558 = true then ((interval_Edges.f k y549).bind fun t574 => ((slices_Equal_int_int.f k t574 (([1, 4, 5, 6, 9] : List Int))).bind fun t580 => (if t580 = true then (if (bt563.1 == 1 && (bt563.2.1 == 9)) = true then (if bt563.2.2 = 1 then ((interval_Faulty.f k y567).bind fun t581 => (if t581 = 1 then (if (bt570.1 == 1 && (bt570.2.1 == 2)) = true then (some bt570.2.2) else (none)) else (none))) else (none)) else (none)) else (none)))) else (none)) else (none)) else (none)) else (none))))) = some r := by first | (rw [hy560]; with_reducible exact H) | (have H2_ := (Option.bind_some _ _).symm.trans H; rw [hy560]; with_reducible exact H2_) | (have H2_ := (Option.bind_some _ _).symm.trans H; with_reducible exact H2_) | with_reducible exact H | (rw [hy560]; exact H) | exact H
 have Ny560 := Aside0.mk hy560
 clear hy560
 replace H := Option.bind_eq_some_iff.mp H
 obtain ⟨⟨t563, t564, t565⟩, A30, H⟩ := H
 replace H : ((some (([(⟨1, 2⟩ : S29), (⟨1, 3⟩ : S29), (⟨7, 8⟩ : S29)] : List (S29)) : List (S29))).bind fun y567 => ((interval_Honest.f k y567 1).bind fun bt570 => (if (t552 == 4 && (t553 == 5)) = true then (if t554 = 3 then (if (t556 == 4 && (t557 == 6)) = true then (if t558 = true then ((interval_Edges.f k y549).bind fun t574 => ((slices_Equal_int_int.f k t574 (([1, 4, 5, 6, 9] : List Int))).bind fun t580 => (if t580 = true then (if (t563 == 1 && (t564 == 9)) = true then (if t565 = 1 then ((interval_Faulty.f k y567).bind fun t581 => (if t581 = 1 then (if (bt570.1 == 1 && (bt570.2.1 == 2)) = true then (some bt570.2.2) else (none)) else (none))) else (none)) else (none)) else (none)))) else (none)) else (none)) else (none)) else (none)))) = some r := H
 have A3 := Aside0.mk A30
 clear A30
 obtain ⟨y567, hy567⟩ : ∃ y_ : List (S29), y_ = (([(⟨1, 2⟩ : S29), (⟨1, 3⟩ : S29), (⟨7, 8⟩ : S29)] : List (S29))) := ⟨_, rfl⟩
 replace H : ((interval_Honest.f k y567 1).bind fun bt570 => (if (t552 == 4 && (t553 == 5)) = true then (if t554 = 3 then (if (t556 == 4 && (t557 == 6)) = true then (if t558 = true then ((interval_Edges.f k y549).bind fun t574 => ((slices_Equal_int_int.f k t574 (([1, 4, 5, 6, 9] : List Int))).bind fun t580 => (if t580 = true then (if (t563 == 1 && (t564 == 9)) = true then (if t565 = 1 then ((interval_Faulty.f k y567).bind fun t581 => (if t581 = 1 then (if (bt570.1 == 1 && (bt570.2.1 == 2)) = true then (some bt570.2.2) else (none)) else (none))) else (none)) else (none)) else (none)))) else (none)) else (none)) else (none)) else (none))) = some r := by first | (rw [hy567]; with_reducible exact H) | (have H2_ := (Option.bind_some _ _).symm.trans H; rw [hy567]; with_reducible exact H2_) | (have H2_ := (Option.bind_some _ _).symm.trans H; with_reducible exact H2_) | with_reducible exact H | (rw [hy567]; exact H) | exact H
 have Ny567 := Aside0.mk hy567
 clear hy567
 replace H := Option.bind_eq_some_iff.mp H
 obtain ⟨⟨t570, t571, t572⟩, A40, H⟩ := H
 replace H : (if (t552 == 4 && (t553 == 5)) = true then (if t554 = 3 then (if (t556 == 4 && (t557 == 6)) = true then (if t558 = true then ((interval_Edges.f k y549).bind fun t574 => ((slices_Equal_int_int.f k t574 (([1, 4, 5, 6, 9] : List Int))).bind fun t580 => (if t580 = true then (if (t563 == 1 && (t564 == 9)) = true then (if t565 = 1 then ((interval_Faulty.f k y567).bind fun t581 => (if t581 = 1 then (if (t570 == 1 && (t571 == 2)) = true then (some t572) else (none)) else (none))) else (none)) else (none)) else (none)))) else (none)) else (none)) else (none)) else (none)) = some r := H
 have A4 := Aside0.mk A40
 clear A40
 by_cases c5 : (t552 == 4 && (t553 == 5)) = true
 ·rw [if_pos c5] at H
  have c5b0 : (t552 == 4 && (t553 == 5)) = true := c5
  (try (have c5b1 : decide (t552 = 4 && (t553 == 5)) = true := by simpa using c5))
  (try (have c5b2 : (t552 == 4 && (t553 == 5)) = true := by simpa using c5))
  clear c5
  by_cases c6 : t554 = 3
  ·rw [if_pos c6] at H
   have c6b0 : (t554 == 3) = true := beq_iff_eq.mpr c6
   have c6b1 : (t554 != 3) = false := bne_eq_false_iff_eq.mpr c6
   clear c6
   by_cases c7 : (t556 == 4 && (t557 == 6)) = true
   ·rw [if_pos c7] at H
    have c7b0 : (t556 == 4 && (t557 == 6)) = true := c7
    (try (have c7b1 : decide (t556 = 4 && (t557 == 6)) = true := by simpa using c7))
    (try (have c7b2 : (t556 == 4 && (t557 == 6)) = true := by simpa using c7))
    clear c7
    by_cases c8 : t558 = true
    ·subst c8
     have H1 : ((interval_Edges.f k y549).bind fun t574 => ((slices_Equal_int_int.f k t574 (([1, 4, 5, 6, 9] : List Int))).bind fun t580 => (if t580 = true then (if (t563 == 1 && (t564 == 9)) = true then (if t565 = 1 then ((interval_Faulty.f k y567).bind fun t581 => (if t581 = 1 then (if (t570 == 1 && (t571 == 2)) = true then (some t572) else (none)) else (none))) else (none)) else (none)) else (none)))) = some r := by rw [if_pos rfl] at H; exact H
     clear H
     have H := H1
     clear H1
     replace H := Option.bind_eq_some_iff.mp H
     obtain ⟨t574, A90, H⟩ := H
     replace H : ((slices_Equal_int_int.f k t574 (([1, 4, 5, 6, 9] : List Int))).bind fun t580 => (if t580 = true then (if (t563 == 1 && (t564 == 9)) = true then (if t565 = 1 then ((interval_Faulty.f k y567).bind fun t581 => (if t581 = 1 then (if (t570 == 1 && (t571 == 2)) = true then (some t572) else (none)) else (none))) else (none)) else (none)) else (none))) = some r := H
     have A9 := Aside0.mk A90
     clear A90
     obtain ⟨y577, hy577⟩ : ∃ y_ : List Int, y_ = (([1, 4, 5, 6, 9] : List Int)) := ⟨_, rfl⟩
     replace H : ((slices_Equal_int_int.f k t574 y577).bind fun t580 => (if t580 = true then (if (t563 == 1 && (t564 == 9)) = true then (if t565 = 1 then ((interval_Faulty.f k y567).bind fun t581 => (if t581 = 1 then (if (t570 == 1 && (t571 == 2)) = true then (some t572) else (none)) else (none))) else (none)) else (none)) else (none))) = some r := by first | (rw [hy577]; with_reducible exact H) | (have H2_ := (Option.bind_some _ _).symm.trans H; rw [hy577]; with_reducible exact H2_) | (have H2_ := (Option.bind_some _ _).symm.trans H; with_reducible exact H2_) | with_reducible exact H | (rw [hy577]; exact H) | exact H
     have Ny577 := Aside0.mk hy577
     clear hy577
     replace H := Option.bind_eq_some_iff.mp H
     obtain ⟨t580, A100, H⟩ := H
     replace H : (if t580 = true then (if (t563 == 1 && (t564 == 9)) = true then (if t565 = 1 then ((interval_Faulty.f k y567).bind fun t581 => (if t581 = 1 then (if (t570 == 1 && (t571 == 2)) = true then (some t572) else (none)) else (none))) else (none)) else (none)) else (none)) = some r := H
     have A10 := Aside0.mk A100
     clear A100
     by_cases c11 : t580 = true
     ·subst c11
      have H1 : (if (t563 == 1 && (t564 == 9)) = true then (if t565 = 1 then ((interval_Faulty.f k y567).bind fun t581 => (if t581 = 1 then (if (t570 == 1 && (t571 == 2)) = true then (some t572) else (none)) else (none))) else (none)) else (none)) = some r := by rw [if_pos rfl] at H; exact H
      clear H
      have H := H1
      clear H1
      by_cases c12 : (t563 == 1 && (t564 == 9)) = true
      ·rw [if_pos c12] at H
       have c12b0 : (t563 == 1 && (t564 == 9)) = true := c12
       (try (have c12b1 : decide (t563 = 1 && (t564 == 9)) = true := by simpa using c12))
       (try (have c12b2 : (t563 == 1 && (t564 == 9)) = true := by simpa using c12))
       clear c12
       by_cases c13 : t565 = 1
       ·rw [if_pos c13] at H
        have c13b0 : (t565 == 1) = true := beq_iff_eq.mpr c13
        have c13b1 : (t565 != 1) = false := bne_eq_false_iff_eq.mpr c13
        clear c13
        replace H := Option.bind_eq_some_iff.mp H
        obtain ⟨t581, A140, H⟩ := H
        replace H : (if t581 = 1 then (if (t570 == 1 && (t571 == 2)) = true then (some t572) else (none)) else (none)) = some r := H
        have A14 := Aside0.mk A140
        clear A140
        by_cases c15 : t581 = 1
        ·rw [if_pos c15] at H
         have c15b0 : (t581 == 1) = true := beq_iff_eq.mpr c15
         have c15b1 : (t581 != 1) = false := bne_eq_false_iff_eq.mpr c15
         clear c15
         by_cases c16 : (t570 == 1 && (t571 == 2)) = true
         ·rw [if_pos c16] at H
          have c16b0 : (t570 == 1 && (t571 == 2)) = true := c16
          (try (have c16b1 : decide (t570 = 1 && (t571 == 2)) = true := by simpa using c16))
          (try (have c16b2 : (t570 == 1 && (t571 == 2)) = true := by simpa using c16))
          clear c16
          obtain rfl := Option.some.inj H
          go_enter Try.func35, Try.ntmps35
          go_wp2_with (first | ((with_reducible refine gate_dst (N := 14) rfl ?_); (try (refine gate_guard (by rfl) ?_; dsimp only)); refine Kd.R_lit k29 _ 29 ?hg (N := 14) ?hd (xs := ([(⟨1, 5⟩ : S29), (⟨4, 9⟩ : S29), (⟨4, 6⟩ : S29)] : List (S29))) (inner := [.int .i64 1, .int .i64 5, .int .i64 4, .int .i64 9, .int .i64 4, .int .i64 6]) (ok := fun _ => True) (okp := fun _ => True) ?hr ?hp (fun _ hk => hk) trivial (Below.refl _ _) (Nat.le_refl _) (by simp) ?_; (case hd => rfl); (case hg => rfl); (case hr => first | (go_simp; done) | (go_simp; rfl)); (case hp => exact (Reps.c2 (show Kd.M k29 _ _ _ (⟨1, 5⟩ : S29) [.int .i64 1, .int .i64 5] from (k29_mkM _ _ _ (⟨1, 5⟩ : S29) )) (Reps.c2 (show Kd.M k29 _ _ _ (⟨4, 9⟩ : S29) [.int .i64 4, .int .i64 9] from (k29_mkM _ _ _ (⟨4, 9⟩ : S29) )) (Reps.c2 (show Kd.M k29 _ _ _ (⟨4, 6⟩ : S29) [.int .i64 4, .int .i64 6] from (k29_mkM _ _ _ (⟨4, 6⟩ : S29) )) (Reps.none _ _))))); intro v550 w17 ho18 hb hg_ hnew_; clear hg_ hnew_; (first | rw [← Ny549.out] at ho18 | (simp only [Int.reduceToNat] at ho18; rw [← Ny549.out] at ho18)); have n0_ := Aside0.mk (Kd.R_lower ho18 (below_size (by repeat (first | (with_reducible first | exact HB.out | apply below_alloc | apply pw_below_drewN | apply below_drew1) | exact HB.out)))); have n1_ := Aside0.mk (below_step (by repeat (first | (with_reducible first | exact HB.out | apply below_alloc | apply pw_below_drewN | apply below_drew1) | exact HB.out)) hb); clear HB; have HO551 := n0_; have HB := n1_; clear n0_ n1_; clear hb ho18; obtain ⟨Ao19, co19, eo19⟩ := Kd.R_slice HO551.out; subst eo19) | ((with_reducible refine gate_callee (f := 38) rfl ?_); refine goesL_ (some 17) rfl rfl Try.func38 (by kernel_rfl) rfl #[.slice Ao19 y549.length co19] rfl (by (try simp only [List.map_toArray, List.map_cons, List.map_nil]); first | done | rfl | (simp only [List.length_drop, List.length_take]; rfl)) ?_; (with_reducible refine (interval_Best.calls k _ _ y549 t552 t553 t554 _ ?side1 ?side2 A1.out).mono ?_); (case side1 => repeat (first | exact (Kd.R_reads' HO551.out).2.2 | (with_reducible refine Kd.C_alloc ?_ _) | (with_reducible refine Kd.C_drewN ?_ _) | (with_reducible refine Kd.C_drew ?_))); (case side2 => exact (Kd.R_reads' HO551.out).2.1); rintro e w20 ⟨rfl, hb⟩; refine ⟨_, rfl, ?_⟩; have n0_ := Aside0.mk (Kd.R_below (by (with_reducible repeat (first | apply Kd.R_alloc | apply Kd.R_drewN | apply Kd.R_drew)); exact HO551.out) hb); have n1_ := Aside0.mk (below_step (by repeat (first | (with_reducible first | exact HB.out | apply below_alloc | apply pw_below_drewN | apply below_drew1) | exact HB.out)) hb); clear HO551; clear HB; have HO551 := n0_; have HB := n1_; clear n0_ n1_; (try clear hb); (try clear hb2); (try clear hk); (try clear hi)) | ((with_reducible refine gate_dst (N := 2) rfl ?_); (try (refine gate_guard (by rfl) ?_; dsimp only)); refine box_event ?hg (N := 2) ?hd (cs := #[.int .i64 0, .int .i64 0]) (t := 29) ?hr ?_; (case hd => rfl); (case hg => rfl); (case hr => first | (go_simp; done) | (go_simp; rfl)); intro gb555 hg w21 hbox hb; have n0_ := Aside0.mk (Kd.R_below (Kd.R_elderB (by (with_reducible repeat (first | apply Kd.R_alloc | apply Kd.R_drewN | apply Kd.R_drew)); exact HO551.out) gb555 (Nat.le_of_eq hg.symm)) hb); have n1_ := Aside0.mk (below_step (by repeat (first | (with_reducible first | exact HB.out | apply below_alloc | apply pw_below_drewN | apply below_drew1) | exact HB.out)) hb); have n2_ := Aside0.mk (hbox); have n3_ := Aside0.mk ((by rw [hg]; exact (below_size (by repeat (first | (with_reducible first | exact HB.out | apply below_alloc | apply pw_below_drewN | apply below_drew1) | exact HB.out))) : w.heap.size ≤ gb555)); have n4_ := Aside0.mk ((by rw [hg]; exact (below_size (by repeat (first | (with_reducible first | exact HB.out | apply below_alloc | apply pw_below_drewN | apply below_drew1) | exact HB.out))) : w.heap.size ≤ gb555)); clear HO551; clear HB; have HO551 := n0_; have HB := n1_; have BK555 := n2_; have GW555 := n3_; have GE555 := n4_; clear n0_ n1_ n2_ n3_ n4_; clear hb hbox hg; have hcz22_0 : w21.cell? ⟨gb555, 0, none⟩ = some (.int .i64 0) := (blk_cell BK555.out 0).trans rfl; have hcz22_1 : w21.cell? ⟨gb555, 1, none⟩ = some (.int .i64 0) := (blk_cell BK555.out 1).trans rfl; have hfz22_0 := blk_frozen BK555.out 0; have hfz22_1 := blk_frozen BK555.out 1) | ((with_reducible refine gate_callee (f := 39) rfl ?_); refine goesL_ (some 22) rfl rfl Try.func39 (by kernel_rfl) rfl #[.slice Ao19 y549.length co19, .int .i64 2] rfl (by (try simp only [List.map_toArray, List.map_cons, List.map_nil]); first | done | rfl | (simp only [List.length_drop, List.length_take]; rfl)) ?_; (with_reducible refine (interval_Hull.calls k _ _ y549 2 t556 t557 true _ ?side1 ?side2 A2.out).mono ?_); (case side1 => refine (Kd.R_reads' (e := 29) (base := w.heap.size) (ok := fun k_ => (True ∧ k_ ≠ gb555)) (n := y549.length) (c := co19) ?_).2.2; exact (by (with_reducible repeat (first | apply Kd.R_alloc | apply Kd.R_drewN | apply Kd.R_drew)); exact (Kd.R_mono (Kd.R_far (p := ⟨gb555, 1, none⟩) (Kd.R_far (p := ⟨gb555, 0, none⟩) (Kd.R_mono HO551.out (fun k_ hk => (⟨hk, hk.2⟩ : _ ∧ k_ ≠ gb555))) (fun _ hk => hk.2) (.int .i64 t552)) (fun _ hk => hk.2) (.int .i64 t553)) (fun _ h_ => h_.1)))); (case side2 => exact (Kd.R_reads' HO551.out).2.1); rintro e w23 ⟨rfl, hb⟩; refine ⟨_, rfl, ?_⟩; have n0_ := Aside0.mk (Kd.R_below (by (with_reducible repeat (first | apply Kd.R_alloc | apply Kd.R_drewN | apply Kd.R_drew)); exact (Kd.R_mono (Kd.R_far (p := ⟨gb555, 1, none⟩) (Kd.R_far (p := ⟨gb555, 0, none⟩) (Kd.R_mono HO551.out (fun k_ hk => (⟨hk, hk.2⟩ : _ ∧ k_ ≠ gb555))) (fun _ hk => hk.2) (.int .i64 t552)) (fun _ hk => hk.2) (.int .i64 t553)) (fun _ h_ => h_.1))) hb); have n1_ := Aside0.mk (blk_below (g := gb555) (o := .cells #[.int .i64 t552, .int .i64 t553] 29 (0, 0)) (by (with_reducible repeat (first | refine blk_drewN ?_ _ | refine blk_drew ?_ | refine blk_alloc ?_ _)); refine blk_put (cs := #[.int .i64 t552, .int .i64 0]) ?_ 1 _ rfl; (with_reducible repeat (first | refine blk_drewN ?_ _ | refine blk_drew ?_ | refine blk_alloc ?_ _)); refine blk_put (cs := #[.int .i64 0, .int .i64 0]) ?_ 0 _ rfl; (with_reducible repeat (first | refine blk_drewN ?_ _ | refine blk_drew ?_ | refine blk_alloc ?_ _)); exact BK555.out) hb); have n2_ := Aside0.mk (below_step (by repeat (first | (with_reducible first | exact HB.out | apply below_alloc | apply pw_below_drewN | apply below_drew1 | refine below_set ?_ GE555.out) | exact HB.out)) hb); clear HO551; clear BK555; clear HB; have HO551 := n0_; have BK555 := n1_; have HB := n2_; clear n0_ n1_ n2_; (try clear hb); (try clear hb2); (try clear hk); (try clear hi)) | ((with_reducible refine gate_dst (N := 4) rfl ?_); (try (refine gate_guard (by rfl) ?_; dsimp only)); refine box_event ?hg (N := 4) ?hd (cs := #[.int .i64 0, .int .i64 0]) (t := 29) ?hr ?_; (case hd => rfl); (case hg => rfl); (case hr => first | (go_simp; done) | (go_simp; rfl)); intro gb559 hg w24 hbox hb; have n0_ := Aside0.mk (Kd.R_below (Kd.R_elderB (by (with_reducible repeat (first | apply Kd.R_alloc | apply Kd.R_drewN | apply Kd.R_drew)); exact HO551.out) gb559 (Nat.le_of_eq hg.symm)) hb); have n1_ := Aside0.mk (blk_below (g := gb555) (o := .cells #[.int .i64 t552, .int .i64 t553] 29 (0, 0)) (by (with_reducible repeat (first | refine blk_drewN ?_ _ | refine blk_drew ?_ | refine blk_alloc ?_ _)); exact BK555.out) hb); have n2_ := Aside0.mk (below_step (by repeat (first | (with_reducible first | exact HB.out | apply below_alloc | apply pw_below_drewN | apply below_drew1 | refine below_set ?_ GE555.out) | exact HB.out)) hb); have n3_ := Aside0.mk (hbox); have n4_ := Aside0.mk ((by rw [hg]; exact (below_size (by repeat (first | (with_reducible first | exact HB.out | apply below_alloc | apply pw_below_drewN | apply below_drew1 | refine below_set ?_ GE555.out) | exact HB.out))) : w.heap.size ≤ gb559)); have n5_ := Aside0.mk ((by rw [hg]; exact (below_size (by repeat (first | (with_reducible first | exact HB.out | apply below_alloc | apply pw_below_drewN | apply below_drew1 | refine below_set ?_ GE555.out) | exact HB.out))) : w.heap.size ≤ gb559)); have n6_ := Aside0.mk ((by rw [hg]; exact Nat.ne_of_lt (blk_lt (g := gb555) (o := .cells #[.int .i64 t552, .int .i64 t553] 29 (0, 0)) (by (with_reducible repeat (first | refine blk_drewN ?_ _ | refine blk_drew ?_ | refine blk_alloc ?_ _)); exact BK555.out)) : gb555 ≠ gb559)); have n7_ := Aside0.mk ((by rw [hg]; exact Nat.ne_of_gt (blk_lt (g := gb555) (o := .cells #[.int .i64 t552, .int .i64 t553] 29 (0, 0)) (by (with_reducible repeat (first | refine blk_drewN ?_ _ | refine blk_drew ?_ | refine blk_alloc ?_ _)); exact BK555.out)) : gb559 ≠ gb555)); clear HO551; clear BK555; clear HB; have HO551 := n0_; have BK555 := n1_; have HB := n2_; have BK559 := n3_; have GW559 := n4_; have GE559 := n5_; have NB555_559 := n6_; have NB559_555 := n7_; clear n0_ n1_ n2_ n3_ n4_ n5_ n6_ n7_; clear hb hbox hg; have hnb25 := NB559_555.out; have hnc25 := NB555_559.out; have hcz26_0 : w24.cell? ⟨gb559, 0, none⟩ = some (.int .i64 0) := (blk_cell BK559.out 0).trans rfl; have hcz26_1 : w24.cell? ⟨gb559, 1, none⟩ = some (.int .i64 0) := (blk_cell BK559.out 1).trans rfl; have hfz26_0 := blk_frozen BK559.out 0; have hfz26_1 := blk_frozen BK559.out 1) | ((with_reducible refine gate_dst (N := 28) rfl ?_); (try (refine gate_guard (by rfl) ?_; dsimp only)); refine Kd.R_lit k29 _ 29 ?hg (N := 28) ?hd (xs := ([(⟨1, 5⟩ : S29), (⟨6, 9⟩ : S29)] : List (S29))) (inner := [.int .i64 1, .int .i64 5, .int .i64 6, .int .i64 9]) (ok := fun _ => True) (okp := fun _ => True) ?hr ?hp (fun _ hk => hk) trivial (Below.refl _ _) (Nat.le_refl _) (by simp) ?_; (case hd => rfl); (case hg => rfl); (case hr => first | (go_simp; done) | (go_simp; rfl)); (case hp => exact (Reps.c2 (show Kd.M k29 _ _ _ (⟨1, 5⟩ : S29) [.int .i64 1, .int .i64 5] from (k29_mkM _ _ _ (⟨1, 5⟩ : S29) )) (Reps.c2 (show Kd.M k29 _ _ _ (⟨6, 9⟩ : S29) [.int .i64 6, .int .i64 9] from (k29_mkM _ _ _ (⟨6, 9⟩ : S29) )) (Reps.none _ _)))); intro v561 w27 ho28 hb hg_ hnew_; clear hg_ hnew_; (first | rw [← Ny560.out] at ho28 | (simp only [Int.reduceToNat] at ho28; rw [← Ny560.out] at ho28)); have n0_ := Aside0.mk (Kd.R_elder' (by (with_reducible repeat (first | apply Kd.R_alloc | apply Kd.R_drewN | apply Kd.R_drew)); exact (Kd.R_mono (Kd.R_far (p := ⟨gb559, 1, none⟩) (Kd.R_far (p := ⟨gb559, 0, none⟩) (Kd.R_mono HO551.out (fun k_ hk => (⟨hk, hk.2⟩ : _ ∧ k_ ≠ gb559))) (fun _ hk => hk.2) (.int .i64 t556)) (fun _ hk => hk.2) (.int .i64 t557)) (fun _ h_ => h_.1))) (Kd.R_base ho28) hb); have n1_ := Aside0.mk (Kd.R_lower (Kd.R_newB (Kd.R_newB (Kd.R_new' ho28 (Kd.R_lt (by (with_reducible repeat (first | apply Kd.R_alloc | apply Kd.R_drewN | apply Kd.R_drew)); exact (Kd.R_mono (Kd.R_far (p := ⟨gb559, 1, none⟩) (Kd.R_far (p := ⟨gb559, 0, none⟩) (Kd.R_mono HO551.out (fun k_ hk => (⟨hk, hk.2⟩ : _ ∧ k_ ≠ gb559))) (fun _ hk => hk.2) (.int .i64 t556)) (fun _ hk => hk.2) (.int .i64 t557)) (fun _ h_ => h_.1))))) (g := gb555) (o := .cells #[.int .i64 t552, .int .i64 t553] 29 (0, 0)) (by (with_reducible repeat (first | refine blk_drewN ?_ _ | refine blk_drew ?_ | refine blk_alloc ?_ _)); refine blk_far ?_ NB555_559.out _; (with_reducible repeat (first | refine blk_drewN ?_ _ | refine blk_drew ?_ | refine blk_alloc ?_ _)); refine blk_far ?_ NB555_559.out _; (with_reducible repeat (first | refine blk_drewN ?_ _ | refine blk_drew ?_ | refine blk_alloc ?_ _)); exact BK555.out)) (g := gb559) (o := .cells #[.int .i64 t556, .int .i64 t557] 29 (0, 0)) (by (with_reducible repeat (first | refine blk_drewN ?_ _ | refine blk_drew ?_ | refine blk_alloc ?_ _)); refine blk_put (cs := #[.int .i64 t556, .int .i64 0]) ?_ 1 _ rfl; (with_reducible repeat (first | refine blk_drewN ?_ _ | refine blk_drew ?_ | refine blk_alloc ?_ _)); refine blk_put (cs := #[.int .i64 0, .int .i64 0]) ?_ 0 _ rfl; (with_reducible repeat (first | refine blk_drewN ?_ _ | refine blk_drew ?_ | refine blk_alloc ?_ _)); exact BK559.out)) (below_size (by repeat (first | (with_reducible first | exact HB.out | apply below_alloc | apply pw_below_drewN | apply below_drew1 | refine below_set ?_ GE555.out | refine below_set ?_ GE559.out) | exact HB.out)))); have n2_ := Aside0.mk (blk_below (g := gb555) (o := .cells #[.int .i64 t552, .int .i64 t553] 29 (0, 0)) (by (with_reducible repeat (first | refine blk_drewN ?_ _ | refine blk_drew ?_ | refine blk_alloc ?_ _)); refine blk_far ?_ NB555_559.out _; (with_reducible repeat (first | refine blk_drewN ?_ _ | refine blk_drew ?_ | refine blk_alloc ?_ _)); refine blk_far ?_ NB555_559.out _; (with_reducible repeat (first | refine blk_drewN ?_ _ | refine blk_drew ?_ | refine blk_alloc ?_ _)); exact BK555.out) hb); have n3_ := Aside0.mk (blk_below (g := gb559) (o := .cells #[.int .i64 t556, .int .i64 t557] 29 (0, 0)) (by (with_reducible repeat (first | refine blk_drewN ?_ _ | refine blk_drew ?_ | refine blk_alloc ?_ _)); refine blk_put (cs := #[.int .i64 t556, .int .i64 0]) ?_ 1 _ rfl; (with_reducible repeat (first | refine blk_drewN ?_ _ | refine blk_drew ?_ | refine blk_alloc ?_ _)); refine blk_put (cs := #[.int .i64 0, .int .i64 0]) ?_ 0 _ rfl; (with_reducible repeat (first | refine blk_drewN ?_ _ | refine blk_drew ?_ | refine blk_alloc ?_ _)); exact BK559.out) hb); have n4_ := Aside0.mk (below_step (by repeat (first | (with_reducible first | exact HB.out | apply below_alloc | apply pw_below_drewN | apply below_drew1 | refine below_set ?_ GE555.out | refine below_set ?_ GE559.out) | exact HB.out)) hb); clear HO551; clear BK555; clear BK559; clear HB; have HO551 := n0_; have HO562 := n1_; have BK555 := n2_; have BK559 := n3_; have HB := n4_; clear n0_ n1_ n2_ n3_ n4_; clear hb ho28; obtain ⟨Ao29, co29, eo29⟩ := Kd.R_slice HO562.out; subst eo29) | ((with_reducible refine gate_callee (f := 38) rfl ?_); refine goesL_ (some 29) rfl rfl Try.func38 (by kernel_rfl) rfl #[.slice Ao29 y560.length co29] rfl (by (try simp only [List.map_toArray, List.map_cons, List.map_nil]); first | done | rfl | (simp only [List.length_drop, List.length_take]; rfl)) ?_; (with_reducible refine (interval_Best.calls k _ _ y560 t563 t564 t565 _ ?side1 ?side2 A3.out).mono ?_); (case side1 => repeat (first | exact (Kd.R_reads' HO562.out).2.2 | (with_reducible refine Kd.C_alloc ?_ _) | (with_reducible refine Kd.C_drewN ?_ _) | (with_reducible refine Kd.C_drew ?_))); (case side2 => exact (Kd.R_reads' HO562.out).2.1); rintro e w30 ⟨rfl, hb⟩; refine ⟨_, rfl, ?_⟩; have n0_ := Aside0.mk (Kd.R_below (by (with_reducible repeat (first | apply Kd.R_alloc | apply Kd.R_drewN | apply Kd.R_drew)); exact HO551.out) hb); have n1_ := Aside0.mk (Kd.R_below (by (with_reducible repeat (first | apply Kd.R_alloc | apply Kd.R_drewN | apply Kd.R_drew)); exact HO562.out) hb); have n2_ := Aside0.mk (blk_below (g := gb555) (o := .cells #[.int .i64 t552, .int .i64 t553] 29 (0, 0)) (by (with_reducible repeat (first | refine blk_drewN ?_ _ | refine blk_drew ?_ | refine blk_alloc ?_ _)); exact BK555.out) hb); have n3_ := Aside0.mk (blk_below (g := gb559) (o := .cells #[.int .i64 t556, .int .i64 t557] 29 (0, 0)) (by (with_reducible repeat (first | refine blk_drewN ?_ _ | refine blk_drew ?_ | refine blk_alloc ?_ _)); exact BK559.out) hb); have n4_ := Aside0.mk (below_step (by repeat (first | (with_reducible first | exact HB.out | apply below_alloc | apply pw_below_drewN | apply below_drew1 | refine below_set ?_ GE555.out | refine below_set ?_ GE559.out) | exact HB.out)) hb); clear HO551; clear HO562; clear BK555; clear BK559; clear HB; have HO551 := n0_; have HO562 := n1_; have BK555 := n2_; have BK559 := n3_; have HB := n4_; clear n0_ n1_ n2_ n3_ n4_; (try clear hb); (try clear hb2); (try clear hk); (try clear hi)) | ((with_reducible refine gate_dst (N := 6) rfl ?_); (try (refine gate_guard (by rfl) ?_; dsimp only)); refine box_event ?hg (N := 6) ?hd (cs := #[.int .i64 0, .int .i64 0]) (t := 29) ?hr ?_; (case hd => rfl); (case hg => rfl); (case hr => first | (go_simp; done) | (go_simp; rfl)); intro gb566 hg w31 hbox hb; have n0_ := Aside0.mk (Kd.R_below (Kd.R_elderB (by (with_reducible repeat (first | apply Kd.R_alloc | apply Kd.R_drewN | apply Kd.R_drew)); exact HO551.out) gb566 (Nat.le_of_eq hg.symm)) hb); have n1_ := Aside0.mk (Kd.R_below (Kd.R_elderB (by (with_reducible repeat (first | apply Kd.R_alloc | apply Kd.R_drewN | apply Kd.R_drew)); exact HO562.out) gb566 (Nat.le_of_eq hg.symm)) hb); have n2_ := Aside0.mk (blk_below (g := gb555) (o := .cells #[.int .i64 t552, .int .i64 t553] 29 (0, 0)) (by (with_reducible repeat (first | refine blk_drewN ?_ _ | refine blk_drew ?_ | refine blk_alloc ?_ _)); exact BK555.out) hb); have n3_ := Aside0.mk (blk_below (g := gb559) (o := .cells #[.int .i64 t556, .int .i64 t557] 29 (0, 0)) (by (with_reducible repeat (first | refine blk_drewN ?_ _ | refine blk_drew ?_ | refine blk_alloc ?_ _)); exact BK559.out) hb); have n4_ := Aside0.mk (below_step (by repeat (first | (with_reducible first | exact HB.out | apply below_alloc | apply pw_below_drewN | apply below_drew1 | refine below_set ?_ GE555.out | refine below_set ?_ GE559.out) | exact HB.out)) hb); have n5_ := Aside0.mk (hbox); have n6_ := Aside0.mk ((by rw [hg]; exact (below_size (by repeat (first | (with_reducible first | exact HB.out | apply below_alloc | apply pw_below_drewN | apply below_drew1 | refine below_set ?_ GE555.out | refine below_set ?_ GE559.out) | exact HB.out))) : w.heap.size ≤ gb566)); have n7_ := Aside0.mk ((by rw [hg]; exact (below_size (by repeat (first | (with_reducible first | exact HB.out | apply below_alloc | apply pw_below_drewN | apply below_drew1 | refine below_set ?_ GE555.out | refine below_set ?_ GE559.out) | exact HB.out))) : w.heap.size ≤ gb566)); have n8_ := Aside0.mk ((by rw [hg]; exact Nat.ne_of_lt (blk_lt (g := gb555) (o := .cells #[.int .i64 t552, .int .i64 t553] 29 (0, 0)) (by (with_reducible repeat (first | refine blk_drewN ?_ _ | refine blk_drew ?_ | refine blk_alloc ?_ _)); exact BK555.out)) : gb555 ≠ gb566)); have n9_ := Aside0.mk ((by rw [hg]; exact Nat.ne_of_gt (blk_lt (g := gb555) (o := .cells #[.int .i64 t552, .int .i64 t553] 29 (0, 0)) (by (with_reducible repeat (first | refine blk_drewN ?_ _ | refine blk_drew ?_ | refine blk_alloc ?_ _)); exact BK555.out)) : gb566 ≠ gb555)); have n10_ := Aside0.mk ((by rw [hg]; exact Nat.ne_of_lt (blk_lt (g := gb559) (o := .cells #[.int .i64 t556, .int .i64 t557] 29 (0, 0)) (by (with_reducible repeat (first | refine blk_drewN ?_ _ | refine blk_drew ?_ | refine blk_alloc ?_ _)); exact BK559.out)) : gb559 ≠ gb566)); have n11_ := Aside0.mk ((by rw [hg]; exact Nat.ne_of_gt (blk_lt (g := gb559) (o := .cells #[.int .i64 t556, .int .i64 t557] 29 (0, 0)) (by (with_reducible repeat (first | refine blk_drewN ?_ _ | refine blk_drew ?_ | refine blk_alloc ?_ _)); exact BK559.out)) : gb566 ≠ gb559)); clear HO551; clear HO562; clear BK555; clear BK559; clear HB; have HO551 := n0_; have HO562 := n1_; have BK555 := n2_; have BK559 := n3_; have HB := n4_; have BK566 := n5_; have GW566 := n6_; have GE566 := n7_; have NB555_566 := n8_; have NB566_555 := n9_; have NB559_566 := n10_; have NB566_559 := n11_; clear n0_ n1_ n2_ n3_ n4_ n5_ n6_ n7_ n8_ n9_ n10_ n11_; clear hb hbox hg; have hnb32 := NB566_555.out; have hnc32 := NB555_566.out; have hnb33 := NB566_559.out; have hnc33 := NB559_566.out; have hcz34_0 : w31.cell? ⟨gb566, 0, none⟩ = some (.int .i64 0) := (blk_cell BK566.out 0).trans rfl; have hcz34_1 : w31.cell? ⟨gb566, 1, none⟩ = some (.int .i64 0) := (blk_cell BK566.out 1).trans rfl; have hfz34_0 := blk_frozen BK566.out 0; have hfz34_1 := blk_frozen BK566.out 1) | ((with_reducible refine gate_dst (N := 35) rfl ?_); (try (refine gate_guard (by rfl) ?_; dsimp only)); refine Kd.R_lit k29 _ 29 ?hg (N := 35) ?hd (xs := ([(⟨1, 2⟩ : S29), (⟨1, 3⟩ : S29), (⟨7, 8⟩ : S29)] : List (S29))) (inner := [.int .i64 1, .int .i64 2, .int .i64 1, .int .i64 3, .int .i64 7, .int .i64 8]) (ok := fun _ => True) (okp := fun _ => True) ?hr ?hp (fun _ hk => hk) trivial (Below.refl _ _) (Nat.le_refl _) (by simp) ?_; (case hd => rfl); (case hg => rfl); (case hr => first | (go_simp; done) | (go_simp; rfl)); (case hp => exact (Reps.c2 (show Kd.M k29 _ _ _ (⟨1, 2⟩ : S29) [.int .i64 1, .int .i64 2] from (k29_mkM _ _ _ (⟨1, 2⟩ : S29) )) (Reps.c2 (show Kd.M k29 _ _ _ (⟨1, 3⟩ : S29) [.int .i64 1, .int .i64 3] from (k29_mkM _ _ _ (⟨1, 3⟩ : S29) )) (Reps.c2 (show Kd.M k29 _ _ _ (⟨7, 8⟩ : S29) [.int .i64 7, .int .i64 8] from (k29_mkM _ _ _ (⟨7, 8⟩ : S29) )) (Reps.none _ _))))); intro v568 w35 ho36 hb hg_ hnew_; clear hg_ hnew_; (first | rw [← Ny567.out] at ho36 | (simp only [Int.reduceToNat] at ho36; rw [← Ny567.out] at ho36)); have n0_ := Aside0.mk (Kd.R_elder' (by (with_reducible repeat (first | apply Kd.R_alloc | apply Kd.R_drewN | apply Kd.R_drew)); exact (Kd.R_mono (Kd.R_far (p := ⟨gb566, 1, none⟩) (Kd.R_far (p := ⟨gb566, 0, none⟩) (Kd.R_mono HO551.out (fun k_ hk => (⟨hk, hk.2⟩ : _ ∧ k_ ≠ gb566))) (fun _ hk => hk.2) (.int .i64 t563)) (fun _ hk => hk.2) (.int .i64 t564)) (fun _ h_ => h_.1))) (Kd.R_base ho36) hb); have n1_ := Aside0.mk (Kd.R_elder' (by (with_reducible repeat (first | apply Kd.R_alloc | apply Kd.R_drewN | apply Kd.R_drew)); exact (Kd.R_mono (Kd.R_far (p := ⟨gb566, 1, none⟩) (Kd.R_far (p := ⟨gb566, 0, none⟩) (Kd.R_mono HO562.out (fun k_ hk => (⟨hk, hk.2⟩ : _ ∧ k_ ≠ gb566))) (fun _ hk => hk.2) (.int .i64 t563)) (fun _ hk => hk.2) (.int .i64 t564)) (fun _ h_ => h_.1))) (Kd.R_base ho36) hb); have n2_ := Aside0.mk (Kd.R_lower (Kd.R_newB (Kd.R_newB (Kd.R_newB (Kd.R_new' (Kd.R_new' ho36 (Kd.R_lt (by (with_reducible repeat (first | apply Kd.R_alloc | apply Kd.R_drewN | apply Kd.R_drew)); exact (Kd.R_mono (Kd.R_far (p := ⟨gb566, 1, none⟩) (Kd.R_far (p := ⟨gb566, 0, none⟩) (Kd.R_mono HO551.out (fun k_ hk => (⟨hk, hk.2⟩ : _ ∧ k_ ≠ gb566))) (fun _ hk => hk.2) (.int .i64 t563)) (fun _ hk => hk.2) (.int .i64 t564)) (fun _ h_ => h_.1))))) (Kd.R_lt (by (with_reducible repeat (first | apply Kd.R_alloc | apply Kd.R_drewN | apply Kd.R_drew)); exact (Kd.R_mono (Kd.R_far (p := ⟨gb566, 1, none⟩) (Kd.R_far (p := ⟨gb566, 0, none⟩) (Kd.R_mono HO562.out (fun k_ hk => (⟨hk, hk.2⟩ : _ ∧ k_ ≠ gb566))) (fun _ hk => hk.2) (.int .i64 t563)) (fun _ hk => hk.2) (.int .i64 t564)) (fun _ h_ => h_.1))))) (g := gb555) (o := .cells #[.int .i64 t552, .int .i64 t553] 29 (0, 0)) (by (with_reducible repeat (first | refine blk_drewN ?_ _ | refine blk_drew ?_ | refine blk_alloc ?_ _)); refine blk_far ?_ NB555_566.out _; (with_reducible repeat (first | refine blk_drewN ?_ _ | refine blk_drew ?_ | refine blk_alloc ?_ _)); refine blk_far ?_ NB555_566.out _; (with_reducible repeat (first | refine blk_drewN ?_ _ | refine blk_drew ?_ | refine blk_alloc ?_ _)); exact BK555.out)) (g := gb559) (o := .cells #[.int .i64 t556, .int .i64 t557] 29 (0, 0)) (by (with_reducible repeat (first | refine blk_drewN ?_ _ | refine blk_drew ?_ | refine blk_alloc ?_ _)); refine blk_far ?_ NB559_566.out _; (with_reducible repeat (first | refine blk_drewN ?_ _ | refine blk_drew ?_ | refine blk_alloc ?_ _)); refine blk_far ?_ NB559_566.out _; (with_reducible repeat (first | refine blk_drewN ?_ _ | refine blk_drew ?_ | refine blk_alloc ?_ _)); exact BK559.out)) (g := gb566) (o := .cells #[.int .i64 t563, .int .i64 t564] 29 (0, 0)) (by (with_reducible repeat (first | refine blk_drewN ?_ _ | refine blk_drew ?_ | refine blk_alloc ?_ _)); refine blk_put (cs := #[.int .i64 t563, .int .i64 0]) ?_ 1 _ rfl; (with_reducible repeat (first | refine blk_drewN ?_ _ | refine blk_drew ?_ | refine blk_alloc ?_ _)); refine blk_put (cs := #[.int .i64 0, .int .i64 0]) ?_ 0 _ rfl; (with_reducible repeat (first | refine blk_drewN ?_ _ | refine blk_drew ?_ | refine blk_alloc ?_ _)); exact BK566.out)) (below_size (by repeat (first | (with_reducible first | exact HB.out | apply below_alloc | apply pw_below_drewN | apply below_drew1 | refine below_set ?_ GE555.out | refine below_set ?_ GE559.out | refine below_set ?_ GE566.out) | exact HB.out)))); have n3_ := Aside0.mk (blk_below (g := gb555) (o := .cells #[.int .i64 t552, .int .i64 t553] 29 (0, 0)) (by (with_reducible repeat (first | refine blk_drewN ?_ _ | refine blk_drew ?_ | refine blk_alloc ?_ _)); refine blk_far ?_ NB555_566.out _; (with_reducible repeat (first | refine blk_drewN ?_ _ | refine blk_drew ?_ | refine blk_alloc ?_ _)); refine blk_far ?_ NB555_566.out _; (with_reducible repeat (first | refine blk_drewN ?_ _ | refine blk_drew ?_ | refine blk_alloc ?_ _)); exact BK555.out) hb); have n4_ := Aside0.mk (blk_below (g := gb559) (o := .cells #[.int .i64 t556, .int .i64 t557] 29 (0, 0)) (by (with_reducible repeat (first | refine blk_drewN ?_ _ | refine blk_drew ?_ | refine blk_alloc ?_ _)); refine blk_far ?_ NB559_566.out _; (with_reducible repeat (first | refine blk_drewN ?_ _ | refine blk_drew ?_ | refine blk_alloc ?_ _)); refine blk_far ?_ NB559_566.out _; (with_reducible repeat (first | refine blk_drewN ?_ _ | refine blk_drew ?_ | refine blk_alloc ?_ _)); exact BK559.out) hb); have n5_ := Aside0.mk (blk_below (g := gb566) (o := .cells #[.int .i64 t563, .int .i64 t564] 29 (0, 0)) (by (with_reducible repeat (first | refine blk_drewN ?_ _ | refine blk_drew ?_ | refine blk_alloc ?_ _)); refine blk_put (cs := #[.int .i64 t563, .int .i64 0]) ?_ 1 _ rfl; (with_reducible repeat (first | refine blk_drewN ?_ _ | refine blk_drew ?_ | refine blk_alloc ?_ _)); refine blk_put (cs := #[.int .i64 0, .int .i64 0]) ?_ 0 _ rfl; (with_reducible repeat (first | refine blk_drewN ?_ _ | refine blk_drew ?_ | refine blk_alloc ?_ _)); exact BK566.out) hb); have n6_ := Aside0.mk (below_step (by repeat (first | (with_reducible first | exact HB.out | apply below_alloc | apply pw_below_drewN | apply below_drew1 | refine below_set ?_ GE555.out | refine below_set ?_ GE559.out | refine below_set ?_ GE566.out) | exact HB.out)) hb); clear HO551; clear HO562; clear BK555; clear BK559; clear BK566; clear HB; have HO551 := n0_; have HO562 := n1_; have HO569 := n2_; have BK555 := n3_; have BK559 := n4_; have BK566 := n5_; have HB := n6_; clear n0_ n1_ n2_ n3_ n4_ n5_ n6_; clear hb ho36; obtain ⟨Ao37, co37, eo37⟩ := Kd.R_slice HO569.out; subst eo37) | ((with_reducible refine gate_callee (f := 42) rfl ?_); refine goesL_ (some 38) rfl rfl Try.func42 (by kernel_rfl) rfl #[.slice Ao37 y567.length co37, .int .i64 1] rfl (by (try simp only [List.map_toArray, List.map_cons, List.map_nil]); first | done | rfl | (simp only [List.length_drop, List.length_take]; rfl)) ?_; (with_reducible refine (interval_Honest.calls k _ _ y567 1 t570 t571 t572 _ ?side1 ?side2 A4.out).mono ?_); (case side1 => repeat (first | exact (Kd.R_reads' HO569.out).2.2 | (with_reducible refine Kd.C_alloc ?_ _) | (with_reducible refine Kd.C_drewN ?_ _) | (with_reducible refine Kd.C_drew ?_))); (case side2 => exact (Kd.R_reads' HO569.out).2.1); rintro e w38 ⟨rfl, hb⟩; refine ⟨_, rfl, ?_⟩; have n0_ := Aside0.mk (Kd.R_below (by (with_reducible repeat (first | apply Kd.R_alloc | apply Kd.R_drewN | apply Kd.R_drew)); exact HO551.out) hb); have n1_ := Aside0.mk (Kd.R_below (by (with_reducible repeat (first | apply Kd.R_alloc | apply Kd.R_drewN | apply Kd.R_drew)); exact HO562.out) hb); have n2_ := Aside0.mk (Kd.R_below (by (with_reducible repeat (first | apply Kd.R_alloc | apply Kd.R_drewN | apply Kd.R_drew)); exact HO569.out) hb); have n3_ := Aside0.mk (blk_below (g := gb555) (o := .cells #[.int .i64 t552, .int .i64 t553] 29 (0, 0)) (by (with_reducible repeat (first | refine blk_drewN ?_ _ | refine blk_drew ?_ | refine blk_alloc ?_ _)); exact BK555.out) hb); have n4_ := Aside0.mk (blk_below (g := gb559) (o := .cells #[.int .i64 t556, .int .i64 t557] 29 (0, 0)) (by (with_reducible repeat (first | refine blk_drewN ?_ _ | refine blk_drew ?_ | refine blk_alloc ?_ _)); exact BK559.out) hb); have n5_ := Aside0.mk (blk_below (g := gb566) (o := .cells #[.int .i64 t563, .int .i64 t564] 29 (0, 0)) (by (with_reducible repeat (first | refine blk_drewN ?_ _ | refine blk_drew ?_ | refine blk_alloc ?_ _)); exact BK566.out) hb); have n6_ := Aside0.mk (below_step (by repeat (first | (with_reducible first | exact HB.out | apply below_alloc | apply pw_below_drewN | apply below_drew1 | refine below_set ?_ GE555.out | refine below_set ?_ GE559.out | refine below_set ?_ GE566.out) | exact HB.out)) hb); clear HO551; clear HO562; clear HO569; clear BK555; clear BK559; clear BK566; clear HB; have HO551 := n0_; have HO562 := n1_; have HO569 := n2_; have BK555 := n3_; have BK559 := n4_; have BK566 := n5_; have HB := n6_; clear n0_ n1_ n2_ n3_ n4_ n5_ n6_; (try clear hb); (try clear hb2); (try clear hk); (try clear hi)) | ((with_reducible refine gate_dst (N := 9) rfl ?_); (try (refine gate_guard (by rfl) ?_; dsimp only)); refine box_event ?hg (N := 9) ?hd (cs := #[.int .i64 0, .int .i64 0]) (t := 29) ?hr ?_; (case hd => rfl); (case hg => rfl); (case hr => first | (go_simp; done) | (go_simp; rfl)); intro gb573 hg w39 hbox hb; have n0_ := Aside0.mk (Kd.R_below (Kd.R_elderB (by (with_reducible repeat (first | apply Kd.R_alloc | apply Kd.R_drewN | apply Kd.R_drew)); exact HO551.out) gb573 (Nat.le_of_eq hg.symm)) hb); have n1_ := Aside0.mk (Kd.R_below (Kd.R_elderB (by (with_reducible repeat (first | apply Kd.R_alloc | apply Kd.R_drewN | apply Kd.R_drew)); exact HO562.out) gb573 (Nat.le_of_eq hg.symm)) hb); have n2_ := Aside0.mk (Kd.R_below (Kd.R_elderB (by (with_reducible repeat (first | apply Kd.R_alloc | apply Kd.R_drewN | apply Kd.R_drew)); exact HO569.out) gb573 (Nat.le_of_eq hg.symm)) hb); have n3_ := Aside0.mk (blk_below (g := gb555) (o := .cells #[.int .i64 t552, .int .i64 t553] 29 (0, 0)) (by (with_reducible repeat (first | refine blk_drewN ?_ _ | refine blk_drew ?_ | refine blk_alloc ?_ _)); exact BK555.out) hb); have n4_ := Aside0.mk (blk_below (g := gb559) (o := .cells #[.int .i64 t556, .int .i64 t557] 29 (0, 0)) (by (with_reducible repeat (first | refine blk_drewN ?_ _ | refine blk_drew ?_ | refine blk_alloc ?_ _)); exact BK559.out) hb); have n5_ := Aside0.mk (blk_below (g := gb566) (o := .cells #[.int .i64 t563, .int .i64 t564] 29 (0, 0)) (by (with_reducible repeat (first | refine blk_drewN ?_ _ | refine blk_drew ?_ | refine blk_alloc ?_ _)); exact BK566.out) hb); have n6_ := Aside0.mk (below_step (by repeat (first | (with_reducible first | exact HB.out | apply below_alloc | apply pw_below_drewN | apply below_drew1 | refine below_set ?_ GE555.out | refine below_set ?_ GE559.out | refine below_set ?_ GE566.out) | exact HB.out)) hb); have n7_ := Aside0.mk (hbox); have n8_ := Aside0.mk ((by rw [hg]; exact (below_size (by repeat (first | (with_reducible first | exact HB.out | apply below_alloc | apply pw_below_drewN | apply below_drew1 | refine below_set ?_ GE555.out | refine below_set ?_ GE559.out | refine below_set ?_ GE566.out) | exact HB.out))) : w.heap.size ≤ gb573)); have n9_ := Aside0.mk ((by rw [hg]; exact (below_size (by repeat (first | (with_reducible first | exact HB.out | apply below_alloc | apply pw_below_drewN | apply below_drew1 | refine below_set ?_ GE555.out | refine below_set ?_ GE559.out | refine below_set ?_ GE566.out) | exact HB.out))) : w.heap.size ≤ gb573)); have n10_ := Aside0.mk ((by rw [hg]; exact Nat.ne_of_lt (blk_lt (g := gb555) (o := .cells #[.int .i64 t552, .int .i64 t553] 29 (0, 0)) (by (with_reducible repeat (first | refine blk_drewN ?_ _ | refine blk_drew ?_ | refine blk_alloc ?_ _)); exact BK555.out)) : gb555 ≠ gb573)); have n11_ := Aside0.mk ((by rw [hg]; exact Nat.ne_of_gt (blk_lt (g := gb555) (o := .cells #[.int .i64 t552, .int .i64 t553] 29 (0, 0)) (by (with_reducible repeat (first | refine blk_drewN ?_ _ | refine blk_drew ?_ | refine blk_alloc ?_ _)); exact BK555.out)) : gb573 ≠ gb555)); have n12_ := Aside0.mk ((by rw [hg]; exact Nat.ne_of_lt (blk_lt (g := gb559) (o := .cells #[.int .i64 t556, .int .i64 t557] 29 (0, 0)) (by (with_reducible repeat (first | refine blk_drewN ?_ _ | refine blk_drew ?_ | refine blk_alloc ?_ _)); exact BK559.out)) : gb559 ≠ gb573)); have n13_ := Aside0.mk ((by rw [hg]; exact Nat.ne_of_gt (blk_lt (g := gb559) (o := .cells #[.int .i64 t556, .int .i64 t557] 29 (0, 0)) (by (with_reducible repeat (first | refine blk_drewN ?_ _ | refine blk_drew ?_ | refine blk_alloc ?_ _)); exact BK559.out)) : gb573 ≠ gb559)); have n14_ := Aside0.mk ((by rw [hg]; exact Nat.ne_of_lt (blk_lt (g := gb566) (o := .cells #[.int .i64 t563, .int .i64 t564] 29 (0, 0)) (by (with_reducible repeat (first | refine blk_drewN ?_ _ | refine blk_drew ?_ | refine blk_alloc ?_ _)); exact BK566.out)) : gb566 ≠ gb573)); have n15_ := Aside0.mk ((by rw [hg]; exact Nat.ne_of_gt (blk_lt (g := gb566) (o := .cells #[.int .i64 t563, .int .i64 t564] 29 (0, 0)) (by (with_reducible repeat (first | refine blk_drewN ?_ _ | refine blk_drew ?_ | refine blk_alloc ?_ _)); exact BK566.out)) : gb573 ≠ gb566)); clear HO551; clear HO562; clear HO569; clear BK555; clear BK559; clear BK566; clear HB; have HO551 := n0_; have HO562 := n1_; have HO569 := n2_; have BK555 := n3_; have BK559 := n4_; have BK566 := n5_; have HB := n6_; have BK573 := n7_; have GW573 := n8_; have GE573 := n9_; have NB555_573 := n10_; have NB573_555 := n11_; have NB559_573 := n12_; have NB573_559 := n13_; have NB566_573 := n14_; have NB573_566 := n15_; clear n0_ n1_ n2_ n3_ n4_ n5_ n6_ n7_ n8_ n9_ n10_ n11_ n12_ n13_ n14_ n15_; clear hb hbox hg; have hnb40 := NB573_555.out; have hnc40 := NB555_573.out; have hnb41 := NB573_559.out; have hnc41 := NB559_573.out; have hnb42 := NB573_566.out; have hnc42 := NB566_573.out; have hcz43_0 : w39.cell? ⟨gb573, 0, none⟩ = some (.int .i64 0) := (blk_cell BK573.out 0).trans rfl; have hcz43_1 : w39.cell? ⟨gb573, 1, none⟩ = some (.int .i64 0) := (blk_cell BK573.out 1).trans rfl; have hfz43_0 := blk_frozen BK573.out 0; have hfz43_1 := blk_frozen BK573.out 1; have hcz44_0 : w39.cell? ⟨gb555, 0, none⟩ = some (.int .i64 t552) := (blk_cell BK555.out 0).trans rfl; have hcz44_1 : w39.cell? ⟨gb555, 1, none⟩ = some (.int .i64 t553) := (blk_cell BK555.out 1).trans rfl; have hfz44_0 := blk_frozen BK555.out 0; have hfz44_1 := blk_frozen BK555.out 1; have hcz45_0 : w39.cell? ⟨gb559, 0, none⟩ = some (.int .i64 t556) := (blk_cell BK559.out 0).trans rfl; have hcz45_1 : w39.cell? ⟨gb559, 1, none⟩ = some (.int .i64 t557) := (blk_cell BK559.out 1).trans rfl; have hfz45_0 := blk_frozen BK559.out 0; have hfz45_1 := blk_frozen BK559.out 1) | (go_at_call 40; (with_reducible refine (interval_Edges.calls k _ _ y549 t574 _ ?side1 ?side2 A9.out).mono ?_); (case side1 => refine (Kd.R_reads' (e := 29) (base := w.heap.size) (ok := fun k_ => ((((((True ∧ k_ ≠ gb555) ∧ k_ ≠ gb559) ∧ some k_ ≠ (.slice Ao29 y560.length co29 : Value).ownBlock) ∧ k_ ≠ gb566) ∧ some k_ ≠ (.slice Ao37 y567.length co37 : Value).ownBlock) ∧ k_ ≠ gb573)) (n := y549.length) (c := co19) ?_).2.2; exact (by (with_reducible repeat (first | apply Kd.R_alloc | apply Kd.R_drewN | apply Kd.R_drew)); exact (Kd.R_mono (Kd.R_far (p := ⟨gb573, 1, none⟩) (Kd.R_far (p := ⟨gb573, 0, none⟩) (Kd.R_mono HO551.out (fun k_ hk => (⟨hk, hk.2⟩ : _ ∧ k_ ≠ gb573))) (fun _ hk => hk.2) (.int .i64 t570)) (fun _ hk => hk.2) (.int .i64 t571)) (fun _ h_ => h_.1)))); (case side2 => exact (Kd.R_reads' HO551.out).2.1); rintro e w46 ⟨v575, rfl, ho0, hb⟩; have n0_ := Aside0.mk (Kd.R_below (by (with_reducible repeat (first | apply Kd.R_alloc | apply Kd.R_drewN | apply Kd.R_drew)); exact (Kd.R_mono (Kd.R_far (p := ⟨gb573, 1, none⟩) (Kd.R_far (p := ⟨gb573, 0, none⟩) (Kd.R_mono HO551.out (fun k_ hk => (⟨hk, hk.2⟩ : _ ∧ k_ ≠ gb573))) (fun _ hk => hk.2) (.int .i64 t570)) (fun _ hk => hk.2) (.int .i64 t571)) (fun _ h_ => h_.1))) hb); have n1_ := Aside0.mk (Kd.R_below (by (with_reducible repeat (first | apply Kd.R_alloc | apply Kd.R_drewN | apply Kd.R_drew)); exact (Kd.R_mono (Kd.R_far (p := ⟨gb573, 1, none⟩) (Kd.R_far (p := ⟨gb573, 0, none⟩) (Kd.R_mono HO562.out (fun k_ hk => (⟨hk, hk.2⟩ : _ ∧ k_ ≠ gb573))) (fun _ hk => hk.2) (.int .i64 t570)) (fun _ hk => hk.2) (.int .i64 t571)) (fun _ h_ => h_.1))) hb); have n2_ := Aside0.mk (Kd.R_below (by (with_reducible repeat (first | apply Kd.R_alloc | apply Kd.R_drewN | apply Kd.R_drew)); exact (Kd.R_mono (Kd.R_far (p := ⟨gb573, 1, none⟩) (Kd.R_far (p := ⟨gb573, 0, none⟩) (Kd.R_mono HO569.out (fun k_ hk => (⟨hk, hk.2⟩ : _ ∧ k_ ≠ gb573))) (fun _ hk => hk.2) (.int .i64 t570)) (fun _ hk => hk.2) (.int .i64 t571)) (fun _ h_ => h_.1))) hb); have n3_ := Aside0.mk (Kd.R_lower ho0 (below_size (by repeat (first | (with_reducible first | exact HB.out | apply below_alloc | apply pw_below_drewN | apply below_drew1 | refine below_set ?_ GE555.out | refine below_set ?_ GE559.out | refine below_set ?_ GE566.out | refine below_set ?_ GE573.out) | exact HB.out)))); have n4_ := Aside0.mk (blk_below (g := gb555) (o := .cells #[.int .i64 t552, .int .i64 t553] 29 (0, 0)) (by (with_reducible repeat (first | refine blk_drewN ?_ _ | refine blk_drew ?_ | refine blk_alloc ?_ _)); refine blk_far ?_ NB555_573.out _; (with_reducible repeat (first | refine blk_drewN ?_ _ | refine blk_drew ?_ | refine blk_alloc ?_ _)); refine blk_far ?_ NB555_573.out _; (with_reducible repeat (first | refine blk_drewN ?_ _ | refine blk_drew ?_ | refine blk_alloc ?_ _)); exact BK555.out) hb); have n5_ := Aside0.mk (blk_below (g := gb559) (o := .cells #[.int .i64 t556, .int .i64 t557] 29 (0, 0)) (by (with_reducible repeat (first | refine blk_drewN ?_ _ | refine blk_drew ?_ | refine blk_alloc ?_ _)); refine blk_far ?_ NB559_573.out _; (with_reducible repeat (first | refine blk_drewN ?_ _ | refine blk_drew ?_ | refine blk_alloc ?_ _)); refine blk_far ?_ NB559_573.out _; (with_reducible repeat (first | refine blk_drewN ?_ _ | refine blk_drew ?_ | refine blk_alloc ?_ _)); exact BK559.out) hb); have n6_ := Aside0.mk (blk_below (g := gb566) (o := .cells #[.int .i64 t563, .int .i64 t564] 29 (0, 0)) (by (with_reducible repeat (first | refine blk_drewN ?_ _ | refine blk_drew ?_ | refine blk_alloc ?_ _)); refine blk_far ?_ NB566_573.out _; (with_reducible repeat (first | refine blk_drewN ?_ _ | refine blk_drew ?_ | refine blk_alloc ?_ _)); refine blk_far ?_ NB566_573.out _; (with_reducible repeat (first | refine blk_drewN ?_ _ | refine blk_drew ?_ | refine blk_alloc ?_ _)); exact BK566.out) hb); have n7_ := Aside0.mk (blk_below (g := gb573) (o := .cells #[.int .i64 t570, .int .i64 t571] 29 (0, 0)) (by (with_reducible repeat (first | refine blk_drewN ?_ _ | refine blk_drew ?_ | refine blk_alloc ?_ _)); refine blk_put (cs := #[.int .i64 t570, .int .i64 0]) ?_ 1 _ rfl; (with_reducible repeat (first | refine blk_drewN ?_ _ | refine blk_drew ?_ | refine blk_alloc ?_ _)); refine blk_put (cs := #[.int .i64 0, .int .i64 0]) ?_ 0 _ rfl; (with_reducible repeat (first | refine blk_drewN ?_ _ | refine blk_drew ?_ | refine blk_alloc ?_ _)); exact BK573.out) hb); have n8_ := Aside0.mk (below_step (by repeat (first | (with_reducible first | exact HB.out | apply below_alloc | apply pw_below_drewN | apply below_drew1 | refine below_set ?_ GE555.out | refine below_set ?_ GE559.out | refine below_set ?_ GE566.out | refine below_set ?_ GE573.out) | exact HB.out)) hb); clear HO551; clear HO562; clear HO569; clear BK555; clear BK559; clear BK566; clear BK573; clear HB; have HO551 := n0_; have HO562 := n1_; have HO569 := n2_; have HO576 := n3_; have BK555 := n4_; have BK559 := n5_; have BK566 := n6_; have BK573 := n7_; have HB := n8_; clear n0_ n1_ n2_ n3_ n4_ n5_ n6_ n7_ n8_; (try clear hb); (try clear hb2); (try clear hk); (try clear hi); (try clear ho0)) | ((with_reducible refine gate_dst (N := 59) rfl ?_); (try (refine gate_guard (by rfl) ?_; dsimp only)); refine Kd.R_lit (Kd.int .i64) _ 3 ?hg (N := 59) ?hd (xs := ([1, 4, 5, 6, 9] : List Int)) (inner := [.int .i64 1, .int .i64 4, .int .i64 5, .int .i64 6, .int .i64 9]) (ok := fun _ => True) (okp := fun _ => True) ?hr ?hp (fun _ hk => hk) trivial (Below.refl _ _) (Nat.le_refl _) (by simp) ?_; (case hd => rfl); (case hg => rfl); (case hr => first | (go_simp; done) | (go_simp; rfl)); (case hp => exact (Reps.one (show Kd.M (Kd.int .i64) _ _ _ 1 [.int .i64 1] from rfl) (Reps.one (show Kd.M (Kd.int .i64) _ _ _ 4 [.int .i64 4] from rfl) (Reps.one (show Kd.M (Kd.int .i64) _ _ _ 5 [.int .i64 5] from rfl) (Reps.one (show Kd.M (Kd.int .i64) _ _ _ 6 [.int .i64 6] from rfl) (Reps.one (show Kd.M (Kd.int .i64) _ _ _ 9 [.int .i64 9] from rfl) (Reps.none _ _))))))); intro v578 w47 ho48 hb hg_ hnew_; clear hg_ hnew_; (first | rw [← Ny577.out] at ho48 | (simp only [Int.reduceToNat] at ho48; rw [← Ny577.out] at ho48)); have n0_ := Aside0.mk (Kd.R_below (by (with_reducible repeat (first | apply Kd.R_alloc | apply Kd.R_drewN | apply Kd.R_drew)); exact HO551.out) hb); have n1_ := Aside0.mk (Kd.R_below (by (with_reducible repeat (first | apply Kd.R_alloc | apply Kd.R_drewN | apply Kd.R_drew)); exact HO562.out) hb); have n2_ := Aside0.mk (Kd.R_below (by (with_reducible repeat (first | apply Kd.R_alloc | apply Kd.R_drewN | apply Kd.R_drew)); exact HO569.out) hb); have n3_ := Aside0.mk (Kd.R_elder' (by (with_reducible repeat (first | apply Kd.R_alloc | apply Kd.R_drewN | apply Kd.R_drew)); exact HO576.out) (Kd.R_base ho48) hb); have n4_ := Aside0.mk (Kd.R_lower (Kd.R_new' ho48 (Kd.R_lt (by (with_reducible repeat (first | apply Kd.R_alloc | apply Kd.R_drewN | apply Kd.R_drew)); exact HO576.out))) (below_size (by repeat (first | (with_reducible first | exact HB.out | apply below_alloc | apply pw_below_drewN | apply below_drew1 | refine below_set ?_ GE555.out | refine below_set ?_ GE559.out | refine below_set ?_ GE566.out | refine below_set ?_ GE573.out) | exact HB.out)))); have n5_ := Aside0.mk (blk_below (g := gb555) (o := .cells #[.int .i64 t552, .int .i64 t553] 29 (0, 0)) (by (with_reducible repeat (first | refine blk_drewN ?_ _ | refine blk_drew ?_ | refine blk_alloc ?_ _)); exact BK555.out) hb); have n6_ := Aside0.mk (blk_below (g := gb559) (o := .cells #[.int .i64 t556, .int .i64 t557] 29 (0, 0)) (by (with_reducible repeat (first | refine blk_drewN ?_ _ | refine blk_drew ?_ | refine blk_alloc ?_ _)); exact BK559.out) hb); have n7_ := Aside0.mk (blk_below (g := gb566) (o := .cells #[.int .i64 t563, .int .i64 t564] 29 (0, 0)) (by (with_reducible repeat (first | refine blk_drewN ?_ _ | refine blk_drew ?_ | refine blk_alloc ?_ _)); exact BK566.out) hb); have n8_ := Aside0.mk (blk_below (g := gb573) (o := .cells #[.int .i64 t570, .int .i64 t571] 29 (0, 0)) (by (with_reducible repeat (first | refine blk_drewN ?_ _ | refine blk_drew ?_ | refine blk_alloc ?_ _)); exact BK573.out) hb); have n9_ := Aside0.mk (below_step (by repeat (first | (with_reducible first | exact HB.out | apply below_alloc | apply pw_below_drewN | apply below_drew1 | refine below_set ?_ GE555.out | refine below_set ?_ GE559.out | refine below_set ?_ GE566.out | refine below_set ?_ GE573.out) | exact HB.out)) hb); clear HO551; clear HO562; clear HO569; clear HO576; clear BK555; clear BK559; clear BK566; clear BK573; clear HB; have HO551 := n0_; have HO562 := n1_; have HO569 := n2_; have HO576 := n3_; have HO579 := n4_; have BK555 := n5_; have BK559 := n6_; have BK566 := n7_; have BK573 := n8_; have HB := n9_; clear n0_ n1_ n2_ n3_ n4_ n5_ n6_ n7_ n8_ n9_; clear hb ho48; obtain ⟨Ao49, co49, eo49⟩ := Kd.R_slice HO576.out; subst eo49; obtain ⟨Ao50, co50, eo50⟩ := Kd.R_slice HO579.out; subst eo50) | (go_at_call 21; (with_reducible refine (slices_Equal_int_int.calls k _ _ t574 _ _ y577 true _ ?side1 ?side2 ?side3 ?side4 A10.out).mono ?_); (case side1 => repeat (first | exact (Kd.R_reads' HO576.out).2.2 | (with_reducible refine Kd.C_alloc ?_ _) | (with_reducible refine Kd.C_drewN ?_ _) | (with_reducible refine Kd.C_drew ?_))); (case side2 => exact (Kd.R_reads' HO576.out).2.1); (case side3 => repeat (first | exact (Kd.R_reads' HO579.out).2.2 | (with_reducible refine Kd.C_alloc ?_ _) | (with_reducible refine Kd.C_drewN ?_ _) | (with_reducible refine Kd.C_drew ?_))); (case side4 => exact (Kd.R_reads' HO579.out).2.1); rintro e w' ⟨rfl, ⟨nd, rfl⟩⟩; have hcz51_0 : w47.cell? ⟨gb566, 0, none⟩ = some (.int .i64 t563) := (blk_cell BK566.out 0).trans rfl; have hcz51_1 : w47.cell? ⟨gb566, 1, none⟩ = some (.int .i64 t564) := (blk_cell BK566.out 1).trans rfl; have hfz51_0 := blk_frozen BK566.out 0; have hfz51_1 := blk_frozen BK566.out 1) | (go_at_call 61; (with_reducible refine (interval_Faulty.calls k _ _ y567 t581 _ ?side1 ?side2 A14.out).mono ?_); (case side1 => repeat (first | exact (Kd.R_reads' HO569.out).2.2 | (with_reducible refine Kd.C_alloc ?_ _) | (with_reducible refine Kd.C_drewN ?_ _) | (with_reducible refine Kd.C_drew ?_))); (case side2 => exact (Kd.R_reads' HO569.out).2.1); rintro e w52 ⟨rfl, hb⟩; have n0_ := Aside0.mk (Kd.R_below (by (with_reducible repeat (first | apply Kd.R_alloc | apply Kd.R_drewN | apply Kd.R_drew)); exact HO551.out) hb); have n1_ := Aside0.mk (Kd.R_below (by (with_reducible repeat (first | apply Kd.R_alloc | apply Kd.R_drewN | apply Kd.R_drew)); exact HO562.out) hb); have n2_ := Aside0.mk (Kd.R_below (by (with_reducible repeat (first | apply Kd.R_alloc | apply Kd.R_drewN | apply Kd.R_drew)); exact HO569.out) hb); have n3_ := Aside0.mk (Kd.R_below (by (with_reducible repeat (first | apply Kd.R_alloc | apply Kd.R_drewN | apply Kd.R_drew)); exact HO576.out) hb); have n4_ := Aside0.mk (Kd.R_below (by (with_reducible repeat (first | apply Kd.R_alloc | apply Kd.R_drewN | apply Kd.R_drew)); exact HO579.out) hb); have n5_ := Aside0.mk (blk_below (g := gb555) (o := .cells #[.int .i64 t552, .int .i64 t553] 29 (0, 0)) (by (with_reducible repeat (first | refine blk_drewN ?_ _ | refine blk_drew ?_ | refine blk_alloc ?_ _)); exact BK555.out) hb); have n6_ := Aside0.mk (blk_below (g := gb559) (o := .cells #[.int .i64 t556, .int .i64 t557] 29 (0, 0)) (by (with_reducible repeat (first | refine blk_drewN ?_ _ | refine blk_drew ?_ | refine blk_alloc ?_ _)); exact BK559.out) hb); have n7_ := Aside0.mk (blk_below (g := gb566) (o := .cells #[.int .i64 t563, .int .i64 t564] 29 (0, 0)) (by (with_reducible repeat (first | refine blk_drewN ?_ _ | refine blk_drew ?_ | refine blk_alloc ?_ _)); exact BK566.out) hb); have n8_ := Aside0.mk (blk_below (g := gb573) (o := .cells #[.int .i64 t570, .int .i64 t571] 29 (0, 0)) (by (with_reducible repeat (first | refine blk_drewN ?_ _ | refine blk_drew ?_ | refine blk_alloc ?_ _)); exact BK573.out) hb); have n9_ := Aside0.mk (below_step (by repeat (first | (with_reducible first | exact HB.out | apply below_alloc | apply pw_below_drewN | apply below_drew1 | refine below_set ?_ GE555.out | refine below_set ?_ GE559.out | refine below_set ?_ GE566.out | refine below_set ?_ GE573.out) | exact HB.out)) hb); clear HO551; clear HO562; clear HO569; clear HO576; clear HO579; clear BK555; clear BK559; clear BK566; clear BK573; clear HB; have HO551 := n0_; have HO562 := n1_; have HO569 := n2_; have HO576 := n3_; have HO579 := n4_; have BK555 := n5_; have BK559 := n6_; have BK566 := n7_; have BK573 := n8_; have HB := n9_; clear n0_ n1_ n2_ n3_ n4_ n5_ n6_ n7_ n8_ n9_; (try clear hb); (try clear hb2); (try clear hk); (try clear hi); have hcz53_0 : w52.cell? ⟨gb573, 0, none⟩ = some (.int .i64 t570) := (blk_cell BK573.out 0).trans rfl; have hcz53_1 : w52.cell? ⟨gb573, 1, none⟩ = some (.int .i64 t571) := (blk_cell BK573.out 1).trans rfl; have hfz53_0 := blk_frozen BK573.out 0; have hfz53_1 := blk_frozen BK573.out 1))
          go_ret
          exact ⟨by first | rfl | (simp [errW_none, errW_some] <;> rfl) | (simp [*, errW_none, errW_some] <;> rfl), by repeat (first | (with_reducible first | exact HB.out | apply below_alloc | apply pw_below_drewN | apply below_drew1 | refine below_set ?_ GE555.out | refine below_set ?_ GE559.out | refine below_set ?_ GE566.out | refine below_set ?_ GE573.out) | exact HB.out)⟩
         ·rw [if_neg c16] at H
          exact absurd H (by simp)
        ·rw [if_neg c15] at H
         exact absurd H (by simp)
       ·rw [if_neg c13] at H
        exact absurd H (by simp)
      ·rw [if_neg c12] at H
       exact absurd H (by simp)
     ·replace c11 := Bool.eq_false_iff.mpr c11
      subst c11
      have H1 : (none) = some r := by rw [if_neg (show ¬ (false = true) by decide)] at H; exact H
      clear H
      have H := H1
      clear H1
      exact absurd H (by simp)
    ·replace c8 := Bool.eq_false_iff.mpr c8
     subst c8
     have H1 : (none) = some r := by rw [if_neg (show ¬ (false = true) by decide)] at H; exact H
     clear H
     have H := H1
     clear H1
     exact absurd H (by simp)
   ·rw [if_neg c7] at H
    exact absurd H (by simp)
  ·rw [if_neg c6] at H
   exact absurd H (by simp)
 ·rw [if_neg c5] at H
  exact absurd H (by simp)

end Go.Proofs.Ytlfilhplklifjaa.X

namespace Go.Proofs.Ytlfilhplklifjaa.X
open Go.RowKit Go.Proofs.YtlfilhplklifjaaW.PrintWords Go.Proofs.YtlfilhplklifjaaW.PrintLast Go.Proofs.YtlfilhplklifjaaW.PrintMore
attribute [local go_sem] max2_int min2_int max_two min_two max_three min_three max_four min_four   -- for this text's walks alone
set_option linter.unusedVariables false
set_option linter.unusedSimpArgs false


/-! ### api_Interval_37: function 37 -/
instance inh29 : Inhabited S29 := ⟨z29⟩
def enc29 (x : S29) : List Value := [.int .i64 x.f0, .int .i64 x.f1]
theorem flat29 : HB.Flat k29 enc29 := ⟨fun h => k29_open h, fun _ => rfl, fun h => k29_openM h, fun w base ok x => k29_mkM w base ok x⟩
def api_Interval_37.f (l0 : List S29) : Option (List S29) := if l0.length < 4611686018427387904 then some l0.reverse else none
set_option maxHeartbeats 1000000 in
theorem api_Interval_37.calls (P0_ : Nat → Prop) (u9000_ : Value) (l0 : List S29) (r : List S29) (w0 w : World) (hB : Below w0.heap.size w0 w) (ho0 : Kd.R k29 29 w w0.heap.size P0_ u9000_ l0) (h : api_Interval_37.f l0 = some r) :
  Calls Try.prog 37 #[u9000_] w fun e w' => e = .returned (.tuple #[]) ∧ Kd.R k29 29 w' w0.heap.size (fun k_ => (P0_ k_ ∨ w.heap.size ≤ k_)) u9000_ r ∧ Below w0.heap.size w0 w' ∧ Kept w w' (fun k_ => P0_ k_) := by
 unfold api_Interval_37.f at h
 have hlt : l0.length < 4611686018427387904 := by
  rcases Nat.lt_or_ge l0.length 4611686018427387904 with h1 | h1
  ·exact h1
  ·rw [if_neg (by omega)] at h; cases h
 rw [if_pos hlt] at h
 obtain rfl := Option.some.inj h
 rcases HB.holdsK_own flat29 (by decide) ho0 with ⟨rfl, rfl⟩ | ⟨g, cap, rfl, hbase, hP, hg, hh⟩
 ·have hcon := AnyQ.slices_Reverse_empty Try.revInterval none 0 w
  change Calls Try.prog 37 _ _ _ at hcon
  refine hcon.mono ?_
  rintro e w' ⟨rfl, rfl⟩
  exact ⟨rfl, Kd.R_nil _ _ _ _ _, hB, Kept.refl _ _⟩
 ·have hcon := AnyQ.slices_Reverse Try.revInterval 2 Try.isAgg29 Try.sizeOf29 enc29 (fun _ => rfl) (fun x v hv => by simp [enc29] at hv; rcases hv with rfl | rfl <;> rfl) g 0 cap l0.toArray w hh (by simp; omega)
  change Calls Try.prog 37 _ _ _ at hcon
  refine (hcon).mono ?_
  rintro e w' ⟨rfl, n, rfl⟩
  have := HB.sort_post flat29 (by decide) hB ho0 n l0.toArray.reverse #[] (by simp)
  rw [Go.Sort.grow_empty] at this
  rw [show l0.toArray.reverse.toList = l0.reverse by simp] at this
  exact ⟨rfl, this⟩

end Go.Proofs.Ytlfilhplklifjaa.X

namespace Go.Proofs.Ytlfilhplklifjaa.X
open Go.RowKit Go.Proofs.YtlfilhplklifjaaW.PrintWords Go.Proofs.YtlfilhplklifjaaW.PrintLast Go.Proofs.YtlfilhplklifjaaW.PrintMore
attribute [local go_sem] max2_int min2_int max_two min_two max_three min_three max_four min_four   -- for this text's walks alone
set_option linter.unusedVariables false
set_option linter.unusedSimpArgs false


/-! ### api_Interval_36: function 36 -/
def api_Interval_36.f (l0 : List S29) : Option (List S29) := if l0.length * 16 ≤ 140737488355328 then some l0 else none
theorem info_api_Interval_36 : (Try.prog.info? 29).map (fun i => (i.zero, i.size, i.bytes)) = some (some (.agg #[(.int .i64 0), (.int .i64 0)]), 2, 16) := by kernel_rfl
set_option maxHeartbeats 1000000 in
theorem api_Interval_36.calls (A0 : Option Addr) (c0 : Nat) (l0 : List S29) (r : List S29) (w : World) (hr0 : Kd.C k29 w A0 l0.length l0) (hc0 : l0.length ≤ c0) (h : api_Interval_36.f l0 = some r) :
  Calls Try.prog 36 #[.slice A0 l0.length c0] w fun e w' => ∃ v0_ : Value, e = .returned (v0_) ∧ Kd.R k29 29 w' w.heap.size (fun _ => True) v0_ r ∧ Below w.heap.size w w' := by
 unfold api_Interval_36.f at h
 have hlt : l0.length * 16 ≤ 140737488355328 := by
  rcases Nat.lt_or_ge 140737488355328 (l0.length * 16) with h1 | h1
  ·rw [if_neg (by omega)] at h; cases h
  ·exact h1
 rw [if_pos hlt] at h
 obtain rfl := Option.some.inj h
 have q22 : ∀ (w : World) (a : Option Addr) (n c n' c' : Nat), (binOp .eql 58 (.slice a n c) (.slice none n' c')).run Try.prog w = .ok (.bool a.isNone) w := fun w a n c n' c' => Lib.run_eql_slice_nil w _ _ a n c n' c' Try.underlying58
 cases A0 with
 | none =>
  have he : l0 = [] := by
   cases l0 with
   | nil => rfl
   | cons a q =>
    obtain ⟨ad, e, _⟩ := hr0.2.2 (by simp)
    cases e
  subst he
  clear hr0 hc0 hlt h
  go_enter Try.func36, Try.ntmps36
  go_wp2
  go_ret
  exact ⟨_, rfl, Kd.R_nil _ _ _ _ _, Below.refl _ _⟩
 | some ad =>
  obtain ⟨i0, hi, hzz⟩ := Option.map_eq_some_iff.1 info_api_Interval_36
  simp only [Prod.mk.injEq] at hzz
  obtain ⟨hz0, hz1, hz2⟩ := hzz
  have hcell := Aside0.mk (show ∀ t u, (Go.Sort.flatK enc29 2 l0.toArray).toList[t]? = some u → w.cell? (ad.add t) = some u from HB.news_cells flat29 (by decide) hr0)
  have hone := Aside0.mk (show ∀ u ∈ (Go.Sort.flatK enc29 2 l0.toArray).toList, u.oneCell' = true from HB.one_flatK (d := k29) (enc := enc29) (fun x v hv => by simp [enc29] at hv; rcases hv with rfl | rfl <;> rfl) (fun _ => rfl) (by decide) l0.toArray)
  have hlen := Aside0.mk (show (Go.Sort.flatK enc29 2 l0.toArray).toList.length = l0.length * 2 by simp)
  have Hlt := Aside0.mk hlt
  have Hi := Aside0.mk hi
  have fin : ∀ (W : World) (v' : Value), W.ownsRow w.heap.size 29 2 v' l0.length (Go.Sort.flatK enc29 2 l0.toArray).toList → Kd.R k29 29 W w.heap.size (fun _ => True) v' l0 := fun W v' h => HB.own_flat flat29 (by decide) h
  have FIN := Aside0.mk fin
  have hsz : ∀ W : World, (Go.sizeOf 29).run Try.prog W = .ok 2 W := Try.sizeOf29
  clear hr0 hc0 h hlt hi fin
  generalize (Go.Sort.flatK enc29 2 l0.toArray).toList = news at hcell hone hlen FIN
  go_enter Try.func36, Try.ntmps36
  go_wp2_with (at_builtin; refine wpList_append_own _ rfl _ _ 58 rfl w.heap.size 29 i0 (.agg #[(.int .i64 0), (.int .i64 0)]) 2 16 Try.underlying58 Hi.out hz0 hz1 hz2 rfl (by decide) _ _ _ rfl (World.ownsRow_made w #[] 0 (Nat.le_refl _) (Nat.zero_le _) (by simp)) ad l0.length c0 news rfl ?qc1 ?qc2 ?qc3 ?qc4 ?qc5 ?qc6 ?_)
  case qc1 => exact hlen.out
  case qc2 =>
   intro j u hj
   exact Lib.cell?_alloc_some _ (hcell.out j u hj)
  case qc3 => exact hone.out
  case qc4 => have := Hlt.out; rw [Nat.zero_add]; unfold maxLen; omega
  case qc5 => rw [Nat.zero_add]; exact Hlt.out
  case qc6 => simp
  intro v' w1 hown hgrow hnil
  go_wp2
  go_ret
  refine ⟨v', rfl, FIN.out _ _ (by simpa using hown), ?_⟩
  exact ((Below.refl _ w).alloc (Nat.le_refl _) _).grown hgrow (by simp) (by intro k hk; simp [Value.ownBlock] at hk; omega)

end Go.Proofs.Ytlfilhplklifjaa.X

namespace Go.Proofs.Ytlfilhplklifjaa.X
open Go.RowKit Go.Proofs.YtlfilhplklifjaaW.PrintWords Go.Proofs.YtlfilhplklifjaaW.PrintLast Go.Proofs.YtlfilhplklifjaaW.PrintMore
attribute [local go_sem] max2_int min2_int max_two min_two max_three min_three max_four min_four   -- for this text's walks alone
set_option linter.unusedVariables false
set_option linter.unusedSimpArgs false

attribute [local go_sem high] eqA29
/-! ### timesynclaw23_IntervalTurned: function 11 -/
mutual
def timesynclaw23_IntervalTurned.j0 : Nat → List (S29) → Int → Bool → Option (Bool)
 | 0, _, _, _ => none
 | k + 1, x0, x1, x26 => if x26 = true then ((timesynclaw23_awake.f k).bind fun t582 => (some t582)) else ((api_Interval_36.f x0).bind fun t583 => ((api_Interval_37.f t583).bind fun t586 => ((interval_Best.f k x0).bind fun bt587 => ((interval_Best.f k t586).bind fun bt591 => ((interval_Hull.f k x0 x1).bind fun bt595 => ((interval_Hull.f k t586 x1).bind fun bt599 => (if (!(bt587.1 == bt591.1) || (!(bt587.2.1 == bt591.2.1))) = true then (timesynclaw23_IntervalTurned.j1 k x0 x1 bt595.2.2 true bt595.1 bt595.2.1) else (if bt587.2.2 = bt591.2.2 then (if (!(bt595.1 == bt599.1) || (!(bt595.2.1 == bt599.2.1))) = true then (timesynclaw23_IntervalTurned.j1 k x0 x1 bt595.2.2 true bt595.1 bt595.2.1) else (if (bt595.2.2 != bt599.2.2) = true then (timesynclaw23_IntervalTurned.j1 k x0 x1 bt595.2.2 true bt595.1 bt595.2.1) else ((interval_Edges.f k x0).bind fun t603 => ((interval_Edges.f k t586).bind fun t606 => ((slices_Equal_int_int.f k t603 t606).bind fun t609 => (timesynclaw23_IntervalTurned.j1 k x0 x1 bt595.2.2 (!t609) bt595.1 bt595.2.1)))))) else (timesynclaw23_IntervalTurned.j1 k x0 x1 bt595.2.2 true bt595.1 bt595.2.1)))))))))
def timesynclaw23_IntervalTurned.j1 : Nat → List (S29) → Int → Bool → Bool → Int → Int → Option (Bool)
 | 0, _, _, _, _, _, _ => none
 | k + 1, x0, x1, x11, x79, x599000, x599001 => if x79 = true then (none) else ((interval_Hull.f k x0 (wrap64 (x1 + 1))).bind fun bt610 => (if bt610.2.2 = true then (if x1 < 1 then ((timesynclaw23_awake.f k).bind fun t614 => (some t614)) else (if x11 = true then (if x599000 ≤ bt610.1 then (if bt610.2.1 ≤ x599001 then ((timesynclaw23_awake.f k).bind fun t615 => (some t615)) else (none)) else (none)) else (none))) else ((timesynclaw23_awake.f k).bind fun t616 => (some t616))))
end
def timesynclaw23_IntervalTurned.f (k : Nat) (l0 : List (S29)) (a1 : Int) : Option (Bool) := if (l0.length : Int) > 48 then (timesynclaw23_IntervalTurned.j0 k l0 a1 true) else (if a1 < (-100) then (timesynclaw23_IntervalTurned.j0 k l0 a1 true) else (timesynclaw23_IntervalTurned.j0 k l0 a1 (decide (a1 > 100))))
set_option maxHeartbeats 8000000 in
set_option maxRecDepth 100000 in
theorem timesynclaw23_IntervalTurned.calls (k : Nat) (A0 : Option Addr) (c0 : Nat) (l0 : List (S29)) (a1 : Int) (r : Bool) (w : World) (hr0 : Kd.C k29 w A0 l0.length l0) (hc0 : l0.length ≤ c0) (h : timesynclaw23_IntervalTurned.f k l0 a1 = some r) :
  Calls Try.prog 11 #[.slice A0 l0.length c0, .int .i64 a1] w fun e w' => e = .returned (.bool r) ∧ Below w.heap.size w w' := by
 have hu29 := Try.underlying29
 have HR0 := Aside0.mk hr0
 have HC0 := Aside0.mk hc0
 clear hr0 hc0
 have HB := Aside0.mk (Below.refl w.heap.size w)
 have H : (if (l0.length : Int) > 48 then (timesynclaw23_IntervalTurned.j0 k l0 a1 true) else (if a1 < (-100) then (timesynclaw23_IntervalTurned.j0 k l0 a1 true) else (timesynclaw23_IntervalTurned.j0 k l0 a1 (decide (a1 > 100))))) = some r := h
 clear h
 have HC3 := Aside0.mk H
 clear H
 go_enter Try.func11, Try.ntmps11
 go_upto_region 1 with (fail)
 go_cut [26] (fun v26 wc => ∃ (kq : Nat) (x26_2 : Bool), v26 = .bool x26_2 ∧ Aside0 (timesynclaw23_IntervalTurned.j0 kq l0 a1 x26_2 = some r) ∧ Aside0 (kq ≤ k) ∧ Aside0 (Below w.heap.size w wc))
 case first =>
  have H := HC3.out
  clear HC3
  by_cases c4 : (l0.length : Int) > 48
  ·rw [if_pos c4] at H
   have c4b0 : decide (48 < (l0.length : Int)) = true := decide_eq_true c4
   have c4b1 : decide (48 < l0.length) = true := decide_eq_true (by omega)
   clear c4
   (first | rw [c4b0] | (simp only [i64_w, i32_w]; rw [c4b0]) | skip)
   have H' := Aside0.mk H
   clear H
   go_wp2
   go_meet
   case rel => exact ⟨_, (true), (by first | rfl | (simp; done) | (simp [*]; done)), H', ⟨by first | omega | exact Nat.le_refl _⟩, ⟨by repeat (first | (with_reducible first | exact HB.out | apply below_alloc | apply pw_below_drewN | apply below_drew1) | exact HB.out)⟩⟩
  ·rw [if_neg c4] at H
   have c4b0 : decide (48 < (l0.length : Int)) = false := decide_eq_false c4
   have c4b1 : decide (48 < l0.length) = false := decide_eq_false (by omega)
   clear c4
   (first | rw [c4b0] | (simp only [i64_w, i32_w]; rw [c4b0]) | skip)
   by_cases c5 : a1 < (-100)
   ·rw [if_pos c5] at H
    have c5b0 : decide (a1 < (-100)) = true := decide_eq_true c5
    clear c5
    have H' := Aside0.mk H
    clear H
    go_wp2
    go_meet
    case rel => exact ⟨_, (true), (by first | rfl | (simp; done) | (simp [*]; done)), H', ⟨by first | omega | exact Nat.le_refl _⟩, ⟨by repeat (first | (with_reducible first | exact HB.out | apply below_alloc | apply pw_below_drewN | apply below_drew1) | exact HB.out)⟩⟩
   ·rw [if_neg c5] at H
    have c5b0 : decide (a1 < (-100)) = false := decide_eq_false c5
    clear c5
    have H' := Aside0.mk H
    clear H
    go_wp2
    go_meet
    case rel => exact ⟨_, (decide (a1 > 100)), (by first | rfl | (simp; done) | (simp [*]; done)), H', ⟨by first | omega | exact Nat.le_refl _⟩, ⟨by repeat (first | (with_reducible first | exact HB.out | apply below_alloc | apply pw_below_drewN | apply below_drew1) | exact HB.out)⟩⟩
 case rest =>
  clear HC3
  try clear c1
  try clear p2
  try clear c4
  try clear c4b0
  try clear c4b1
  try clear c5
  try clear c5b0
  obtain ⟨kq, x26_2, rfl, HA, HJ2, HB⟩ := hcut
  cases kq with
  | zero => exact absurd HA.out (by simp [timesynclaw23_IntervalTurned.j0])
  | succ kj2 =>
   have H := HA.out
   clear HA
   simp only [timesynclaw23_IntervalTurned.j0] at H
   by_cases c6 : x26_2 = true
   ·subst c6
    have H1 : ((timesynclaw23_awake.f kj2).bind fun t582 => (some t582)) = some r := by rw [if_pos rfl] at H; exact H
    clear H
    have H := H1
    clear H1
    replace H := Option.bind_eq_some_iff.mp H
    obtain ⟨t582, A70, H⟩ := H
    replace H : (some t582) = some r := H
    have A7 := Aside0.mk A70
    clear A70
    obtain rfl := Option.some.inj H
    go_wp2_with (first | ((with_reducible refine gate_callee (f := 35) rfl ?_); refine goesL_ (some 27) rfl rfl Try.func35 (by kernel_rfl) rfl #[] rfl (by (try simp only [List.map_toArray, List.map_cons, List.map_nil]); first | done | rfl | (simp only [List.length_drop, List.length_take]; rfl)) ?_; (with_reducible refine (timesynclaw23_awake.calls kj2  t582 _ A7.out).mono ?_); rintro e w8 ⟨rfl, hb⟩; refine ⟨_, rfl, ?_⟩; have n0_ := Aside0.mk (below_step (by repeat (first | (with_reducible first | exact HB.out | apply below_alloc | apply pw_below_drewN | apply below_drew1) | exact HB.out)) hb); clear HB; have HB := n0_; clear n0_; (try clear hb); (try clear hb2); (try clear hk); (try clear hi)))
    go_ret
    exact ⟨by first | rfl | (simp [errW_none, errW_some] <;> rfl) | (simp [*, errW_none, errW_some] <;> rfl), by repeat (first | (with_reducible first | exact HB.out | apply below_alloc | apply pw_below_drewN | apply below_drew1) | exact HB.out)⟩
   ·replace c6 := Bool.eq_false_iff.mpr c6
    subst c6
    have H1 : ((api_Interval_36.f l0).bind fun t583 => ((api_Interval_37.f t583).bind fun t586 => ((interval_Best.f kj2 l0).bind fun bt587 => ((interval_Best.f kj2 t586).bind fun bt591 => ((interval_Hull.f kj2 l0 a1).bind fun bt595 => ((interval_Hull.f kj2 t586 a1).bind fun bt599 => (if (!(bt587.1 == bt591.1) || (!(bt587.2.1 == bt591.2.1))) = true then (timesynclaw23_IntervalTurned.j1 kj2 l0 a1 bt595.2.2 true bt595.1 bt595.2.1) else (if bt587.2.2 = bt591.2.2 then (if (!(bt595.1 == bt599.1) || (!(bt595.2.1 == bt599.2.1))) = true then (timesynclaw23_IntervalTurned.j1 kj2 l0 a1 bt595.2.2 true bt595.1 bt595.2.1) else (if (bt595.2.2 != bt599.2.2) = true then (timesynclaw23_IntervalTurned.j1 kj2 l0 a1 bt595.2.2 true bt595.1 bt595.2.1) else ((interval_Edges.f kj2 l0).bind fun t603 => ((interval_Edges.f kj2 t586).bind fun t606 => ((slices_Equal_int_int.f kj2 t603 t606).bind fun t609 => (timesynclaw23_IntervalTurned.j1 kj2 l0 a1 bt595.2.2 (!t609) bt595.1 bt595.2.1)))))) else (timesynclaw23_IntervalTurned.j1 kj2 l0 a1 bt595.2.2 true bt595.1 bt595.2.1))))))))) = some r := by rw [if_neg (show ¬ (false = true) by decide)] at H; exact H
    clear H
    have H := H1
    clear H1
    replace H := Option.bind_eq_some_iff.mp H
    obtain ⟨t583, A90, H⟩ := H
    replace H : ((api_Interval_37.f t583).bind fun t586 => ((interval_Best.f kj2 l0).bind fun bt587 => ((interval_Best.f kj2 t586).bind fun bt591 => ((interval_Hull.f kj2 l0 a1).bind fun bt595 => ((interval_Hull.f kj2 t586 a1).bind fun bt599 => (if (!(bt587.1 == bt591.1) || (!(bt587.2.1 == bt591.2.1))) = true then (timesynclaw23_IntervalTurned.j1 kj2 l0 a1 bt595.2.2 true bt595.1 bt595.2.1) else (if bt587.2.2 = bt591.2.2 then (if (!(bt595.1 == bt599.1) || (!(bt595.2.1 == bt599.2.1))) = true then (timesynclaw23_IntervalTurned.j1 kj2 l0 a1 bt595.2.2 true bt595.1 bt595.2.1) else (if (bt595.2.2 != bt599.2.2) = true then (timesynclaw23_IntervalTurned.j1 kj2 l0 a1 bt595.2.2 true bt595.1 bt595.2.1) else ((interval_Edges.f kj2 l0).bind fun t603 => ((interval_Edges.f kj2 t586).bind fun t606 => ((slices_Equal_int_int.f kj2 t603 t606).bind fun t609 => (timesynclaw23_IntervalTurned.j1 kj2 l0 a1 bt595.2.2 (!t609) bt595.1 bt595.2.1)))))) else (timesynclaw23_IntervalTurned.j1 kj2 l0 a1 bt595.2.2 true bt595.1 bt595.2.1)))))))) = some r := H
    have A9 := Aside0.mk A90
    clear A90
    replace H := Option.bind_eq_some_iff.mp H
    obtain ⟨t586, A100, H⟩ := H
    replace H : ((interval_Best.f kj2 l0).bind fun bt587 => ((interval_Best.f kj2 t586).bind fun bt591 => ((interval_Hull.f kj2 l0 a1).bind fun bt595 => ((interval_Hull.f kj2 t586 a1).bind fun bt599 => (if (!(bt587.1 == bt591.1) || (!(bt587.2.1 == bt591.2.1))) = true then (timesynclaw23_IntervalTurned.j1 kj2 l0 a1 bt595.2.2 true bt595.1 bt595.2.1) else (if bt587.2.2 = bt591.2.2 then (if (!(bt595.1 == bt599.1) || (!(bt595.2.1 == bt599.2.1))) = true then (timesynclaw23_IntervalTurned.j1 kj2 l0 a1 bt595.2.2 true bt595.1 bt595.2.1) else (if (bt595.2.2 != bt599.2.2) = true then (timesynclaw23_IntervalTurned.j1 kj2 l0 a1 bt595.2.2 true bt595.1 bt595.2.1) else ((interval_Edges.f kj2 l0).bind fun t603 => ((interval_Edges.f kj2 t586).bind fun t606 => ((slices_Equal_int_int.f kj2 t603 t606).bind fun t609 => (timesynclaw23_IntervalTurned.j1 kj2 l0 a1 bt595.2.2 (!t609) bt595.1 bt595.2.1)))))) else (timesynclaw23_IntervalTurned.j1 kj2 l0 a1 bt595.2.2 true bt595.1 bt595.2.1))))))) = some r := H
    have A10 := Aside0.mk A100
    clear A100
    replace H := Option.bind_eq_some_iff.mp H
    obtain ⟨⟨t587, t588, t589⟩, A110, H⟩ := H
    replace H : ((interval_Best.f kj2 t586).bind fun bt591 => ((interval_Hull.f kj2 l0 a1).bind fun bt595 => ((interval_Hull.f kj2 t586 a1).bind fun bt599 => (if (!(t587 == bt591.1) || (!(t588 == bt591.2.1))) = true then (timesynclaw23_IntervalTurned.j1 kj2 l0 a1 bt595.2.2 true bt595.1 bt595.2.1) else (if t589 = bt591.2.2 then (if (!(bt595.1 == bt599.1) || (!(bt595.2.1 == bt599.2.1))) = true then (timesynclaw23_IntervalTurned.j1 kj2 l0 a1 bt595.2.2 true bt595.1 bt595.2.1) else (if (bt595.2.2 != bt599.2.2) = true then (timesynclaw23_IntervalTurned.j1 kj2 l0 a1 bt595.2.2 true bt595.1 bt595.2.1) else ((interval_Edges.f kj2 l0).bind fun t603 => ((interval_Edges.f kj2 t586).bind fun t606 => ((slices_Equal_int_int.f kj2 t603 t606).bind fun t609 => (timesynclaw23_IntervalTurned.j1 kj2 l0 a1 bt595.2.2 (!t609) bt595.1 bt595.2.1)))))) else (timesynclaw23_IntervalTurned.j1 kj2 l0 a1 bt595.2.2 true bt595.1 bt595.2.1)))))) = some r := H
    have A11 := Aside0.mk A110
    clear A110
    replace H := Option.bind_eq_some_iff.mp H
    obtain ⟨⟨t591, t592, t593⟩, A120, H⟩ := H
    replace H : ((interval_Hull.f kj2 l0 a1).bind fun bt595 => ((interval_Hull.f kj2 t586 a1).bind fun bt599 => (if (!(t587 == t591) || (!(t588 == t592))) = true then (timesynclaw23_IntervalTurned.j1 kj2 l0 a1 bt595.2.2 true bt595.1 bt595.2.1) else (if t589 = t593 then (if (!(bt595.1 == bt599.1) || (!(bt595.2.1 == bt599.2.1))) = true then (timesynclaw23_IntervalTurned.j1 kj2 l0 a1 bt595.2.2 true bt595.1 bt595.2.1) else (if (bt595.2.2 != bt599.2.2) = true then (timesynclaw23_IntervalTurned.j1 kj2 l0 a1 bt595.2.2 true bt595.1 bt595.2.1) else ((interval_Edges.f kj2 l0).bind fun t603 => ((interval_Edges.f kj2 t586).bind fun t606 => ((slices_Equal_int_int.f kj2 t603 t606).bind fun t609 => (timesynclaw23_IntervalTurned.j1 kj2 l0 a1 bt595.2.2 (!t609) bt595.1 bt595.2.1)))))) else (timesynclaw23_IntervalTurned.j1 kj2 l0 a1 bt595.2.2 true bt595.1 bt595.2.1))))) = some r := H
    have A12 := Aside0.mk A120
    clear A120
    replace H := Option.bind_eq_some_iff.mp H
    obtain ⟨⟨t595, t596, t597⟩, A130, H⟩ := H
    replace H : ((interval_Hull.f kj2 t586 a1).bind fun bt599 => (if (!(t587 == t591) || (!(t588 == t592))) = true then (timesynclaw23_IntervalTurned.j1 kj2 l0 a1 t597 true t595 t596) else (if t589 = t593 then (if (!(t595 == bt599.1) || (!(t596 == bt599.2.1))) = true then (timesynclaw23_IntervalTurned.j1 kj2 l0 a1 t597 true t595 t596) else (if (t597 != bt599.2.2) = true then (timesynclaw23_IntervalTurned.j1 kj2 l0 a1 t597 true t595 t596) else ((interval_Edges.f kj2 l0).bind fun t603 => ((interval_Edges.f kj2 t586).bind fun t606 => ((slices_Equal_int_int.f kj2 t603 t606).bind fun t609 => (timesynclaw23_IntervalTurned.j1 kj2 l0 a1 t597 (!t609) t595 t596)))))) else (timesynclaw23_IntervalTurned.j1 kj2 l0 a1 t597 true t595 t596)))) = some r := H
    have A13 := Aside0.mk A130
    clear A130
    replace H := Option.bind_eq_some_iff.mp H
    obtain ⟨⟨t599, t600, t601⟩, A140, H⟩ := H
    replace H : (if (!(t587 == t591) || (!(t588 == t592))) = true then (timesynclaw23_IntervalTurned.j1 kj2 l0 a1 t597 true t595 t596) else (if t589 = t593 then (if (!(t595 == t599) || (!(t596 == t600))) = true then (timesynclaw23_IntervalTurned.j1 kj2 l0 a1 t597 true t595 t596) else (if (t597 != t601) = true then (timesynclaw23_IntervalTurned.j1 kj2 l0 a1 t597 true t595 t596) else ((interval_Edges.f kj2 l0).bind fun t603 => ((interval_Edges.f kj2 t586).bind fun t606 => ((slices_Equal_int_int.f kj2 t603 t606).bind fun t609 => (timesynclaw23_IntervalTurned.j1 kj2 l0 a1 t597 (!t609) t595 t596)))))) else (timesynclaw23_IntervalTurned.j1 kj2 l0 a1 t597 true t595 t596))) = some r := H
    have A14 := Aside0.mk A140
    clear A140
    have HC15 := Aside0.mk H
    clear H
    go_upto_region 9 with (first | ((with_reducible refine gate_callee (f := 36) rfl ?_); refine goesL_ (some 29) rfl rfl Try.func36 (by kernel_rfl) rfl #[.slice A0 l0.length c0] rfl (by (try simp only [List.map_toArray, List.map_cons, List.map_nil]); first | done | rfl | (simp only [List.length_drop, List.length_take]; rfl)) ?_; (with_reducible refine (api_Interval_36.calls _ _ l0 t583 _ ?side1 ?side2 A9.out).mono ?_); (case side1 => repeat (first | exact (Kd.C_below HR0.out HB.out) | (with_reducible refine Kd.C_alloc ?_ _) | (with_reducible refine Kd.C_drewN ?_ _) | (with_reducible refine Kd.C_drew ?_))); (case side2 => exact HC0.out); rintro e w16 ⟨v584, rfl, ho0, hb⟩; refine ⟨_, rfl, ?_⟩; have n0_ := Aside0.mk (Kd.R_lower ho0 (below_size (by repeat (first | (with_reducible first | exact HB.out | apply below_alloc | apply pw_below_drewN | apply below_drew1) | exact HB.out)))); have n1_ := Aside0.mk (below_step (by repeat (first | (with_reducible first | exact HB.out | apply below_alloc | apply pw_below_drewN | apply below_drew1) | exact HB.out)) hb); clear HB; have HO585 := n0_; have HB := n1_; clear n0_ n1_; (try clear hb); (try clear hb2); (try clear hk); (try clear hi); (try clear ho0); obtain ⟨Ao17, co17, eo17⟩ := Kd.R_slice HO585.out; subst eo17) | ((with_reducible refine gate_callee (f := 37) rfl ?_); refine goesL_ (some 31) rfl rfl Try.func37 (by kernel_rfl) rfl #[.slice Ao17 t583.length co17] rfl (by (try simp only [List.map_toArray, List.map_cons, List.map_nil]); first | done | rfl | (simp only [List.length_drop, List.length_take]; rfl)) ?_; (with_reducible refine (api_Interval_37.calls (fun k_ => some k_ = (.slice Ao17 t583.length co17 : Value).ownBlock) (.slice Ao17 t583.length co17) t583 t586 w _ ?side1 ?side2 A10.out).mono ?_); (case side1 => repeat (first | (with_reducible first | exact HB.out | apply below_alloc | apply pw_below_drewN | apply below_drew1) | exact HB.out)); (case side2 => exact Kd.R_tight rfl HO585.out); rintro e w18 ⟨rfl, hy0, hb, hkp⟩; refine ⟨_, rfl, ?_⟩; have n0_ := Aside0.mk (Kd.R_reok rfl hy0 (fun k_ e_ => HO585.out.1 k_ e_)); have n1_ := Aside0.mk (hb); clear HO585; clear HB; have HO585 := n0_; have HB := n1_; clear n0_ n1_; (try clear hb); (try clear hkp); (try clear hy0)) | ((with_reducible refine gate_callee (f := 38) rfl ?_); refine goesL_ (some 34) rfl rfl Try.func38 (by kernel_rfl) rfl #[.slice A0 l0.length c0] rfl (by (try simp only [List.map_toArray, List.map_cons, List.map_nil]); first | done | rfl | (simp only [List.length_drop, List.length_take]; rfl)) ?_; (with_reducible refine (interval_Best.calls kj2 _ _ l0 t587 t588 t589 _ ?side1 ?side2 A11.out).mono ?_); (case side1 => repeat (first | exact (Kd.C_below HR0.out HB.out) | (with_reducible refine Kd.C_alloc ?_ _) | (with_reducible refine Kd.C_drewN ?_ _) | (with_reducible refine Kd.C_drew ?_))); (case side2 => exact HC0.out); rintro e w19 ⟨rfl, hb⟩; refine ⟨_, rfl, ?_⟩; have n0_ := Aside0.mk (Kd.R_below (by (with_reducible repeat (first | apply Kd.R_alloc | apply Kd.R_drewN | apply Kd.R_drew)); exact HO585.out) hb); have n1_ := Aside0.mk (below_step (by repeat (first | (with_reducible first | exact HB.out | apply below_alloc | apply pw_below_drewN | apply below_drew1) | exact HB.out)) hb); clear HO585; clear HB; have HO585 := n0_; have HB := n1_; clear n0_ n1_; (try clear hb); (try clear hb2); (try clear hk); (try clear hi)) | ((with_reducible refine gate_dst (N := 6) rfl ?_); refine box_event ?hg (N := 6) ?hd (cs := #[.int .i64 0, .int .i64 0]) (t := 29) ?hr ?_; (case hd => rfl); (case hg => rfl); (case hr => first | (go_simp; done) | (go_simp; rfl)); intro gb590 hg w20 hbox hb; have n0_ := Aside0.mk (Kd.R_below (Kd.R_elderB (by (with_reducible repeat (first | apply Kd.R_alloc | apply Kd.R_drewN | apply Kd.R_drew)); exact HO585.out) gb590 (Nat.le_of_eq hg.symm)) hb); have n1_ := Aside0.mk (below_step (by repeat (first | (with_reducible first | exact HB.out | apply below_alloc | apply pw_below_drewN | apply below_drew1) | exact HB.out)) hb); have n2_ := Aside0.mk (hbox); have n3_ := Aside0.mk ((by rw [hg]; exact (below_size (by repeat (first | (with_reducible first | exact HB.out | apply below_alloc | apply pw_below_drewN | apply below_drew1) | exact HB.out))) : w.heap.size ≤ gb590)); have n4_ := Aside0.mk ((by rw [hg]; exact (below_size (by repeat (first | (with_reducible first | exact HB.out | apply below_alloc | apply pw_below_drewN | apply below_drew1) | exact HB.out))) : w.heap.size ≤ gb590)); clear HO585; clear HB; have HO585 := n0_; have HB := n1_; have BK590 := n2_; have GW590 := n3_; have GE590 := n4_; clear n0_ n1_ n2_ n3_ n4_; clear hb hbox hg; have hcz21_0 : w20.cell? ⟨gb590, 0, none⟩ = some (.int .i64 0) := (blk_cell BK590.out 0).trans rfl; have hcz21_1 : w20.cell? ⟨gb590, 1, none⟩ = some (.int .i64 0) := (blk_cell BK590.out 1).trans rfl; have hfz21_0 := blk_frozen BK590.out 0; have hfz21_1 := blk_frozen BK590.out 1) | ((with_reducible refine gate_callee (f := 38) rfl ?_); refine goesL_ (some 39) rfl rfl Try.func38 (by kernel_rfl) rfl #[.slice Ao17 t586.length co17] rfl (by (try simp only [List.map_toArray, List.map_cons, List.map_nil]); first | done | (rw [show t586.length = t583.length from (Kd.R_reads' HO585.out).1.symm] <;> rfl) | rfl | (simp only [List.length_drop, List.length_take]; rfl)) ?_; (with_reducible refine (interval_Best.calls kj2 _ _ t586 t591 t592 t593 _ ?side1 ?side2 A12.out).mono ?_); (case side1 => refine (Kd.R_reads' (e := 29) (base := w.heap.size) (ok := fun k_ => (True ∧ k_ ≠ gb590)) (n := t583.length) (c := co17) ?_).2.2; exact (by (with_reducible repeat (first | apply Kd.R_alloc | apply Kd.R_drewN | apply Kd.R_drew)); exact (Kd.R_mono (Kd.R_far (p := ⟨gb590, 1, none⟩) (Kd.R_far (p := ⟨gb590, 0, none⟩) (Kd.R_mono HO585.out (fun k_ hk => (⟨hk, hk.2⟩ : _ ∧ k_ ≠ gb590))) (fun _ hk => hk.2) (.int .i64 t587)) (fun _ hk => hk.2) (.int .i64 t588)) (fun _ h_ => h_.1)))); (case side2 => rw [show t586.length = t583.length from (Kd.R_reads' HO585.out).1.symm]; exact (Kd.R_reads' HO585.out).2.1); rintro e w22 ⟨rfl, hb⟩; refine ⟨_, rfl, ?_⟩; have n0_ := Aside0.mk (Kd.R_below (by (with_reducible repeat (first | apply Kd.R_alloc | apply Kd.R_drewN | apply Kd.R_drew)); exact (Kd.R_mono (Kd.R_far (p := ⟨gb590, 1, none⟩) (Kd.R_far (p := ⟨gb590, 0, none⟩) (Kd.R_mono HO585.out (fun k_ hk => (⟨hk, hk.2⟩ : _ ∧ k_ ≠ gb590))) (fun _ hk => hk.2) (.int .i64 t587)) (fun _ hk => hk.2) (.int .i64 t588)) (fun _ h_ => h_.1))) hb); have n1_ := Aside0.mk (blk_below (g := gb590) (o := .cells #[.int .i64 t587, .int .i64 t588] 29 (0, 0)) (by (with_reducible repeat (first | refine blk_drewN ?_ _ | refine blk_drew ?_ | refine blk_alloc ?_ _)); refine blk_put (cs := #[.int .i64 t587, .int .i64 0]) ?_ 1 _ rfl; (with_reducible repeat (first | refine blk_drewN ?_ _ | refine blk_drew ?_ | refine blk_alloc ?_ _)); refine blk_put (cs := #[.int .i64 0, .int .i64 0]) ?_ 0 _ rfl; (with_reducible repeat (first | refine blk_drewN ?_ _ | refine blk_drew ?_ | refine blk_alloc ?_ _)); exact BK590.out) hb); have n2_ := Aside0.mk (below_step (by repeat (first | (with_reducible first | exact HB.out | apply below_alloc | apply pw_below_drewN | apply below_drew1 | refine below_set ?_ GE590.out) | exact HB.out)) hb); clear HO585; clear BK590; clear HB; have HO585 := n0_; have BK590 := n1_; have HB := n2_; clear n0_ n1_ n2_; (try clear hb); (try clear hb2); (try clear hk); (try clear hi)) | ((with_reducible refine gate_dst (N := 8) rfl ?_); refine box_event ?hg (N := 8) ?hd (cs := #[.int .i64 0, .int .i64 0]) (t := 29) ?hr ?_; (case hd => rfl); (case hg => rfl); (case hr => first | (go_simp; done) | (go_simp; rfl)); intro gb594 hg w23 hbox hb; have n0_ := Aside0.mk (Kd.R_below (Kd.R_elderB (by (with_reducible repeat (first | apply Kd.R_alloc | apply Kd.R_drewN | apply Kd.R_drew)); exact HO585.out) gb594 (Nat.le_of_eq hg.symm)) hb); have n1_ := Aside0.mk (blk_below (g := gb590) (o := .cells #[.int .i64 t587, .int .i64 t588] 29 (0, 0)) (by (with_reducible repeat (first | refine blk_drewN ?_ _ | refine blk_drew ?_ | refine blk_alloc ?_ _)); exact BK590.out) hb); have n2_ := Aside0.mk (below_step (by repeat (first | (with_reducible first | exact HB.out | apply below_alloc | apply pw_below_drewN | apply below_drew1 | refine below_set ?_ GE590.out) | exact HB.out)) hb); have n3_ := Aside0.mk (hbox); have n4_ := Aside0.mk ((by rw [hg]; exact (below_size (by repeat (first | (with_reducible first | exact HB.out | apply below_alloc | apply pw_below_drewN | apply below_drew1 | refine below_set ?_ GE590.out) | exact HB.out))) : w.heap.size ≤ gb594)); have n5_ := Aside0.mk ((by rw [hg]; exact (below_size (by repeat (first | (with_reducible first | exact HB.out | apply below_alloc | apply pw_below_drewN | apply below_drew1 | refine below_set ?_ GE590.out) | exact HB.out))) : w.heap.size ≤ gb594)); have n6_ := Aside0.mk ((by rw [hg]; exact Nat.ne_of_lt (blk_lt (g := gb590) (o := .cells #[.int .i64 t587, .int .i64 t588] 29 (0, 0)) (by (with_reducible repeat (first | refine blk_drewN ?_ _ | refine blk_drew ?_ | refine blk_alloc ?_ _)); exact BK590.out)) : gb590 ≠ gb594)); have n7_ := Aside0.mk ((by rw [hg]; exact Nat.ne_of_gt (blk_lt (g := gb590) (o := .cells #[.int .i64 t587, .int .i64 t588] 29 (0, 0)) (by (with_reducible repeat (first | refine blk_drewN ?_ _ | refine blk_drew ?_ | refine blk_alloc ?_ _)); exact BK590.out)) : gb594 ≠ gb590)); clear HO585; clear BK590; clear HB; have HO585 := n0_; have BK590 := n1_; have HB := n2_; have BK594 := n3_; have GW594 := n4_; have GE594 := n5_; have NB590_594 := n6_; have NB594_590 := n7_; clear n0_ n1_ n2_ n3_ n4_ n5_ n6_ n7_; clear hb hbox hg; have hnb24 := NB594_590.out; have hnc24 := NB590_594.out; have hcz25_0 : w23.cell? ⟨gb594, 0, none⟩ = some (.int .i64 0) := (blk_cell BK594.out 0).trans rfl; have hcz25_1 : w23.cell? ⟨gb594, 1, none⟩ = some (.int .i64 0) := (blk_cell BK594.out 1).trans rfl; have hfz25_0 := blk_frozen BK594.out 0; have hfz25_1 := blk_frozen BK594.out 1) | ((with_reducible refine gate_callee (f := 39) rfl ?_); refine goesL_ (some 45) rfl rfl Try.func39 (by kernel_rfl) rfl #[.slice A0 l0.length c0, .int .i64 a1] rfl (by (try simp only [List.map_toArray, List.map_cons, List.map_nil]); first | done | rfl | (simp only [List.length_drop, List.length_take]; rfl)) ?_; (with_reducible refine (interval_Hull.calls kj2 _ _ l0 a1 t595 t596 t597 _ ?side1 ?side2 A13.out).mono ?_); (case side1 => exact Kd.C_below HR0.out (by repeat (first | (with_reducible first | exact HB.out | apply below_alloc | apply pw_below_drewN | apply below_drew1 | refine below_set ?_ GE590.out | refine below_set ?_ GE594.out) | exact HB.out))); (case side2 => exact HC0.out); rintro e w26 ⟨rfl, hb⟩; refine ⟨_, rfl, ?_⟩; have n0_ := Aside0.mk (Kd.R_below (by (with_reducible repeat (first | apply Kd.R_alloc | apply Kd.R_drewN | apply Kd.R_drew)); exact (Kd.R_mono (Kd.R_far (p := ⟨gb594, 1, none⟩) (Kd.R_far (p := ⟨gb594, 0, none⟩) (Kd.R_mono HO585.out (fun k_ hk => (⟨hk, hk.2⟩ : _ ∧ k_ ≠ gb594))) (fun _ hk => hk.2) (.int .i64 t591)) (fun _ hk => hk.2) (.int .i64 t592)) (fun _ h_ => h_.1))) hb); have n1_ := Aside0.mk (blk_below (g := gb590) (o := .cells #[.int .i64 t587, .int .i64 t588] 29 (0, 0)) (by (with_reducible repeat (first | refine blk_drewN ?_ _ | refine blk_drew ?_ | refine blk_alloc ?_ _)); refine blk_far ?_ NB590_594.out _; (with_reducible repeat (first | refine blk_drewN ?_ _ | refine blk_drew ?_ | refine blk_alloc ?_ _)); refine blk_far ?_ NB590_594.out _; (with_reducible repeat (first | refine blk_drewN ?_ _ | refine blk_drew ?_ | refine blk_alloc ?_ _)); exact BK590.out) hb); have n2_ := Aside0.mk (blk_below (g := gb594) (o := .cells #[.int .i64 t591, .int .i64 t592] 29 (0, 0)) (by (with_reducible repeat (first | refine blk_drewN ?_ _ | refine blk_drew ?_ | refine blk_alloc ?_ _)); refine blk_put (cs := #[.int .i64 t591, .int .i64 0]) ?_ 1 _ rfl; (with_reducible repeat (first | refine blk_drewN ?_ _ | refine blk_drew ?_ | refine blk_alloc ?_ _)); refine blk_put (cs := #[.int .i64 0, .int .i64 0]) ?_ 0 _ rfl; (with_reducible repeat (first | refine blk_drewN ?_ _ | refine blk_drew ?_ | refine blk_alloc ?_ _)); exact BK594.out) hb); have n3_ := Aside0.mk (below_step (by repeat (first | (with_reducible first | exact HB.out | apply below_alloc | apply pw_below_drewN | apply below_drew1 | refine below_set ?_ GE590.out | refine below_set ?_ GE594.out) | exact HB.out)) hb); clear HO585; clear BK590; clear BK594; clear HB; have HO585 := n0_; have BK590 := n1_; have BK594 := n2_; have HB := n3_; clear n0_ n1_ n2_ n3_; (try clear hb); (try clear hb2); (try clear hk); (try clear hi)) | ((with_reducible refine gate_dst (N := 10) rfl ?_); refine box_event ?hg (N := 10) ?hd (cs := #[.int .i64 0, .int .i64 0]) (t := 29) ?hr ?_; (case hd => rfl); (case hg => rfl); (case hr => first | (go_simp; done) | (go_simp; rfl)); intro gb598 hg w27 hbox hb; have n0_ := Aside0.mk (Kd.R_below (Kd.R_elderB (by (with_reducible repeat (first | apply Kd.R_alloc | apply Kd.R_drewN | apply Kd.R_drew)); exact HO585.out) gb598 (Nat.le_of_eq hg.symm)) hb); have n1_ := Aside0.mk (blk_below (g := gb590) (o := .cells #[.int .i64 t587, .int .i64 t588] 29 (0, 0)) (by (with_reducible repeat (first | refine blk_drewN ?_ _ | refine blk_drew ?_ | refine blk_alloc ?_ _)); exact BK590.out) hb); have n2_ := Aside0.mk (blk_below (g := gb594) (o := .cells #[.int .i64 t591, .int .i64 t592] 29 (0, 0)) (by (with_reducible repeat (first | refine blk_drewN ?_ _ | refine blk_drew ?_ | refine blk_alloc ?_ _)); exact BK594.out) hb); have n3_ := Aside0.mk (below_step (by repeat (first | (with_reducible first | exact HB.out | apply below_alloc | apply pw_below_drewN | apply below_drew1 | refine below_set ?_ GE590.out | refine below_set ?_ GE594.out) | exact HB.out)) hb); have n4_ := Aside0.mk (hbox); have n5_ := Aside0.mk ((by rw [hg]; exact (below_size (by repeat (first | (with_reducible first | exact HB.out | apply below_alloc | apply pw_below_drewN | apply below_drew1 | refine below_set ?_ GE590.out | refine below_set ?_ GE594.out) | exact HB.out))) : w.heap.size ≤ gb598)); have n6_ := Aside0.mk ((by rw [hg]; exact (below_size (by repeat (first | (with_reducible first | exact HB.out | apply below_alloc | apply pw_below_drewN | apply below_drew1 | refine below_set ?_ GE590.out | refine below_set ?_ GE594.out) | exact HB.out))) : w.heap.size ≤ gb598)); have n7_ := Aside0.mk ((by rw [hg]; exact Nat.ne_of_lt (blk_lt (g := gb590) (o := .cells #[.int .i64 t587, .int .i64 t588] 29 (0, 0)) (by (with_reducible repeat (first | refine blk_drewN ?_ _ | refine blk_drew ?_ | refine blk_alloc ?_ _)); exact BK590.out)) : gb590 ≠ gb598)); have n8_ := Aside0.mk ((by rw [hg]; exact Nat.ne_of_gt (blk_lt (g := gb590) (o := .cells #[.int .i64 t587, .int .i64 t588] 29 (0, 0)) (by (with_reducible repeat (first | refine blk_drewN ?_ _ | refine blk_drew ?_ | refine blk_alloc ?_ _)); exact BK590.out)) : gb598 ≠ gb590)); have n9_ := Aside0.mk ((by rw [hg]; exact Nat.ne_of_lt (blk_lt (g := gb594) (o := .cells #[.int .i64 t591, .int .i64 t592] 29 (0, 0)) (by (with_reducible repeat (first | refine blk_drewN ?_ _ | refine blk_drew ?_ | refine blk_alloc ?_ _)); exact BK594.out)) : gb594 ≠ gb598)); have n10_ := Aside0.mk ((by rw [hg]; exact Nat.ne_of_gt (blk_lt (g := gb594) (o := .cells #[.int .i64 t591, .int .i64 t592] 29 (0, 0)) (by (with_reducible repeat (first | refine blk_drewN ?_ _ | refine blk_drew ?_ | refine blk_alloc ?_ _)); exact BK594.out)) : gb598 ≠ gb594)); clear HO585; clear BK590; clear BK594; clear HB; have HO585 := n0_; have BK590 := n1_; have BK594 := n2_; have HB := n3_; have BK598 := n4_; have GW598 := n5_; have GE598 := n6_; have NB590_598 := n7_; have NB598_590 := n8_; have NB594_598 := n9_; have NB598_594 := n10_; clear n0_ n1_ n2_ n3_ n4_ n5_ n6_ n7_ n8_ n9_ n10_; clear hb hbox hg; have hnb28 := NB598_590.out; have hnc28 := NB590_598.out; have hnb29 := NB598_594.out; have hnc29 := NB594_598.out; have hcz30_0 : w27.cell? ⟨gb598, 0, none⟩ = some (.int .i64 0) := (blk_cell BK598.out 0).trans rfl; have hcz30_1 : w27.cell? ⟨gb598, 1, none⟩ = some (.int .i64 0) := (blk_cell BK598.out 1).trans rfl; have hfz30_0 := blk_frozen BK598.out 0; have hfz30_1 := blk_frozen BK598.out 1) | ((with_reducible refine gate_callee (f := 39) rfl ?_); refine goesL_ (some 51) rfl rfl Try.func39 (by kernel_rfl) rfl #[.slice Ao17 t586.length co17, .int .i64 a1] rfl (by (try simp only [List.map_toArray, List.map_cons, List.map_nil]); first | done | (rw [show t586.length = t583.length from (Kd.R_reads' HO585.out).1.symm] <;> rfl) | rfl | (simp only [List.length_drop, List.length_take]; rfl)) ?_; (with_reducible refine (interval_Hull.calls kj2 _ _ t586 a1 t599 t600 t601 _ ?side1 ?side2 A14.out).mono ?_); (case side1 => refine (Kd.R_reads' (e := 29) (base := w.heap.size) (ok := fun k_ => (((True ∧ k_ ≠ gb590) ∧ k_ ≠ gb594) ∧ k_ ≠ gb598)) (n := t583.length) (c := co17) ?_).2.2; exact (by (with_reducible repeat (first | apply Kd.R_alloc | apply Kd.R_drewN | apply Kd.R_drew)); exact (Kd.R_mono (Kd.R_far (p := ⟨gb598, 1, none⟩) (Kd.R_far (p := ⟨gb598, 0, none⟩) (Kd.R_mono HO585.out (fun k_ hk => (⟨hk, hk.2⟩ : _ ∧ k_ ≠ gb598))) (fun _ hk => hk.2) (.int .i64 t595)) (fun _ hk => hk.2) (.int .i64 t596)) (fun _ h_ => h_.1)))); (case side2 => rw [show t586.length = t583.length from (Kd.R_reads' HO585.out).1.symm]; exact (Kd.R_reads' HO585.out).2.1); rintro e w31 ⟨rfl, hb⟩; refine ⟨_, rfl, ?_⟩; have n0_ := Aside0.mk (Kd.R_below (by (with_reducible repeat (first | apply Kd.R_alloc | apply Kd.R_drewN | apply Kd.R_drew)); exact (Kd.R_mono (Kd.R_far (p := ⟨gb598, 1, none⟩) (Kd.R_far (p := ⟨gb598, 0, none⟩) (Kd.R_mono HO585.out (fun k_ hk => (⟨hk, hk.2⟩ : _ ∧ k_ ≠ gb598))) (fun _ hk => hk.2) (.int .i64 t595)) (fun _ hk => hk.2) (.int .i64 t596)) (fun _ h_ => h_.1))) hb); have n1_ := Aside0.mk (blk_below (g := gb590) (o := .cells #[.int .i64 t587, .int .i64 t588] 29 (0, 0)) (by (with_reducible repeat (first | refine blk_drewN ?_ _ | refine blk_drew ?_ | refine blk_alloc ?_ _)); refine blk_far ?_ NB590_598.out _; (with_reducible repeat (first | refine blk_drewN ?_ _ | refine blk_drew ?_ | refine blk_alloc ?_ _)); refine blk_far ?_ NB590_598.out _; (with_reducible repeat (first | refine blk_drewN ?_ _ | refine blk_drew ?_ | refine blk_alloc ?_ _)); exact BK590.out) hb); have n2_ := Aside0.mk (blk_below (g := gb594) (o := .cells #[.int .i64 t591, .int .i64 t592] 29 (0, 0)) (by (with_reducible repeat (first | refine blk_drewN ?_ _ | refine blk_drew ?_ | refine blk_alloc ?_ _)); refine blk_far ?_ NB594_598.out _; (with_reducible repeat (first | refine blk_drewN ?_ _ | refine blk_drew ?_ | refine blk_alloc ?_ _)); refine blk_far ?_ NB594_598.out _; (with_reducible repeat (first | refine blk_drewN ?_ _ | refine blk_drew ?_ | refine blk_alloc ?_ _)); exact BK594.out) hb); have n3_ := Aside0.mk (blk_below (g := gb598) (o := .cells #[.int .i64 t595, .int .i64 t596] 29 (0, 0)) (by (with_reducible repeat (first | refine blk_drewN ?_ _ | refine blk_drew ?_ | refine blk_alloc ?_ _)); refine blk_put (cs := #[.int .i64 t595, .int .i64 0]) ?_ 1 _ rfl; (with_reducible repeat (first | refine blk_drewN ?_ _ | refine blk_drew ?_ | refine blk_alloc ?_ _)); refine blk_put (cs := #[.int .i64 0, .int .i64 0]) ?_ 0 _ rfl; (with_reducible repeat (first | refine blk_drewN ?_ _ | refine blk_drew ?_ | refine blk_alloc ?_ _)); exact BK598.out) hb); have n4_ := Aside0.mk (below_step (by repeat (first | (with_reducible first | exact HB.out | apply below_alloc | apply pw_below_drewN | apply below_drew1 | refine below_set ?_ GE590.out | refine below_set ?_ GE594.out | refine below_set ?_ GE598.out) | exact HB.out)) hb); clear HO585; clear BK590; clear BK594; clear BK598; clear HB; have HO585 := n0_; have BK590 := n1_; have BK594 := n2_; have BK598 := n3_; have HB := n4_; clear n0_ n1_ n2_ n3_ n4_; (try clear hb); (try clear hb2); (try clear hk); (try clear hi)) | ((with_reducible refine gate_dst (N := 12) rfl ?_); refine box_event ?hg (N := 12) ?hd (cs := #[.int .i64 0, .int .i64 0]) (t := 29) ?hr ?_; (case hd => rfl); (case hg => rfl); (case hr => first | (go_simp; done) | (go_simp; rfl)); intro gb602 hg w32 hbox hb; have n0_ := Aside0.mk (Kd.R_below (Kd.R_elderB (by (with_reducible repeat (first | apply Kd.R_alloc | apply Kd.R_drewN | apply Kd.R_drew)); exact HO585.out) gb602 (Nat.le_of_eq hg.symm)) hb); have n1_ := Aside0.mk (blk_below (g := gb590) (o := .cells #[.int .i64 t587, .int .i64 t588] 29 (0, 0)) (by (with_reducible repeat (first | refine blk_drewN ?_ _ | refine blk_drew ?_ | refine blk_alloc ?_ _)); exact BK590.out) hb); have n2_ := Aside0.mk (blk_below (g := gb594) (o := .cells #[.int .i64 t591, .int .i64 t592] 29 (0, 0)) (by (with_reducible repeat (first | refine blk_drewN ?_ _ | refine blk_drew ?_ | refine blk_alloc ?_ _)); exact BK594.out) hb); have n3_ := Aside0.mk (blk_below (g := gb598) (o := .cells #[.int .i64 t595, .int .i64 t596] 29 (0, 0)) (by (with_reducible repeat (first | refine blk_drewN ?_ _ | refine blk_drew ?_ | refine blk_alloc ?_ _)); exact BK598.out) hb); have n4_ := Aside0.mk (below_step (by repeat (first | (with_reducible first | exact HB.out | apply below_alloc | apply pw_below_drewN | apply below_drew1 | refine below_set ?_ GE590.out | refine below_set ?_ GE594.out | refine below_set ?_ GE598.out) | exact HB.out)) hb); have n5_ := Aside0.mk (hbox); have n6_ := Aside0.mk ((by rw [hg]; exact (below_size (by repeat (first | (with_reducible first | exact HB.out | apply below_alloc | apply pw_below_drewN | apply below_drew1 | refine below_set ?_ GE590.out | refine below_set ?_ GE594.out | refine below_set ?_ GE598.out) | exact HB.out))) : w.heap.size ≤ gb602)); have n7_ := Aside0.mk ((by rw [hg]; exact (below_size (by repeat (first | (with_reducible first | exact HB.out | apply below_alloc | apply pw_below_drewN | apply below_drew1 | refine below_set ?_ GE590.out | refine below_set ?_ GE594.out | refine below_set ?_ GE598.out) | exact HB.out))) : w.heap.size ≤ gb602)); have n8_ := Aside0.mk ((by rw [hg]; exact Nat.ne_of_lt (blk_lt (g := gb590) (o := .cells #[.int .i64 t587, .int .i64 t588] 29 (0, 0)) (by (with_reducible repeat (first | refine blk_drewN ?_ _ | refine blk_drew ?_ | refine blk_alloc ?_ _)); exact BK590.out)) : gb590 ≠ gb602)); have n9_ := Aside0.mk ((by rw [hg]; exact Nat.ne_of_gt (blk_lt (g := gb590) (o := .cells #[.int .i64 t587, .int .i64 t588] 29 (0, 0)) (by (with_reducible repeat (first | refine blk_drewN ?_ _ | refine blk_drew ?_ | refine blk_alloc ?_ _)); exact BK590.out)) : gb602 ≠ gb590)); have n10_ := Aside0.mk ((by rw [hg]; exact Nat.ne_of_lt (blk_lt (g := gb594) (o := .cells #[.int .i64 t591, .int .i64 t592] 29 (0, 0)) (by (with_reducible repeat (first | refine blk_drewN ?_ _ | refine blk_drew ?_ | refine blk_alloc ?_ _)); exact BK594.out)) : gb594 ≠ gb602)); have n11_ := Aside0.mk ((by rw [hg]; exact Nat.ne_of_gt (blk_lt (g := gb594) (o := .cells #[.int .i64 t591, .int .i64 t592] 29 (0, 0)) (by (with_reducible repeat (first | refine blk_drewN ?_ _ | refine blk_drew ?_ | refine blk_alloc ?_ _)); exact BK594.out)) : gb602 ≠ gb594)); have n12_ := Aside0.mk ((by rw [hg]; exact Nat.ne_of_lt (blk_lt (g := gb598) (o := .cells #[.int .i64 t595, .int .i64 t596] 29 (0, 0)) (by (with_reducible repeat (first | refine blk_drewN ?_ _ | refine blk_drew ?_ | refine blk_alloc ?_ _)); exact BK598.out)) : gb598 ≠ gb602)); have n13_ := Aside0.mk ((by rw [hg]; exact Nat.ne_of_gt (blk_lt (g := gb598) (o := .cells #[.int .i64 t595, .int .i64 t596] 29 (0, 0)) (by (with_reducible repeat (first | refine blk_drewN ?_ _ | refine blk_drew ?_ | refine blk_alloc ?_ _)); exact BK598.out)) : gb602 ≠ gb598)); clear HO585; clear BK590; clear BK594; clear BK598; clear HB; have HO585 := n0_; have BK590 := n1_; have BK594 := n2_; have BK598 := n3_; have HB := n4_; have BK602 := n5_; have GW602 := n6_; have GE602 := n7_; have NB590_602 := n8_; have NB602_590 := n9_; have NB594_602 := n10_; have NB602_594 := n11_; have NB598_602 := n12_; have NB602_598 := n13_; clear n0_ n1_ n2_ n3_ n4_ n5_ n6_ n7_ n8_ n9_ n10_ n11_ n12_ n13_; clear hb hbox hg; have hnb33 := NB602_590.out; have hnc33 := NB590_602.out; have hnb34 := NB602_594.out; have hnc34 := NB594_602.out; have hnb35 := NB602_598.out; have hnc35 := NB598_602.out; have hcz36_0 : w32.cell? ⟨gb602, 0, none⟩ = some (.int .i64 0) := (blk_cell BK602.out 0).trans rfl; have hcz36_1 : w32.cell? ⟨gb602, 1, none⟩ = some (.int .i64 0) := (blk_cell BK602.out 1).trans rfl; have hfz36_0 := blk_frozen BK602.out 0; have hfz36_1 := blk_frozen BK602.out 1))
    (try simp only [Act.put, List.setIfInBounds_toArray, List.set_cons_zero, List.set_cons_succ])
    go_cut [79] (fun v79 wc => ∃ (kq : Nat) (x79_14 : Bool), v79 = .bool x79_14 ∧ Aside0 (timesynclaw23_IntervalTurned.j1 kq l0 a1 t597 x79_14 t595 t596 = some r) ∧ Aside0 (kq ≤ kj2) ∧ Aside0 (wc.heap[gb590]? = some (.cells #[.int .i64 t587, .int .i64 t588] 29 (0, 0))) ∧ Aside0 (wc.heap[gb594]? = some (.cells #[.int .i64 t591, .int .i64 t592] 29 (0, 0))) ∧ Aside0 (wc.heap[gb598]? = some (.cells #[.int .i64 t595, .int .i64 t596] 29 (0, 0))) ∧ Aside0 (wc.heap[gb602]? = some (.cells #[.int .i64 t599, .int .i64 t600] 29 (0, 0))) ∧ Aside0 (Below w.heap.size w wc))
    case first =>
     have H := HC15.out
     clear HC15
     by_cases c37 : (!(t587 == t591) || (!(t588 == t592))) = true
     ·rw [if_pos c37] at H
      have c37b0 : (!(t587 == t591) || (!(t588 == t592))) = true := c37
      clear c37
      (first | rw [c37b0] | (simp only [i64_w, i32_w]; rw [c37b0]) | skip)
      have H' := Aside0.mk H
      clear H
      have hnb38 := NB590_594.out
      have hnc38 := NB594_590.out
      have hnb39 := NB590_598.out
      have hnc39 := NB598_590.out
      have hnb40 := NB590_602.out
      have hnc40 := NB602_590.out
      have hcz41_0 : w32.cell? ⟨gb590, 0, none⟩ = some (.int .i64 t587) := (blk_cell BK590.out 0).trans rfl
      have hcz41_1 : w32.cell? ⟨gb590, 1, none⟩ = some (.int .i64 t588) := (blk_cell BK590.out 1).trans rfl
      have hfz41_0 := blk_frozen BK590.out 0
      have hfz41_1 := blk_frozen BK590.out 1
      have hnb42 := NB594_598.out
      have hnc42 := NB598_594.out
      have hnb43 := NB594_602.out
      have hnc43 := NB602_594.out
      have hcz44_0 : w32.cell? ⟨gb594, 0, none⟩ = some (.int .i64 t591) := (blk_cell BK594.out 0).trans rfl
      have hcz44_1 : w32.cell? ⟨gb594, 1, none⟩ = some (.int .i64 t592) := (blk_cell BK594.out 1).trans rfl
      have hfz44_0 := blk_frozen BK594.out 0
      have hfz44_1 := blk_frozen BK594.out 1
      go_wp2
      go_meet
      case rel => exact ⟨_, (true), (by first | rfl | (simp; done) | (simp [*]; done)), H', ⟨by have := HJ2.out; first | omega | exact Nat.le_refl _⟩, ⟨by (with_reducible repeat (first | refine blk_drewN ?_ _ | refine blk_drew ?_ | refine blk_alloc ?_ _)); refine blk_far ?_ NB590_602.out _; (with_reducible repeat (first | refine blk_drewN ?_ _ | refine blk_drew ?_ | refine blk_alloc ?_ _)); refine blk_far ?_ NB590_602.out _; (with_reducible repeat (first | refine blk_drewN ?_ _ | refine blk_drew ?_ | refine blk_alloc ?_ _)); exact BK590.out⟩, ⟨by (with_reducible repeat (first | refine blk_drewN ?_ _ | refine blk_drew ?_ | refine blk_alloc ?_ _)); refine blk_far ?_ NB594_602.out _; (with_reducible repeat (first | refine blk_drewN ?_ _ | refine blk_drew ?_ | refine blk_alloc ?_ _)); refine blk_far ?_ NB594_602.out _; (with_reducible repeat (first | refine blk_drewN ?_ _ | refine blk_drew ?_ | refine blk_alloc ?_ _)); exact BK594.out⟩, ⟨by (with_reducible repeat (first | refine blk_drewN ?_ _ | refine blk_drew ?_ | refine blk_alloc ?_ _)); refine blk_far ?_ NB598_602.out _; (with_reducible repeat (first | refine blk_drewN ?_ _ | refine blk_drew ?_ | refine blk_alloc ?_ _)); refine blk_far ?_ NB598_602.out _; (with_reducible repeat (first | refine blk_drewN ?_ _ | refine blk_drew ?_ | refine blk_alloc ?_ _)); exact BK598.out⟩, ⟨by (with_reducible repeat (first | refine blk_drewN ?_ _ | refine blk_drew ?_ | refine blk_alloc ?_ _)); refine blk_put (cs := #[.int .i64 t599, .int .i64 0]) ?_ 1 _ rfl; (with_reducible repeat (first | refine blk_drewN ?_ _ | refine blk_drew ?_ | refine blk_alloc ?_ _)); refine blk_put (cs := #[.int .i64 0, .int .i64 0]) ?_ 0 _ rfl; (with_reducible repeat (first | refine blk_drewN ?_ _ | refine blk_drew ?_ | refine blk_alloc ?_ _)); exact BK602.out⟩, ⟨by repeat (first | (with_reducible first | exact HB.out | apply below_alloc | apply pw_below_drewN | apply below_drew1 | refine below_set ?_ GE590.out | refine below_set ?_ GE594.out | refine below_set ?_ GE598.out | refine below_set ?_ GE602.out) | exact HB.out)⟩⟩
     ·rw [if_neg c37] at H
      have c37b0 : (!(t587 == t591) || (!(t588 == t592))) = false := by simpa using c37
      clear c37
      (first | rw [c37b0] | (simp only [i64_w, i32_w]; rw [c37b0]) | skip)
      by_cases c45 : t589 = t593
      ·rw [if_pos c45] at H
       have c45b0 : (t589 == t593) = true := beq_iff_eq.mpr c45
       have c45b1 : (t589 != t593) = false := bne_eq_false_iff_eq.mpr c45
       clear c45
       by_cases c46 : (!(t595 == t599) || (!(t596 == t600))) = true
       ·rw [if_pos c46] at H
        have c46b0 : (!(t595 == t599) || (!(t596 == t600))) = true := c46
        clear c46
        have H' := Aside0.mk H
        clear H
        have hnb47 := NB590_594.out
        have hnc47 := NB594_590.out
        have hnb48 := NB590_598.out
        have hnc48 := NB598_590.out
        have hnb49 := NB590_602.out
        have hnc49 := NB602_590.out
        have hcz50_0 : w32.cell? ⟨gb590, 0, none⟩ = some (.int .i64 t587) := (blk_cell BK590.out 0).trans rfl
        have hcz50_1 : w32.cell? ⟨gb590, 1, none⟩ = some (.int .i64 t588) := (blk_cell BK590.out 1).trans rfl
        have hfz50_0 := blk_frozen BK590.out 0
        have hfz50_1 := blk_frozen BK590.out 1
        have hnb51 := NB594_598.out
        have hnc51 := NB598_594.out
        have hnb52 := NB594_602.out
        have hnc52 := NB602_594.out
        have hcz53_0 : w32.cell? ⟨gb594, 0, none⟩ = some (.int .i64 t591) := (blk_cell BK594.out 0).trans rfl
        have hcz53_1 : w32.cell? ⟨gb594, 1, none⟩ = some (.int .i64 t592) := (blk_cell BK594.out 1).trans rfl
        have hfz53_0 := blk_frozen BK594.out 0
        have hfz53_1 := blk_frozen BK594.out 1
        have hnb54 := NB598_602.out
        have hnc54 := NB602_598.out
        have hcz55_0 : w32.cell? ⟨gb598, 0, none⟩ = some (.int .i64 t595) := (blk_cell BK598.out 0).trans rfl
        have hcz55_1 : w32.cell? ⟨gb598, 1, none⟩ = some (.int .i64 t596) := (blk_cell BK598.out 1).trans rfl
        have hfz55_0 := blk_frozen BK598.out 0
        have hfz55_1 := blk_frozen BK598.out 1
        have hcz56_0 : w32.cell? ⟨gb602, 0, none⟩ = some (.int .i64 0) := (blk_cell BK602.out 0).trans rfl
        have hcz56_1 : w32.cell? ⟨gb602, 1, none⟩ = some (.int .i64 0) := (blk_cell BK602.out 1).trans rfl
        have hfz56_0 := blk_frozen BK602.out 0
        have hfz56_1 := blk_frozen BK602.out 1
        go_wp2
        go_meet
        case rel => exact ⟨_, (true), (by first | rfl | (simp; done) | (simp [*]; done)), H', ⟨by have := HJ2.out; first | omega | exact Nat.le_refl _⟩, ⟨by (with_reducible repeat (first | refine blk_drewN ?_ _ | refine blk_drew ?_ | refine blk_alloc ?_ _)); refine blk_far ?_ NB590_602.out _; (with_reducible repeat (first | refine blk_drewN ?_ _ | refine blk_drew ?_ | refine blk_alloc ?_ _)); refine blk_far ?_ NB590_602.out _; (with_reducible repeat (first | refine blk_drewN ?_ _ | refine blk_drew ?_ | refine blk_alloc ?_ _)); exact BK590.out⟩, ⟨by (with_reducible repeat (first | refine blk_drewN ?_ _ | refine blk_drew ?_ | refine blk_alloc ?_ _)); refine blk_far ?_ NB594_602.out _; (with_reducible repeat (first | refine blk_drewN ?_ _ | refine blk_drew ?_ | refine blk_alloc ?_ _)); refine blk_far ?_ NB594_602.out _; (with_reducible repeat (first | refine blk_drewN ?_ _ | refine blk_drew ?_ | refine blk_alloc ?_ _)); exact BK594.out⟩, ⟨by (with_reducible repeat (first | refine blk_drewN ?_ _ | refine blk_drew ?_ | refine blk_alloc ?_ _)); refine blk_far ?_ NB598_602.out _; (with_reducible repeat (first | refine blk_drewN ?_ _ | refine blk_drew ?_ | refine blk_alloc ?_ _)); refine blk_far ?_ NB598_602.out _; (with_reducible repeat (first | refine blk_drewN ?_ _ | refine blk_drew ?_ | refine blk_alloc ?_ _)); exact BK598.out⟩, ⟨by (with_reducible repeat (first | refine blk_drewN ?_ _ | refine blk_drew ?_ | refine blk_alloc ?_ _)); refine blk_put (cs := #[.int .i64 t599, .int .i64 0]) ?_ 1 _ rfl; (with_reducible repeat (first | refine blk_drewN ?_ _ | refine blk_drew ?_ | refine blk_alloc ?_ _)); refine blk_put (cs := #[.int .i64 0, .int .i64 0]) ?_ 0 _ rfl; (with_reducible repeat (first | refine blk_drewN ?_ _ | refine blk_drew ?_ | refine blk_alloc ?_ _)); exact BK602.out⟩, ⟨by repeat (first | (with_reducible first | exact HB.out | apply below_alloc | apply pw_below_drewN | apply below_drew1 | refine below_set ?_ GE590.out | refine below_set ?_ GE594.out | refine below_set ?_ GE598.out | refine below_set ?_ GE602.out) | exact HB.out)⟩⟩
       ·rw [if_neg c46] at H
        have c46b0 : (!(t595 == t599) || (!(t596 == t600))) = false := by simpa using c46
        clear c46
        by_cases c57 : (t597 != t601) = true
        ·rw [if_pos c57] at H
         have c57b0 : (t597 != t601) = true := c57
         (try (have c57b1 : decide (t597 = t601) = false := by simpa using c57))
         (try (have c57b2 : (t597 == t601) = false := by simpa using c57))
         (try (have c57b3 : ¬ (t597 = t601) := by simpa using c57))
         clear c57
         have H' := Aside0.mk H
         clear H
         have hnb58 := NB590_594.out
         have hnc58 := NB594_590.out
         have hnb59 := NB590_598.out
         have hnc59 := NB598_590.out
         have hnb60 := NB590_602.out
         have hnc60 := NB602_590.out
         have hcz61_0 : w32.cell? ⟨gb590, 0, none⟩ = some (.int .i64 t587) := (blk_cell BK590.out 0).trans rfl
         have hcz61_1 : w32.cell? ⟨gb590, 1, none⟩ = some (.int .i64 t588) := (blk_cell BK590.out 1).trans rfl
         have hfz61_0 := blk_frozen BK590.out 0
         have hfz61_1 := blk_frozen BK590.out 1
         have hnb62 := NB594_598.out
         have hnc62 := NB598_594.out
         have hnb63 := NB594_602.out
         have hnc63 := NB602_594.out
         have hcz64_0 : w32.cell? ⟨gb594, 0, none⟩ = some (.int .i64 t591) := (blk_cell BK594.out 0).trans rfl
         have hcz64_1 : w32.cell? ⟨gb594, 1, none⟩ = some (.int .i64 t592) := (blk_cell BK594.out 1).trans rfl
         have hfz64_0 := blk_frozen BK594.out 0
         have hfz64_1 := blk_frozen BK594.out 1
         have hnb65 := NB598_602.out
         have hnc65 := NB602_598.out
         have hcz66_0 : w32.cell? ⟨gb598, 0, none⟩ = some (.int .i64 t595) := (blk_cell BK598.out 0).trans rfl
         have hcz66_1 : w32.cell? ⟨gb598, 1, none⟩ = some (.int .i64 t596) := (blk_cell BK598.out 1).trans rfl
         have hfz66_0 := blk_frozen BK598.out 0
         have hfz66_1 := blk_frozen BK598.out 1
         have hcz67_0 : w32.cell? ⟨gb602, 0, none⟩ = some (.int .i64 0) := (blk_cell BK602.out 0).trans rfl
         have hcz67_1 : w32.cell? ⟨gb602, 1, none⟩ = some (.int .i64 0) := (blk_cell BK602.out 1).trans rfl
         have hfz67_0 := blk_frozen BK602.out 0
         have hfz67_1 := blk_frozen BK602.out 1
         go_wp2
         go_meet
         case rel => exact ⟨_, (true), (by first | rfl | (simp; done) | (simp [*]; done)), H', ⟨by have := HJ2.out; first | omega | exact Nat.le_refl _⟩, ⟨by (with_reducible repeat (first | refine blk_drewN ?_ _ | refine blk_drew ?_ | refine blk_alloc ?_ _)); refine blk_far ?_ NB590_602.out _; (with_reducible repeat (first | refine blk_drewN ?_ _ | refine blk_drew ?_ | refine blk_alloc ?_ _)); refine blk_far ?_ NB590_602.out _; (with_reducible repeat (first | refine blk_drewN ?_ _ | refine blk_drew ?_ | refine blk_alloc ?_ _)); exact BK590.out⟩, ⟨by (with_reducible repeat (first | refine blk_drewN ?_ _ | refine blk_drew ?_ | refine blk_alloc ?_ _)); refine blk_far ?_ NB594_602.out _; (with_reducible repeat (first | refine blk_drewN ?_ _ | refine blk_drew ?_ | refine blk_alloc ?_ _)); refine blk_far ?_ NB594_602.out _; (with_reducible repeat (first | refine blk_drewN ?_ _ | refine blk_drew ?_ | refine blk_alloc ?_ _)); exact BK594.out⟩, ⟨by (with_reducible repeat (first | refine blk_drewN ?_ _ | refine blk_drew ?_ | refine blk_alloc ?_ _)); refine blk_far ?_ NB598_602.out _; (with_reducible repeat (first | refine blk_drewN ?_ _ | refine blk_drew ?_ | refine blk_alloc ?_ _)); refine blk_far ?_ NB598_602.out _; (with_reducible repeat (first | refine blk_drewN ?_ _ | refine blk_drew ?_ | refine blk_alloc ?_ _)); exact BK598.out⟩, ⟨by (with_reducible repeat (first | refine blk_drewN ?_ _ | refine blk_drew ?_ | refine blk_alloc ?_ _)); refine blk_put (cs := #[.int .i64 t599, .int .i64 0]) ?_ 1 _ rfl; (with_reducible repeat (first | refine blk_drewN ?_ _ | refine blk_drew ?_ | refine blk_alloc ?_ _)); refine blk_put (cs := #[.int .i64 0, .int .i64 0]) ?_ 0 _ rfl; (with_reducible repeat (first | refine blk_drewN ?_ _ | refine blk_drew ?_ | refine blk_alloc ?_ _)); exact BK602.out⟩, ⟨by repeat (first | (with_reducible first | exact HB.out | apply below_alloc | apply pw_below_drewN | apply below_drew1 | refine below_set ?_ GE590.out | refine below_set ?_ GE594.out | refine below_set ?_ GE598.out | refine below_set ?_ GE602.out) | exact HB.out)⟩⟩
        ·rw [if_neg c57] at H
         have c57b0 : (t597 != t601) = false := by simpa using c57
         (try (have c57b1 : decide (t597 = t601) = true := by simpa using c57))
         (try (have c57b2 : (t597 == t601) = true := by simpa using c57))
         clear c57
         replace H := Option.bind_eq_some_iff.mp H
         obtain ⟨t603, A680, H⟩ := H
         replace H : ((interval_Edges.f kj2 t586).bind fun t606 => ((slices_Equal_int_int.f kj2 t603 t606).bind fun t609 => (timesynclaw23_IntervalTurned.j1 kj2 l0 a1 t597 (!t609) t595 t596))) = some r := H
         have A68 := Aside0.mk A680
         clear A680
         replace H := Option.bind_eq_some_iff.mp H
         obtain ⟨t606, A690, H⟩ := H
         replace H : ((slices_Equal_int_int.f kj2 t603 t606).bind fun t609 => (timesynclaw23_IntervalTurned.j1 kj2 l0 a1 t597 (!t609) t595 t596)) = some r := H
         have A69 := Aside0.mk A690
         clear A690
         replace H := Option.bind_eq_some_iff.mp H
         obtain ⟨t609, A700, H⟩ := H
         replace H : (timesynclaw23_IntervalTurned.j1 kj2 l0 a1 t597 (!t609) t595 t596) = some r := H
         have A70 := Aside0.mk A700
         clear A700
         have H' := Aside0.mk H
         clear H
         have hnb71 := NB590_594.out
         have hnc71 := NB594_590.out
         have hnb72 := NB590_598.out
         have hnc72 := NB598_590.out
         have hnb73 := NB590_602.out
         have hnc73 := NB602_590.out
         have hcz74_0 : w32.cell? ⟨gb590, 0, none⟩ = some (.int .i64 t587) := (blk_cell BK590.out 0).trans rfl
         have hcz74_1 : w32.cell? ⟨gb590, 1, none⟩ = some (.int .i64 t588) := (blk_cell BK590.out 1).trans rfl
         have hfz74_0 := blk_frozen BK590.out 0
         have hfz74_1 := blk_frozen BK590.out 1
         have hnb75 := NB594_598.out
         have hnc75 := NB598_594.out
         have hnb76 := NB594_602.out
         have hnc76 := NB602_594.out
         have hcz77_0 : w32.cell? ⟨gb594, 0, none⟩ = some (.int .i64 t591) := (blk_cell BK594.out 0).trans rfl
         have hcz77_1 : w32.cell? ⟨gb594, 1, none⟩ = some (.int .i64 t592) := (blk_cell BK594.out 1).trans rfl
         have hfz77_0 := blk_frozen BK594.out 0
         have hfz77_1 := blk_frozen BK594.out 1
         have hnb78 := NB598_602.out
         have hnc78 := NB602_598.out
         have hcz79_0 : w32.cell? ⟨gb598, 0, none⟩ = some (.int .i64 t595) := (blk_cell BK598.out 0).trans rfl
         have hcz79_1 : w32.cell? ⟨gb598, 1, none⟩ = some (.int .i64 t596) := (blk_cell BK598.out 1).trans rfl
         have hfz79_0 := blk_frozen BK598.out 0
         have hfz79_1 := blk_frozen BK598.out 1
         have hcz80_0 : w32.cell? ⟨gb602, 0, none⟩ = some (.int .i64 0) := (blk_cell BK602.out 0).trans rfl
         have hcz80_1 : w32.cell? ⟨gb602, 1, none⟩ = some (.int .i64 0) := (blk_cell BK602.out 1).trans rfl
         have hfz80_0 := blk_frozen BK602.out 0
         have hfz80_1 := blk_frozen BK602.out 1
         go_wp2_with (first | (go_at_call 40; (with_reducible refine (interval_Edges.calls kj2 _ _ l0 t603 _ ?side1 ?side2 A68.out).mono ?_); (case side1 => exact Kd.C_below HR0.out (by repeat (first | (with_reducible first | exact HB.out | apply below_alloc | apply pw_below_drewN | apply below_drew1 | refine below_set ?_ GE590.out | refine below_set ?_ GE594.out | refine below_set ?_ GE598.out | refine below_set ?_ GE602.out) | exact HB.out))); (case side2 => exact HC0.out); rintro e w81 ⟨v604, rfl, ho0, hb⟩; have n0_ := Aside0.mk (Kd.R_below (by (with_reducible repeat (first | apply Kd.R_alloc | apply Kd.R_drewN | apply Kd.R_drew)); exact (Kd.R_mono (Kd.R_far (p := ⟨gb602, 1, none⟩) (Kd.R_far (p := ⟨gb602, 0, none⟩) (Kd.R_mono HO585.out (fun k_ hk => (⟨hk, hk.2⟩ : _ ∧ k_ ≠ gb602))) (fun _ hk => hk.2) (.int .i64 t599)) (fun _ hk => hk.2) (.int .i64 t600)) (fun _ h_ => h_.1))) hb); have n1_ := Aside0.mk (Kd.R_lower ho0 (below_size (by repeat (first | (with_reducible first | exact HB.out | apply below_alloc | apply pw_below_drewN | apply below_drew1 | refine below_set ?_ GE590.out | refine below_set ?_ GE594.out | refine below_set ?_ GE598.out | refine below_set ?_ GE602.out) | exact HB.out)))); have n2_ := Aside0.mk (blk_below (g := gb590) (o := .cells #[.int .i64 t587, .int .i64 t588] 29 (0, 0)) (by (with_reducible repeat (first | refine blk_drewN ?_ _ | refine blk_drew ?_ | refine blk_alloc ?_ _)); refine blk_far ?_ NB590_602.out _; (with_reducible repeat (first | refine blk_drewN ?_ _ | refine blk_drew ?_ | refine blk_alloc ?_ _)); refine blk_far ?_ NB590_602.out _; (with_reducible repeat (first | refine blk_drewN ?_ _ | refine blk_drew ?_ | refine blk_alloc ?_ _)); exact BK590.out) hb); have n3_ := Aside0.mk (blk_below (g := gb594) (o := .cells #[.int .i64 t591, .int .i64 t592] 29 (0, 0)) (by (with_reducible repeat (first | refine blk_drewN ?_ _ | refine blk_drew ?_ | refine blk_alloc ?_ _)); refine blk_far ?_ NB594_602.out _; (with_reducible repeat (first | refine blk_drewN ?_ _ | refine blk_drew ?_ | refine blk_alloc ?_ _)); refine blk_far ?_ NB594_602.out _; (with_reducible repeat (first | refine blk_drewN ?_ _ | refine blk_drew ?_ | refine blk_alloc ?_ _)); exact BK594.out) hb); have n4_ := Aside0.mk (blk_below (g := gb598) (o := .cells #[.int .i64 t595, .int .i64 t596] 29 (0, 0)) (by (with_reducible repeat (first | refine blk_drewN ?_ _ | refine blk_drew ?_ | refine blk_alloc ?_ _)); refine blk_far ?_ NB598_602.out _; (with_reducible repeat (first | refine blk_drewN ?_ _ | refine blk_drew ?_ | refine blk_alloc ?_ _)); refine blk_far ?_ NB598_602.out _; (with_reducible repeat (first | refine blk_drewN ?_ _ | refine blk_drew ?_ | refine blk_alloc ?_ _)); exact BK598.out) hb); have n5_ := Aside0.mk (blk_below (g := gb602) (o := .cells #[.int .i64 t599, .int .i64 t600] 29 (0, 0)) (by (with_reducible repeat (first | refine blk_drewN ?_ _ | refine blk_drew ?_ | refine blk_alloc ?_ _)); refine blk_put (cs := #[.int .i64 t599, .int .i64 0]) ?_ 1 _ rfl; (with_reducible repeat (first | refine blk_drewN ?_ _ | refine blk_drew ?_ | refine blk_alloc ?_ _)); refine blk_put (cs := #[.int .i64 0, .int .i64 0]) ?_ 0 _ rfl; (with_reducible repeat (first | refine blk_drewN ?_ _ | refine blk_drew ?_ | refine blk_alloc ?_ _)); exact BK602.out) hb); have n6_ := Aside0.mk (below_step (by repeat (first | (with_reducible first | exact HB.out | apply below_alloc | apply pw_below_drewN | apply below_drew1 | refine below_set ?_ GE590.out | refine below_set ?_ GE594.out | refine below_set ?_ GE598.out | refine below_set ?_ GE602.out) | exact HB.out)) hb); clear HO585; clear BK590; clear BK594; clear BK598; clear BK602; clear HB; have HO585 := n0_; have HO605 := n1_; have BK590 := n2_; have BK594 := n3_; have BK598 := n4_; have BK602 := n5_; have HB := n6_; clear n0_ n1_ n2_ n3_ n4_ n5_ n6_; (try clear hb); (try clear hb2); (try clear hk); (try clear hi); (try clear ho0)) | (go_at_call 40; refine calls_of_args (args' := #[.slice Ao17 t586.length co17]) (by first | (rw [show t586.length = t583.length from (Kd.R_reads' HO585.out).1.symm] <;> rfl) | rfl) ?_; (with_reducible refine (interval_Edges.calls kj2 _ _ t586 t606 _ ?side1 ?side2 A69.out).mono ?_); (case side1 => repeat (first | exact (Kd.R_reads' HO585.out).2.2 | (with_reducible refine Kd.C_alloc ?_ _) | (with_reducible refine Kd.C_drewN ?_ _) | (with_reducible refine Kd.C_drew ?_))); (case side2 => rw [show t586.length = t583.length from (Kd.R_reads' HO585.out).1.symm]; exact (Kd.R_reads' HO585.out).2.1); rintro e w82 ⟨v607, rfl, ho0, hb⟩; have n0_ := Aside0.mk (Kd.R_below (by (with_reducible repeat (first | apply Kd.R_alloc | apply Kd.R_drewN | apply Kd.R_drew)); exact HO585.out) hb); have n1_ := Aside0.mk (Kd.R_elder' (by (with_reducible repeat (first | apply Kd.R_alloc | apply Kd.R_drewN | apply Kd.R_drew)); exact HO605.out) (Kd.R_base ho0) hb); have n2_ := Aside0.mk (Kd.R_lower (Kd.R_new' ho0 (Kd.R_lt (by (with_reducible repeat (first | apply Kd.R_alloc | apply Kd.R_drewN | apply Kd.R_drew)); exact HO605.out))) (below_size (by repeat (first | (with_reducible first | exact HB.out | apply below_alloc | apply pw_below_drewN | apply below_drew1 | refine below_set ?_ GE590.out | refine below_set ?_ GE594.out | refine below_set ?_ GE598.out | refine below_set ?_ GE602.out) | exact HB.out)))); have n3_ := Aside0.mk (blk_below (g := gb590) (o := .cells #[.int .i64 t587, .int .i64 t588] 29 (0, 0)) (by (with_reducible repeat (first | refine blk_drewN ?_ _ | refine blk_drew ?_ | refine blk_alloc ?_ _)); exact BK590.out) hb); have n4_ := Aside0.mk (blk_below (g := gb594) (o := .cells #[.int .i64 t591, .int .i64 t592] 29 (0, 0)) (by (with_reducible repeat (first | refine blk_drewN ?_ _ | refine blk_drew ?_ | refine blk_alloc ?_ _)); exact BK594.out) hb); have n5_ := Aside0.mk (blk_below (g := gb598) (o := .cells #[.int .i64 t595, .int .i64 t596] 29 (0, 0)) (by (with_reducible repeat (first | refine blk_drewN ?_ _ | refine blk_drew ?_ | refine blk_alloc ?_ _)); exact BK598.out) hb); have n6_ := Aside0.mk (blk_below (g := gb602) (o := .cells #[.int .i64 t599, .int .i64 t600] 29 (0, 0)) (by (with_reducible repeat (first | refine blk_drewN ?_ _ | refine blk_drew ?_ | refine blk_alloc ?_ _)); exact BK602.out) hb); have n7_ := Aside0.mk (below_step (by repeat (first | (with_reducible first | exact HB.out | apply below_alloc | apply pw_below_drewN | apply below_drew1 | refine below_set ?_ GE590.out | refine below_set ?_ GE594.out | refine below_set ?_ GE598.out | refine below_set ?_ GE602.out) | exact HB.out)) hb); clear HO585; clear HO605; clear BK590; clear BK594; clear BK598; clear BK602; clear HB; have HO585 := n0_; have HO605 := n1_; have HO608 := n2_; have BK590 := n3_; have BK594 := n4_; have BK598 := n5_; have BK602 := n6_; have HB := n7_; clear n0_ n1_ n2_ n3_ n4_ n5_ n6_ n7_; (try clear hb); (try clear hb2); (try clear hk); (try clear hi); (try clear ho0); obtain ⟨Ao83, co83, eo83⟩ := Kd.R_slice HO605.out; subst eo83; obtain ⟨Ao84, co84, eo84⟩ := Kd.R_slice HO608.out; subst eo84) | (go_at_call 21; (with_reducible refine (slices_Equal_int_int.calls kj2 _ _ t603 _ _ t606 t609 _ ?side1 ?side2 ?side3 ?side4 A70.out).mono ?_); (case side1 => repeat (first | exact (Kd.R_reads' HO605.out).2.2 | (with_reducible refine Kd.C_alloc ?_ _) | (with_reducible refine Kd.C_drewN ?_ _) | (with_reducible refine Kd.C_drew ?_))); (case side2 => exact (Kd.R_reads' HO605.out).2.1); (case side3 => repeat (first | exact (Kd.R_reads' HO608.out).2.2 | (with_reducible refine Kd.C_alloc ?_ _) | (with_reducible refine Kd.C_drewN ?_ _) | (with_reducible refine Kd.C_drew ?_))); (case side4 => exact (Kd.R_reads' HO608.out).2.1); rintro e w' ⟨rfl, ⟨nd, rfl⟩⟩))
         go_meet
         case rel => exact ⟨_, (!t609), (by first | rfl | (simp; done) | (simp [*]; done)), H', ⟨by have := HJ2.out; first | omega | exact Nat.le_refl _⟩, ⟨by (with_reducible repeat (first | refine blk_drewN ?_ _ | refine blk_drew ?_ | refine blk_alloc ?_ _)); exact BK590.out⟩, ⟨by (with_reducible repeat (first | refine blk_drewN ?_ _ | refine blk_drew ?_ | refine blk_alloc ?_ _)); exact BK594.out⟩, ⟨by (with_reducible repeat (first | refine blk_drewN ?_ _ | refine blk_drew ?_ | refine blk_alloc ?_ _)); exact BK598.out⟩, ⟨by (with_reducible repeat (first | refine blk_drewN ?_ _ | refine blk_drew ?_ | refine blk_alloc ?_ _)); exact BK602.out⟩, ⟨by repeat (first | (with_reducible first | exact HB.out | apply below_alloc | apply pw_below_drewN | apply below_drew1 | refine below_set ?_ GE590.out | refine below_set ?_ GE594.out | refine below_set ?_ GE598.out | refine below_set ?_ GE602.out) | exact HB.out)⟩⟩
      ·rw [if_neg c45] at H
       have c45b0 : (t589 == t593) = false := beq_eq_false_iff_ne.mpr c45
       have c45b1 : (t589 != t593) = true := bne_iff_ne.mpr c45
       have H' := Aside0.mk H
       clear H
       have hnb85 := NB590_594.out
       have hnc85 := NB594_590.out
       have hnb86 := NB590_598.out
       have hnc86 := NB598_590.out
       have hnb87 := NB590_602.out
       have hnc87 := NB602_590.out
       have hcz88_0 : w32.cell? ⟨gb590, 0, none⟩ = some (.int .i64 t587) := (blk_cell BK590.out 0).trans rfl
       have hcz88_1 : w32.cell? ⟨gb590, 1, none⟩ = some (.int .i64 t588) := (blk_cell BK590.out 1).trans rfl
       have hfz88_0 := blk_frozen BK590.out 0
       have hfz88_1 := blk_frozen BK590.out 1
       have hnb89 := NB594_598.out
       have hnc89 := NB598_594.out
       have hnb90 := NB594_602.out
       have hnc90 := NB602_594.out
       have hcz91_0 : w32.cell? ⟨gb594, 0, none⟩ = some (.int .i64 t591) := (blk_cell BK594.out 0).trans rfl
       have hcz91_1 : w32.cell? ⟨gb594, 1, none⟩ = some (.int .i64 t592) := (blk_cell BK594.out 1).trans rfl
       have hfz91_0 := blk_frozen BK594.out 0
       have hfz91_1 := blk_frozen BK594.out 1
       go_wp2
       go_meet
       case rel => exact ⟨_, (true), (by first | rfl | (simp; done) | (simp [*]; done)), H', ⟨by have := HJ2.out; first | omega | exact Nat.le_refl _⟩, ⟨by (with_reducible repeat (first | refine blk_drewN ?_ _ | refine blk_drew ?_ | refine blk_alloc ?_ _)); refine blk_far ?_ NB590_602.out _; (with_reducible repeat (first | refine blk_drewN ?_ _ | refine blk_drew ?_ | refine blk_alloc ?_ _)); refine blk_far ?_ NB590_602.out _; (with_reducible repeat (first | refine blk_drewN ?_ _ | refine blk_drew ?_ | refine blk_alloc ?_ _)); exact BK590.out⟩, ⟨by (with_reducible repeat (first | refine blk_drewN ?_ _ | refine blk_drew ?_ | refine blk_alloc ?_ _)); refine blk_far ?_ NB594_602.out _; (with_reducible repeat (first | refine blk_drewN ?_ _ | refine blk_drew ?_ | refine blk_alloc ?_ _)); refine blk_far ?_ NB594_602.out _; (with_reducible repeat (first | refine blk_drewN ?_ _ | refine blk_drew ?_ | refine blk_alloc ?_ _)); exact BK594.out⟩, ⟨by (with_reducible repeat (first | refine blk_drewN ?_ _ | refine blk_drew ?_ | refine blk_alloc ?_ _)); refine blk_far ?_ NB598_602.out _; (with_reducible repeat (first | refine blk_drewN ?_ _ | refine blk_drew ?_ | refine blk_alloc ?_ _)); refine blk_far ?_ NB598_602.out _; (with_reducible repeat (first | refine blk_drewN ?_ _ | refine blk_drew ?_ | refine blk_alloc ?_ _)); exact BK598.out⟩, ⟨by (with_reducible repeat (first | refine blk_drewN ?_ _ | refine blk_drew ?_ | refine blk_alloc ?_ _)); refine blk_put (cs := #[.int .i64 t599, .int .i64 0]) ?_ 1 _ rfl; (with_reducible repeat (first | refine blk_drewN ?_ _ | refine blk_drew ?_ | refine blk_alloc ?_ _)); refine blk_put (cs := #[.int .i64 0, .int .i64 0]) ?_ 0 _ rfl; (with_reducible repeat (first | refine blk_drewN ?_ _ | refine blk_drew ?_ | refine blk_alloc ?_ _)); exact BK602.out⟩, ⟨by repeat (first | (with_reducible first | exact HB.out | apply below_alloc | apply pw_below_drewN | apply below_drew1 | refine below_set ?_ GE590.out | refine below_set ?_ GE594.out | refine below_set ?_ GE598.out | refine below_set ?_ GE602.out) | exact HB.out)⟩⟩
    case rest =>
     clear HC15
     try clear c1
     try clear c2
     try clear p2
     try clear c3
     try clear c4
     try clear c4b0
     try clear c4b1
     try clear c5
     try clear c5b0
     try clear c6
     try clear c7
     try clear c8
     try clear c9
     try clear c11
     try clear c24
     try clear c28
     try clear c29
     try clear c33
     try clear c34
     try clear c35
     try clear c36
     try clear c37
     try clear c37b0
     try clear c38
     try clear c39
     try clear c40
     try clear c42
     try clear c43
     try clear c45
     try clear c45b0
     try clear c45b1
     try clear c46
     try clear c46b0
     try clear c47
     try clear c48
     try clear c49
     try clear c51
     try clear c52
     try clear c54
     try clear c57
     try clear c57b0
     try clear c57b1
     try clear c57b2
     try clear c58
     try clear c59
     try clear c60
     try clear c62
     try clear c63
     try clear c65
     try clear c71
     try clear c72
     try clear c73
     try clear c75
     try clear c76
     try clear c78
     try clear c85
     try clear c86
     try clear c87
     try clear c89
     try clear c90
     try clear hcz21_0
     try clear hcz21_1
     try clear hcz25_0
     try clear hcz25_1
     try clear hcz30_0
     try clear hcz30_1
     try clear hcz36_0
     try clear hcz36_1
     try clear hcz41_0
     try clear hcz41_1
     try clear hcz44_0
     try clear hcz44_1
     try clear hcz50_0
     try clear hcz50_1
     try clear hcz53_0
     try clear hcz53_1
     try clear hcz55_0
     try clear hcz55_1
     try clear hcz56_0
     try clear hcz56_1
     try clear hcz61_0
     try clear hcz61_1
     try clear hcz64_0
     try clear hcz64_1
     try clear hcz66_0
     try clear hcz66_1
     try clear hcz67_0
     try clear hcz67_1
     try clear hcz74_0
     try clear hcz74_1
     try clear hcz77_0
     try clear hcz77_1
     try clear hcz79_0
     try clear hcz79_1
     try clear hcz80_0
     try clear hcz80_1
     try clear hcz88_0
     try clear hcz88_1
     try clear hcz91_0
     try clear hcz91_1
     try clear hfz21_0
     try clear hfz21_1
     try clear hfz25_0
     try clear hfz25_1
     try clear hfz30_0
     try clear hfz30_1
     try clear hfz36_0
     try clear hfz36_1
     try clear hfz41_0
     try clear hfz41_1
     try clear hfz44_0
     try clear hfz44_1
     try clear hfz50_0
     try clear hfz50_1
     try clear hfz53_0
     try clear hfz53_1
     try clear hfz55_0
     try clear hfz55_1
     try clear hfz56_0
     try clear hfz56_1
     try clear hfz61_0
     try clear hfz61_1
     try clear hfz64_0
     try clear hfz64_1
     try clear hfz66_0
     try clear hfz66_1
     try clear hfz67_0
     try clear hfz67_1
     try clear hfz74_0
     try clear hfz74_1
     try clear hfz77_0
     try clear hfz77_1
     try clear hfz79_0
     try clear hfz79_1
     try clear hfz80_0
     try clear hfz80_1
     try clear hfz88_0
     try clear hfz88_1
     try clear hfz91_0
     try clear hfz91_1
     try clear p2
     obtain ⟨kq, x79_14, rfl, HA, HJ14, BK590, BK594, BK598, BK602, HB⟩ := hcut
     cases kq with
     | zero => exact absurd HA.out (by simp [timesynclaw23_IntervalTurned.j1])
     | succ kj14 =>
      have H := HA.out
      clear HA
      simp only [timesynclaw23_IntervalTurned.j1] at H
      by_cases c92 : x79_14 = true
      ·subst c92
       have H1 : (none) = some r := by rw [if_pos rfl] at H; exact H
       clear H
       have H := H1
       clear H1
       exact absurd H (by simp)
      ·replace c92 := Bool.eq_false_iff.mpr c92
       subst c92
       have H1 : ((interval_Hull.f kj14 l0 (wrap64 (a1 + 1))).bind fun bt610 => (if bt610.2.2 = true then (if a1 < 1 then ((timesynclaw23_awake.f kj14).bind fun t614 => (some t614)) else (if t597 = true then (if t595 ≤ bt610.1 then (if bt610.2.1 ≤ t596 then ((timesynclaw23_awake.f kj14).bind fun t615 => (some t615)) else (none)) else (none)) else (none))) else ((timesynclaw23_awake.f kj14).bind fun t616 => (some t616)))) = some r := by rw [if_neg (show ¬ (false = true) by decide)] at H; exact H
       clear H
       have H := H1
       clear H1
       replace H := Option.bind_eq_some_iff.mp H
       obtain ⟨⟨t610, t611, t612⟩, A930, H⟩ := H
       replace H : (if t612 = true then (if a1 < 1 then ((timesynclaw23_awake.f kj14).bind fun t614 => (some t614)) else (if t597 = true then (if t595 ≤ t610 then (if t611 ≤ t596 then ((timesynclaw23_awake.f kj14).bind fun t615 => (some t615)) else (none)) else (none)) else (none))) else ((timesynclaw23_awake.f kj14).bind fun t616 => (some t616))) = some r := H
       have A93 := Aside0.mk A930
       clear A930
       by_cases c94 : t612 = true
       ·subst c94
        have H1 : (if a1 < 1 then ((timesynclaw23_awake.f kj14).bind fun t614 => (some t614)) else (if t597 = true then (if t595 ≤ t610 then (if t611 ≤ t596 then ((timesynclaw23_awake.f kj14).bind fun t615 => (some t615)) else (none)) else (none)) else (none))) = some r := by rw [if_pos rfl] at H; exact H
        clear H
        have H := H1
        clear H1
        by_cases c95 : a1 < 1
        ·rw [if_pos c95] at H
         have c95b0 : decide (a1 < 1) = true := decide_eq_true c95
         clear c95
         replace H := Option.bind_eq_some_iff.mp H
         obtain ⟨t614, A960, H⟩ := H
         replace H : (some t614) = some r := H
         have A96 := Aside0.mk A960
         clear A960
         obtain rfl := Option.some.inj H
         go_wp2_with (first | ((with_reducible refine gate_callee (f := 39) rfl ?_); refine goesL_ (some 84) rfl rfl Try.func39 (by kernel_rfl) rfl #[.slice A0 l0.length c0, .int .i64 (wrap64 (a1 + 1))] rfl (by (try simp only [List.map_toArray, List.map_cons, List.map_nil]); first | done | rfl | (simp only [List.length_drop, List.length_take]; rfl)) ?_; (with_reducible refine (interval_Hull.calls kj14 _ _ l0 (wrap64 (a1 + 1)) t610 t611 true _ ?side1 ?side2 A93.out).mono ?_); (case side1 => repeat (first | exact (Kd.C_below HR0.out HB.out) | (with_reducible refine Kd.C_alloc ?_ _) | (with_reducible refine Kd.C_drewN ?_ _) | (with_reducible refine Kd.C_drew ?_))); (case side2 => exact HC0.out); rintro e w97 ⟨rfl, hb⟩; refine ⟨_, rfl, ?_⟩; have n0_ := Aside0.mk (blk_below (g := gb590) (o := .cells #[.int .i64 t587, .int .i64 t588] 29 (0, 0)) (by (with_reducible repeat (first | refine blk_drewN ?_ _ | refine blk_drew ?_ | refine blk_alloc ?_ _)); exact BK590.out) hb); have n1_ := Aside0.mk (blk_below (g := gb594) (o := .cells #[.int .i64 t591, .int .i64 t592] 29 (0, 0)) (by (with_reducible repeat (first | refine blk_drewN ?_ _ | refine blk_drew ?_ | refine blk_alloc ?_ _)); exact BK594.out) hb); have n2_ := Aside0.mk (blk_below (g := gb598) (o := .cells #[.int .i64 t595, .int .i64 t596] 29 (0, 0)) (by (with_reducible repeat (first | refine blk_drewN ?_ _ | refine blk_drew ?_ | refine blk_alloc ?_ _)); exact BK598.out) hb); have n3_ := Aside0.mk (blk_below (g := gb602) (o := .cells #[.int .i64 t599, .int .i64 t600] 29 (0, 0)) (by (with_reducible repeat (first | refine blk_drewN ?_ _ | refine blk_drew ?_ | refine blk_alloc ?_ _)); exact BK602.out) hb); have n4_ := Aside0.mk (below_step (by repeat (first | (with_reducible first | exact HB.out | apply below_alloc | apply pw_below_drewN | apply below_drew1 | refine below_set ?_ GE590.out | refine below_set ?_ GE594.out | refine below_set ?_ GE598.out | refine below_set ?_ GE602.out) | exact HB.out)) hb); clear BK590; clear BK594; clear BK598; clear BK602; clear HB; have BK590 := n0_; have BK594 := n1_; have BK598 := n2_; have BK602 := n3_; have HB := n4_; clear n0_ n1_ n2_ n3_ n4_; (try clear hb); (try clear hb2); (try clear hk); (try clear hi)) | ((with_reducible refine gate_dst (N := 14) rfl ?_); refine box_event ?hg (N := 14) ?hd (cs := #[.int .i64 0, .int .i64 0]) (t := 29) ?hr ?_; (case hd => rfl); (case hg => rfl); (case hr => first | (go_simp; done) | (go_simp; rfl)); intro gb613 hg w98 hbox hb; have n0_ := Aside0.mk (blk_below (g := gb590) (o := .cells #[.int .i64 t587, .int .i64 t588] 29 (0, 0)) (by (with_reducible repeat (first | refine blk_drewN ?_ _ | refine blk_drew ?_ | refine blk_alloc ?_ _)); exact BK590.out) hb); have n1_ := Aside0.mk (blk_below (g := gb594) (o := .cells #[.int .i64 t591, .int .i64 t592] 29 (0, 0)) (by (with_reducible repeat (first | refine blk_drewN ?_ _ | refine blk_drew ?_ | refine blk_alloc ?_ _)); exact BK594.out) hb); have n2_ := Aside0.mk (blk_below (g := gb598) (o := .cells #[.int .i64 t595, .int .i64 t596] 29 (0, 0)) (by (with_reducible repeat (first | refine blk_drewN ?_ _ | refine blk_drew ?_ | refine blk_alloc ?_ _)); exact BK598.out) hb); have n3_ := Aside0.mk (blk_below (g := gb602) (o := .cells #[.int .i64 t599, .int .i64 t600] 29 (0, 0)) (by (with_reducible repeat (first | refine blk_drewN ?_ _ | refine blk_drew ?_ | refine blk_alloc ?_ _)); exact BK602.out) hb); have n4_ := Aside0.mk (below_step (by repeat (first | (with_reducible first | exact HB.out | apply below_alloc | apply pw_below_drewN | apply below_drew1 | refine below_set ?_ GE590.out | refine below_set ?_ GE594.out | refine below_set ?_ GE598.out | refine below_set ?_ GE602.out) | exact HB.out)) hb); have n5_ := Aside0.mk (hbox); have n6_ := Aside0.mk ((by rw [hg]; exact (below_size (by repeat (first | (with_reducible first | exact HB.out | apply below_alloc | apply pw_below_drewN | apply below_drew1 | refine below_set ?_ GE590.out | refine below_set ?_ GE594.out | refine below_set ?_ GE598.out | refine below_set ?_ GE602.out) | exact HB.out))) : w.heap.size ≤ gb613)); have n7_ := Aside0.mk ((by rw [hg]; exact (below_size (by repeat (first | (with_reducible first | exact HB.out | apply below_alloc | apply pw_below_drewN | apply below_drew1 | refine below_set ?_ GE590.out | refine below_set ?_ GE594.out | refine below_set ?_ GE598.out | refine below_set ?_ GE602.out) | exact HB.out))) : w.heap.size ≤ gb613)); have n8_ := Aside0.mk ((by rw [hg]; exact Nat.ne_of_lt (blk_lt (g := gb590) (o := .cells #[.int .i64 t587, .int .i64 t588] 29 (0, 0)) (by (with_reducible repeat (first | refine blk_drewN ?_ _ | refine blk_drew ?_ | refine blk_alloc ?_ _)); exact BK590.out)) : gb590 ≠ gb613)); have n9_ := Aside0.mk ((by rw [hg]; exact Nat.ne_of_gt (blk_lt (g := gb590) (o := .cells #[.int .i64 t587, .int .i64 t588] 29 (0, 0)) (by (with_reducible repeat (first | refine blk_drewN ?_ _ | refine blk_drew ?_ | refine blk_alloc ?_ _)); exact BK590.out)) : gb613 ≠ gb590)); have n10_ := Aside0.mk ((by rw [hg]; exact Nat.ne_of_lt (blk_lt (g := gb594) (o := .cells #[.int .i64 t591, .int .i64 t592] 29 (0, 0)) (by (with_reducible repeat (first | refine blk_drewN ?_ _ | refine blk_drew ?_ | refine blk_alloc ?_ _)); exact BK594.out)) : gb594 ≠ gb613)); have n11_ := Aside0.mk ((by rw [hg]; exact Nat.ne_of_gt (blk_lt (g := gb594) (o := .cells #[.int .i64 t591, .int .i64 t592] 29 (0, 0)) (by (with_reducible repeat (first | refine blk_drewN ?_ _ | refine blk_drew ?_ | refine blk_alloc ?_ _)); exact BK594.out)) : gb613 ≠ gb594)); have n12_ := Aside0.mk ((by rw [hg]; exact Nat.ne_of_lt (blk_lt (g := gb598) (o := .cells #[.int .i64 t595, .int .i64 t596] 29 (0, 0)) (by (with_reducible repeat (first | refine blk_drewN ?_ _ | refine blk_drew ?_ | refine blk_alloc ?_ _)); exact BK598.out)) : gb598 ≠ gb613)); have n13_ := Aside0.mk ((by rw [hg]; exact Nat.ne_of_gt (blk_lt (g := gb598) (o := .cells #[.int .i64 t595, .int .i64 t596] 29 (0, 0)) (by (with_reducible repeat (first | refine blk_drewN ?_ _ | refine blk_drew ?_ | refine blk_alloc ?_ _)); exact BK598.out)) : gb613 ≠ gb598)); have n14_ := Aside0.mk ((by rw [hg]; exact Nat.ne_of_lt (blk_lt (g := gb602) (o := .cells #[.int .i64 t599, .int .i64 t600] 29 (0, 0)) (by (with_reducible repeat (first | refine blk_drewN ?_ _ | refine blk_drew ?_ | refine blk_alloc ?_ _)); exact BK602.out)) : gb602 ≠ gb613)); have n15_ := Aside0.mk ((by rw [hg]; exact Nat.ne_of_gt (blk_lt (g := gb602) (o := .cells #[.int .i64 t599, .int .i64 t600] 29 (0, 0)) (by (with_reducible repeat (first | refine blk_drewN ?_ _ | refine blk_drew ?_ | refine blk_alloc ?_ _)); exact BK602.out)) : gb613 ≠ gb602)); clear BK590; clear BK594; clear BK598; clear BK602; clear HB; have BK590 := n0_; have BK594 := n1_; have BK598 := n2_; have BK602 := n3_; have HB := n4_; have BK613 := n5_; have GW613 := n6_; have GE613 := n7_; have NB590_613 := n8_; have NB613_590 := n9_; have NB594_613 := n10_; have NB613_594 := n11_; have NB598_613 := n12_; have NB613_598 := n13_; have NB602_613 := n14_; have NB613_602 := n15_; clear n0_ n1_ n2_ n3_ n4_ n5_ n6_ n7_ n8_ n9_ n10_ n11_ n12_ n13_ n14_ n15_; clear hb hbox hg; have hnb99 := NB613_590.out; have hnc99 := NB590_613.out; have hnb100 := NB613_594.out; have hnc100 := NB594_613.out; have hnb101 := NB613_598.out; have hnc101 := NB598_613.out; have hnb102 := NB613_602.out; have hnc102 := NB602_613.out; have hcz103_0 : w98.cell? ⟨gb613, 0, none⟩ = some (.int .i64 0) := (blk_cell BK613.out 0).trans rfl; have hcz103_1 : w98.cell? ⟨gb613, 1, none⟩ = some (.int .i64 0) := (blk_cell BK613.out 1).trans rfl; have hfz103_0 := blk_frozen BK613.out 0; have hfz103_1 := blk_frozen BK613.out 1) | (go_at_call 35; (with_reducible refine (timesynclaw23_awake.calls kj14  t614 _ A96.out).mono ?_); rintro e w104 ⟨rfl, hb⟩; have n0_ := Aside0.mk (blk_below (g := gb590) (o := .cells #[.int .i64 t587, .int .i64 t588] 29 (0, 0)) (by (with_reducible repeat (first | refine blk_drewN ?_ _ | refine blk_drew ?_ | refine blk_alloc ?_ _)); refine blk_far ?_ NB590_613.out _; (with_reducible repeat (first | refine blk_drewN ?_ _ | refine blk_drew ?_ | refine blk_alloc ?_ _)); refine blk_far ?_ NB590_613.out _; (with_reducible repeat (first | refine blk_drewN ?_ _ | refine blk_drew ?_ | refine blk_alloc ?_ _)); exact BK590.out) hb); have n1_ := Aside0.mk (blk_below (g := gb594) (o := .cells #[.int .i64 t591, .int .i64 t592] 29 (0, 0)) (by (with_reducible repeat (first | refine blk_drewN ?_ _ | refine blk_drew ?_ | refine blk_alloc ?_ _)); refine blk_far ?_ NB594_613.out _; (with_reducible repeat (first | refine blk_drewN ?_ _ | refine blk_drew ?_ | refine blk_alloc ?_ _)); refine blk_far ?_ NB594_613.out _; (with_reducible repeat (first | refine blk_drewN ?_ _ | refine blk_drew ?_ | refine blk_alloc ?_ _)); exact BK594.out) hb); have n2_ := Aside0.mk (blk_below (g := gb598) (o := .cells #[.int .i64 t595, .int .i64 t596] 29 (0, 0)) (by (with_reducible repeat (first | refine blk_drewN ?_ _ | refine blk_drew ?_ | refine blk_alloc ?_ _)); refine blk_far ?_ NB598_613.out _; (with_reducible repeat (first | refine blk_drewN ?_ _ | refine blk_drew ?_ | refine blk_alloc ?_ _)); refine blk_far ?_ NB598_613.out _; (with_reducible repeat (first | refine blk_drewN ?_ _ | refine blk_drew ?_ | refine blk_alloc ?_ _)); exact BK598.out) hb); have n3_ := Aside0.mk (blk_below (g := gb602) (o := .cells #[.int .i64 t599, .int .i64 t600] 29 (0, 0)) (by (with_reducible repeat (first | refine blk_drewN ?_ _ | refine blk_drew ?_ | refine blk_alloc ?_ _)); refine blk_far ?_ NB602_613.out _; (with_reducible repeat (first | refine blk_drewN ?_ _ | refine blk_drew ?_ | refine blk_alloc ?_ _)); refine blk_far ?_ NB602_613.out _; (with_reducible repeat (first | refine blk_drewN ?_ _ | refine blk_drew ?_ | refine blk_alloc ?_ _)); exact BK602.out) hb); have n4_ := Aside0.mk (blk_below (g := gb613) (o := .cells #[.int .i64 t610, .int .i64 t611] 29 (0, 0)) (by (with_reducible repeat (first | refine blk_drewN ?_ _ | refine blk_drew ?_ | refine blk_alloc ?_ _)); refine blk_put (cs := #[.int .i64 t610, .int .i64 0]) ?_ 1 _ rfl; (with_reducible repeat (first | refine blk_drewN ?_ _ | refine blk_drew ?_ | refine blk_alloc ?_ _)); refine blk_put (cs := #[.int .i64 0, .int .i64 0]) ?_ 0 _ rfl; (with_reducible repeat (first | refine blk_drewN ?_ _ | refine blk_drew ?_ | refine blk_alloc ?_ _)); exact BK613.out) hb); have n5_ := Aside0.mk (below_step (by repeat (first | (with_reducible first | exact HB.out | apply below_alloc | apply pw_below_drewN | apply below_drew1 | refine below_set ?_ GE590.out | refine below_set ?_ GE594.out | refine below_set ?_ GE598.out | refine below_set ?_ GE602.out | refine below_set ?_ GE613.out) | exact HB.out)) hb); clear BK590; clear BK594; clear BK598; clear BK602; clear BK613; clear HB; have BK590 := n0_; have BK594 := n1_; have BK598 := n2_; have BK602 := n3_; have BK613 := n4_; have HB := n5_; clear n0_ n1_ n2_ n3_ n4_ n5_; (try clear hb); (try clear hb2); (try clear hk); (try clear hi)))
         go_ret
         exact ⟨by first | rfl | (simp [errW_none, errW_some] <;> rfl) | (simp [*, errW_none, errW_some] <;> rfl), by repeat (first | (with_reducible first | exact HB.out | apply below_alloc | apply pw_below_drewN | apply below_drew1 | refine below_set ?_ GE590.out | refine below_set ?_ GE594.out | refine below_set ?_ GE598.out | refine below_set ?_ GE602.out | refine below_set ?_ GE613.out) | exact HB.out)⟩
        ·rw [if_neg c95] at H
         have c95b0 : decide (a1 < 1) = false := decide_eq_false c95
         clear c95
         by_cases c105 : t597 = true
         ·subst c105
          have H1 : (if t595 ≤ t610 then (if t611 ≤ t596 then ((timesynclaw23_awake.f kj14).bind fun t615 => (some t615)) else (none)) else (none)) = some r := by rw [if_pos rfl] at H; exact H
          clear H
          have H := H1
          clear H1
          by_cases c106 : t595 ≤ t610
          ·rw [if_pos c106] at H
           have c106b0 : decide (t595 ≤ t610) = true := decide_eq_true c106
           clear c106
           by_cases c107 : t611 ≤ t596
           ·rw [if_pos c107] at H
            have c107b0 : decide (t611 ≤ t596) = true := decide_eq_true c107
            clear c107
            replace H := Option.bind_eq_some_iff.mp H
            obtain ⟨t615, A1080, H⟩ := H
            replace H : (some t615) = some r := H
            have A108 := Aside0.mk A1080
            clear A1080
            obtain rfl := Option.some.inj H
            go_wp2_with (first | ((with_reducible refine gate_callee (f := 39) rfl ?_); refine goesL_ (some 84) rfl rfl Try.func39 (by kernel_rfl) rfl #[.slice A0 l0.length c0, .int .i64 (wrap64 (a1 + 1))] rfl (by (try simp only [List.map_toArray, List.map_cons, List.map_nil]); first | done | rfl | (simp only [List.length_drop, List.length_take]; rfl)) ?_; (with_reducible refine (interval_Hull.calls kj14 _ _ l0 (wrap64 (a1 + 1)) t610 t611 true _ ?side1 ?side2 A93.out).mono ?_); (case side1 => repeat (first | exact (Kd.C_below HR0.out HB.out) | (with_reducible refine Kd.C_alloc ?_ _) | (with_reducible refine Kd.C_drewN ?_ _) | (with_reducible refine Kd.C_drew ?_))); (case side2 => exact HC0.out); rintro e w109 ⟨rfl, hb⟩; refine ⟨_, rfl, ?_⟩; have n0_ := Aside0.mk (blk_below (g := gb590) (o := .cells #[.int .i64 t587, .int .i64 t588] 29 (0, 0)) (by (with_reducible repeat (first | refine blk_drewN ?_ _ | refine blk_drew ?_ | refine blk_alloc ?_ _)); exact BK590.out) hb); have n1_ := Aside0.mk (blk_below (g := gb594) (o := .cells #[.int .i64 t591, .int .i64 t592] 29 (0, 0)) (by (with_reducible repeat (first | refine blk_drewN ?_ _ | refine blk_drew ?_ | refine blk_alloc ?_ _)); exact BK594.out) hb); have n2_ := Aside0.mk (blk_below (g := gb598) (o := .cells #[.int .i64 t595, .int .i64 t596] 29 (0, 0)) (by (with_reducible repeat (first | refine blk_drewN ?_ _ | refine blk_drew ?_ | refine blk_alloc ?_ _)); exact BK598.out) hb); have n3_ := Aside0.mk (blk_below (g := gb602) (o := .cells #[.int .i64 t599, .int .i64 t600] 29 (0, 0)) (by (with_reducible repeat (first | refine blk_drewN ?_ _ | refine blk_drew ?_ | refine blk_alloc ?_ _)); exact BK602.out) hb); have n4_ := Aside0.mk (below_step (by repeat (first | (with_reducible first | exact HB.out | apply below_alloc | apply pw_below_drewN | apply below_drew1 | refine below_set ?_ GE590.out | refine below_set ?_ GE594.out | refine below_set ?_ GE598.out | refine below_set ?_ GE602.out) | exact HB.out)) hb); clear BK590; clear BK594; clear BK598; clear BK602; clear HB; have BK590 := n0_; have BK594 := n1_; have BK598 := n2_; have BK602 := n3_; have HB := n4_; clear n0_ n1_ n2_ n3_ n4_; (try clear hb); (try clear hb2); (try clear hk); (try clear hi)) | ((with_reducible refine gate_dst (N := 14) rfl ?_); refine box_event ?hg (N := 14) ?hd (cs := #[.int .i64 0, .int .i64 0]) (t := 29) ?hr ?_; (case hd => rfl); (case hg => rfl); (case hr => first | (go_simp; done) | (go_simp; rfl)); intro gb613 hg w110 hbox hb; have n0_ := Aside0.mk (blk_below (g := gb590) (o := .cells #[.int .i64 t587, .int .i64 t588] 29 (0, 0)) (by (with_reducible repeat (first | refine blk_drewN ?_ _ | refine blk_drew ?_ | refine blk_alloc ?_ _)); exact BK590.out) hb); have n1_ := Aside0.mk (blk_below (g := gb594) (o := .cells #[.int .i64 t591, .int .i64 t592] 29 (0, 0)) (by (with_reducible repeat (first | refine blk_drewN ?_ _ | refine blk_drew ?_ | refine blk_alloc ?_ _)); exact BK594.out) hb); have n2_ := Aside0.mk (blk_below (g := gb598) (o := .cells #[.int .i64 t595, .int .i64 t596] 29 (0, 0)) (by (with_reducible repeat (first | refine blk_drewN ?_ _ | refine blk_drew ?_ | refine blk_alloc ?_ _)); exact BK598.out) hb); have n3_ := Aside0.mk (blk_below (g := gb602) (o := .cells #[.int .i64 t599, .int .i64 t600] 29 (0, 0)) (by (with_reducible repeat (first | refine blk_drewN ?_ _ | refine blk_drew ?_ | refine blk_alloc ?_ _)); exact BK602.out) hb); have n4_ := Aside0.mk (below_step (by repeat (first | (with_reducible first | exact HB.out | apply below_alloc | apply pw_below_drewN | apply below_drew1 | refine below_set ?_ GE590.out | refine below_set ?_ GE594.out | refine below_set ?_ GE598.out | refine below_set ?_ GE602.out) | exact HB.out)) hb); have n5_ := Aside0.mk (hbox); have n6_ := Aside0.mk ((by rw [hg]; exact (below_size (by repeat (first | (with_reducible first | exact HB.out | apply below_alloc | apply pw_below_drewN | apply below_drew1 | refine below_set ?_ GE590.out | refine below_set ?_ GE594.out | refine below_set ?_ GE598.out | refine below_set ?_ GE602.out) | exact HB.out))) : w.heap.size ≤ gb613)); have n7_ := Aside0.mk ((by rw [hg]; exact (below_size (by repeat (first | (with_reducible first | exact HB.out | apply below_alloc | apply pw_below_drewN | apply below_drew1 | refine below_set ?_ GE590.out | refine below_set ?_ GE594.out | refine below_set ?_ GE598.out | refine below_set ?_ GE602.out) | exact HB.out))) : w.heap.size ≤ gb613)); have n8_ := Aside0.mk ((by rw [hg]; exact Nat.ne_of_lt (blk_lt (g := gb590) (o := .cells #[.int .i64 t587, .int .i64 t588] 29 (0, 0)) (by (with_reducible repeat (first | refine blk_drewN ?_ _ | refine blk_drew ?_ | refine blk_alloc ?_ _)); exact BK590.out)) : gb590 ≠ gb613)); have n9_ := Aside0.mk ((by rw [hg]; exact Nat.ne_of_gt (blk_lt (g := gb590) (o := .cells #[.int .i64 t587, .int .i64 t588] 29 (0, 0)) (by (with_reducible repeat (first | refine blk_drewN ?_ _ | refine blk_drew ?_ | refine blk_alloc ?_ _)); exact BK590.out)) : gb613 ≠ gb590)); have n10_ := Aside0.mk ((by rw [hg]; exact Nat.ne_of_lt (blk_lt (g := gb594) (o := .cells #[.int .i64 t591, .int .i64 t592] 29 (0, 0)) (by (with_reducible repeat (first | refine blk_drewN ?_ _ | refine blk_drew ?_ | refine blk_alloc ?_ _)); exact BK594.out)) : gb594 ≠ gb613)); have n11_ := Aside0.mk ((by rw [hg]; exact Nat.ne_of_gt (blk_lt (g := gb594) (o := .cells #[.int .i64 t591, .int .i64 t592] 29 (0, 0)) (by (with_reducible repeat (first | refine blk_drewN ?_ _ | refine blk_drew ?_ | refine blk_alloc ?_ _)); exact BK594.out)) : gb613 ≠ gb594)); have n12_ := Aside0.mk ((by rw [hg]; exact Nat.ne_of_lt (blk_lt (g := gb598) (o := .cells #[.int .i64 t595, .int .i64 t596] 29 (0, 0)) (by (with_reducible repeat (first | refine blk_drewN ?_ _ | refine blk_drew ?_ | refine blk_alloc ?_ _)); exact BK598.out)) : gb598 ≠ gb613)); have n13_ := Aside0.mk ((by rw [hg]; exact Nat.ne_of_gt (blk_lt (g := gb598) (o := .cells #[.int .i64 t595, .int .i64 t596] 29 (0, 0)) (by (with_reducible repeat (first | refine blk_drewN ?_ _ | refine blk_drew ?_ | refine blk_alloc ?_ _)); exact BK598.out)) : gb613 ≠ gb598)); have n14_ := Aside0.mk ((by rw [hg]; exact Nat.ne_of_lt (blk_lt (g := gb602) (o := .cells #[.int .i64 t599, .int .i64 t600] 29 (0, 0)) (by (with_reducible repeat (first | refine blk_drewN ?_ _ | refine blk_drew ?_ | refine blk_alloc ?_ _)); exact BK602.out)) : gb602 ≠ gb613)); have n15_ := Aside0.mk ((by rw [hg]; exact Nat.ne_of_gt (blk_lt (g := gb602) (o := .cells #[.int .i64 t599, .int .i64 t600] 29 (0, 0)) (by (with_reducible repeat (first | refine blk_drewN ?_ _ | refine blk_drew ?_ | refine blk_alloc ?_ _)); exact BK602.out)) : gb613 ≠ gb602)); clear BK590; clear BK594; clear BK598; clear BK602; clear HB; have BK590 := n0_; have BK594 := n1_; have BK598 := n2_; have BK602 := n3_; have HB := n4_; have BK613 := n5_; have GW613 := n6_; have GE613 := n7_; have NB590_613 := n8_; have NB613_590 := n9_; have NB594_613 := n10_; have NB613_594 := n11_; have NB598_613 := n12_; have NB613_598 := n13_; have NB602_613 := n14_; have NB613_602 := n15_; clear n0_ n1_ n2_ n3_ n4_ n5_ n6_ n7_ n8_ n9_ n10_ n11_ n12_ n13_ n14_ n15_; clear hb hbox hg; have hnb111 := NB613_590.out; have hnc111 := NB590_613.out; have hnb112 := NB613_594.out; have hnc112 := NB594_613.out; have hnb113 := NB613_598.out; have hnc113 := NB598_613.out; have hnb114 := NB613_602.out; have hnc114 := NB602_613.out; have hcz115_0 : w110.cell? ⟨gb613, 0, none⟩ = some (.int .i64 0) := (blk_cell BK613.out 0).trans rfl; have hcz115_1 : w110.cell? ⟨gb613, 1, none⟩ = some (.int .i64 0) := (blk_cell BK613.out 1).trans rfl; have hfz115_0 := blk_frozen BK613.out 0; have hfz115_1 := blk_frozen BK613.out 1; have hnb116 := NB598_590.out; have hnc116 := NB590_598.out; have hnb117 := NB598_594.out; have hnc117 := NB594_598.out; have hnb118 := NB598_602.out; have hnc118 := NB602_598.out; have hcz119_0 : w110.cell? ⟨gb598, 0, none⟩ = some (.int .i64 t595) := (blk_cell BK598.out 0).trans rfl; have hcz119_1 : w110.cell? ⟨gb598, 1, none⟩ = some (.int .i64 t596) := (blk_cell BK598.out 1).trans rfl; have hfz119_0 := blk_frozen BK598.out 0; have hfz119_1 := blk_frozen BK598.out 1) | (go_at_call 35; (with_reducible refine (timesynclaw23_awake.calls kj14  t615 _ A108.out).mono ?_); rintro e w120 ⟨rfl, hb⟩; have n0_ := Aside0.mk (blk_below (g := gb590) (o := .cells #[.int .i64 t587, .int .i64 t588] 29 (0, 0)) (by (with_reducible repeat (first | refine blk_drewN ?_ _ | refine blk_drew ?_ | refine blk_alloc ?_ _)); refine blk_far ?_ NB590_613.out _; (with_reducible repeat (first | refine blk_drewN ?_ _ | refine blk_drew ?_ | refine blk_alloc ?_ _)); refine blk_far ?_ NB590_613.out _; (with_reducible repeat (first | refine blk_drewN ?_ _ | refine blk_drew ?_ | refine blk_alloc ?_ _)); exact BK590.out) hb); have n1_ := Aside0.mk (blk_below (g := gb594) (o := .cells #[.int .i64 t591, .int .i64 t592] 29 (0, 0)) (by (with_reducible repeat (first | refine blk_drewN ?_ _ | refine blk_drew ?_ | refine blk_alloc ?_ _)); refine blk_far ?_ NB594_613.out _; (with_reducible repeat (first | refine blk_drewN ?_ _ | refine blk_drew ?_ | refine blk_alloc ?_ _)); refine blk_far ?_ NB594_613.out _; (with_reducible repeat (first | refine blk_drewN ?_ _ | refine blk_drew ?_ | refine blk_alloc ?_ _)); exact BK594.out) hb); have n2_ := Aside0.mk (blk_below (g := gb598) (o := .cells #[.int .i64 t595, .int .i64 t596] 29 (0, 0)) (by (with_reducible repeat (first | refine blk_drewN ?_ _ | refine blk_drew ?_ | refine blk_alloc ?_ _)); refine blk_far ?_ NB598_613.out _; (with_reducible repeat (first | refine blk_drewN ?_ _ | refine blk_drew ?_ | refine blk_alloc ?_ _)); refine blk_far ?_ NB598_613.out _; (with_reducible repeat (first | refine blk_drewN ?_ _ | refine blk_drew ?_ | refine blk_alloc ?_ _)); exact BK598.out) hb); have n3_ := Aside0.mk (blk_below (g := gb602) (o := .cells #[.int .i64 t599, .int .i64 t600] 29 (0, 0)) (by (with_reducible repeat (first | refine blk_drewN ?_ _ | refine blk_drew ?_ | refine blk_alloc ?_ _)); refine blk_far ?_ NB602_613.out _; (with_reducible repeat (first | refine blk_drewN ?_ _ | refine blk_drew ?_ | refine blk_alloc ?_ _)); refine blk_far ?_ NB602_613.out _; (with_reducible repeat (first | refine blk_drewN ?_ _ | refine blk_drew ?_ | refine blk_alloc ?_ _)); exact BK602.out) hb); have n4_ := Aside0.mk (blk_below (g := gb613) (o := .cells #[.int .i64 t610, .int .i64 t611] 29 (0, 0)) (by (with_reducible repeat (first | refine blk_drewN ?_ _ | refine blk_drew ?_ | refine blk_alloc ?_ _)); refine blk_put (cs := #[.int .i64 t610, .int .i64 0]) ?_ 1 _ rfl; (with_reducible repeat (first | refine blk_drewN ?_ _ | refine blk_drew ?_ | refine blk_alloc ?_ _)); refine blk_put (cs := #[.int .i64 0, .int .i64 0]) ?_ 0 _ rfl; (with_reducible repeat (first | refine blk_drewN ?_ _ | refine blk_drew ?_ | refine blk_alloc ?_ _)); exact BK613.out) hb); have n5_ := Aside0.mk (below_step (by repeat (first | (with_reducible first | exact HB.out | apply below_alloc | apply pw_below_drewN | apply below_drew1 | refine below_set ?_ GE590.out | refine below_set ?_ GE594.out | refine below_set ?_ GE598.out | refine below_set ?_ GE602.out | refine below_set ?_ GE613.out) | exact HB.out)) hb); clear BK590; clear BK594; clear BK598; clear BK602; clear BK613; clear HB; have BK590 := n0_; have BK594 := n1_; have BK598 := n2_; have BK602 := n3_; have BK613 := n4_; have HB := n5_; clear n0_ n1_ n2_ n3_ n4_ n5_; (try clear hb); (try clear hb2); (try clear hk); (try clear hi)))
            go_ret
            exact ⟨by first | rfl | (simp [errW_none, errW_some] <;> rfl) | (simp [*, errW_none, errW_some] <;> rfl), by repeat (first | (with_reducible first | exact HB.out | apply below_alloc | apply pw_below_drewN | apply below_drew1 | refine below_set ?_ GE590.out | refine below_set ?_ GE594.out | refine below_set ?_ GE598.out | refine below_set ?_ GE602.out | refine below_set ?_ GE613.out) | exact HB.out)⟩
           ·rw [if_neg c107] at H
            exact absurd H (by simp)
          ·rw [if_neg c106] at H
           exact absurd H (by simp)
         ·replace c105 := Bool.eq_false_iff.mpr c105
          subst c105
          have H1 : (none) = some r := by rw [if_neg (show ¬ (false = true) by decide)] at H; exact H
          clear H
          have H := H1
          clear H1
          exact absurd H (by simp)
       ·replace c94 := Bool.eq_false_iff.mpr c94
        subst c94
        have H1 : ((timesynclaw23_awake.f kj14).bind fun t616 => (some t616)) = some r := by rw [if_neg (show ¬ (false = true) by decide)] at H; exact H
        clear H
        have H := H1
        clear H1
        replace H := Option.bind_eq_some_iff.mp H
        obtain ⟨t616, A1210, H⟩ := H
        replace H : (some t616) = some r := H
        have A121 := Aside0.mk A1210
        clear A1210
        obtain rfl := Option.some.inj H
        go_wp2_with (first | ((with_reducible refine gate_callee (f := 39) rfl ?_); refine goesL_ (some 84) rfl rfl Try.func39 (by kernel_rfl) rfl #[.slice A0 l0.length c0, .int .i64 (wrap64 (a1 + 1))] rfl (by (try simp only [List.map_toArray, List.map_cons, List.map_nil]); first | done | rfl | (simp only [List.length_drop, List.length_take]; rfl)) ?_; (with_reducible refine (interval_Hull.calls kj14 _ _ l0 (wrap64 (a1 + 1)) t610 t611 false _ ?side1 ?side2 A93.out).mono ?_); (case side1 => repeat (first | exact (Kd.C_below HR0.out HB.out) | (with_reducible refine Kd.C_alloc ?_ _) | (with_reducible refine Kd.C_drewN ?_ _) | (with_reducible refine Kd.C_drew ?_))); (case side2 => exact HC0.out); rintro e w122 ⟨rfl, hb⟩; refine ⟨_, rfl, ?_⟩; have n0_ := Aside0.mk (blk_below (g := gb590) (o := .cells #[.int .i64 t587, .int .i64 t588] 29 (0, 0)) (by (with_reducible repeat (first | refine blk_drewN ?_ _ | refine blk_drew ?_ | refine blk_alloc ?_ _)); exact BK590.out) hb); have n1_ := Aside0.mk (blk_below (g := gb594) (o := .cells #[.int .i64 t591, .int .i64 t592] 29 (0, 0)) (by (with_reducible repeat (first | refine blk_drewN ?_ _ | refine blk_drew ?_ | refine blk_alloc ?_ _)); exact BK594.out) hb); have n2_ := Aside0.mk (blk_below (g := gb598) (o := .cells #[.int .i64 t595, .int .i64 t596] 29 (0, 0)) (by (with_reducible repeat (first | refine blk_drewN ?_ _ | refine blk_drew ?_ | refine blk_alloc ?_ _)); exact BK598.out) hb); have n3_ := Aside0.mk (blk_below (g := gb602) (o := .cells #[.int .i64 t599, .int .i64 t600] 29 (0, 0)) (by (with_reducible repeat (first | refine blk_drewN ?_ _ | refine blk_drew ?_ | refine blk_alloc ?_ _)); exact BK602.out) hb); have n4_ := Aside0.mk (below_step (by repeat (first | (with_reducible first | exact HB.out | apply below_alloc | apply pw_below_drewN | apply below_drew1 | refine below_set ?_ GE590.out | refine below_set ?_ GE594.out | refine below_set ?_ GE598.out | refine below_set ?_ GE602.out) | exact HB.out)) hb); clear BK590; clear BK594; clear BK598; clear BK602; clear HB; have BK590 := n0_; have BK594 := n1_; have BK598 := n2_; have BK602 := n3_; have HB := n4_; clear n0_ n1_ n2_ n3_ n4_; (try clear hb); (try clear hb2); (try clear hk); (try clear hi)) | ((with_reducible refine gate_dst (N := 14) rfl ?_); refine box_event ?hg (N := 14) ?hd (cs := #[.int .i64 0, .int .i64 0]) (t := 29) ?hr ?_; (case hd => rfl); (case hg => rfl); (case hr => first | (go_simp; done) | (go_simp; rfl)); intro gb613 hg w123 hbox hb; have n0_ := Aside0.mk (blk_below (g := gb590) (o := .cells #[.int .i64 t587, .int .i64 t588] 29 (0, 0)) (by (with_reducible repeat (first | refine blk_drewN ?_ _ | refine blk_drew ?_ | refine blk_alloc ?_ _)); exact BK590.out) hb); have n1_ := Aside0.mk (blk_below (g := gb594) (o := .cells #[.int .i64 t591, .int .i64 t592] 29 (0, 0)) (by (with_reducible repeat (first | refine blk_drewN ?_ _ | refine blk_drew ?_ | refine blk_alloc ?_ _)); exact BK594.out) hb); have n2_ := Aside0.mk (blk_below (g := gb598) (o := .cells #[.int .i64 t595, .int .i64 t596] 29 (0, 0)) (by (with_reducible repeat (first | refine blk_drewN ?_ _ | refine blk_drew ?_ | refine blk_alloc ?_ _)); exact BK598.out) hb); have n3_ := Aside0.mk (blk_below (g := gb602) (o := .cells #[.int .i64 t599, .int .i64 t600] 29 (0, 0)) (by (with_reducible repeat (first | refine blk_drewN ?_ _ | refine blk_drew ?_ | refine blk_alloc ?_ _)); exact BK602.out) hb); have n4_ := Aside0.mk (below_step (by repeat (first | (with_reducible first | exact HB.out | apply below_alloc | apply pw_below_drewN | apply below_drew1 | refine below_set ?_ GE590.out | refine below_set ?_ GE594.out | refine below_set ?_ GE598.out | refine below_set ?_ GE602.out) | exact HB.out)) hb); have n5_ := Aside0.mk (hbox); have n6_ := Aside0.mk ((by rw [hg]; exact (below_size (by repeat (first | (with_reducible first | exact HB.out | apply below_alloc | apply pw_below_drewN | apply below_drew1 | refine below_set ?_ GE590.out | refine below_set ?_ GE594.out | refine below_set ?_ GE598.out | refine below_set ?_ GE602.out) | exact HB.out))) : w.heap.size ≤ gb613)); have n7_ := Aside0.mk ((by rw [hg]; exact (below_size (by repeat (first | (with_reducible first | exact HB.out | apply below_alloc | apply pw_below_drewN | apply below_drew1 | refine below_set ?_ GE590.out | refine below_set ?_ GE594.out | refine below_set ?_ GE598.out | refine below_set ?_ GE602.out) | exact HB.out))) : w.heap.size ≤ gb613)); have n8_ := Aside0.mk ((by rw [hg]; exact Nat.ne_of_lt (blk_lt (g := gb590) (o := .cells #[.int .i64 t587, .int .i64 t588] 29 (0, 0)) (by (with_reducible repeat (first | refine blk_drewN ?_ _ | refine blk_drew ?_ | refine blk_alloc ?_ _)); exact BK590.out)) : gb590 ≠ gb613)); have n9_ := Aside0.mk ((by rw [hg]; exact Nat.ne_of_gt (blk_lt (g := gb590) (o := .cells #[.int .i64 t587, .int .i64 t588] 29 (0, 0)) (by (with_reducible repeat (first | refine blk_drewN ?_ _ | refine blk_drew ?_ | refine blk_alloc ?_ _)); exact BK590.out)) : gb613 ≠ gb590)); have n10_ := Aside0.mk ((by rw [hg]; exact Nat.ne_of_lt (blk_lt (g := gb594) (o := .cells #[.int .i64 t591, .int .i64 t592] 29 (0, 0)) (by (with_reducible repeat (first | refine blk_drewN ?_ _ | refine blk_drew ?_ | refine blk_alloc ?_ _)); exact BK594.out)) : gb594 ≠ gb613)); have n11_ := Aside0.mk ((by rw [hg]; exact Nat.ne_of_gt (blk_lt (g := gb594) (o := .cells #[.int .i64 t591, .int .i64 t592] 29 (0, 0)) (by (with_reducible repeat (first | refine blk_drewN ?_ _ | refine blk_drew ?_ | refine blk_alloc ?_ _)); exact BK594.out)) : gb613 ≠ gb594)); have n12_ := Aside0.mk ((by rw [hg]; exact Nat.ne_of_lt (blk_lt (g := gb598) (o := .cells #[.int .i64 t595, .int .i64 t596] 29 (0, 0)) (by (with_reducible repeat (first | refine blk_drewN ?_ _ | refine blk_drew ?_ | refine blk_alloc ?_ _)); exact BK598.out)) : gb598 ≠ gb613)); have n13_ := Aside0.mk ((by rw [hg]; exact Nat.ne_of_gt (blk_lt (g := gb598) (o := .cells #[.int .i64 t595, .int .i64 t596] 29 (0, 0)) (by (with_reducible repeat (first | refine blk_drewN ?_ _ | refine blk_drew ?_ | refine blk_alloc ?_ _)); exact BK598.out)) : gb613 ≠ gb598)); have n14_ := Aside0.mk ((by rw [hg]; exact Nat.ne_of_lt (blk_lt (g := gb602) (o := .cells #[.int .i64 t599, .int .i64 t600] 29 (0, 0)) (by (with_reducible repeat (first | refine blk_drewN ?_ _ | refine blk_drew ?_ | refine blk_alloc ?_ _)); exact BK602.out)) : gb602 ≠ gb613)); have n15_ := Aside0.mk ((by rw [hg]; exact Nat.ne_of_gt (blk_lt (g := gb602) (o := .cells #[.int .i64 t599, .int .i64 t600] 29 (0, 0)) (by (with_reducible repeat (first | refine blk_drewN ?_ _ | refine blk_drew ?_ | refine blk_alloc ?_ _)); exact BK602.out)) : gb613 ≠ gb602)); clear BK590; clear BK594; clear BK598; clear BK602; clear HB; have BK590 := n0_; have BK594 := n1_; have BK598 := n2_; have BK602 := n3_; have HB := n4_; have BK613 := n5_; have GW613 := n6_; have GE613 := n7_; have NB590_613 := n8_; have NB613_590 := n9_; have NB594_613 := n10_; have NB613_594 := n11_; have NB598_613 := n12_; have NB613_598 := n13_; have NB602_613 := n14_; have NB613_602 := n15_; clear n0_ n1_ n2_ n3_ n4_ n5_ n6_ n7_ n8_ n9_ n10_ n11_ n12_ n13_ n14_ n15_; clear hb hbox hg; have hnb124 := NB613_590.out; have hnc124 := NB590_613.out; have hnb125 := NB613_594.out; have hnc125 := NB594_613.out; have hnb126 := NB613_598.out; have hnc126 := NB598_613.out; have hnb127 := NB613_602.out; have hnc127 := NB602_613.out; have hcz128_0 : w123.cell? ⟨gb613, 0, none⟩ = some (.int .i64 0) := (blk_cell BK613.out 0).trans rfl; have hcz128_1 : w123.cell? ⟨gb613, 1, none⟩ = some (.int .i64 0) := (blk_cell BK613.out 1).trans rfl; have hfz128_0 := blk_frozen BK613.out 0; have hfz128_1 := blk_frozen BK613.out 1) | (go_at_call 35; (with_reducible refine (timesynclaw23_awake.calls kj14  t616 _ A121.out).mono ?_); rintro e w129 ⟨rfl, hb⟩; have n0_ := Aside0.mk (blk_below (g := gb590) (o := .cells #[.int .i64 t587, .int .i64 t588] 29 (0, 0)) (by (with_reducible repeat (first | refine blk_drewN ?_ _ | refine blk_drew ?_ | refine blk_alloc ?_ _)); refine blk_far ?_ NB590_613.out _; (with_reducible repeat (first | refine blk_drewN ?_ _ | refine blk_drew ?_ | refine blk_alloc ?_ _)); refine blk_far ?_ NB590_613.out _; (with_reducible repeat (first | refine blk_drewN ?_ _ | refine blk_drew ?_ | refine blk_alloc ?_ _)); exact BK590.out) hb); have n1_ := Aside0.mk (blk_below (g := gb594) (o := .cells #[.int .i64 t591, .int .i64 t592] 29 (0, 0)) (by (with_reducible repeat (first | refine blk_drewN ?_ _ | refine blk_drew ?_ | refine blk_alloc ?_ _)); refine blk_far ?_ NB594_613.out _; (with_reducible repeat (first | refine blk_drewN ?_ _ | refine blk_drew ?_ | refine blk_alloc ?_ _)); refine blk_far ?_ NB594_613.out _; (with_reducible repeat (first | refine blk_drewN ?_ _ | refine blk_drew ?_ | refine blk_alloc ?_ _)); exact BK594.out) hb); have n2_ := Aside0.mk (blk_below (g := gb598) (o := .cells #[.int .i64 t595, .int .i64 t596] 29 (0, 0)) (by (with_reducible repeat (first | refine blk_drewN ?_ _ | refine blk_drew ?_ | refine blk_alloc ?_ _)); refine blk_far ?_ NB598_613.out _; (with_reducible repeat (first | refine blk_drewN ?_ _ | refine blk_drew ?_ | refine blk_alloc ?_ _)); refine blk_far ?_ NB598_613.out _; (with_reducible repeat (first | refine blk_drewN ?_ _ | refine blk_drew ?_ | refine blk_alloc ?_ _)); exact BK598.out) hb); have n3_ := Aside0.mk (blk_below (g := gb602) (o := .cells #[.int .i64 t599, .int .i64 t600] 29 (0, 0)) (by (with_reducible repeat (first | refine blk_drewN ?_ _ | refine blk_drew ?_ | refine blk_alloc ?_ _)); refine blk_far ?_ NB602_613.out _; (with_reducible repeat (first | refine blk_drewN ?_ _ | refine blk_drew ?_ | refine blk_alloc ?_ _)); refine blk_far ?_ NB602_613.out _; (with_reducible repeat (first | refine blk_drewN ?_ _ | refine blk_drew ?_ | refine blk_alloc ?_ _)); exact BK602.out) hb); have n4_ := Aside0.mk (blk_below (g := gb613) (o := .cells #[.int .i64 t610, .int .i64 t611] 29 (0, 0)) (by (with_reducible repeat (first | refine blk_drewN ?_ _ | refine blk_drew ?_ | refine blk_alloc ?_ _)); refine blk_put (cs := #[.int .i64 t610, .int .i64 0]) ?_ 1 _ rfl; (with_reducible repeat (first | refine blk_drewN ?_ _ | refine blk_drew ?_ | refine blk_alloc ?_ _)); refine blk_put (cs := #[.int .i64 0, .int .i64 0]) ?_ 0 _ rfl; (with_reducible repeat (first | refine blk_drewN ?_ _ | refine blk_drew ?_ | refine blk_alloc ?_ _)); exact BK613.out) hb); have n5_ := Aside0.mk (below_step (by repeat (first | (with_reducible first | exact HB.out | apply below_alloc | apply pw_below_drewN | apply below_drew1 | refine below_set ?_ GE590.out | refine below_set ?_ GE594.out | refine below_set ?_ GE598.out | refine below_set ?_ GE602.out | refine below_set ?_ GE613.out) | exact HB.out)) hb); clear BK590; clear BK594; clear BK598; clear BK602; clear BK613; clear HB; have BK590 := n0_; have BK594 := n1_; have BK598 := n2_; have BK602 := n3_; have BK613 := n4_; have HB := n5_; clear n0_ n1_ n2_ n3_ n4_ n5_; (try clear hb); (try clear hb2); (try clear hk); (try clear hi)))
        go_ret
        exact ⟨by first | rfl | (simp [errW_none, errW_some] <;> rfl) | (simp [*, errW_none, errW_some] <;> rfl), by repeat (first | (with_reducible first | exact HB.out | apply below_alloc | apply pw_below_drewN | apply below_drew1 | refine below_set ?_ GE590.out | refine below_set ?_ GE594.out | refine below_set ?_ GE598.out | refine below_set ?_ GE602.out | refine below_set ?_ GE613.out) | exact HB.out)⟩

end Go.Proofs.Ytlfilhplklifjaa.X

namespace Go.Proofs.Ytlfilhplklifjaa.X
open Go.RowKit Go.Proofs.YtlfilhplklifjaaW.PrintWords Go.Proofs.YtlfilhplklifjaaW.PrintLast Go.Proofs.YtlfilhplklifjaaW.PrintMore
attribute [local go_sem] max2_int min2_int max_two min_two max_three min_three max_four min_four   -- for this text's walks alone
set_option linter.unusedVariables false
set_option linter.unusedSimpArgs false

def WFi64 (x : Int) : Prop := (Lit.int .i64 x).wf = true
def WF29 (x : S29) : Prop := WFi64 x.f0 ∧ WFi64 x.f1
def WFL29 (x : List (S29)) : Prop := x.length ≤ 9223372036854775807 ∧ ∀ y ∈ x, WF29 y
end Go.Proofs.Ytlfilhplklifjaa.X

/- Plain words of this seat: rounds, wrapped numbers, lists by index; the check of candidates. -/
namespace Go.Proofs.Ytlfilhplklifjaa.PA
open Go.RowKit Go.Proofs.Ytlfilhplklifjaa.X Go.Proofs.YtlfilhplklifjaaW.PrintWords Go.Proofs.YtlfilhplklifjaaW.PrintLast

section
variable {α β : Type} {f g h : Nat → Option α} {r : α} {c : Prop} [Decidable c]
theorem Ev.pos (hc : c) (h : Ev f r) : Ev (fun n => if c then f n else g n) r := Ev.congr (fun _ => if_pos hc) h
theorem Ev.neg (hc : ¬ c) (h : Ev g r) : Ev (fun n => if c then f n else g n) r := Ev.congr (fun _ => if_neg hc) h
theorem Ev.ite_ (h1 : c → Ev f r) (h2 : ¬ c → Ev g r) : Ev (fun n => if c then f n else g n) r := by
  by_cases hc : c
  · exact Ev.pos hc (h1 hc)
  · exact Ev.neg hc (h2 hc)
theorem Ev.bind' {g : Nat → Option α} {f : Nat → α → Option β} {r : β} (a : α) (h : Ev g a) (k : Ev (fun n => f n a) r) : Ev (fun n => (g n).bind (f n)) r := Ev.bind h k
theorem Ev.some_bind {f : Nat → α → Option β} {a : α} {r : β} (k : Ev (fun n => f n a) r) : Ev (fun n => (some a).bind (f n)) r := k
theorem Ev.const {x : Option α} (h : x = some r) : Ev (fun _ => x) r := ⟨0, fun _ _ => h⟩
theorem Ev.uniq {r r' : α} (h : Ev f r) (h' : Ev f r') : r = r' := by
  obtain ⟨K, h⟩ := h
  obtain ⟨K', h'⟩ := h'
  have h1 := h (max K K') (by omega)
  have h2 := h' (max K K') (by omega)
  rw [h1] at h2
  exact Option.some.inj h2
end

theorem wrap_id {x : Int} (h0 : -9223372036854775808 ≤ x) (h1 : x < 9223372036854775808) : wrap64 x = x := by
  unfold wrap64; omega
theorem wrap_nat {i : Nat} (h : i < 9223372036854775807) : wrap64 ((i : Int) + 1) = ((i + 1 : Nat) : Int) := by
  rw [wrap_id (by omega) (by omega)]; rfl
theorem rd29 (l : List S29) (i : Nat) : rd_T29 l (i : Int) = l.getD i z29 := by simp [rd_T29]
theorem rd88 (l : List S88) (i : Nat) : rd_T88 l (i : Int) = l.getD i z88 := by simp [rd_T88]
theorem rd110 (l : List S110) (i : Nat) : rd_T110 l (i : Int) = l.getD i z110 := by simp [rd_T110]
theorem rdI (l : List Int) (i : Nat) : rd l (i : Int) = l.getD i 0 := by simp [rd]

/-! ### Check -/
/-- A candidate within the limits. -/
def OkC (c : S37) : Prop := 0 ≤ c.f0 ∧ c.f0 ≤ 2147483647 ∧ -4503599627370496 ≤ c.f1 ∧ c.f1 ≤ 4503599627370496 ∧ 0 ≤ c.f2 ∧ c.f2 ≤ 9007199254740992 ∧ 0 ≤ c.f3 ∧ c.f3 ≤ 9007199254740992 ∧ 1 ≤ c.f4 ∧ c.f4 ≤ 16
instance (c : S37) : Decidable (OkC c) := by unfold OkC; infer_instance
/-- One of the candidates from j on, ahead of i, has i's number. -/
def dupFrom (l : List S37) (i : Nat) : Nat → Nat → Bool
  | 0, _ => false
  | d + 1, j => if (l.getD j z37).f0 = (l.getD i z37).f0 then true else dupFrom l i d (j + 1)
def chkFrom (l : List S37) : Nat → Nat → Int
  | 0, _ => 0
  | d + 1, i => if OkC (l.getD i z37) then (if dupFrom l i i 0 = true then 10 else chkFrom l d (i + 1)) else 3
def chk (l : List S37) : Int := if (l.length : Int) > 12 then 6 else chkFrom l l.length 0

end Go.Proofs.Ytlfilhplklifjaa.PA

/- Positions by a test; how many intervals hold an instant; the reference's hull. -/
namespace Go.Proofs.Ytlfilhplklifjaa.PA
open Go.RowKit Go.Proofs.Ytlfilhplklifjaa.X Go.Proofs.YtlfilhplklifjaaW.PrintWords Go.Proofs.YtlfilhplklifjaaW.PrintLast

/-! ### Positions -/
def idxFrom (l : List S37) (p : S37 → Bool) : Nat → Nat → List Int
  | 0, _ => []
  | d + 1, i => if p (l.getD i z37) = true then (i : Int) :: idxFrom l p d (i + 1) else idxFrom l p d (i + 1)
def idx (l : List S37) (p : S37 → Bool) : List Int := idxFrom l p l.length 0
def pIn (lo hi : Int) (c : S37) : Bool := decide (lo ≤ c.f1) && decide (c.f1 ≤ hi)
/-! ### Counts -/
def holds (s : S29) (t : Int) : Bool := decide (s.f0 ≤ t) && decide (t ≤ s.f1)
def cnt (v : List S29) (t : Int) : Nat := v.countP (fun s => holds s t)
def span (c : S37) : S29 := ⟨c.f1 - c.f2, c.f1 + c.f2⟩
def spans (l : List S37) : List S29 := l.map span
/-- What a hull is: the first and the last instant with at least 'need' intervals; none if there is no such instant. -/
def HullSpec (v : List S29) (need : Int) (lo hi : Int) (ok : Bool) : Prop :=
  (ok = true ∧ 1 ≤ need ∧ need ≤ cnt v lo ∧ need ≤ cnt v hi ∧ ∀ t, need ≤ cnt v t → lo ≤ t ∧ t ≤ hi) ∨ (ok = false ∧ lo = 0 ∧ hi = 0 ∧ (need < 1 ∨ ∀ t, (cnt v t : Int) < need))
theorem HullSpec.uniq {v : List S29} {need a b a' b' : Int} {o o' : Bool} (h : HullSpec v need a b o) (h' : HullSpec v need a' b' o') : a = a' ∧ b = b' ∧ o = o' := by
  rcases h with ⟨rfl, h1, h2, h3, h4⟩ | ⟨rfl, rfl, rfl, h1⟩ <;> rcases h' with ⟨rfl, g1, g2, g3, g4⟩ | ⟨rfl, rfl, rfl, g1⟩
  · have x1 := h4 _ g2; have x2 := h4 _ g3; have x3 := g4 _ h2; have x4 := g4 _ h3
    exact ⟨by omega, by omega, rfl⟩
  · rcases g1 with g1 | g1
    · omega
    · have := g1 a; omega
  · rcases h1 with h1 | h1
    · omega
    · have := h1 a'; omega
  · exact ⟨rfl, rfl, rfl⟩

theorem holds_iff {s : S29} {t : Int} : holds s t = true ↔ s.f0 ≤ t ∧ t ≤ s.f1 := by simp [holds]
end Go.Proofs.Ytlfilhplklifjaa.PA

/- The program's runs and its hull. -/
namespace Go.Proofs.Ytlfilhplklifjaa.PA
open Go.RowKit Go.Proofs.Ytlfilhplklifjaa.X Go.Proofs.YtlfilhplklifjaaW.PrintWords Go.Proofs.YtlfilhplklifjaaW.PrintLast

/-! ### Valid intervals -/
def OkI (s : S29) : Prop := s.f0 ≤ s.f1 ∧ -8000000000000000000 ≤ s.f0 ∧ s.f1 ≤ 8000000000000000000
instance (s : S29) : Decidable (OkI s) := by unfold OkI; infer_instance
def valid (v : List S29) : List S29 := if (v.length : Int) > 48 then [] else v.filter (fun s => decide (OkI s))
theorem drift_check (s : S29) : drift_Check.f s.f0 s.f1 = some (if OkI s then 0 else 3) := by
  unfold drift_Check.f
  have nk : ∀ {p : Prop}, p → (OkI s → ¬ p) → ¬ OkI s := fun h h2 h3 => h2 h3 h
  by_cases h1 : s.f0 > s.f1
  · rw [if_pos h1, if_neg (nk h1 fun h => by unfold OkI at h; omega)]
  · rw [if_neg h1]
    by_cases h2 : s.f0 < -8000000000000000000
    · rw [if_pos h2, if_neg (nk h2 fun h => by unfold OkI at h; omega)]
    · rw [if_neg h2]
      by_cases h3 : s.f1 > 8000000000000000000
      · rw [if_pos h3, if_neg (nk h3 fun h => by unfold OkI at h; omega)]
      · rw [if_neg h3, if_pos (show OkI s by unfold OkI; omega)]
theorem valid_from (v : List S29) (hn : v.length ≤ 48) : ∀ d i (acc : List S29), i + d = v.length → acc.length ≤ i → Ev (fun k => interval_valid.l0 k acc v v.length i) (acc ++ (v.drop i).filter (fun s => decide (OkI s))) := by
  intro d
  induction d with
  | zero =>
    intro i acc hi ha
    refine Ev.step (fun k => by rw [interval_valid.l0]) ?_
    refine Ev.neg (by omega) (Ev.const ?_)
    rw [List.drop_eq_nil_of_le (by omega)]
    simp
  | succ d ih =>
    intro i acc hi ha
    have hlt : i < v.length := by omega
    have hg : v.getD i z29 = v[i] := by simp [List.getD, hlt]
    refine Ev.step (fun k => by rw [interval_valid.l0]) ?_
    refine Ev.pos (by omega) (Ev.pos (by omega) (Ev.pos (by omega) ?_))
    simp only [rd29]
    rw [drift_check, hg]
    refine Ev.some_bind ?_
    have ew : wrap64 ((i : Int) + 1) = ((i + 1 : Nat) : Int) := wrap_nat (by omega)
    rw [ew, List.drop_eq_getElem_cons hlt]
    by_cases h : OkI v[i]
    · rw [if_pos h, List.filter_cons_of_pos (by simpa using h)]
      refine Ev.pos rfl (Ev.pos (by omega) ?_)
      have := ih (i + 1) (acc ++ [v[i]]) (by omega) (by simp; omega)
      simpa using this
    · rw [if_neg h, List.filter_cons_of_neg (by simpa using h)]
      exact Ev.neg (by omega) (ih (i + 1) acc (by omega) (by omega))
theorem impl_valid (v : List S29) : Ev (fun k => interval_valid.f k v) (valid v) := by
  unfold interval_valid.f valid
  by_cases h : (v.length : Int) > 48
  · rw [if_pos h]; exact Ev.pos h (Ev.const rfl)
  · rw [if_neg h]
    refine Ev.neg h ?_
    have := valid_from v (by omega) v.length 0 [] (by omega) (by simp)
    simpa using this
theorem valid_len (v : List S29) : (valid v).length ≤ 48 := by
  unfold valid
  split
  · simp
  · exact Nat.le_trans (List.length_filter_le _ _) (by omega)
theorem valid_ok {v : List S29} {s : S29} (h : s ∈ valid v) : OkI s := by
  unfold valid at h
  split at h
  · simp at h
  · simpa using (List.mem_filter.1 h).2

/-! ### Changes -/
def changes (v : List S29) : List S110 := v.flatMap (fun s => [⟨s.f0, 1⟩, ⟨s.f1 + 1, -1⟩])
theorem changes_len (v : List S29) : (changes v).length = 2 * v.length := by
  unfold changes
  induction v with
  | nil => rfl
  | cons a r ih => simp only [List.flatMap_cons, List.length_append, List.length_cons, List.length_nil, ih]; omega
/-- What the changes up to an instant make together. -/
def sumLe (cs : List S110) (t : Int) : Int := (cs.map (fun x => if x.f0 ≤ t then x.f1 else 0)).sum
def total (cs : List S110) : Int := (cs.map (fun x => x.f1)).sum
theorem sumLe_changes (v : List S29) (h : ∀ s ∈ v, s.f0 ≤ s.f1) (t : Int) : sumLe (changes v) t = cnt v t := by
  induction v with
  | nil => rfl
  | cons a r ih =>
    have ih := ih (fun s hs => h s (List.mem_cons_of_mem _ hs))
    have ha := h a (by simp)
    have e1 : sumLe (changes (a :: r)) t = (if a.f0 ≤ t then 1 else 0) + ((if a.f1 + 1 ≤ t then -1 else 0) + sumLe (changes r) t) := by
      simp [sumLe, changes]
    have e2 : cnt (a :: r) t = cnt r t + (if holds a t = true then 1 else 0) := by simp [cnt, List.countP_cons]
    rw [e1, e2, ih]
    by_cases h1 : a.f0 ≤ t <;> by_cases h2 : a.f1 + 1 ≤ t
    · have : ¬ holds a t = true := fun hh => by have := holds_iff.1 hh; omega
      simp [h1, h2, this]; omega
    · have : holds a t = true := holds_iff.2 (by omega)
      simp [h1, h2, this]; omega
    · omega
    · have : ¬ holds a t = true := fun hh => by have := holds_iff.1 hh; omega
      simp [h1, h2, this]
theorem total_changes (v : List S29) : total (changes v) = 0 := by
  induction v with
  | nil => rfl
  | cons a r ih =>
    have : total (changes (a :: r)) = 1 + (-1 + total (changes r)) := by simp [total, changes]
    omega
theorem sum_perm {l l' : List Int} (h : l.Perm l') : l.sum = l'.sum := by
  induction h with
  | nil => rfl
  | cons x _ ih => simp [ih]
  | swap x y l => simp only [List.sum_cons]; omega
  | trans _ _ ih1 ih2 => exact ih1.trans ih2
theorem sumLe_perm {cs cs' : List S110} (h : cs.Perm cs') (t : Int) : sumLe cs t = sumLe cs' t := sum_perm (h.map _)
theorem total_perm {cs cs' : List S110} (h : cs.Perm cs') : total cs = total cs' := sum_perm (h.map _)

theorem runs_from (v : List S29) (hn : v.length ≤ 48) (hok : ∀ s ∈ v, OkI s) (r : List S88)
    (hr : Ev (fun k => (interval_change_82_83.f (changes v)).bind fun t => interval_runs.l1 k t [] 0 t ((changes v).length : Int) 0) r) :
    ∀ d i (acc : List S110), i + d = v.length → acc = changes (v.take i) → Ev (fun k => interval_runs.l0 k acc v v.length i) r := by
  intro d
  induction d with
  | zero =>
    intro i acc hi ha
    refine Ev.step (fun k => by rw [interval_runs.l0]) ?_
    refine Ev.neg (by omega) ?_
    rw [List.take_of_length_le (by omega)] at ha
    subst ha
    exact hr
  | succ d ih =>
    intro i acc hi ha
    have hlt : i < v.length := by omega
    have hg : v.getD i z29 = v[i] := by simp [List.getD, hlt]
    obtain ⟨_, h2, h3⟩ := hok v[i] (List.getElem_mem hlt)
    refine Ev.step (fun k => by rw [interval_runs.l0]) ?_
    refine Ev.pos (by omega) (Ev.pos (by omega) (Ev.pos (by omega) (Ev.some_bind ?_)))
    simp only [rd29]
    have ew : wrap64 ((i : Int) + 1) = ((i + 1 : Nat) : Int) := wrap_nat (by omega)
    have el : acc.length = 2 * i := by rw [ha, changes_len, List.length_take]; omega
    rw [hg, ew, wrap_id (x := v[i].f1 + 1) (by have := hok v[i] (List.getElem_mem hlt); unfold OkI at this; omega) (by omega)]
    refine Ev.pos (by simp [el]; omega) ?_
    refine ih (i + 1) _ (by omega) ?_
    rw [ha, List.take_succ_eq_append_getElem hlt]
    unfold changes
    rw [List.flatMap_append]
    rfl

/-! ### Runs -/
def runsOf : Int → List S110 → List S88
  | _, [] => []
  | _, [_] => []
  | c, x :: y :: rest => if y.f0 > x.f0 then ⟨x.f0, y.f0 - 1, c + x.f1⟩ :: runsOf (c + x.f1) (y :: rest) else runsOf (c + x.f1) (y :: rest)
theorem runsOf_len : ∀ (cs : List S110) (c : Int), (runsOf c cs).length ≤ cs.length
  | [], _ => by simp [runsOf]
  | [_], _ => by simp [runsOf]
  | x :: y :: rest, c => by
    have := runsOf_len (y :: rest) (c + x.f1)
    unfold runsOf
    split
    · simp only [List.length_cons] at this ⊢; omega
    · simp only [List.length_cons] at this ⊢; omega
/-- Small changes at small instants. -/
def Small (cs : List S110) : Prop := ∀ x ∈ cs, -1 ≤ x.f1 ∧ x.f1 ≤ 1 ∧ -8000000000000000000 ≤ x.f0 ∧ x.f0 ≤ 8000000000000000001
theorem runs_l1 (cs : List S110) (hn : cs.length ≤ 96) (hs : Small cs) : ∀ d i (acc : List S88) (c : Int), i + d = cs.length → acc.length ≤ i → -(i : Int) ≤ c → c ≤ i →
    Ev (fun k => interval_runs.l1 k cs acc c cs cs.length i) (acc ++ runsOf c (cs.drop i)) := by
  intro d
  induction d with
  | zero =>
    intro i acc c hi ha _ _
    refine Ev.step (fun k => by rw [interval_runs.l1]) ?_
    refine Ev.neg (by omega) (Ev.const ?_)
    rw [List.drop_eq_nil_of_le (by omega)]
    simp [runsOf]
  | succ d ih =>
    intro i acc c hi ha hc1 hc2
    have hlt : i < cs.length := by omega
    have hg : cs.getD i z110 = cs[i] := by simp [List.getD, hlt]
    obtain ⟨s1, s2, s3, s4⟩ := hs cs[i] (List.getElem_mem hlt)
    refine Ev.step (fun k => by rw [interval_runs.l1]) ?_
    have ew : wrap64 ((i : Int) + 1) = ((i + 1 : Nat) : Int) := wrap_nat (by omega)
    have ec : wrap64 (c + cs[i].f1) = c + cs[i].f1 := wrap_id (by omega) (by omega)
    refine Ev.pos (by omega) (Ev.pos (by omega) (Ev.pos (by omega) ?_))
    rw [ew]
    simp only [rd110]
    rw [hg, ec]
    rcases Nat.lt_or_ge (i + 1) cs.length with h1 | h1
    · have hg1 : cs.getD (i + 1) z110 = cs[i + 1] := by simp [List.getD, h1]
      obtain ⟨t1, t2, t3, t4⟩ := hs cs[i + 1] (List.getElem_mem h1)
      rw [hg1]
      refine Ev.pos (by omega) (Ev.pos (by omega) ?_)
      rw [List.drop_eq_getElem_cons hlt, List.drop_eq_getElem_cons h1]
      unfold runsOf
      by_cases hgt : cs[i + 1].f0 > cs[i].f0
      · rw [if_pos hgt]
        refine Ev.pos hgt (Ev.pos (by omega) ?_)
        rw [wrap_id (x := cs[i + 1].f0 - 1) (by omega) (by omega)]
        have := ih (i + 1) (acc ++ [⟨cs[i].f0, cs[i + 1].f0 - 1, c + cs[i].f1⟩]) (c + cs[i].f1) (by omega) (by simp; omega) (by omega) (by omega)
        rw [List.drop_eq_getElem_cons h1] at this
        simpa using this
      · rw [if_neg hgt]
        refine Ev.neg hgt ?_
        have := ih (i + 1) acc (c + cs[i].f1) (by omega) (by omega) (by omega) (by omega)
        rw [List.drop_eq_getElem_cons h1] at this
        exact this
    · refine Ev.neg (by omega) ?_
      have := ih (i + 1) acc (c + cs[i].f1) (by omega) (by omega) (by omega) (by omega)
      rw [List.drop_eq_getElem_cons hlt, List.drop_eq_nil_of_le (by omega)]
      rw [List.drop_eq_nil_of_le (by omega)] at this
      simpa [runsOf] using this

def sorted (v : List S29) : List S110 := sortChange (changes v)
theorem small_changes {v : List S29} (hok : ∀ s ∈ v, OkI s) : Small (changes v) := by
  intro x hx
  obtain ⟨s, hs, hx⟩ := List.mem_flatMap.1 hx
  obtain ⟨h1, h2, h3⟩ := hok s hs
  simp only [List.mem_cons, List.not_mem_nil, or_false] at hx
  rcases hx with rfl | rfl
  · exact ⟨by show (-1 : Int) ≤ 1; omega, by show (1 : Int) ≤ 1; omega, h2, by show s.f0 ≤ _; omega⟩
  · exact ⟨by show (-1 : Int) ≤ -1; omega, by show (-1 : Int) ≤ 1; omega, by show _ ≤ s.f1 + 1; omega, by show s.f1 + 1 ≤ _; omega⟩
theorem sorted_perm (v : List S29) : (sorted v).Perm (changes v) := (sortChange_spec _).2.1
theorem sorted_sorted (v : List S29) : (sorted v).Pairwise (fun x y => x.f0 ≤ y.f0) := by
  have h := (sortChange_spec (changes v)).2.2
  have hsz := (sortChange_spec (changes v)).1
  rw [List.pairwise_iff_getElem]
  intro i j hi hj hij
  have hj' : j < (pdqChange (changes v)).size := by simpa [sorted, sortChange] using hj
  have hi' : i < (pdqChange (changes v)).size := by omega
  have := h i j (Nat.zero_le _) hij (by omega)
  rw [lt110] at this
  have e1 : (pdqChange (changes v))[i]! = (sorted v)[i] := by
    rw [getElem!_pos _ i hi']; simp [sorted, sortChange]
  have e2 : (pdqChange (changes v))[j]! = (sorted v)[j] := by
    rw [getElem!_pos _ j hj']; simp [sorted, sortChange]
  rw [e1, e2] at this
  simp at this
  exact this
def runs (v : List S29) : List S88 := runsOf 0 (sorted (valid v))
theorem impl_runs (v : List S29) : Ev (fun k => interval_runs.f k v) (runs v) := by
  unfold interval_runs.f
  refine Ev.bind' _ (impl_valid v) ?_
  have hl := valid_len v
  have hs := sorted_perm (valid v)
  have hsm : Small (sorted (valid v)) := fun x hx => small_changes (fun s hs => valid_ok hs) x (hs.mem_iff.1 hx)
  have hlen : (sorted (valid v)).length = (changes (valid v)).length := hs.length_eq
  have hl2 : (sorted (valid v)).length ≤ 96 := by rw [hlen, changes_len]; omega
  refine runs_from (valid v) hl (fun s hs => valid_ok hs) _ ?_ (valid v).length 0 [] (by omega) (by simp [changes])
  have ef : interval_change_82_83.f (changes (valid v)) = some (sorted (valid v)) := by
    unfold interval_change_82_83.f
    rw [if_pos (by rw [← hlen]; omega)]
    rfl
  rw [ef]
  refine Ev.some_bind ?_
  rw [← hlen]
  have := runs_l1 (sorted (valid v)) hl2 hsm (sorted (valid v)).length 0 [] 0 (by omega) (by simp) (by simp) (by simp)
  simpa [runs] using this

/-! ### What the runs tell -/
theorem sumLe_cons (x : S110) (cs : List S110) (t : Int) : sumLe (x :: cs) t = (if x.f0 ≤ t then x.f1 else 0) + sumLe cs t := by simp [sumLe]
theorem sumLe_none {cs : List S110} {t : Int} (h : ∀ x ∈ cs, t < x.f0) : sumLe cs t = 0 := by
  induction cs with
  | nil => rfl
  | cons a r ih =>
    rw [sumLe_cons, ih (fun x hx => h x (List.mem_cons_of_mem _ hx)), if_neg (by have := h a (by simp); omega)]
    rfl
theorem sumLe_all {cs : List S110} {t : Int} (h : ∀ x ∈ cs, x.f0 ≤ t) : sumLe cs t = total cs := by
  induction cs with
  | nil => rfl
  | cons a r ih =>
    rw [sumLe_cons, ih (fun x hx => h x (List.mem_cons_of_mem _ hx)), if_pos (h a (by simp))]
    simp [total]
/-- Within a run the count stands; the runs follow one another; what is between the first change and the last one lies in one. -/
theorem runsOf_spec : ∀ (cs : List S110) (c : Int), cs.Pairwise (fun x y => x.f0 ≤ y.f0) →
    (∀ r ∈ runsOf c cs, r.f0 ≤ r.f1 ∧ (∀ t, r.f0 ≤ t → t ≤ r.f1 → c + sumLe cs t = r.f2) ∧ (∀ x ∈ cs.head?, x.f0 ≤ r.f0)) ∧
    (runsOf c cs).Pairwise (fun r q => r.f1 < q.f0) ∧
    (∀ t, (∃ x ∈ cs, x.f0 ≤ t) → (∃ x ∈ cs, t < x.f0) → ∃ r ∈ runsOf c cs, r.f0 ≤ t ∧ t ≤ r.f1)
  | [], c, _ => ⟨by simp [runsOf], by simp [runsOf], by simp⟩
  | [x], c, _ => ⟨by simp [runsOf], by simp [runsOf], fun t ⟨a, ha, h1⟩ ⟨b, hb, h2⟩ => by
      simp only [List.mem_cons, List.not_mem_nil, or_false] at ha hb
      subst ha; subst hb; omega⟩
  | x :: y :: rest, c, hp => by
    obtain ⟨hx, hp'⟩ := List.pairwise_cons.1 hp
    obtain ⟨i1, i2, i3⟩ := runsOf_spec (y :: rest) (c + x.f1) hp'
    have hxy := hx y (by simp)
    have later : ∀ t, x.f0 ≤ t → c + sumLe (x :: y :: rest) t = c + x.f1 + sumLe (y :: rest) t := fun t ht => by
      rw [sumLe_cons, if_pos ht]; omega
    have hy : ∀ z ∈ y :: rest, y.f0 ≤ z.f0 := fun z hz => by
      rcases List.mem_cons.1 hz with rfl | hz
      · exact Int.le_refl _
      · exact (List.pairwise_cons.1 hp').1 z hz
    have tail : ∀ r ∈ runsOf (c + x.f1) (y :: rest), r.f0 ≤ r.f1 ∧ (∀ t, r.f0 ≤ t → t ≤ r.f1 → c + sumLe (x :: y :: rest) t = r.f2) ∧ y.f0 ≤ r.f0 := fun r hr => by
      obtain ⟨a, b, d⟩ := i1 r hr
      have d' := d y rfl
      exact ⟨a, fun t h1 h2 => by rw [later t (by omega)]; exact b t h1 h2, d'⟩
    have cover : ∀ t, y.f0 ≤ t → (∃ z ∈ x :: y :: rest, t < z.f0) → ∃ r ∈ runsOf (c + x.f1) (y :: rest), r.f0 ≤ t ∧ t ≤ r.f1 := fun t ht ⟨z, hz, h2⟩ => by
      refine i3 t ⟨y, by simp, ht⟩ ⟨z, ?_, h2⟩
      rcases List.mem_cons.1 hz with rfl | hz
      · omega
      · exact hz
    unfold runsOf
    by_cases hgt : y.f0 > x.f0
    · rw [if_pos hgt]
      refine ⟨fun r hr => ?_, ?_, fun t ⟨a, ha, h1⟩ h2 => ?_⟩
      · rcases List.mem_cons.1 hr with rfl | hr
        · refine ⟨by show x.f0 ≤ y.f0 - 1; omega, fun t h1 h2 => ?_, fun z hz => by simp at hz; subst hz; exact Int.le_refl _⟩
          have h2' : t ≤ y.f0 - 1 := h2
          rw [later t h1, sumLe_none (fun z hz => by have := hy z hz; omega)]
          show c + x.f1 + 0 = c + x.f1
          omega
        · obtain ⟨a, b, d⟩ := tail r hr
          exact ⟨a, b, fun z hz => by simp at hz; subst hz; omega⟩
      · refine List.pairwise_cons.2 ⟨fun r hr => ?_, i2⟩
        have := (tail r hr).2.2
        show y.f0 - 1 < r.f0
        omega
      · by_cases hy2 : y.f0 ≤ t
        · obtain ⟨r, hr, h⟩ := cover t hy2 h2
          exact ⟨r, List.mem_cons_of_mem _ hr, h⟩
        · refine ⟨_, List.mem_cons_self, ?_, by show t ≤ y.f0 - 1; omega⟩
          show x.f0 ≤ t
          rcases List.mem_cons.1 ha with rfl | ha
          · exact h1
          · have := hx a ha; omega
    · rw [if_neg hgt]
      refine ⟨fun r hr => ?_, i2, fun t ⟨a, ha, h1⟩ h2 => ?_⟩
      · obtain ⟨a, b, d⟩ := tail r hr
        exact ⟨a, b, fun z hz => by simp at hz; subst hz; omega⟩
      · refine cover t ?_ h2
        rcases List.mem_cons.1 ha with rfl | ha
        · omega
        · exact Int.le_trans (hy a ha) h1

/-- The runs of a list of intervals: pieces in which the count stands, one behind the other; every instant that an interval holds lies in one. -/
theorem runs_spec (v : List S29) :
    (∀ r ∈ runs v, r.f0 ≤ r.f1 ∧ ∀ t, r.f0 ≤ t → t ≤ r.f1 → (cnt (valid v) t : Int) = r.f2) ∧ (runs v).Pairwise (fun r q => r.f1 < q.f0) ∧ ∀ t, 1 ≤ cnt (valid v) t → ∃ r ∈ runs v, r.f0 ≤ t ∧ t ≤ r.f1 := by
  have hs : ∀ t, sumLe (sorted (valid v)) t = cnt (valid v) t := fun t => by
    rw [sumLe_perm (sorted_perm _), sumLe_changes _ (fun s hs => (valid_ok hs).1)]
  obtain ⟨h1, h2, h3⟩ := runsOf_spec (sorted (valid v)) 0 (sorted_sorted _)
  refine ⟨fun r hr => ⟨(h1 r hr).1, fun t ha hb => ?_⟩, h2, fun t ht => h3 t ?_ ?_⟩
  · rw [← hs t]
    have := (h1 r hr).2.1 t ha hb
    omega
  · refine Classical.byContradiction fun hc => ?_
    have : sumLe (sorted (valid v)) t = 0 := sumLe_none fun x hx => Int.not_le.1 fun hle => hc ⟨x, hx, hle⟩
    rw [hs] at this
    omega
  · refine Classical.byContradiction fun hc => ?_
    have : sumLe (sorted (valid v)) t = total (sorted (valid v)) := sumLe_all fun x hx => Int.not_lt.1 fun hlt => hc ⟨x, hx, hlt⟩
    rw [hs, total_perm (sorted_perm _), total_changes] at this
    omega
theorem runs_len (v : List S29) : (runs v).length ≤ 96 := by
  have h := runsOf_len (sorted (valid v)) 0
  rw [(sorted_perm _).length_eq, changes_len] at h
  have := valid_len v
  unfold runs
  omega

/-! ### The hull -/
theorem index_from (R : List S88) (hn : R.length ≤ 96) (need : Int) : ∀ d i, i + d = R.length → (∀ j, j < i → (R.getD j z88).f2 < need) →
    (∃ j : Nat, j < R.length ∧ Ev (fun k => interval_run_64_63.l0 k R R.length i need) (j : Int) ∧ need ≤ (R.getD j z88).f2 ∧ ∀ q, q < j → (R.getD q z88).f2 < need) ∨
    (Ev (fun k => interval_run_64_63.l0 k R R.length i need) (-1) ∧ ∀ q, q < R.length → (R.getD q z88).f2 < need) := by
  intro d
  induction d with
  | zero =>
    intro i hi hm
    refine .inr ⟨?_, fun q hq => hm q (by omega)⟩
    refine Ev.step (fun k => by rw [interval_run_64_63.l0]) ?_
    exact Ev.neg (by omega) (Ev.const rfl)
  | succ d ih =>
    intro i hi hm
    have st : ∀ r, Ev (fun k => if decide ((R.getD i z88).f2 ≥ need) = true then some (i : Int) else interval_run_64_63.l0 k R R.length ((i + 1 : Nat) : Int) need) r → Ev (fun k => interval_run_64_63.l0 k R R.length i need) r := by
      intro r hr
      refine Ev.step (fun k => by rw [interval_run_64_63.l0]) ?_
      refine Ev.pos (by omega) (Ev.pos (by omega) (Ev.pos (by omega) ?_))
      simp only [rd88, interval_Hull_1.f]
      refine Ev.some_bind ?_
      rw [wrap_nat (by omega)]
      exact hr
    by_cases h : (R.getD i z88).f2 ≥ need
    · exact .inl ⟨i, by omega, st _ (Ev.pos (by simpa using h) (Ev.const rfl)), h, hm⟩
    · have hm' : ∀ j, j < i + 1 → (R.getD j z88).f2 < need := fun j hj => by
        rcases Nat.lt_or_ge j i with hji | hji
        · exact hm j hji
        · have e : j = i := by omega
          subst e
          exact Int.not_le.1 h
      rcases ih (i + 1) (by omega) hm' with ⟨j, h1, h2, h3, h4⟩ | ⟨h1, h2⟩
      · exact .inl ⟨j, h1, st _ (Ev.neg (by simpa using h) h2), h3, h4⟩
      · exact .inr ⟨st _ (Ev.neg (by simpa using h) h1), h2⟩
theorem impl_index (R : List S88) (hn : R.length ≤ 96) (need : Int) :
    (∃ j : Nat, j < R.length ∧ Ev (fun k => interval_run_64_63.f k R need) (j : Int) ∧ need ≤ (R.getD j z88).f2 ∧ ∀ q, q < j → (R.getD q z88).f2 < need) ∨
    (Ev (fun k => interval_run_64_63.f k R need) (-1) ∧ ∀ q, q < R.length → (R.getD q z88).f2 < need) :=
  index_from R hn need R.length 0 (by omega) (fun j hj => by omega)
theorem getD_mem {R : List S88} {j : Nat} (h : j < R.length) : R.getD j z88 ∈ R := by simp [List.getD, h]
theorem mem_getD {R : List S88} {r : S88} (h : r ∈ R) : ∃ j, j < R.length ∧ R.getD j z88 = r := by
  obtain ⟨j, hj, rfl⟩ := List.getElem_of_mem h
  exact ⟨j, hj, by simp [List.getD, hj]⟩

theorem impl_hull (v : List S29) (need : Int) : ∃ lo hi ok, Ev (fun k => interval_Hull.f k v need) (lo, hi, ok) ∧ HullSpec (valid v) need lo hi ok := by
  obtain ⟨s1, s2, s3⟩ := runs_spec v
  have hl := runs_len v
  have ix := impl_index (runs v) hl need
  have st : ∀ (i : Int) r, Ev (fun k => interval_run_64_63.f k (runs v) need) i → Ev (fun k => if need < 1 then (interval_Hull.j0 k (runs v) i true need) else (interval_Hull.j0 k (runs v) i (decide (i < 0)) need)) r → Ev (fun k => interval_Hull.f k v need) r := fun i r h1 h2 => by
    unfold interval_Hull.f
    exact Ev.bind' _ (impl_runs v) (Ev.bind' _ h1 h2)
  by_cases hneed : need < 1
  · have e0 : ∀ i : Int, Ev (fun k => interval_Hull.j0 k (runs v) i true need) (0, 0, false) := fun i => by
      refine Ev.step (fun k => by rw [interval_Hull.j0]) ?_
      exact Ev.pos rfl (Ev.const rfl)
    refine ⟨0, 0, false, ?_, .inr ⟨rfl, rfl, rfl, .inl hneed⟩⟩
    rcases ix with ⟨j, _, h2, _⟩ | ⟨h1, _⟩
    · exact st _ _ h2 (Ev.pos hneed (e0 _))
    · exact st _ _ h1 (Ev.pos hneed (e0 _))
  · rcases ix with ⟨j, hj, h2, h3, h4⟩ | ⟨h1, h2⟩
    · have ir := impl_index (runs v).reverse (by simpa using hl) need
      have er : interval_run_65.f (runs v) = some (runs v).reverse := by
        unfold interval_run_65.f
        rw [if_pos (by omega)]
      have rev : ∀ q, q < (runs v).length → (runs v).reverse.getD q z88 = (runs v).getD ((runs v).length - 1 - q) z88 := fun q hq => by
        simp [List.getD, List.getElem?_reverse hq]
      rcases ir with ⟨q, hq, g2, g3, g4⟩ | ⟨g1, g2⟩
      · have hq' : q < (runs v).length := by simpa using hq
        have hp : (runs v).length - 1 - q < (runs v).length := by omega
        rw [rev q hq'] at g3
        have ord : ∀ a b, a < b → b < (runs v).length → ((runs v).getD a z88).f1 < ((runs v).getD b z88).f0 := fun a b hab hb => by
          have ha : a < (runs v).length := by omega
          have := (List.pairwise_iff_getElem.1 s2) a b ha hb hab
          simpa [List.getD, ha, hb] using this
        refine ⟨((runs v).getD j z88).f0, ((runs v).getD ((runs v).length - 1 - q) z88).f1, true, ?_, .inl ⟨rfl, by omega, ?_, ?_, fun t ht => ?_⟩⟩
        · refine st _ _ h2 (Ev.neg hneed ?_)
          rw [decide_eq_false (by omega : ¬ (j : Int) < 0)]
          refine Ev.step (fun k => by rw [interval_Hull.j0]) ?_
          refine Ev.neg (by simp) (Ev.pos (by omega) (Ev.pos (by omega) ?_))
          rw [er]
          refine Ev.some_bind (Ev.bind' _ g2 (Ev.pos (by omega) (Ev.pos (by omega) (Ev.const ?_))))
          rw [rd88, rd88, rev q hq']
        · obtain ⟨a, b⟩ := s1 _ (getD_mem hj)
          rw [b _ (Int.le_refl _) a]; exact h3
        · obtain ⟨a, b⟩ := s1 _ (getD_mem hp)
          rw [b _ a (Int.le_refl _)]; exact g3
        · obtain ⟨r, hr, h5, h6⟩ := s3 t (by omega)
          have h7 := (s1 r hr).2 t h5 h6
          obtain ⟨m, hm, rfl⟩ := mem_getD hr
          constructor
          · rcases Nat.lt_or_ge m j with hmj | hmj
            · have := h4 m hmj; omega
            · rcases Nat.eq_or_lt_of_le hmj with e | hmj
              · rw [e]; exact h5
              · have := ord j m hmj hm
                have := (s1 _ (getD_mem hj)).1
                omega
          · rcases Nat.lt_or_ge ((runs v).length - 1 - q) m with hmq | hmq
            · have hx : (runs v).length - 1 - m < q := by omega
              have := g4 _ hx
              rw [rev _ (by omega), show (runs v).length - 1 - ((runs v).length - 1 - m) = m by omega] at this
              omega
            · rcases Nat.eq_or_lt_of_le hmq with e | hmq
              · rw [← e]; exact h6
              · have := ord m _ hmq hp
                have := (s1 _ (getD_mem hp)).1
                omega
      · exfalso
        have := g2 ((runs v).length - 1 - j) (by rw [List.length_reverse]; omega)
        rw [rev _ (by omega), show (runs v).length - 1 - ((runs v).length - 1 - j) = j by omega] at this
        omega
    · refine ⟨0, 0, false, ?_, .inr ⟨rfl, rfl, rfl, .inr fun t => ?_⟩⟩
      · refine st _ _ h1 (Ev.neg hneed ?_)
        rw [show decide ((-1 : Int) < 0) = true from rfl]
        refine Ev.step (fun k => by rw [interval_Hull.j0]) ?_
        exact Ev.pos rfl (Ev.const rfl)
      · rcases Nat.eq_zero_or_pos (cnt (valid v) t) with h0 | h0
        · omega
        · obtain ⟨r, hr, h5, h6⟩ := s3 t h0
          obtain ⟨q, hq, rfl⟩ := mem_getD hr
          have := h2 q hq
          rw [(s1 _ hr).2 t h5 h6]
          exact this
end Go.Proofs.Ytlfilhplklifjaa.PA

/- The selection, the falsetickers, the majority: both texts tell the same. -/
namespace Go.Proofs.Ytlfilhplklifjaa.PA
open Go.RowKit Go.Proofs.Ytlfilhplklifjaa.X Go.Proofs.YtlfilhplklifjaaW.PrintWords Go.Proofs.YtlfilhplklifjaaW.PrintLast

theorem eq_from (x y : List Int) (hx : x.length < 9223372036854775807) (he : x.length = y.length) : ∀ d i, i + d = x.length → Ev (fun k => slices_Equal_int_int.l0 k x y x.length i) (decide (x.drop i = y.drop i)) := by
  intro d
  induction d with
  | zero =>
    intro i hi
    refine Ev.step (fun k => by rw [slices_Equal_int_int.l0]) ?_
    refine Ev.neg (by omega) (Ev.const ?_)
    rw [List.drop_eq_nil_of_le (by omega), List.drop_eq_nil_of_le (by omega)]
    simp
  | succ d ih =>
    intro i hi
    have h1 : i < x.length := by omega
    have h2 : i < y.length := by omega
    refine Ev.step (fun k => by rw [slices_Equal_int_int.l0]) ?_
    refine Ev.pos (by omega) (Ev.pos (by omega) (Ev.pos (by omega) (Ev.pos (by omega) ?_)))
    rw [rdI, rdI, wrap_nat (by omega)]
    rw [List.drop_eq_getElem_cons h1, List.drop_eq_getElem_cons h2]
    have e1 : x.getD i 0 = x[i] := by simp [List.getD, h1]
    have e2 : y.getD i 0 = y[i] := by simp [List.getD, h2]
    rw [e1, e2]
    by_cases h : x[i] = y[i]
    · refine Ev.pos h ?_
      have e : decide (x[i] :: x.drop (i + 1) = y[i] :: y.drop (i + 1)) = decide (x.drop (i + 1) = y.drop (i + 1)) := by
        refine decide_eq_decide.2 ?_
        simp only [List.cons.injEq, h, true_and]
      rw [e]
      exact ih (i + 1) (by omega)
    · refine Ev.neg h (Ev.const ?_)
      rw [decide_eq_false fun he => h (List.cons.inj he).1]
theorem eq_ints (x y : List Int) (hx : x.length < 9223372036854775807) : Ev (fun k => slices_Equal_int_int.f k x y) (decide (x = y)) := by
  unfold slices_Equal_int_int.f
  by_cases h : (x.length : Int) = (y.length : Int)
  · refine Ev.pos h ?_
    have := eq_from x y hx (by omega) x.length 0 (by omega)
    simpa using this
  · refine Ev.neg h (Ev.const ?_)
    have : x ≠ y := fun e => h (by rw [e])
    simp [this]

/-- What a selection is. -/
structure SelOk (l : List S37) (p : List Int) (lo hi : Int) : Prop where
  chk0 : chk l = 0
  wit : ∃ a : Nat, 2 * a < l.length ∧ HullSpec (spans l) ((l.length : Int) - a) lo hi true ∧ (l.length : Int) - (p.length : Int) ≤ a ∧ ∀ b : Nat, b < a → ∀ lo' hi', HullSpec (spans l) ((l.length : Int) - b) lo' hi' true → (b : Int) < (l.length : Int) - ((idx l (pIn lo' hi')).length : Int)
  pos : p = idx l (pIn lo hi)
/-! ### Majority -/
end Go.Proofs.Ytlfilhplklifjaa.PA
