/- Ytlfilhplklifjaa: part 3 of 3 of the proof that the law ChooseShifts returns true for every input, its arguments reading as before. No condition. -/
import Derived.Test.YtlfilhplklifjaaMChooseShifts1
import Derived.Test.YtlfilhplklifjaaMChooseShifts2
import Derived.Laws.AppendOwn
import Derived.KernelRfl
import Derived.Test.YtlfilhplklifjaaWMore
import Derived.Deep.Slices
import Derived.DataReads
import Derived.Test.YtlfilhplklifjaaRows
import Derived.WalkKit
import Derived.ProofKit
import Derived.OpenShut
import Derived.ShutString
import Derived.ChangeOld
import Derived.Below
import Derived.SizedLaws
import Derived.WideShapes
namespace Go.Proofs.Ytlfilhplklifjaa.X
open Go.RowKit Go.Proofs.YtlfilhplklifjaaW.PrintWords Go.Proofs.YtlfilhplklifjaaW.PrintLast Go.Proofs.YtlfilhplklifjaaW.PrintMore
attribute [local go_sem] max2_int min2_int max_two min_two max_three min_three max_four min_four   -- for this text's walks alone
set_option linter.unusedVariables false
set_option linter.unusedSimpArgs false

attribute [local go_sem high] eqA29
/-! ### timesynclaw24_awake: function 14 -/
def timesynclaw24_awake.f (k : Nat)  : Option (Bool) := (some (([(⟨1, 0, 10, 0, 1⟩ : S37), (⟨2, 4, 10, 0, 1⟩ : S37), (⟨3, 100, 5, 0, 1⟩ : S37)] : List (S37)) : List (S37))).bind fun y207 => ((choose_Select.f k y207).bind fun bt210 => ((choose_Falsetickers.f k y207).bind fun bt217 => ((choose_Select.f k (([(⟨1, 0, 5, 0, 1⟩ : S37), (⟨2, 10, 5, 0, 1⟩ : S37)] : List (S37)))).bind fun bt224 => ((slices_Equal_int_int.f k bt210.1 (([0, 1] : List Int))).bind fun t234 => (if t234 = true then (if (bt210.2.1 == (-6) && (bt210.2.2.1 == 10)) = true then (if bt210.2.2.2 = 0 then ((slices_Equal_int_int.f k bt217.1 (([2] : List Int))).bind fun t238 => (if t238 = true then (if bt217.2 = 0 then (if bt224.2.2.2 = 11 then ((choose_Majority.f k y207 12 14).bind fun t239 => (if (t239 == false) = true then ((choose_Majority.f k y207 10 14).bind fun t240 => (some t240)) else (none))) else (none)) else (none)) else (none))) else (none)) else (none)) else (none))))))
theorem timesynclaw24_awake.mono : ∀ k, LeO (timesynclaw24_awake.f k ) (timesynclaw24_awake.f (k + 1) ) := by
 intro  k
 unfold timesynclaw24_awake.f
 repeat' first
   | (with_reducible exact choose_Falsetickers.mono _ _)
   | (with_reducible exact choose_Majority.mono _ _ _ _)
   | (with_reducible exact choose_Select.mono _ _)
   | (with_reducible exact slices_Equal_int_int.mono _ _ _)
   | (with_reducible exact LeO.refl _)
   | (with_reducible exact LeO.none _)
   | (with_reducible refine LeO.ite ?_ ?_)
   | (with_reducible refine LeO.bind ?_ (fun _ => ?_))
   | exact choose_Falsetickers.mono _ _
   | exact choose_Majority.mono _ _ _ _
   | exact choose_Select.mono _ _
   | exact slices_Equal_int_int.mono _ _ _
   | exact LeO.none _
   | refine LeO.ite ?_ ?_
   | refine LeO.bind ?_ (fun _ => ?_)
set_option maxHeartbeats 8000000 in
set_option maxRecDepth 100000 in
theorem timesynclaw24_awake.calls (k : Nat)  (r : Bool) (w : World) (h : timesynclaw24_awake.f k  = some r) :
  Calls Try.prog 14 #[] w fun e w' => e = .returned (.bool r) ∧ Below w.heap.size w w' := by
 have hu37 := Try.underlying37
 have hu29 := Try.underlying29
 have HB := Aside0.mk (Below.refl w.heap.size w)
 have H : ((some (([(⟨1, 0, 10, 0, 1⟩ : S37), (⟨2, 4, 10, 0, 1⟩ : S37), (⟨3, 100, 5, 0, 1⟩ : S37)] : List (S37)) : List (S37))).bind fun y207 => ((choose_Select.f k y207).bind fun bt210 => ((choose_Falsetickers.f k y207).bind fun bt217 => ((choose_Select.f k (([(⟨1, 0, 5, 0, 1⟩ : S37), (⟨2, 10, 5, 0, 1⟩ : S37)] : List (S37)))).bind fun bt224 => ((slices_Equal_int_int.f k bt210.1 (([0, 1] : List Int))).bind fun t234 => (if t234 = true then (if (bt210.2.1 == (-6) && (bt210.2.2.1 == 10)) = true then (if bt210.2.2.2 = 0 then ((slices_Equal_int_int.f k bt217.1 (([2] : List Int))).bind fun t238 => (if t238 = true then (if bt217.2 = 0 then (if bt224.2.2.2 = 11 then ((choose_Majority.f k y207 12 14).bind fun t239 => (if (t239 == false) = true then ((choose_Majority.f k y207 10 14).bind fun t240 => (some t240)) else (none))) else (none)) else (none)) else (none))) else (none)) else (none)) else (none))))))) = some r := h
 clear h
 obtain ⟨y207, hy207⟩ : ∃ y_ : List (S37), y_ = (([(⟨1, 0, 10, 0, 1⟩ : S37), (⟨2, 4, 10, 0, 1⟩ : S37), (⟨3, 100, 5, 0, 1⟩ : S37)] : List (S37))) := ⟨_, rfl⟩
 replace H : ((choose_Select.f k y207).bind fun bt210 => ((choose_Falsetickers.f k y207).bind fun bt217 => ((choose_Select.f k (([(⟨1, 0, 5, 0, 1⟩ : S37), (⟨2, 10, 5, 0, 1⟩ : S37)] : List (S37)))).bind fun bt224 => ((slices_Equal_int_int.f k bt210.1 (([0, 1] : List Int))).bind fun t234 => (if t234 = true then (if (bt210.2.1 == (-6) && (bt210.2.2.1 == 10)) = true then (if bt210.2.2.2 = 0 then ((slices_Equal_int_int.f k bt217.1 (([2] : List Int))).bind fun t238 => (if t238 = true then (if bt217.2 = 0 then (if bt224.2.2.2 = 11 then ((choose_Majority.f k y207 12 14).bind fun t239 => (if (t239 == false) = true then ((choose_Majority.f k y207 10 14).bind fun t240 => (some t240)) else (none))) else (none)) else (none)) else (none))) else (none)) else (none)) else (none)))))) = some r := by first | (rw [hy207]; with_reducible exact H) | (have H2_ := (Option.bind_some _ _).symm.trans H; rw [hy207]; with_reducible exact H2_) | (have H2_ := (Option.bind_some _ _).symm.trans H; with_reducible exact H2_) | with_reducible exact H | (rw [hy207]; exact H) | exact H
 have Ny207 := Aside0.mk hy207
 clear hy207
 replace H := Option.bind_eq_some_iff.mp H
 obtain ⟨⟨t210, t213, t214, t215⟩, A10, H⟩ := H
 replace H : ((choose_Falsetickers.f k y207).bind fun bt217 => ((choose_Select.f k (([(⟨1, 0, 5, 0, 1⟩ : S37), (⟨2, 10, 5, 0, 1⟩ : S37)] : List (S37)))).bind fun bt224 => ((slices_Equal_int_int.f k t210 (([0, 1] : List Int))).bind fun t234 => (if t234 = true then (if (t213 == (-6) && (t214 == 10)) = true then (if t215 = 0 then ((slices_Equal_int_int.f k bt217.1 (([2] : List Int))).bind fun t238 => (if t238 = true then (if bt217.2 = 0 then (if bt224.2.2.2 = 11 then ((choose_Majority.f k y207 12 14).bind fun t239 => (if (t239 == false) = true then ((choose_Majority.f k y207 10 14).bind fun t240 => (some t240)) else (none))) else (none)) else (none)) else (none))) else (none)) else (none)) else (none))))) = some r := H
 have A1 := Aside0.mk A10
 clear A10
 replace H := Option.bind_eq_some_iff.mp H
 obtain ⟨⟨t217, t218⟩, A20, H⟩ := H
 replace H : ((choose_Select.f k (([(⟨1, 0, 5, 0, 1⟩ : S37), (⟨2, 10, 5, 0, 1⟩ : S37)] : List (S37)))).bind fun bt224 => ((slices_Equal_int_int.f k t210 (([0, 1] : List Int))).bind fun t234 => (if t234 = true then (if (t213 == (-6) && (t214 == 10)) = true then (if t215 = 0 then ((slices_Equal_int_int.f k t217 (([2] : List Int))).bind fun t238 => (if t238 = true then (if t218 = 0 then (if bt224.2.2.2 = 11 then ((choose_Majority.f k y207 12 14).bind fun t239 => (if (t239 == false) = true then ((choose_Majority.f k y207 10 14).bind fun t240 => (some t240)) else (none))) else (none)) else (none)) else (none))) else (none)) else (none)) else (none)))) = some r := H
 have A2 := Aside0.mk A20
 clear A20
 obtain ⟨y221, hy221⟩ : ∃ y_ : List (S37), y_ = (([(⟨1, 0, 5, 0, 1⟩ : S37), (⟨2, 10, 5, 0, 1⟩ : S37)] : List (S37))) := ⟨_, rfl⟩
 replace H : ((choose_Select.f k y221).bind fun bt224 => ((slices_Equal_int_int.f k t210 (([0, 1] : List Int))).bind fun t234 => (if t234 = true then (if (t213 == (-6) && (t214 == 10)) = true then (if t215 = 0 then ((slices_Equal_int_int.f k t217 (([2] : List Int))).bind fun t238 => (if t238 = true then (if t218 = 0 then (if bt224.2.2.2 = 11 then ((choose_Majority.f k y207 12 14).bind fun t239 => (if (t239 == false) = true then ((choose_Majority.f k y207 10 14).bind fun t240 => (some t240)) else (none))) else (none)) else (none)) else (none))) else (none)) else (none)) else (none)))) = some r := by first | (rw [hy221]; with_reducible exact H) | (have H2_ := (Option.bind_some _ _).symm.trans H; rw [hy221]; with_reducible exact H2_) | (have H2_ := (Option.bind_some _ _).symm.trans H; with_reducible exact H2_) | with_reducible exact H | (rw [hy221]; exact H) | exact H
 have Ny221 := Aside0.mk hy221
 clear hy221
 replace H := Option.bind_eq_some_iff.mp H
 obtain ⟨⟨t224, t227, t228, t229⟩, A30, H⟩ := H
 replace H : ((slices_Equal_int_int.f k t210 (([0, 1] : List Int))).bind fun t234 => (if t234 = true then (if (t213 == (-6) && (t214 == 10)) = true then (if t215 = 0 then ((slices_Equal_int_int.f k t217 (([2] : List Int))).bind fun t238 => (if t238 = true then (if t218 = 0 then (if t229 = 11 then ((choose_Majority.f k y207 12 14).bind fun t239 => (if (t239 == false) = true then ((choose_Majority.f k y207 10 14).bind fun t240 => (some t240)) else (none))) else (none)) else (none)) else (none))) else (none)) else (none)) else (none))) = some r := H
 have A3 := Aside0.mk A30
 clear A30
 obtain ⟨y231, hy231⟩ : ∃ y_ : List Int, y_ = (([0, 1] : List Int)) := ⟨_, rfl⟩
 replace H : ((slices_Equal_int_int.f k t210 y231).bind fun t234 => (if t234 = true then (if (t213 == (-6) && (t214 == 10)) = true then (if t215 = 0 then ((slices_Equal_int_int.f k t217 (([2] : List Int))).bind fun t238 => (if t238 = true then (if t218 = 0 then (if t229 = 11 then ((choose_Majority.f k y207 12 14).bind fun t239 => (if (t239 == false) = true then ((choose_Majority.f k y207 10 14).bind fun t240 => (some t240)) else (none))) else (none)) else (none)) else (none))) else (none)) else (none)) else (none))) = some r := by first | (rw [hy231]; with_reducible exact H) | (have H2_ := (Option.bind_some _ _).symm.trans H; rw [hy231]; with_reducible exact H2_) | (have H2_ := (Option.bind_some _ _).symm.trans H; with_reducible exact H2_) | with_reducible exact H | (rw [hy231]; exact H) | exact H
 have Ny231 := Aside0.mk hy231
 clear hy231
 replace H := Option.bind_eq_some_iff.mp H
 obtain ⟨t234, A40, H⟩ := H
 replace H : (if t234 = true then (if (t213 == (-6) && (t214 == 10)) = true then (if t215 = 0 then ((slices_Equal_int_int.f k t217 (([2] : List Int))).bind fun t238 => (if t238 = true then (if t218 = 0 then (if t229 = 11 then ((choose_Majority.f k y207 12 14).bind fun t239 => (if (t239 == false) = true then ((choose_Majority.f k y207 10 14).bind fun t240 => (some t240)) else (none))) else (none)) else (none)) else (none))) else (none)) else (none)) else (none)) = some r := H
 have A4 := Aside0.mk A40
 clear A40
 by_cases c5 : t234 = true
 ·subst c5
  have H1 : (if (t213 == (-6) && (t214 == 10)) = true then (if t215 = 0 then ((slices_Equal_int_int.f k t217 (([2] : List Int))).bind fun t238 => (if t238 = true then (if t218 = 0 then (if t229 = 11 then ((choose_Majority.f k y207 12 14).bind fun t239 => (if (t239 == false) = true then ((choose_Majority.f k y207 10 14).bind fun t240 => (some t240)) else (none))) else (none)) else (none)) else (none))) else (none)) else (none)) = some r := by rw [if_pos rfl] at H; exact H
  clear H
  have H := H1
  clear H1
  by_cases c6 : (t213 == (-6) && (t214 == 10)) = true
  ·rw [if_pos c6] at H
   have c6b0 : (t213 == (-6) && (t214 == 10)) = true := c6
   (try (have c6b1 : decide (t213 = (-6) && (t214 == 10)) = true := by simpa using c6))
   (try (have c6b2 : (t213 == (-6) && (t214 == 10)) = true := by simpa using c6))
   clear c6
   by_cases c7 : t215 = 0
   ·rw [if_pos c7] at H
    have c7b0 : (t215 == 0) = true := beq_iff_eq.mpr c7
    have c7b1 : (t215 != 0) = false := bne_eq_false_iff_eq.mpr c7
    clear c7
    obtain ⟨y235, hy235⟩ : ∃ y_ : List Int, y_ = (([2] : List Int)) := ⟨_, rfl⟩
    replace H : ((slices_Equal_int_int.f k t217 y235).bind fun t238 => (if t238 = true then (if t218 = 0 then (if t229 = 11 then ((choose_Majority.f k y207 12 14).bind fun t239 => (if (t239 == false) = true then ((choose_Majority.f k y207 10 14).bind fun t240 => (some t240)) else (none))) else (none)) else (none)) else (none))) = some r := by first | (rw [hy235]; with_reducible exact H) | (have H2_ := (Option.bind_some _ _).symm.trans H; rw [hy235]; with_reducible exact H2_) | (have H2_ := (Option.bind_some _ _).symm.trans H; with_reducible exact H2_) | with_reducible exact H | (rw [hy235]; exact H) | exact H
    have Ny235 := Aside0.mk hy235
    clear hy235
    replace H := Option.bind_eq_some_iff.mp H
    obtain ⟨t238, A80, H⟩ := H
    replace H : (if t238 = true then (if t218 = 0 then (if t229 = 11 then ((choose_Majority.f k y207 12 14).bind fun t239 => (if (t239 == false) = true then ((choose_Majority.f k y207 10 14).bind fun t240 => (some t240)) else (none))) else (none)) else (none)) else (none)) = some r := H
    have A8 := Aside0.mk A80
    clear A80
    by_cases c9 : t238 = true
    ·subst c9
     have H1 : (if t218 = 0 then (if t229 = 11 then ((choose_Majority.f k y207 12 14).bind fun t239 => (if (t239 == false) = true then ((choose_Majority.f k y207 10 14).bind fun t240 => (some t240)) else (none))) else (none)) else (none)) = some r := by rw [if_pos rfl] at H; exact H
     clear H
     have H := H1
     clear H1
     by_cases c10 : t218 = 0
     ·rw [if_pos c10] at H
      have c10b0 : (t218 == 0) = true := beq_iff_eq.mpr c10
      have c10b1 : (t218 != 0) = false := bne_eq_false_iff_eq.mpr c10
      clear c10
      by_cases c11 : t229 = 11
      ·rw [if_pos c11] at H
       have c11b0 : (t229 == 11) = true := beq_iff_eq.mpr c11
       have c11b1 : (t229 != 11) = false := bne_eq_false_iff_eq.mpr c11
       clear c11
       replace H := Option.bind_eq_some_iff.mp H
       obtain ⟨t239, A120, H⟩ := H
       replace H : (if (t239 == false) = true then ((choose_Majority.f k y207 10 14).bind fun t240 => (some t240)) else (none)) = some r := H
       have A12 := Aside0.mk A120
       clear A120
       by_cases c13 : (t239 == false) = true
       ·rw [if_pos c13] at H
        have c13b0 : (t239 == false) = true := c13
        (try (have c13b1 : decide (t239 = false) = true := by simpa using c13))
        (try (have c13b2 : (t239 == false) = true := by simpa using c13))
        clear c13
        replace H := Option.bind_eq_some_iff.mp H
        obtain ⟨t240, A140, H⟩ := H
        replace H : (some t240) = some r := H
        have A14 := Aside0.mk A140
        clear A140
        obtain rfl := Option.some.inj H
        go_enter Try.func14, Try.ntmps14
        go_wp2_with (first | ((with_reducible refine gate_dst (N := 13) rfl ?_); (try (refine gate_guard (by rfl) ?_; dsimp only)); refine Kd.R_lit k37 _ 37 ?hg (N := 13) ?hd (xs := ([(⟨1, 0, 10, 0, 1⟩ : S37), (⟨2, 4, 10, 0, 1⟩ : S37), (⟨3, 100, 5, 0, 1⟩ : S37)] : List (S37))) (inner := [.int .i64 1, .int .i64 0, .int .i64 10, .int .i64 0, .int .i64 1, .int .i64 2, .int .i64 4, .int .i64 10, .int .i64 0, .int .i64 1, .int .i64 3, .int .i64 100, .int .i64 5, .int .i64 0, .int .i64 1]) (ok := fun _ => True) (okp := fun _ => True) ?hr ?hp (fun _ hk => hk) trivial (Below.refl _ _) (Nat.le_refl _) (by simp) ?_; (case hd => rfl); (case hg => rfl); (case hr => first | (go_simp; done) | (go_simp; rfl)); (case hp => exact (Reps.c5 (show Kd.M k37 _ _ _ (⟨1, 0, 10, 0, 1⟩ : S37) [.int .i64 1, .int .i64 0, .int .i64 10, .int .i64 0, .int .i64 1] from (k37_mkM _ _ _ (⟨1, 0, 10, 0, 1⟩ : S37) )) (Reps.c5 (show Kd.M k37 _ _ _ (⟨2, 4, 10, 0, 1⟩ : S37) [.int .i64 2, .int .i64 4, .int .i64 10, .int .i64 0, .int .i64 1] from (k37_mkM _ _ _ (⟨2, 4, 10, 0, 1⟩ : S37) )) (Reps.c5 (show Kd.M k37 _ _ _ (⟨3, 100, 5, 0, 1⟩ : S37) [.int .i64 3, .int .i64 100, .int .i64 5, .int .i64 0, .int .i64 1] from (k37_mkM _ _ _ (⟨3, 100, 5, 0, 1⟩ : S37) )) (Reps.none _ _))))); intro v208 w15 ho16 hb hg_ hnew_; clear hg_ hnew_; (first | rw [← Ny207.out] at ho16 | (simp only [Int.reduceToNat] at ho16; rw [← Ny207.out] at ho16)); have n0_ := Aside0.mk (Kd.R_lower ho16 (below_size (by repeat (first | (with_reducible first | exact HB.out | apply below_alloc | apply pw_below_drewN | apply below_drew1) | exact HB.out)))); have n1_ := Aside0.mk (below_step (by repeat (first | (with_reducible first | exact HB.out | apply below_alloc | apply pw_below_drewN | apply below_drew1) | exact HB.out)) hb); clear HB; have HO209 := n0_; have HB := n1_; clear n0_ n1_; clear hb ho16; obtain ⟨Ao17, co17, eo17⟩ := Kd.R_slice HO209.out; subst eo17) | ((with_reducible refine gate_callee (f := 17) rfl ?_); refine goesL_ (some 16) rfl rfl Try.func17 (by kernel_rfl) rfl #[.slice Ao17 y207.length co17] rfl (by (try simp only [List.map_toArray, List.map_cons, List.map_nil]); first | done | rfl | (simp only [List.length_drop, List.length_take]; rfl)) ?_; (with_reducible refine (choose_Select.calls k _ _ y207 t210 t213 t214 t215 _ ?side1 ?side2 A1.out).mono ?_); (case side1 => repeat (first | exact (Kd.R_reads' HO209.out).2.2 | (with_reducible refine Kd.C_alloc ?_ _) | (with_reducible refine Kd.C_drewN ?_ _) | (with_reducible refine Kd.C_drew ?_))); (case side2 => exact (Kd.R_reads' HO209.out).2.1); rintro e w18 ⟨v211, rfl, ho0, hb⟩; refine ⟨_, rfl, ?_⟩; have n0_ := Aside0.mk (Kd.R_below (by (with_reducible repeat (first | apply Kd.R_alloc | apply Kd.R_drewN | apply Kd.R_drew)); exact HO209.out) hb); have n1_ := Aside0.mk (Kd.R_lower ho0 (below_size (by repeat (first | (with_reducible first | exact HB.out | apply below_alloc | apply pw_below_drewN | apply below_drew1) | exact HB.out)))); have n2_ := Aside0.mk (below_step (by repeat (first | (with_reducible first | exact HB.out | apply below_alloc | apply pw_below_drewN | apply below_drew1) | exact HB.out)) hb); clear HO209; clear HB; have HO209 := n0_; have HO212 := n1_; have HB := n2_; clear n0_ n1_ n2_; (try clear hb); (try clear hb2); (try clear hk); (try clear hi); (try clear ho0)) | ((with_reducible refine gate_dst (N := 3) rfl ?_); (try (refine gate_guard (by rfl) ?_; dsimp only)); refine box_event ?hg (N := 3) ?hd (cs := #[.int .i64 0, .int .i64 0]) (t := 29) ?hr ?_; (case hd => rfl); (case hg => rfl); (case hr => first | (go_simp; done) | (go_simp; rfl)); intro gb216 hg w19 hbox hb; have n0_ := Aside0.mk (Kd.R_below (by (with_reducible repeat (first | apply Kd.R_alloc | apply Kd.R_drewN | apply Kd.R_drew)); exact HO209.out) hb); have n1_ := Aside0.mk (Kd.R_below (by (with_reducible repeat (first | apply Kd.R_alloc | apply Kd.R_drewN | apply Kd.R_drew)); exact HO212.out) hb); have n2_ := Aside0.mk (below_step (by repeat (first | (with_reducible first | exact HB.out | apply below_alloc | apply pw_below_drewN | apply below_drew1) | exact HB.out)) hb); have n3_ := Aside0.mk (hbox); have n4_ := Aside0.mk ((by rw [hg]; exact (below_size (by repeat (first | (with_reducible first | exact HB.out | apply below_alloc | apply pw_below_drewN | apply below_drew1) | exact HB.out))) : w.heap.size ≤ gb216)); have n5_ := Aside0.mk ((by rw [hg]; exact (below_size (by repeat (first | (with_reducible first | exact HB.out | apply below_alloc | apply pw_below_drewN | apply below_drew1) | exact HB.out))) : w.heap.size ≤ gb216)); clear HO209; clear HO212; clear HB; have HO209 := n0_; have HO212 := n1_; have HB := n2_; have BK216 := n3_; have GW216 := n4_; have GE216 := n5_; clear n0_ n1_ n2_ n3_ n4_ n5_; clear hb hbox hg; have hcz20_0 : w19.cell? ⟨gb216, 0, none⟩ = some (.int .i64 0) := (blk_cell BK216.out 0).trans rfl; have hcz20_1 : w19.cell? ⟨gb216, 1, none⟩ = some (.int .i64 0) := (blk_cell BK216.out 1).trans rfl; have hfz20_0 := blk_frozen BK216.out 0; have hfz20_1 := blk_frozen BK216.out 1) | ((with_reducible refine gate_callee (f := 19) rfl ?_); refine goesL_ (some 22) rfl rfl Try.func19 (by kernel_rfl) rfl #[.slice Ao17 y207.length co17] rfl (by (try simp only [List.map_toArray, List.map_cons, List.map_nil]); first | done | rfl | (simp only [List.length_drop, List.length_take]; rfl)) ?_; (with_reducible refine (choose_Falsetickers.calls k _ _ y207 t217 t218 _ ?side1 ?side2 A2.out).mono ?_); (case side1 => refine (Kd.R_reads' (e := 37) (base := w.heap.size) (ok := fun k_ => True) (n := y207.length) (c := co17) ?_).2.2; exact (by (with_reducible repeat (first | apply Kd.R_alloc | apply Kd.R_drewN | apply Kd.R_drew)); exact (Kd.R_mono (Kd.R_far (p := ⟨gb216, 1, none⟩) (Kd.R_far (p := ⟨gb216, 0, none⟩) (Kd.R_types HO209.out BK216.out (by decide)) (fun _ hk => hk.2) (.int .i64 t213)) (fun _ hk => hk.2) (.int .i64 t214)) (fun _ h_ => h_.1)))); (case side2 => exact (Kd.R_reads' HO209.out).2.1); rintro e w21 ⟨v219, rfl, ho0, hb⟩; refine ⟨_, rfl, ?_⟩; have n0_ := Aside0.mk (Kd.R_below (by (with_reducible repeat (first | apply Kd.R_alloc | apply Kd.R_drewN | apply Kd.R_drew)); exact (Kd.R_mono (Kd.R_far (p := ⟨gb216, 1, none⟩) (Kd.R_far (p := ⟨gb216, 0, none⟩) (Kd.R_types HO209.out BK216.out (by decide)) (fun _ hk => hk.2) (.int .i64 t213)) (fun _ hk => hk.2) (.int .i64 t214)) (fun _ h_ => h_.1))) hb); have n1_ := Aside0.mk (Kd.R_elder' (by (with_reducible repeat (first | apply Kd.R_alloc | apply Kd.R_drewN | apply Kd.R_drew)); exact (Kd.R_mono (Kd.R_far (p := ⟨gb216, 1, none⟩) (Kd.R_far (p := ⟨gb216, 0, none⟩) (Kd.R_types HO212.out BK216.out (by decide)) (fun _ hk => hk.2) (.int .i64 t213)) (fun _ hk => hk.2) (.int .i64 t214)) (fun _ h_ => h_.1))) (Kd.R_base ho0) hb); have n2_ := Aside0.mk (Kd.R_lower (Kd.R_new' ho0 (Kd.R_lt (by (with_reducible repeat (first | apply Kd.R_alloc | apply Kd.R_drewN | apply Kd.R_drew)); exact (Kd.R_mono (Kd.R_far (p := ⟨gb216, 1, none⟩) (Kd.R_far (p := ⟨gb216, 0, none⟩) (Kd.R_types HO212.out BK216.out (by decide)) (fun _ hk => hk.2) (.int .i64 t213)) (fun _ hk => hk.2) (.int .i64 t214)) (fun _ h_ => h_.1))))) (below_size (by repeat (first | (with_reducible first | exact HB.out | apply below_alloc | apply pw_below_drewN | apply below_drew1 | refine below_set ?_ GE216.out) | exact HB.out)))); have n3_ := Aside0.mk (blk_below (g := gb216) (o := .cells #[.int .i64 t213, .int .i64 t214] 29 (0, 0)) (by (with_reducible repeat (first | refine blk_drewN ?_ _ | refine blk_drew ?_ | refine blk_alloc ?_ _)); refine blk_put (cs := #[.int .i64 t213, .int .i64 0]) ?_ 1 _ rfl; (with_reducible repeat (first | refine blk_drewN ?_ _ | refine blk_drew ?_ | refine blk_alloc ?_ _)); refine blk_put (cs := #[.int .i64 0, .int .i64 0]) ?_ 0 _ rfl; (with_reducible repeat (first | refine blk_drewN ?_ _ | refine blk_drew ?_ | refine blk_alloc ?_ _)); exact BK216.out) hb); have n4_ := Aside0.mk (below_step (by repeat (first | (with_reducible first | exact HB.out | apply below_alloc | apply pw_below_drewN | apply below_drew1 | refine below_set ?_ GE216.out) | exact HB.out)) hb); clear HO209; clear HO212; clear BK216; clear HB; have HO209 := n0_; have HO212 := n1_; have HO220 := n2_; have BK216 := n3_; have HB := n4_; clear n0_ n1_ n2_ n3_ n4_; (try clear hb); (try clear hb2); (try clear hk); (try clear hi); (try clear ho0)) | ((with_reducible refine gate_dst (N := 28) rfl ?_); (try (refine gate_guard (by rfl) ?_; dsimp only)); refine Kd.R_lit k37 _ 37 ?hg (N := 28) ?hd (xs := ([(⟨1, 0, 5, 0, 1⟩ : S37), (⟨2, 10, 5, 0, 1⟩ : S37)] : List (S37))) (inner := [.int .i64 1, .int .i64 0, .int .i64 5, .int .i64 0, .int .i64 1, .int .i64 2, .int .i64 10, .int .i64 5, .int .i64 0, .int .i64 1]) (ok := fun _ => True) (okp := fun _ => True) ?hr ?hp (fun _ hk => hk) trivial (Below.refl _ _) (Nat.le_refl _) (by simp) ?_; (case hd => rfl); (case hg => rfl); (case hr => first | (go_simp; done) | (go_simp; rfl)); (case hp => exact (Reps.c5 (show Kd.M k37 _ _ _ (⟨1, 0, 5, 0, 1⟩ : S37) [.int .i64 1, .int .i64 0, .int .i64 5, .int .i64 0, .int .i64 1] from (k37_mkM _ _ _ (⟨1, 0, 5, 0, 1⟩ : S37) )) (Reps.c5 (show Kd.M k37 _ _ _ (⟨2, 10, 5, 0, 1⟩ : S37) [.int .i64 2, .int .i64 10, .int .i64 5, .int .i64 0, .int .i64 1] from (k37_mkM _ _ _ (⟨2, 10, 5, 0, 1⟩ : S37) )) (Reps.none _ _)))); intro v222 w22 ho23 hb hg_ hnew_; clear hg_ hnew_; (first | rw [← Ny221.out] at ho23 | (simp only [Int.reduceToNat] at ho23; rw [← Ny221.out] at ho23)); have n0_ := Aside0.mk (Kd.R_elder' (by (with_reducible repeat (first | apply Kd.R_alloc | apply Kd.R_drewN | apply Kd.R_drew)); exact HO209.out) (Kd.R_base ho23) hb); have n1_ := Aside0.mk (Kd.R_below (by (with_reducible repeat (first | apply Kd.R_alloc | apply Kd.R_drewN | apply Kd.R_drew)); exact HO212.out) hb); have n2_ := Aside0.mk (Kd.R_below (by (with_reducible repeat (first | apply Kd.R_alloc | apply Kd.R_drewN | apply Kd.R_drew)); exact HO220.out) hb); have n3_ := Aside0.mk (Kd.R_lower (Kd.R_new' ho23 (Kd.R_lt (by (with_reducible repeat (first | apply Kd.R_alloc | apply Kd.R_drewN | apply Kd.R_drew)); exact HO209.out))) (below_size (by repeat (first | (with_reducible first | exact HB.out | apply below_alloc | apply pw_below_drewN | apply below_drew1 | refine below_set ?_ GE216.out) | exact HB.out)))); have n4_ := Aside0.mk (blk_below (g := gb216) (o := .cells #[.int .i64 t213, .int .i64 t214] 29 (0, 0)) (by (with_reducible repeat (first | refine blk_drewN ?_ _ | refine blk_drew ?_ | refine blk_alloc ?_ _)); exact BK216.out) hb); have n5_ := Aside0.mk (below_step (by repeat (first | (with_reducible first | exact HB.out | apply below_alloc | apply pw_below_drewN | apply below_drew1 | refine below_set ?_ GE216.out) | exact HB.out)) hb); clear HO209; clear HO212; clear HO220; clear BK216; clear HB; have HO209 := n0_; have HO212 := n1_; have HO220 := n2_; have HO223 := n3_; have BK216 := n4_; have HB := n5_; clear n0_ n1_ n2_ n3_ n4_ n5_; clear hb ho23; obtain ⟨Ao24, co24, eo24⟩ := Kd.R_slice HO223.out; subst eo24) | ((with_reducible refine gate_callee (f := 17) rfl ?_); refine goesL_ (some 29) rfl rfl Try.func17 (by kernel_rfl) rfl #[.slice Ao24 y221.length co24] rfl (by (try simp only [List.map_toArray, List.map_cons, List.map_nil]); first | done | rfl | (simp only [List.length_drop, List.length_take]; rfl)) ?_; (with_reducible refine (choose_Select.calls k _ _ y221 t224 t227 t228 t229 _ ?side1 ?side2 A3.out).mono ?_); (case side1 => repeat (first | exact (Kd.R_reads' HO223.out).2.2 | (with_reducible refine Kd.C_alloc ?_ _) | (with_reducible refine Kd.C_drewN ?_ _) | (with_reducible refine Kd.C_drew ?_))); (case side2 => exact (Kd.R_reads' HO223.out).2.1); rintro e w25 ⟨v225, rfl, ho0, hb⟩; refine ⟨_, rfl, ?_⟩; have n0_ := Aside0.mk (Kd.R_below (by (with_reducible repeat (first | apply Kd.R_alloc | apply Kd.R_drewN | apply Kd.R_drew)); exact HO209.out) hb); have n1_ := Aside0.mk (Kd.R_elder' (by (with_reducible repeat (first | apply Kd.R_alloc | apply Kd.R_drewN | apply Kd.R_drew)); exact HO212.out) (Kd.R_base ho0) hb); have n2_ := Aside0.mk (Kd.R_elder' (by (with_reducible repeat (first | apply Kd.R_alloc | apply Kd.R_drewN | apply Kd.R_drew)); exact HO220.out) (Kd.R_base ho0) hb); have n3_ := Aside0.mk (Kd.R_below (by (with_reducible repeat (first | apply Kd.R_alloc | apply Kd.R_drewN | apply Kd.R_drew)); exact HO223.out) hb); have n4_ := Aside0.mk (Kd.R_lower (Kd.R_new' (Kd.R_new' ho0 (Kd.R_lt (by (with_reducible repeat (first | apply Kd.R_alloc | apply Kd.R_drewN | apply Kd.R_drew)); exact HO212.out))) (Kd.R_lt (by (with_reducible repeat (first | apply Kd.R_alloc | apply Kd.R_drewN | apply Kd.R_drew)); exact HO220.out))) (below_size (by repeat (first | (with_reducible first | exact HB.out | apply below_alloc | apply pw_below_drewN | apply below_drew1 | refine below_set ?_ GE216.out) | exact HB.out)))); have n5_ := Aside0.mk (blk_below (g := gb216) (o := .cells #[.int .i64 t213, .int .i64 t214] 29 (0, 0)) (by (with_reducible repeat (first | refine blk_drewN ?_ _ | refine blk_drew ?_ | refine blk_alloc ?_ _)); exact BK216.out) hb); have n6_ := Aside0.mk (below_step (by repeat (first | (with_reducible first | exact HB.out | apply below_alloc | apply pw_below_drewN | apply below_drew1 | refine below_set ?_ GE216.out) | exact HB.out)) hb); clear HO209; clear HO212; clear HO220; clear HO223; clear BK216; clear HB; have HO209 := n0_; have HO212 := n1_; have HO220 := n2_; have HO223 := n3_; have HO226 := n4_; have BK216 := n5_; have HB := n6_; clear n0_ n1_ n2_ n3_ n4_ n5_ n6_; (try clear hb); (try clear hb2); (try clear hk); (try clear hi); (try clear ho0)) | ((with_reducible refine gate_dst (N := 8) rfl ?_); (try (refine gate_guard (by rfl) ?_; dsimp only)); refine box_event ?hg (N := 8) ?hd (cs := #[.int .i64 0, .int .i64 0]) (t := 29) ?hr ?_; (case hd => rfl); (case hg => rfl); (case hr => first | (go_simp; done) | (go_simp; rfl)); intro gb230 hg w26 hbox hb; have n0_ := Aside0.mk (Kd.R_below (by (with_reducible repeat (first | apply Kd.R_alloc | apply Kd.R_drewN | apply Kd.R_drew)); exact HO209.out) hb); have n1_ := Aside0.mk (Kd.R_below (by (with_reducible repeat (first | apply Kd.R_alloc | apply Kd.R_drewN | apply Kd.R_drew)); exact HO212.out) hb); have n2_ := Aside0.mk (Kd.R_below (by (with_reducible repeat (first | apply Kd.R_alloc | apply Kd.R_drewN | apply Kd.R_drew)); exact HO220.out) hb); have n3_ := Aside0.mk (Kd.R_below (by (with_reducible repeat (first | apply Kd.R_alloc | apply Kd.R_drewN | apply Kd.R_drew)); exact HO223.out) hb); have n4_ := Aside0.mk (Kd.R_below (by (with_reducible repeat (first | apply Kd.R_alloc | apply Kd.R_drewN | apply Kd.R_drew)); exact HO226.out) hb); have n5_ := Aside0.mk (blk_below (g := gb216) (o := .cells #[.int .i64 t213, .int .i64 t214] 29 (0, 0)) (by (with_reducible repeat (first | refine blk_drewN ?_ _ | refine blk_drew ?_ | refine blk_alloc ?_ _)); exact BK216.out) hb); have n6_ := Aside0.mk (below_step (by repeat (first | (with_reducible first | exact HB.out | apply below_alloc | apply pw_below_drewN | apply below_drew1 | refine below_set ?_ GE216.out) | exact HB.out)) hb); have n7_ := Aside0.mk (hbox); have n8_ := Aside0.mk ((by rw [hg]; exact (below_size (by repeat (first | (with_reducible first | exact HB.out | apply below_alloc | apply pw_below_drewN | apply below_drew1 | refine below_set ?_ GE216.out) | exact HB.out))) : w.heap.size ≤ gb230)); have n9_ := Aside0.mk ((by rw [hg]; exact (below_size (by repeat (first | (with_reducible first | exact HB.out | apply below_alloc | apply pw_below_drewN | apply below_drew1 | refine below_set ?_ GE216.out) | exact HB.out))) : w.heap.size ≤ gb230)); have n10_ := Aside0.mk ((by rw [hg]; exact Nat.ne_of_lt (blk_lt (g := gb216) (o := .cells #[.int .i64 t213, .int .i64 t214] 29 (0, 0)) (by (with_reducible repeat (first | refine blk_drewN ?_ _ | refine blk_drew ?_ | refine blk_alloc ?_ _)); exact BK216.out)) : gb216 ≠ gb230)); have n11_ := Aside0.mk ((by rw [hg]; exact Nat.ne_of_gt (blk_lt (g := gb216) (o := .cells #[.int .i64 t213, .int .i64 t214] 29 (0, 0)) (by (with_reducible repeat (first | refine blk_drewN ?_ _ | refine blk_drew ?_ | refine blk_alloc ?_ _)); exact BK216.out)) : gb230 ≠ gb216)); clear HO209; clear HO212; clear HO220; clear HO223; clear HO226; clear BK216; clear HB; have HO209 := n0_; have HO212 := n1_; have HO220 := n2_; have HO223 := n3_; have HO226 := n4_; have BK216 := n5_; have HB := n6_; have BK230 := n7_; have GW230 := n8_; have GE230 := n9_; have NB216_230 := n10_; have NB230_216 := n11_; clear n0_ n1_ n2_ n3_ n4_ n5_ n6_ n7_ n8_ n9_ n10_ n11_; clear hb hbox hg; have hnb27 := NB230_216.out; have hnc27 := NB216_230.out; have hcz28_0 : w26.cell? ⟨gb230, 0, none⟩ = some (.int .i64 0) := (blk_cell BK230.out 0).trans rfl; have hcz28_1 : w26.cell? ⟨gb230, 1, none⟩ = some (.int .i64 0) := (blk_cell BK230.out 1).trans rfl; have hfz28_0 := blk_frozen BK230.out 0; have hfz28_1 := blk_frozen BK230.out 1) | ((with_reducible refine gate_dst (N := 34) rfl ?_); (try (refine gate_guard (by rfl) ?_; dsimp only)); refine Kd.R_lit (Kd.int .i64) _ 3 ?hg (N := 34) ?hd (xs := ([0, 1] : List Int)) (inner := [.int .i64 0, .int .i64 1]) (ok := fun _ => True) (okp := fun _ => True) ?hr ?hp (fun _ hk => hk) trivial (Below.refl _ _) (Nat.le_refl _) (by simp) ?_; (case hd => rfl); (case hg => rfl); (case hr => first | (go_simp; done) | (go_simp; rfl)); (case hp => exact (Reps.one (show Kd.M (Kd.int .i64) _ _ _ 0 [.int .i64 0] from rfl) (Reps.one (show Kd.M (Kd.int .i64) _ _ _ 1 [.int .i64 1] from rfl) (Reps.none _ _)))); intro v232 w29 ho30 hb hg_ hnew_; clear hg_ hnew_; (first | rw [← Ny231.out] at ho30 | (simp only [Int.reduceToNat] at ho30; rw [← Ny231.out] at ho30)); have n0_ := Aside0.mk (Kd.R_below (by (with_reducible repeat (first | apply Kd.R_alloc | apply Kd.R_drewN | apply Kd.R_drew)); exact (Kd.R_mono (Kd.R_far (p := ⟨gb230, 1, none⟩) (Kd.R_far (p := ⟨gb230, 0, none⟩) (Kd.R_types HO209.out BK230.out (by decide)) (fun _ hk => hk.2) (.int .i64 t227)) (fun _ hk => hk.2) (.int .i64 t228)) (fun _ h_ => h_.1))) hb); have n1_ := Aside0.mk (Kd.R_elder' (by (with_reducible repeat (first | apply Kd.R_alloc | apply Kd.R_drewN | apply Kd.R_drew)); exact (Kd.R_mono (Kd.R_far (p := ⟨gb230, 1, none⟩) (Kd.R_far (p := ⟨gb230, 0, none⟩) (Kd.R_types HO212.out BK230.out (by decide)) (fun _ hk => hk.2) (.int .i64 t227)) (fun _ hk => hk.2) (.int .i64 t228)) (fun _ h_ => h_.1))) (Kd.R_base ho30) hb); have n2_ := Aside0.mk (Kd.R_elder' (by (with_reducible repeat (first | apply Kd.R_alloc | apply Kd.R_drewN | apply Kd.R_drew)); exact (Kd.R_mono (Kd.R_far (p := ⟨gb230, 1, none⟩) (Kd.R_far (p := ⟨gb230, 0, none⟩) (Kd.R_types HO220.out BK230.out (by decide)) (fun _ hk => hk.2) (.int .i64 t227)) (fun _ hk => hk.2) (.int .i64 t228)) (fun _ h_ => h_.1))) (Kd.R_base ho30) hb); have n3_ := Aside0.mk (Kd.R_below (by (with_reducible repeat (first | apply Kd.R_alloc | apply Kd.R_drewN | apply Kd.R_drew)); exact (Kd.R_mono (Kd.R_far (p := ⟨gb230, 1, none⟩) (Kd.R_far (p := ⟨gb230, 0, none⟩) (Kd.R_types HO223.out BK230.out (by decide)) (fun _ hk => hk.2) (.int .i64 t227)) (fun _ hk => hk.2) (.int .i64 t228)) (fun _ h_ => h_.1))) hb); have n4_ := Aside0.mk (Kd.R_elder' (by (with_reducible repeat (first | apply Kd.R_alloc | apply Kd.R_drewN | apply Kd.R_drew)); exact (Kd.R_mono (Kd.R_far (p := ⟨gb230, 1, none⟩) (Kd.R_far (p := ⟨gb230, 0, none⟩) (Kd.R_types HO226.out BK230.out (by decide)) (fun _ hk => hk.2) (.int .i64 t227)) (fun _ hk => hk.2) (.int .i64 t228)) (fun _ h_ => h_.1))) (Kd.R_base ho30) hb); have n5_ := Aside0.mk (Kd.R_lower (Kd.R_new' (Kd.R_new' (Kd.R_new' ho30 (Kd.R_lt (by (with_reducible repeat (first | apply Kd.R_alloc | apply Kd.R_drewN | apply Kd.R_drew)); exact (Kd.R_mono (Kd.R_far (p := ⟨gb230, 1, none⟩) (Kd.R_far (p := ⟨gb230, 0, none⟩) (Kd.R_types HO212.out BK230.out (by decide)) (fun _ hk => hk.2) (.int .i64 t227)) (fun _ hk => hk.2) (.int .i64 t228)) (fun _ h_ => h_.1))))) (Kd.R_lt (by (with_reducible repeat (first | apply Kd.R_alloc | apply Kd.R_drewN | apply Kd.R_drew)); exact (Kd.R_mono (Kd.R_far (p := ⟨gb230, 1, none⟩) (Kd.R_far (p := ⟨gb230, 0, none⟩) (Kd.R_types HO220.out BK230.out (by decide)) (fun _ hk => hk.2) (.int .i64 t227)) (fun _ hk => hk.2) (.int .i64 t228)) (fun _ h_ => h_.1))))) (Kd.R_lt (by (with_reducible repeat (first | apply Kd.R_alloc | apply Kd.R_drewN | apply Kd.R_drew)); exact (Kd.R_mono (Kd.R_far (p := ⟨gb230, 1, none⟩) (Kd.R_far (p := ⟨gb230, 0, none⟩) (Kd.R_types HO226.out BK230.out (by decide)) (fun _ hk => hk.2) (.int .i64 t227)) (fun _ hk => hk.2) (.int .i64 t228)) (fun _ h_ => h_.1))))) (below_size (by repeat (first | (with_reducible first | exact HB.out | apply below_alloc | apply pw_below_drewN | apply below_drew1 | refine below_set ?_ GE216.out | refine below_set ?_ GE230.out) | exact HB.out)))); have n6_ := Aside0.mk (blk_below (g := gb216) (o := .cells #[.int .i64 t213, .int .i64 t214] 29 (0, 0)) (by (with_reducible repeat (first | refine blk_drewN ?_ _ | refine blk_drew ?_ | refine blk_alloc ?_ _)); refine blk_far ?_ NB216_230.out _; (with_reducible repeat (first | refine blk_drewN ?_ _ | refine blk_drew ?_ | refine blk_alloc ?_ _)); refine blk_far ?_ NB216_230.out _; (with_reducible repeat (first | refine blk_drewN ?_ _ | refine blk_drew ?_ | refine blk_alloc ?_ _)); exact BK216.out) hb); have n7_ := Aside0.mk (blk_below (g := gb230) (o := .cells #[.int .i64 t227, .int .i64 t228] 29 (0, 0)) (by (with_reducible repeat (first | refine blk_drewN ?_ _ | refine blk_drew ?_ | refine blk_alloc ?_ _)); refine blk_put (cs := #[.int .i64 t227, .int .i64 0]) ?_ 1 _ rfl; (with_reducible repeat (first | refine blk_drewN ?_ _ | refine blk_drew ?_ | refine blk_alloc ?_ _)); refine blk_put (cs := #[.int .i64 0, .int .i64 0]) ?_ 0 _ rfl; (with_reducible repeat (first | refine blk_drewN ?_ _ | refine blk_drew ?_ | refine blk_alloc ?_ _)); exact BK230.out) hb); have n8_ := Aside0.mk (below_step (by repeat (first | (with_reducible first | exact HB.out | apply below_alloc | apply pw_below_drewN | apply below_drew1 | refine below_set ?_ GE216.out | refine below_set ?_ GE230.out) | exact HB.out)) hb); clear HO209; clear HO212; clear HO220; clear HO223; clear HO226; clear BK216; clear BK230; clear HB; have HO209 := n0_; have HO212 := n1_; have HO220 := n2_; have HO223 := n3_; have HO226 := n4_; have HO233 := n5_; have BK216 := n6_; have BK230 := n7_; have HB := n8_; clear n0_ n1_ n2_ n3_ n4_ n5_ n6_ n7_ n8_; clear hb ho30; obtain ⟨Ao31, co31, eo31⟩ := Kd.R_slice HO212.out; subst eo31; obtain ⟨Ao32, co32, eo32⟩ := Kd.R_slice HO233.out; subst eo32) | ((with_reducible refine gate_callee (f := 21) rfl ?_); refine goesL_ (some 35) rfl rfl Try.func21 (by kernel_rfl) rfl #[.slice Ao31 t210.length co31, .slice Ao32 y231.length co32] rfl (by (try simp only [List.map_toArray, List.map_cons, List.map_nil]); first | done | rfl | (simp only [List.length_drop, List.length_take]; rfl)) ?_; (with_reducible refine (slices_Equal_int_int.calls k _ _ t210 _ _ y231 true _ ?side1 ?side2 ?side3 ?side4 A4.out).mono ?_); (case side1 => repeat (first | exact (Kd.R_reads' HO212.out).2.2 | (with_reducible refine Kd.C_alloc ?_ _) | (with_reducible refine Kd.C_drewN ?_ _) | (with_reducible refine Kd.C_drew ?_))); (case side2 => exact (Kd.R_reads' HO212.out).2.1); (case side3 => repeat (first | exact (Kd.R_reads' HO233.out).2.2 | (with_reducible refine Kd.C_alloc ?_ _) | (with_reducible refine Kd.C_drewN ?_ _) | (with_reducible refine Kd.C_drew ?_))); (case side4 => exact (Kd.R_reads' HO233.out).2.1); rintro e w' ⟨rfl, ⟨nd, rfl⟩⟩; refine ⟨_, rfl, ?_⟩; have hcz33_0 : w29.cell? ⟨gb216, 0, none⟩ = some (.int .i64 t213) := (blk_cell BK216.out 0).trans rfl; have hcz33_1 : w29.cell? ⟨gb216, 1, none⟩ = some (.int .i64 t214) := (blk_cell BK216.out 1).trans rfl; have hfz33_0 := blk_frozen BK216.out 0; have hfz33_1 := blk_frozen BK216.out 1) | ((with_reducible refine gate_dst (N := 47) rfl ?_); (try (refine gate_guard (by rfl) ?_; dsimp only)); refine Kd.R_lit (Kd.int .i64) _ 3 ?hg (N := 47) ?hd (xs := ([2] : List Int)) (inner := [.int .i64 2]) (ok := fun _ => True) (okp := fun _ => True) ?hr ?hp (fun _ hk => hk) trivial (Below.refl _ _) (Nat.le_refl _) (by simp) ?_; (case hd => rfl); (case hg => rfl); (case hr => first | (go_simp; done) | (go_simp; rfl)); (case hp => exact (Reps.one (show Kd.M (Kd.int .i64) _ _ _ 2 [.int .i64 2] from rfl) (Reps.none _ _))); intro v236 w34 ho35 hb hg_ hnew_; clear hg_ hnew_; (first | rw [← Ny235.out] at ho35 | (simp only [Int.reduceToNat] at ho35; rw [← Ny235.out] at ho35)); have n0_ := Aside0.mk (Kd.R_below (by (with_reducible repeat (first | apply Kd.R_alloc | apply Kd.R_drewN | apply Kd.R_drew)); exact HO209.out) hb); have n1_ := Aside0.mk (Kd.R_elder' (by (with_reducible repeat (first | apply Kd.R_alloc | apply Kd.R_drewN | apply Kd.R_drew)); exact HO212.out) (Kd.R_base ho35) hb); have n2_ := Aside0.mk (Kd.R_elder' (by (with_reducible repeat (first | apply Kd.R_alloc | apply Kd.R_drewN | apply Kd.R_drew)); exact HO220.out) (Kd.R_base ho35) hb); have n3_ := Aside0.mk (Kd.R_below (by (with_reducible repeat (first | apply Kd.R_alloc | apply Kd.R_drewN | apply Kd.R_drew)); exact HO223.out) hb); have n4_ := Aside0.mk (Kd.R_elder' (by (with_reducible repeat (first | apply Kd.R_alloc | apply Kd.R_drewN | apply Kd.R_drew)); exact HO226.out) (Kd.R_base ho35) hb); have n5_ := Aside0.mk (Kd.R_elder' (by (with_reducible repeat (first | apply Kd.R_alloc | apply Kd.R_drewN | apply Kd.R_drew)); exact HO233.out) (Kd.R_base ho35) hb); have n6_ := Aside0.mk (Kd.R_lower (Kd.R_new' (Kd.R_new' (Kd.R_new' (Kd.R_new' ho35 (Kd.R_lt (by (with_reducible repeat (first | apply Kd.R_alloc | apply Kd.R_drewN | apply Kd.R_drew)); exact HO212.out))) (Kd.R_lt (by (with_reducible repeat (first | apply Kd.R_alloc | apply Kd.R_drewN | apply Kd.R_drew)); exact HO220.out))) (Kd.R_lt (by (with_reducible repeat (first | apply Kd.R_alloc | apply Kd.R_drewN | apply Kd.R_drew)); exact HO226.out))) (Kd.R_lt (by (with_reducible repeat (first | apply Kd.R_alloc | apply Kd.R_drewN | apply Kd.R_drew)); exact HO233.out))) (below_size (by repeat (first | (with_reducible first | exact HB.out | apply below_alloc | apply pw_below_drewN | apply below_drew1 | refine below_set ?_ GE216.out | refine below_set ?_ GE230.out) | exact HB.out)))); have n7_ := Aside0.mk (blk_below (g := gb216) (o := .cells #[.int .i64 t213, .int .i64 t214] 29 (0, 0)) (by (with_reducible repeat (first | refine blk_drewN ?_ _ | refine blk_drew ?_ | refine blk_alloc ?_ _)); exact BK216.out) hb); have n8_ := Aside0.mk (blk_below (g := gb230) (o := .cells #[.int .i64 t227, .int .i64 t228] 29 (0, 0)) (by (with_reducible repeat (first | refine blk_drewN ?_ _ | refine blk_drew ?_ | refine blk_alloc ?_ _)); exact BK230.out) hb); have n9_ := Aside0.mk (below_step (by repeat (first | (with_reducible first | exact HB.out | apply below_alloc | apply pw_below_drewN | apply below_drew1 | refine below_set ?_ GE216.out | refine below_set ?_ GE230.out) | exact HB.out)) hb); clear HO209; clear HO212; clear HO220; clear HO223; clear HO226; clear HO233; clear BK216; clear BK230; clear HB; have HO209 := n0_; have HO212 := n1_; have HO220 := n2_; have HO223 := n3_; have HO226 := n4_; have HO233 := n5_; have HO237 := n6_; have BK216 := n7_; have BK230 := n8_; have HB := n9_; clear n0_ n1_ n2_ n3_ n4_ n5_ n6_ n7_ n8_ n9_; clear hb ho35; obtain ⟨Ao36, co36, eo36⟩ := Kd.R_slice HO220.out; subst eo36; obtain ⟨Ao37, co37, eo37⟩ := Kd.R_slice HO237.out; subst eo37) | (go_at_call 21; (with_reducible refine (slices_Equal_int_int.calls k _ _ t217 _ _ y235 true _ ?side1 ?side2 ?side3 ?side4 A8.out).mono ?_); (case side1 => repeat (first | exact (Kd.R_reads' HO220.out).2.2 | (with_reducible refine Kd.C_alloc ?_ _) | (with_reducible refine Kd.C_drewN ?_ _) | (with_reducible refine Kd.C_drew ?_))); (case side2 => exact (Kd.R_reads' HO220.out).2.1); (case side3 => repeat (first | exact (Kd.R_reads' HO237.out).2.2 | (with_reducible refine Kd.C_alloc ?_ _) | (with_reducible refine Kd.C_drewN ?_ _) | (with_reducible refine Kd.C_drew ?_))); (case side4 => exact (Kd.R_reads' HO237.out).2.1); rintro e w' ⟨rfl, ⟨nd, rfl⟩⟩) | (go_at_call 22; (with_reducible refine (choose_Majority.calls k _ _ y207 12 14 t239 _ ?side1 ?side2 A12.out).mono ?_); (case side1 => repeat (first | exact (Kd.R_reads' HO209.out).2.2 | (with_reducible refine Kd.C_alloc ?_ _) | (with_reducible refine Kd.C_drewN ?_ _) | (with_reducible refine Kd.C_drew ?_))); (case side2 => exact (Kd.R_reads' HO209.out).2.1); rintro e w38 ⟨rfl, hb⟩; have n0_ := Aside0.mk (Kd.R_below (by (with_reducible repeat (first | apply Kd.R_alloc | apply Kd.R_drewN | apply Kd.R_drew)); exact HO209.out) hb); have n1_ := Aside0.mk (Kd.R_below (by (with_reducible repeat (first | apply Kd.R_alloc | apply Kd.R_drewN | apply Kd.R_drew)); exact HO212.out) hb); have n2_ := Aside0.mk (Kd.R_below (by (with_reducible repeat (first | apply Kd.R_alloc | apply Kd.R_drewN | apply Kd.R_drew)); exact HO220.out) hb); have n3_ := Aside0.mk (Kd.R_below (by (with_reducible repeat (first | apply Kd.R_alloc | apply Kd.R_drewN | apply Kd.R_drew)); exact HO223.out) hb); have n4_ := Aside0.mk (Kd.R_below (by (with_reducible repeat (first | apply Kd.R_alloc | apply Kd.R_drewN | apply Kd.R_drew)); exact HO226.out) hb); have n5_ := Aside0.mk (Kd.R_below (by (with_reducible repeat (first | apply Kd.R_alloc | apply Kd.R_drewN | apply Kd.R_drew)); exact HO233.out) hb); have n6_ := Aside0.mk (Kd.R_below (by (with_reducible repeat (first | apply Kd.R_alloc | apply Kd.R_drewN | apply Kd.R_drew)); exact HO237.out) hb); have n7_ := Aside0.mk (blk_below (g := gb216) (o := .cells #[.int .i64 t213, .int .i64 t214] 29 (0, 0)) (by (with_reducible repeat (first | refine blk_drewN ?_ _ | refine blk_drew ?_ | refine blk_alloc ?_ _)); exact BK216.out) hb); have n8_ := Aside0.mk (blk_below (g := gb230) (o := .cells #[.int .i64 t227, .int .i64 t228] 29 (0, 0)) (by (with_reducible repeat (first | refine blk_drewN ?_ _ | refine blk_drew ?_ | refine blk_alloc ?_ _)); exact BK230.out) hb); have n9_ := Aside0.mk (below_step (by repeat (first | (with_reducible first | exact HB.out | apply below_alloc | apply pw_below_drewN | apply below_drew1 | refine below_set ?_ GE216.out | refine below_set ?_ GE230.out) | exact HB.out)) hb); clear HO209; clear HO212; clear HO220; clear HO223; clear HO226; clear HO233; clear HO237; clear BK216; clear BK230; clear HB; have HO209 := n0_; have HO212 := n1_; have HO220 := n2_; have HO223 := n3_; have HO226 := n4_; have HO233 := n5_; have HO237 := n6_; have BK216 := n7_; have BK230 := n8_; have HB := n9_; clear n0_ n1_ n2_ n3_ n4_ n5_ n6_ n7_ n8_ n9_; (try clear hb); (try clear hb2); (try clear hk); (try clear hi)) | (go_at_call 22; (with_reducible refine (choose_Majority.calls k _ _ y207 10 14 t240 _ ?side1 ?side2 A14.out).mono ?_); (case side1 => repeat (first | exact (Kd.R_reads' HO209.out).2.2 | (with_reducible refine Kd.C_alloc ?_ _) | (with_reducible refine Kd.C_drewN ?_ _) | (with_reducible refine Kd.C_drew ?_))); (case side2 => exact (Kd.R_reads' HO209.out).2.1); rintro e w39 ⟨rfl, hb⟩; have n0_ := Aside0.mk (Kd.R_below (by (with_reducible repeat (first | apply Kd.R_alloc | apply Kd.R_drewN | apply Kd.R_drew)); exact HO209.out) hb); have n1_ := Aside0.mk (Kd.R_below (by (with_reducible repeat (first | apply Kd.R_alloc | apply Kd.R_drewN | apply Kd.R_drew)); exact HO212.out) hb); have n2_ := Aside0.mk (Kd.R_below (by (with_reducible repeat (first | apply Kd.R_alloc | apply Kd.R_drewN | apply Kd.R_drew)); exact HO220.out) hb); have n3_ := Aside0.mk (Kd.R_below (by (with_reducible repeat (first | apply Kd.R_alloc | apply Kd.R_drewN | apply Kd.R_drew)); exact HO223.out) hb); have n4_ := Aside0.mk (Kd.R_below (by (with_reducible repeat (first | apply Kd.R_alloc | apply Kd.R_drewN | apply Kd.R_drew)); exact HO226.out) hb); have n5_ := Aside0.mk (Kd.R_below (by (with_reducible repeat (first | apply Kd.R_alloc | apply Kd.R_drewN | apply Kd.R_drew)); exact HO233.out) hb); have n6_ := Aside0.mk (Kd.R_below (by (with_reducible repeat (first | apply Kd.R_alloc | apply Kd.R_drewN | apply Kd.R_drew)); exact HO237.out) hb); have n7_ := Aside0.mk (blk_below (g := gb216) (o := .cells #[.int .i64 t213, .int .i64 t214] 29 (0, 0)) (by (with_reducible repeat (first | refine blk_drewN ?_ _ | refine blk_drew ?_ | refine blk_alloc ?_ _)); exact BK216.out) hb); have n8_ := Aside0.mk (blk_below (g := gb230) (o := .cells #[.int .i64 t227, .int .i64 t228] 29 (0, 0)) (by (with_reducible repeat (first | refine blk_drewN ?_ _ | refine blk_drew ?_ | refine blk_alloc ?_ _)); exact BK230.out) hb); have n9_ := Aside0.mk (below_step (by repeat (first | (with_reducible first | exact HB.out | apply below_alloc | apply pw_below_drewN | apply below_drew1 | refine below_set ?_ GE216.out | refine below_set ?_ GE230.out) | exact HB.out)) hb); clear HO209; clear HO212; clear HO220; clear HO223; clear HO226; clear HO233; clear HO237; clear BK216; clear BK230; clear HB; have HO209 := n0_; have HO212 := n1_; have HO220 := n2_; have HO223 := n3_; have HO226 := n4_; have HO233 := n5_; have HO237 := n6_; have BK216 := n7_; have BK230 := n8_; have HB := n9_; clear n0_ n1_ n2_ n3_ n4_ n5_ n6_ n7_ n8_ n9_; (try clear hb); (try clear hb2); (try clear hk); (try clear hi)))
        go_ret
        exact ⟨by first | rfl | (simp [errW_none, errW_some] <;> rfl) | (simp [*, errW_none, errW_some] <;> rfl), by repeat (first | (with_reducible first | exact HB.out | apply below_alloc | apply pw_below_drewN | apply below_drew1 | refine below_set ?_ GE216.out | refine below_set ?_ GE230.out) | exact HB.out)⟩
       ·rw [if_neg c13] at H
        exact absurd H (by simp)
      ·rw [if_neg c11] at H
       exact absurd H (by simp)
     ·rw [if_neg c10] at H
      exact absurd H (by simp)
    ·replace c9 := Bool.eq_false_iff.mpr c9
     subst c9
     have H1 : (none) = some r := by rw [if_neg (show ¬ (false = true) by decide)] at H; exact H
     clear H
     have H := H1
     clear H1
     exact absurd H (by simp)
   ·rw [if_neg c7] at H
    exact absurd H (by simp)
  ·rw [if_neg c6] at H
   exact absurd H (by simp)
 ·replace c5 := Bool.eq_false_iff.mpr c5
  subst c5
  have H1 : (none) = some r := by rw [if_neg (show ¬ (false = true) by decide)] at H; exact H
  clear H
  have H := H1
  clear H1
  exact absurd H (by simp)

end Go.Proofs.Ytlfilhplklifjaa.X

namespace Go.Proofs.Ytlfilhplklifjaa.X
open Go.RowKit Go.Proofs.YtlfilhplklifjaaW.PrintWords Go.Proofs.YtlfilhplklifjaaW.PrintLast Go.Proofs.YtlfilhplklifjaaW.PrintMore
attribute [local go_sem] max2_int min2_int max_two min_two max_three min_three max_four min_four   -- for this text's walks alone
set_option linter.unusedVariables false
set_option linter.unusedSimpArgs false


/-! ### api_Cand_29: function 29 -/
instance inh37 : Inhabited S37 := ⟨z37⟩
def enc37 (x : S37) : List Value := [.int .i64 x.f0, .int .i64 x.f1, .int .i64 x.f2, .int .i64 x.f3, .int .i64 x.f4]
theorem flat37 : HB.Flat k37 enc37 := ⟨fun h => k37_open h, fun _ => rfl, fun h => k37_openM h, fun w base ok x => k37_mkM w base ok x⟩
def api_Cand_29.f (l0 : List S37) : Option (List S37) := if l0.length < 4611686018427387904 then some l0.reverse else none
set_option maxHeartbeats 1000000 in
theorem api_Cand_29.calls (P0_ : Nat → Prop) (u9000_ : Value) (l0 : List S37) (r : List S37) (w0 w : World) (hB : Below w0.heap.size w0 w) (ho0 : Kd.R k37 37 w w0.heap.size P0_ u9000_ l0) (h : api_Cand_29.f l0 = some r) :
  Calls Try.prog 29 #[u9000_] w fun e w' => e = .returned (.tuple #[]) ∧ Kd.R k37 37 w' w0.heap.size (fun k_ => (P0_ k_ ∨ w.heap.size ≤ k_)) u9000_ r ∧ Below w0.heap.size w0 w' ∧ Kept w w' (fun k_ => P0_ k_) := by
 unfold api_Cand_29.f at h
 have hlt : l0.length < 4611686018427387904 := by
  rcases Nat.lt_or_ge l0.length 4611686018427387904 with h1 | h1
  ·exact h1
  ·rw [if_neg (by omega)] at h; cases h
 rw [if_pos hlt] at h
 obtain rfl := Option.some.inj h
 rcases HB.holdsK_own flat37 (by decide) ho0 with ⟨rfl, rfl⟩ | ⟨g, cap, rfl, hbase, hP, hg, hh⟩
 ·have hcon := AnyQ.slices_Reverse_empty Try.revCand none 0 w
  change Calls Try.prog 29 _ _ _ at hcon
  refine hcon.mono ?_
  rintro e w' ⟨rfl, rfl⟩
  exact ⟨rfl, Kd.R_nil _ _ _ _ _, hB, Kept.refl _ _⟩
 ·have hcon := AnyQ.slices_Reverse Try.revCand 5 Try.isAgg37 Try.sizeOf37 enc37 (fun _ => rfl) (fun x v hv => by simp [enc37] at hv; rcases hv with rfl | rfl | rfl | rfl | rfl <;> rfl) g 0 cap l0.toArray w hh (by simp; omega)
  change Calls Try.prog 29 _ _ _ at hcon
  refine (hcon).mono ?_
  rintro e w' ⟨rfl, n, rfl⟩
  have := HB.sort_post flat37 (by decide) hB ho0 n l0.toArray.reverse #[] (by simp)
  rw [Go.Sort.grow_empty] at this
  rw [show l0.toArray.reverse.toList = l0.reverse by simp] at this
  exact ⟨rfl, this⟩

end Go.Proofs.Ytlfilhplklifjaa.X

namespace Go.Proofs.Ytlfilhplklifjaa.X
open Go.RowKit Go.Proofs.YtlfilhplklifjaaW.PrintWords Go.Proofs.YtlfilhplklifjaaW.PrintLast Go.Proofs.YtlfilhplklifjaaW.PrintMore
attribute [local go_sem] max2_int min2_int max_two min_two max_three min_three max_four min_four   -- for this text's walks alone
set_option linter.unusedVariables false
set_option linter.unusedSimpArgs false


/-! ### api_Cand_28: function 28 -/
def api_Cand_28.f (l0 : List S37) : Option (List S37) := if l0.length * 40 ≤ 140737488355328 then some l0 else none
theorem info_api_Cand_28 : (Try.prog.info? 37).map (fun i => (i.zero, i.size, i.bytes)) = some (some (.agg #[(.int .i64 0), (.int .i64 0), (.int .i64 0), (.int .i64 0), (.int .i64 0)]), 5, 40) := by kernel_rfl
set_option maxHeartbeats 1000000 in
theorem api_Cand_28.calls (A0 : Option Addr) (c0 : Nat) (l0 : List S37) (r : List S37) (w : World) (hr0 : Kd.C k37 w A0 l0.length l0) (hc0 : l0.length ≤ c0) (h : api_Cand_28.f l0 = some r) :
  Calls Try.prog 28 #[.slice A0 l0.length c0] w fun e w' => ∃ v0_ : Value, e = .returned (v0_) ∧ Kd.R k37 37 w' w.heap.size (fun _ => True) v0_ r ∧ Below w.heap.size w w' := by
 unfold api_Cand_28.f at h
 have hlt : l0.length * 40 ≤ 140737488355328 := by
  rcases Nat.lt_or_ge 140737488355328 (l0.length * 40) with h1 | h1
  ·rw [if_neg (by omega)] at h; cases h
  ·exact h1
 rw [if_pos hlt] at h
 obtain rfl := Option.some.inj h
 have q22 : ∀ (w : World) (a : Option Addr) (n c n' c' : Nat), (binOp .eql 22 (.slice a n c) (.slice none n' c')).run Try.prog w = .ok (.bool a.isNone) w := fun w a n c n' c' => Lib.run_eql_slice_nil w _ _ a n c n' c' Try.underlying22
 cases A0 with
 | none =>
  have he : l0 = [] := by
   cases l0 with
   | nil => rfl
   | cons a q =>
    obtain ⟨ad, e, _⟩ := hr0.2.2 (by simp)
    cases e
  subst he
  clear hr0 hc0 hlt h
  go_enter Try.func28, Try.ntmps28
  go_wp2
  go_ret
  exact ⟨_, rfl, Kd.R_nil _ _ _ _ _, Below.refl _ _⟩
 | some ad =>
  obtain ⟨i0, hi, hzz⟩ := Option.map_eq_some_iff.1 info_api_Cand_28
  simp only [Prod.mk.injEq] at hzz
  obtain ⟨hz0, hz1, hz2⟩ := hzz
  have hcell := Aside0.mk (show ∀ t u, (Go.Sort.flatK enc37 5 l0.toArray).toList[t]? = some u → w.cell? (ad.add t) = some u from HB.news_cells flat37 (by decide) hr0)
  have hone := Aside0.mk (show ∀ u ∈ (Go.Sort.flatK enc37 5 l0.toArray).toList, u.oneCell' = true from HB.one_flatK (d := k37) (enc := enc37) (fun x v hv => by simp [enc37] at hv; rcases hv with rfl | rfl | rfl | rfl | rfl <;> rfl) (fun _ => rfl) (by decide) l0.toArray)
  have hlen := Aside0.mk (show (Go.Sort.flatK enc37 5 l0.toArray).toList.length = l0.length * 5 by simp)
  have Hlt := Aside0.mk hlt
  have Hi := Aside0.mk hi
  have fin : ∀ (W : World) (v' : Value), W.ownsRow w.heap.size 37 5 v' l0.length (Go.Sort.flatK enc37 5 l0.toArray).toList → Kd.R k37 37 W w.heap.size (fun _ => True) v' l0 := fun W v' h => HB.own_flat flat37 (by decide) h
  have FIN := Aside0.mk fin
  have hsz : ∀ W : World, (Go.sizeOf 37).run Try.prog W = .ok 5 W := Try.sizeOf37
  clear hr0 hc0 h hlt hi fin
  generalize (Go.Sort.flatK enc37 5 l0.toArray).toList = news at hcell hone hlen FIN
  go_enter Try.func28, Try.ntmps28
  go_wp2_with (at_builtin; refine wpList_append_own _ rfl _ _ 22 rfl w.heap.size 37 i0 (.agg #[(.int .i64 0), (.int .i64 0), (.int .i64 0), (.int .i64 0), (.int .i64 0)]) 5 40 Try.underlying22 Hi.out hz0 hz1 hz2 rfl (by decide) _ _ _ rfl (World.ownsRow_made w #[] 0 (Nat.le_refl _) (Nat.zero_le _) (by simp)) ad l0.length c0 news rfl ?qc1 ?qc2 ?qc3 ?qc4 ?qc5 ?qc6 ?_)
  case qc1 => exact hlen.out
  case qc2 =>
   intro j u hj
   exact Lib.cell?_alloc_some _ (hcell.out j u hj)
  case qc3 => exact hone.out
  case qc4 => have := Hlt.out; rw [Nat.zero_add]; unfold maxLen; omega
  case qc5 => rw [Nat.zero_add]; exact Hlt.out
  case qc6 => simp
  intro v' w1 hown hgrow hnil
  go_wp2
  go_ret
  refine ⟨v', rfl, FIN.out _ _ (by simpa using hown), ?_⟩
  exact ((Below.refl _ w).alloc (Nat.le_refl _) _).grown hgrow (by simp) (by intro k hk; simp [Value.ownBlock] at hk; omega)

end Go.Proofs.Ytlfilhplklifjaa.X

namespace Go.Proofs.Ytlfilhplklifjaa.X
open Go.RowKit Go.Proofs.YtlfilhplklifjaaW.PrintWords Go.Proofs.YtlfilhplklifjaaW.PrintLast Go.Proofs.YtlfilhplklifjaaW.PrintMore
attribute [local go_sem] max2_int min2_int max_two min_two max_three min_three max_four min_four   -- for this text's walks alone
set_option linter.unusedVariables false
set_option linter.unusedSimpArgs false

attribute [local go_sem high] eqA29
/-! ### timesynclaw24_ChooseShifts: function 8 -/
mutual
def timesynclaw24_ChooseShifts.l0 : Nat → List (S37) → Int → List (S37) → List (S37) → Int → Int → Option (Bool)
 | 0, _, _, _, _, _, _ => none
 | k + 1, x0, x1, x5, x6, x28, x29 => if x29 < x28 then (if 0 ≤ x29 then (if x29 < (x5.length : Int) then (timesynclaw24_ChooseShifts.l0 k x0 x1 (x5.set (x29 : Int).toNat (⟨(rd_T37 x5 x29).f0, wrap64 (((rd_T37 x5 x29).f1) + (wrap64 (x1))), (rd_T37 x5 x29).f2, (rd_T37 x5 x29).f3, (rd_T37 x5 x29).f4⟩ : S37)) x6 x28 (wrap64 (x29 + 1))) else (none)) else (none)) else ((api_Cand_29.f x6).bind fun t409 => ((choose_Check.f k x0).bind fun t410 => (if t410 = 0 then ((choose_Check.f k x5).bind fun t411 => (timesynclaw24_ChooseShifts.j1 k x0 x1 x5 t409 (t411 != 0))) else (timesynclaw24_ChooseShifts.j1 k x0 x1 x5 t409 true))))
def timesynclaw24_ChooseShifts.j1 : Nat → List (S37) → Int → List (S37) → List (S37) → Bool → Option (Bool)
 | 0, _, _, _, _, _ => none
 | k + 1, x0, x1, x5, x6, x52 => if x52 = true then ((timesynclaw24_awake.f k).bind fun t412 => (some t412)) else ((choose_Select.f k x0).bind fun bt413 => ((choose_Select.f k x5).bind fun bt420 => ((choose_Select.f k x6).bind fun bt427 => (if bt413.2.2.2 = bt420.2.2.2 then (if bt413.2.2.2 = bt427.2.2.2 then ((slices_Equal_int_int.f k bt413.1 bt420.1).bind fun t434 => (if t434 = true then (timesynclaw24_ChooseShifts.j2 k x0 x1 bt413.1 bt413.2.2.2 bt427.1 ((bt413.1.length : Int) != (bt427.1.length : Int)) bt413.2.1 bt413.2.2.1 bt420.2.1 bt420.2.2.1 bt427.2.1 bt427.2.2.1) else (timesynclaw24_ChooseShifts.j2 k x0 x1 bt413.1 bt413.2.2.2 bt427.1 true bt413.2.1 bt413.2.2.1 bt420.2.1 bt420.2.2.1 bt427.2.1 bt427.2.2.1))) else (timesynclaw24_ChooseShifts.j2 k x0 x1 bt413.1 bt413.2.2.2 bt427.1 true bt413.2.1 bt413.2.2.1 bt420.2.1 bt420.2.2.1 bt427.2.1 bt427.2.2.1)) else (timesynclaw24_ChooseShifts.j2 k x0 x1 bt413.1 bt413.2.2.2 bt427.1 true bt413.2.1 bt413.2.2.1 bt420.2.1 bt420.2.2.1 bt427.2.1 bt427.2.2.1)))))
def timesynclaw24_ChooseShifts.j2 : Nat → List (S37) → Int → List Int → Int → List Int → Bool → Int → Int → Int → Int → Int → Int → Option (Bool)
 | 0, _, _, _, _, _, _, _, _, _, _, _, _ => none
 | k + 1, x0, x1, x8, x10, x14, x92, x420000, x420001, x427000, x427001, x434000, x434001 => if x92 = true then (none) else (if x10 = 0 then (timesynclaw24_ChooseShifts.l1 k x0 x1 x14 x8 (x8.length : Int) 0 x420000 x420001 x427000 x427001 x434000 x434001) else (if (x8.length : Int) = 0 then ((timesynclaw24_awake.f k).bind fun t435 => (some t435)) else (none)))
def timesynclaw24_ChooseShifts.l1 : Nat → List (S37) → Int → List Int → List Int → Int → Int → Int → Int → Int → Int → Int → Int → Option (Bool)
 | 0, _, _, _, _, _, _, _, _, _, _, _, _ => none
 | k + 1, x0, x1, x14, x101, x102, x103, x420000, x420001, x427000, x427001, x434000, x434001 => if x103 < x102 then (if 0 ≤ x103 then (if x103 < (x101.length : Int) then (if 0 ≤ (wrap64 ((wrap64 ((x14.length : Int) - 1)) - x103)) then (if (wrap64 ((wrap64 ((x14.length : Int) - 1)) - x103)) < (x14.length : Int) then (if (rd x14 (wrap64 ((wrap64 ((x14.length : Int) - 1)) - x103))) = (wrap64 ((wrap64 ((x0.length : Int) - 1)) - (rd x101 x103))) then (timesynclaw24_ChooseShifts.l1 k x0 x1 x14 x101 x102 (wrap64 (x103 + 1)) x420000 x420001 x427000 x427001 x434000 x434001) else (none)) else (none)) else (none)) else (none)) else (none)) else (if (x427000 == (wrap64 (x420000 + (wrap64 (x1)))) && (x427001 == (wrap64 (x420001 + (wrap64 (x1)))))) = true then (if (x434000 == x420000 && (x434001 == x420001)) = true then ((timesynclaw24_awake.f k).bind fun t438 => (some t438)) else (none)) else (none))
end
def timesynclaw24_ChooseShifts.f (k : Nat) (l0 : List (S37)) (a1 : Int) : Option (Bool) := if (l0.length : Int) > 100 then ((timesynclaw24_awake.f k).bind fun t400 => (some t400)) else ((api_Cand_28.f l0).bind fun t401 => ((api_Cand_28.f l0).bind fun t404 => (timesynclaw24_ChooseShifts.l0 k l0 a1 t401 t404 (t401.length : Int) 0)))
set_option maxHeartbeats 8000000 in
set_option maxRecDepth 100000 in
theorem timesynclaw24_ChooseShifts.calls (k : Nat) (A0 : Option Addr) (c0 : Nat) (l0 : List (S37)) (a1 : Int) (r : Bool) (w : World) (hr0 : Kd.C k37 w A0 l0.length l0) (hc0 : l0.length ≤ c0) (h : timesynclaw24_ChooseShifts.f k l0 a1 = some r) :
  Calls Try.prog 8 #[.slice A0 l0.length c0, .int .i16 a1] w fun e w' => e = .returned (.bool r) ∧ Below w.heap.size w w' := by
 have hu29 := Try.underlying29
 have HR0 := Aside0.mk hr0
 have HC0 := Aside0.mk hc0
 clear hr0 hc0
 have HB := Aside0.mk (Below.refl w.heap.size w)
 have H : (if (l0.length : Int) > 100 then ((timesynclaw24_awake.f k).bind fun t400 => (some t400)) else ((api_Cand_28.f l0).bind fun t401 => ((api_Cand_28.f l0).bind fun t404 => (timesynclaw24_ChooseShifts.l0 k l0 a1 t401 t404 (t401.length : Int) 0)))) = some r := h
 clear h
 by_cases c3 : (l0.length : Int) > 100
 ·rw [if_pos c3] at H
  have c3b0 : decide (100 < (l0.length : Int)) = true := decide_eq_true c3
  have c3b1 : decide (100 < l0.length) = true := decide_eq_true (by omega)
  clear c3
  replace H := Option.bind_eq_some_iff.mp H
  obtain ⟨t400, A40, H⟩ := H
  replace H : (some t400) = some r := H
  have A4 := Aside0.mk A40
  clear A40
  obtain rfl := Option.some.inj H
  go_enter Try.func8, Try.ntmps8
  go_wp2_with (first | ((with_reducible refine gate_callee (f := 14) rfl ?_); refine goesL_ (some 22) rfl rfl Try.func14 (by kernel_rfl) rfl #[] rfl (by (try simp only [List.map_toArray, List.map_cons, List.map_nil]); first | done | rfl | (simp only [List.length_drop, List.length_take]; rfl)) ?_; (with_reducible refine (timesynclaw24_awake.calls k  t400 _ A4.out).mono ?_); rintro e w5 ⟨rfl, hb⟩; refine ⟨_, rfl, ?_⟩; have n0_ := Aside0.mk (below_step (by repeat (first | (with_reducible first | exact HB.out | apply below_alloc | apply pw_below_drewN | apply below_drew1) | exact HB.out)) hb); clear HB; have HB := n0_; clear n0_; (try clear hb); (try clear hb2); (try clear hk); (try clear hi)))
  go_ret
  exact ⟨by first | rfl | (simp [errW_none, errW_some] <;> rfl) | (simp [*, errW_none, errW_some] <;> rfl), by repeat (first | (with_reducible first | exact HB.out | apply below_alloc | apply pw_below_drewN | apply below_drew1) | exact HB.out)⟩
 ·rw [if_neg c3] at H
  have c3b0 : decide (100 < (l0.length : Int)) = false := decide_eq_false c3
  have c3b1 : decide (100 < l0.length) = false := decide_eq_false (by omega)
  clear c3
  replace H := Option.bind_eq_some_iff.mp H
  obtain ⟨t401, A60, H⟩ := H
  replace H : ((api_Cand_28.f l0).bind fun t404 => (timesynclaw24_ChooseShifts.l0 k l0 a1 t401 t404 (t401.length : Int) 0)) = some r := H
  have A6 := Aside0.mk A60
  clear A60
  replace H := Option.bind_eq_some_iff.mp H
  obtain ⟨t404, A70, H⟩ := H
  replace H : (timesynclaw24_ChooseShifts.l0 k l0 a1 t401 t404 (t401.length : Int) 0) = some r := H
  have A7 := Aside0.mk A70
  clear A70
  have H' := Aside0.mk H
  clear H
  go_enter Try.func8, Try.ntmps8
  go_wp2_with (first | ((with_reducible refine gate_callee (f := 28) rfl ?_); refine goesL_ (some 24) rfl rfl Try.func28 (by kernel_rfl) rfl #[.slice A0 l0.length c0] rfl (by (try simp only [List.map_toArray, List.map_cons, List.map_nil]); first | done | rfl | (simp only [List.length_drop, List.length_take]; rfl)) ?_; (with_reducible refine (api_Cand_28.calls _ _ l0 t401 _ ?side1 ?side2 A6.out).mono ?_); (case side1 => repeat (first | exact HR0.out | (with_reducible refine Kd.C_alloc ?_ _) | (with_reducible refine Kd.C_drewN ?_ _) | (with_reducible refine Kd.C_drew ?_))); (case side2 => exact HC0.out); rintro e w8 ⟨v402, rfl, ho0, hb⟩; refine ⟨_, rfl, ?_⟩; have n0_ := Aside0.mk (Kd.R_lower ho0 (below_size (by repeat (first | (with_reducible first | exact HB.out | apply below_alloc | apply pw_below_drewN | apply below_drew1) | exact HB.out)))); have n1_ := Aside0.mk (below_step (by repeat (first | (with_reducible first | exact HB.out | apply below_alloc | apply pw_below_drewN | apply below_drew1) | exact HB.out)) hb); clear HB; have HO403 := n0_; have HB := n1_; clear n0_ n1_; (try clear hb); (try clear hb2); (try clear hk); (try clear hi); (try clear ho0)) | ((with_reducible refine gate_callee (f := 28) rfl ?_); refine goesL_ (some 26) rfl rfl Try.func28 (by kernel_rfl) rfl #[.slice A0 l0.length c0] rfl (by (try simp only [List.map_toArray, List.map_cons, List.map_nil]); first | done | rfl | (simp only [List.length_drop, List.length_take]; rfl)) ?_; (with_reducible refine (api_Cand_28.calls _ _ l0 t404 _ ?side1 ?side2 A7.out).mono ?_); (case side1 => repeat (first | exact (Kd.C_below HR0.out HB.out) | (with_reducible refine Kd.C_alloc ?_ _) | (with_reducible refine Kd.C_drewN ?_ _) | (with_reducible refine Kd.C_drew ?_))); (case side2 => exact HC0.out); rintro e w9 ⟨v405, rfl, ho0, hb⟩; refine ⟨_, rfl, ?_⟩; have n0_ := Aside0.mk (Kd.R_elder' (by (with_reducible repeat (first | apply Kd.R_alloc | apply Kd.R_drewN | apply Kd.R_drew)); exact HO403.out) (Kd.R_base ho0) hb); have n1_ := Aside0.mk (Kd.R_lower (Kd.R_new' ho0 (Kd.R_lt (by (with_reducible repeat (first | apply Kd.R_alloc | apply Kd.R_drewN | apply Kd.R_drew)); exact HO403.out))) (below_size (by repeat (first | (with_reducible first | exact HB.out | apply below_alloc | apply pw_below_drewN | apply below_drew1) | exact HB.out)))); have n2_ := Aside0.mk (below_step (by repeat (first | (with_reducible first | exact HB.out | apply below_alloc | apply pw_below_drewN | apply below_drew1) | exact HB.out)) hb); clear HO403; clear HB; have HO403 := n0_; have HO406 := n1_; have HB := n2_; clear n0_ n1_ n2_; (try clear hb); (try clear hb2); (try clear hk); (try clear hi); (try clear ho0); obtain ⟨Ao10, co10, eo10⟩ := Kd.R_slice HO403.out; subst eo10))
  go_loopg [29] k (fun kq v29 w' => ∃ (x5_1 : List (S37)) (x29_1 : Int), v29 = .int .i64 x29_1 ∧ Aside0 (timesynclaw24_ChooseShifts.l0 kq l0 a1 x5_1 t404 (t401.length : Int) x29_1 = some r) ∧ Aside0 (kq ≤ k) ∧ Aside0 (Kd.R k37 37 w' w.heap.size (fun k_ => some k_ ≠ (v405 : Value).ownBlock) (.slice Ao10 t401.length co10) x5_1) ∧ Aside0 (Kd.R k37 37 w' w.heap.size (fun k_ => some k_ ≠ ((.slice Ao10 t401.length co10) : Value).ownBlock) v405 t404) ∧ Aside0 (Below w.heap.size w w'))
  case atStart => exact ⟨(t401), (0), (by first | rfl | (simp; done) | (simp [*]; done)), H', ⟨Nat.le_refl _⟩, ⟨by (with_reducible repeat (first | apply Kd.R_alloc | apply Kd.R_drewN | apply Kd.R_drew)); exact Kd.R_mono HO403.out (fun _ hk => hk.2)⟩, ⟨by (with_reducible repeat (first | apply Kd.R_alloc | apply Kd.R_drewN | apply Kd.R_drew)); exact Kd.R_mono HO406.out (fun _ hk => hk.2)⟩, ⟨by repeat (first | (with_reducible first | exact HB.out | apply below_alloc | apply pw_below_drewN | apply below_drew1) | exact HB.out)⟩⟩
  case round =>
   clear H'
   try clear c1
   try clear c2
   try clear p2
   try clear c3
   try clear c3b0
   try clear c3b1
   try clear c8
   obtain ⟨x5_1, x29_1, rfl, HA, HK1, HO_5, HO_6, HB⟩ := hrel
   have hl5_1 := (Kd.R_reads' HO_5.out).1
   rw [hl5_1] at HO_5
   (try simp only [hl5_1])
   (try simp only [hl5_1] at HO_6)
   cases gk with
   | zero => exact absurd HA.out (by simp [timesynclaw24_ChooseShifts.l0])
   | succ k1 =>
    have H := HA.out
    clear HA
    simp only [timesynclaw24_ChooseShifts.l0] at H
    by_cases c11 : x29_1 < (t401.length : Int)
    ·rw [if_pos c11] at H
     have c11b0 : decide (x29_1 < (t401.length : Int)) = true := decide_eq_true c11
     clear c11
     (try (have c11r0 := c11b0; simp only [hl5_1] at c11r0))
     by_cases c12 : 0 ≤ x29_1
     ·rw [if_pos c12] at H
      have c12b0 : decide (0 ≤ x29_1) = true := decide_eq_true c12
      clear c12
      (try (have c12r0 := c12b0; simp only [hl5_1] at c12r0))
      by_cases c13 : x29_1 < (x5_1.length : Int)
      ·rw [if_pos c13] at H
       have c13b0 : decide (x29_1 < (x5_1.length : Int)) = true := decide_eq_true c13
       clear c13
       (try (have c13r0 := c13b0; simp only [hl5_1] at c13r0))
       obtain ⟨y408, hy408⟩ : ∃ y_ : List (S37), y_ = (x5_1.set (x29_1 : Int).toNat (⟨(rd_T37 x5_1 x29_1).f0, wrap64 (((rd_T37 x5_1 x29_1).f1) + (wrap64 (a1))), (rd_T37 x5_1 x29_1).f2, (rd_T37 x5_1 x29_1).f3, (rd_T37 x5_1 x29_1).f4⟩ : S37)) := ⟨_, rfl⟩
       replace H : (timesynclaw24_ChooseShifts.l0 k1 l0 a1 y408 t404 (t401.length : Int) (wrap64 (x29_1 + 1))) = some r := by first | (rw [hy408]; with_reducible exact H) | (have H2_ := (Option.bind_some _ _).symm.trans H; rw [hy408]; with_reducible exact H2_) | (have H2_ := (Option.bind_some _ _).symm.trans H; with_reducible exact H2_) | with_reducible exact H | (rw [hy408]; exact H) | exact H
       have Ny408 := Aside0.mk hy408
       clear hy408
       have H' := Aside0.mk H
       clear H
       have p407 : 0 ≤ (x29_1 : Int) := of_decide_eq_true (by first | (with_reducible assumption) | assumption)
       have q407 : x29_1 < (x5_1.length : Int) := of_decide_eq_true (by first | (with_reducible assumption) | assumption)
       obtain ⟨ad407, e407, hx407_0, hx407_1, hx407_2, hx407_3, hx407_4⟩ := at_T37 (Kd.R_reads' HO_5.out).2.2 x29_1 p407 q407
       cases e407
       replace p407 := eq_true p407
       replace q407 := eq_true q407
       have p14 : 0 ≤ (x29_1 : Int) := of_decide_eq_true (by first | (with_reducible assumption) | assumption)
       have q14 : (x29_1 : Int) < ((x5_1.length : Int) : Int) := of_decide_eq_true (by first | (with_reducible assumption) | assumption)
       obtain ⟨go14, co14, eo14, gb14, gl14, cl14, HG14⟩ := Kd.R_form HO_5.out (by omega)
       (first | cases eo14 | (injection eo14 with ea_ en_ ec_; (first | subst ea_ | (injection ea_ with ea_; subst ea_)); subst ec_; clear en_))
       have GB14 := Aside0.mk gb14
       have GG14 := Aside0.mk HG14
       clear gb14 gl14 HG14
       (first | simp only [add_plain] at hx407_0 | skip)
       (first | simp only [add_plain] at hx407_1 | skip)
       (first | simp only [add_plain] at hx407_2 | skip)
       (first | simp only [add_plain] at hx407_3 | skip)
       (first | simp only [add_plain] at hx407_4 | skip)
       obtain ⟨ce14, hcl14, hM14, hcc14, hfr14⟩ := Kd.R_elem HO_5.out z37 (x29_1 : Int) p14 q14
       obtain rfl := k37_openM hM14
       have hx14_0 : wr.cell? ⟨go14, (x29_1 : Int).toNat * 5, none⟩ = some (.int .i64 ((rd_T37 x5_1 x29_1).f0)) := hcc14 0 _ rfl
       have hx14_1 : wr.cell? ⟨go14, (x29_1 : Int).toNat * 5 + 1, none⟩ = some (.int .i64 ((rd_T37 x5_1 x29_1).f1)) := hcc14 1 _ rfl
       have hx14_2 : wr.cell? ⟨go14, (x29_1 : Int).toNat * 5 + 2, none⟩ = some (.int .i64 ((rd_T37 x5_1 x29_1).f2)) := hcc14 2 _ rfl
       have hx14_3 : wr.cell? ⟨go14, (x29_1 : Int).toNat * 5 + 3, none⟩ = some (.int .i64 ((rd_T37 x5_1 x29_1).f3)) := hcc14 3 _ rfl
       have hx14_4 : wr.cell? ⟨go14, (x29_1 : Int).toNat * 5 + 4, none⟩ = some (.int .i64 ((rd_T37 x5_1 x29_1).f4)) := hcc14 4 _ rfl
       have hf14_0 : wr.frozen? ⟨go14, (x29_1 : Int).toNat * 5, none⟩ = false := hfr14 0
       have hf14_1 : wr.frozen? ⟨go14, (x29_1 : Int).toNat * 5 + 1, none⟩ = false := hfr14 1
       have hf14_2 : wr.frozen? ⟨go14, (x29_1 : Int).toNat * 5 + 2, none⟩ = false := hfr14 2
       have hf14_3 : wr.frozen? ⟨go14, (x29_1 : Int).toNat * 5 + 3, none⟩ = false := hfr14 3
       have hf14_4 : wr.frozen? ⟨go14, (x29_1 : Int).toNat * 5 + 4, none⟩ = false := hfr14 4
       clear hcl14 hcc14 hfr14 hM14
       replace p14 := eq_true p14
       replace q14 := eq_true q14
       have HX15 := Aside0.mk (show Kd.R k37 37 wr w.heap.size (fun k_ => some k_ ≠ (v405 : Value).ownBlock) (.slice (some ⟨go14, 0, none⟩) x5_1.length co10) x5_1 from (by (with_reducible repeat (first | apply Kd.R_alloc | apply Kd.R_drewN | apply Kd.R_drew)); exact HO_5.out))
       obtain ⟨ce15, hcl15, hM15, hcc15, hfr15⟩ := Kd.R_elem HX15.out z37 (x29_1 : Int) (of_decide_eq_true (by first | (with_reducible assumption) | assumption)) (by have h_ : (x29_1 : Int) < ((x5_1.length : Int) : Int) := of_decide_eq_true (by first | (with_reducible assumption) | assumption); first | exact h_ | (have e_ := (Kd.R_reads' HO_5.out).1; omega) | simpa using h_)
       obtain rfl := k37_openM hM15
       have HP15 := Kd.R_seg HX15.out (x29_1 : Int) (of_decide_eq_true (by first | (with_reducible assumption) | assumption)) (by have h_ : (x29_1 : Int) < ((x5_1.length : Int) : Int) := of_decide_eq_true (by first | (with_reducible assumption) | assumption); first | exact h_ | (have e_ := (Kd.R_reads' HO_5.out).1; omega) | simpa using h_) (seg := [.int .i64 (wrap64 (((rd_T37 x5_1 x29_1).f1) + (wrap64 (a1))))]) (j := 1) hcl15 hcc15 (show 2 ≤ 5 from by decide) (x' := (⟨(rd_T37 x5_1 x29_1).f0, wrap64 (((rd_T37 x5_1 x29_1).f1) + (wrap64 (a1))), (rd_T37 x5_1 x29_1).f2, (rd_T37 x5_1 x29_1).f3, (rd_T37 x5_1 x29_1).f4⟩ : S37)) (k37_mkM _ _ _ (⟨(rd_T37 x5_1 x29_1).f0, wrap64 (((rd_T37 x5_1 x29_1).f1) + (wrap64 (a1))), (rd_T37 x5_1 x29_1).f2, (rd_T37 x5_1 x29_1).f3, (rd_T37 x5_1 x29_1).f4⟩ : S37) ) (fun _ hk => hk)
       have hx15_1 := hcc15 1 _ rfl
       (try simp only [show (k37).sz = 5 from rfl, Nat.mul_one, Nat.add_zero] at hx15_1)
       have hf15_1 := hfr15 1
       (try simp only [show (k37).sz = 5 from rfl, Nat.mul_one, Nat.add_zero] at hf15_1)
       clear hcl15 hcc15 hfr15 hM15
       go_wp2_with (first | ((with_reducible refine gate_store (t := 3) (p := 41) rfl ?_); refine store_event (t := 3) (p := 41) (v := ?vo_w16) (w1 := (wr.setCell ⟨go14, (x29_1 : Int).toNat * 5 + 1, none⟩ (.int .i64 (wrap64 (((rd_T37 x5_1 x29_1).f1) + (wrap64 (a1))))))) ?hg ?ho ?hn ?hr ?_; (case ho => rfl); (case hg => rfl); (case hn => rfl); (case hr => first | (go_simp; done) | (go_simp; rfl)); intro w16 hw; have hg : wr.grownBy w16 (some go14) := (by rw [hw]; exact HP15.2); have hp_ : Kd.R k37 37 w16 w.heap.size (fun k_ => some k_ ≠ (v405 : Value).ownBlock) (.slice (some ⟨go14, 0, none⟩) x5_1.length co10) y408 := (by rw [hw, Ny408.out]; exact HP15.1); clear HP15; have n0_ := Aside0.mk (hp_); have n1_ := Aside0.mk (Kd.R_after (v := (.slice (some ⟨go14, 0, none⟩) x5_1.length co10)) (v1 := (.slice (some ⟨go14, 0, none⟩) x5_1.length co10)) (ok := (fun _ => True)) (by (with_reducible repeat (first | apply Kd.R_alloc | apply Kd.R_drewN | apply Kd.R_drew)); exact Kd.R_mono HO_6.out (fun _ hk => ⟨trivial, hk⟩)) hg (.inl rfl)); have n2_ := Aside0.mk ((by rw [hw]; exact below_set (HB.out) GB14.out : Below w.heap.size w w16)); clear HO_5; clear HO_6; clear HB; have HO_5 := n0_; have HO_6 := n1_; have HB := n2_; clear n0_ n1_ n2_; clear hg hw hp_))
       (try simp only [← hl5_1])
       go_roundg k1
       case measure => have := HK1.out; omega
       case rel => exact ⟨(y408), (wrap64 (x29_1 + 1)), (by first | rfl | (simp; done) | (simp [*]; done)), H', ⟨by have := HK1.out; omega⟩, ⟨by (try simp only [hl5_1]); (with_reducible repeat (first | apply Kd.R_alloc | apply Kd.R_drewN | apply Kd.R_drew)); exact HO_5.out⟩, ⟨by (try simp only [hl5_1]); (with_reducible repeat (first | apply Kd.R_alloc | apply Kd.R_drewN | apply Kd.R_drew)); exact Kd.R_mono HO_6.out (fun _ hk => hk.2)⟩, ⟨by repeat (first | (with_reducible first | exact HB.out | apply below_alloc | apply pw_below_drewN | apply below_drew1) | exact HB.out)⟩⟩
      ·rw [if_neg c13] at H
       exact absurd H (by simp)
     ·rw [if_neg c12] at H
      exact absurd H (by simp)
    ·rw [if_neg c11] at H
     have c11b0 : decide (x29_1 < (t401.length : Int)) = false := decide_eq_false c11
     clear c11
     (try (have c11r0 := c11b0; simp only [hl5_1] at c11r0))
     replace H := Option.bind_eq_some_iff.mp H
     obtain ⟨t409, A170, H⟩ := H
     replace H : ((choose_Check.f k1 l0).bind fun t410 => (if t410 = 0 then ((choose_Check.f k1 x5_1).bind fun t411 => (timesynclaw24_ChooseShifts.j1 k1 l0 a1 x5_1 t409 (t411 != 0))) else (timesynclaw24_ChooseShifts.j1 k1 l0 a1 x5_1 t409 true))) = some r := H
     have A17 := Aside0.mk A170
     clear A170
     have HC18 := Aside0.mk H
     clear H
     obtain ⟨Ao19, co19, eo19⟩ := Kd.R_slice HO_6.out
     subst eo19
     go_upto_region 10 with (first | ((with_reducible refine gate_callee (f := 29) rfl ?_); refine goesL_ (some 44) rfl rfl Try.func29 (by kernel_rfl) rfl #[.slice Ao19 t404.length co19] rfl (by (try simp only [List.map_toArray, List.map_cons, List.map_nil]); first | done | rfl | (simp only [List.length_drop, List.length_take]; rfl)) ?_; (with_reducible refine (api_Cand_29.calls (fun k_ => some k_ = (.slice Ao19 t404.length co19 : Value).ownBlock) (.slice Ao19 t404.length co19) t404 t409 w _ ?side1 ?side2 A17.out).mono ?_); (case side1 => repeat (first | (with_reducible first | exact HB.out | apply below_alloc | apply pw_below_drewN | apply below_drew1) | exact HB.out)); (case side2 => exact Kd.R_tight rfl HO_6.out); rintro e w20 ⟨rfl, hy0, hb, hkp⟩; refine ⟨_, rfl, ?_⟩; have n0_ := Aside0.mk (Kd.R_mono (ok' := fun k_ => some k_ ≠ (.slice Ao19 t404.length co19 : Value).ownBlock) (Kd.R_keptB (HO_5.out) hkp (fun k_ hk_ hs_ => (hk_) hs_)) (fun k_ hk_ => hk_.1)); have n1_ := Aside0.mk (Kd.R_reok rfl hy0 (fun k_ e_ => HO_6.out.1 k_ e_)); have n2_ := Aside0.mk (hb); clear HO_5; clear HO_6; clear HB; have HO_5 := n0_; have HO_6 := n1_; have HB := n2_; clear n0_ n1_ n2_; (try clear hb); (try clear hkp); (try clear hy0)))
     (try simp only [Act.put, List.setIfInBounds_toArray, List.set_cons_zero, List.set_cons_succ])
     go_cut [52] (fun v52 wc => ∃ (kq : Nat) (x52_17 : Bool), v52 = .bool x52_17 ∧ Aside0 (timesynclaw24_ChooseShifts.j1 kq l0 a1 x5_1 t409 x52_17 = some r) ∧ Aside0 (kq ≤ k1) ∧ Aside0 (Kd.R k37 37 wc w.heap.size (fun k_ => some k_ ≠ ((.slice Ao19 t404.length co19) : Value).ownBlock) (.slice Ao10 x5_1.length co10) x5_1) ∧ Aside0 (Kd.R k37 37 wc w.heap.size (fun k_ => some k_ ≠ ((.slice Ao10 x5_1.length co10) : Value).ownBlock) (.slice Ao19 t404.length co19) t409) ∧ Aside0 (Below w.heap.size w wc))
     case first =>
      have H := HC18.out
      clear HC18
      replace H := Option.bind_eq_some_iff.mp H
      obtain ⟨t410, A210, H⟩ := H
      replace H : (if t410 = 0 then ((choose_Check.f k1 x5_1).bind fun t411 => (timesynclaw24_ChooseShifts.j1 k1 l0 a1 x5_1 t409 (t411 != 0))) else (timesynclaw24_ChooseShifts.j1 k1 l0 a1 x5_1 t409 true)) = some r := H
      have A21 := Aside0.mk A210
      clear A210
      by_cases c22 : t410 = 0
      ·rw [if_pos c22] at H
       have c22b0 : (t410 == 0) = true := beq_iff_eq.mpr c22
       have c22b1 : (t410 != 0) = false := bne_eq_false_iff_eq.mpr c22
       clear c22
       (first | rw [c22b0] | (simp only [i64_w, i32_w]; rw [c22b0]) | skip)
       (try (have c22r0 := c22b0; simp only [hl5_1] at c22r0))
       (try (have c22r1 := c22b1; simp only [hl5_1] at c22r1))
       replace H := Option.bind_eq_some_iff.mp H
       obtain ⟨t411, A230, H⟩ := H
       replace H : (timesynclaw24_ChooseShifts.j1 k1 l0 a1 x5_1 t409 (t411 != 0)) = some r := H
       have A23 := Aside0.mk A230
       clear A230
       have H' := Aside0.mk H
       clear H
       go_wp2_with (first | ((with_reducible refine gate_callee (f := 15) rfl ?_); refine goesL_ (some 46) rfl rfl Try.func15 (by kernel_rfl) rfl #[.slice A0 l0.length c0] rfl (by (try simp only [List.map_toArray, List.map_cons, List.map_nil]); first | done | rfl | (simp only [List.length_drop, List.length_take]; rfl)) ?_; (with_reducible refine (choose_Check.calls k1 _ _ l0 t410 _ ?side1 ?side2 A21.out).mono ?_); (case side1 => repeat (first | exact (Kd.C_below HR0.out HB.out) | (with_reducible refine Kd.C_alloc ?_ _) | (with_reducible refine Kd.C_drewN ?_ _) | (with_reducible refine Kd.C_drew ?_))); (case side2 => exact HC0.out); rintro e w24 ⟨rfl, hb⟩; refine ⟨_, rfl, ?_⟩; have n0_ := Aside0.mk (Kd.R_below (by (with_reducible repeat (first | apply Kd.R_alloc | apply Kd.R_drewN | apply Kd.R_drew)); exact HO_5.out) hb); have n1_ := Aside0.mk (Kd.R_below (by (with_reducible repeat (first | apply Kd.R_alloc | apply Kd.R_drewN | apply Kd.R_drew)); exact HO_6.out) hb); have n2_ := Aside0.mk (below_step (by repeat (first | (with_reducible first | exact HB.out | apply below_alloc | apply pw_below_drewN | apply below_drew1) | exact HB.out)) hb); clear HO_5; clear HO_6; clear HB; have HO_5 := n0_; have HO_6 := n1_; have HB := n2_; clear n0_ n1_ n2_; (try clear hb); (try clear hb2); (try clear hk); (try clear hi)) | (go_at_call 15; (with_reducible refine (choose_Check.calls k1 _ _ x5_1 t411 _ ?side1 ?side2 A23.out).mono ?_); (case side1 => repeat (first | exact (Kd.R_reads' HO_5.out).2.2 | (with_reducible refine Kd.C_alloc ?_ _) | (with_reducible refine Kd.C_drewN ?_ _) | (with_reducible refine Kd.C_drew ?_))); (case side2 => exact (Kd.R_reads' HO_5.out).2.1); rintro e w25 ⟨rfl, hb⟩; have n0_ := Aside0.mk (Kd.R_below (by (with_reducible repeat (first | apply Kd.R_alloc | apply Kd.R_drewN | apply Kd.R_drew)); exact HO_5.out) hb); have n1_ := Aside0.mk (Kd.R_below (by (with_reducible repeat (first | apply Kd.R_alloc | apply Kd.R_drewN | apply Kd.R_drew)); exact HO_6.out) hb); have n2_ := Aside0.mk (below_step (by repeat (first | (with_reducible first | exact HB.out | apply below_alloc | apply pw_below_drewN | apply below_drew1) | exact HB.out)) hb); clear HO_5; clear HO_6; clear HB; have HO_5 := n0_; have HO_6 := n1_; have HB := n2_; clear n0_ n1_ n2_; (try clear hb); (try clear hb2); (try clear hk); (try clear hi)))
       go_meet
       case rel => exact ⟨_, ((t411 != 0)), (by first | rfl | (simp; done) | (simp [*]; done)), H', ⟨by have := HK1.out; first | omega | exact Nat.le_refl _⟩, ⟨by (try simp only [hl5_1]); (with_reducible repeat (first | apply Kd.R_alloc | apply Kd.R_drewN | apply Kd.R_drew)); exact HO_5.out⟩, ⟨by (try simp only [hl5_1]); (with_reducible repeat (first | apply Kd.R_alloc | apply Kd.R_drewN | apply Kd.R_drew)); exact HO_6.out⟩, ⟨by repeat (first | (with_reducible first | exact HB.out | apply below_alloc | apply pw_below_drewN | apply below_drew1) | exact HB.out)⟩⟩
      ·rw [if_neg c22] at H
       have c22b0 : (t410 == 0) = false := beq_eq_false_iff_ne.mpr c22
       have c22b1 : (t410 != 0) = true := bne_iff_ne.mpr c22
       (first | rw [c22b0] | (simp only [i64_w, i32_w]; rw [c22b0]) | skip)
       (try (have c22r0 := c22b0; simp only [hl5_1] at c22r0))
       (try (have c22r1 := c22b1; simp only [hl5_1] at c22r1))
       have H' := Aside0.mk H
       clear H
       go_wp2_with (first | ((with_reducible refine gate_callee (f := 15) rfl ?_); refine goesL_ (some 46) rfl rfl Try.func15 (by kernel_rfl) rfl #[.slice A0 l0.length c0] rfl (by (try simp only [List.map_toArray, List.map_cons, List.map_nil]); first | done | rfl | (simp only [List.length_drop, List.length_take]; rfl)) ?_; (with_reducible refine (choose_Check.calls k1 _ _ l0 t410 _ ?side1 ?side2 A21.out).mono ?_); (case side1 => repeat (first | exact (Kd.C_below HR0.out HB.out) | (with_reducible refine Kd.C_alloc ?_ _) | (with_reducible refine Kd.C_drewN ?_ _) | (with_reducible refine Kd.C_drew ?_))); (case side2 => exact HC0.out); rintro e w26 ⟨rfl, hb⟩; refine ⟨_, rfl, ?_⟩; have n0_ := Aside0.mk (Kd.R_below (by (with_reducible repeat (first | apply Kd.R_alloc | apply Kd.R_drewN | apply Kd.R_drew)); exact HO_5.out) hb); have n1_ := Aside0.mk (Kd.R_below (by (with_reducible repeat (first | apply Kd.R_alloc | apply Kd.R_drewN | apply Kd.R_drew)); exact HO_6.out) hb); have n2_ := Aside0.mk (below_step (by repeat (first | (with_reducible first | exact HB.out | apply below_alloc | apply pw_below_drewN | apply below_drew1) | exact HB.out)) hb); clear HO_5; clear HO_6; clear HB; have HO_5 := n0_; have HO_6 := n1_; have HB := n2_; clear n0_ n1_ n2_; (try clear hb); (try clear hb2); (try clear hk); (try clear hi)))
       go_meet
       case rel => exact ⟨_, (true), (by first | rfl | (simp; done) | (simp [*]; done)), H', ⟨by have := HK1.out; first | omega | exact Nat.le_refl _⟩, ⟨by (try simp only [hl5_1]); (with_reducible repeat (first | apply Kd.R_alloc | apply Kd.R_drewN | apply Kd.R_drew)); exact HO_5.out⟩, ⟨by (try simp only [hl5_1]); (with_reducible repeat (first | apply Kd.R_alloc | apply Kd.R_drewN | apply Kd.R_drew)); exact HO_6.out⟩, ⟨by repeat (first | (with_reducible first | exact HB.out | apply below_alloc | apply pw_below_drewN | apply below_drew1) | exact HB.out)⟩⟩
     case rest =>
      clear HC18
      try clear c1
      try clear p1
      try clear q1
      try clear hx1
      try clear c2
      try clear p2
      try clear c3
      try clear c3b0
      try clear c3b1
      try clear p4
      try clear q4
      try clear hx4
      try clear p6
      try clear c8
      try clear c11
      try clear c11b0
      try clear c12
      try clear c12b0
      try clear c13
      try clear c13b0
      try clear c14
      try clear p14
      try clear q14
      try clear hx14
      try clear hf14
      try clear c15
      try clear hx15
      try clear hf15
      try clear c22
      try clear c22b0
      try clear c22b1
      try clear hx14_0
      try clear hx14_1
      try clear hx14_2
      try clear hx14_3
      try clear hx14_4
      try clear hx15_1
      try clear hx407_0
      try clear hx407_1
      try clear hx407_2
      try clear hx407_3
      try clear hx407_4
      try clear p14
      try clear p2
      try clear p407
      try clear q14
      try clear q407
      obtain ⟨kq, x52_17, rfl, HA, HJ17, HO_5, HO_6, HB⟩ := hcut
      have hl6_17 := (Kd.R_reads' HO_6.out).1
      rw [hl6_17] at HO_6
      (try simp only [hl6_17])
      (try simp only [hl6_17] at HO_5)
      cases kq with
      | zero => exact absurd HA.out (by simp [timesynclaw24_ChooseShifts.j1])
      | succ kj17 =>
       have H := HA.out
       clear HA
       simp only [timesynclaw24_ChooseShifts.j1] at H
       by_cases c27 : x52_17 = true
       ·subst c27
        have H1 : ((timesynclaw24_awake.f kj17).bind fun t412 => (some t412)) = some r := by rw [if_pos rfl] at H; exact H
        clear H
        have H := H1
        clear H1
        replace H := Option.bind_eq_some_iff.mp H
        obtain ⟨t412, A280, H⟩ := H
        replace H : (some t412) = some r := H
        have A28 := Aside0.mk A280
        clear A280
        obtain rfl := Option.some.inj H
        go_wp2_with (first | ((with_reducible refine gate_callee (f := 14) rfl ?_); refine goesL_ (some 53) rfl rfl Try.func14 (by kernel_rfl) rfl #[] rfl (by (try simp only [List.map_toArray, List.map_cons, List.map_nil]); first | done | rfl | (simp only [List.length_drop, List.length_take]; rfl)) ?_; (with_reducible refine (timesynclaw24_awake.calls kj17  t412 _ A28.out).mono ?_); rintro e w29 ⟨rfl, hb⟩; refine ⟨_, rfl, ?_⟩; have n0_ := Aside0.mk (Kd.R_below (by (with_reducible repeat (first | apply Kd.R_alloc | apply Kd.R_drewN | apply Kd.R_drew)); exact HO_5.out) hb); have n1_ := Aside0.mk (Kd.R_below (by (with_reducible repeat (first | apply Kd.R_alloc | apply Kd.R_drewN | apply Kd.R_drew)); exact HO_6.out) hb); have n2_ := Aside0.mk (below_step (by repeat (first | (with_reducible first | exact HB.out | apply below_alloc | apply pw_below_drewN | apply below_drew1) | exact HB.out)) hb); clear HO_5; clear HO_6; clear HB; have HO_5 := n0_; have HO_6 := n1_; have HB := n2_; clear n0_ n1_ n2_; (try clear hb); (try clear hb2); (try clear hk); (try clear hi)))
        go_ret
        exact ⟨by first | rfl | (simp [errW_none, errW_some] <;> rfl) | (simp [*, errW_none, errW_some] <;> rfl), by repeat (first | (with_reducible first | exact HB.out | apply below_alloc | apply pw_below_drewN | apply below_drew1) | exact HB.out)⟩
       ·replace c27 := Bool.eq_false_iff.mpr c27
        subst c27
        have H1 : ((choose_Select.f kj17 l0).bind fun bt413 => ((choose_Select.f kj17 x5_1).bind fun bt420 => ((choose_Select.f kj17 t409).bind fun bt427 => (if bt413.2.2.2 = bt420.2.2.2 then (if bt413.2.2.2 = bt427.2.2.2 then ((slices_Equal_int_int.f kj17 bt413.1 bt420.1).bind fun t434 => (if t434 = true then (timesynclaw24_ChooseShifts.j2 kj17 l0 a1 bt413.1 bt413.2.2.2 bt427.1 ((bt413.1.length : Int) != (bt427.1.length : Int)) bt413.2.1 bt413.2.2.1 bt420.2.1 bt420.2.2.1 bt427.2.1 bt427.2.2.1) else (timesynclaw24_ChooseShifts.j2 kj17 l0 a1 bt413.1 bt413.2.2.2 bt427.1 true bt413.2.1 bt413.2.2.1 bt420.2.1 bt420.2.2.1 bt427.2.1 bt427.2.2.1))) else (timesynclaw24_ChooseShifts.j2 kj17 l0 a1 bt413.1 bt413.2.2.2 bt427.1 true bt413.2.1 bt413.2.2.1 bt420.2.1 bt420.2.2.1 bt427.2.1 bt427.2.2.1)) else (timesynclaw24_ChooseShifts.j2 kj17 l0 a1 bt413.1 bt413.2.2.2 bt427.1 true bt413.2.1 bt413.2.2.1 bt420.2.1 bt420.2.2.1 bt427.2.1 bt427.2.2.1))))) = some r := by rw [if_neg (show ¬ (false = true) by decide)] at H; exact H
        clear H
        have H := H1
        clear H1
        replace H := Option.bind_eq_some_iff.mp H
        obtain ⟨⟨t413, t416, t417, t418⟩, A300, H⟩ := H
        replace H : ((choose_Select.f kj17 x5_1).bind fun bt420 => ((choose_Select.f kj17 t409).bind fun bt427 => (if t418 = bt420.2.2.2 then (if t418 = bt427.2.2.2 then ((slices_Equal_int_int.f kj17 t413 bt420.1).bind fun t434 => (if t434 = true then (timesynclaw24_ChooseShifts.j2 kj17 l0 a1 t413 t418 bt427.1 ((t413.length : Int) != (bt427.1.length : Int)) t416 t417 bt420.2.1 bt420.2.2.1 bt427.2.1 bt427.2.2.1) else (timesynclaw24_ChooseShifts.j2 kj17 l0 a1 t413 t418 bt427.1 true t416 t417 bt420.2.1 bt420.2.2.1 bt427.2.1 bt427.2.2.1))) else (timesynclaw24_ChooseShifts.j2 kj17 l0 a1 t413 t418 bt427.1 true t416 t417 bt420.2.1 bt420.2.2.1 bt427.2.1 bt427.2.2.1)) else (timesynclaw24_ChooseShifts.j2 kj17 l0 a1 t413 t418 bt427.1 true t416 t417 bt420.2.1 bt420.2.2.1 bt427.2.1 bt427.2.2.1)))) = some r := H
        have A30 := Aside0.mk A300
        clear A300
        replace H := Option.bind_eq_some_iff.mp H
        obtain ⟨⟨t420, t423, t424, t425⟩, A310, H⟩ := H
        replace H : ((choose_Select.f kj17 t409).bind fun bt427 => (if t418 = t425 then (if t418 = bt427.2.2.2 then ((slices_Equal_int_int.f kj17 t413 t420).bind fun t434 => (if t434 = true then (timesynclaw24_ChooseShifts.j2 kj17 l0 a1 t413 t418 bt427.1 ((t413.length : Int) != (bt427.1.length : Int)) t416 t417 t423 t424 bt427.2.1 bt427.2.2.1) else (timesynclaw24_ChooseShifts.j2 kj17 l0 a1 t413 t418 bt427.1 true t416 t417 t423 t424 bt427.2.1 bt427.2.2.1))) else (timesynclaw24_ChooseShifts.j2 kj17 l0 a1 t413 t418 bt427.1 true t416 t417 t423 t424 bt427.2.1 bt427.2.2.1)) else (timesynclaw24_ChooseShifts.j2 kj17 l0 a1 t413 t418 bt427.1 true t416 t417 t423 t424 bt427.2.1 bt427.2.2.1))) = some r := H
        have A31 := Aside0.mk A310
        clear A310
        replace H := Option.bind_eq_some_iff.mp H
        obtain ⟨⟨t427, t430, t431, t432⟩, A320, H⟩ := H
        replace H : (if t418 = t425 then (if t418 = t432 then ((slices_Equal_int_int.f kj17 t413 t420).bind fun t434 => (if t434 = true then (timesynclaw24_ChooseShifts.j2 kj17 l0 a1 t413 t418 t427 ((t413.length : Int) != (t427.length : Int)) t416 t417 t423 t424 t430 t431) else (timesynclaw24_ChooseShifts.j2 kj17 l0 a1 t413 t418 t427 true t416 t417 t423 t424 t430 t431))) else (timesynclaw24_ChooseShifts.j2 kj17 l0 a1 t413 t418 t427 true t416 t417 t423 t424 t430 t431)) else (timesynclaw24_ChooseShifts.j2 kj17 l0 a1 t413 t418 t427 true t416 t417 t423 t424 t430 t431)) = some r := H
        have A32 := Aside0.mk A320
        clear A320
        have HC33 := Aside0.mk H
        clear H
        go_upto_region 15 with (first | ((with_reducible refine gate_callee (f := 17) rfl ?_); refine goesL_ (some 56) rfl rfl Try.func17 (by kernel_rfl) rfl #[.slice A0 l0.length c0] rfl (by (try simp only [List.map_toArray, List.map_cons, List.map_nil]); first | done | rfl | (simp only [List.length_drop, List.length_take]; rfl)) ?_; (with_reducible refine (choose_Select.calls kj17 _ _ l0 t413 t416 t417 t418 _ ?side1 ?side2 A30.out).mono ?_); (case side1 => repeat (first | exact (Kd.C_below HR0.out HB.out) | (with_reducible refine Kd.C_alloc ?_ _) | (with_reducible refine Kd.C_drewN ?_ _) | (with_reducible refine Kd.C_drew ?_))); (case side2 => exact HC0.out); rintro e w34 ⟨v414, rfl, ho0, hb⟩; refine ⟨_, rfl, ?_⟩; have n0_ := Aside0.mk (Kd.R_below (by (with_reducible repeat (first | apply Kd.R_alloc | apply Kd.R_drewN | apply Kd.R_drew)); exact HO_5.out) hb); have n1_ := Aside0.mk (Kd.R_below (by (with_reducible repeat (first | apply Kd.R_alloc | apply Kd.R_drewN | apply Kd.R_drew)); exact HO_6.out) hb); have n2_ := Aside0.mk (Kd.R_lower ho0 (below_size (by repeat (first | (with_reducible first | exact HB.out | apply below_alloc | apply pw_below_drewN | apply below_drew1) | exact HB.out)))); have n3_ := Aside0.mk (below_step (by repeat (first | (with_reducible first | exact HB.out | apply below_alloc | apply pw_below_drewN | apply below_drew1) | exact HB.out)) hb); clear HO_5; clear HO_6; clear HB; have HO_5 := n0_; have HO_6 := n1_; have HO415 := n2_; have HB := n3_; clear n0_ n1_ n2_ n3_; (try clear hb); (try clear hb2); (try clear hk); (try clear hi); (try clear ho0)) | ((with_reducible refine gate_dst (N := 9) rfl ?_); (try (refine gate_guard (by rfl) ?_; dsimp only)); refine box_event ?hg (N := 9) ?hd (cs := #[.int .i64 0, .int .i64 0]) (t := 29) ?hr ?_; (case hd => rfl); (case hg => rfl); (case hr => first | (go_simp; done) | (go_simp; rfl)); intro gb419 hg w35 hbox hb; have n0_ := Aside0.mk (Kd.R_below (by (with_reducible repeat (first | apply Kd.R_alloc | apply Kd.R_drewN | apply Kd.R_drew)); exact HO_5.out) hb); have n1_ := Aside0.mk (Kd.R_below (by (with_reducible repeat (first | apply Kd.R_alloc | apply Kd.R_drewN | apply Kd.R_drew)); exact HO_6.out) hb); have n2_ := Aside0.mk (Kd.R_below (by (with_reducible repeat (first | apply Kd.R_alloc | apply Kd.R_drewN | apply Kd.R_drew)); exact HO415.out) hb); have n3_ := Aside0.mk (below_step (by repeat (first | (with_reducible first | exact HB.out | apply below_alloc | apply pw_below_drewN | apply below_drew1) | exact HB.out)) hb); have n4_ := Aside0.mk (hbox); have n5_ := Aside0.mk ((by rw [hg]; exact (below_size (by repeat (first | (with_reducible first | exact HB.out | apply below_alloc | apply pw_below_drewN | apply below_drew1) | exact HB.out))) : w.heap.size ≤ gb419)); have n6_ := Aside0.mk ((by rw [hg]; exact (below_size (by repeat (first | (with_reducible first | exact HB.out | apply below_alloc | apply pw_below_drewN | apply below_drew1) | exact HB.out))) : w.heap.size ≤ gb419)); clear HO_5; clear HO_6; clear HO415; clear HB; have HO_5 := n0_; have HO_6 := n1_; have HO415 := n2_; have HB := n3_; have BK419 := n4_; have GW419 := n5_; have GE419 := n6_; clear n0_ n1_ n2_ n3_ n4_ n5_ n6_; clear hb hbox hg; have hcz36_0 : w35.cell? ⟨gb419, 0, none⟩ = some (.int .i64 0) := (blk_cell BK419.out 0).trans rfl; have hcz36_1 : w35.cell? ⟨gb419, 1, none⟩ = some (.int .i64 0) := (blk_cell BK419.out 1).trans rfl; have hfz36_0 := blk_frozen BK419.out 0; have hfz36_1 := blk_frozen BK419.out 1) | ((with_reducible refine gate_callee (f := 17) rfl ?_); refine goesL_ (some 62) rfl rfl Try.func17 (by kernel_rfl) rfl #[.slice Ao10 x5_1.length co10] rfl (by (try simp only [List.map_toArray, List.map_cons, List.map_nil]); first | done | rfl | (simp only [List.length_drop, List.length_take]; rfl)) ?_; (with_reducible refine (choose_Select.calls kj17 _ _ x5_1 t420 t423 t424 t425 _ ?side1 ?side2 A31.out).mono ?_); (case side1 => refine (Kd.R_reads' (e := 37) (base := w.heap.size) (ok := fun k_ => some k_ ≠ (.slice Ao19 t409.length co19 : Value).ownBlock) (n := x5_1.length) (c := co10) ?_).2.2; exact (by (with_reducible repeat (first | apply Kd.R_alloc | apply Kd.R_drewN | apply Kd.R_drew)); exact (Kd.R_mono (Kd.R_far (p := ⟨gb419, 1, none⟩) (Kd.R_far (p := ⟨gb419, 0, none⟩) (Kd.R_types HO_5.out BK419.out (by decide)) (fun _ hk => hk.2) (.int .i64 t416)) (fun _ hk => hk.2) (.int .i64 t417)) (fun _ h_ => h_.1)))); (case side2 => exact (Kd.R_reads' HO_5.out).2.1); rintro e w37 ⟨v421, rfl, ho0, hb⟩; refine ⟨_, rfl, ?_⟩; have n0_ := Aside0.mk (Kd.R_below (by (with_reducible repeat (first | apply Kd.R_alloc | apply Kd.R_drewN | apply Kd.R_drew)); exact (Kd.R_mono (Kd.R_far (p := ⟨gb419, 1, none⟩) (Kd.R_far (p := ⟨gb419, 0, none⟩) (Kd.R_types HO_5.out BK419.out (by decide)) (fun _ hk => hk.2) (.int .i64 t416)) (fun _ hk => hk.2) (.int .i64 t417)) (fun _ h_ => h_.1))) hb); have n1_ := Aside0.mk (Kd.R_below (by (with_reducible repeat (first | apply Kd.R_alloc | apply Kd.R_drewN | apply Kd.R_drew)); exact (Kd.R_mono (Kd.R_far (p := ⟨gb419, 1, none⟩) (Kd.R_far (p := ⟨gb419, 0, none⟩) (Kd.R_types HO_6.out BK419.out (by decide)) (fun _ hk => hk.2) (.int .i64 t416)) (fun _ hk => hk.2) (.int .i64 t417)) (fun _ h_ => h_.1))) hb); have n2_ := Aside0.mk (Kd.R_elder' (by (with_reducible repeat (first | apply Kd.R_alloc | apply Kd.R_drewN | apply Kd.R_drew)); exact (Kd.R_mono (Kd.R_far (p := ⟨gb419, 1, none⟩) (Kd.R_far (p := ⟨gb419, 0, none⟩) (Kd.R_types HO415.out BK419.out (by decide)) (fun _ hk => hk.2) (.int .i64 t416)) (fun _ hk => hk.2) (.int .i64 t417)) (fun _ h_ => h_.1))) (Kd.R_base ho0) hb); have n3_ := Aside0.mk (Kd.R_lower (Kd.R_new' ho0 (Kd.R_lt (by (with_reducible repeat (first | apply Kd.R_alloc | apply Kd.R_drewN | apply Kd.R_drew)); exact (Kd.R_mono (Kd.R_far (p := ⟨gb419, 1, none⟩) (Kd.R_far (p := ⟨gb419, 0, none⟩) (Kd.R_types HO415.out BK419.out (by decide)) (fun _ hk => hk.2) (.int .i64 t416)) (fun _ hk => hk.2) (.int .i64 t417)) (fun _ h_ => h_.1))))) (below_size (by repeat (first | (with_reducible first | exact HB.out | apply below_alloc | apply pw_below_drewN | apply below_drew1 | refine below_set ?_ GE419.out) | exact HB.out)))); have n4_ := Aside0.mk (blk_below (g := gb419) (o := .cells #[.int .i64 t416, .int .i64 t417] 29 (0, 0)) (by (with_reducible repeat (first | refine blk_drewN ?_ _ | refine blk_drew ?_ | refine blk_alloc ?_ _)); refine blk_put (cs := #[.int .i64 t416, .int .i64 0]) ?_ 1 _ rfl; (with_reducible repeat (first | refine blk_drewN ?_ _ | refine blk_drew ?_ | refine blk_alloc ?_ _)); refine blk_put (cs := #[.int .i64 0, .int .i64 0]) ?_ 0 _ rfl; (with_reducible repeat (first | refine blk_drewN ?_ _ | refine blk_drew ?_ | refine blk_alloc ?_ _)); exact BK419.out) hb); have n5_ := Aside0.mk (below_step (by repeat (first | (with_reducible first | exact HB.out | apply below_alloc | apply pw_below_drewN | apply below_drew1 | refine below_set ?_ GE419.out) | exact HB.out)) hb); clear HO_5; clear HO_6; clear HO415; clear BK419; clear HB; have HO_5 := n0_; have HO_6 := n1_; have HO415 := n2_; have HO422 := n3_; have BK419 := n4_; have HB := n5_; clear n0_ n1_ n2_ n3_ n4_ n5_; (try clear hb); (try clear hb2); (try clear hk); (try clear hi); (try clear ho0)) | ((with_reducible refine gate_dst (N := 12) rfl ?_); (try (refine gate_guard (by rfl) ?_; dsimp only)); refine box_event ?hg (N := 12) ?hd (cs := #[.int .i64 0, .int .i64 0]) (t := 29) ?hr ?_; (case hd => rfl); (case hg => rfl); (case hr => first | (go_simp; done) | (go_simp; rfl)); intro gb426 hg w38 hbox hb; have n0_ := Aside0.mk (Kd.R_below (by (with_reducible repeat (first | apply Kd.R_alloc | apply Kd.R_drewN | apply Kd.R_drew)); exact HO_5.out) hb); have n1_ := Aside0.mk (Kd.R_below (by (with_reducible repeat (first | apply Kd.R_alloc | apply Kd.R_drewN | apply Kd.R_drew)); exact HO_6.out) hb); have n2_ := Aside0.mk (Kd.R_below (by (with_reducible repeat (first | apply Kd.R_alloc | apply Kd.R_drewN | apply Kd.R_drew)); exact HO415.out) hb); have n3_ := Aside0.mk (Kd.R_below (by (with_reducible repeat (first | apply Kd.R_alloc | apply Kd.R_drewN | apply Kd.R_drew)); exact HO422.out) hb); have n4_ := Aside0.mk (blk_below (g := gb419) (o := .cells #[.int .i64 t416, .int .i64 t417] 29 (0, 0)) (by (with_reducible repeat (first | refine blk_drewN ?_ _ | refine blk_drew ?_ | refine blk_alloc ?_ _)); exact BK419.out) hb); have n5_ := Aside0.mk (below_step (by repeat (first | (with_reducible first | exact HB.out | apply below_alloc | apply pw_below_drewN | apply below_drew1 | refine below_set ?_ GE419.out) | exact HB.out)) hb); have n6_ := Aside0.mk (hbox); have n7_ := Aside0.mk ((by rw [hg]; exact (below_size (by repeat (first | (with_reducible first | exact HB.out | apply below_alloc | apply pw_below_drewN | apply below_drew1 | refine below_set ?_ GE419.out) | exact HB.out))) : w.heap.size ≤ gb426)); have n8_ := Aside0.mk ((by rw [hg]; exact (below_size (by repeat (first | (with_reducible first | exact HB.out | apply below_alloc | apply pw_below_drewN | apply below_drew1 | refine below_set ?_ GE419.out) | exact HB.out))) : w.heap.size ≤ gb426)); have n9_ := Aside0.mk ((by rw [hg]; exact Nat.ne_of_lt (blk_lt (g := gb419) (o := .cells #[.int .i64 t416, .int .i64 t417] 29 (0, 0)) (by (with_reducible repeat (first | refine blk_drewN ?_ _ | refine blk_drew ?_ | refine blk_alloc ?_ _)); exact BK419.out)) : gb419 ≠ gb426)); have n10_ := Aside0.mk ((by rw [hg]; exact Nat.ne_of_gt (blk_lt (g := gb419) (o := .cells #[.int .i64 t416, .int .i64 t417] 29 (0, 0)) (by (with_reducible repeat (first | refine blk_drewN ?_ _ | refine blk_drew ?_ | refine blk_alloc ?_ _)); exact BK419.out)) : gb426 ≠ gb419)); clear HO_5; clear HO_6; clear HO415; clear HO422; clear BK419; clear HB; have HO_5 := n0_; have HO_6 := n1_; have HO415 := n2_; have HO422 := n3_; have BK419 := n4_; have HB := n5_; have BK426 := n6_; have GW426 := n7_; have GE426 := n8_; have NB419_426 := n9_; have NB426_419 := n10_; clear n0_ n1_ n2_ n3_ n4_ n5_ n6_ n7_ n8_ n9_ n10_; clear hb hbox hg; have hnb39 := NB426_419.out; have hnc39 := NB419_426.out; have hcz40_0 : w38.cell? ⟨gb426, 0, none⟩ = some (.int .i64 0) := (blk_cell BK426.out 0).trans rfl; have hcz40_1 : w38.cell? ⟨gb426, 1, none⟩ = some (.int .i64 0) := (blk_cell BK426.out 1).trans rfl; have hfz40_0 := blk_frozen BK426.out 0; have hfz40_1 := blk_frozen BK426.out 1) | ((with_reducible refine gate_callee (f := 17) rfl ?_); refine goesL_ (some 68) rfl rfl Try.func17 (by kernel_rfl) rfl #[.slice Ao19 t409.length co19] rfl (by (try simp only [List.map_toArray, List.map_cons, List.map_nil]); first | done | rfl | (simp only [List.length_drop, List.length_take]; rfl)) ?_; (with_reducible refine (choose_Select.calls kj17 _ _ t409 t427 t430 t431 t432 _ ?side1 ?side2 A32.out).mono ?_); (case side1 => refine (Kd.R_reads' (e := 37) (base := w.heap.size) (ok := fun k_ => some k_ ≠ (.slice Ao10 x5_1.length co10 : Value).ownBlock) (n := t409.length) (c := co19) ?_).2.2; exact (by (with_reducible repeat (first | apply Kd.R_alloc | apply Kd.R_drewN | apply Kd.R_drew)); exact (Kd.R_mono (Kd.R_far (p := ⟨gb426, 1, none⟩) (Kd.R_far (p := ⟨gb426, 0, none⟩) (Kd.R_types HO_6.out BK426.out (by decide)) (fun _ hk => hk.2) (.int .i64 t423)) (fun _ hk => hk.2) (.int .i64 t424)) (fun _ h_ => h_.1)))); (case side2 => exact (Kd.R_reads' HO_6.out).2.1); rintro e w41 ⟨v428, rfl, ho0, hb⟩; refine ⟨_, rfl, ?_⟩; have n0_ := Aside0.mk (Kd.R_below (by (with_reducible repeat (first | apply Kd.R_alloc | apply Kd.R_drewN | apply Kd.R_drew)); exact (Kd.R_mono (Kd.R_far (p := ⟨gb426, 1, none⟩) (Kd.R_far (p := ⟨gb426, 0, none⟩) (Kd.R_types HO_5.out BK426.out (by decide)) (fun _ hk => hk.2) (.int .i64 t423)) (fun _ hk => hk.2) (.int .i64 t424)) (fun _ h_ => h_.1))) hb); have n1_ := Aside0.mk (Kd.R_below (by (with_reducible repeat (first | apply Kd.R_alloc | apply Kd.R_drewN | apply Kd.R_drew)); exact (Kd.R_mono (Kd.R_far (p := ⟨gb426, 1, none⟩) (Kd.R_far (p := ⟨gb426, 0, none⟩) (Kd.R_types HO_6.out BK426.out (by decide)) (fun _ hk => hk.2) (.int .i64 t423)) (fun _ hk => hk.2) (.int .i64 t424)) (fun _ h_ => h_.1))) hb); have n2_ := Aside0.mk (Kd.R_elder' (by (with_reducible repeat (first | apply Kd.R_alloc | apply Kd.R_drewN | apply Kd.R_drew)); exact (Kd.R_mono (Kd.R_far (p := ⟨gb426, 1, none⟩) (Kd.R_far (p := ⟨gb426, 0, none⟩) (Kd.R_types HO415.out BK426.out (by decide)) (fun _ hk => hk.2) (.int .i64 t423)) (fun _ hk => hk.2) (.int .i64 t424)) (fun _ h_ => h_.1))) (Kd.R_base ho0) hb); have n3_ := Aside0.mk (Kd.R_elder' (by (with_reducible repeat (first | apply Kd.R_alloc | apply Kd.R_drewN | apply Kd.R_drew)); exact (Kd.R_mono (Kd.R_far (p := ⟨gb426, 1, none⟩) (Kd.R_far (p := ⟨gb426, 0, none⟩) (Kd.R_types HO422.out BK426.out (by decide)) (fun _ hk => hk.2) (.int .i64 t423)) (fun _ hk => hk.2) (.int .i64 t424)) (fun _ h_ => h_.1))) (Kd.R_base ho0) hb); have n4_ := Aside0.mk (Kd.R_lower (Kd.R_new' (Kd.R_new' ho0 (Kd.R_lt (by (with_reducible repeat (first | apply Kd.R_alloc | apply Kd.R_drewN | apply Kd.R_drew)); exact (Kd.R_mono (Kd.R_far (p := ⟨gb426, 1, none⟩) (Kd.R_far (p := ⟨gb426, 0, none⟩) (Kd.R_types HO415.out BK426.out (by decide)) (fun _ hk => hk.2) (.int .i64 t423)) (fun _ hk => hk.2) (.int .i64 t424)) (fun _ h_ => h_.1))))) (Kd.R_lt (by (with_reducible repeat (first | apply Kd.R_alloc | apply Kd.R_drewN | apply Kd.R_drew)); exact (Kd.R_mono (Kd.R_far (p := ⟨gb426, 1, none⟩) (Kd.R_far (p := ⟨gb426, 0, none⟩) (Kd.R_types HO422.out BK426.out (by decide)) (fun _ hk => hk.2) (.int .i64 t423)) (fun _ hk => hk.2) (.int .i64 t424)) (fun _ h_ => h_.1))))) (below_size (by repeat (first | (with_reducible first | exact HB.out | apply below_alloc | apply pw_below_drewN | apply below_drew1 | refine below_set ?_ GE419.out | refine below_set ?_ GE426.out) | exact HB.out)))); have n5_ := Aside0.mk (blk_below (g := gb419) (o := .cells #[.int .i64 t416, .int .i64 t417] 29 (0, 0)) (by (with_reducible repeat (first | refine blk_drewN ?_ _ | refine blk_drew ?_ | refine blk_alloc ?_ _)); refine blk_far ?_ NB419_426.out _; (with_reducible repeat (first | refine blk_drewN ?_ _ | refine blk_drew ?_ | refine blk_alloc ?_ _)); refine blk_far ?_ NB419_426.out _; (with_reducible repeat (first | refine blk_drewN ?_ _ | refine blk_drew ?_ | refine blk_alloc ?_ _)); exact BK419.out) hb); have n6_ := Aside0.mk (blk_below (g := gb426) (o := .cells #[.int .i64 t423, .int .i64 t424] 29 (0, 0)) (by (with_reducible repeat (first | refine blk_drewN ?_ _ | refine blk_drew ?_ | refine blk_alloc ?_ _)); refine blk_put (cs := #[.int .i64 t423, .int .i64 0]) ?_ 1 _ rfl; (with_reducible repeat (first | refine blk_drewN ?_ _ | refine blk_drew ?_ | refine blk_alloc ?_ _)); refine blk_put (cs := #[.int .i64 0, .int .i64 0]) ?_ 0 _ rfl; (with_reducible repeat (first | refine blk_drewN ?_ _ | refine blk_drew ?_ | refine blk_alloc ?_ _)); exact BK426.out) hb); have n7_ := Aside0.mk (below_step (by repeat (first | (with_reducible first | exact HB.out | apply below_alloc | apply pw_below_drewN | apply below_drew1 | refine below_set ?_ GE419.out | refine below_set ?_ GE426.out) | exact HB.out)) hb); clear HO_5; clear HO_6; clear HO415; clear HO422; clear BK419; clear BK426; clear HB; have HO_5 := n0_; have HO_6 := n1_; have HO415 := n2_; have HO422 := n3_; have HO429 := n4_; have BK419 := n5_; have BK426 := n6_; have HB := n7_; clear n0_ n1_ n2_ n3_ n4_ n5_ n6_ n7_; (try clear hb); (try clear hb2); (try clear hk); (try clear hi); (try clear ho0)) | ((with_reducible refine gate_dst (N := 15) rfl ?_); (try (refine gate_guard (by rfl) ?_; dsimp only)); refine box_event ?hg (N := 15) ?hd (cs := #[.int .i64 0, .int .i64 0]) (t := 29) ?hr ?_; (case hd => rfl); (case hg => rfl); (case hr => first | (go_simp; done) | (go_simp; rfl)); intro gb433 hg w42 hbox hb; have n0_ := Aside0.mk (Kd.R_below (by (with_reducible repeat (first | apply Kd.R_alloc | apply Kd.R_drewN | apply Kd.R_drew)); exact HO_5.out) hb); have n1_ := Aside0.mk (Kd.R_below (by (with_reducible repeat (first | apply Kd.R_alloc | apply Kd.R_drewN | apply Kd.R_drew)); exact HO_6.out) hb); have n2_ := Aside0.mk (Kd.R_below (by (with_reducible repeat (first | apply Kd.R_alloc | apply Kd.R_drewN | apply Kd.R_drew)); exact HO415.out) hb); have n3_ := Aside0.mk (Kd.R_below (by (with_reducible repeat (first | apply Kd.R_alloc | apply Kd.R_drewN | apply Kd.R_drew)); exact HO422.out) hb); have n4_ := Aside0.mk (Kd.R_below (by (with_reducible repeat (first | apply Kd.R_alloc | apply Kd.R_drewN | apply Kd.R_drew)); exact HO429.out) hb); have n5_ := Aside0.mk (blk_below (g := gb419) (o := .cells #[.int .i64 t416, .int .i64 t417] 29 (0, 0)) (by (with_reducible repeat (first | refine blk_drewN ?_ _ | refine blk_drew ?_ | refine blk_alloc ?_ _)); exact BK419.out) hb); have n6_ := Aside0.mk (blk_below (g := gb426) (o := .cells #[.int .i64 t423, .int .i64 t424] 29 (0, 0)) (by (with_reducible repeat (first | refine blk_drewN ?_ _ | refine blk_drew ?_ | refine blk_alloc ?_ _)); exact BK426.out) hb); have n7_ := Aside0.mk (below_step (by repeat (first | (with_reducible first | exact HB.out | apply below_alloc | apply pw_below_drewN | apply below_drew1 | refine below_set ?_ GE419.out | refine below_set ?_ GE426.out) | exact HB.out)) hb); have n8_ := Aside0.mk (hbox); have n9_ := Aside0.mk ((by rw [hg]; exact (below_size (by repeat (first | (with_reducible first | exact HB.out | apply below_alloc | apply pw_below_drewN | apply below_drew1 | refine below_set ?_ GE419.out | refine below_set ?_ GE426.out) | exact HB.out))) : w.heap.size ≤ gb433)); have n10_ := Aside0.mk ((by rw [hg]; exact (below_size (by repeat (first | (with_reducible first | exact HB.out | apply below_alloc | apply pw_below_drewN | apply below_drew1 | refine below_set ?_ GE419.out | refine below_set ?_ GE426.out) | exact HB.out))) : w.heap.size ≤ gb433)); have n11_ := Aside0.mk ((by rw [hg]; exact Nat.ne_of_lt (blk_lt (g := gb419) (o := .cells #[.int .i64 t416, .int .i64 t417] 29 (0, 0)) (by (with_reducible repeat (first | refine blk_drewN ?_ _ | refine blk_drew ?_ | refine blk_alloc ?_ _)); exact BK419.out)) : gb419 ≠ gb433)); have n12_ := Aside0.mk ((by rw [hg]; exact Nat.ne_of_gt (blk_lt (g := gb419) (o := .cells #[.int .i64 t416, .int .i64 t417] 29 (0, 0)) (by (with_reducible repeat (first | refine blk_drewN ?_ _ | refine blk_drew ?_ | refine blk_alloc ?_ _)); exact BK419.out)) : gb433 ≠ gb419)); have n13_ := Aside0.mk ((by rw [hg]; exact Nat.ne_of_lt (blk_lt (g := gb426) (o := .cells #[.int .i64 t423, .int .i64 t424] 29 (0, 0)) (by (with_reducible repeat (first | refine blk_drewN ?_ _ | refine blk_drew ?_ | refine blk_alloc ?_ _)); exact BK426.out)) : gb426 ≠ gb433)); have n14_ := Aside0.mk ((by rw [hg]; exact Nat.ne_of_gt (blk_lt (g := gb426) (o := .cells #[.int .i64 t423, .int .i64 t424] 29 (0, 0)) (by (with_reducible repeat (first | refine blk_drewN ?_ _ | refine blk_drew ?_ | refine blk_alloc ?_ _)); exact BK426.out)) : gb433 ≠ gb426)); clear HO_5; clear HO_6; clear HO415; clear HO422; clear HO429; clear BK419; clear BK426; clear HB; have HO_5 := n0_; have HO_6 := n1_; have HO415 := n2_; have HO422 := n3_; have HO429 := n4_; have BK419 := n5_; have BK426 := n6_; have HB := n7_; have BK433 := n8_; have GW433 := n9_; have GE433 := n10_; have NB419_433 := n11_; have NB433_419 := n12_; have NB426_433 := n13_; have NB433_426 := n14_; clear n0_ n1_ n2_ n3_ n4_ n5_ n6_ n7_ n8_ n9_ n10_ n11_ n12_ n13_ n14_; clear hb hbox hg; have hnb43 := NB433_419.out; have hnc43 := NB419_433.out; have hnb44 := NB433_426.out; have hnc44 := NB426_433.out; have hcz45_0 : w42.cell? ⟨gb433, 0, none⟩ = some (.int .i64 0) := (blk_cell BK433.out 0).trans rfl; have hcz45_1 : w42.cell? ⟨gb433, 1, none⟩ = some (.int .i64 0) := (blk_cell BK433.out 1).trans rfl; have hfz45_0 := blk_frozen BK433.out 0; have hfz45_1 := blk_frozen BK433.out 1))
        (try simp only [Act.put, List.setIfInBounds_toArray, List.set_cons_zero, List.set_cons_succ])
        go_cut [92] (fun v92 wc => ∃ (kq : Nat) (x92_32 : Bool), v92 = .bool x92_32 ∧ Aside0 (timesynclaw24_ChooseShifts.j2 kq l0 a1 t413 t418 t427 x92_32 t416 t417 t423 t424 t430 t431 = some r) ∧ Aside0 (kq ≤ kj17) ∧ Aside0 (Kd.R (Kd.int .i64) 3 wc w.heap.size (fun k_ => some k_ ≠ (v428 : Value).ownBlock) v414 t413) ∧ Aside0 (Kd.R (Kd.int .i64) 3 wc w.heap.size (fun k_ => some k_ ≠ (v414 : Value).ownBlock) v428 t427) ∧ Aside0 (wc.heap[gb419]? = some (.cells #[.int .i64 t416, .int .i64 t417] 29 (0, 0))) ∧ Aside0 (wc.heap[gb426]? = some (.cells #[.int .i64 t423, .int .i64 t424] 29 (0, 0))) ∧ Aside0 (wc.heap[gb433]? = some (.cells #[.int .i64 t430, .int .i64 t431] 29 (0, 0))) ∧ Aside0 (Below w.heap.size w wc))
        case first =>
         have H := HC33.out
         clear HC33
         by_cases c46 : t418 = t425
         ·rw [if_pos c46] at H
          have c46b0 : (t418 == t425) = true := beq_iff_eq.mpr c46
          have c46b1 : (t418 != t425) = false := bne_eq_false_iff_eq.mpr c46
          clear c46
          (first | rw [c46b0] | (simp only [i64_w, i32_w]; rw [c46b0]) | skip)
          (try (have c46r0 := c46b0; simp only [hl5_1, hl6_17] at c46r0))
          (try (have c46r1 := c46b1; simp only [hl5_1, hl6_17] at c46r1))
          by_cases c47 : t418 = t432
          ·rw [if_pos c47] at H
           have c47b0 : (t418 == t432) = true := beq_iff_eq.mpr c47
           have c47b1 : (t418 != t432) = false := bne_eq_false_iff_eq.mpr c47
           clear c47
           (try (have c47r0 := c47b0; simp only [hl5_1, hl6_17] at c47r0))
           (try (have c47r1 := c47b1; simp only [hl5_1, hl6_17] at c47r1))
           replace H := Option.bind_eq_some_iff.mp H
           obtain ⟨t434, A480, H⟩ := H
           replace H : (if t434 = true then (timesynclaw24_ChooseShifts.j2 kj17 l0 a1 t413 t418 t427 ((t413.length : Int) != (t427.length : Int)) t416 t417 t423 t424 t430 t431) else (timesynclaw24_ChooseShifts.j2 kj17 l0 a1 t413 t418 t427 true t416 t417 t423 t424 t430 t431)) = some r := H
           have A48 := Aside0.mk A480
           clear A480
           by_cases c49 : t434 = true
           ·subst c49
            have H1 : (timesynclaw24_ChooseShifts.j2 kj17 l0 a1 t413 t418 t427 ((t413.length : Int) != (t427.length : Int)) t416 t417 t423 t424 t430 t431) = some r := by rw [if_pos rfl] at H; exact H
            clear H
            have H := H1
            clear H1
            have H' := Aside0.mk H
            clear H
            obtain ⟨Ao50, co50, eo50⟩ := Kd.R_slice HO415.out
            subst eo50
            obtain ⟨Ao51, co51, eo51⟩ := Kd.R_slice HO422.out
            subst eo51
            go_wp2_with (first | (go_at_call 21; (with_reducible refine (slices_Equal_int_int.calls kj17 _ _ t413 _ _ t420 true _ ?side1 ?side2 ?side3 ?side4 A48.out).mono ?_); (case side1 => refine (Kd.R_reads' (e := 3) (base := w.heap.size) (ok := fun k_ => ((True ∧ some k_ ≠ (.slice Ao51 t420.length co51 : Value).ownBlock) ∧ some k_ ≠ (v428 : Value).ownBlock)) (n := t413.length) (c := co50) ?_).2.2; exact (by (with_reducible repeat (first | apply Kd.R_alloc | apply Kd.R_drewN | apply Kd.R_drew)); exact (Kd.R_mono (Kd.R_far (p := ⟨gb433, 1, none⟩) (Kd.R_far (p := ⟨gb433, 0, none⟩) (Kd.R_types HO415.out BK433.out (by decide)) (fun _ hk => hk.2) (.int .i64 t430)) (fun _ hk => hk.2) (.int .i64 t431)) (fun _ h_ => h_.1)))); (case side2 => exact (Kd.R_reads' HO415.out).2.1); (case side3 => refine (Kd.R_reads' (e := 3) (base := w.heap.size) (ok := fun k_ => ((True ∧ some k_ ≠ (.slice Ao50 t413.length co50 : Value).ownBlock) ∧ some k_ ≠ (v428 : Value).ownBlock)) (n := t420.length) (c := co51) ?_).2.2; exact (by (with_reducible repeat (first | apply Kd.R_alloc | apply Kd.R_drewN | apply Kd.R_drew)); exact (Kd.R_mono (Kd.R_far (p := ⟨gb433, 1, none⟩) (Kd.R_far (p := ⟨gb433, 0, none⟩) (Kd.R_types HO422.out BK433.out (by decide)) (fun _ hk => hk.2) (.int .i64 t430)) (fun _ hk => hk.2) (.int .i64 t431)) (fun _ h_ => h_.1)))); (case side4 => exact (Kd.R_reads' HO422.out).2.1); rintro e w' ⟨rfl, ⟨nd, rfl⟩⟩; obtain ⟨Ao52, co52, eo52⟩ := Kd.R_slice HO429.out; subst eo52))
            go_meet
            case rel => exact ⟨_, (((t413.length : Int) != (t427.length : Int))), (by first | rfl | (simp; done) | (simp [*]; done)), H', ⟨by have := HK1.out; have := HJ17.out; first | omega | exact Nat.le_refl _⟩, ⟨by (try simp only [hl5_1]); (try simp only [hl6_17]); (with_reducible repeat (first | apply Kd.R_alloc | apply Kd.R_drewN | apply Kd.R_drew)); exact Kd.R_mono (Kd.R_far (p := ⟨gb433, 1, none⟩) (Kd.R_far (p := ⟨gb433, 0, none⟩) (Kd.R_types HO415.out BK433.out (by decide)) (fun _ hk => hk.2) (.int .i64 t430)) (fun _ hk => hk.2) (.int .i64 t431)) (fun _ hk => hk.1.2)⟩, ⟨by (try simp only [hl5_1]); (try simp only [hl6_17]); (with_reducible repeat (first | apply Kd.R_alloc | apply Kd.R_drewN | apply Kd.R_drew)); exact Kd.R_mono (Kd.R_far (p := ⟨gb433, 1, none⟩) (Kd.R_far (p := ⟨gb433, 0, none⟩) (Kd.R_types HO429.out BK433.out (by decide)) (fun _ hk => hk.2) (.int .i64 t430)) (fun _ hk => hk.2) (.int .i64 t431)) (fun _ hk => hk.1.1.2)⟩, ⟨by (try simp only [hl5_1]); (try simp only [hl6_17]); (with_reducible repeat (first | refine blk_drewN ?_ _ | refine blk_drew ?_ | refine blk_alloc ?_ _)); refine blk_far ?_ NB419_433.out _; (with_reducible repeat (first | refine blk_drewN ?_ _ | refine blk_drew ?_ | refine blk_alloc ?_ _)); refine blk_far ?_ NB419_433.out _; (with_reducible repeat (first | refine blk_drewN ?_ _ | refine blk_drew ?_ | refine blk_alloc ?_ _)); exact BK419.out⟩, ⟨by (try simp only [hl5_1]); (try simp only [hl6_17]); (with_reducible repeat (first | refine blk_drewN ?_ _ | refine blk_drew ?_ | refine blk_alloc ?_ _)); refine blk_far ?_ NB426_433.out _; (with_reducible repeat (first | refine blk_drewN ?_ _ | refine blk_drew ?_ | refine blk_alloc ?_ _)); refine blk_far ?_ NB426_433.out _; (with_reducible repeat (first | refine blk_drewN ?_ _ | refine blk_drew ?_ | refine blk_alloc ?_ _)); exact BK426.out⟩, ⟨by (try simp only [hl5_1]); (try simp only [hl6_17]); (with_reducible repeat (first | refine blk_drewN ?_ _ | refine blk_drew ?_ | refine blk_alloc ?_ _)); refine blk_put (cs := #[.int .i64 t430, .int .i64 0]) ?_ 1 _ rfl; (with_reducible repeat (first | refine blk_drewN ?_ _ | refine blk_drew ?_ | refine blk_alloc ?_ _)); refine blk_put (cs := #[.int .i64 0, .int .i64 0]) ?_ 0 _ rfl; (with_reducible repeat (first | refine blk_drewN ?_ _ | refine blk_drew ?_ | refine blk_alloc ?_ _)); exact BK433.out⟩, ⟨by repeat (first | (with_reducible first | exact HB.out | apply below_alloc | apply pw_below_drewN | apply below_drew1 | refine below_set ?_ GE419.out | refine below_set ?_ GE426.out | refine below_set ?_ GE433.out) | exact HB.out)⟩⟩
           ·replace c49 := Bool.eq_false_iff.mpr c49
            subst c49
            have H1 : (timesynclaw24_ChooseShifts.j2 kj17 l0 a1 t413 t418 t427 true t416 t417 t423 t424 t430 t431) = some r := by rw [if_neg (show ¬ (false = true) by decide)] at H; exact H
            clear H
            have H := H1
            clear H1
            have H' := Aside0.mk H
            clear H
            obtain ⟨Ao53, co53, eo53⟩ := Kd.R_slice HO415.out
            subst eo53
            obtain ⟨Ao54, co54, eo54⟩ := Kd.R_slice HO422.out
            subst eo54
            go_wp2_with (first | (go_at_call 21; (with_reducible refine (slices_Equal_int_int.calls kj17 _ _ t413 _ _ t420 false _ ?side1 ?side2 ?side3 ?side4 A48.out).mono ?_); (case side1 => refine (Kd.R_reads' (e := 3) (base := w.heap.size) (ok := fun k_ => ((True ∧ some k_ ≠ (.slice Ao54 t420.length co54 : Value).ownBlock) ∧ some k_ ≠ (v428 : Value).ownBlock)) (n := t413.length) (c := co53) ?_).2.2; exact (by (with_reducible repeat (first | apply Kd.R_alloc | apply Kd.R_drewN | apply Kd.R_drew)); exact (Kd.R_mono (Kd.R_far (p := ⟨gb433, 1, none⟩) (Kd.R_far (p := ⟨gb433, 0, none⟩) (Kd.R_types HO415.out BK433.out (by decide)) (fun _ hk => hk.2) (.int .i64 t430)) (fun _ hk => hk.2) (.int .i64 t431)) (fun _ h_ => h_.1)))); (case side2 => exact (Kd.R_reads' HO415.out).2.1); (case side3 => refine (Kd.R_reads' (e := 3) (base := w.heap.size) (ok := fun k_ => ((True ∧ some k_ ≠ (.slice Ao53 t413.length co53 : Value).ownBlock) ∧ some k_ ≠ (v428 : Value).ownBlock)) (n := t420.length) (c := co54) ?_).2.2; exact (by (with_reducible repeat (first | apply Kd.R_alloc | apply Kd.R_drewN | apply Kd.R_drew)); exact (Kd.R_mono (Kd.R_far (p := ⟨gb433, 1, none⟩) (Kd.R_far (p := ⟨gb433, 0, none⟩) (Kd.R_types HO422.out BK433.out (by decide)) (fun _ hk => hk.2) (.int .i64 t430)) (fun _ hk => hk.2) (.int .i64 t431)) (fun _ h_ => h_.1)))); (case side4 => exact (Kd.R_reads' HO422.out).2.1); rintro e w' ⟨rfl, ⟨nd, rfl⟩⟩))
            go_meet
            case rel => exact ⟨_, (true), (by first | rfl | (simp; done) | (simp [*]; done)), H', ⟨by have := HK1.out; have := HJ17.out; first | omega | exact Nat.le_refl _⟩, ⟨by (try simp only [hl5_1]); (try simp only [hl6_17]); (with_reducible repeat (first | apply Kd.R_alloc | apply Kd.R_drewN | apply Kd.R_drew)); exact Kd.R_mono (Kd.R_far (p := ⟨gb433, 1, none⟩) (Kd.R_far (p := ⟨gb433, 0, none⟩) (Kd.R_types HO415.out BK433.out (by decide)) (fun _ hk => hk.2) (.int .i64 t430)) (fun _ hk => hk.2) (.int .i64 t431)) (fun _ hk => hk.1.2)⟩, ⟨by (try simp only [hl5_1]); (try simp only [hl6_17]); (with_reducible repeat (first | apply Kd.R_alloc | apply Kd.R_drewN | apply Kd.R_drew)); exact Kd.R_mono (Kd.R_far (p := ⟨gb433, 1, none⟩) (Kd.R_far (p := ⟨gb433, 0, none⟩) (Kd.R_types HO429.out BK433.out (by decide)) (fun _ hk => hk.2) (.int .i64 t430)) (fun _ hk => hk.2) (.int .i64 t431)) (fun _ hk => hk.1.1.2)⟩, ⟨by (try simp only [hl5_1]); (try simp only [hl6_17]); (with_reducible repeat (first | refine blk_drewN ?_ _ | refine blk_drew ?_ | refine blk_alloc ?_ _)); refine blk_far ?_ NB419_433.out _; (with_reducible repeat (first | refine blk_drewN ?_ _ | refine blk_drew ?_ | refine blk_alloc ?_ _)); refine blk_far ?_ NB419_433.out _; (with_reducible repeat (first | refine blk_drewN ?_ _ | refine blk_drew ?_ | refine blk_alloc ?_ _)); exact BK419.out⟩, ⟨by (try simp only [hl5_1]); (try simp only [hl6_17]); (with_reducible repeat (first | refine blk_drewN ?_ _ | refine blk_drew ?_ | refine blk_alloc ?_ _)); refine blk_far ?_ NB426_433.out _; (with_reducible repeat (first | refine blk_drewN ?_ _ | refine blk_drew ?_ | refine blk_alloc ?_ _)); refine blk_far ?_ NB426_433.out _; (with_reducible repeat (first | refine blk_drewN ?_ _ | refine blk_drew ?_ | refine blk_alloc ?_ _)); exact BK426.out⟩, ⟨by (try simp only [hl5_1]); (try simp only [hl6_17]); (with_reducible repeat (first | refine blk_drewN ?_ _ | refine blk_drew ?_ | refine blk_alloc ?_ _)); refine blk_put (cs := #[.int .i64 t430, .int .i64 0]) ?_ 1 _ rfl; (with_reducible repeat (first | refine blk_drewN ?_ _ | refine blk_drew ?_ | refine blk_alloc ?_ _)); refine blk_put (cs := #[.int .i64 0, .int .i64 0]) ?_ 0 _ rfl; (with_reducible repeat (first | refine blk_drewN ?_ _ | refine blk_drew ?_ | refine blk_alloc ?_ _)); exact BK433.out⟩, ⟨by repeat (first | (with_reducible first | exact HB.out | apply below_alloc | apply pw_below_drewN | apply below_drew1 | refine below_set ?_ GE419.out | refine below_set ?_ GE426.out | refine below_set ?_ GE433.out) | exact HB.out)⟩⟩
          ·rw [if_neg c47] at H
           have c47b0 : (t418 == t432) = false := beq_eq_false_iff_ne.mpr c47
           have c47b1 : (t418 != t432) = true := bne_iff_ne.mpr c47
           (try (have c47r0 := c47b0; simp only [hl5_1, hl6_17] at c47r0))
           (try (have c47r1 := c47b1; simp only [hl5_1, hl6_17] at c47r1))
           have H' := Aside0.mk H
           clear H
           go_wp2
           go_meet
           case rel => exact ⟨_, (true), (by first | rfl | (simp; done) | (simp [*]; done)), H', ⟨by have := HK1.out; have := HJ17.out; first | omega | exact Nat.le_refl _⟩, ⟨by (try simp only [hl5_1]); (try simp only [hl6_17]); (with_reducible repeat (first | apply Kd.R_alloc | apply Kd.R_drewN | apply Kd.R_drew)); exact Kd.R_mono (Kd.R_far (p := ⟨gb433, 1, none⟩) (Kd.R_far (p := ⟨gb433, 0, none⟩) (Kd.R_types HO415.out BK433.out (by decide)) (fun _ hk => hk.2) (.int .i64 t430)) (fun _ hk => hk.2) (.int .i64 t431)) (fun _ hk => hk.1.2)⟩, ⟨by (try simp only [hl5_1]); (try simp only [hl6_17]); (with_reducible repeat (first | apply Kd.R_alloc | apply Kd.R_drewN | apply Kd.R_drew)); exact Kd.R_mono (Kd.R_far (p := ⟨gb433, 1, none⟩) (Kd.R_far (p := ⟨gb433, 0, none⟩) (Kd.R_types HO429.out BK433.out (by decide)) (fun _ hk => hk.2) (.int .i64 t430)) (fun _ hk => hk.2) (.int .i64 t431)) (fun _ hk => hk.1.1.2)⟩, ⟨by (try simp only [hl5_1]); (try simp only [hl6_17]); (with_reducible repeat (first | refine blk_drewN ?_ _ | refine blk_drew ?_ | refine blk_alloc ?_ _)); refine blk_far ?_ NB419_433.out _; (with_reducible repeat (first | refine blk_drewN ?_ _ | refine blk_drew ?_ | refine blk_alloc ?_ _)); refine blk_far ?_ NB419_433.out _; (with_reducible repeat (first | refine blk_drewN ?_ _ | refine blk_drew ?_ | refine blk_alloc ?_ _)); exact BK419.out⟩, ⟨by (try simp only [hl5_1]); (try simp only [hl6_17]); (with_reducible repeat (first | refine blk_drewN ?_ _ | refine blk_drew ?_ | refine blk_alloc ?_ _)); refine blk_far ?_ NB426_433.out _; (with_reducible repeat (first | refine blk_drewN ?_ _ | refine blk_drew ?_ | refine blk_alloc ?_ _)); refine blk_far ?_ NB426_433.out _; (with_reducible repeat (first | refine blk_drewN ?_ _ | refine blk_drew ?_ | refine blk_alloc ?_ _)); exact BK426.out⟩, ⟨by (try simp only [hl5_1]); (try simp only [hl6_17]); (with_reducible repeat (first | refine blk_drewN ?_ _ | refine blk_drew ?_ | refine blk_alloc ?_ _)); refine blk_put (cs := #[.int .i64 t430, .int .i64 0]) ?_ 1 _ rfl; (with_reducible repeat (first | refine blk_drewN ?_ _ | refine blk_drew ?_ | refine blk_alloc ?_ _)); refine blk_put (cs := #[.int .i64 0, .int .i64 0]) ?_ 0 _ rfl; (with_reducible repeat (first | refine blk_drewN ?_ _ | refine blk_drew ?_ | refine blk_alloc ?_ _)); exact BK433.out⟩, ⟨by repeat (first | (with_reducible first | exact HB.out | apply below_alloc | apply pw_below_drewN | apply below_drew1 | refine below_set ?_ GE419.out | refine below_set ?_ GE426.out | refine below_set ?_ GE433.out) | exact HB.out)⟩⟩
         ·rw [if_neg c46] at H
          have c46b0 : (t418 == t425) = false := beq_eq_false_iff_ne.mpr c46
          have c46b1 : (t418 != t425) = true := bne_iff_ne.mpr c46
          (first | rw [c46b0] | (simp only [i64_w, i32_w]; rw [c46b0]) | skip)
          (try (have c46r0 := c46b0; simp only [hl5_1, hl6_17] at c46r0))
          (try (have c46r1 := c46b1; simp only [hl5_1, hl6_17] at c46r1))
          have H' := Aside0.mk H
          clear H
          go_wp2
          go_meet
          case rel => exact ⟨_, (true), (by first | rfl | (simp; done) | (simp [*]; done)), H', ⟨by have := HK1.out; have := HJ17.out; first | omega | exact Nat.le_refl _⟩, ⟨by (try simp only [hl5_1]); (try simp only [hl6_17]); (with_reducible repeat (first | apply Kd.R_alloc | apply Kd.R_drewN | apply Kd.R_drew)); exact Kd.R_mono (Kd.R_far (p := ⟨gb433, 1, none⟩) (Kd.R_far (p := ⟨gb433, 0, none⟩) (Kd.R_types HO415.out BK433.out (by decide)) (fun _ hk => hk.2) (.int .i64 t430)) (fun _ hk => hk.2) (.int .i64 t431)) (fun _ hk => hk.1.2)⟩, ⟨by (try simp only [hl5_1]); (try simp only [hl6_17]); (with_reducible repeat (first | apply Kd.R_alloc | apply Kd.R_drewN | apply Kd.R_drew)); exact Kd.R_mono (Kd.R_far (p := ⟨gb433, 1, none⟩) (Kd.R_far (p := ⟨gb433, 0, none⟩) (Kd.R_types HO429.out BK433.out (by decide)) (fun _ hk => hk.2) (.int .i64 t430)) (fun _ hk => hk.2) (.int .i64 t431)) (fun _ hk => hk.1.1.2)⟩, ⟨by (try simp only [hl5_1]); (try simp only [hl6_17]); (with_reducible repeat (first | refine blk_drewN ?_ _ | refine blk_drew ?_ | refine blk_alloc ?_ _)); refine blk_far ?_ NB419_433.out _; (with_reducible repeat (first | refine blk_drewN ?_ _ | refine blk_drew ?_ | refine blk_alloc ?_ _)); refine blk_far ?_ NB419_433.out _; (with_reducible repeat (first | refine blk_drewN ?_ _ | refine blk_drew ?_ | refine blk_alloc ?_ _)); exact BK419.out⟩, ⟨by (try simp only [hl5_1]); (try simp only [hl6_17]); (with_reducible repeat (first | refine blk_drewN ?_ _ | refine blk_drew ?_ | refine blk_alloc ?_ _)); refine blk_far ?_ NB426_433.out _; (with_reducible repeat (first | refine blk_drewN ?_ _ | refine blk_drew ?_ | refine blk_alloc ?_ _)); refine blk_far ?_ NB426_433.out _; (with_reducible repeat (first | refine blk_drewN ?_ _ | refine blk_drew ?_ | refine blk_alloc ?_ _)); exact BK426.out⟩, ⟨by (try simp only [hl5_1]); (try simp only [hl6_17]); (with_reducible repeat (first | refine blk_drewN ?_ _ | refine blk_drew ?_ | refine blk_alloc ?_ _)); refine blk_put (cs := #[.int .i64 t430, .int .i64 0]) ?_ 1 _ rfl; (with_reducible repeat (first | refine blk_drewN ?_ _ | refine blk_drew ?_ | refine blk_alloc ?_ _)); refine blk_put (cs := #[.int .i64 0, .int .i64 0]) ?_ 0 _ rfl; (with_reducible repeat (first | refine blk_drewN ?_ _ | refine blk_drew ?_ | refine blk_alloc ?_ _)); exact BK433.out⟩, ⟨by repeat (first | (with_reducible first | exact HB.out | apply below_alloc | apply pw_below_drewN | apply below_drew1 | refine below_set ?_ GE419.out | refine below_set ?_ GE426.out | refine below_set ?_ GE433.out) | exact HB.out)⟩⟩
        case rest =>
         clear HC33
         try clear c1
         try clear p1
         try clear q1
         try clear hx1
         try clear c2
         try clear p2
         try clear c3
         try clear c3b0
         try clear c3b1
         try clear c4
         try clear p4
         try clear q4
         try clear hx4
         try clear p6
         try clear c8
         try clear c11
         try clear c11b0
         try clear c12
         try clear c12b0
         try clear c13
         try clear c13b0
         try clear c14
         try clear p14
         try clear q14
         try clear hx14
         try clear hf14
         try clear c15
         try clear hx15
         try clear hf15
         try clear c17
         try clear c22
         try clear c22b0
         try clear c22b1
         try clear c27
         try clear c28
         try clear c29
         try clear c39
         try clear p40
         try clear q40
         try clear hx40
         try clear c43
         try clear c44
         try clear c46
         try clear c46b0
         try clear c46b1
         try clear c47
         try clear c47b0
         try clear c47b1
         try clear c49
         try clear hcz36_0
         try clear hcz36_1
         try clear hcz40_0
         try clear hcz40_1
         try clear hcz45_0
         try clear hcz45_1
         try clear hfz36_0
         try clear hfz36_1
         try clear hfz40_0
         try clear hfz40_1
         try clear hfz45_0
         try clear hfz45_1
         try clear hx14_0
         try clear hx14_1
         try clear hx14_2
         try clear hx14_3
         try clear hx14_4
         try clear hx15_1
         try clear hx407_0
         try clear hx407_1
         try clear hx407_2
         try clear hx407_3
         try clear hx407_4
         try clear p1
         try clear p14
         try clear p2
         try clear p4
         try clear p407
         try clear p6
         try clear q1
         try clear q14
         try clear q4
         try clear q407
         obtain ⟨kq, x92_32, rfl, HA, HJ32, HO_8, HO_14, BK419, BK426, BK433, HB⟩ := hcut
         cases kq with
         | zero => exact absurd HA.out (by simp [timesynclaw24_ChooseShifts.j2])
         | succ kj32 =>
          have H := HA.out
          clear HA
          simp only [timesynclaw24_ChooseShifts.j2] at H
          by_cases c55 : x92_32 = true
          ·subst c55
           have H1 : (none) = some r := by rw [if_pos rfl] at H; exact H
           clear H
           have H := H1
           clear H1
           exact absurd H (by simp)
          ·replace c55 := Bool.eq_false_iff.mpr c55
           subst c55
           have H1 : (if t418 = 0 then (timesynclaw24_ChooseShifts.l1 kj32 l0 a1 t427 t413 (t413.length : Int) 0 t416 t417 t423 t424 t430 t431) else (if (t413.length : Int) = 0 then ((timesynclaw24_awake.f kj32).bind fun t435 => (some t435)) else (none))) = some r := by rw [if_neg (show ¬ (false = true) by decide)] at H; exact H
           clear H
           have H := H1
           clear H1
           by_cases c56 : t418 = 0
           ·rw [if_pos c56] at H
            have c56b0 : (t418 == 0) = true := beq_iff_eq.mpr c56
            have c56b1 : (t418 != 0) = false := bne_eq_false_iff_eq.mpr c56
            clear c56
            (try (have c56r0 := c56b0; simp only [hl5_1, hl6_17] at c56r0))
            (try (have c56r1 := c56b1; simp only [hl5_1, hl6_17] at c56r1))
            have H' := Aside0.mk H
            clear H
            obtain ⟨Ao57, co57, eo57⟩ := Kd.R_slice HO_8.out
            subst eo57
            go_wp2
            go_loopg [103] kj32 (fun kq v103 w' => ∃ (x103_4 : Int), v103 = .int .i64 x103_4 ∧ Aside0 (timesynclaw24_ChooseShifts.l1 kq l0 a1 t427 t413 (t413.length : Int) x103_4 t416 t417 t423 t424 t430 t431 = some r) ∧ Aside0 (kq ≤ kj32) ∧ Aside0 (Kd.R (Kd.int .i64) 3 w' w.heap.size (fun k_ => some k_ ≠ ((.slice Ao57 t413.length co57) : Value).ownBlock) v428 t427) ∧ Aside0 (Kd.R (Kd.int .i64) 3 w' w.heap.size (fun k_ => some k_ ≠ (v428 : Value).ownBlock) (.slice Ao57 t413.length co57) t413) ∧ Aside0 (w'.heap[gb419]? = some (.cells #[.int .i64 t416, .int .i64 t417] 29 (0, 0))) ∧ Aside0 (w'.heap[gb426]? = some (.cells #[.int .i64 t423, .int .i64 t424] 29 (0, 0))) ∧ Aside0 (w'.heap[gb433]? = some (.cells #[.int .i64 t430, .int .i64 t431] 29 (0, 0))) ∧ Aside0 (Below w.heap.size w w'))
            case atStart => exact ⟨(0), (by first | rfl | (simp; done) | (simp [*]; done)), H', ⟨Nat.le_refl _⟩, ⟨by (try simp only [hl5_1]); (try simp only [hl6_17]); (with_reducible repeat (first | apply Kd.R_alloc | apply Kd.R_drewN | apply Kd.R_drew)); exact HO_14.out⟩, ⟨by (try simp only [hl5_1]); (try simp only [hl6_17]); (with_reducible repeat (first | apply Kd.R_alloc | apply Kd.R_drewN | apply Kd.R_drew)); exact HO_8.out⟩, ⟨by (try simp only [hl5_1]); (try simp only [hl6_17]); (with_reducible repeat (first | refine blk_drewN ?_ _ | refine blk_drew ?_ | refine blk_alloc ?_ _)); exact BK419.out⟩, ⟨by (try simp only [hl5_1]); (try simp only [hl6_17]); (with_reducible repeat (first | refine blk_drewN ?_ _ | refine blk_drew ?_ | refine blk_alloc ?_ _)); exact BK426.out⟩, ⟨by (try simp only [hl5_1]); (try simp only [hl6_17]); (with_reducible repeat (first | refine blk_drewN ?_ _ | refine blk_drew ?_ | refine blk_alloc ?_ _)); exact BK433.out⟩, ⟨by repeat (first | (with_reducible first | exact HB.out | apply below_alloc | apply pw_below_drewN | apply below_drew1 | refine below_set ?_ GE419.out | refine below_set ?_ GE426.out | refine below_set ?_ GE433.out) | exact HB.out)⟩⟩
            case round =>
             clear H'
             try clear c1
             try clear p1
             try clear q1
             try clear hx1
             try clear c2
             try clear p2
             try clear c3
             try clear c3b0
             try clear c3b1
             try clear c4
             try clear p4
             try clear q4
             try clear hx4
             try clear c5
             try clear p6
             try clear c8
             try clear c11
             try clear c11b0
             try clear c12
             try clear c12b0
             try clear c13
             try clear c13b0
             try clear c14
             try clear p14
             try clear q14
             try clear hx14
             try clear hf14
             try clear c15
             try clear hx15
             try clear hf15
             try clear c17
             try clear c22
             try clear c22b0
             try clear c22b1
             try clear c27
             try clear c28
             try clear c29
             try clear c39
             try clear p40
             try clear q40
             try clear hx40
             try clear c43
             try clear c44
             try clear c46
             try clear c46b0
             try clear c46b1
             try clear c47
             try clear c47b0
             try clear c47b1
             try clear c49
             try clear c55
             try clear c56
             try clear c56b0
             try clear c56b1
             try clear hcz36_0
             try clear hcz36_1
             try clear hcz40_0
             try clear hcz40_1
             try clear hcz45_0
             try clear hcz45_1
             try clear hfz36_0
             try clear hfz36_1
             try clear hfz40_0
             try clear hfz40_1
             try clear hfz45_0
             try clear hfz45_1
             try clear hx14_0
             try clear hx14_1
             try clear hx14_2
             try clear hx14_3
             try clear hx14_4
             try clear hx15_1
             try clear hx407_0
             try clear hx407_1
             try clear hx407_2
             try clear hx407_3
             try clear hx407_4
             try clear p1
             try clear p14
             try clear p2
             try clear p4
             try clear p40
             try clear p407
             try clear p6
             try clear q1
             try clear q14
             try clear q4
             try clear q40
             try clear q407
             obtain ⟨x103_4, rfl, HA, HK4, HO_14, HO_101, BK419, BK426, BK433, HB⟩ := hrel
             cases gk with
             | zero => exact absurd HA.out (by simp [timesynclaw24_ChooseShifts.l1])
             | succ k4 =>
              have H := HA.out
              clear HA
              simp only [timesynclaw24_ChooseShifts.l1] at H
              by_cases c58 : x103_4 < (t413.length : Int)
              ·rw [if_pos c58] at H
               have c58b0 : decide (x103_4 < (t413.length : Int)) = true := decide_eq_true c58
               clear c58
               (try (have c58r0 := c58b0; simp only [hl5_1, hl6_17] at c58r0))
               by_cases c59 : 0 ≤ x103_4
               ·rw [if_pos c59] at H
                have c59b0 : decide (0 ≤ x103_4) = true := decide_eq_true c59
                clear c59
                (try (have c59r0 := c59b0; simp only [hl5_1, hl6_17] at c59r0))
                by_cases c60 : x103_4 < (t413.length : Int)
                ·rw [if_pos c60] at H
                 have c60b0 : decide (x103_4 < (t413.length : Int)) = true := decide_eq_true c60
                 clear c60
                 (try (have c60r0 := c60b0; simp only [hl5_1, hl6_17] at c60r0))
                 obtain ⟨ji61, hji61⟩ : ∃ j_ : Int, (wrap64 ((wrap64 ((t427.length : Int) - 1)) - x103_4)) = j_ := ⟨_, rfl⟩
                 replace H : (if 0 ≤ (ji61) then (if (ji61) < (t427.length : Int) then (if (rd t427 (ji61)) = (wrap64 ((wrap64 ((l0.length : Int) - 1)) - (rd t413 x103_4))) then (timesynclaw24_ChooseShifts.l1 k4 l0 a1 t427 t413 (t413.length : Int) (wrap64 (x103_4 + 1)) t416 t417 t423 t424 t430 t431) else (none)) else (none)) else (none)) = some r := by first | (rw [hji61] at H; exact H) | (simp only [hji61] at H ⊢; exact H)
                 have hji61w : (IntKind.i64.wrap ((wrap64 ((t427.length : Int) - 1)) - x103_4)) = ji61 := (i64_w _).trans hji61
                 by_cases c62 : 0 ≤ (ji61)
                 ·rw [if_pos c62] at H
                  have c62b0 : decide (0 ≤ (ji61)) = true := decide_eq_true c62
                  clear c62
                  (try (have c62r0 := c62b0; simp only [hl5_1, hl6_17] at c62r0))
                  by_cases c63 : (ji61) < (t427.length : Int)
                  ·rw [if_pos c63] at H
                   have c63b0 : decide ((ji61) < (t427.length : Int)) = true := decide_eq_true c63
                   clear c63
                   (try (have c63r0 := c63b0; simp only [hl5_1, hl6_17] at c63r0))
                   by_cases c64 : (rd t427 (ji61)) = (wrap64 ((wrap64 ((l0.length : Int) - 1)) - (rd t413 x103_4)))
                   ·rw [if_pos c64] at H
                    have c64b0 : ((rd t427 (ji61)) == (wrap64 ((wrap64 ((l0.length : Int) - 1)) - (rd t413 x103_4)))) = true := beq_iff_eq.mpr c64
                    have c64b1 : ((rd t427 (ji61)) != (wrap64 ((wrap64 ((l0.length : Int) - 1)) - (rd t413 x103_4)))) = false := bne_eq_false_iff_eq.mpr c64
                    clear c64
                    (try (have c64r0 := c64b0; simp only [hl5_1, hl6_17] at c64r0))
                    (try (have c64r1 := c64b1; simp only [hl5_1, hl6_17] at c64r1))
                    have H' := Aside0.mk H
                    clear H
                    have p436 : 0 ≤ (x103_4 : Int) := of_decide_eq_true (by first | (with_reducible assumption) | assumption)
                    have q436 : x103_4 < (t413.length : Int) := of_decide_eq_true (by first | (with_reducible assumption) | assumption)
                    obtain ⟨ad436, e436, hx436_0⟩ := Kd.at_int (Kd.R_reads' HO_101.out).2.2 x103_4 p436 q436
                    cases e436
                    replace p436 := eq_true p436
                    replace q436 := eq_true q436
                    obtain ⟨Ao65, co65, eo65⟩ := Kd.R_slice HO_14.out
                    subst eo65
                    have p437 : 0 ≤ ((ji61) : Int) := of_decide_eq_true (by first | (with_reducible assumption) | assumption)
                    have q437 : (ji61) < (t427.length : Int) := of_decide_eq_true (by first | (with_reducible assumption) | assumption)
                    obtain ⟨ad437, e437, hx437_0⟩ := Kd.at_int (Kd.R_reads' HO_14.out).2.2 (ji61) p437 q437
                    cases e437
                    replace p437 := eq_true p437
                    replace q437 := eq_true q437
                    go_wp2
                    go_roundg k4
                    case measure => have := HK1.out; have := HJ17.out; have := HJ32.out; have := HK4.out; omega
                    case rel => exact ⟨(wrap64 (x103_4 + 1)), (by first | rfl | (simp; done) | (simp [*]; done)), H', ⟨by have := HK1.out; have := HJ17.out; have := HJ32.out; have := HK4.out; omega⟩, ⟨by (try simp only [hl5_1]); (try simp only [hl6_17]); (with_reducible repeat (first | apply Kd.R_alloc | apply Kd.R_drewN | apply Kd.R_drew)); exact HO_14.out⟩, ⟨by (try simp only [hl5_1]); (try simp only [hl6_17]); (with_reducible repeat (first | apply Kd.R_alloc | apply Kd.R_drewN | apply Kd.R_drew)); exact HO_101.out⟩, ⟨by (try simp only [hl5_1]); (try simp only [hl6_17]); (with_reducible repeat (first | refine blk_drewN ?_ _ | refine blk_drew ?_ | refine blk_alloc ?_ _)); exact BK419.out⟩, ⟨by (try simp only [hl5_1]); (try simp only [hl6_17]); (with_reducible repeat (first | refine blk_drewN ?_ _ | refine blk_drew ?_ | refine blk_alloc ?_ _)); exact BK426.out⟩, ⟨by (try simp only [hl5_1]); (try simp only [hl6_17]); (with_reducible repeat (first | refine blk_drewN ?_ _ | refine blk_drew ?_ | refine blk_alloc ?_ _)); exact BK433.out⟩, ⟨by repeat (first | (with_reducible first | exact HB.out | apply below_alloc | apply pw_below_drewN | apply below_drew1 | refine below_set ?_ GE419.out | refine below_set ?_ GE426.out | refine below_set ?_ GE433.out) | exact HB.out)⟩⟩
                   ·rw [if_neg c64] at H
                    exact absurd H (by simp)
                  ·rw [if_neg c63] at H
                   exact absurd H (by simp)
                 ·rw [if_neg c62] at H
                  exact absurd H (by simp)
                ·rw [if_neg c60] at H
                 exact absurd H (by simp)
               ·rw [if_neg c59] at H
                exact absurd H (by simp)
              ·rw [if_neg c58] at H
               have c58b0 : decide (x103_4 < (t413.length : Int)) = false := decide_eq_false c58
               clear c58
               (try (have c58r0 := c58b0; simp only [hl5_1, hl6_17] at c58r0))
               by_cases c66 : (t423 == (wrap64 (t416 + (wrap64 (a1)))) && (t424 == (wrap64 (t417 + (wrap64 (a1)))))) = true
               ·rw [if_pos c66] at H
                have c66b0 : (t423 == (wrap64 (t416 + (wrap64 (a1)))) && (t424 == (wrap64 (t417 + (wrap64 (a1)))))) = true := c66
                (try (have c66b1 : decide (t423 = (wrap64 (t416 + (wrap64 (a1)))) && (t424 == (wrap64 (t417 + (wrap64 (a1)))))) = true := by simpa using c66))
                (try (have c66b2 : (t423 == (wrap64 (t416 + (wrap64 (a1)))) && (t424 == (wrap64 (t417 + (wrap64 (a1)))))) = true := by simpa using c66))
                clear c66
                (try (have c66r0 := c66b0; simp only [hl5_1, hl6_17] at c66r0))
                by_cases c67 : (t430 == t416 && (t431 == t417)) = true
                ·rw [if_pos c67] at H
                 have c67b0 : (t430 == t416 && (t431 == t417)) = true := c67
                 (try (have c67b1 : decide (t430 = t416 && (t431 == t417)) = true := by simpa using c67))
                 (try (have c67b2 : (t430 == t416 && (t431 == t417)) = true := by simpa using c67))
                 clear c67
                 (try (have c67r0 := c67b0; simp only [hl5_1, hl6_17] at c67r0))
                 replace H := Option.bind_eq_some_iff.mp H
                 obtain ⟨t438, A680, H⟩ := H
                 replace H : (some t438) = some r := H
                 have A68 := Aside0.mk A680
                 clear A680
                 obtain rfl := Option.some.inj H
                 have hnb69 := NB426_419.out
                 have hnc69 := NB419_426.out
                 have hnb70 := NB426_433.out
                 have hnc70 := NB433_426.out
                 have hcz71_0 : wr.cell? ⟨gb426, 0, none⟩ = some (.int .i64 t423) := (blk_cell BK426.out 0).trans rfl
                 have hcz71_1 : wr.cell? ⟨gb426, 1, none⟩ = some (.int .i64 t424) := (blk_cell BK426.out 1).trans rfl
                 have hfz71_0 := blk_frozen BK426.out 0
                 have hfz71_1 := blk_frozen BK426.out 1
                 have hnb72 := NB419_433.out
                 have hnc72 := NB433_419.out
                 have hcz73_0 : wr.cell? ⟨gb419, 0, none⟩ = some (.int .i64 t416) := (blk_cell BK419.out 0).trans rfl
                 have hcz73_1 : wr.cell? ⟨gb419, 1, none⟩ = some (.int .i64 t417) := (blk_cell BK419.out 1).trans rfl
                 have hfz73_0 := blk_frozen BK419.out 0
                 have hfz73_1 := blk_frozen BK419.out 1
                 have hcz74_0 : wr.cell? ⟨gb433, 0, none⟩ = some (.int .i64 t430) := (blk_cell BK433.out 0).trans rfl
                 have hcz74_1 : wr.cell? ⟨gb433, 1, none⟩ = some (.int .i64 t431) := (blk_cell BK433.out 1).trans rfl
                 have hfz74_0 := blk_frozen BK433.out 0
                 have hfz74_1 := blk_frozen BK433.out 1
                 go_wp2_with (first | (go_at_call 14; (with_reducible refine (timesynclaw24_awake.calls k4  t438 _ A68.out).mono ?_); rintro e w75 ⟨rfl, hb⟩; have n0_ := Aside0.mk (Kd.R_below (by (with_reducible repeat (first | apply Kd.R_alloc | apply Kd.R_drewN | apply Kd.R_drew)); exact HO_14.out) hb); have n1_ := Aside0.mk (Kd.R_below (by (with_reducible repeat (first | apply Kd.R_alloc | apply Kd.R_drewN | apply Kd.R_drew)); exact HO_101.out) hb); have n2_ := Aside0.mk (blk_below (g := gb419) (o := .cells #[.int .i64 t416, .int .i64 t417] 29 (0, 0)) (by (with_reducible repeat (first | refine blk_drewN ?_ _ | refine blk_drew ?_ | refine blk_alloc ?_ _)); exact BK419.out) hb); have n3_ := Aside0.mk (blk_below (g := gb426) (o := .cells #[.int .i64 t423, .int .i64 t424] 29 (0, 0)) (by (with_reducible repeat (first | refine blk_drewN ?_ _ | refine blk_drew ?_ | refine blk_alloc ?_ _)); exact BK426.out) hb); have n4_ := Aside0.mk (blk_below (g := gb433) (o := .cells #[.int .i64 t430, .int .i64 t431] 29 (0, 0)) (by (with_reducible repeat (first | refine blk_drewN ?_ _ | refine blk_drew ?_ | refine blk_alloc ?_ _)); exact BK433.out) hb); have n5_ := Aside0.mk (below_step (by repeat (first | (with_reducible first | exact HB.out | apply below_alloc | apply pw_below_drewN | apply below_drew1 | refine below_set ?_ GE419.out | refine below_set ?_ GE426.out | refine below_set ?_ GE433.out) | exact HB.out)) hb); clear HO_14; clear HO_101; clear BK419; clear BK426; clear BK433; clear HB; have HO_14 := n0_; have HO_101 := n1_; have BK419 := n2_; have BK426 := n3_; have BK433 := n4_; have HB := n5_; clear n0_ n1_ n2_ n3_ n4_ n5_; (try clear hb); (try clear hb2); (try clear hk); (try clear hi)))
                 go_ret
                 exact ⟨by first | rfl | (simp [errW_none, errW_some] <;> rfl) | (simp [*, errW_none, errW_some] <;> rfl), by repeat (first | (with_reducible first | exact HB.out | apply below_alloc | apply pw_below_drewN | apply below_drew1 | refine below_set ?_ GE419.out | refine below_set ?_ GE426.out | refine below_set ?_ GE433.out) | exact HB.out)⟩
                ·rw [if_neg c67] at H
                 exact absurd H (by simp)
               ·rw [if_neg c66] at H
                exact absurd H (by simp)
           ·rw [if_neg c56] at H
            have c56b0 : (t418 == 0) = false := beq_eq_false_iff_ne.mpr c56
            have c56b1 : (t418 != 0) = true := bne_iff_ne.mpr c56
            (try (have c56r0 := c56b0; simp only [hl5_1, hl6_17] at c56r0))
            (try (have c56r1 := c56b1; simp only [hl5_1, hl6_17] at c56r1))
            by_cases c76 : (t413.length : Int) = 0
            ·rw [if_pos c76] at H
             have c76b0 : ((t413.length : Int) == 0) = true := beq_iff_eq.mpr c76
             have c76b1 : ((t413.length : Int) != 0) = false := bne_eq_false_iff_eq.mpr c76
             clear c76
             (try (have c76r0 := c76b0; simp only [hl5_1, hl6_17] at c76r0))
             (try (have c76r1 := c76b1; simp only [hl5_1, hl6_17] at c76r1))
             replace H := Option.bind_eq_some_iff.mp H
             obtain ⟨t435, A770, H⟩ := H
             replace H : (some t435) = some r := H
             have A77 := Aside0.mk A770
             clear A770
             obtain rfl := Option.some.inj H
             obtain ⟨Ao78, co78, eo78⟩ := Kd.R_slice HO_8.out
             subst eo78
             go_wp2_with (first | (go_at_call 14; (with_reducible refine (timesynclaw24_awake.calls kj32  t435 _ A77.out).mono ?_); rintro e w79 ⟨rfl, hb⟩; have n0_ := Aside0.mk (Kd.R_below (by (with_reducible repeat (first | apply Kd.R_alloc | apply Kd.R_drewN | apply Kd.R_drew)); exact HO_8.out) hb); have n1_ := Aside0.mk (Kd.R_below (by (with_reducible repeat (first | apply Kd.R_alloc | apply Kd.R_drewN | apply Kd.R_drew)); exact HO_14.out) hb); have n2_ := Aside0.mk (blk_below (g := gb419) (o := .cells #[.int .i64 t416, .int .i64 t417] 29 (0, 0)) (by (with_reducible repeat (first | refine blk_drewN ?_ _ | refine blk_drew ?_ | refine blk_alloc ?_ _)); exact BK419.out) hb); have n3_ := Aside0.mk (blk_below (g := gb426) (o := .cells #[.int .i64 t423, .int .i64 t424] 29 (0, 0)) (by (with_reducible repeat (first | refine blk_drewN ?_ _ | refine blk_drew ?_ | refine blk_alloc ?_ _)); exact BK426.out) hb); have n4_ := Aside0.mk (blk_below (g := gb433) (o := .cells #[.int .i64 t430, .int .i64 t431] 29 (0, 0)) (by (with_reducible repeat (first | refine blk_drewN ?_ _ | refine blk_drew ?_ | refine blk_alloc ?_ _)); exact BK433.out) hb); have n5_ := Aside0.mk (below_step (by repeat (first | (with_reducible first | exact HB.out | apply below_alloc | apply pw_below_drewN | apply below_drew1 | refine below_set ?_ GE419.out | refine below_set ?_ GE426.out | refine below_set ?_ GE433.out) | exact HB.out)) hb); clear HO_8; clear HO_14; clear BK419; clear BK426; clear BK433; clear HB; have HO_8 := n0_; have HO_14 := n1_; have BK419 := n2_; have BK426 := n3_; have BK433 := n4_; have HB := n5_; clear n0_ n1_ n2_ n3_ n4_ n5_; (try clear hb); (try clear hb2); (try clear hk); (try clear hi)))
             go_ret
             exact ⟨by first | rfl | (simp [errW_none, errW_some] <;> rfl) | (simp [*, errW_none, errW_some] <;> rfl), by repeat (first | (with_reducible first | exact HB.out | apply below_alloc | apply pw_below_drewN | apply below_drew1 | refine below_set ?_ GE419.out | refine below_set ?_ GE426.out | refine below_set ?_ GE433.out) | exact HB.out)⟩
            ·rw [if_neg c76] at H
             exact absurd H (by simp)

end Go.Proofs.Ytlfilhplklifjaa.X

namespace Go.Proofs.Ytlfilhplklifjaa.X
open Go.RowKit Go.Proofs.YtlfilhplklifjaaW.PrintWords Go.Proofs.YtlfilhplklifjaaW.PrintLast Go.Proofs.YtlfilhplklifjaaW.PrintMore
attribute [local go_sem] max2_int min2_int max_two min_two max_three min_three max_four min_four   -- for this text's walks alone
set_option linter.unusedVariables false
set_option linter.unusedSimpArgs false

def WFi64 (x : Int) : Prop := (Lit.int .i64 x).wf = true
def WF37 (x : S37) : Prop := WFi64 x.f0 ∧ WFi64 x.f1 ∧ WFi64 x.f2 ∧ WFi64 x.f3 ∧ WFi64 x.f4
def WFL37 (x : List (S37)) : Prop := x.length ≤ 9223372036854775807 ∧ ∀ y ∈ x, WF37 y
def WFi16 (x : Int) : Prop := (Lit.int .i16 x).wf = true
end Go.Proofs.Ytlfilhplklifjaa.X

/- Plain words of this seat: rounds, wrapped numbers, lists by index; the check of candidates. -/
namespace Go.Proofs.Ytlfilhplklifjaa.PA
open Go.RowKit Go.Proofs.Ytlfilhplklifjaa.X Go.Proofs.YtlfilhplklifjaaW.PrintWords Go.Proofs.YtlfilhplklifjaaW.PrintLast

section
variable {α β : Type} {f g h : Nat → Option α} {r : α} {c : Prop} [Decidable c]
theorem Ev.pos (hc : c) (h : Ev f r) : Ev (fun n => if c then f n else g n) r := Ev.congr (fun _ => if_pos hc) h
theorem Ev.neg (hc : ¬ c) (h : Ev g r) : Ev (fun n => if c then f n else g n) r := Ev.congr (fun _ => if_neg hc) h
theorem Ev.ite_ (h1 : c → Ev f r) (h2 : ¬ c → Ev g r) : Ev (fun n => if c then f n else g n) r := by
  by_cases hc : c
  · exact Ev.pos hc (h1 hc)
  · exact Ev.neg hc (h2 hc)
theorem Ev.bind' {g : Nat → Option α} {f : Nat → α → Option β} {r : β} (a : α) (h : Ev g a) (k : Ev (fun n => f n a) r) : Ev (fun n => (g n).bind (f n)) r := Ev.bind h k
theorem Ev.some_bind {f : Nat → α → Option β} {a : α} {r : β} (k : Ev (fun n => f n a) r) : Ev (fun n => (some a).bind (f n)) r := k
theorem Ev.const {x : Option α} (h : x = some r) : Ev (fun _ => x) r := ⟨0, fun _ _ => h⟩
theorem Ev.uniq {r r' : α} (h : Ev f r) (h' : Ev f r') : r = r' := by
  obtain ⟨K, h⟩ := h
  obtain ⟨K', h'⟩ := h'
  have h1 := h (max K K') (by omega)
  have h2 := h' (max K K') (by omega)
  rw [h1] at h2
  exact Option.some.inj h2
end

theorem wrap_id {x : Int} (h0 : -9223372036854775808 ≤ x) (h1 : x < 9223372036854775808) : wrap64 x = x := by
  unfold wrap64; omega
theorem wrap_nat {i : Nat} (h : i < 9223372036854775807) : wrap64 ((i : Int) + 1) = ((i + 1 : Nat) : Int) := by
  rw [wrap_id (by omega) (by omega)]; rfl
theorem rd37 (l : List S37) (i : Nat) : rd_T37 l (i : Int) = l.getD i z37 := by simp [rd_T37]
theorem rd29 (l : List S29) (i : Nat) : rd_T29 l (i : Int) = l.getD i z29 := by simp [rd_T29]
theorem rd88 (l : List S88) (i : Nat) : rd_T88 l (i : Int) = l.getD i z88 := by simp [rd_T88]
theorem rd110 (l : List S110) (i : Nat) : rd_T110 l (i : Int) = l.getD i z110 := by simp [rd_T110]
theorem rdI (l : List Int) (i : Nat) : rd l (i : Int) = l.getD i 0 := by simp [rd]

/-! ### Check -/
/-- A candidate within the limits. -/
def OkC (c : S37) : Prop := 0 ≤ c.f0 ∧ c.f0 ≤ 2147483647 ∧ -4503599627370496 ≤ c.f1 ∧ c.f1 ≤ 4503599627370496 ∧ 0 ≤ c.f2 ∧ c.f2 ≤ 9007199254740992 ∧ 0 ≤ c.f3 ∧ c.f3 ≤ 9007199254740992 ∧ 1 ≤ c.f4 ∧ c.f4 ≤ 16
instance (c : S37) : Decidable (OkC c) := by unfold OkC; infer_instance
/-- One of the candidates from j on, ahead of i, has i's number. -/
def dupFrom (l : List S37) (i : Nat) : Nat → Nat → Bool
  | 0, _ => false
  | d + 1, j => if (l.getD j z37).f0 = (l.getD i z37).f0 then true else dupFrom l i d (j + 1)
def chkFrom (l : List S37) : Nat → Nat → Int
  | 0, _ => 0
  | d + 1, i => if OkC (l.getD i z37) then (if dupFrom l i i 0 = true then 10 else chkFrom l d (i + 1)) else 3
def chk (l : List S37) : Int := if (l.length : Int) > 12 then 6 else chkFrom l l.length 0

theorem impl_dup (l : List S37) (hn : l.length ≤ 12) (i : Nat) (hi : i < l.length) (r : Int) (hnext : Ev (fun k => choose_Check.l0 k l l l.length ((i + 1 : Nat) : Int)) r) (a b c e : Int) :
    ∀ d j, j + d = i → Ev (fun k => choose_Check.l1 k l l l.length i (l.take i) i j (l.getD i z37).f0 a b c e) (if dupFrom l i d j = true then 10 else r) := by
  intro d
  induction d with
  | zero =>
    intro j hj
    refine Ev.step (fun k => by rw [choose_Check.l1]) ?_
    refine Ev.neg (by omega) ?_
    rw [wrap_nat (by omega)]
    simpa [dupFrom] using hnext
  | succ d ih =>
    intro j hj
    refine Ev.step (fun k => by rw [choose_Check.l1]) ?_
    refine Ev.pos (by omega) (Ev.pos (by omega) (Ev.pos (by rw [List.length_take]; omega) ?_))
    rw [rd37]
    unfold dupFrom
    have e1 : (l.take i).getD j z37 = l.getD j z37 := by
      simp [List.getD, show j < i by omega]
    rw [e1]
    by_cases h : (l.getD j z37).f0 = (l.getD i z37).f0
    · rw [if_pos h]
      exact Ev.pos h (Ev.const rfl)
    · rw [if_neg h]
      refine Ev.neg h ?_
      rw [wrap_nat (by omega)]
      exact ih (j + 1) (by omega)

theorem impl_j1 (l : List S37) (hn : l.length ≤ 12) (i : Nat) (hi : i < l.length) (r : Int) (hnext : Ev (fun k => choose_Check.l0 k l l l.length ((i + 1 : Nat) : Int)) r) (bad : Bool) (a b c e : Int) :
    Ev (fun k => choose_Check.j1 k l i l l.length i bad (l.getD i z37).f0 a b c e) (if bad = true then 3 else if dupFrom l i i 0 = true then 10 else r) := by
  refine Ev.step (fun k => by rw [choose_Check.j1]) ?_
  cases bad with
  | true => exact Ev.pos rfl (Ev.const rfl)
  | false =>
    refine Ev.neg (by simp) (Ev.pos (by omega) (Ev.pos (by omega) (Ev.some_bind ?_)))
    have h1 : ((l.take ((i : Int)).toNat).length : Int) = i := by rw [List.length_take]; simp; omega
    simp only [h1]
    simp only [Int.toNat_natCast, Bool.false_eq_true, if_false]
    exact impl_dup l hn i hi r hnext a b c e i 0 (by omega)

theorem impl_chk_from (l : List S37) (hn : l.length ≤ 12) : ∀ d i, i + d = l.length → Ev (fun k => choose_Check.l0 k l l l.length i) (chkFrom l d i) := by
  intro d
  induction d with
  | zero =>
    intro i hi
    refine Ev.step (fun k => by rw [choose_Check.l0]) ?_
    exact Ev.neg (by omega) (Ev.const rfl)
  | succ d ih =>
    intro i hi
    have J := fun bad a b c e => impl_j1 l hn i (by omega) _ (ih (i + 1) (by omega)) bad a b c e
    refine Ev.step (fun k => by rw [choose_Check.l0]) ?_
    refine Ev.pos (by omega) (Ev.pos (by omega) (Ev.pos (by omega) ?_))
    simp only [rd37]
    unfold chkFrom
    generalize l.getD i z37 = c at J ⊢
    by_cases h : OkC c
    · rw [if_pos h]
      obtain ⟨h1, h2, h3, h4, h5, h6, h7, h8, h9, h10⟩ := h
      refine Ev.neg (by omega) (Ev.neg (by omega) (Ev.neg (by omega) (Ev.neg (by omega) (Ev.neg (by omega) (Ev.neg (by omega) (Ev.neg (by omega) (Ev.neg (by omega) (Ev.neg (by omega) ?_))))))))
      have e1 : decide (c.f4 > 16) = false := by simp; omega
      rw [e1]
      simpa using J false c.f1 c.f2 c.f3 c.f4
    · rw [if_neg h]
      have J3 := J true c.f1 c.f2 c.f3 c.f4
      simp only [if_true] at J3
      refine Ev.ite_ (fun _ => J3) (fun h1 => Ev.ite_ (fun _ => J3) (fun h2 => Ev.ite_ (fun _ => J3) (fun h3 => Ev.ite_ (fun _ => J3) (fun h4 => Ev.ite_ (fun _ => J3) (fun h5 => Ev.ite_ (fun _ => J3) (fun h6 => Ev.ite_ (fun _ => J3) (fun h7 => Ev.ite_ (fun _ => J3) (fun h8 => Ev.ite_ (fun _ => J3) (fun h9 => ?_)))))))))
      have e1 : decide (c.f4 > 16) = true := by
        simp only [decide_eq_true_eq]
        by_cases h10 : c.f4 > 16
        · exact h10
        · exact absurd ⟨by omega, by omega, by omega, by omega, by omega, by omega, by omega, by omega, by omega, by omega⟩ h
      rw [e1]
      exact J3

theorem impl_check (l : List S37) : Ev (fun k => choose_Check.f k l) (chk l) := by
  unfold choose_Check.f chk
  by_cases h : (l.length : Int) > 12
  · rw [if_pos h]; exact Ev.pos h (Ev.const rfl)
  · rw [if_neg h]; exact Ev.neg h (impl_chk_from l (by omega) l.length 0 (by omega))

/-- What a check that says 0 tells. -/
theorem chkFrom_ok {l : List S37} : ∀ {d i}, i + d = l.length → chkFrom l d i = 0 → ∀ j, i ≤ j → j < l.length → OkC (l.getD j z37) := by
  intro d
  induction d with
  | zero => intro i hi _ j hj hl; omega
  | succ d ih =>
    intro i hi h j hj hl
    unfold chkFrom at h
    by_cases hok : OkC (l.getD i z37)
    · rw [if_pos hok] at h
      by_cases hd : dupFrom l i i 0 = true
      · rw [if_pos hd] at h; omega
      · rw [if_neg hd] at h
        rcases Nat.lt_or_ge i j with h1 | h1
        · exact ih (by omega) h j (by omega) hl
        · rw [show j = i by omega]; exact hok
    · rw [if_neg hok] at h; omega
theorem chk_ok {l : List S37} (h : chk l = 0) : l.length ≤ 12 ∧ ∀ c ∈ l, OkC c := by
  unfold chk at h
  by_cases h12 : (l.length : Int) > 12
  · rw [if_pos h12] at h; omega
  · rw [if_neg h12] at h
    refine ⟨by omega, fun c hc => ?_⟩
    obtain ⟨j, hj, rfl⟩ := List.getElem_of_mem hc
    have := chkFrom_ok (by omega) h j (by omega) hj
    simpa [List.getD, hj] using this
end Go.Proofs.Ytlfilhplklifjaa.PA

/- The chapter's examples, reckoned. -/
namespace Go.Proofs.Ytlfilhplklifjaa.PA
open Go.RowKit Go.Proofs.Ytlfilhplklifjaa.X Go.Proofs.YtlfilhplklifjaaW.PrintWords
theorem awake24 : Ev (fun k => timesynclaw24_awake.f k) true := by
  have h : timesynclaw24_awake.f 30 = some true := by kernel_rfl
  exact Ev.of (fun k => timesynclaw24_awake.mono k) h
theorem awake24' : Ev (fun k => (timesynclaw24_awake.f k).bind fun t => some t) true := Ev.bind' true awake24 (Ev.const rfl)
end Go.Proofs.Ytlfilhplklifjaa.PA

/- Positions by a test; how many intervals hold an instant; the reference's hull. -/
namespace Go.Proofs.Ytlfilhplklifjaa.PA
open Go.RowKit Go.Proofs.Ytlfilhplklifjaa.X Go.Proofs.YtlfilhplklifjaaW.PrintWords Go.Proofs.YtlfilhplklifjaaW.PrintLast

/-! ### Positions -/
def idxFrom (l : List S37) (p : S37 → Bool) : Nat → Nat → List Int
  | 0, _ => []
  | d + 1, i => if p (l.getD i z37) = true then (i : Int) :: idxFrom l p d (i + 1) else idxFrom l p d (i + 1)
def idx (l : List S37) (p : S37 → Bool) : List Int := idxFrom l p l.length 0
def pIn (lo hi : Int) (c : S37) : Bool := decide (lo ≤ c.f1) && decide (c.f1 ≤ hi)
theorem where48 (l : List S37) (hn : l.length ≤ 100) (lo hi : Int) : ∀ d i (acc : List Int), i + d = l.length → acc.length ≤ i → Ev (fun k => api_Cand_47_48.l0 k acc l l.length i lo hi) (acc ++ idxFrom l (pIn lo hi) d i) := by
  intro d
  induction d with
  | zero =>
    intro i acc hi ha
    refine Ev.step (fun k => by rw [api_Cand_47_48.l0]) ?_
    exact Ev.neg (by omega) (Ev.const (by simp [idxFrom]))
  | succ d ih =>
    intro i acc hi' ha
    refine Ev.step (fun k => by rw [api_Cand_47_48.l0]) ?_
    refine Ev.pos (by omega) (Ev.pos (by omega) (Ev.pos (by omega) ?_))
    simp only [rd37]
    have e : choose_Select_1.f (l.getD i z37).f0 (l.getD i z37).f1 (l.getD i z37).f2 (l.getD i z37).f3 (l.getD i z37).f4 lo hi = some (pIn lo hi (l.getD i z37)) := by
      unfold choose_Select_1.f pIn
      by_cases h : (l.getD i z37).f1 ≥ lo
      · rw [if_pos h, decide_eq_true h, Bool.true_and]
      · rw [if_neg h, decide_eq_false h, Bool.false_and]
    rw [e]
    refine Ev.some_bind ?_
    unfold idxFrom
    rw [wrap_nat (by omega)]
    by_cases h : pIn lo hi (l.getD i z37) = true
    · rw [if_pos h]
      refine Ev.pos h (Ev.pos (by omega) ?_)
      have := ih (i + 1) (acc ++ [(i : Int)]) (by omega) (by simp; omega)
      simpa using this
    · rw [if_neg h]
      exact Ev.neg h (ih (i + 1) acc (by omega) (by omega))
theorem impl_in (l : List S37) (hn : l.length ≤ 100) (lo hi : Int) : Ev (fun k => api_Cand_47_48.f k l lo hi) (idx l (pIn lo hi)) := where48 l hn lo hi l.length 0 [] (by omega) (by simp)

/-! ### Counts -/
def holds (s : S29) (t : Int) : Bool := decide (s.f0 ≤ t) && decide (t ≤ s.f1)
def cnt (v : List S29) (t : Int) : Nat := v.countP (fun s => holds s t)
def span (c : S37) : S29 := ⟨c.f1 - c.f2, c.f1 + c.f2⟩
def spans (l : List S37) : List S29 := l.map span
/-- What a hull is: the first and the last instant with at least 'need' intervals; none if there is no such instant. -/
def HullSpec (v : List S29) (need : Int) (lo hi : Int) (ok : Bool) : Prop :=
  (ok = true ∧ 1 ≤ need ∧ need ≤ cnt v lo ∧ need ≤ cnt v hi ∧ ∀ t, need ≤ cnt v t → lo ≤ t ∧ t ≤ hi) ∨ (ok = false ∧ lo = 0 ∧ hi = 0 ∧ (need < 1 ∨ ∀ t, (cnt v t : Int) < need))
theorem HullSpec.uniq {v : List S29} {need a b a' b' : Int} {o o' : Bool} (h : HullSpec v need a b o) (h' : HullSpec v need a' b' o') : a = a' ∧ b = b' ∧ o = o' := by
  rcases h with ⟨rfl, h1, h2, h3, h4⟩ | ⟨rfl, rfl, rfl, h1⟩ <;> rcases h' with ⟨rfl, g1, g2, g3, g4⟩ | ⟨rfl, rfl, rfl, g1⟩
  · have x1 := h4 _ g2; have x2 := h4 _ g3; have x3 := g4 _ h2; have x4 := g4 _ h3
    exact ⟨by omega, by omega, rfl⟩
  · rcases g1 with g1 | g1
    · omega
    · have := g1 a; omega
  · rcases h1 with h1 | h1
    · omega
    · have := h1 a'; omega
  · exact ⟨rfl, rfl, rfl⟩

theorem cnt_mono {v : List S29} {t u : Int} (h : ∀ s ∈ v, holds s t = true → holds s u = true) : cnt v t ≤ cnt v u := List.countP_mono_left h
theorem max_f0 : ∀ (v : List S29), v ≠ [] → ∃ s ∈ v, ∀ x ∈ v, x.f0 ≤ s.f0
  | [], h => absurd rfl h
  | [a], _ => ⟨a, by simp, by simp⟩
  | a :: b :: r, _ => by
    obtain ⟨s, hs, hm⟩ := max_f0 (b :: r) (by simp)
    by_cases h : s.f0 ≤ a.f0
    · exact ⟨a, by simp, fun x hx => by
        rcases List.mem_cons.1 hx with rfl | hx
        · exact Int.le_refl _
        · exact Int.le_trans (hm x hx) h⟩
    · exact ⟨s, List.mem_cons_of_mem _ hs, fun x hx => by
        rcases List.mem_cons.1 hx with rfl | hx
        · omega
        · exact hm x hx⟩
theorem min_f1 : ∀ (v : List S29), v ≠ [] → ∃ s ∈ v, ∀ x ∈ v, s.f1 ≤ x.f1
  | [], h => absurd rfl h
  | [a], _ => ⟨a, by simp, by simp⟩
  | a :: b :: r, _ => by
    obtain ⟨s, hs, hm⟩ := min_f1 (b :: r) (by simp)
    by_cases h : a.f1 ≤ s.f1
    · exact ⟨a, by simp, fun x hx => by
        rcases List.mem_cons.1 hx with rfl | hx
        · exact Int.le_refl _
        · exact Int.le_trans h (hm x hx)⟩
    · exact ⟨s, List.mem_cons_of_mem _ hs, fun x hx => by
        rcases List.mem_cons.1 hx with rfl | hx
        · omega
        · exact hm x hx⟩
theorem holds_iff {s : S29} {t : Int} : holds s t = true ↔ s.f0 ≤ t ∧ t ≤ s.f1 := by simp [holds]
/-- The last begin at or ahead of an instant has at least its count; the first end behind it, too. -/
theorem cnt_begin {v : List S29} {t : Int} (h : 1 ≤ cnt v t) : ∃ s ∈ v, s.f0 ≤ t ∧ cnt v t ≤ cnt v s.f0 := by
  have hne : v.filter (fun s => holds s t) ≠ [] := by
    intro e
    rw [cnt, List.countP_eq_length_filter, e] at h
    simp at h
  obtain ⟨s, hs, hm⟩ := max_f0 _ hne
  rw [List.mem_filter] at hs
  refine ⟨s, hs.1, (holds_iff.1 hs.2).1, cnt_mono fun x hx hx2 => ?_⟩
  have := hm x (List.mem_filter.2 ⟨hx, hx2⟩)
  have h1 := holds_iff.1 hx2
  have h2 := holds_iff.1 hs.2
  exact holds_iff.2 ⟨this, by omega⟩
theorem cnt_end {v : List S29} {t : Int} (h : 1 ≤ cnt v t) : ∃ s ∈ v, t ≤ s.f1 ∧ cnt v t ≤ cnt v s.f1 := by
  have hne : v.filter (fun s => holds s t) ≠ [] := by
    intro e
    rw [cnt, List.countP_eq_length_filter, e] at h
    simp at h
  obtain ⟨s, hs, hm⟩ := min_f1 _ hne
  rw [List.mem_filter] at hs
  refine ⟨s, hs.1, (holds_iff.1 hs.2).2, cnt_mono fun x hx hx2 => ?_⟩
  have := hm x (List.mem_filter.2 ⟨hx, hx2⟩)
  have h1 := holds_iff.1 hx2
  have h2 := holds_iff.1 hs.2
  exact holds_iff.2 ⟨by omega, this⟩

end Go.Proofs.Ytlfilhplklifjaa.PA

/- The program's runs and its hull. -/
namespace Go.Proofs.Ytlfilhplklifjaa.PA
open Go.RowKit Go.Proofs.Ytlfilhplklifjaa.X Go.Proofs.YtlfilhplklifjaaW.PrintWords Go.Proofs.YtlfilhplklifjaaW.PrintLast

/-! ### Valid intervals -/
def OkI (s : S29) : Prop := s.f0 ≤ s.f1 ∧ -8000000000000000000 ≤ s.f0 ∧ s.f1 ≤ 8000000000000000000
instance (s : S29) : Decidable (OkI s) := by unfold OkI; infer_instance
def valid (v : List S29) : List S29 := if (v.length : Int) > 48 then [] else v.filter (fun s => decide (OkI s))
theorem drift_check (s : S29) : drift_Check.f s.f0 s.f1 = some (if OkI s then 0 else 3) := by
  unfold drift_Check.f
  have nk : ∀ {p : Prop}, p → (OkI s → ¬ p) → ¬ OkI s := fun h h2 h3 => h2 h3 h
  by_cases h1 : s.f0 > s.f1
  · rw [if_pos h1, if_neg (nk h1 fun h => by unfold OkI at h; omega)]
  · rw [if_neg h1]
    by_cases h2 : s.f0 < -8000000000000000000
    · rw [if_pos h2, if_neg (nk h2 fun h => by unfold OkI at h; omega)]
    · rw [if_neg h2]
      by_cases h3 : s.f1 > 8000000000000000000
      · rw [if_pos h3, if_neg (nk h3 fun h => by unfold OkI at h; omega)]
      · rw [if_neg h3, if_pos (show OkI s by unfold OkI; omega)]
theorem valid_from (v : List S29) (hn : v.length ≤ 48) : ∀ d i (acc : List S29), i + d = v.length → acc.length ≤ i → Ev (fun k => interval_valid.l0 k acc v v.length i) (acc ++ (v.drop i).filter (fun s => decide (OkI s))) := by
  intro d
  induction d with
  | zero =>
    intro i acc hi ha
    refine Ev.step (fun k => by rw [interval_valid.l0]) ?_
    refine Ev.neg (by omega) (Ev.const ?_)
    rw [List.drop_eq_nil_of_le (by omega)]
    simp
  | succ d ih =>
    intro i acc hi ha
    have hlt : i < v.length := by omega
    have hg : v.getD i z29 = v[i] := by simp [List.getD, hlt]
    refine Ev.step (fun k => by rw [interval_valid.l0]) ?_
    refine Ev.pos (by omega) (Ev.pos (by omega) (Ev.pos (by omega) ?_))
    simp only [rd29]
    rw [drift_check, hg]
    refine Ev.some_bind ?_
    have ew : wrap64 ((i : Int) + 1) = ((i + 1 : Nat) : Int) := wrap_nat (by omega)
    rw [ew, List.drop_eq_getElem_cons hlt]
    by_cases h : OkI v[i]
    · rw [if_pos h, List.filter_cons_of_pos (by simpa using h)]
      refine Ev.pos rfl (Ev.pos (by omega) ?_)
      have := ih (i + 1) (acc ++ [v[i]]) (by omega) (by simp; omega)
      simpa using this
    · rw [if_neg h, List.filter_cons_of_neg (by simpa using h)]
      exact Ev.neg (by omega) (ih (i + 1) acc (by omega) (by omega))
theorem impl_valid (v : List S29) : Ev (fun k => interval_valid.f k v) (valid v) := by
  unfold interval_valid.f valid
  by_cases h : (v.length : Int) > 48
  · rw [if_pos h]; exact Ev.pos h (Ev.const rfl)
  · rw [if_neg h]
    refine Ev.neg h ?_
    have := valid_from v (by omega) v.length 0 [] (by omega) (by simp)
    simpa using this
theorem valid_len (v : List S29) : (valid v).length ≤ 48 := by
  unfold valid
  split
  · simp
  · exact Nat.le_trans (List.length_filter_le _ _) (by omega)
theorem valid_ok {v : List S29} {s : S29} (h : s ∈ valid v) : OkI s := by
  unfold valid at h
  split at h
  · simp at h
  · simpa using (List.mem_filter.1 h).2

/-! ### Changes -/
def changes (v : List S29) : List S110 := v.flatMap (fun s => [⟨s.f0, 1⟩, ⟨s.f1 + 1, -1⟩])
theorem changes_len (v : List S29) : (changes v).length = 2 * v.length := by
  unfold changes
  induction v with
  | nil => rfl
  | cons a r ih => simp only [List.flatMap_cons, List.length_append, List.length_cons, List.length_nil, ih]; omega
/-- What the changes up to an instant make together. -/
def sumLe (cs : List S110) (t : Int) : Int := (cs.map (fun x => if x.f0 ≤ t then x.f1 else 0)).sum
def total (cs : List S110) : Int := (cs.map (fun x => x.f1)).sum
theorem sumLe_changes (v : List S29) (h : ∀ s ∈ v, s.f0 ≤ s.f1) (t : Int) : sumLe (changes v) t = cnt v t := by
  induction v with
  | nil => rfl
  | cons a r ih =>
    have ih := ih (fun s hs => h s (List.mem_cons_of_mem _ hs))
    have ha := h a (by simp)
    have e1 : sumLe (changes (a :: r)) t = (if a.f0 ≤ t then 1 else 0) + ((if a.f1 + 1 ≤ t then -1 else 0) + sumLe (changes r) t) := by
      simp [sumLe, changes]
    have e2 : cnt (a :: r) t = cnt r t + (if holds a t = true then 1 else 0) := by simp [cnt, List.countP_cons]
    rw [e1, e2, ih]
    by_cases h1 : a.f0 ≤ t <;> by_cases h2 : a.f1 + 1 ≤ t
    · have : ¬ holds a t = true := fun hh => by have := holds_iff.1 hh; omega
      simp [h1, h2, this]; omega
    · have : holds a t = true := holds_iff.2 (by omega)
      simp [h1, h2, this]; omega
    · omega
    · have : ¬ holds a t = true := fun hh => by have := holds_iff.1 hh; omega
      simp [h1, h2, this]
theorem total_changes (v : List S29) : total (changes v) = 0 := by
  induction v with
  | nil => rfl
  | cons a r ih =>
    have : total (changes (a :: r)) = 1 + (-1 + total (changes r)) := by simp [total, changes]
    omega
theorem sum_perm {l l' : List Int} (h : l.Perm l') : l.sum = l'.sum := by
  induction h with
  | nil => rfl
  | cons x _ ih => simp [ih]
  | swap x y l => simp only [List.sum_cons]; omega
  | trans _ _ ih1 ih2 => exact ih1.trans ih2
theorem sumLe_perm {cs cs' : List S110} (h : cs.Perm cs') (t : Int) : sumLe cs t = sumLe cs' t := sum_perm (h.map _)
theorem total_perm {cs cs' : List S110} (h : cs.Perm cs') : total cs = total cs' := sum_perm (h.map _)

theorem runs_from (v : List S29) (hn : v.length ≤ 48) (hok : ∀ s ∈ v, OkI s) (r : List S88)
    (hr : Ev (fun k => (interval_change_82_83.f (changes v)).bind fun t => interval_runs.l1 k t [] 0 t ((changes v).length : Int) 0) r) :
    ∀ d i (acc : List S110), i + d = v.length → acc = changes (v.take i) → Ev (fun k => interval_runs.l0 k acc v v.length i) r := by
  intro d
  induction d with
  | zero =>
    intro i acc hi ha
    refine Ev.step (fun k => by rw [interval_runs.l0]) ?_
    refine Ev.neg (by omega) ?_
    rw [List.take_of_length_le (by omega)] at ha
    subst ha
    exact hr
  | succ d ih =>
    intro i acc hi ha
    have hlt : i < v.length := by omega
    have hg : v.getD i z29 = v[i] := by simp [List.getD, hlt]
    obtain ⟨_, h2, h3⟩ := hok v[i] (List.getElem_mem hlt)
    refine Ev.step (fun k => by rw [interval_runs.l0]) ?_
    refine Ev.pos (by omega) (Ev.pos (by omega) (Ev.pos (by omega) (Ev.some_bind ?_)))
    simp only [rd29]
    have ew : wrap64 ((i : Int) + 1) = ((i + 1 : Nat) : Int) := wrap_nat (by omega)
    have el : acc.length = 2 * i := by rw [ha, changes_len, List.length_take]; omega
    rw [hg, ew, wrap_id (x := v[i].f1 + 1) (by have := hok v[i] (List.getElem_mem hlt); unfold OkI at this; omega) (by omega)]
    refine Ev.pos (by simp [el]; omega) ?_
    refine ih (i + 1) _ (by omega) ?_
    rw [ha, List.take_succ_eq_append_getElem hlt]
    unfold changes
    rw [List.flatMap_append]
    rfl

/-! ### Runs -/
def runsOf : Int → List S110 → List S88
  | _, [] => []
  | _, [_] => []
  | c, x :: y :: rest => if y.f0 > x.f0 then ⟨x.f0, y.f0 - 1, c + x.f1⟩ :: runsOf (c + x.f1) (y :: rest) else runsOf (c + x.f1) (y :: rest)
theorem runsOf_len : ∀ (cs : List S110) (c : Int), (runsOf c cs).length ≤ cs.length
  | [], _ => by simp [runsOf]
  | [_], _ => by simp [runsOf]
  | x :: y :: rest, c => by
    have := runsOf_len (y :: rest) (c + x.f1)
    unfold runsOf
    split
    · simp only [List.length_cons] at this ⊢; omega
    · simp only [List.length_cons] at this ⊢; omega
/-- Small changes at small instants. -/
def Small (cs : List S110) : Prop := ∀ x ∈ cs, -1 ≤ x.f1 ∧ x.f1 ≤ 1 ∧ -8000000000000000000 ≤ x.f0 ∧ x.f0 ≤ 8000000000000000001
theorem runs_l1 (cs : List S110) (hn : cs.length ≤ 96) (hs : Small cs) : ∀ d i (acc : List S88) (c : Int), i + d = cs.length → acc.length ≤ i → -(i : Int) ≤ c → c ≤ i →
    Ev (fun k => interval_runs.l1 k cs acc c cs cs.length i) (acc ++ runsOf c (cs.drop i)) := by
  intro d
  induction d with
  | zero =>
    intro i acc c hi ha _ _
    refine Ev.step (fun k => by rw [interval_runs.l1]) ?_
    refine Ev.neg (by omega) (Ev.const ?_)
    rw [List.drop_eq_nil_of_le (by omega)]
    simp [runsOf]
  | succ d ih =>
    intro i acc c hi ha hc1 hc2
    have hlt : i < cs.length := by omega
    have hg : cs.getD i z110 = cs[i] := by simp [List.getD, hlt]
    obtain ⟨s1, s2, s3, s4⟩ := hs cs[i] (List.getElem_mem hlt)
    refine Ev.step (fun k => by rw [interval_runs.l1]) ?_
    have ew : wrap64 ((i : Int) + 1) = ((i + 1 : Nat) : Int) := wrap_nat (by omega)
    have ec : wrap64 (c + cs[i].f1) = c + cs[i].f1 := wrap_id (by omega) (by omega)
    refine Ev.pos (by omega) (Ev.pos (by omega) (Ev.pos (by omega) ?_))
    rw [ew]
    simp only [rd110]
    rw [hg, ec]
    rcases Nat.lt_or_ge (i + 1) cs.length with h1 | h1
    · have hg1 : cs.getD (i + 1) z110 = cs[i + 1] := by simp [List.getD, h1]
      obtain ⟨t1, t2, t3, t4⟩ := hs cs[i + 1] (List.getElem_mem h1)
      rw [hg1]
      refine Ev.pos (by omega) (Ev.pos (by omega) ?_)
      rw [List.drop_eq_getElem_cons hlt, List.drop_eq_getElem_cons h1]
      unfold runsOf
      by_cases hgt : cs[i + 1].f0 > cs[i].f0
      · rw [if_pos hgt]
        refine Ev.pos hgt (Ev.pos (by omega) ?_)
        rw [wrap_id (x := cs[i + 1].f0 - 1) (by omega) (by omega)]
        have := ih (i + 1) (acc ++ [⟨cs[i].f0, cs[i + 1].f0 - 1, c + cs[i].f1⟩]) (c + cs[i].f1) (by omega) (by simp; omega) (by omega) (by omega)
        rw [List.drop_eq_getElem_cons h1] at this
        simpa using this
      · rw [if_neg hgt]
        refine Ev.neg hgt ?_
        have := ih (i + 1) acc (c + cs[i].f1) (by omega) (by omega) (by omega) (by omega)
        rw [List.drop_eq_getElem_cons h1] at this
        exact this
    · refine Ev.neg (by omega) ?_
      have := ih (i + 1) acc (c + cs[i].f1) (by omega) (by omega) (by omega) (by omega)
      rw [List.drop_eq_getElem_cons hlt, List.drop_eq_nil_of_le (by omega)]
      rw [List.drop_eq_nil_of_le (by omega)] at this
      simpa [runsOf] using this

def sorted (v : List S29) : List S110 := sortChange (changes v)
theorem small_changes {v : List S29} (hok : ∀ s ∈ v, OkI s) : Small (changes v) := by
  intro x hx
  obtain ⟨s, hs, hx⟩ := List.mem_flatMap.1 hx
  obtain ⟨h1, h2, h3⟩ := hok s hs
  simp only [List.mem_cons, List.not_mem_nil, or_false] at hx
  rcases hx with rfl | rfl
  · exact ⟨by show (-1 : Int) ≤ 1; omega, by show (1 : Int) ≤ 1; omega, h2, by show s.f0 ≤ _; omega⟩
  · exact ⟨by show (-1 : Int) ≤ -1; omega, by show (-1 : Int) ≤ 1; omega, by show _ ≤ s.f1 + 1; omega, by show s.f1 + 1 ≤ _; omega⟩
theorem sorted_perm (v : List S29) : (sorted v).Perm (changes v) := (sortChange_spec _).2.1
theorem sorted_sorted (v : List S29) : (sorted v).Pairwise (fun x y => x.f0 ≤ y.f0) := by
  have h := (sortChange_spec (changes v)).2.2
  have hsz := (sortChange_spec (changes v)).1
  rw [List.pairwise_iff_getElem]
  intro i j hi hj hij
  have hj' : j < (pdqChange (changes v)).size := by simpa [sorted, sortChange] using hj
  have hi' : i < (pdqChange (changes v)).size := by omega
  have := h i j (Nat.zero_le _) hij (by omega)
  rw [lt110] at this
  have e1 : (pdqChange (changes v))[i]! = (sorted v)[i] := by
    rw [getElem!_pos _ i hi']; simp [sorted, sortChange]
  have e2 : (pdqChange (changes v))[j]! = (sorted v)[j] := by
    rw [getElem!_pos _ j hj']; simp [sorted, sortChange]
  rw [e1, e2] at this
  simp at this
  exact this
def runs (v : List S29) : List S88 := runsOf 0 (sorted (valid v))
theorem impl_runs (v : List S29) : Ev (fun k => interval_runs.f k v) (runs v) := by
  unfold interval_runs.f
  refine Ev.bind' _ (impl_valid v) ?_
  have hl := valid_len v
  have hs := sorted_perm (valid v)
  have hsm : Small (sorted (valid v)) := fun x hx => small_changes (fun s hs => valid_ok hs) x (hs.mem_iff.1 hx)
  have hlen : (sorted (valid v)).length = (changes (valid v)).length := hs.length_eq
  have hl2 : (sorted (valid v)).length ≤ 96 := by rw [hlen, changes_len]; omega
  refine runs_from (valid v) hl (fun s hs => valid_ok hs) _ ?_ (valid v).length 0 [] (by omega) (by simp [changes])
  have ef : interval_change_82_83.f (changes (valid v)) = some (sorted (valid v)) := by
    unfold interval_change_82_83.f
    rw [if_pos (by rw [← hlen]; omega)]
    rfl
  rw [ef]
  refine Ev.some_bind ?_
  rw [← hlen]
  have := runs_l1 (sorted (valid v)) hl2 hsm (sorted (valid v)).length 0 [] 0 (by omega) (by simp) (by simp) (by simp)
  simpa [runs] using this

/-! ### What the runs tell -/
theorem sumLe_cons (x : S110) (cs : List S110) (t : Int) : sumLe (x :: cs) t = (if x.f0 ≤ t then x.f1 else 0) + sumLe cs t := by simp [sumLe]
theorem sumLe_none {cs : List S110} {t : Int} (h : ∀ x ∈ cs, t < x.f0) : sumLe cs t = 0 := by
  induction cs with
  | nil => rfl
  | cons a r ih =>
    rw [sumLe_cons, ih (fun x hx => h x (List.mem_cons_of_mem _ hx)), if_neg (by have := h a (by simp); omega)]
    rfl
theorem sumLe_all {cs : List S110} {t : Int} (h : ∀ x ∈ cs, x.f0 ≤ t) : sumLe cs t = total cs := by
  induction cs with
  | nil => rfl
  | cons a r ih =>
    rw [sumLe_cons, ih (fun x hx => h x (List.mem_cons_of_mem _ hx)), if_pos (h a (by simp))]
    simp [total]
/-- Within a run the count stands; the runs follow one another; what is between the first change and the last one lies in one. -/
theorem runsOf_spec : ∀ (cs : List S110) (c : Int), cs.Pairwise (fun x y => x.f0 ≤ y.f0) →
    (∀ r ∈ runsOf c cs, r.f0 ≤ r.f1 ∧ (∀ t, r.f0 ≤ t → t ≤ r.f1 → c + sumLe cs t = r.f2) ∧ (∀ x ∈ cs.head?, x.f0 ≤ r.f0)) ∧
    (runsOf c cs).Pairwise (fun r q => r.f1 < q.f0) ∧
    (∀ t, (∃ x ∈ cs, x.f0 ≤ t) → (∃ x ∈ cs, t < x.f0) → ∃ r ∈ runsOf c cs, r.f0 ≤ t ∧ t ≤ r.f1)
  | [], c, _ => ⟨by simp [runsOf], by simp [runsOf], by simp⟩
  | [x], c, _ => ⟨by simp [runsOf], by simp [runsOf], fun t ⟨a, ha, h1⟩ ⟨b, hb, h2⟩ => by
      simp only [List.mem_cons, List.not_mem_nil, or_false] at ha hb
      subst ha; subst hb; omega⟩
  | x :: y :: rest, c, hp => by
    obtain ⟨hx, hp'⟩ := List.pairwise_cons.1 hp
    obtain ⟨i1, i2, i3⟩ := runsOf_spec (y :: rest) (c + x.f1) hp'
    have hxy := hx y (by simp)
    have later : ∀ t, x.f0 ≤ t → c + sumLe (x :: y :: rest) t = c + x.f1 + sumLe (y :: rest) t := fun t ht => by
      rw [sumLe_cons, if_pos ht]; omega
    have hy : ∀ z ∈ y :: rest, y.f0 ≤ z.f0 := fun z hz => by
      rcases List.mem_cons.1 hz with rfl | hz
      · exact Int.le_refl _
      · exact (List.pairwise_cons.1 hp').1 z hz
    have tail : ∀ r ∈ runsOf (c + x.f1) (y :: rest), r.f0 ≤ r.f1 ∧ (∀ t, r.f0 ≤ t → t ≤ r.f1 → c + sumLe (x :: y :: rest) t = r.f2) ∧ y.f0 ≤ r.f0 := fun r hr => by
      obtain ⟨a, b, d⟩ := i1 r hr
      have d' := d y rfl
      exact ⟨a, fun t h1 h2 => by rw [later t (by omega)]; exact b t h1 h2, d'⟩
    have cover : ∀ t, y.f0 ≤ t → (∃ z ∈ x :: y :: rest, t < z.f0) → ∃ r ∈ runsOf (c + x.f1) (y :: rest), r.f0 ≤ t ∧ t ≤ r.f1 := fun t ht ⟨z, hz, h2⟩ => by
      refine i3 t ⟨y, by simp, ht⟩ ⟨z, ?_, h2⟩
      rcases List.mem_cons.1 hz with rfl | hz
      · omega
      · exact hz
    unfold runsOf
    by_cases hgt : y.f0 > x.f0
    · rw [if_pos hgt]
      refine ⟨fun r hr => ?_, ?_, fun t ⟨a, ha, h1⟩ h2 => ?_⟩
      · rcases List.mem_cons.1 hr with rfl | hr
        · refine ⟨by show x.f0 ≤ y.f0 - 1; omega, fun t h1 h2 => ?_, fun z hz => by simp at hz; subst hz; exact Int.le_refl _⟩
          have h2' : t ≤ y.f0 - 1 := h2
          rw [later t h1, sumLe_none (fun z hz => by have := hy z hz; omega)]
          show c + x.f1 + 0 = c + x.f1
          omega
        · obtain ⟨a, b, d⟩ := tail r hr
          exact ⟨a, b, fun z hz => by simp at hz; subst hz; omega⟩
      · refine List.pairwise_cons.2 ⟨fun r hr => ?_, i2⟩
        have := (tail r hr).2.2
        show y.f0 - 1 < r.f0
        omega
      · by_cases hy2 : y.f0 ≤ t
        · obtain ⟨r, hr, h⟩ := cover t hy2 h2
          exact ⟨r, List.mem_cons_of_mem _ hr, h⟩
        · refine ⟨_, List.mem_cons_self, ?_, by show t ≤ y.f0 - 1; omega⟩
          show x.f0 ≤ t
          rcases List.mem_cons.1 ha with rfl | ha
          · exact h1
          · have := hx a ha; omega
    · rw [if_neg hgt]
      refine ⟨fun r hr => ?_, i2, fun t ⟨a, ha, h1⟩ h2 => ?_⟩
      · obtain ⟨a, b, d⟩ := tail r hr
        exact ⟨a, b, fun z hz => by simp at hz; subst hz; omega⟩
      · refine cover t ?_ h2
        rcases List.mem_cons.1 ha with rfl | ha
        · omega
        · exact Int.le_trans (hy a ha) h1

/-- The runs of a list of intervals: pieces in which the count stands, one behind the other; every instant that an interval holds lies in one. -/
theorem runs_spec (v : List S29) :
    (∀ r ∈ runs v, r.f0 ≤ r.f1 ∧ ∀ t, r.f0 ≤ t → t ≤ r.f1 → (cnt (valid v) t : Int) = r.f2) ∧ (runs v).Pairwise (fun r q => r.f1 < q.f0) ∧ ∀ t, 1 ≤ cnt (valid v) t → ∃ r ∈ runs v, r.f0 ≤ t ∧ t ≤ r.f1 := by
  have hs : ∀ t, sumLe (sorted (valid v)) t = cnt (valid v) t := fun t => by
    rw [sumLe_perm (sorted_perm _), sumLe_changes _ (fun s hs => (valid_ok hs).1)]
  obtain ⟨h1, h2, h3⟩ := runsOf_spec (sorted (valid v)) 0 (sorted_sorted _)
  refine ⟨fun r hr => ⟨(h1 r hr).1, fun t ha hb => ?_⟩, h2, fun t ht => h3 t ?_ ?_⟩
  · rw [← hs t]
    have := (h1 r hr).2.1 t ha hb
    omega
  · refine Classical.byContradiction fun hc => ?_
    have : sumLe (sorted (valid v)) t = 0 := sumLe_none fun x hx => Int.not_le.1 fun hle => hc ⟨x, hx, hle⟩
    rw [hs] at this
    omega
  · refine Classical.byContradiction fun hc => ?_
    have : sumLe (sorted (valid v)) t = total (sorted (valid v)) := sumLe_all fun x hx => Int.not_lt.1 fun hlt => hc ⟨x, hx, hlt⟩
    rw [hs, total_perm (sorted_perm _), total_changes] at this
    omega
theorem runs_len (v : List S29) : (runs v).length ≤ 96 := by
  have h := runsOf_len (sorted (valid v)) 0
  rw [(sorted_perm _).length_eq, changes_len] at h
  have := valid_len v
  unfold runs
  omega

/-! ### The hull -/
theorem index_from (R : List S88) (hn : R.length ≤ 96) (need : Int) : ∀ d i, i + d = R.length → (∀ j, j < i → (R.getD j z88).f2 < need) →
    (∃ j : Nat, j < R.length ∧ Ev (fun k => interval_run_64_63.l0 k R R.length i need) (j : Int) ∧ need ≤ (R.getD j z88).f2 ∧ ∀ q, q < j → (R.getD q z88).f2 < need) ∨
    (Ev (fun k => interval_run_64_63.l0 k R R.length i need) (-1) ∧ ∀ q, q < R.length → (R.getD q z88).f2 < need) := by
  intro d
  induction d with
  | zero =>
    intro i hi hm
    refine .inr ⟨?_, fun q hq => hm q (by omega)⟩
    refine Ev.step (fun k => by rw [interval_run_64_63.l0]) ?_
    exact Ev.neg (by omega) (Ev.const rfl)
  | succ d ih =>
    intro i hi hm
    have st : ∀ r, Ev (fun k => if decide ((R.getD i z88).f2 ≥ need) = true then some (i : Int) else interval_run_64_63.l0 k R R.length ((i + 1 : Nat) : Int) need) r → Ev (fun k => interval_run_64_63.l0 k R R.length i need) r := by
      intro r hr
      refine Ev.step (fun k => by rw [interval_run_64_63.l0]) ?_
      refine Ev.pos (by omega) (Ev.pos (by omega) (Ev.pos (by omega) ?_))
      simp only [rd88, interval_Hull_1.f]
      refine Ev.some_bind ?_
      rw [wrap_nat (by omega)]
      exact hr
    by_cases h : (R.getD i z88).f2 ≥ need
    · exact .inl ⟨i, by omega, st _ (Ev.pos (by simpa using h) (Ev.const rfl)), h, hm⟩
    · have hm' : ∀ j, j < i + 1 → (R.getD j z88).f2 < need := fun j hj => by
        rcases Nat.lt_or_ge j i with hji | hji
        · exact hm j hji
        · have e : j = i := by omega
          subst e
          exact Int.not_le.1 h
      rcases ih (i + 1) (by omega) hm' with ⟨j, h1, h2, h3, h4⟩ | ⟨h1, h2⟩
      · exact .inl ⟨j, h1, st _ (Ev.neg (by simpa using h) h2), h3, h4⟩
      · exact .inr ⟨st _ (Ev.neg (by simpa using h) h1), h2⟩
theorem impl_index (R : List S88) (hn : R.length ≤ 96) (need : Int) :
    (∃ j : Nat, j < R.length ∧ Ev (fun k => interval_run_64_63.f k R need) (j : Int) ∧ need ≤ (R.getD j z88).f2 ∧ ∀ q, q < j → (R.getD q z88).f2 < need) ∨
    (Ev (fun k => interval_run_64_63.f k R need) (-1) ∧ ∀ q, q < R.length → (R.getD q z88).f2 < need) :=
  index_from R hn need R.length 0 (by omega) (fun j hj => by omega)
theorem getD_mem {R : List S88} {j : Nat} (h : j < R.length) : R.getD j z88 ∈ R := by simp [List.getD, h]
theorem mem_getD {R : List S88} {r : S88} (h : r ∈ R) : ∃ j, j < R.length ∧ R.getD j z88 = r := by
  obtain ⟨j, hj, rfl⟩ := List.getElem_of_mem h
  exact ⟨j, hj, by simp [List.getD, hj]⟩

theorem impl_hull (v : List S29) (need : Int) : ∃ lo hi ok, Ev (fun k => interval_Hull.f k v need) (lo, hi, ok) ∧ HullSpec (valid v) need lo hi ok := by
  obtain ⟨s1, s2, s3⟩ := runs_spec v
  have hl := runs_len v
  have ix := impl_index (runs v) hl need
  have st : ∀ (i : Int) r, Ev (fun k => interval_run_64_63.f k (runs v) need) i → Ev (fun k => if need < 1 then (interval_Hull.j0 k (runs v) i true need) else (interval_Hull.j0 k (runs v) i (decide (i < 0)) need)) r → Ev (fun k => interval_Hull.f k v need) r := fun i r h1 h2 => by
    unfold interval_Hull.f
    exact Ev.bind' _ (impl_runs v) (Ev.bind' _ h1 h2)
  by_cases hneed : need < 1
  · have e0 : ∀ i : Int, Ev (fun k => interval_Hull.j0 k (runs v) i true need) (0, 0, false) := fun i => by
      refine Ev.step (fun k => by rw [interval_Hull.j0]) ?_
      exact Ev.pos rfl (Ev.const rfl)
    refine ⟨0, 0, false, ?_, .inr ⟨rfl, rfl, rfl, .inl hneed⟩⟩
    rcases ix with ⟨j, _, h2, _⟩ | ⟨h1, _⟩
    · exact st _ _ h2 (Ev.pos hneed (e0 _))
    · exact st _ _ h1 (Ev.pos hneed (e0 _))
  · rcases ix with ⟨j, hj, h2, h3, h4⟩ | ⟨h1, h2⟩
    · have ir := impl_index (runs v).reverse (by simpa using hl) need
      have er : interval_run_65.f (runs v) = some (runs v).reverse := by
        unfold interval_run_65.f
        rw [if_pos (by omega)]
      have rev : ∀ q, q < (runs v).length → (runs v).reverse.getD q z88 = (runs v).getD ((runs v).length - 1 - q) z88 := fun q hq => by
        simp [List.getD, List.getElem?_reverse hq]
      rcases ir with ⟨q, hq, g2, g3, g4⟩ | ⟨g1, g2⟩
      · have hq' : q < (runs v).length := by simpa using hq
        have hp : (runs v).length - 1 - q < (runs v).length := by omega
        rw [rev q hq'] at g3
        have ord : ∀ a b, a < b → b < (runs v).length → ((runs v).getD a z88).f1 < ((runs v).getD b z88).f0 := fun a b hab hb => by
          have ha : a < (runs v).length := by omega
          have := (List.pairwise_iff_getElem.1 s2) a b ha hb hab
          simpa [List.getD, ha, hb] using this
        refine ⟨((runs v).getD j z88).f0, ((runs v).getD ((runs v).length - 1 - q) z88).f1, true, ?_, .inl ⟨rfl, by omega, ?_, ?_, fun t ht => ?_⟩⟩
        · refine st _ _ h2 (Ev.neg hneed ?_)
          rw [decide_eq_false (by omega : ¬ (j : Int) < 0)]
          refine Ev.step (fun k => by rw [interval_Hull.j0]) ?_
          refine Ev.neg (by simp) (Ev.pos (by omega) (Ev.pos (by omega) ?_))
          rw [er]
          refine Ev.some_bind (Ev.bind' _ g2 (Ev.pos (by omega) (Ev.pos (by omega) (Ev.const ?_))))
          rw [rd88, rd88, rev q hq']
        · obtain ⟨a, b⟩ := s1 _ (getD_mem hj)
          rw [b _ (Int.le_refl _) a]; exact h3
        · obtain ⟨a, b⟩ := s1 _ (getD_mem hp)
          rw [b _ a (Int.le_refl _)]; exact g3
        · obtain ⟨r, hr, h5, h6⟩ := s3 t (by omega)
          have h7 := (s1 r hr).2 t h5 h6
          obtain ⟨m, hm, rfl⟩ := mem_getD hr
          constructor
          · rcases Nat.lt_or_ge m j with hmj | hmj
            · have := h4 m hmj; omega
            · rcases Nat.eq_or_lt_of_le hmj with e | hmj
              · rw [e]; exact h5
              · have := ord j m hmj hm
                have := (s1 _ (getD_mem hj)).1
                omega
          · rcases Nat.lt_or_ge ((runs v).length - 1 - q) m with hmq | hmq
            · have hx : (runs v).length - 1 - m < q := by omega
              have := g4 _ hx
              rw [rev _ (by omega), show (runs v).length - 1 - ((runs v).length - 1 - m) = m by omega] at this
              omega
            · rcases Nat.eq_or_lt_of_le hmq with e | hmq
              · rw [← e]; exact h6
              · have := ord m _ hmq hp
                have := (s1 _ (getD_mem hp)).1
                omega
      · exfalso
        have := g2 ((runs v).length - 1 - j) (by rw [List.length_reverse]; omega)
        rw [rev _ (by omega), show (runs v).length - 1 - ((runs v).length - 1 - j) = j by omega] at this
        omega
    · refine ⟨0, 0, false, ?_, .inr ⟨rfl, rfl, rfl, .inr fun t => ?_⟩⟩
      · refine st _ _ h1 (Ev.neg hneed ?_)
        rw [show decide ((-1 : Int) < 0) = true from rfl]
        refine Ev.step (fun k => by rw [interval_Hull.j0]) ?_
        exact Ev.pos rfl (Ev.const rfl)
      · rcases Nat.eq_zero_or_pos (cnt (valid v) t) with h0 | h0
        · omega
        · obtain ⟨r, hr, h5, h6⟩ := s3 t h0
          obtain ⟨q, hq, rfl⟩ := mem_getD hr
          have := h2 q hq
          rw [(s1 _ hr).2 t h5 h6]
          exact this
end Go.Proofs.Ytlfilhplklifjaa.PA

/- The selection, the falsetickers, the majority: both texts tell the same. -/
namespace Go.Proofs.Ytlfilhplklifjaa.PA
open Go.RowKit Go.Proofs.Ytlfilhplklifjaa.X Go.Proofs.YtlfilhplklifjaaW.PrintWords Go.Proofs.YtlfilhplklifjaaW.PrintLast

theorem eq_from (x y : List Int) (hx : x.length < 9223372036854775807) (he : x.length = y.length) : ∀ d i, i + d = x.length → Ev (fun k => slices_Equal_int_int.l0 k x y x.length i) (decide (x.drop i = y.drop i)) := by
  intro d
  induction d with
  | zero =>
    intro i hi
    refine Ev.step (fun k => by rw [slices_Equal_int_int.l0]) ?_
    refine Ev.neg (by omega) (Ev.const ?_)
    rw [List.drop_eq_nil_of_le (by omega), List.drop_eq_nil_of_le (by omega)]
    simp
  | succ d ih =>
    intro i hi
    have h1 : i < x.length := by omega
    have h2 : i < y.length := by omega
    refine Ev.step (fun k => by rw [slices_Equal_int_int.l0]) ?_
    refine Ev.pos (by omega) (Ev.pos (by omega) (Ev.pos (by omega) (Ev.pos (by omega) ?_)))
    rw [rdI, rdI, wrap_nat (by omega)]
    rw [List.drop_eq_getElem_cons h1, List.drop_eq_getElem_cons h2]
    have e1 : x.getD i 0 = x[i] := by simp [List.getD, h1]
    have e2 : y.getD i 0 = y[i] := by simp [List.getD, h2]
    rw [e1, e2]
    by_cases h : x[i] = y[i]
    · refine Ev.pos h ?_
      have e : decide (x[i] :: x.drop (i + 1) = y[i] :: y.drop (i + 1)) = decide (x.drop (i + 1) = y.drop (i + 1)) := by
        refine decide_eq_decide.2 ?_
        simp only [List.cons.injEq, h, true_and]
      rw [e]
      exact ih (i + 1) (by omega)
    · refine Ev.neg h (Ev.const ?_)
      rw [decide_eq_false fun he => h (List.cons.inj he).1]
theorem eq_ints (x y : List Int) (hx : x.length < 9223372036854775807) : Ev (fun k => slices_Equal_int_int.f k x y) (decide (x = y)) := by
  unfold slices_Equal_int_int.f
  by_cases h : (x.length : Int) = (y.length : Int)
  · refine Ev.pos h ?_
    have := eq_from x y hx (by omega) x.length 0 (by omega)
    simpa using this
  · refine Ev.neg h (Ev.const ?_)
    have : x ≠ y := fun e => h (by rw [e])
    simp [this]

theorem idxFrom_le (l : List S37) (p : S37 → Bool) : ∀ d i, (idxFrom l p d i).length ≤ d
  | 0, _ => by simp [idxFrom]
  | d + 1, i => by
    have := idxFrom_le l p d (i + 1)
    unfold idxFrom
    split
    · simp; omega
    · omega
theorem idx_le (l : List S37) (p : S37 → Bool) : (idx l p).length ≤ l.length := idxFrom_le l p l.length 0

theorem spans_ok {l : List S37} (h : ∀ c ∈ l, OkC c) : ∀ s ∈ spans l, OkI s := by
  intro s hs
  obtain ⟨c, hc, rfl⟩ := List.mem_map.1 hs
  obtain ⟨_, _, h3, h4, h5, h6, _⟩ := h c hc
  unfold OkI span
  refine ⟨?_, ?_, ?_⟩ <;> simp only <;> omega
theorem valid_spans {l : List S37} (h : ∀ c ∈ l, OkC c) (hn : l.length ≤ 12) : valid (spans l) = spans l := by
  unfold valid
  rw [if_neg (by simp [spans]; omega), List.filter_eq_self.2 fun s hs => by simpa using spans_ok h s hs]

theorem hull_ex (v : List S29) (need : Int) : ∃ r : Int × Int × Bool, Ev (fun k => interval_Hull.f k v need) r ∧ HullSpec (valid v) need r.1 r.2.1 r.2.2 := by
  obtain ⟨a, b, o, h1, h2⟩ := impl_hull v need
  exact ⟨(a, b, o), h1, h2⟩
noncomputable def hullR (v : List S29) (need : Int) : Int × Int × Bool := Classical.choose (hull_ex v need)
theorem hullR_ev (v : List S29) (need : Int) : Ev (fun k => interval_Hull.f k v need) (hullR v need) := (Classical.choose_spec (hull_ex v need)).1
theorem hullR_spec (v : List S29) (need : Int) : HullSpec (valid v) need (hullR v need).1 (hullR v need).2.1 (hullR v need).2.2 := (Classical.choose_spec (hull_ex v need)).2
/-- The selection from 'a' wrong ones on. -/
noncomputable def selFrom (l : List S37) : Nat → Nat → List Int × Int × Int × Int
  | 0, _ => ([], 0, 0, 11)
  | d + 1, a => if 2 * a < l.length then (if (hullR (spans l) ((l.length : Int) - a)).2.2 = true then
      (if (l.length : Int) - ((idx l (pIn (hullR (spans l) ((l.length : Int) - a)).1 (hullR (spans l) ((l.length : Int) - a)).2.1)).length : Int) ≤ a then (idx l (pIn (hullR (spans l) ((l.length : Int) - a)).1 (hullR (spans l) ((l.length : Int) - a)).2.1), (hullR (spans l) ((l.length : Int) - a)).1, (hullR (spans l) ((l.length : Int) - a)).2.1, 0)
       else selFrom l d (a + 1)) else selFrom l d (a + 1)) else ([], 0, 0, 11)
noncomputable def sel (l : List S37) : List Int × Int × Int × Int := if chk l = 0 then selFrom l (l.length + 1) 0 else ([], 0, 0, chk l)

theorem impl_spans (l : List S37) (hn : l.length ≤ 12) (hok : ∀ c ∈ l, OkC c) (r : List Int × Int × Int × Int) (hr : Ev (fun k => choose_Select.l1 k l (spans l) 0) r) :
    ∀ d i (acc : List S29), i + d = l.length → acc = spans (l.take i) → Ev (fun k => choose_Select.l0 k l acc l l.length i) r := by
  intro d
  induction d with
  | zero =>
    intro i acc hi ha
    refine Ev.step (fun k => by rw [choose_Select.l0]) ?_
    refine Ev.neg (by omega) ?_
    rw [List.take_of_length_le (by omega)] at ha
    subst ha
    exact hr
  | succ d ih =>
    intro i acc hi ha
    have hlt : i < l.length := by omega
    have hg : l.getD i z37 = l[i] := by simp [List.getD, hlt]
    have ho := hok l[i] (List.getElem_mem hlt)
    refine Ev.step (fun k => by rw [choose_Select.l0]) ?_
    refine Ev.pos (by omega) (Ev.pos (by omega) (Ev.pos (by omega) ?_))
    simp only [rd37, choose_span.f]
    refine Ev.some_bind ?_
    have el : acc.length = i := by rw [ha]; simp [spans]; omega
    refine Ev.pos (by omega) ?_
    obtain ⟨_, _, h3, h4, h5, h6, _⟩ := ho
    rw [hg, wrap_id (x := l[i].f1 - l[i].f2) (by omega) (by omega), wrap_id (x := l[i].f1 + l[i].f2) (by omega) (by omega), wrap_nat (by omega)]
    refine ih (i + 1) _ (by omega) ?_
    rw [ha, List.take_succ_eq_append_getElem hlt]
    unfold spans
    rw [List.map_append]
    rfl

theorem impl_sel_from (l : List S37) (hn : l.length ≤ 12) : ∀ d a, a + d = l.length + 1 → Ev (fun k => choose_Select.l1 k l (spans l) a) (selFrom l d a) := by
  intro d
  induction d with
  | zero =>
    intro a ha
    refine Ev.step (fun k => by rw [choose_Select.l1]) ?_
    refine Ev.neg ?_ (Ev.const rfl)
    rw [wrap_id (by omega) (by omega)]; omega
  | succ d ih =>
    intro a ha
    refine Ev.step (fun k => by rw [choose_Select.l1]) ?_
    rw [wrap_id (x := 2 * (a : Int)) (by omega) (by omega)]
    unfold selFrom
    by_cases h2 : 2 * a < l.length
    · rw [if_pos h2]
      refine Ev.pos (by omega) ?_
      rw [wrap_id (x := (l.length : Int) - a) (by omega) (by omega), wrap_nat (by omega)]
      refine Ev.bind' _ (hullR_ev (spans l) _) ?_
      by_cases h3 : (hullR (spans l) ((l.length : Int) - a)).2.2 = true
      · rw [if_pos h3]
        refine Ev.pos h3 (Ev.bind' _ (impl_in l (by omega) _ _) ?_)
        have hle := idx_le l (pIn (hullR (spans l) ((l.length : Int) - a)).1 (hullR (spans l) ((l.length : Int) - a)).2.1)
        rw [wrap_id (x := (l.length : Int) - _) (by omega) (by omega)]
        by_cases h4 : (l.length : Int) - ((idx l (pIn (hullR (spans l) ((l.length : Int) - a)).1 (hullR (spans l) ((l.length : Int) - a)).2.1)).length : Int) ≤ a
        · rw [if_pos h4]; exact Ev.pos h4 (Ev.const rfl)
        · rw [if_neg h4]; exact Ev.neg h4 (ih (a + 1) (by omega))
      · rw [if_neg h3]; exact Ev.neg h3 (ih (a + 1) (by omega))
    · rw [if_neg h2]
      exact Ev.neg (by omega) (Ev.const rfl)
theorem impl_select (l : List S37) : Ev (fun k => choose_Select.f k l) (sel l) := by
  unfold choose_Select.f sel
  refine Ev.bind' _ (impl_check l) ?_
  by_cases h : chk l = 0
  · rw [if_pos h]
    obtain ⟨hn, hok⟩ := chk_ok h
    exact Ev.pos h (impl_spans l hn hok _ (impl_sel_from l hn (l.length + 1) 0 (by omega)) l.length 0 [] (by omega) (by simp [spans]))
  · rw [if_neg h]; exact Ev.neg h (Ev.const rfl)
/-- What a selection is. -/
structure SelOk (l : List S37) (p : List Int) (lo hi : Int) : Prop where
  chk0 : chk l = 0
  wit : ∃ a : Nat, 2 * a < l.length ∧ HullSpec (spans l) ((l.length : Int) - a) lo hi true ∧ (l.length : Int) - (p.length : Int) ≤ a ∧ ∀ b : Nat, b < a → ∀ lo' hi', HullSpec (spans l) ((l.length : Int) - b) lo' hi' true → (b : Int) < (l.length : Int) - ((idx l (pIn lo' hi')).length : Int)
  pos : p = idx l (pIn lo hi)
def SelNone (l : List S37) : Prop := ∀ a : Nat, 2 * a < l.length → ∀ lo hi, HullSpec (spans l) ((l.length : Int) - a) lo hi true → (a : Int) < (l.length : Int) - ((idx l (pIn lo hi)).length : Int)
theorem selFrom_spec {l : List S37} (h0 : chk l = 0) : ∀ d a, a + d = l.length + 1 → (∀ b : Nat, b < a → 2 * b < l.length → ∀ lo' hi', HullSpec (spans l) ((l.length : Int) - b) lo' hi' true → (b : Int) < (l.length : Int) - ((idx l (pIn lo' hi')).length : Int)) →
    (selFrom l d a = ([], 0, 0, 11) ∧ SelNone l) ∨ ∃ p lo hi, selFrom l d a = (p, lo, hi, 0) ∧ SelOk l p lo hi := by
  obtain ⟨hn, hok⟩ := chk_ok h0
  intro d
  induction d with
  | zero => exact fun a ha hb => .inl ⟨rfl, fun b h2 => hb b (by omega) h2⟩
  | succ d ih =>
    intro a ha hb
    have hs := hullR_spec (spans l) ((l.length : Int) - a)
    rw [valid_spans hok hn] at hs
    have next : (∀ lo' hi', HullSpec (spans l) ((l.length : Int) - a) lo' hi' true → (a : Int) < (l.length : Int) - ((idx l (pIn lo' hi')).length : Int)) → ∀ b : Nat, b < a + 1 → 2 * b < l.length → ∀ lo' hi', HullSpec (spans l) ((l.length : Int) - b) lo' hi' true → (b : Int) < (l.length : Int) - ((idx l (pIn lo' hi')).length : Int) := fun hx b hba h2 => by
      rcases Nat.lt_or_ge b a with h3 | h3
      · exact hb b h3 h2
      · have e : b = a := by omega
        subst e; exact hx
    unfold selFrom
    by_cases h2 : 2 * a < l.length
    · rw [if_pos h2]
      by_cases h3 : (hullR (spans l) ((l.length : Int) - a)).2.2 = true
      · rw [if_pos h3]
        rw [h3] at hs
        by_cases h4 : (l.length : Int) - ((idx l (pIn (hullR (spans l) ((l.length : Int) - a)).1 (hullR (spans l) ((l.length : Int) - a)).2.1)).length : Int) ≤ a
        · rw [if_pos h4]
          exact .inr ⟨_, _, _, rfl, h0, ⟨a, h2, hs, h4, fun b hba => hb b hba (by omega)⟩, rfl⟩
        · rw [if_neg h4]
          refine ih (a + 1) (by omega) (next fun lo' hi' hh => ?_)
          obtain ⟨e1, e2, _⟩ := hh.uniq hs
          rw [e1, e2]; omega
      · rw [if_neg h3]
        refine ih (a + 1) (by omega) (next fun lo' hi' hh => ?_)
        exact absurd (hh.uniq hs).2.2.symm h3
    · rw [if_neg h2]
      exact .inl ⟨rfl, fun b hb2 => hb b (by omega) hb2⟩
/-- The three ends of a selection. -/
theorem sel_cases (l : List S37) : (chk l ≠ 0 ∧ sel l = ([], 0, 0, chk l)) ∨ (chk l = 0 ∧ sel l = ([], 0, 0, 11) ∧ SelNone l) ∨ ∃ p lo hi, sel l = (p, lo, hi, 0) ∧ SelOk l p lo hi := by
  unfold sel
  by_cases h : chk l = 0
  · rw [if_pos h]
    rcases selFrom_spec h (l.length + 1) 0 (by omega) (fun b hb => by omega) with ⟨h1, h2⟩ | ⟨p, lo, hi, h1, h2⟩
    · exact .inr (.inl ⟨h, h1, h2⟩)
    · exact .inr (.inr ⟨p, lo, hi, h1, h2⟩)
  · rw [if_neg h]; exact .inl ⟨h, rfl⟩

/-! ### Majority -/
end Go.Proofs.Ytlfilhplklifjaa.PA

/- More on positions, and on a check that says 0. -/
namespace Go.Proofs.Ytlfilhplklifjaa.PA
open Go.RowKit Go.Proofs.Ytlfilhplklifjaa.X Go.Proofs.YtlfilhplklifjaaW.PrintWords Go.Proofs.YtlfilhplklifjaaW.PrintLast

theorem mem_idxFrom (l : List S37) (p : S37 → Bool) (x : Int) : ∀ d i, x ∈ idxFrom l p d i ↔ ∃ j : Nat, i ≤ j ∧ j < i + d ∧ x = j ∧ p (l.getD j z37) = true
  | 0, i => by simp [idxFrom]; intro j h1 h2; omega
  | d + 1, i => by
    have ih := mem_idxFrom l p x d (i + 1)
    unfold idxFrom
    by_cases h : p (l.getD i z37) = true
    · rw [if_pos h, List.mem_cons, ih]
      constructor
      · rintro (rfl | ⟨j, h1, h2, h3, h4⟩)
        · exact ⟨i, by omega, by omega, rfl, h⟩
        · exact ⟨j, by omega, by omega, h3, h4⟩
      · rintro ⟨j, h1, h2, h3, h4⟩
        by_cases e : j = i
        · subst e; exact .inl h3
        · exact .inr ⟨j, by omega, by omega, h3, h4⟩
    · rw [if_neg h, ih]
      constructor
      · rintro ⟨j, h1, h2, h3, h4⟩
        exact ⟨j, by omega, by omega, h3, h4⟩
      · rintro ⟨j, h1, h2, h3, h4⟩
        by_cases e : j = i
        · subst e; exact absurd h4 h
        · exact ⟨j, by omega, by omega, h3, h4⟩
theorem idxFrom_congr (l m : List S37) (p q : S37 → Bool) : ∀ d i, (∀ j, i ≤ j → j < i + d → p (l.getD j z37) = q (m.getD j z37)) → idxFrom l p d i = idxFrom m q d i
  | 0, _, _ => rfl
  | d + 1, i, h => by
    have ih := idxFrom_congr l m p q d (i + 1) (fun j h1 h2 => h j (by omega) (by omega))
    unfold idxFrom
    rw [h i (by omega) (by omega), ih]

/-! ### A check that says 0 -/
theorem dupFrom_false (l : List S37) (i : Nat) : ∀ d j, dupFrom l i d j = false ↔ ∀ q, j ≤ q → q < j + d → (l.getD q z37).f0 ≠ (l.getD i z37).f0
  | 0, j => by simp [dupFrom]; intro q h1 h2; omega
  | d + 1, j => by
    have ih := dupFrom_false l i d (j + 1)
    unfold dupFrom
    by_cases h : (l.getD j z37).f0 = (l.getD i z37).f0
    · rw [if_pos h]
      constructor
      · intro hh; cases hh
      · intro hh; exact absurd h (hh j (by omega) (by omega))
    · rw [if_neg h, ih]
      constructor
      · intro hh q h1 h2
        by_cases e : q = j
        · subst e; exact h
        · exact hh q (by omega) (by omega)
      · intro hh q h1 h2
        exact hh q (by omega) (by omega)
theorem chkFrom_zero (l : List S37) : ∀ d i, i + d = l.length → (chkFrom l d i = 0 ↔ ∀ j, i ≤ j → j < l.length → OkC (l.getD j z37) ∧ ∀ q, q < j → (l.getD q z37).f0 ≠ (l.getD j z37).f0)
  | 0, i, hi => by simp [chkFrom]; intro j h1 h2; omega
  | d + 1, i, hi => by
    have ih := chkFrom_zero l d (i + 1) (by omega)
    have hd := dupFrom_false l i i 0
    unfold chkFrom
    by_cases h : OkC (l.getD i z37)
    · rw [if_pos h]
      by_cases h2 : dupFrom l i i 0 = true
      · rw [if_pos h2]
        constructor
        · intro hh; omega
        · intro hh
          have h3 := (hh i (by omega) (by omega)).2
          have h4 := hd.2 (fun q _ hq => h3 q (by omega))
          rw [h4] at h2; cases h2
      · rw [if_neg h2, ih]
        have h3 := hd.1 (by simpa using h2)
        constructor
        · intro hh j h4 h5
          by_cases e : j = i
          · subst e; exact ⟨h, fun q hq => h3 q (by omega) (by omega)⟩
          · exact hh j (by omega) h5
        · intro hh j h4 h5
          exact hh j (by omega) h5
    · rw [if_neg h]
      constructor
      · intro hh; omega
      · intro hh; exact absurd (hh i (by omega) (by omega)).1 h
/-- The check says 0 of at most twelve candidates within the limits, of different numbers. -/
theorem chk_iff (l : List S37) : chk l = 0 ↔ l.length ≤ 12 ∧ (∀ c ∈ l, OkC c) ∧ l.Pairwise (fun a b => a.f0 ≠ b.f0) := by
  unfold chk
  by_cases h : (l.length : Int) > 12
  · rw [if_pos h]
    constructor
    · intro hh; omega
    · intro hh; omega
  · rw [if_neg h, chkFrom_zero l l.length 0 (by omega)]
    have g : ∀ i (hi : i < l.length), l.getD i z37 = l[i] := fun i hi => by simp [List.getD, hi]
    constructor
    · intro hh
      refine ⟨by omega, fun c hc => ?_, List.pairwise_iff_getElem.2 fun i j hi hj hij => ?_⟩
      · obtain ⟨j, hj, rfl⟩ := List.getElem_of_mem hc
        have := (hh j (by omega) hj).1
        rwa [g j hj] at this
      · have := (hh j (by omega) hj).2 i hij
        rwa [g i hi, g j hj] at this
    · rintro ⟨_, h1, h2⟩ j _ hj
      refine ⟨by rw [g j hj]; exact h1 _ (List.getElem_mem hj), fun q hq => ?_⟩
      rw [g j hj, g q (by omega)]
      exact List.pairwise_iff_getElem.1 h2 q j (by omega) hj hq
end Go.Proofs.Ytlfilhplklifjaa.PA

/- The pure statement of ChooseShifts: shifted Offsets, and the opposite order, lead to the same selection. -/
namespace Go.Proofs.Ytlfilhplklifjaa.PureChooseShifts
open Go.RowKit Go.Proofs.Ytlfilhplklifjaa.X Go.Proofs.Ytlfilhplklifjaa.PA Go.Proofs.YtlfilhplklifjaaW.PrintWords Go.Proofs.YtlfilhplklifjaaW.PrintLast Go.Proofs.YtlfilhplklifjaaW.PrintMore
theorem wf_i16 {x : Int} (h : WFi16 x) : -32768 ≤ x ∧ x ≤ 32767 := by
  simpa [WFi16, Lit.wf, IntKind.min, IntKind.max, IntKind.signed, IntKind.bits] using h

/-! ### One selection only -/
theorem hull_congr {v v' : List S29} (h : ∀ t, cnt v t = cnt v' t) {need lo hi : Int} {ok : Bool} (hs : HullSpec v need lo hi ok) : HullSpec v' need lo hi ok := by
  rcases hs with ⟨h0, h1, h2, h3, h4⟩ | ⟨h0, h1, h2, h3⟩
  · exact .inl ⟨h0, h1, by rw [← h]; exact h2, by rw [← h]; exact h3, fun t ht => h4 t (by rw [h]; exact ht)⟩
  · exact .inr ⟨h0, h1, h2, h3.imp id fun h4 t => by rw [← h]; exact h4 t⟩
theorem hull_shift {v v' : List S29} {d : Int} (h : ∀ t, cnt v' (t + d) = cnt v t) {need lo hi : Int} (hs : HullSpec v need lo hi true) : HullSpec v' need (lo + d) (hi + d) true := by
  rcases hs with ⟨h0, h1, h2, h3, h4⟩ | ⟨h0, _⟩
  · refine .inl ⟨rfl, h1, by rw [h]; exact h2, by rw [h]; exact h3, fun t ht => ?_⟩
    have e := h (t - d)
    rw [show t - d + d = t by omega] at e
    have := h4 (t - d) (by omega)
    omega
  · cases h0
theorem sel_ok {l : List S37} {p : List Int} {lo hi : Int} (h : SelOk l p lo hi) : sel l = (p, lo, hi, 0) := by
  obtain ⟨a, ha, hs, hp, hmin⟩ := h.wit
  have hpos := h.pos
  rcases sel_cases l with ⟨g1, _⟩ | ⟨_, _, g2⟩ | ⟨p', lo', hi', g1, g2⟩
  · exact absurd h.chk0 g1
  · have := g2 a ha lo hi hs
    rw [hpos] at hp
    omega
  · obtain ⟨a', ha', hs', hp', hmin'⟩ := g2.wit
    have hpos' := g2.pos
    have e : a = a' := by
      rcases Nat.lt_trichotomy a a' with q | q | q
      · have := hmin' a q lo hi hs
        rw [hpos] at hp
        omega
      · exact q
      · have := hmin a' q lo' hi' hs'
        rw [hpos'] at hp'
        omega
    subst e
    obtain ⟨e1, e2, _⟩ := hs.uniq hs'
    rw [g1, hpos, hpos', e1, e2]
theorem sel_none {l : List S37} (h0 : chk l = 0) (h : SelNone l) : sel l = ([], 0, 0, 11) := by
  rcases sel_cases l with ⟨g1, _⟩ | ⟨_, g1, _⟩ | ⟨p', lo', hi', g1, g2⟩
  · exact absurd h0 g1
  · exact g1
  · obtain ⟨a', ha', hs', hp', hmin'⟩ := g2.wit
    have := h a' ha' lo' hi' hs'
    rw [g2.pos] at hp'
    omega

/-! ### Shifted -/
def sh (d : Int) (c : S37) : S37 := ⟨c.f0, wrap64 (c.f1 + wrap64 d), c.f2, c.f3, c.f4⟩
theorem sh_id {d : Int} (hd : -32768 ≤ d ∧ d ≤ 32767) {c : S37} (hc : OkC c) : sh d c = ⟨c.f0, c.f1 + d, c.f2, c.f3, c.f4⟩ := by
  obtain ⟨_, _, h1, h2, _⟩ := hc
  unfold sh
  rw [wrap_id (x := d) (by omega) (by omega), wrap_id (by omega) (by omega)]
theorem cnt_shift {l : List S37} {d : Int} (hd : -32768 ≤ d ∧ d ≤ 32767) (hok : ∀ c ∈ l, OkC c) (t : Int) : cnt (spans (l.map (sh d))) (t + d) = cnt (spans l) t := by
  induction l with
  | nil => rfl
  | cons a r ih =>
    have ih := ih fun c hc => hok c (List.mem_cons_of_mem _ hc)
    have e : holds (span (sh d a)) (t + d) = holds (span a) t := by
      rw [sh_id hd (hok a List.mem_cons_self)]
      unfold holds span
      congr 1
      · exact decide_eq_decide.2 (by simp only; omega)
      · exact decide_eq_decide.2 (by simp only; omega)
    have c1 : ∀ (s : S29) v u, cnt (s :: v) u = cnt v u + (if holds s u = true then 1 else 0) := fun s v u => by simp [cnt, List.countP_cons]
    show cnt (span (sh d a) :: spans (r.map (sh d))) (t + d) = cnt (span a :: spans r) t
    rw [c1, c1, ih, e]
theorem idx_shift {l : List S37} {d : Int} (hd : -32768 ≤ d ∧ d ≤ 32767) (hok : ∀ c ∈ l, OkC c) (lo hi : Int) : idx (l.map (sh d)) (pIn (lo + d) (hi + d)) = idx l (pIn lo hi) := by
  unfold idx
  rw [List.length_map]
  refine idxFrom_congr _ _ _ _ _ _ fun j _ hj => ?_
  have hj : j < l.length := by omega
  have e1 : (l.map (sh d)).getD j z37 = sh d l[j] := by simp [List.getD, hj]
  have e2 : l.getD j z37 = l[j] := by simp [List.getD, hj]
  rw [e1, e2, sh_id hd (hok _ (List.getElem_mem hj))]
  unfold pIn
  congr 1
  · exact decide_eq_decide.2 (by simp only; omega)
  · exact decide_eq_decide.2 (by simp only; omega)
theorem hull_back {l : List S37} {d : Int} (hd : -32768 ≤ d ∧ d ≤ 32767) (hok : ∀ c ∈ l, OkC c) {need lo hi : Int} (h : HullSpec (spans (l.map (sh d))) need lo hi true) : HullSpec (spans l) need (lo - d) (hi - d) true := by
  have := hull_shift (v := spans (l.map (sh d))) (v' := spans l) (d := -d) (fun t => by
    have := cnt_shift hd hok (t - d)
    rw [show t - d + d = t by omega] at this
    rw [this]; rfl) h
  exact this
theorem sel_shift {l : List S37} {d : Int} (hd : -32768 ≤ d ∧ d ≤ 32767) (h0 : chk l = 0) (h1 : chk (l.map (sh d)) = 0) :
    (∃ p lo hi, sel l = (p, lo, hi, 0) ∧ sel (l.map (sh d)) = (p, lo + d, hi + d, 0)) ∨ sel l = ([], 0, 0, 11) ∧ sel (l.map (sh d)) = ([], 0, 0, 11) := by
  obtain ⟨hn, hok⟩ := chk_ok h0
  have key : ∀ (b : Nat) lo' hi', HullSpec (spans (l.map (sh d))) (((l.map (sh d)).length : Int) - b) lo' hi' true → (∀ lo hi, HullSpec (spans l) ((l.length : Int) - b) lo hi true → (b : Int) < (l.length : Int) - ((idx l (pIn lo hi)).length : Int)) → (b : Int) < ((l.map (sh d)).length : Int) - ((idx (l.map (sh d)) (pIn lo' hi')).length : Int) := fun b lo' hi' hs hh => by
    rw [List.length_map] at hs ⊢
    have h2 := hh _ _ (hull_back hd hok hs)
    have e := idx_shift hd hok (lo' - d) (hi' - d)
    rw [show lo' - d + d = lo' by omega, show hi' - d + d = hi' by omega] at e
    rw [e]; exact h2
  rcases sel_cases l with ⟨g1, _⟩ | ⟨_, g1, g2⟩ | ⟨p, lo, hi, g1, g2⟩
  · exact absurd h0 g1
  · refine .inr ⟨g1, sel_none h1 fun a ha lo' hi' hs => key a lo' hi' hs (g2 a (by simpa using ha))⟩
  · refine .inl ⟨p, lo, hi, g1, sel_ok ⟨h1, ?_, by rw [idx_shift hd hok]; exact g2.pos⟩⟩
    obtain ⟨a, ha, hs, hp, hmin⟩ := g2.wit
    refine ⟨a, by simpa using ha, ?_, by simpa using hp, fun b hb lo' hi' hs' => key b lo' hi' hs' (hmin b hb)⟩
    rw [List.length_map]
    exact hull_shift (cnt_shift hd hok) hs

/-! ### In the opposite order -/
theorem idxFrom_cons (a : S37) (r : List S37) (p : S37 → Bool) : ∀ d i, idxFrom (a :: r) p d (i + 1) = (idxFrom r p d i).map (· + 1)
  | 0, _ => rfl
  | d + 1, i => by
    have ih := idxFrom_cons a r p d (i + 1)
    unfold idxFrom
    have e : (a :: r).getD (i + 1) z37 = r.getD i z37 := by simp [List.getD]
    rw [e, ih]
    split
    · simp
    · rfl
theorem idx_cons (a : S37) (r : List S37) (p : S37 → Bool) : idx (a :: r) p = (if p a = true then [0] else []) ++ (idx r p).map (· + 1) := by
  unfold idx
  rw [List.length_cons, idxFrom, idxFrom_cons]
  have e : (a :: r).getD 0 z37 = a := rfl
  rw [e]
  split <;> rfl
theorem idxFrom_snoc (l : List S37) (p : S37 → Bool) : ∀ d i, idxFrom l p (d + 1) i = idxFrom l p d i ++ (if p (l.getD (i + d) z37) = true then [((i + d : Nat) : Int)] else [])
  | 0, i => by simp [idxFrom]
  | d + 1, i => by
    have ih := idxFrom_snoc l p d (i + 1)
    rw [idxFrom, ih, idxFrom, show i + 1 + d = i + (d + 1) by omega]
    split <;> rfl
theorem idx_snoc (r : List S37) (a : S37) (p : S37 → Bool) : idx (r ++ [a]) p = idx r p ++ (if p a = true then [(r.length : Int)] else []) := by
  unfold idx
  rw [List.length_append, List.length_singleton, idxFrom_snoc]
  have e : (r ++ [a]).getD (0 + r.length) z37 = a := by simp [List.getD]
  rw [e, Nat.zero_add]
  congr 1
  refine idxFrom_congr _ _ _ _ _ _ fun j _ hj => ?_
  have : (r ++ [a]).getD j z37 = r.getD j z37 := by simp [List.getD, List.getElem?_append_left (show j < r.length by omega)]
  rw [this]
theorem idx_reverse (p : S37 → Bool) : ∀ l : List S37, idx l.reverse p = ((idx l p).map (fun x => (l.length : Int) - 1 - x)).reverse
  | [] => rfl
  | a :: r => by
    have ih := idx_reverse p r
    rw [List.reverse_cons, idx_snoc, ih, idx_cons, List.map_append, List.reverse_append, List.map_map]
    have e1 : (fun x : Int => (((a :: r).length : Int) - 1 - x)) ∘ (fun x => x + 1) = fun x => (r.length : Int) - 1 - x := by
      funext x
      simp only [Function.comp, List.length_cons]
      omega
    rw [e1]
    congr 1
    split
    · simp
    · rfl
theorem cnt_reverse (l : List S37) (t : Int) : cnt (spans l.reverse) t = cnt (spans l) t := by
  unfold cnt spans
  rw [List.map_reverse, List.countP_reverse]
theorem idx_rev_len (l : List S37) (p : S37 → Bool) : (idx l.reverse p).length = (idx l p).length := by rw [idx_reverse]; simp
theorem sel_rev {l : List S37} (h0 : chk l = 0) :
    (∃ lo hi, sel l = (idx l (pIn lo hi), lo, hi, 0) ∧ sel l.reverse = (idx l.reverse (pIn lo hi), lo, hi, 0)) ∨ sel l = ([], 0, 0, 11) ∧ sel l.reverse = ([], 0, 0, 11) := by
  have h1 : chk l.reverse = 0 := by
    obtain ⟨a, b, c⟩ := (chk_iff l).1 h0
    refine (chk_iff _).2 ⟨by simpa using a, fun x hx => b x (by simpa using hx), ?_⟩
    rw [List.pairwise_reverse]
    exact c.imp fun h => fun e => h e.symm
  have key : ∀ (b : Nat) lo' hi', HullSpec (spans l.reverse) ((l.reverse.length : Int) - b) lo' hi' true → (∀ lo hi, HullSpec (spans l) ((l.length : Int) - b) lo hi true → (b : Int) < (l.length : Int) - ((idx l (pIn lo hi)).length : Int)) → (b : Int) < (l.reverse.length : Int) - ((idx l.reverse (pIn lo' hi')).length : Int) := fun b lo' hi' hs hh => by
    rw [List.length_reverse] at hs ⊢
    rw [idx_rev_len]
    exact hh _ _ (hull_congr (cnt_reverse l) hs)
  rcases sel_cases l with ⟨g1, _⟩ | ⟨_, g1, g2⟩ | ⟨p, lo, hi, g1, g2⟩
  · exact absurd h0 g1
  · exact .inr ⟨g1, sel_none h1 fun a ha lo' hi' hs => key a lo' hi' hs (g2 a (by simpa using ha))⟩
  · have hp := g2.pos
    subst hp
    refine .inl ⟨lo, hi, g1, sel_ok ⟨h1, ?_, rfl⟩⟩
    obtain ⟨a, ha, hs, hp, hmin⟩ := g2.wit
    refine ⟨a, by simpa using ha, ?_, by rw [idx_rev_len]; simpa using hp, fun b hb lo' hi' hs' => key b lo' hi' hs' (hmin b hb)⟩
    rw [List.length_reverse]
    exact hull_congr (fun t => (cnt_reverse l t).symm) hs

/-! ### The law -/
theorem set_loop (l : List S37) (hl : l.length ≤ 100) (d : Int) (b : List S37) (r : Bool)
    (hr : Ev (fun k => (api_Cand_29.f b).bind fun t409 => ((choose_Check.f k l).bind fun t410 => (if t410 = 0 then ((choose_Check.f k (l.map (sh d))).bind fun t411 => (timesynclaw24_ChooseShifts.j1 k l d (l.map (sh d)) t409 (t411 != 0))) else (timesynclaw24_ChooseShifts.j1 k l d (l.map (sh d)) t409 true)))) r) :
    ∀ n i (x : List S37), i + n = l.length → x = (l.take i).map (sh d) ++ l.drop i → Ev (fun k => timesynclaw24_ChooseShifts.l0 k l d x b x.length i) r := by
  intro n
  induction n with
  | zero =>
    intro i x hi hx
    have hx' : x = l.map (sh d) := by rw [hx, List.take_of_length_le (by omega), List.drop_eq_nil_of_le (by omega), List.append_nil]
    have hl2 : x.length = l.length := by rw [hx', List.length_map]
    refine Ev.step (fun k => by rw [timesynclaw24_ChooseShifts.l0]) ?_
    refine Ev.neg (by omega) ?_
    rw [hx']
    exact hr
  | succ n ih =>
    intro i x hi hx
    have hlt : i < l.length := by omega
    have hl2 : x.length = l.length := by rw [hx]; simp; omega
    have e0 : ((l.take i).map (sh d)).length = i := by simp; omega
    have eg : x.getD i z37 = l[i] := by
      rw [hx, List.getD, List.getElem?_append_right (by omega), e0]
      simp [hlt]
    have es : x.set i (sh d l[i]) = (l.take (i + 1)).map (sh d) ++ l.drop (i + 1) := by
      rw [hx, List.set_append_right _ _ (by omega), e0, Nat.sub_self, List.drop_eq_getElem_cons hlt, List.set_cons_zero, List.take_succ_eq_append_getElem hlt, List.map_append, List.append_assoc]
      rfl
    refine Ev.step (fun k => by rw [timesynclaw24_ChooseShifts.l0]) ?_
    refine Ev.pos (by omega) (Ev.pos (by omega) (Ev.pos (by omega) ?_))
    rw [rd37, eg, wrap_nat (by omega), Int.toNat_natCast]
    have := ih (i + 1) (x.set i (sh d l[i])) (by omega) es
    rw [List.length_set] at this
    exact this

theorem rev_at (p : List Int) (n : Int) (i : Nat) (hi : i < p.length) : ((p.map (fun x => n - 1 - x)).reverse).getD (p.length - 1 - i) 0 = n - 1 - p[i] := by
  have h1 : p.length - 1 - i < ((p.map (fun x => n - 1 - x)).reverse).length := by simp; omega
  rw [List.getD, List.getElem?_eq_getElem h1]
  simp only [Option.getD_some, List.getElem_reverse, List.getElem_map, List.length_map]
  congr 1
  simp only [show p.length - 1 - (p.length - 1 - i) = i by omega]
theorem back_loop (l : List S37) (hl : l.length ≤ 12) (d : Int) (hd : -32768 ≤ d ∧ d ≤ 32767) (p : List Int) (hp : p.length ≤ l.length) (hpr : ∀ x ∈ p, 0 ≤ x ∧ x < l.length) (lo hi : Int) (hlo : wrap64 (lo + d) = lo + d) (hhi : wrap64 (hi + d) = hi + d) : ∀ n i, i + n = p.length →
    Ev (fun k => timesynclaw24_ChooseShifts.l1 k l d ((p.map (fun x => (l.length : Int) - 1 - x)).reverse) p p.length i lo hi (lo + d) (hi + d) lo hi) true := by
  intro n
  induction n with
  | zero =>
    intro i hi'
    refine Ev.step (fun k => by rw [timesynclaw24_ChooseShifts.l1]) ?_
    refine Ev.neg (by omega) ?_
    rw [wrap_id (x := d) (by omega) (by omega), hlo, hhi]
    exact Ev.pos (by simp) (Ev.pos (by simp) awake24')
  | succ n ih =>
    intro i hi'
    have hlt : i < p.length := by omega
    have hx := hpr p[i] (List.getElem_mem hlt)
    have e1 : p.getD i 0 = p[i] := by simp [List.getD, hlt]
    have hlen : ((p.map (fun x => (l.length : Int) - 1 - x)).reverse).length = p.length := by simp
    refine Ev.step (fun k => by rw [timesynclaw24_ChooseShifts.l1]) ?_
    refine Ev.pos (by omega) (Ev.pos (by omega) (Ev.pos (by omega) ?_))
    rw [hlen, wrap_id (x := (p.length : Int) - 1) (by omega) (by omega), wrap_id (x := (p.length : Int) - 1 - i) (by omega) (by omega), rdI p i, e1, wrap_id (x := (l.length : Int) - 1) (by omega) (by omega), wrap_id (x := (l.length : Int) - 1 - p[i]) (by omega) (by omega), wrap_nat (by omega)]
    have e2 : (p.length : Int) - 1 - i = ((p.length - 1 - i : Nat) : Int) := by omega
    rw [e2, rdI, rev_at p _ i hlt]
    exact Ev.pos (by omega) (Ev.pos (by omega) (Ev.pos rfl (ih (i + 1) (by omega))))

theorem idx_range (l : List S37) (p : S37 → Bool) : ∀ x ∈ idx l p, 0 ≤ x ∧ x < l.length := by
  intro x hx
  obtain ⟨j, h1, h2, h3, _⟩ := (mem_idxFrom l p x l.length 0).1 hx
  omega

theorem sel_bounds {l : List S37} {p : List Int} {lo hi : Int} (h : SelOk l p lo hi) : -13510798882111488 ≤ lo ∧ lo ≤ 13510798882111488 ∧ -13510798882111488 ≤ hi ∧ hi ≤ 13510798882111488 := by
  obtain ⟨hn, hok⟩ := chk_ok h.chk0
  obtain ⟨a, ha, hs, _⟩ := h.wit
  have key : ∀ t, 1 ≤ cnt (spans l) t → -13510798882111488 ≤ t ∧ t ≤ 13510798882111488 := fun t ht => by
    obtain ⟨s, hs, h1, _⟩ := cnt_begin ht
    obtain ⟨s2, hs2, h2, _⟩ := cnt_end ht
    obtain ⟨c, hc, rfl⟩ := List.mem_map.1 hs
    obtain ⟨c2, hc2, rfl⟩ := List.mem_map.1 hs2
    obtain ⟨_, _, q1, q2, q3, q4, _⟩ := hok c hc
    obtain ⟨_, _, u1, u2, u3, u4, _⟩ := hok c2 hc2
    have h1 : c.f1 - c.f2 ≤ t := h1
    have h2 : t ≤ c2.f1 + c2.f2 := h2
    omega
  rcases hs with ⟨_, h1, h2, h3, _⟩ | ⟨h0, _⟩
  · have := key lo (by omega)
    have := key hi (by omega)
    omega
  · cases h0

theorem ChooseShifts : ∀ (x0 : List (S37)) (a1 : Int), WFL37 x0 → WFi16 a1 → ∃ k, timesynclaw24_ChooseShifts.f k x0 a1 = some true := by
  intro l d _ hd
  have hd := wf_i16 hd
  refine Ev.rounds ?_
  unfold timesynclaw24_ChooseShifts.f
  refine Ev.ite_ (fun _ => awake24') (fun hl => ?_)
  have e28 : api_Cand_28.f l = some l := by unfold api_Cand_28.f; rw [if_pos (by omega)]
  have e29 : api_Cand_29.f l = some l.reverse := by unfold api_Cand_29.f; rw [if_pos (by omega)]
  rw [e28]
  refine Ev.some_bind (Ev.some_bind ?_)
  refine set_loop l (by omega) d l true ?_ l.length 0 l (by omega) (by simp)
  rw [e29]
  refine Ev.some_bind (Ev.bind' _ (impl_check l) ?_)
  have j1t : Ev (fun k => timesynclaw24_ChooseShifts.j1 k l d (l.map (sh d)) l.reverse true) true := by
    refine Ev.step (fun k => by rw [timesynclaw24_ChooseShifts.j1]) ?_
    exact Ev.pos rfl awake24'
  refine Ev.ite_ (fun h0 => Ev.bind' _ (impl_check _) ?_) (fun _ => j1t)
  by_cases h1 : chk (l.map (sh d)) = 0
  · rw [h1]
    refine Ev.step (fun k => by rw [timesynclaw24_ChooseShifts.j1]) ?_
    refine Ev.neg (by simp) (Ev.bind' _ (impl_select l) (Ev.bind' _ (impl_select _) (Ev.bind' _ (impl_select l.reverse) ?_)))
    obtain ⟨hn, hok⟩ := chk_ok h0
    rcases sel_shift hd h0 h1 with ⟨p, lo, hi, q1, q2⟩ | ⟨q1, q2⟩
    · rcases sel_rev h0 with ⟨lo', hi', u1, u2⟩ | ⟨u1, u2⟩
      · rw [q1] at u1
        simp only [Prod.mk.injEq, and_true] at u1
        obtain ⟨rfl, rfl, rfl⟩ := u1
        have hb : ∃ p', SelOk l p' lo hi := by
          rcases sel_cases l with ⟨g1, _⟩ | ⟨_, g1, _⟩ | ⟨p2, lo2, hi2, g1, g2⟩
          · exact absurd h0 g1
          · rw [g1] at q1; simp at q1
          · rw [g1] at q1
            simp only [Prod.mk.injEq, and_true] at q1
            obtain ⟨rfl, rfl, rfl⟩ := q1
            exact ⟨_, g2⟩
        obtain ⟨p', hb⟩ := hb
        have hb := sel_bounds hb
        have hle := idx_le l (pIn lo hi)
        rw [q1, q2, u2, idx_reverse]
        refine Ev.pos rfl (Ev.pos rfl (Ev.bind' _ (eq_ints _ _ (by show (idx l (pIn lo hi)).length < _; omega)) (Ev.pos (by simp) ?_)))
        have ne : ((((idx l (pIn lo hi)).length : Int) != ((((idx l (pIn lo hi)).map (fun x => (l.length : Int) - 1 - x)).reverse).length : Int))) = false := by simp
        simp only [ne]
        refine Ev.step (fun k => by rw [timesynclaw24_ChooseShifts.j2]) ?_
        refine Ev.neg (by simp) (Ev.pos rfl ?_)
        exact back_loop l hn d hd (idx l (pIn lo hi)) hle (idx_range l _) lo hi (wrap_id (by omega) (by omega)) (wrap_id (by omega) (by omega)) (idx l (pIn lo hi)).length 0 (Nat.zero_add _)
      · rw [q1] at u1; simp at u1
    · rcases sel_rev h0 with ⟨lo', hi', u1, u2⟩ | ⟨u1, u2⟩
      · rw [q1] at u1; simp at u1
      · rw [q1, q2, u2]
        refine Ev.pos rfl (Ev.pos rfl (Ev.bind' _ (eq_ints [] [] (by simp)) (Ev.pos (by simp) ?_)))
        refine Ev.step (fun k => by rw [timesynclaw24_ChooseShifts.j2]) ?_
        exact Ev.neg (by simp) (Ev.neg (by simp) (Ev.pos (by simp) awake24'))
  · have e : (chk (l.map (sh d)) != 0) = true := by simpa using h1
    rw [e]
    exact j1t
end Go.Proofs.Ytlfilhplklifjaa.PureChooseShifts

/- What an argument reads as, in the printed words: a type's reading gives cells of its kind, and bounds on the numbers. -/
namespace Go.Proofs.Ytlfilhplklifjaa.HO
open Go.RowKit Go.Proofs.YtlfilhplklifjaaW.PrintWords Go.Deep

structure Opens {α : Type} (P : Program) (t : TypeId) (d : Kd α) (B : α → Prop) : Prop where
  out : ∀ {H : Type} (enc : TypeId × Value → H) (w : World) (base : Nat) (spare : Nat → Bool) (held : Bool) (fuel : Nat) (cs : List Value) (x : DataW H × List MemPlace),
    DataW.trod enc P w base spare held fuel t cs = some x → ∃ a : α, d.K w a cs ∧ B a

theorem opens_int {P : Program} {t : TypeId} {k : IntKind} (ht : P.underlying t = some (.int k)) : Opens P t (Kd.int k) (fun n => (Lit.int k n).wf = true) := by
  constructor
  intro H enc w base spare held fuel cs x h
  obtain ⟨n, rfl, _, hw⟩ := DataW.trod_int ht h
  exact ⟨n, rfl, hw⟩
theorem opens_slice {α : Type} [Inhabited α] {P : Program} {t e : TypeId} {d : Kd α} {B : α → Prop} (he : Opens P e d B) (ht : P.underlying t = some (.slice e)) (hs : P.cellsOf e = d.sz) :
    Opens P t (Kd.slice e d) (fun xs => xs.length ≤ 9223372036854775807 ∧ ∀ x ∈ xs, B x) := by
  constructor
  intro H enc w base spare held fuel cs x h
  rcases open_slice ht h with ⟨rfl, _⟩ | ⟨a, len, cap, m, n, D, Pl, rfl, _, hl, hm, hmm, _, hx⟩
  · exact ⟨[], ⟨none, 0, rfl, Nat.le_refl _, rfl, by simp, fun h => by simp at h⟩, by simp, by simp⟩
  · have hlm : len ≤ m := by rw [hmm]; split <;> omega
    obtain ⟨X, hX⟩ := choose_lt (α := α) (n := len) (p := fun i x => B x ∧ ∃ c, c.length = d.sz ∧ d.K w x c ∧ ∀ j u, c[j]? = some u → w.cell? (a.add (i * d.sz + j)) = some u) (fun i hi => by
      obtain ⟨cs', h1, h2⟩ := hx i (Nat.lt_of_lt_of_le hi hlm)
      obtain ⟨x, hK, hB⟩ := he.out enc w base spare held n cs' _ h2
      refine ⟨x, hB, cs', d.K_len hK, hK, fun j u hj => ?_⟩
      obtain ⟨_, h4, h5⟩ := World.cells?_some h1
      have hj' : j < cs'.length := (List.getElem?_eq_some_iff.1 hj).1
      have h6 := h5 j (by rw [h4] at hj'; exact hj')
      rw [Go.Deep.add_add, hs] at h6
      rw [h6, hj])
    refine ⟨(List.range len).map X, ⟨some a, cap, by simp, by simpa using hl, by simp, ?_, fun h0 => ⟨a, rfl, fun j p hp => ?_⟩⟩, ?_, ?_⟩
    · have : cap ≤ 9223372036854775807 := by simpa [maxLen] using hm
      simp only [List.length_map, List.length_range]; omega
    · have hj : j < len := by
        have := (List.getElem?_eq_some_iff.1 hp).1
        simpa using this
      have : X j = p := by simpa [hj] using hp
      subst this
      obtain ⟨_, c, h1, h2, h3⟩ := hX j hj
      exact ⟨c, h1, h2, h3⟩
    · have : cap ≤ 9223372036854775807 := by simpa [maxLen] using hm
      simp only [List.length_map, List.length_range]; omega
    · intro x hx
      obtain ⟨j, hj, rfl⟩ := List.mem_map.1 hx
      exact (hX j (List.mem_range.1 hj)).1

/-- The fields from cell 'off' on. -/
structure OpF {α : Type} (P : Program) (off : Nat) (fs : List Field) (d : Kd α) (B : α → Prop) : Prop where
  out : ∀ {H : Type} (enc : TypeId × Value → H) (w : World) (base : Nat) (spare : Nat → Bool) (held : Bool) (n : Nat) (cs : List Value), cs.length = off + d.sz →
    (∀ f ∈ fs, ∃ y, DataW.trod enc P w base spare held n f.type ((cs.drop f.offset).take (P.cellsOf f.type)) = some y) → ∃ a : α, d.K w a (cs.drop off) ∧ B a
theorem opF_one {α : Type} {P : Program} {off : Nat} {f : Field} {d : Kd α} {B : α → Prop} (h : Opens P f.type d B) (ho : f.offset = off) (hs : P.cellsOf f.type = d.sz) : OpF P off [f] d B := by
  constructor
  intro H enc w base spare held n cs hl hf
  obtain ⟨y, hy⟩ := hf f (by simp)
  rw [ho, hs, List.take_of_length_le (by rw [List.length_drop]; omega)] at hy
  exact h.out enc w base spare held n _ _ hy
theorem opF_cons {α β : Type} {P : Program} {off : Nat} {f : Field} {fs : List Field} {d : Kd α} {d' : Kd β} {B : α → Prop} {B' : β → Prop} (h : Opens P f.type d B) (ho : f.offset = off) (hs : P.cellsOf f.type = d.sz) (hr : OpF P (off + d.sz) fs d' B') :
    OpF P off (f :: fs) (Kd.pair d d') (fun p => B p.1 ∧ B' p.2) := by
  constructor
  intro H enc w base spare held n cs hl hf
  obtain ⟨y, hy⟩ := hf f (by simp)
  rw [ho, hs] at hy
  have hl' : cs.length = off + (d.sz + d'.sz) := hl
  obtain ⟨a, hK, hB⟩ := h.out enc w base spare held n _ _ hy
  obtain ⟨b, hK', hB'⟩ := hr.out enc w base spare held n cs (by omega) (fun g hg => hf g (by simp [hg]))
  refine ⟨(a, b), ⟨(cs.drop off).take d.sz, cs.drop (off + d.sz), ?_, hK, hK'⟩, hB, hB'⟩
  rw [← List.drop_drop]
  exact (List.take_append_drop _ _).symm
theorem opens_struct {α β : Type} {P : Program} {t : TypeId} {fs : Array Field} {d : Kd α} {B : α → Prop} (f : β → α) (g : α → β) (hfg : ∀ a, f (g a) = a) (h : OpF P 0 fs.toList d B) (ht : P.underlying t = some (.struct fs)) (hs : P.cellsOf t = d.sz) :
    Opens P t (Kd.iso d f) (fun x => B (f x)) := by
  constructor
  intro H enc w base spare held fuel cs x hx
  obtain ⟨xs, n, _, _, hl, hlen, hf⟩ := DataW.trod_struct ht hx
  obtain ⟨a, hK, hB⟩ := h.out enc w base spare held n cs (by omega) (fun q hq => by
    obtain ⟨i, hi⟩ := List.mem_iff_getElem?.1 hq
    have hi' : fs[i]? = some q := by simpa using hi
    have hlt : i < xs.length := by
      have := (Array.getElem?_eq_some_iff.1 hi').1
      omega
    exact ⟨xs[i], by rw [hf i q hi', List.getElem?_eq_getElem hlt]⟩)
  refine ⟨g a, ?_, by show B (f (g a)); rw [hfg]; exact hB⟩
  show d.K w (f (g a)) cs
  rw [hfg]
  exact hK
end Go.Proofs.Ytlfilhplklifjaa.HO

/- The row of ChooseShifts: for every input the law returns true, and each argument reads as it read before: out of its pure statement (YtlfilhplklifjaaPureChooseShifts) and the printed walk. No condition. -/
namespace Go.Proofs.Ytlfilhplklifjaa.chooseShifts
open Go.ChangeShapes Go.WideShapes Go.ChangeAt Go.RowKit Go.Proofs.Ytlfilhplklifjaa.X Go.Proofs.YtlfilhplklifjaaW.PrintWords
open Go.ChangeMaps (open_string shut_string)
set_option linter.unusedVariables false
theorem own : ownKnob Try.prog.godebug = none := by kernel_rfl
theorem laidOut : laidOutB Try.prog = true := by kernel_rfl
theorem opens3 : HO.Opens Try.prog 3 (Kd.int .i64) WFi64 := HO.opens_int Try.underlying3
theorem opens37 : HO.Opens Try.prog 37 k37 WF37 := HO.opens_struct (d := (Kd.pair (Kd.int .i64) (Kd.pair (Kd.int .i64) (Kd.pair (Kd.int .i64) (Kd.pair (Kd.int .i64) (Kd.int .i64)))))) (B := fun p => WFi64 p.1 ∧ WFi64 p.2.1 ∧ WFi64 p.2.2.1 ∧ WFi64 p.2.2.2.1 ∧ WFi64 p.2.2.2.2) (fun x : S37 => (x.f0, x.f1, x.f2, x.f3, x.f4)) (fun p => (⟨p.1, p.2.1, p.2.2.1, p.2.2.2.1, p.2.2.2.2⟩ : S37)) (fun _ => rfl) (HO.opF_cons (B := WFi64) (B' := (fun p : (Int) × (Int) × (Int) × (Int) => WFi64 p.1 ∧ WFi64 p.2.1 ∧ WFi64 p.2.2.1 ∧ WFi64 p.2.2.2)) opens3 rfl (by kernel_rfl) (HO.opF_cons (B := WFi64) (B' := (fun p : (Int) × (Int) × (Int) => WFi64 p.1 ∧ WFi64 p.2.1 ∧ WFi64 p.2.2)) opens3 rfl (by kernel_rfl) (HO.opF_cons (B := WFi64) (B' := (fun p : (Int) × (Int) => WFi64 p.1 ∧ WFi64 p.2)) opens3 rfl (by kernel_rfl) (HO.opF_cons (B := WFi64) (B' := WFi64) opens3 rfl (by kernel_rfl) (HO.opF_one opens3 rfl (by kernel_rfl)))))) Try.underlying37 (by kernel_rfl)
theorem opens22 : HO.Opens Try.prog 22 (Kd.slice 37 k37) WFL37 := haveI : Inhabited S37 := ⟨z37⟩; HO.opens_slice opens37 Try.underlying22 (by kernel_rfl)
set_option maxRecDepth 100000 in
theorem lifted (os : Os) (started : os.Started) (H : Type) (enc : TypeId × Value → H) :
    ReturnsInHanded {} Try.checked os 8 .any (Rows.chooseShiftsSpec.pre6 enc Try.prog Try.f8 Rows.chooseShiftsRow.domain false) (Rows.chooseShiftsSpec.post enc Try.prog Try.f8 false true false false) := by
  refine returnsInHanded_of_change_sized (C := Try.checked) own started (by kernel_rfl) Try.func8
    (ChangeSpec.witness6 (enc := enc) (C := Try.checked) false ⟨#[], #[.slice none 0 0, .int .i16 0], []⟩ 8 (by kernel_rfl) (by kernel_rfl) (by kernel_rfl) (by kernel_rfl)) ?_
  intro W base args ds gs before hval0 hW hcnd hsz0 _
  have hval : ∀ (j : Nat) t v, Try.f8.params[j]? = some t → args[j]? = some v → Value.okWide Try.prog W .any base t v := hval0
  have hW' := hW
  obtain ⟨p, q, hA0, hV, rfl, hfz, hnd⟩ := hW
  have hA : DataW.TrodAll enc Try.prog W 0 (fun _ => true) true Try.f8.params.toList args.toList ds p := hA0
  rw [Try.params8] at hA hval
  obtain ⟨v0, vs0, d0, ds0, p0, q0, hargs, rfl, rfl, h0, r0⟩ := trodAll_cons hA
  obtain ⟨v1, vs1, d1, ds1, p1, q1, rfl, rfl, rfl, h1, r1⟩ := trodAll_cons r0
  obtain ⟨rfl, rfl, rfl⟩ := trodAll_nil r1
  obtain rfl : args = #[v0, v1] := by cases args; simp_all
  obtain ⟨rfl, rfl⟩ := trodVars_none hV
  have k0 := h0
  have lt0 : ∀ x ∈ p0, x.block < W.heap.size := by obtain ⟨m, hm⟩ := k0; exact DataW.trod_lt m _ _ _ hm
  obtain ⟨fuel0, hf0⟩ := h0
  obtain ⟨x0, K0, B0⟩ := opens22.out enc W 0 _ true fuel0 _ _ hf0
  obtain ⟨a0, len0, cap0, rfl⟩ := okWide_slice Try.underlying22 (hval 0 22 v0 rfl rfl)
  obtain ⟨A0, c0, e0, hc0, hr0⟩ := K0
  simp only [Value.cells, List.cons.injEq, Value.slice.injEq, and_true] at e0
  obtain ⟨rfl, rfl, rfl⟩ := e0
  obtain ⟨a1, rfl, rfl, rfl, w1⟩ := open_int Try.underlying44 (hval 1 44 v1 rfl rfl) h1
  clear hA0 hval0 hsz0
  obtain ⟨k, hp⟩ := PureChooseShifts.ChooseShifts x0 a1 B0 w1
  refine (timesynclaw24_ChooseShifts.calls k _ _ x0 a1 true W hr0 hc0 hp).mono fun e W' ⟨he, bel0⟩ => ?_
  have bel := bel0
  subst he
  exact ⟨_, rfl, _, _, _, [], _, [], hW', trodAll_mk1 (shut_bool Try.underlying4 _), (trodAll_cons_mk (Below.trod laidOut (by kernel_rfl) (of_decide_eq_true (by kernel_rfl)) k0 bel lt0) (trodAll_cons_mk (shut_int Try.underlying44 w1) trodAll_mk0)), rfl, bel.frame _, fun h => by cases h⟩
theorem over : Rows.chooseShiftsRow.holds Try.pinned (OpenSpec.ofChange Rows.chooseShiftsSpec) :=
  OpenClaim.holds_of_wide 8 Try.f8 rfl rfl rfl rfl rfl rfl rfl ⟨rfl, rfl, rfl, rfl, rfl⟩ rfl rfl rfl rfl rfl (by kernel_rfl) Try.func8 (by kernel_rfl)
    (of_decide_eq_true (by kernel_rfl)) (by unfold Func.isWrapper; first | (rw [if_pos (by decide +kernel)]; kernel_rfl) | (rw [if_neg (by decide +kernel)]; exact ⟨rfl, rfl⟩))
    (fun os started H enc _ => lifted os started H enc)
#print axioms over
end Go.Proofs.Ytlfilhplklifjaa.chooseShifts
namespace Go.Proofs.Ytlfilhplklifjaa
/-- The row of ChooseShifts. -/
theorem chooseShifts_holds : Rows.ChooseShiftsSaid := chooseShifts.over
end Go.Proofs.Ytlfilhplklifjaa
