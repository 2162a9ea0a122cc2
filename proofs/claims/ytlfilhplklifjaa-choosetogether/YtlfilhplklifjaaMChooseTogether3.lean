/- Ytlfilhplklifjaa: part 3 of 3 of the proof that the law ChooseTogether returns true for every input, its arguments reading as before. No condition. -/
import Derived.Test.YtlfilhplklifjaaMChooseTogether1
import Derived.Test.YtlfilhplklifjaaMChooseTogether2
import Derived.KernelRfl
import Derived.Test.YtlfilhplklifjaaWMore
import Derived.Deep.Slices
import Derived.DataReads
import Derived.Test.YtlfilhplklifjaaRows
import Derived.WalkKit
import Derived.ProofKit
import Derived.OpenShut
import Derived.ShutString
import Derived.ChangeOld
import Derived.Below
import Derived.SizedLaws
import Derived.WideShapes
namespace Go.Proofs.Ytlfilhplklifjaa.X
open Go.RowKit Go.Proofs.YtlfilhplklifjaaW.PrintWords Go.Proofs.YtlfilhplklifjaaW.PrintLast Go.Proofs.YtlfilhplklifjaaW.PrintMore
attribute [local go_sem] max2_int min2_int max_two min_two max_three min_three max_four min_four   -- for this text's walks alone
set_option linter.unusedVariables false
set_option linter.unusedSimpArgs false

attribute [local go_sem high] eqA29
/-! ### timesynclaw24_awake: function 14 -/
def timesynclaw24_awake.f (k : Nat)  : Option (Bool) := (some (([(⟨1, 0, 10, 0, 1⟩ : S37), (⟨2, 4, 10, 0, 1⟩ : S37), (⟨3, 100, 5, 0, 1⟩ : S37)] : List (S37)) : List (S37))).bind fun y207 => ((choose_Select.f k y207).bind fun bt210 => ((choose_Falsetickers.f k y207).bind fun bt217 => ((choose_Select.f k (([(⟨1, 0, 5, 0, 1⟩ : S37), (⟨2, 10, 5, 0, 1⟩ : S37)] : List (S37)))).bind fun bt224 => ((slices_Equal_int_int.f k bt210.1 (([0, 1] : List Int))).bind fun t234 => (if t234 = true then (if (bt210.2.1 == (-6) && (bt210.2.2.1 == 10)) = true then (if bt210.2.2.2 = 0 then ((slices_Equal_int_int.f k bt217.1 (([2] : List Int))).bind fun t238 => (if t238 = true then (if bt217.2 = 0 then (if bt224.2.2.2 = 11 then ((choose_Majority.f k y207 12 14).bind fun t239 => (if (t239 == false) = true then ((choose_Majority.f k y207 10 14).bind fun t240 => (some t240)) else (none))) else (none)) else (none)) else (none))) else (none)) else (none)) else (none))))))
theorem timesynclaw24_awake.mono : ∀ k, LeO (timesynclaw24_awake.f k ) (timesynclaw24_awake.f (k + 1) ) := by
 intro  k
 unfold timesynclaw24_awake.f
 repeat' first
   | (with_reducible exact choose_Falsetickers.mono _ _)
   | (with_reducible exact choose_Majority.mono _ _ _ _)
   | (with_reducible exact choose_Select.mono _ _)
   | (with_reducible exact slices_Equal_int_int.mono _ _ _)
   | (with_reducible exact LeO.refl _)
   | (with_reducible exact LeO.none _)
   | (with_reducible refine LeO.ite ?_ ?_)
   | (with_reducible refine LeO.bind ?_ (fun _ => ?_))
   | exact choose_Falsetickers.mono _ _
   | exact choose_Majority.mono _ _ _ _
   | exact choose_Select.mono _ _
   | exact slices_Equal_int_int.mono _ _ _
   | exact LeO.none _
   | refine LeO.ite ?_ ?_
   | refine LeO.bind ?_ (fun _ => ?_)
set_option maxHeartbeats 8000000 in
set_option maxRecDepth 100000 in
theorem timesynclaw24_awake.calls (k : Nat)  (r : Bool) (w : World) (h : timesynclaw24_awake.f k  = some r) :
  Calls Try.prog 14 #[] w fun e w' => e = .returned (.bool r) ∧ Below w.heap.size w w' := by
 have hu37 := Try.underlying37
 have hu29 := Try.underlying29
 have HB := Aside0.mk (Below.refl w.heap.size w)
 have H : ((some (([(⟨1, 0, 10, 0, 1⟩ : S37), (⟨2, 4, 10, 0, 1⟩ : S37), (⟨3, 100, 5, 0, 1⟩ : S37)] : List (S37)) : List (S37))).bind fun y207 => ((choose_Select.f k y207).bind fun bt210 => ((choose_Falsetickers.f k y207).bind fun bt217 => ((choose_Select.f k (([(⟨1, 0, 5, 0, 1⟩ : S37), (⟨2, 10, 5, 0, 1⟩ : S37)] : List (S37)))).bind fun bt224 => ((slices_Equal_int_int.f k bt210.1 (([0, 1] : List Int))).bind fun t234 => (if t234 = true then (if (bt210.2.1 == (-6) && (bt210.2.2.1 == 10)) = true then (if bt210.2.2.2 = 0 then ((slices_Equal_int_int.f k bt217.1 (([2] : List Int))).bind fun t238 => (if t238 = true then (if bt217.2 = 0 then (if bt224.2.2.2 = 11 then ((choose_Majority.f k y207 12 14).bind fun t239 => (if (t239 == false) = true then ((choose_Majority.f k y207 10 14).bind fun t240 => (some t240)) else (none))) else (none)) else (none)) else (none))) else (none)) else (none)) else (none))))))) = some r := h
 clear h
 obtain ⟨y207, hy207⟩ : ∃ y_ : List (S37), y_ = (([(⟨1, 0, 10, 0, 1⟩ : S37), (⟨2, 4, 10, 0, 1⟩ : S37), (⟨3, 100, 5, 0, 1⟩ : S37)] : List (S37))) := ⟨_, rfl⟩
 replace H : ((choose_Select.f k y207).bind fun bt210 => ((choose_Falsetickers.f k y207).bind fun bt217 => ((choose_Select.f k (([(⟨1, 0, 5, 0, 1⟩ : S37), (⟨2, 10, 5, 0, 1⟩ : S37)] : List (S37)))).bind fun bt224 => ((slices_Equal_int_int.f k bt210.1 (([0, 1] : List Int))).bind fun t234 => (if t234 = true then (if (bt210.2.1 == (-6) && (bt210.2.2.1 == 10)) = true then (if bt210.2.2.2 = 0 then ((slices_Equal_int_int.f k bt217.1 (([2] : List Int))).bind fun t238 => (if t238 = true then (if bt217.2 = 0 then (if bt224.2.2.2 = 11 then ((choose_Majority.f k y207 12 14).bind fun t239 => (if (t239 == false) = true then ((choose_Majority.f k y207 10 14).bind fun t240 => (some t240)) else (none))) else (none)) else (none)) else (none))) else (none)) else (none)) else (none)))))) = some r := by first | (rw [hy207]; with_reducible exact H) | (have H2_ := (Option.bind_some _ _).symm.trans H; rw [hy207]; with_reducible exact H2_) | (have H2_ := (Option.bind_some _ _).symm.trans H; with_reducible exact H2_) | with_reducible exact H | (rw [hy207]; exact H) | exact H
 have Ny207 := Aside0.mk hy207
 clear hy207
 replace H := Option.bind_eq_some_iff.mp H
 obtain ⟨⟨t210, t213, t214, t215⟩, A10, H⟩ := H
 replace H : ((choose_Falsetickers.f k y207).bind fun bt217 => ((choose_Select.f k (([(⟨1, 0, 5, 0, 1⟩ : S37), (⟨2, 10, 5, 0, 1⟩ : S37)] : List (S37)))).bind fun bt224 => ((slices_Equal_int_int.f k t210 (([0, 1] : List Int))).bind fun t234 => (if t234 = true then (if (t213 == (-6) && (t214 == 10)) = true then (if t215 = 0 then ((slices_Equal_int_int.f k bt217.1 (([2] : List Int))).bind fun t238 => (if t238 = true then (if bt217.2 = 0 then (if bt224.2.2.2 = 11 then ((choose_Majority.f k y207 12 14).bind fun t239 => (if (t239 == false) = true then ((choose_Majority.f k y207 10 14).bind fun t240 => (some t240)) else (none))) else (none)) else (none)) else (none))) else (none)) else (none)) else (none))))) = some r := H
 have A1 := Aside0.mk A10
 clear A10
 replace H := Option.bind_eq_some_iff.mp H
 obtain ⟨⟨t217, t218⟩, A20, H⟩ := H
 replace H : ((choose_Select.f k (([(⟨1, 0, 5, 0, 1⟩ : S37), (⟨2, 10, 5, 0, 1⟩ : S37)] : List (S37)))).bind fun bt224 => ((slices_Equal_int_int.f k t210 (([0, 1] : List Int))).bind fun t234 => (if t234 = true then (if (t213 == (-6) && (t214 == 10)) = true then (if t215 = 0 then ((slices_Equal_int_int.f k t217 (([2] : List Int))).bind fun t238 => (if t238 = true then (if t218 = 0 then (if bt224.2.2.2 = 11 then ((choose_Majority.f k y207 12 14).bind fun t239 => (if (t239 == false) = true then ((choose_Majority.f k y207 10 14).bind fun t240 => (some t240)) else (none))) else (none)) else (none)) else (none))) else (none)) else (none)) else (none)))) = some r := H
 have A2 := Aside0.mk A20
 clear A20
 obtain ⟨y221, hy221⟩ : ∃ y_ : List (S37), y_ = (([(⟨1, 0, 5, 0, 1⟩ : S37), (⟨2, 10, 5, 0, 1⟩ : S37)] : List (S37))) := ⟨_, rfl⟩
 replace H : ((choose_Select.f k y221).bind fun bt224 => ((slices_Equal_int_int.f k t210 (([0, 1] : List Int))).bind fun t234 => (if t234 = true then (if (t213 == (-6) && (t214 == 10)) = true then (if t215 = 0 then ((slices_Equal_int_int.f k t217 (([2] : List Int))).bind fun t238 => (if t238 = true then (if t218 = 0 then (if bt224.2.2.2 = 11 then ((choose_Majority.f k y207 12 14).bind fun t239 => (if (t239 == false) = true then ((choose_Majority.f k y207 10 14).bind fun t240 => (some t240)) else (none))) else (none)) else (none)) else (none))) else (none)) else (none)) else (none)))) = some r := by first | (rw [hy221]; with_reducible exact H) | (have H2_ := (Option.bind_some _ _).symm.trans H; rw [hy221]; with_reducible exact H2_) | (have H2_ := (Option.bind_some _ _).symm.trans H; with_reducible exact H2_) | with_reducible exact H | (rw [hy221]; exact H) | exact H
 have Ny221 := Aside0.mk hy221
 clear hy221
 replace H := Option.bind_eq_some_iff.mp H
 obtain ⟨⟨t224, t227, t228, t229⟩, A30, H⟩ := H
 replace H : ((slices_Equal_int_int.f k t210 (([0, 1] : List Int))).bind fun t234 => (if t234 = true then (if (t213 == (-6) && (t214 == 10)) = true then (if t215 = 0 then ((slices_Equal_int_int.f k t217 (([2] : List Int))).bind fun t238 => (if t238 = true then (if t218 = 0 then (if t229 = 11 then ((choose_Majority.f k y207 12 14).bind fun t239 => (if (t239 == false) = true then ((choose_Majority.f k y207 10 14).bind fun t240 => (some t240)) else (none))) else (none)) else (none)) else (none))) else (none)) else (none)) else (none))) = some r := H
 have A3 := Aside0.mk A30
 clear A30
 obtain ⟨y231, hy231⟩ : ∃ y_ : List Int, y_ = (([0, 1] : List Int)) := ⟨_, rfl⟩
 replace H : ((slices_Equal_int_int.f k t210 y231).bind fun t234 => (if t234 = true then (if (t213 == (-6) && (t214 == 10)) = true then (if t215 = 0 then ((slices_Equal_int_int.f k t217 (([2] : List Int))).bind fun t238 => (if t238 = true then (if t218 = 0 then (if t229 = 11 then ((choose_Majority.f k y207 12 14).bind fun t239 => (if (t239 == false) = true then ((choose_Majority.f k y207 10 14).bind fun t240 => (some t240)) else (none))) else (none)) else (none)) else (none))) else (none)) else (none)) else (none))) = some r := by first | (rw [hy231]; with_reducible exact H) | (have H2_ := (Option.bind_some _ _).symm.trans H; rw [hy231]; with_reducible exact H2_) | (have H2_ := (Option.bind_some _ _).symm.trans H; with_reducible exact H2_) | with_reducible exact H | (rw [hy231]; exact H) | exact H
 have Ny231 := Aside0.mk hy231
 clear hy231
 replace H := Option.bind_eq_some_iff.mp H
 obtain ⟨t234, A40, H⟩ := H
 replace H : (if t234 = true then (if (t213 == (-6) && (t214 == 10)) = true then (if t215 = 0 then ((slices_Equal_int_int.f k t217 (([2] : List Int))).bind fun t238 => (if t238 = true then (if t218 = 0 then (if t229 = 11 then ((choose_Majority.f k y207 12 14).bind fun t239 => (if (t239 == false) = true then ((choose_Majority.f k y207 10 14).bind fun t240 => (some t240)) else (none))) else (none)) else (none)) else (none))) else (none)) else (none)) else (none)) = some r := H
 have A4 := Aside0.mk A40
 clear A40
 by_cases c5 : t234 = true
 ·subst c5
  have H1 : (if (t213 == (-6) && (t214 == 10)) = true then (if t215 = 0 then ((slices_Equal_int_int.f k t217 (([2] : List Int))).bind fun t238 => (if t238 = true then (if t218 = 0 then (if t229 = 11 then ((choose_Majority.f k y207 12 14).bind fun t239 => (if (t239 == false) = true then ((choose_Majority.f k y207 10 14).bind fun t240 => (some t240)) else (none))) else (none)) else (none)) else (none))) else (none)) else (none)) = some r := by rw [if_pos rfl] at H; exact H
  clear H
  have H := H1
  clear H1
  by_cases c6 : (t213 == (-6) && (t214 == 10)) = true
  ·rw [if_pos c6] at H
   have c6b0 : (t213 == (-6) && (t214 == 10)) = true := c6
   (try (have c6b1 : decide (t213 = (-6) && (t214 == 10)) = true := by simpa using c6))
   (try (have c6b2 : (t213 == (-6) && (t214 == 10)) = true := by simpa using c6))
   clear c6
   by_cases c7 : t215 = 0
   ·rw [if_pos c7] at H
    have c7b0 : (t215 == 0) = true := beq_iff_eq.mpr c7
    have c7b1 : (t215 != 0) = false := bne_eq_false_iff_eq.mpr c7
    clear c7
    obtain ⟨y235, hy235⟩ : ∃ y_ : List Int, y_ = (([2] : List Int)) := ⟨_, rfl⟩
    replace H : ((slices_Equal_int_int.f k t217 y235).bind fun t238 => (if t238 = true then (if t218 = 0 then (if t229 = 11 then ((choose_Majority.f k y207 12 14).bind fun t239 => (if (t239 == false) = true then ((choose_Majority.f k y207 10 14).bind fun t240 => (some t240)) else (none))) else (none)) else (none)) else (none))) = some r := by first | (rw [hy235]; with_reducible exact H) | (have H2_ := (Option.bind_some _ _).symm.trans H; rw [hy235]; with_reducible exact H2_) | (have H2_ := (Option.bind_some _ _).symm.trans H; with_reducible exact H2_) | with_reducible exact H | (rw [hy235]; exact H) | exact H
    have Ny235 := Aside0.mk hy235
    clear hy235
    replace H := Option.bind_eq_some_iff.mp H
    obtain ⟨t238, A80, H⟩ := H
    replace H : (if t238 = true then (if t218 = 0 then (if t229 = 11 then ((choose_Majority.f k y207 12 14).bind fun t239 => (if (t239 == false) = true then ((choose_Majority.f k y207 10 14).bind fun t240 => (some t240)) else (none))) else (none)) else (none)) else (none)) = some r := H
    have A8 := Aside0.mk A80
    clear A80
    by_cases c9 : t238 = true
    ·subst c9
     have H1 : (if t218 = 0 then (if t229 = 11 then ((choose_Majority.f k y207 12 14).bind fun t239 => (if (t239 == false) = true then ((choose_Majority.f k y207 10 14).bind fun t240 => (some t240)) else (none))) else (none)) else (none)) = some r := by rw [if_pos rfl] at H; exact H
     clear H
     have H := H1
     clear H1
     by_cases c10 : t218 = 0
     ·rw [if_pos c10] at H
      have c10b0 : (t218 == 0) = true := beq_iff_eq.mpr c10
      have c10b1 : (t218 != 0) = false := bne_eq_false_iff_eq.mpr c10
      clear c10
      by_cases c11 : t229 = 11
      ·rw [if_pos c11] at H
       have c11b0 : (t229 == 11) = true := beq_iff_eq.mpr c11
       have c11b1 : (t229 != 11) = false := bne_eq_false_iff_eq.mpr c11
       clear c11
       replace H := Option.bind_eq_some_iff.mp H
       obtain ⟨t239, A120, H⟩ := H
       replace H : (if (t239 == false) = true then ((choose_Majority.f k y207 10 14).bind fun t240 => (some t240)) else (none)) = some r := H
       have A12 := Aside0.mk A120
       clear A120
       by_cases c13 : (t239 == false) = true
       ·rw [if_pos c13] at H
        have c13b0 : (t239 == false) = true := c13
        (try (have c13b1 : decide (t239 = false) = true := by simpa using c13))
        (try (have c13b2 : (t239 == false) = true := by simpa using c13))
        clear c13
        replace H := Option.bind_eq_some_iff.mp H
        obtain ⟨t240, A140, H⟩ := H
        replace H : (some t240) = some r := H
        have A14 := Aside0.mk A140
        clear A140
        obtain rfl := Option.some.inj H
        go_enter Try.func14, Try.ntmps14
        go_wp2_with (first | ((with_reducible refine gate_dst (N := 13) rfl ?_); (try (refine gate_guard (by rfl) ?_; dsimp only)); refine Kd.R_lit k37 _ 37 ?hg (N := 13) ?hd (xs := ([(⟨1, 0, 10, 0, 1⟩ : S37), (⟨2, 4, 10, 0, 1⟩ : S37), (⟨3, 100, 5, 0, 1⟩ : S37)] : List (S37))) (inner := [.int .i64 1, .int .i64 0, .int .i64 10, .int .i64 0, .int .i64 1, .int .i64 2, .int .i64 4, .int .i64 10, .int .i64 0, .int .i64 1, .int .i64 3, .int .i64 100, .int .i64 5, .int .i64 0, .int .i64 1]) (ok := fun _ => True) (okp := fun _ => True) ?hr ?hp (fun _ hk => hk) trivial (Below.refl _ _) (Nat.le_refl _) (by simp) ?_; (case hd => rfl); (case hg => rfl); (case hr => first | (go_simp; done) | (go_simp; rfl)); (case hp => exact (Reps.c5 (show Kd.M k37 _ _ _ (⟨1, 0, 10, 0, 1⟩ : S37) [.int .i64 1, .int .i64 0, .int .i64 10, .int .i64 0, .int .i64 1] from (k37_mkM _ _ _ (⟨1, 0, 10, 0, 1⟩ : S37) )) (Reps.c5 (show Kd.M k37 _ _ _ (⟨2, 4, 10, 0, 1⟩ : S37) [.int .i64 2, .int .i64 4, .int .i64 10, .int .i64 0, .int .i64 1] from (k37_mkM _ _ _ (⟨2, 4, 10, 0, 1⟩ : S37) )) (Reps.c5 (show Kd.M k37 _ _ _ (⟨3, 100, 5, 0, 1⟩ : S37) [.int .i64 3, .int .i64 100, .int .i64 5, .int .i64 0, .int .i64 1] from (k37_mkM _ _ _ (⟨3, 100, 5, 0, 1⟩ : S37) )) (Reps.none _ _))))); intro v208 w15 ho16 hb hg_ hnew_; clear hg_ hnew_; (first | rw [← Ny207.out] at ho16 | (simp only [Int.reduceToNat] at ho16; rw [← Ny207.out] at ho16)); have n0_ := Aside0.mk (Kd.R_lower ho16 (below_size (by repeat (first | (with_reducible first | exact HB.out | apply below_alloc | apply pw_below_drewN | apply below_drew1) | exact HB.out)))); have n1_ := Aside0.mk (below_step (by repeat (first | (with_reducible first | exact HB.out | apply below_alloc | apply pw_below_drewN | apply below_drew1) | exact HB.out)) hb); clear HB; have HO209 := n0_; have HB := n1_; clear n0_ n1_; clear hb ho16; obtain ⟨Ao17, co17, eo17⟩ := Kd.R_slice HO209.out; subst eo17) | ((with_reducible refine gate_callee (f := 17) rfl ?_); refine goesL_ (some 16) rfl rfl Try.func17 (by kernel_rfl) rfl #[.slice Ao17 y207.length co17] rfl (by (try simp only [List.map_toArray, List.map_cons, List.map_nil]); first | done | rfl | (simp only [List.length_drop, List.length_take]; rfl)) ?_; (with_reducible refine (choose_Select.calls k _ _ y207 t210 t213 t214 t215 _ ?side1 ?side2 A1.out).mono ?_); (case side1 => repeat (first | exact (Kd.R_reads' HO209.out).2.2 | (with_reducible refine Kd.C_alloc ?_ _) | (with_reducible refine Kd.C_drewN ?_ _) | (with_reducible refine Kd.C_drew ?_))); (case side2 => exact (Kd.R_reads' HO209.out).2.1); rintro e w18 ⟨v211, rfl, ho0, hb⟩; refine ⟨_, rfl, ?_⟩; have n0_ := Aside0.mk (Kd.R_below (by (with_reducible repeat (first | apply Kd.R_alloc | apply Kd.R_drewN | apply Kd.R_drew)); exact HO209.out) hb); have n1_ := Aside0.mk (Kd.R_lower ho0 (below_size (by repeat (first | (with_reducible first | exact HB.out | apply below_alloc | apply pw_below_drewN | apply below_drew1) | exact HB.out)))); have n2_ := Aside0.mk (below_step (by repeat (first | (with_reducible first | exact HB.out | apply below_alloc | apply pw_below_drewN | apply below_drew1) | exact HB.out)) hb); clear HO209; clear HB; have HO209 := n0_; have HO212 := n1_; have HB := n2_; clear n0_ n1_ n2_; (try clear hb); (try clear hb2); (try clear hk); (try clear hi); (try clear ho0)) | ((with_reducible refine gate_dst (N := 3) rfl ?_); (try (refine gate_guard (by rfl) ?_; dsimp only)); refine box_event ?hg (N := 3) ?hd (cs := #[.int .i64 0, .int .i64 0]) (t := 29) ?hr ?_; (case hd => rfl); (case hg => rfl); (case hr => first | (go_simp; done) | (go_simp; rfl)); intro gb216 hg w19 hbox hb; have n0_ := Aside0.mk (Kd.R_below (by (with_reducible repeat (first | apply Kd.R_alloc | apply Kd.R_drewN | apply Kd.R_drew)); exact HO209.out) hb); have n1_ := Aside0.mk (Kd.R_below (by (with_reducible repeat (first | apply Kd.R_alloc | apply Kd.R_drewN | apply Kd.R_drew)); exact HO212.out) hb); have n2_ := Aside0.mk (below_step (by repeat (first | (with_reducible first | exact HB.out | apply below_alloc | apply pw_below_drewN | apply below_drew1) | exact HB.out)) hb); have n3_ := Aside0.mk (hbox); have n4_ := Aside0.mk ((by rw [hg]; exact (below_size (by repeat (first | (with_reducible first | exact HB.out | apply below_alloc | apply pw_below_drewN | apply below_drew1) | exact HB.out))) : w.heap.size ≤ gb216)); have n5_ := Aside0.mk ((by rw [hg]; exact (below_size (by repeat (first | (with_reducible first | exact HB.out | apply below_alloc | apply pw_below_drewN | apply below_drew1) | exact HB.out))) : w.heap.size ≤ gb216)); clear HO209; clear HO212; clear HB; have HO209 := n0_; have HO212 := n1_; have HB := n2_; have BK216 := n3_; have GW216 := n4_; have GE216 := n5_; clear n0_ n1_ n2_ n3_ n4_ n5_; clear hb hbox hg; have hcz20_0 : w19.cell? ⟨gb216, 0, none⟩ = some (.int .i64 0) := (blk_cell BK216.out 0).trans rfl; have hcz20_1 : w19.cell? ⟨gb216, 1, none⟩ = some (.int .i64 0) := (blk_cell BK216.out 1).trans rfl; have hfz20_0 := blk_frozen BK216.out 0; have hfz20_1 := blk_frozen BK216.out 1) | ((with_reducible refine gate_callee (f := 19) rfl ?_); refine goesL_ (some 22) rfl rfl Try.func19 (by kernel_rfl) rfl #[.slice Ao17 y207.length co17] rfl (by (try simp only [List.map_toArray, List.map_cons, List.map_nil]); first | done | rfl | (simp only [List.length_drop, List.length_take]; rfl)) ?_; (with_reducible refine (choose_Falsetickers.calls k _ _ y207 t217 t218 _ ?side1 ?side2 A2.out).mono ?_); (case side1 => refine (Kd.R_reads' (e := 37) (base := w.heap.size) (ok := fun k_ => True) (n := y207.length) (c := co17) ?_).2.2; exact (by (with_reducible repeat (first | apply Kd.R_alloc | apply Kd.R_drewN | apply Kd.R_drew)); exact (Kd.R_mono (Kd.R_far (p := ⟨gb216, 1, none⟩) (Kd.R_far (p := ⟨gb216, 0, none⟩) (Kd.R_types HO209.out BK216.out (by decide)) (fun _ hk => hk.2) (.int .i64 t213)) (fun _ hk => hk.2) (.int .i64 t214)) (fun _ h_ => h_.1)))); (case side2 => exact (Kd.R_reads' HO209.out).2.1); rintro e w21 ⟨v219, rfl, ho0, hb⟩; refine ⟨_, rfl, ?_⟩; have n0_ := Aside0.mk (Kd.R_below (by (with_reducible repeat (first | apply Kd.R_alloc | apply Kd.R_drewN | apply Kd.R_drew)); exact (Kd.R_mono (Kd.R_far (p := ⟨gb216, 1, none⟩) (Kd.R_far (p := ⟨gb216, 0, none⟩) (Kd.R_types HO209.out BK216.out (by decide)) (fun _ hk => hk.2) (.int .i64 t213)) (fun _ hk => hk.2) (.int .i64 t214)) (fun _ h_ => h_.1))) hb); have n1_ := Aside0.mk (Kd.R_elder' (by (with_reducible repeat (first | apply Kd.R_alloc | apply Kd.R_drewN | apply Kd.R_drew)); exact (Kd.R_mono (Kd.R_far (p := ⟨gb216, 1, none⟩) (Kd.R_far (p := ⟨gb216, 0, none⟩) (Kd.R_types HO212.out BK216.out (by decide)) (fun _ hk => hk.2) (.int .i64 t213)) (fun _ hk => hk.2) (.int .i64 t214)) (fun _ h_ => h_.1))) (Kd.R_base ho0) hb); have n2_ := Aside0.mk (Kd.R_lower (Kd.R_new' ho0 (Kd.R_lt (by (with_reducible repeat (first | apply Kd.R_alloc | apply Kd.R_drewN | apply Kd.R_drew)); exact (Kd.R_mono (Kd.R_far (p := ⟨gb216, 1, none⟩) (Kd.R_far (p := ⟨gb216, 0, none⟩) (Kd.R_types HO212.out BK216.out (by decide)) (fun _ hk => hk.2) (.int .i64 t213)) (fun _ hk => hk.2) (.int .i64 t214)) (fun _ h_ => h_.1))))) (below_size (by repeat (first | (with_reducible first | exact HB.out | apply below_alloc | apply pw_below_drewN | apply below_drew1 | refine below_set ?_ GE216.out) | exact HB.out)))); have n3_ := Aside0.mk (blk_below (g := gb216) (o := .cells #[.int .i64 t213, .int .i64 t214] 29 (0, 0)) (by (with_reducible repeat (first | refine blk_drewN ?_ _ | refine blk_drew ?_ | refine blk_alloc ?_ _)); refine blk_put (cs := #[.int .i64 t213, .int .i64 0]) ?_ 1 _ rfl; (with_reducible repeat (first | refine blk_drewN ?_ _ | refine blk_drew ?_ | refine blk_alloc ?_ _)); refine blk_put (cs := #[.int .i64 0, .int .i64 0]) ?_ 0 _ rfl; (with_reducible repeat (first | refine blk_drewN ?_ _ | refine blk_drew ?_ | refine blk_alloc ?_ _)); exact BK216.out) hb); have n4_ := Aside0.mk (below_step (by repeat (first | (with_reducible first | exact HB.out | apply below_alloc | apply pw_below_drewN | apply below_drew1 | refine below_set ?_ GE216.out) | exact HB.out)) hb); clear HO209; clear HO212; clear BK216; clear HB; have HO209 := n0_; have HO212 := n1_; have HO220 := n2_; have BK216 := n3_; have HB := n4_; clear n0_ n1_ n2_ n3_ n4_; (try clear hb); (try clear hb2); (try clear hk); (try clear hi); (try clear ho0)) | ((with_reducible refine gate_dst (N := 28) rfl ?_); (try (refine gate_guard (by rfl) ?_; dsimp only)); refine Kd.R_lit k37 _ 37 ?hg (N := 28) ?hd (xs := ([(⟨1, 0, 5, 0, 1⟩ : S37), (⟨2, 10, 5, 0, 1⟩ : S37)] : List (S37))) (inner := [.int .i64 1, .int .i64 0, .int .i64 5, .int .i64 0, .int .i64 1, .int .i64 2, .int .i64 10, .int .i64 5, .int .i64 0, .int .i64 1]) (ok := fun _ => True) (okp := fun _ => True) ?hr ?hp (fun _ hk => hk) trivial (Below.refl _ _) (Nat.le_refl _) (by simp) ?_; (case hd => rfl); (case hg => rfl); (case hr => first | (go_simp; done) | (go_simp; rfl)); (case hp => exact (Reps.c5 (show Kd.M k37 _ _ _ (⟨1, 0, 5, 0, 1⟩ : S37) [.int .i64 1, .int .i64 0, .int .i64 5, .int .i64 0, .int .i64 1] from (k37_mkM _ _ _ (⟨1, 0, 5, 0, 1⟩ : S37) )) (Reps.c5 (show Kd.M k37 _ _ _ (⟨2, 10, 5, 0, 1⟩ : S37) [.int .i64 2, .int .i64 10, .int .i64 5, .int .i64 0, .int .i64 1] from (k37_mkM _ _ _ (⟨2, 10, 5, 0, 1⟩ : S37) )) (Reps.none _ _)))); intro v222 w22 ho23 hb hg_ hnew_; clear hg_ hnew_; (first | rw [← Ny221.out] at ho23 | (simp only [Int.reduceToNat] at ho23; rw [← Ny221.out] at ho23)); have n0_ := Aside0.mk (Kd.R_elder' (by (with_reducible repeat (first | apply Kd.R_alloc | apply Kd.R_drewN | apply Kd.R_drew)); exact HO209.out) (Kd.R_base ho23) hb); have n1_ := Aside0.mk (Kd.R_below (by (with_reducible repeat (first | apply Kd.R_alloc | apply Kd.R_drewN | apply Kd.R_drew)); exact HO212.out) hb); have n2_ := Aside0.mk (Kd.R_below (by (with_reducible repeat (first | apply Kd.R_alloc | apply Kd.R_drewN | apply Kd.R_drew)); exact HO220.out) hb); have n3_ := Aside0.mk (Kd.R_lower (Kd.R_new' ho23 (Kd.R_lt (by (with_reducible repeat (first | apply Kd.R_alloc | apply Kd.R_drewN | apply Kd.R_drew)); exact HO209.out))) (below_size (by repeat (first | (with_reducible first | exact HB.out | apply below_alloc | apply pw_below_drewN | apply below_drew1 | refine below_set ?_ GE216.out) | exact HB.out)))); have n4_ := Aside0.mk (blk_below (g := gb216) (o := .cells #[.int .i64 t213, .int .i64 t214] 29 (0, 0)) (by (with_reducible repeat (first | refine blk_drewN ?_ _ | refine blk_drew ?_ | refine blk_alloc ?_ _)); exact BK216.out) hb); have n5_ := Aside0.mk (below_step (by repeat (first | (with_reducible first | exact HB.out | apply below_alloc | apply pw_below_drewN | apply below_drew1 | refine below_set ?_ GE216.out) | exact HB.out)) hb); clear HO209; clear HO212; clear HO220; clear BK216; clear HB; have HO209 := n0_; have HO212 := n1_; have HO220 := n2_; have HO223 := n3_; have BK216 := n4_; have HB := n5_; clear n0_ n1_ n2_ n3_ n4_ n5_; clear hb ho23; obtain ⟨Ao24, co24, eo24⟩ := Kd.R_slice HO223.out; subst eo24) | ((with_reducible refine gate_callee (f := 17) rfl ?_); refine goesL_ (some 29) rfl rfl Try.func17 (by kernel_rfl) rfl #[.slice Ao24 y221.length co24] rfl (by (try simp only [List.map_toArray, List.map_cons, List.map_nil]); first | done | rfl | (simp only [List.length_drop, List.length_take]; rfl)) ?_; (with_reducible refine (choose_Select.calls k _ _ y221 t224 t227 t228 t229 _ ?side1 ?side2 A3.out).mono ?_); (case side1 => repeat (first | exact (Kd.R_reads' HO223.out).2.2 | (with_reducible refine Kd.C_alloc ?_ _) | (with_reducible refine Kd.C_drewN ?_ _) | (with_reducible refine Kd.C_drew ?_))); (case side2 => exact (Kd.R_reads' HO223.out).2.1); rintro e w25 ⟨v225, rfl, ho0, hb⟩; refine ⟨_, rfl, ?_⟩; have n0_ := Aside0.mk (Kd.R_below (by (with_reducible repeat (first | apply Kd.R_alloc | apply Kd.R_drewN | apply Kd.R_drew)); exact HO209.out) hb); have n1_ := Aside0.mk (Kd.R_elder' (by (with_reducible repeat (first | apply Kd.R_alloc | apply Kd.R_drewN | apply Kd.R_drew)); exact HO212.out) (Kd.R_base ho0) hb); have n2_ := Aside0.mk (Kd.R_elder' (by (with_reducible repeat (first | apply Kd.R_alloc | apply Kd.R_drewN | apply Kd.R_drew)); exact HO220.out) (Kd.R_base ho0) hb); have n3_ := Aside0.mk (Kd.R_below (by (with_reducible repeat (first | apply Kd.R_alloc | apply Kd.R_drewN | apply Kd.R_drew)); exact HO223.out) hb); have n4_ := Aside0.mk (Kd.R_lower (Kd.R_new' (Kd.R_new' ho0 (Kd.R_lt (by (with_reducible repeat (first | apply Kd.R_alloc | apply Kd.R_drewN | apply Kd.R_drew)); exact HO212.out))) (Kd.R_lt (by (with_reducible repeat (first | apply Kd.R_alloc | apply Kd.R_drewN | apply Kd.R_drew)); exact HO220.out))) (below_size (by repeat (first | (with_reducible first | exact HB.out | apply below_alloc | apply pw_below_drewN | apply below_drew1 | refine below_set ?_ GE216.out) | exact HB.out)))); have n5_ := Aside0.mk (blk_below (g := gb216) (o := .cells #[.int .i64 t213, .int .i64 t214] 29 (0, 0)) (by (with_reducible repeat (first | refine blk_drewN ?_ _ | refine blk_drew ?_ | refine blk_alloc ?_ _)); exact BK216.out) hb); have n6_ := Aside0.mk (below_step (by repeat (first | (with_reducible first | exact HB.out | apply below_alloc | apply pw_below_drewN | apply below_drew1 | refine below_set ?_ GE216.out) | exact HB.out)) hb); clear HO209; clear HO212; clear HO220; clear HO223; clear BK216; clear HB; have HO209 := n0_; have HO212 := n1_; have HO220 := n2_; have HO223 := n3_; have HO226 := n4_; have BK216 := n5_; have HB := n6_; clear n0_ n1_ n2_ n3_ n4_ n5_ n6_; (try clear hb); (try clear hb2); (try clear hk); (try clear hi); (try clear ho0)) | ((with_reducible refine gate_dst (N := 8) rfl ?_); (try (refine gate_guard (by rfl) ?_; dsimp only)); refine box_event ?hg (N := 8) ?hd (cs := #[.int .i64 0, .int .i64 0]) (t := 29) ?hr ?_; (case hd => rfl); (case hg => rfl); (case hr => first | (go_simp; done) | (go_simp; rfl)); intro gb230 hg w26 hbox hb; have n0_ := Aside0.mk (Kd.R_below (by (with_reducible repeat (first | apply Kd.R_alloc | apply Kd.R_drewN | apply Kd.R_drew)); exact HO209.out) hb); have n1_ := Aside0.mk (Kd.R_below (by (with_reducible repeat (first | apply Kd.R_alloc | apply Kd.R_drewN | apply Kd.R_drew)); exact HO212.out) hb); have n2_ := Aside0.mk (Kd.R_below (by (with_reducible repeat (first | apply Kd.R_alloc | apply Kd.R_drewN | apply Kd.R_drew)); exact HO220.out) hb); have n3_ := Aside0.mk (Kd.R_below (by (with_reducible repeat (first | apply Kd.R_alloc | apply Kd.R_drewN | apply Kd.R_drew)); exact HO223.out) hb); have n4_ := Aside0.mk (Kd.R_below (by (with_reducible repeat (first | apply Kd.R_alloc | apply Kd.R_drewN | apply Kd.R_drew)); exact HO226.out) hb); have n5_ := Aside0.mk (blk_below (g := gb216) (o := .cells #[.int .i64 t213, .int .i64 t214] 29 (0, 0)) (by (with_reducible repeat (first | refine blk_drewN ?_ _ | refine blk_drew ?_ | refine blk_alloc ?_ _)); exact BK216.out) hb); have n6_ := Aside0.mk (below_step (by repeat (first | (with_reducible first | exact HB.out | apply below_alloc | apply pw_below_drewN | apply below_drew1 | refine below_set ?_ GE216.out) | exact HB.out)) hb); have n7_ := Aside0.mk (hbox); have n8_ := Aside0.mk ((by rw [hg]; exact (below_size (by repeat (first | (with_reducible first | exact HB.out | apply below_alloc | apply pw_below_drewN | apply below_drew1 | refine below_set ?_ GE216.out) | exact HB.out))) : w.heap.size ≤ gb230)); have n9_ := Aside0.mk ((by rw [hg]; exact (below_size (by repeat (first | (with_reducible first | exact HB.out | apply below_alloc | apply pw_below_drewN | apply below_drew1 | refine below_set ?_ GE216.out) | exact HB.out))) : w.heap.size ≤ gb230)); have n10_ := Aside0.mk ((by rw [hg]; exact Nat.ne_of_lt (blk_lt (g := gb216) (o := .cells #[.int .i64 t213, .int .i64 t214] 29 (0, 0)) (by (with_reducible repeat (first | refine blk_drewN ?_ _ | refine blk_drew ?_ | refine blk_alloc ?_ _)); exact BK216.out)) : gb216 ≠ gb230)); have n11_ := Aside0.mk ((by rw [hg]; exact Nat.ne_of_gt (blk_lt (g := gb216) (o := .cells #[.int .i64 t213, .int .i64 t214] 29 (0, 0)) (by (with_reducible repeat (first | refine blk_drewN ?_ _ | refine blk_drew ?_ | refine blk_alloc ?_ _)); exact BK216.out)) : gb230 ≠ gb216)); clear HO209; clear HO212; clear HO220; clear HO223; clear HO226; clear BK216; clear HB; have HO209 := n0_; have HO212 := n1_; have HO220 := n2_; have HO223 := n3_; have HO226 := n4_; have BK216 := n5_; have HB := n6_; have BK230 := n7_; have GW230 := n8_; have GE230 := n9_; have NB216_230 := n10_; have NB230_216 := n11_; clear n0_ n1_ n2_ n3_ n4_ n5_ n6_ n7_ n8_ n9_ n10_ n11_; clear hb hbox hg; have hnb27 := NB230_216.out; have hnc27 := NB216_230.out; have hcz28_0 : w26.cell? ⟨gb230, 0, none⟩ = some (.int .i64 0) := (blk_cell BK230.out 0).trans rfl; have hcz28_1 : w26.cell? ⟨gb230, 1, none⟩ = some (.int .i64 0) := (blk_cell BK230.out 1).trans rfl; have hfz28_0 := blk_frozen BK230.out 0; have hfz28_1 := blk_frozen BK230.out 1) | ((with_reducible refine gate_dst (N := 34) rfl ?_); (try (refine gate_guard (by rfl) ?_; dsimp only)); refine Kd.R_lit (Kd.int .i64) _ 3 ?hg (N := 34) ?hd (xs := ([0, 1] : List Int)) (inner := [.int .i64 0, .int .i64 1]) (ok := fun _ => True) (okp := fun _ => True) ?hr ?hp (fun _ hk => hk) trivial (Below.refl _ _) (Nat.le_refl _) (by simp) ?_; (case hd => rfl); (case hg => rfl); (case hr => first | (go_simp; done) | (go_simp; rfl)); (case hp => exact (Reps.one (show Kd.M (Kd.int .i64) _ _ _ 0 [.int .i64 0] from rfl) (Reps.one (show Kd.M (Kd.int .i64) _ _ _ 1 [.int .i64 1] from rfl) (Reps.none _ _)))); intro v232 w29 ho30 hb hg_ hnew_; clear hg_ hnew_; (first | rw [← Ny231.out] at ho30 | (simp only [Int.reduceToNat] at ho30; rw [← Ny231.out] at ho30)); have n0_ := Aside0.mk (Kd.R_below (by (with_reducible repeat (first | apply Kd.R_alloc | apply Kd.R_drewN | apply Kd.R_drew)); exact (Kd.R_mono (Kd.R_far (p := ⟨gb230, 1, none⟩) (Kd.R_far (p := ⟨gb230, 0, none⟩) (Kd.R_types HO209.out BK230.out (by decide)) (fun _ hk => hk.2) (.int .i64 t227)) (fun _ hk => hk.2) (.int .i64 t228)) (fun _ h_ => h_.1))) hb); have n1_ := Aside0.mk (Kd.R_elder' (by (with_reducible repeat (first | apply Kd.R_alloc | apply Kd.R_drewN | apply Kd.R_drew)); exact (Kd.R_mono (Kd.R_far (p := ⟨gb230, 1, none⟩) (Kd.R_far (p := ⟨gb230, 0, none⟩) (Kd.R_types HO212.out BK230.out (by decide)) (fun _ hk => hk.2) (.int .i64 t227)) (fun _ hk => hk.2) (.int .i64 t228)) (fun _ h_ => h_.1))) (Kd.R_base ho30) hb); have n2_ := Aside0.mk (Kd.R_elder' (by (with_reducible repeat (first | apply Kd.R_alloc | apply Kd.R_drewN | apply Kd.R_drew)); exact (Kd.R_mono (Kd.R_far (p := ⟨gb230, 1, none⟩) (Kd.R_far (p := ⟨gb230, 0, none⟩) (Kd.R_types HO220.out BK230.out (by decide)) (fun _ hk => hk.2) (.int .i64 t227)) (fun _ hk => hk.2) (.int .i64 t228)) (fun _ h_ => h_.1))) (Kd.R_base ho30) hb); have n3_ := Aside0.mk (Kd.R_below (by (with_reducible repeat (first | apply Kd.R_alloc | apply Kd.R_drewN | apply Kd.R_drew)); exact (Kd.R_mono (Kd.R_far (p := ⟨gb230, 1, none⟩) (Kd.R_far (p := ⟨gb230, 0, none⟩) (Kd.R_types HO223.out BK230.out (by decide)) (fun _ hk => hk.2) (.int .i64 t227)) (fun _ hk => hk.2) (.int .i64 t228)) (fun _ h_ => h_.1))) hb); have n4_ := Aside0.mk (Kd.R_elder' (by (with_reducible repeat (first | apply Kd.R_alloc | apply Kd.R_drewN | apply Kd.R_drew)); exact (Kd.R_mono (Kd.R_far (p := ⟨gb230, 1, none⟩) (Kd.R_far (p := ⟨gb230, 0, none⟩) (Kd.R_types HO226.out BK230.out (by decide)) (fun _ hk => hk.2) (.int .i64 t227)) (fun _ hk => hk.2) (.int .i64 t228)) (fun _ h_ => h_.1))) (Kd.R_base ho30) hb); have n5_ := Aside0.mk (Kd.R_lower (Kd.R_new' (Kd.R_new' (Kd.R_new' ho30 (Kd.R_lt (by (with_reducible repeat (first | apply Kd.R_alloc | apply Kd.R_drewN | apply Kd.R_drew)); exact (Kd.R_mono (Kd.R_far (p := ⟨gb230, 1, none⟩) (Kd.R_far (p := ⟨gb230, 0, none⟩) (Kd.R_types HO212.out BK230.out (by decide)) (fun _ hk => hk.2) (.int .i64 t227)) (fun _ hk => hk.2) (.int .i64 t228)) (fun _ h_ => h_.1))))) (Kd.R_lt (by (with_reducible repeat (first | apply Kd.R_alloc | apply Kd.R_drewN | apply Kd.R_drew)); exact (Kd.R_mono (Kd.R_far (p := ⟨gb230, 1, none⟩) (Kd.R_far (p := ⟨gb230, 0, none⟩) (Kd.R_types HO220.out BK230.out (by decide)) (fun _ hk => hk.2) (.int .i64 t227)) (fun _ hk => hk.2) (.int .i64 t228)) (fun _ h_ => h_.1))))) (Kd.R_lt (by (with_reducible repeat (first | apply Kd.R_alloc | apply Kd.R_drewN | apply Kd.R_drew)); exact (Kd.R_mono (Kd.R_far (p := ⟨gb230, 1, none⟩) (Kd.R_far (p := ⟨gb230, 0, none⟩) (Kd.R_types HO226.out BK230.out (by decide)) (fun _ hk => hk.2) (.int .i64 t227)) (fun _ hk => hk.2) (.int .i64 t228)) (fun _ h_ => h_.1))))) (below_size (by repeat (first | (with_reducible first | exact HB.out | apply below_alloc | apply pw_below_drewN | apply below_drew1 | refine below_set ?_ GE216.out | refine below_set ?_ GE230.out) | exact HB.out)))); have n6_ := Aside0.mk (blk_below (g := gb216) (o := .cells #[.int .i64 t213, .int .i64 t214] 29 (0, 0)) (by (with_reducible repeat (first | refine blk_drewN ?_ _ | refine blk_drew ?_ | refine blk_alloc ?_ _)); refine blk_far ?_ NB216_230.out _; (with_reducible repeat (first | refine blk_drewN ?_ _ | refine blk_drew ?_ | refine blk_alloc ?_ _)); refine blk_far ?_ NB216_230.out _; (with_reducible repeat (first | refine blk_drewN ?_ _ | refine blk_drew ?_ | refine blk_alloc ?_ _)); exact BK216.out) hb); have n7_ := Aside0.mk (blk_below (g := gb230) (o := .cells #[.int .i64 t227, .int .i64 t228] 29 (0, 0)) (by (with_reducible repeat (first | refine blk_drewN ?_ _ | refine blk_drew ?_ | refine blk_alloc ?_ _)); refine blk_put (cs := #[.int .i64 t227, .int .i64 0]) ?_ 1 _ rfl; (with_reducible repeat (first | refine blk_drewN ?_ _ | refine blk_drew ?_ | refine blk_alloc ?_ _)); refine blk_put (cs := #[.int .i64 0, .int .i64 0]) ?_ 0 _ rfl; (with_reducible repeat (first | refine blk_drewN ?_ _ | refine blk_drew ?_ | refine blk_alloc ?_ _)); exact BK230.out) hb); have n8_ := Aside0.mk (below_step (by repeat (first | (with_reducible first | exact HB.out | apply below_alloc | apply pw_below_drewN | apply below_drew1 | refine below_set ?_ GE216.out | refine below_set ?_ GE230.out) | exact HB.out)) hb); clear HO209; clear HO212; clear HO220; clear HO223; clear HO226; clear BK216; clear BK230; clear HB; have HO209 := n0_; have HO212 := n1_; have HO220 := n2_; have HO223 := n3_; have HO226 := n4_; have HO233 := n5_; have BK216 := n6_; have BK230 := n7_; have HB := n8_; clear n0_ n1_ n2_ n3_ n4_ n5_ n6_ n7_ n8_; clear hb ho30; obtain ⟨Ao31, co31, eo31⟩ := Kd.R_slice HO212.out; subst eo31; obtain ⟨Ao32, co32, eo32⟩ := Kd.R_slice HO233.out; subst eo32) | ((with_reducible refine gate_callee (f := 21) rfl ?_); refine goesL_ (some 35) rfl rfl Try.func21 (by kernel_rfl) rfl #[.slice Ao31 t210.length co31, .slice Ao32 y231.length co32] rfl (by (try simp only [List.map_toArray, List.map_cons, List.map_nil]); first | done | rfl | (simp only [List.length_drop, List.length_take]; rfl)) ?_; (with_reducible refine (slices_Equal_int_int.calls k _ _ t210 _ _ y231 true _ ?side1 ?side2 ?side3 ?side4 A4.out).mono ?_); (case side1 => repeat (first | exact (Kd.R_reads' HO212.out).2.2 | (with_reducible refine Kd.C_alloc ?_ _) | (with_reducible refine Kd.C_drewN ?_ _) | (with_reducible refine Kd.C_drew ?_))); (case side2 => exact (Kd.R_reads' HO212.out).2.1); (case side3 => repeat (first | exact (Kd.R_reads' HO233.out).2.2 | (with_reducible refine Kd.C_alloc ?_ _) | (with_reducible refine Kd.C_drewN ?_ _) | (with_reducible refine Kd.C_drew ?_))); (case side4 => exact (Kd.R_reads' HO233.out).2.1); rintro e w' ⟨rfl, ⟨nd, rfl⟩⟩; refine ⟨_, rfl, ?_⟩; have hcz33_0 : w29.cell? ⟨gb216, 0, none⟩ = some (.int .i64 t213) := (blk_cell BK216.out 0).trans rfl; have hcz33_1 : w29.cell? ⟨gb216, 1, none⟩ = some (.int .i64 t214) := (blk_cell BK216.out 1).trans rfl; have hfz33_0 := blk_frozen BK216.out 0; have hfz33_1 := blk_frozen BK216.out 1) | ((with_reducible refine gate_dst (N := 47) rfl ?_); (try (refine gate_guard (by rfl) ?_; dsimp only)); refine Kd.R_lit (Kd.int .i64) _ 3 ?hg (N := 47) ?hd (xs := ([2] : List Int)) (inner := [.int .i64 2]) (ok := fun _ => True) (okp := fun _ => True) ?hr ?hp (fun _ hk => hk) trivial (Below.refl _ _) (Nat.le_refl _) (by simp) ?_; (case hd => rfl); (case hg => rfl); (case hr => first | (go_simp; done) | (go_simp; rfl)); (case hp => exact (Reps.one (show Kd.M (Kd.int .i64) _ _ _ 2 [.int .i64 2] from rfl) (Reps.none _ _))); intro v236 w34 ho35 hb hg_ hnew_; clear hg_ hnew_; (first | rw [← Ny235.out] at ho35 | (simp only [Int.reduceToNat] at ho35; rw [← Ny235.out] at ho35)); have n0_ := Aside0.mk (Kd.R_below (by (with_reducible repeat (first | apply Kd.R_alloc | apply Kd.R_drewN | apply Kd.R_drew)); exact HO209.out) hb); have n1_ := Aside0.mk (Kd.R_elder' (by (with_reducible repeat (first | apply Kd.R_alloc | apply Kd.R_drewN | apply Kd.R_drew)); exact HO212.out) (Kd.R_base ho35) hb); have n2_ := Aside0.mk (Kd.R_elder' (by (with_reducible repeat (first | apply Kd.R_alloc | apply Kd.R_drewN | apply Kd.R_drew)); exact HO220.out) (Kd.R_base ho35) hb); have n3_ := Aside0.mk (Kd.R_below (by (with_reducible repeat (first | apply Kd.R_alloc | apply Kd.R_drewN | apply Kd.R_drew)); exact HO223.out) hb); have n4_ := Aside0.mk (Kd.R_elder' (by (with_reducible repeat (first | apply Kd.R_alloc | apply Kd.R_drewN | apply Kd.R_drew)); exact HO226.out) (Kd.R_base ho35) hb); have n5_ := Aside0.mk (Kd.R_elder' (by (with_reducible repeat (first | apply Kd.R_alloc | apply Kd.R_drewN | apply Kd.R_drew)); exact HO233.out) (Kd.R_base ho35) hb); have n6_ := Aside0.mk (Kd.R_lower (Kd.R_new' (Kd.R_new' (Kd.R_new' (Kd.R_new' ho35 (Kd.R_lt (by (with_reducible repeat (first | apply Kd.R_alloc | apply Kd.R_drewN | apply Kd.R_drew)); exact HO212.out))) (Kd.R_lt (by (with_reducible repeat (first | apply Kd.R_alloc | apply Kd.R_drewN | apply Kd.R_drew)); exact HO220.out))) (Kd.R_lt (by (with_reducible repeat (first | apply Kd.R_alloc | apply Kd.R_drewN | apply Kd.R_drew)); exact HO226.out))) (Kd.R_lt (by (with_reducible repeat (first | apply Kd.R_alloc | apply Kd.R_drewN | apply Kd.R_drew)); exact HO233.out))) (below_size (by repeat (first | (with_reducible first | exact HB.out | apply below_alloc | apply pw_below_drewN | apply below_drew1 | refine below_set ?_ GE216.out | refine below_set ?_ GE230.out) | exact HB.out)))); have n7_ := Aside0.mk (blk_below (g := gb216) (o := .cells #[.int .i64 t213, .int .i64 t214] 29 (0, 0)) (by (with_reducible repeat (first | refine blk_drewN ?_ _ | refine blk_drew ?_ | refine blk_alloc ?_ _)); exact BK216.out) hb); have n8_ := Aside0.mk (blk_below (g := gb230) (o := .cells #[.int .i64 t227, .int .i64 t228] 29 (0, 0)) (by (with_reducible repeat (first | refine blk_drewN ?_ _ | refine blk_drew ?_ | refine blk_alloc ?_ _)); exact BK230.out) hb); have n9_ := Aside0.mk (below_step (by repeat (first | (with_reducible first | exact HB.out | apply below_alloc | apply pw_below_drewN | apply below_drew1 | refine below_set ?_ GE216.out | refine below_set ?_ GE230.out) | exact HB.out)) hb); clear HO209; clear HO212; clear HO220; clear HO223; clear HO226; clear HO233; clear BK216; clear BK230; clear HB; have HO209 := n0_; have HO212 := n1_; have HO220 := n2_; have HO223 := n3_; have HO226 := n4_; have HO233 := n5_; have HO237 := n6_; have BK216 := n7_; have BK230 := n8_; have HB := n9_; clear n0_ n1_ n2_ n3_ n4_ n5_ n6_ n7_ n8_ n9_; clear hb ho35; obtain ⟨Ao36, co36, eo36⟩ := Kd.R_slice HO220.out; subst eo36; obtain ⟨Ao37, co37, eo37⟩ := Kd.R_slice HO237.out; subst eo37) | (go_at_call 21; (with_reducible refine (slices_Equal_int_int.calls k _ _ t217 _ _ y235 true _ ?side1 ?side2 ?side3 ?side4 A8.out).mono ?_); (case side1 => repeat (first | exact (Kd.R_reads' HO220.out).2.2 | (with_reducible refine Kd.C_alloc ?_ _) | (with_reducible refine Kd.C_drewN ?_ _) | (with_reducible refine Kd.C_drew ?_))); (case side2 => exact (Kd.R_reads' HO220.out).2.1); (case side3 => repeat (first | exact (Kd.R_reads' HO237.out).2.2 | (with_reducible refine Kd.C_alloc ?_ _) | (with_reducible refine Kd.C_drewN ?_ _) | (with_reducible refine Kd.C_drew ?_))); (case side4 => exact (Kd.R_reads' HO237.out).2.1); rintro e w' ⟨rfl, ⟨nd, rfl⟩⟩) | (go_at_call 22; (with_reducible refine (choose_Majority.calls k _ _ y207 12 14 t239 _ ?side1 ?side2 A12.out).mono ?_); (case side1 => repeat (first | exact (Kd.R_reads' HO209.out).2.2 | (with_reducible refine Kd.C_alloc ?_ _) | (with_reducible refine Kd.C_drewN ?_ _) | (with_reducible refine Kd.C_drew ?_))); (case side2 => exact (Kd.R_reads' HO209.out).2.1); rintro e w38 ⟨rfl, hb⟩; have n0_ := Aside0.mk (Kd.R_below (by (with_reducible repeat (first | apply Kd.R_alloc | apply Kd.R_drewN | apply Kd.R_drew)); exact HO209.out) hb); have n1_ := Aside0.mk (Kd.R_below (by (with_reducible repeat (first | apply Kd.R_alloc | apply Kd.R_drewN | apply Kd.R_drew)); exact HO212.out) hb); have n2_ := Aside0.mk (Kd.R_below (by (with_reducible repeat (first | apply Kd.R_alloc | apply Kd.R_drewN | apply Kd.R_drew)); exact HO220.out) hb); have n3_ := Aside0.mk (Kd.R_below (by (with_reducible repeat (first | apply Kd.R_alloc | apply Kd.R_drewN | apply Kd.R_drew)); exact HO223.out) hb); have n4_ := Aside0.mk (Kd.R_below (by (with_reducible repeat (first | apply Kd.R_alloc | apply Kd.R_drewN | apply Kd.R_drew)); exact HO226.out) hb); have n5_ := Aside0.mk (Kd.R_below (by (with_reducible repeat (first | apply Kd.R_alloc | apply Kd.R_drewN | apply Kd.R_drew)); exact HO233.out) hb); have n6_ := Aside0.mk (Kd.R_below (by (with_reducible repeat (first | apply Kd.R_alloc | apply Kd.R_drewN | apply Kd.R_drew)); exact HO237.out) hb); have n7_ := Aside0.mk (blk_below (g := gb216) (o := .cells #[.int .i64 t213, .int .i64 t214] 29 (0, 0)) (by (with_reducible repeat (first | refine blk_drewN ?_ _ | refine blk_drew ?_ | refine blk_alloc ?_ _)); exact BK216.out) hb); have n8_ := Aside0.mk (blk_below (g := gb230) (o := .cells #[.int .i64 t227, .int .i64 t228] 29 (0, 0)) (by (with_reducible repeat (first | refine blk_drewN ?_ _ | refine blk_drew ?_ | refine blk_alloc ?_ _)); exact BK230.out) hb); have n9_ := Aside0.mk (below_step (by repeat (first | (with_reducible first | exact HB.out | apply below_alloc | apply pw_below_drewN | apply below_drew1 | refine below_set ?_ GE216.out | refine below_set ?_ GE230.out) | exact HB.out)) hb); clear HO209; clear HO212; clear HO220; clear HO223; clear HO226; clear HO233; clear HO237; clear BK216; clear BK230; clear HB; have HO209 := n0_; have HO212 := n1_; have HO220 := n2_; have HO223 := n3_; have HO226 := n4_; have HO233 := n5_; have HO237 := n6_; have BK216 := n7_; have BK230 := n8_; have HB := n9_; clear n0_ n1_ n2_ n3_ n4_ n5_ n6_ n7_ n8_ n9_; (try clear hb); (try clear hb2); (try clear hk); (try clear hi)) | (go_at_call 22; (with_reducible refine (choose_Majority.calls k _ _ y207 10 14 t240 _ ?side1 ?side2 A14.out).mono ?_); (case side1 => repeat (first | exact (Kd.R_reads' HO209.out).2.2 | (with_reducible refine Kd.C_alloc ?_ _) | (with_reducible refine Kd.C_drewN ?_ _) | (with_reducible refine Kd.C_drew ?_))); (case side2 => exact (Kd.R_reads' HO209.out).2.1); rintro e w39 ⟨rfl, hb⟩; have n0_ := Aside0.mk (Kd.R_below (by (with_reducible repeat (first | apply Kd.R_alloc | apply Kd.R_drewN | apply Kd.R_drew)); exact HO209.out) hb); have n1_ := Aside0.mk (Kd.R_below (by (with_reducible repeat (first | apply Kd.R_alloc | apply Kd.R_drewN | apply Kd.R_drew)); exact HO212.out) hb); have n2_ := Aside0.mk (Kd.R_below (by (with_reducible repeat (first | apply Kd.R_alloc | apply Kd.R_drewN | apply Kd.R_drew)); exact HO220.out) hb); have n3_ := Aside0.mk (Kd.R_below (by (with_reducible repeat (first | apply Kd.R_alloc | apply Kd.R_drewN | apply Kd.R_drew)); exact HO223.out) hb); have n4_ := Aside0.mk (Kd.R_below (by (with_reducible repeat (first | apply Kd.R_alloc | apply Kd.R_drewN | apply Kd.R_drew)); exact HO226.out) hb); have n5_ := Aside0.mk (Kd.R_below (by (with_reducible repeat (first | apply Kd.R_alloc | apply Kd.R_drewN | apply Kd.R_drew)); exact HO233.out) hb); have n6_ := Aside0.mk (Kd.R_below (by (with_reducible repeat (first | apply Kd.R_alloc | apply Kd.R_drewN | apply Kd.R_drew)); exact HO237.out) hb); have n7_ := Aside0.mk (blk_below (g := gb216) (o := .cells #[.int .i64 t213, .int .i64 t214] 29 (0, 0)) (by (with_reducible repeat (first | refine blk_drewN ?_ _ | refine blk_drew ?_ | refine blk_alloc ?_ _)); exact BK216.out) hb); have n8_ := Aside0.mk (blk_below (g := gb230) (o := .cells #[.int .i64 t227, .int .i64 t228] 29 (0, 0)) (by (with_reducible repeat (first | refine blk_drewN ?_ _ | refine blk_drew ?_ | refine blk_alloc ?_ _)); exact BK230.out) hb); have n9_ := Aside0.mk (below_step (by repeat (first | (with_reducible first | exact HB.out | apply below_alloc | apply pw_below_drewN | apply below_drew1 | refine below_set ?_ GE216.out | refine below_set ?_ GE230.out) | exact HB.out)) hb); clear HO209; clear HO212; clear HO220; clear HO223; clear HO226; clear HO233; clear HO237; clear BK216; clear BK230; clear HB; have HO209 := n0_; have HO212 := n1_; have HO220 := n2_; have HO223 := n3_; have HO226 := n4_; have HO233 := n5_; have HO237 := n6_; have BK216 := n7_; have BK230 := n8_; have HB := n9_; clear n0_ n1_ n2_ n3_ n4_ n5_ n6_ n7_ n8_ n9_; (try clear hb); (try clear hb2); (try clear hk); (try clear hi)))
        go_ret
        exact ⟨by first | rfl | (simp [errW_none, errW_some] <;> rfl) | (simp [*, errW_none, errW_some] <;> rfl), by repeat (first | (with_reducible first | exact HB.out | apply below_alloc | apply pw_below_drewN | apply below_drew1 | refine below_set ?_ GE216.out | refine below_set ?_ GE230.out) | exact HB.out)⟩
       ·rw [if_neg c13] at H
        exact absurd H (by simp)
      ·rw [if_neg c11] at H
       exact absurd H (by simp)
     ·rw [if_neg c10] at H
      exact absurd H (by simp)
    ·replace c9 := Bool.eq_false_iff.mpr c9
     subst c9
     have H1 : (none) = some r := by rw [if_neg (show ¬ (false = true) by decide)] at H; exact H
     clear H
     have H := H1
     clear H1
     exact absurd H (by simp)
   ·rw [if_neg c7] at H
    exact absurd H (by simp)
  ·rw [if_neg c6] at H
   exact absurd H (by simp)
 ·replace c5 := Bool.eq_false_iff.mpr c5
  subst c5
  have H1 : (none) = some r := by rw [if_neg (show ¬ (false = true) by decide)] at H; exact H
  clear H
  have H := H1
  clear H1
  exact absurd H (by simp)

end Go.Proofs.Ytlfilhplklifjaa.X

namespace Go.Proofs.Ytlfilhplklifjaa.X
open Go.RowKit Go.Proofs.YtlfilhplklifjaaW.PrintWords Go.Proofs.YtlfilhplklifjaaW.PrintLast Go.Proofs.YtlfilhplklifjaaW.PrintMore
attribute [local go_sem] max2_int min2_int max_two min_two max_three min_three max_four min_four   -- for this text's walks alone
set_option linter.unusedVariables false
set_option linter.unusedSimpArgs false

/-! ### slices_Max_int32_int32: function 30 -/
def slices_Max_int32_int32.l0 : Nat → List Int → Int → Int → Option (Int)
 | 0, _, _, _ => none
 | k + 1, x0, x3, x4 => if x4 < (x0.length : Int) then (if 0 ≤ x4 then (slices_Max_int32_int32.l0 k x0 (mx x3 (rd x0 x4)) (wrap64 (x4 + 1))) else (none)) else (some x3)
def slices_Max_int32_int32.f (k : Nat) (l0 : List Int) : Option (Int) := if (l0.length : Int) < 1 then (none) else (if 0 < (l0.length : Int) then (slices_Max_int32_int32.l0 k l0 (rd l0 0) 1) else (none))
set_option maxHeartbeats 8000000 in
set_option maxRecDepth 100000 in
theorem slices_Max_int32_int32.calls (k : Nat) (A0 : Option Addr) (c0 : Nat) (l0 : List Int) (r : Int) (w : World) (hr0 : Kd.C (Kd.int .i32) w A0 l0.length l0) (hc0 : l0.length ≤ c0) (h : slices_Max_int32_int32.f k l0 = some r) :
  Calls Try.prog 30 #[.slice A0 l0.length c0] w fun e w' => e = .returned (.int .i32 r) ∧ Below w.heap.size w w' := by
 have HR0 := Aside0.mk hr0
 have HC0 := Aside0.mk hc0
 clear hr0 hc0
 have HB := Aside0.mk (Below.refl w.heap.size w)
 have H : (if (l0.length : Int) < 1 then (none) else (if 0 < (l0.length : Int) then (slices_Max_int32_int32.l0 k l0 (rd l0 0) 1) else (none))) = some r := h
 clear h
 by_cases c2 : (l0.length : Int) < 1
 ·rw [if_pos c2] at H
  exact absurd H (by simp)
 ·rw [if_neg c2] at H
  have c2b0 : decide ((l0.length : Int) < 1) = false := decide_eq_false c2
  have c2b1 : decide (l0.length < 1) = false := decide_eq_false (by omega)
  clear c2
  by_cases c3 : 0 < (l0.length : Int)
  ·rw [if_pos c3] at H
   have c3b0 : decide (0 < (l0.length : Int)) = true := decide_eq_true c3
   have c3b1 : decide (0 < l0.length) = true := decide_eq_true (by omega)
   clear c3
   have H' := Aside0.mk H
   clear H
   have p439 : 0 ≤ (0 : Int) := (by omega)
   have q439 : 0 < (l0.length : Int) := of_decide_eq_true (by first | (with_reducible assumption) | assumption)
   obtain ⟨ad439, e439, hx439_0⟩ := Kd.at_int HR0.out 0 p439 q439
   cases e439
   have qi439 : (0 < l0.length) = True := eq_true (by omega)
   (try rw [show ((0 : Int)).toNat = 0 from rfl] at hx439_0)
   (try rw [Addr.add_zero'] at hx439_0)
   replace p439 := eq_true p439
   replace q439 := eq_true q439
   go_enter Try.func30, Try.ntmps30
   go_wp2
   go_loopg [3, 4] k (fun kq v3 v4 w' => ∃ (x3_1 : Int) (x4_1 : Int), v3 = .int .i32 x3_1 ∧ v4 = .int .i64 x4_1 ∧ Aside0 (slices_Max_int32_int32.l0 kq l0 x3_1 x4_1 = some r) ∧ Aside0 (kq ≤ k) ∧ Aside0 (Below w.heap.size w w'))
   case atStart => exact ⟨(rd l0 0), (1), (by first | rfl | (simp; done) | (simp [*]; done)), (by first | rfl | (simp; done) | (simp [*]; done)), H', ⟨Nat.le_refl _⟩, ⟨by repeat (first | (with_reducible first | exact HB.out | apply below_alloc | apply pw_below_drewN | apply below_drew1) | exact HB.out)⟩⟩
   case round =>
    clear H'
    try clear c2
    try clear c2b0
    try clear c2b1
    try clear p2
    try clear c3
    try clear c3b0
    try clear c3b1
    try clear hx439_0
    try clear p439
    try clear q439
    obtain ⟨x3_1, x4_1, rfl, rfl, HA, HK1, HB⟩ := hrel
    cases gk with
    | zero => exact absurd HA.out (by simp [slices_Max_int32_int32.l0])
    | succ k1 =>
     have H := HA.out
     clear HA
     simp only [slices_Max_int32_int32.l0] at H
     by_cases c4 : x4_1 < (l0.length : Int)
     ·rw [if_pos c4] at H
      have c4b0 : decide (x4_1 < (l0.length : Int)) = true := decide_eq_true c4
      clear c4
      by_cases c5 : 0 ≤ x4_1
      ·rw [if_pos c5] at H
       have c5b0 : decide (0 ≤ x4_1) = true := decide_eq_true c5
       clear c5
       obtain ⟨ji6, hji6⟩ : ∃ j_ : Int, (mx x3_1 (rd l0 x4_1)) = j_ := ⟨_, rfl⟩
       replace H : (slices_Max_int32_int32.l0 k1 l0 ji6 (wrap64 (x4_1 + 1))) = some r := by first | (rw [hji6] at H; exact H) | (simp only [hji6] at H ⊢; exact H)
       have hji6_ : (if x3_1 < (rd l0 x4_1) then (rd l0 x4_1) else x3_1) = ji6 := hji6
       have H' := Aside0.mk H
       clear H
       have p440 : 0 ≤ (x4_1 : Int) := of_decide_eq_true (by first | (with_reducible assumption) | assumption)
       have q440 : x4_1 < (l0.length : Int) := of_decide_eq_true (by first | (with_reducible assumption) | assumption)
       obtain ⟨ad440, e440, hx440_0⟩ := Kd.at_int HR0.out x4_1 p440 q440
       obtain rfl : ad439 = ad440 := (by injection e440)
       replace hx440_0 := (HB.out.cell (World.block_lt_of_cell? w _ hx440_0)).trans hx440_0
       replace p440 := eq_true p440
       replace q440 := eq_true q440
       go_wp2
       go_roundg k1
       case measure => have := HK1.out; omega
       case rel => exact ⟨(ji6), (wrap64 (x4_1 + 1)), (by first | rfl | (simp; done) | (simp only [← hji6] <;> (first | rfl | simp)) | (simp [*]; done)), (by first | rfl | (simp; done) | (simp [*]; done)), H', ⟨by have := HK1.out; omega⟩, ⟨by repeat (first | (with_reducible first | exact HB.out | apply below_alloc | apply pw_below_drewN | apply below_drew1) | exact HB.out)⟩⟩
      ·rw [if_neg c5] at H
       exact absurd H (by simp)
     ·rw [if_neg c4] at H
      have c4b0 : decide (x4_1 < (l0.length : Int)) = false := decide_eq_false c4
      clear c4
      obtain rfl := Option.some.inj H
      go_wp2
      go_ret
      exact ⟨by first | rfl | (simp [errW_none, errW_some] <;> rfl) | (simp [*, errW_none, errW_some] <;> rfl), by repeat (first | (with_reducible first | exact HB.out | apply below_alloc | apply pw_below_drewN | apply below_drew1) | exact HB.out)⟩
  ·rw [if_neg c3] at H
   exact absurd H (by simp)

end Go.Proofs.Ytlfilhplklifjaa.X

namespace Go.Proofs.Ytlfilhplklifjaa.X
open Go.RowKit Go.Proofs.YtlfilhplklifjaaW.PrintWords Go.Proofs.YtlfilhplklifjaaW.PrintLast Go.Proofs.YtlfilhplklifjaaW.PrintMore
attribute [local go_sem] max2_int min2_int max_two min_two max_three min_three max_four min_four   -- for this text's walks alone
set_option linter.unusedVariables false
set_option linter.unusedSimpArgs false

/-! ### slices_Min_int32_int32: function 31 -/
def slices_Min_int32_int32.l0 : Nat → List Int → Int → Int → Option (Int)
 | 0, _, _, _ => none
 | k + 1, x0, x3, x4 => if x4 < (x0.length : Int) then (if 0 ≤ x4 then (slices_Min_int32_int32.l0 k x0 (mn x3 (rd x0 x4)) (wrap64 (x4 + 1))) else (none)) else (some x3)
def slices_Min_int32_int32.f (k : Nat) (l0 : List Int) : Option (Int) := if (l0.length : Int) < 1 then (none) else (if 0 < (l0.length : Int) then (slices_Min_int32_int32.l0 k l0 (rd l0 0) 1) else (none))
set_option maxHeartbeats 8000000 in
set_option maxRecDepth 100000 in
theorem slices_Min_int32_int32.calls (k : Nat) (A0 : Option Addr) (c0 : Nat) (l0 : List Int) (r : Int) (w : World) (hr0 : Kd.C (Kd.int .i32) w A0 l0.length l0) (hc0 : l0.length ≤ c0) (h : slices_Min_int32_int32.f k l0 = some r) :
  Calls Try.prog 31 #[.slice A0 l0.length c0] w fun e w' => e = .returned (.int .i32 r) ∧ Below w.heap.size w w' := by
 have HR0 := Aside0.mk hr0
 have HC0 := Aside0.mk hc0
 clear hr0 hc0
 have HB := Aside0.mk (Below.refl w.heap.size w)
 have H : (if (l0.length : Int) < 1 then (none) else (if 0 < (l0.length : Int) then (slices_Min_int32_int32.l0 k l0 (rd l0 0) 1) else (none))) = some r := h
 clear h
 by_cases c2 : (l0.length : Int) < 1
 ·rw [if_pos c2] at H
  exact absurd H (by simp)
 ·rw [if_neg c2] at H
  have c2b0 : decide ((l0.length : Int) < 1) = false := decide_eq_false c2
  have c2b1 : decide (l0.length < 1) = false := decide_eq_false (by omega)
  clear c2
  by_cases c3 : 0 < (l0.length : Int)
  ·rw [if_pos c3] at H
   have c3b0 : decide (0 < (l0.length : Int)) = true := decide_eq_true c3
   have c3b1 : decide (0 < l0.length) = true := decide_eq_true (by omega)
   clear c3
   have H' := Aside0.mk H
   clear H
   have p441 : 0 ≤ (0 : Int) := (by omega)
   have q441 : 0 < (l0.length : Int) := of_decide_eq_true (by first | (with_reducible assumption) | assumption)
   obtain ⟨ad441, e441, hx441_0⟩ := Kd.at_int HR0.out 0 p441 q441
   cases e441
   have qi441 : (0 < l0.length) = True := eq_true (by omega)
   (try rw [show ((0 : Int)).toNat = 0 from rfl] at hx441_0)
   (try rw [Addr.add_zero'] at hx441_0)
   replace p441 := eq_true p441
   replace q441 := eq_true q441
   go_enter Try.func31, Try.ntmps31
   go_wp2
   go_loopg [3, 4] k (fun kq v3 v4 w' => ∃ (x3_1 : Int) (x4_1 : Int), v3 = .int .i32 x3_1 ∧ v4 = .int .i64 x4_1 ∧ Aside0 (slices_Min_int32_int32.l0 kq l0 x3_1 x4_1 = some r) ∧ Aside0 (kq ≤ k) ∧ Aside0 (Below w.heap.size w w'))
   case atStart => exact ⟨(rd l0 0), (1), (by first | rfl | (simp; done) | (simp [*]; done)), (by first | rfl | (simp; done) | (simp [*]; done)), H', ⟨Nat.le_refl _⟩, ⟨by repeat (first | (with_reducible first | exact HB.out | apply below_alloc | apply pw_below_drewN | apply below_drew1) | exact HB.out)⟩⟩
   case round =>
    clear H'
    try clear c2
    try clear c2b0
    try clear c2b1
    try clear p2
    try clear c3
    try clear c3b0
    try clear c3b1
    try clear hx441_0
    try clear p441
    try clear q441
    obtain ⟨x3_1, x4_1, rfl, rfl, HA, HK1, HB⟩ := hrel
    cases gk with
    | zero => exact absurd HA.out (by simp [slices_Min_int32_int32.l0])
    | succ k1 =>
     have H := HA.out
     clear HA
     simp only [slices_Min_int32_int32.l0] at H
     by_cases c4 : x4_1 < (l0.length : Int)
     ·rw [if_pos c4] at H
      have c4b0 : decide (x4_1 < (l0.length : Int)) = true := decide_eq_true c4
      clear c4
      by_cases c5 : 0 ≤ x4_1
      ·rw [if_pos c5] at H
       have c5b0 : decide (0 ≤ x4_1) = true := decide_eq_true c5
       clear c5
       obtain ⟨ji6, hji6⟩ : ∃ j_ : Int, (mn x3_1 (rd l0 x4_1)) = j_ := ⟨_, rfl⟩
       replace H : (slices_Min_int32_int32.l0 k1 l0 ji6 (wrap64 (x4_1 + 1))) = some r := by first | (rw [hji6] at H; exact H) | (simp only [hji6] at H ⊢; exact H)
       have hji6_ : (if (rd l0 x4_1) < x3_1 then (rd l0 x4_1) else x3_1) = ji6 := hji6
       have H' := Aside0.mk H
       clear H
       have p442 : 0 ≤ (x4_1 : Int) := of_decide_eq_true (by first | (with_reducible assumption) | assumption)
       have q442 : x4_1 < (l0.length : Int) := of_decide_eq_true (by first | (with_reducible assumption) | assumption)
       obtain ⟨ad442, e442, hx442_0⟩ := Kd.at_int HR0.out x4_1 p442 q442
       obtain rfl : ad441 = ad442 := (by injection e442)
       replace hx442_0 := (HB.out.cell (World.block_lt_of_cell? w _ hx442_0)).trans hx442_0
       replace p442 := eq_true p442
       replace q442 := eq_true q442
       go_wp2
       go_roundg k1
       case measure => have := HK1.out; omega
       case rel => exact ⟨(ji6), (wrap64 (x4_1 + 1)), (by first | rfl | (simp; done) | (simp only [← hji6] <;> (first | rfl | simp)) | (simp [*]; done)), (by first | rfl | (simp; done) | (simp [*]; done)), H', ⟨by have := HK1.out; omega⟩, ⟨by repeat (first | (with_reducible first | exact HB.out | apply below_alloc | apply pw_below_drewN | apply below_drew1) | exact HB.out)⟩⟩
      ·rw [if_neg c5] at H
       exact absurd H (by simp)
     ·rw [if_neg c4] at H
      have c4b0 : decide (x4_1 < (l0.length : Int)) = false := decide_eq_false c4
      clear c4
      obtain rfl := Option.some.inj H
      go_wp2
      go_ret
      exact ⟨by first | rfl | (simp [errW_none, errW_some] <;> rfl) | (simp [*, errW_none, errW_some] <;> rfl), by repeat (first | (with_reducible first | exact HB.out | apply below_alloc | apply pw_below_drewN | apply below_drew1) | exact HB.out)⟩
  ·rw [if_neg c3] at H
   exact absurd H (by simp)

end Go.Proofs.Ytlfilhplklifjaa.X

namespace Go.Proofs.Ytlfilhplklifjaa.X
open Go.RowKit Go.Proofs.YtlfilhplklifjaaW.PrintWords Go.Proofs.YtlfilhplklifjaaW.PrintLast Go.Proofs.YtlfilhplklifjaaW.PrintMore
attribute [local go_sem] max2_int min2_int max_two min_two max_three min_three max_four min_four   -- for this text's walks alone
set_option linter.unusedVariables false
set_option linter.unusedSimpArgs false

attribute [local go_sem high] eqA29
/-! ### timesynclaw24_ChooseTogether: function 9 -/
def timesynclaw24_ChooseTogether.l0 : Nat → List Int → Int → List (S37) → Int → Int → List Int → Int → Int → Option (Bool)
 | 0, _, _, _, _, _, _, _, _ => none
 | k + 1, x1, x5, x6, x7, x8, x33, x34, x35 => if x35 < x34 then (if 0 ≤ x35 then (if x35 < (x33.length : Int) then (if x35 < (x1.length : Int) then (if x6.length < 3518437208883 then (timesynclaw24_ChooseTogether.l0 k x1 x5 (x6 ++ [(⟨wrap64 (100 - x35), wrap64 (rd x33 x35), wrap64 (x5 + (wrap64 (rd x1 x35))), 0, 2⟩ : S37)]) (mx x7 (wrap64 ((wrap64 (rd x33 x35)) - (wrap64 (x5 + (wrap64 (rd x1 x35))))))) (mn x8 (wrap64 ((wrap64 (rd x33 x35)) + (wrap64 (x5 + (wrap64 (rd x1 x35))))))) x33 x34 (wrap64 (x35 + 1))) else (none)) else (if x6.length < 3518437208883 then (timesynclaw24_ChooseTogether.l0 k x1 x5 (x6 ++ [(⟨wrap64 (100 - x35), wrap64 (rd x33 x35), x5, 0, 2⟩ : S37)]) (mx x7 (wrap64 ((wrap64 (rd x33 x35)) - x5))) (mn x8 (wrap64 ((wrap64 (rd x33 x35)) + x5))) x33 x34 (wrap64 (x35 + 1))) else (none))) else (none)) else (none)) else ((choose_Select.f k x6).bind fun bt459 => ((choose_Falsetickers.f k x6).bind fun bt466 => (if bt459.2.2.2 = 0 then (if bt466.2 = 0 then (if (bt459.1.length : Int) = (x6.length : Int) then (if (bt466.1.length : Int) = 0 then (if (bt459.2.1 == x7 && (bt459.2.2.1 == x8)) = true then ((timesynclaw24_awake.f k).bind fun t470 => (some t470)) else (none)) else (none)) else (none)) else (none)) else (none))))
def timesynclaw24_ChooseTogether.f (k : Nat) (l0 : List Int) (l1 : List Int) : Option (Bool) := if 0 ≤ (mn (l0.length : Int) 12) then (if (mn (l0.length : Int) 12) ≤ (l0.length : Int) then ((some (l0.take ((mn (l0.length : Int) 12) : Int).toNat : List Int)).bind fun y443 => (if (y443.length : Int) = 0 then ((timesynclaw24_awake.f k).bind fun t447 => (some t447)) else ((slices_Max_int32_int32.f k y443).bind fun t448 => ((slices_Min_int32_int32.f k y443).bind fun t449 => (timesynclaw24_ChooseTogether.l0 k l1 (wrap64 ((wrap64 (t448)) - (wrap64 (t449)))) ([] : List (S37)) (-4611686018427387904) 4611686018427387904 y443 (y443.length : Int) 0))))) else (none)) else (none)
def timesynclaw24_ChooseTogether.T12 : Bool × List (List Nat × List Nat) := (true, [([], []), ([0], [0]), ([], []), ([], []), ([2, 3], [2, 3]), ([4], [4]), ([5], [5]), ([1, 6], [1, 6]), ([0, 1, 2, 3, 4, 5, 6, 7], []), ([8, 7, 0, 1, 2, 3, 4, 5, 6, 7], [7, 8])])
def timesynclaw24_ChooseTogether.B12 : List Nat := [0, 1, 0, 0, 12, 28, 60, 127, 255, 511]
theorem timesynclaw24_ChooseTogether.tab12 : rtab .any (opsOf Try.f9 12) = timesynclaw24_ChooseTogether.T12 := by kernel_rfl
theorem timesynclaw24_ChooseTogether.bits12 : waitsOk timesynclaw24_ChooseTogether.T12.2 timesynclaw24_ChooseTogether.B12 = true := by kernel_rfl
def timesynclaw24_ChooseTogether.T13 : Bool × List (List Nat × List Nat) := (true, [([], []), ([], []), ([1], [1]), ([], []), ([3], [3]), ([2, 4], [2, 4]), ([0, 5], [0, 5]), ([], []), ([], []), ([8], [8]), ([], []), ([10], [10]), ([9, 11], [9, 11]), ([7, 12], [7, 12]), ([6, 0, 1, 2, 3, 4, 5, 6], [0, 6]), ([13, 14, 0, 1, 2, 3, 4, 5, 6, 7, 8, 9, 10, 11, 12, 13, 14], [7, 13])])
def timesynclaw24_ChooseTogether.B13 : List Nat := [0, 0, 2, 0, 8, 30, 63, 0, 0, 256, 0, 1024, 3840, 8064, 127, 32767]
theorem timesynclaw24_ChooseTogether.tab13 : rtab .any (opsOf Try.f9 13) = timesynclaw24_ChooseTogether.T13 := by kernel_rfl
theorem timesynclaw24_ChooseTogether.bits13 : waitsOk timesynclaw24_ChooseTogether.T13.2 timesynclaw24_ChooseTogether.B13 = true := by kernel_rfl
set_option maxHeartbeats 8000000 in
set_option maxRecDepth 100000 in
theorem timesynclaw24_ChooseTogether.calls (k : Nat) (A0 : Option Addr) (c0 : Nat) (l0 : List Int) (A1 : Option Addr) (c1 : Nat) (l1 : List Int) (r : Bool) (w : World) (hr0 : Kd.C (Kd.int .i32) w A0 l0.length l0) (hc0 : l0.length ≤ c0) (hr1 : Kd.C (Kd.int .u16) w A1 l1.length l1) (hc1 : l1.length ≤ c1) (h : timesynclaw24_ChooseTogether.f k l0 l1 = some r) :
  Calls Try.prog 9 #[.slice A0 l0.length c0, .slice A1 l1.length c1] w fun e w' => e = .returned (.bool r) ∧ Below w.heap.size w w' := by
 have hu37 := Try.underlying37
 have hu29 := Try.underlying29
 have HR0 := Aside0.mk hr0
 have HC0 := Aside0.mk hc0
 clear hr0 hc0
 have HR1 := Aside0.mk hr1
 have HC1 := Aside0.mk hc1
 clear hr1 hc1
 have HB := Aside0.mk (Below.refl w.heap.size w)
 have H : (if 0 ≤ (mn (l0.length : Int) 12) then (if (mn (l0.length : Int) 12) ≤ (l0.length : Int) then ((some (l0.take ((mn (l0.length : Int) 12) : Int).toNat : List Int)).bind fun y443 => (if (y443.length : Int) = 0 then ((timesynclaw24_awake.f k).bind fun t447 => (some t447)) else ((slices_Max_int32_int32.f k y443).bind fun t448 => ((slices_Min_int32_int32.f k y443).bind fun t449 => (timesynclaw24_ChooseTogether.l0 k l1 (wrap64 ((wrap64 (t448)) - (wrap64 (t449)))) ([] : List (S37)) (-4611686018427387904) 4611686018427387904 y443 (y443.length : Int) 0))))) else (none)) else (none)) = some r := h
 clear h
 obtain ⟨ji3, hji3⟩ : ∃ j_ : Int, (mn (l0.length : Int) 12) = j_ := ⟨_, rfl⟩
 replace H : (if 0 ≤ (ji3) then (if (ji3) ≤ (l0.length : Int) then ((some (l0.take ((ji3) : Int).toNat : List Int)).bind fun y443 => (if (y443.length : Int) = 0 then ((timesynclaw24_awake.f k).bind fun t447 => (some t447)) else ((slices_Max_int32_int32.f k y443).bind fun t448 => ((slices_Min_int32_int32.f k y443).bind fun t449 => (timesynclaw24_ChooseTogether.l0 k l1 (wrap64 ((wrap64 (t448)) - (wrap64 (t449)))) ([] : List (S37)) (-4611686018427387904) 4611686018427387904 y443 (y443.length : Int) 0))))) else (none)) else (none)) = some r := by first | (rw [hji3] at H; exact H) | (simp only [hji3] at H ⊢; exact H)
 (try (have hji3h : ji3 ≤ 12 := by (rw [← hji3]; unfold mn; (repeat' split) <;> omega)))
 (try (have hji3g : ji3 ≤ 64 := by omega))
 (try (have hji3l : 0 ≤ ji3 := by (rw [← hji3]; unfold mn; (repeat' split) <;> omega)))
 (try (have hji3m : 0 ≤ ji3 := by omega))
 have hji3_ : (if 12 < (l0.length : Int) then 12 else (l0.length : Int)) = ji3 := hji3
 by_cases c4 : 0 ≤ (ji3)
 ·rw [if_pos c4] at H
  have c4b0 := eq_true c4
  have c4b1 : decide (0 ≤ (ji3)) = true := decide_eq_true c4
  clear c4
  by_cases c5 : (ji3) ≤ (l0.length : Int)
  ·rw [if_pos c5] at H
   have c5b0 := eq_true c5
   have c5b1 : decide ((ji3) ≤ (l0.length : Int)) = true := decide_eq_true c5
   clear c5
   obtain ⟨y443, hy443⟩ : ∃ y_ : List Int, y_ = (l0.take ((ji3) : Int).toNat) := ⟨_, rfl⟩
   replace H : (if (y443.length : Int) = 0 then ((timesynclaw24_awake.f k).bind fun t447 => (some t447)) else ((slices_Max_int32_int32.f k y443).bind fun t448 => ((slices_Min_int32_int32.f k y443).bind fun t449 => (timesynclaw24_ChooseTogether.l0 k l1 (wrap64 ((wrap64 (t448)) - (wrap64 (t449)))) ([] : List (S37)) (-4611686018427387904) 4611686018427387904 y443 (y443.length : Int) 0)))) = some r := by first | (rw [hy443]; with_reducible exact H) | (have H2_ := (Option.bind_some _ _).symm.trans H; rw [hy443]; with_reducible exact H2_) | (have H2_ := (Option.bind_some _ _).symm.trans H; with_reducible exact H2_) | with_reducible exact H | (rw [hy443]; exact H) | exact H
   have Ny443 := Aside0.mk hy443
   clear hy443
   by_cases c6 : (y443.length : Int) = 0
   ·rw [if_pos c6] at H
    have c6b0 : ((y443.length : Int) == 0) = true := beq_iff_eq.mpr c6
    have c6b1 : ((y443.length : Int) != 0) = false := bne_eq_false_iff_eq.mpr c6
    clear c6
    replace H := Option.bind_eq_some_iff.mp H
    obtain ⟨t447, A70, H⟩ := H
    replace H : (some t447) = some r := H
    have A7 := Aside0.mk A70
    clear A70
    obtain rfl := Option.some.inj H
    have q8 : ((ji3) : Int) ≤ ((l0.length : Int) : Int) := of_decide_eq_true (by first | (with_reducible assumption) | assumption)
    obtain ⟨i08, hi08, _, hsz8, _⟩ := info_parts info21
    have hroom8 : l0.length ≤ c0 := HC0.out
    have hC8 : Kd.C (Kd.int .i32) _ A0 l0.length l0 := HR0.out
    have hcut8 := cut_to (P := Try.prog) 48 21 .i64 Try.underlying48 hi08 A0 l0.length c0 (ji3) (of_decide_eq_true (by first | (with_reducible assumption) | assumption)) q8 hroom8
    have hr8 := Kd.C_take (m := ((ji3) : Int).toNat) hC8 (by omega)
    have hy8 : y443.length = ((ji3) : Int).toNat := (by rw [Ny443.out, List.length_take]; omega)
    rw [← Ny443.out] at hr8
    rw [← hy8] at hcut8
    have HR446 := Aside0.mk hr8
    have HC446 := Aside0.mk (show y443.length ≤ c0 from by omega)
    clear hr8 hC8 hroom8 hi08 hsz8
    have KY8 := Aside0.mk hy8
    clear hy8
    replace q8 := eq_true q8
    go_enter Try.func9, Try.ntmps9
    go_wp2_with (first | ((with_reducible refine gate_callee (f := 14) rfl ?_); refine goesL_ (some 25) rfl rfl Try.func14 (by kernel_rfl) rfl #[] rfl (by (try simp only [List.map_toArray, List.map_cons, List.map_nil]); first | done | rfl | (simp only [List.length_drop, List.length_take]; rfl)) ?_; (with_reducible refine (timesynclaw24_awake.calls k  t447 _ A7.out).mono ?_); rintro e w9 ⟨rfl, hb⟩; refine ⟨_, rfl, ?_⟩; have n0_ := Aside0.mk (below_step (by repeat (first | (with_reducible first | exact HB.out | apply below_alloc | apply pw_below_drewN | apply below_drew1) | exact HB.out)) hb); clear HB; have HB := n0_; clear n0_; (try clear hb); (try clear hb2); (try clear hk); (try clear hi)))
    go_ret
    exact ⟨by first | rfl | (simp [errW_none, errW_some] <;> rfl) | (simp only [← hji3]; first | rfl | (simp [errW_none, errW_some] <;> rfl)) | (simp [*, errW_none, errW_some] <;> rfl), by repeat (first | (with_reducible first | exact HB.out | apply below_alloc | apply pw_below_drewN | apply below_drew1) | exact HB.out)⟩
   ·rw [if_neg c6] at H
    have c6b0 : ((y443.length : Int) == 0) = false := beq_eq_false_iff_ne.mpr c6
    have c6b1 : ((y443.length : Int) != 0) = true := bne_iff_ne.mpr c6
    have c6b2 : ¬ (y443 = []) := fun h_ => c6 (by rw [h_]; rfl)
    replace H := Option.bind_eq_some_iff.mp H
    obtain ⟨t448, A100, H⟩ := H
    replace H : ((slices_Min_int32_int32.f k y443).bind fun t449 => (timesynclaw24_ChooseTogether.l0 k l1 (wrap64 ((wrap64 (t448)) - (wrap64 (t449)))) ([] : List (S37)) (-4611686018427387904) 4611686018427387904 y443 (y443.length : Int) 0)) = some r := H
    have A10 := Aside0.mk A100
    clear A100
    replace H := Option.bind_eq_some_iff.mp H
    obtain ⟨t449, A110, H⟩ := H
    replace H : (timesynclaw24_ChooseTogether.l0 k l1 (wrap64 ((wrap64 (t448)) - (wrap64 (t449)))) ([] : List (S37)) (-4611686018427387904) 4611686018427387904 y443 (y443.length : Int) 0) = some r := H
    have A11 := Aside0.mk A110
    clear A110
    have H' := Aside0.mk H
    clear H
    have q12 : ((ji3) : Int) ≤ ((l0.length : Int) : Int) := of_decide_eq_true (by first | (with_reducible assumption) | assumption)
    obtain ⟨i012, hi012, _, hsz12, _⟩ := info_parts info21
    have hroom12 : l0.length ≤ c0 := HC0.out
    have hC12 : Kd.C (Kd.int .i32) _ A0 l0.length l0 := HR0.out
    have hcut12 := cut_to (P := Try.prog) 48 21 .i64 Try.underlying48 hi012 A0 l0.length c0 (ji3) (of_decide_eq_true (by first | (with_reducible assumption) | assumption)) q12 hroom12
    have hr12 := Kd.C_take (m := ((ji3) : Int).toNat) hC12 (by omega)
    have hy12 : y443.length = ((ji3) : Int).toNat := (by rw [Ny443.out, List.length_take]; omega)
    rw [← Ny443.out] at hr12
    rw [← hy12] at hcut12
    have HR446 := Aside0.mk hr12
    have HC446 := Aside0.mk (show y443.length ≤ c0 from by omega)
    clear hr12 hC12 hroom12 hi012 hsz12
    have KY12 := Aside0.mk hy12
    clear hy12
    replace q12 := eq_true q12
    go_enter Try.func9, Try.ntmps9
    go_wp2_with (first | ((with_reducible refine gate_callee (f := 30) rfl ?_); refine goesL_ (some 27) rfl rfl Try.func30 (by kernel_rfl) rfl #[.slice A0 y443.length c0] rfl (by (try simp only [List.map_toArray, List.map_cons, List.map_nil]); first | done | rfl | (simp only [List.length_drop, List.length_take]; rfl)) ?_; (with_reducible refine (slices_Max_int32_int32.calls k _ _ y443 t448 _ ?side1 ?side2 A10.out).mono ?_); (case side1 => repeat (first | exact HR446.out | (with_reducible refine Kd.C_alloc ?_ _) | (with_reducible refine Kd.C_drewN ?_ _) | (with_reducible refine Kd.C_drew ?_))); (case side2 => exact HC446.out); rintro e w13 ⟨rfl, hb⟩; refine ⟨_, rfl, ?_⟩; have n0_ := Aside0.mk (below_step (by repeat (first | (with_reducible first | exact HB.out | apply below_alloc | apply pw_below_drewN | apply below_drew1) | exact HB.out)) hb); clear HB; have HB := n0_; clear n0_; (try clear hb); (try clear hb2); (try clear hk); (try clear hi)) | ((with_reducible refine gate_callee (f := 31) rfl ?_); refine goesL_ (some 30) rfl rfl Try.func31 (by kernel_rfl) rfl #[.slice A0 y443.length c0] rfl (by (try simp only [List.map_toArray, List.map_cons, List.map_nil]); first | done | rfl | (simp only [List.length_drop, List.length_take]; rfl)) ?_; (with_reducible refine (slices_Min_int32_int32.calls k _ _ y443 t449 _ ?side1 ?side2 A11.out).mono ?_); (case side1 => repeat (first | exact (Kd.C_below HR446.out HB.out) | (with_reducible refine Kd.C_alloc ?_ _) | (with_reducible refine Kd.C_drewN ?_ _) | (with_reducible refine Kd.C_drew ?_))); (case side2 => exact HC446.out); rintro e w14 ⟨rfl, hb⟩; refine ⟨_, rfl, ?_⟩; have n0_ := Aside0.mk (below_step (by repeat (first | (with_reducible first | exact HB.out | apply below_alloc | apply pw_below_drewN | apply below_drew1) | exact HB.out)) hb); clear HB; have HB := n0_; clear n0_; (try clear hb); (try clear hb2); (try clear hk); (try clear hi)))
    go_loopg [6, 7, 8, 35] k (fun kq v6 v7 v8 v35 w' => ∃ (x6_1 : List (S37)) (x7_1 : Int) (x8_1 : Int) (x35_1 : Int), v7 = .int .i64 x7_1 ∧ v8 = .int .i64 x8_1 ∧ v35 = .int .i64 x35_1 ∧ Aside0 (timesynclaw24_ChooseTogether.l0 kq l1 (wrap64 ((wrap64 (t448)) - (wrap64 (t449)))) x6_1 x7_1 x8_1 y443 (y443.length : Int) x35_1 = some r) ∧ Aside0 (kq ≤ k) ∧ Aside0 (Kd.R k37 37 w' w.heap.size (fun _ => True) v6 x6_1) ∧ Aside0 (Below w.heap.size w w'))
    case atStart => exact ⟨(([] : List (S37))), ((-4611686018427387904)), (4611686018427387904), (0), (by first | rfl | (simp; done) | (simp [*]; done)), (by first | rfl | (simp; done) | (simp [*]; done)), (by first | rfl | (simp; done) | (simp [*]; done)), H', ⟨Nat.le_refl _⟩, ⟨by first | exact Kd.R_nil _ _ _ _ _ | exact Kd.N_nil _ _ _ _ _ | exact Kd.V_nil _ _ _ _ _ | exact Kd.Q_nil _ _ _ _ _ | exact Kd.S_nil _ _ _ _ _⟩, ⟨by repeat (first | (with_reducible first | exact HB.out | apply below_alloc | apply pw_below_drewN | apply below_drew1) | exact HB.out)⟩⟩
    case round =>
     clear H'
     try clear c1
     try clear q1
     try clear p2
     try clear c3
     try clear c4
     try clear c4b0
     try clear c4b1
     try clear c5
     try clear c5b0
     try clear c5b1
     try clear c6
     try clear c6b0
     try clear c6b1
     try clear c6b2
     try clear p6
     try clear q8
     try clear c9
     try clear q12
     try clear c14
     try clear q12
     try clear q8
     obtain ⟨x6_1, x7_1, x8_1, x35_1, rfl, rfl, rfl, HA, HK1, HO_6, HB⟩ := hrel
     cases gk with
     | zero => exact absurd HA.out (by simp [timesynclaw24_ChooseTogether.l0])
     | succ k1 =>
      have H := HA.out
      clear HA
      simp only [timesynclaw24_ChooseTogether.l0] at H
      by_cases c15 : x35_1 < (y443.length : Int)
      ·rw [if_pos c15] at H
       have c15b0 : decide (x35_1 < (y443.length : Int)) = true := decide_eq_true c15
       clear c15
       by_cases c16 : 0 ≤ x35_1
       ·rw [if_pos c16] at H
        have c16b0 : decide (0 ≤ x35_1) = true := decide_eq_true c16
        clear c16
        by_cases c17 : x35_1 < (y443.length : Int)
        ·rw [if_pos c17] at H
         have c17b0 : decide (x35_1 < (y443.length : Int)) = true := decide_eq_true c17
         clear c17
         by_cases c18 : x35_1 < (l1.length : Int)
         ·rw [if_pos c18] at H
          have c18b0 : decide (x35_1 < (l1.length : Int)) = true := decide_eq_true c18
          clear c18
          obtain ⟨ji19, hji19⟩ : ∃ j_ : Int, (mx x7_1 (wrap64 ((wrap64 (rd y443 x35_1)) - (wrap64 ((wrap64 ((wrap64 (t448)) - (wrap64 (t449)))) + (wrap64 (rd l1 x35_1))))))) = j_ := ⟨_, rfl⟩
          replace H : (if x6_1.length < 3518437208883 then (timesynclaw24_ChooseTogether.l0 k1 l1 (wrap64 ((wrap64 (t448)) - (wrap64 (t449)))) (x6_1 ++ [(⟨wrap64 (100 - x35_1), wrap64 (rd y443 x35_1), wrap64 ((wrap64 ((wrap64 (t448)) - (wrap64 (t449)))) + (wrap64 (rd l1 x35_1))), 0, 2⟩ : S37)]) ji19 (mn x8_1 (wrap64 ((wrap64 (rd y443 x35_1)) + (wrap64 ((wrap64 ((wrap64 (t448)) - (wrap64 (t449)))) + (wrap64 (rd l1 x35_1))))))) y443 (y443.length : Int) (wrap64 (x35_1 + 1))) else (none)) = some r := by first | (rw [hji19] at H; exact H) | (simp only [hji19] at H ⊢; exact H)
          have hji19_ : (if x7_1 < (wrap64 ((wrap64 (rd y443 x35_1)) - (wrap64 ((wrap64 ((wrap64 (t448)) - (wrap64 (t449)))) + (wrap64 (rd l1 x35_1)))))) then (wrap64 ((wrap64 (rd y443 x35_1)) - (wrap64 ((wrap64 ((wrap64 (t448)) - (wrap64 (t449)))) + (wrap64 (rd l1 x35_1)))))) else x7_1) = ji19 := hji19
          obtain ⟨ji20, hji20⟩ : ∃ j_ : Int, (mn x8_1 (wrap64 ((wrap64 (rd y443 x35_1)) + (wrap64 ((wrap64 ((wrap64 (t448)) - (wrap64 (t449)))) + (wrap64 (rd l1 x35_1))))))) = j_ := ⟨_, rfl⟩
          replace H : (if x6_1.length < 3518437208883 then (timesynclaw24_ChooseTogether.l0 k1 l1 (wrap64 ((wrap64 (t448)) - (wrap64 (t449)))) (x6_1 ++ [(⟨wrap64 (100 - x35_1), wrap64 (rd y443 x35_1), wrap64 ((wrap64 ((wrap64 (t448)) - (wrap64 (t449)))) + (wrap64 (rd l1 x35_1))), 0, 2⟩ : S37)]) ji19 ji20 y443 (y443.length : Int) (wrap64 (x35_1 + 1))) else (none)) = some r := by first | (rw [hji20] at H; exact H) | (simp only [hji20] at H ⊢; exact H)
          have hji20_ : (if (wrap64 ((wrap64 (rd y443 x35_1)) + (wrap64 ((wrap64 ((wrap64 (t448)) - (wrap64 (t449)))) + (wrap64 (rd l1 x35_1)))))) < x8_1 then (wrap64 ((wrap64 (rd y443 x35_1)) + (wrap64 ((wrap64 ((wrap64 (t448)) - (wrap64 (t449)))) + (wrap64 (rd l1 x35_1)))))) else x8_1) = ji20 := hji20
          by_cases c21 : x6_1.length < 3518437208883
          ·rw [if_pos c21] at H
           have LMc21 := Aside0.mk c21
           clear c21
           obtain ⟨y453, hy453⟩ : ∃ y_ : List (S37), y_ = (x6_1 ++ [(⟨wrap64 (100 - x35_1), wrap64 (rd y443 x35_1), wrap64 ((wrap64 ((wrap64 (t448)) - (wrap64 (t449)))) + (wrap64 (rd l1 x35_1))), 0, 2⟩ : S37)]) := ⟨_, rfl⟩
           replace H : (timesynclaw24_ChooseTogether.l0 k1 l1 (wrap64 ((wrap64 (t448)) - (wrap64 (t449)))) y453 ji19 ji20 y443 (y443.length : Int) (wrap64 (x35_1 + 1))) = some r := by first | (rw [hy453]; with_reducible exact H) | (have H2_ := (Option.bind_some _ _).symm.trans H; rw [hy453]; with_reducible exact H2_) | (have H2_ := (Option.bind_some _ _).symm.trans H; with_reducible exact H2_) | with_reducible exact H | (rw [hy453]; exact H) | exact H
           have Ny453 := Aside0.mk hy453
           clear hy453
           have H' := Aside0.mk H
           clear H
           have p450 : 0 ≤ (x35_1 : Int) := of_decide_eq_true (by first | (with_reducible assumption) | assumption)
           have q450 : x35_1 < (y443.length : Int) := of_decide_eq_true (by first | (with_reducible assumption) | assumption)
           obtain ⟨ad450, e450, hx450_0⟩ := Kd.at_int HR446.out x35_1 p450 q450
           cases e450
           replace hx450_0 := (HB.out.cell (World.block_lt_of_cell? w _ hx450_0)).trans hx450_0
           replace p450 := eq_true p450
           replace q450 := eq_true q450
           try go_wp2_with (first | ((with_reducible refine gate_dst (N := 11) rfl ?_); (try (refine gate_guard (by rfl) ?_; dsimp only)); refine box_event ?hg (N := 11) ?hd (cs := #[.int .i64 0, .int .i64 0, .int .i64 0, .int .i64 0, .int .i64 0]) (t := 37) ?hr ?_; (case hd => rfl); (case hg => rfl); (case hr => first | (go_simp; done) | (go_simp; rfl)); intro gb451 hg w22 hbox hb; have n0_ := Aside0.mk (Kd.R_below (Kd.R_elderB (by (with_reducible repeat (first | apply Kd.R_alloc | apply Kd.R_drewN | apply Kd.R_drew)); exact HO_6.out) gb451 (Nat.le_of_eq hg.symm)) hb); have n1_ := Aside0.mk (below_step (by repeat (first | (with_reducible first | exact HB.out | apply below_alloc | apply pw_below_drewN | apply below_drew1) | exact HB.out)) hb); have n2_ := Aside0.mk (hbox); have n3_ := Aside0.mk ((by rw [hg]; exact (below_size (by repeat (first | (with_reducible first | exact HB.out | apply below_alloc | apply pw_below_drewN | apply below_drew1) | exact HB.out))) : w.heap.size ≤ gb451)); have n4_ := Aside0.mk ((by rw [hg]; exact (below_size (by repeat (first | (with_reducible first | exact HB.out | apply below_alloc | apply pw_below_drewN | apply below_drew1) | exact HB.out))) : w.heap.size ≤ gb451)); clear HO_6; clear HB; have HO_6 := n0_; have HB := n1_; have BK451 := n2_; have GW451 := n3_; have GE451 := n4_; clear n0_ n1_ n2_ n3_ n4_; clear hb hbox hg; have hcz23_0 : w22.cell? ⟨gb451, 0, none⟩ = some (.int .i64 0) := (blk_cell BK451.out 0).trans rfl; have hcz23_1 : w22.cell? ⟨gb451, 1, none⟩ = some (.int .i64 0) := (blk_cell BK451.out 1).trans rfl; have hcz23_2 : w22.cell? ⟨gb451, 2, none⟩ = some (.int .i64 0) := (blk_cell BK451.out 2).trans rfl; have hcz23_3 : w22.cell? ⟨gb451, 3, none⟩ = some (.int .i64 0) := (blk_cell BK451.out 3).trans rfl; have hcz23_4 : w22.cell? ⟨gb451, 4, none⟩ = some (.int .i64 0) := (blk_cell BK451.out 4).trans rfl; have hfz23_0 := blk_frozen BK451.out 0; have hfz23_1 := blk_frozen BK451.out 1; have hfz23_2 := blk_frozen BK451.out 2; have hfz23_3 := blk_frozen BK451.out 3; have hfz23_4 := blk_frozen BK451.out 4))
           have n0_ : Aside0 (Kd.R k37 37 (((((w22.setCell ⟨gb451, 0, none⟩ (.int .i64 (wrap64 (100 - x35_1)))).setCell ⟨gb451, 1, none⟩ (.int .i64 (wrap64 (rd y443 x35_1)))).setCell ⟨gb451, 2, none⟩ (.int .i64 (wrap64 ((wrap64 (t448)) - (wrap64 (t449)))))).setCell ⟨gb451, 3, none⟩ (.int .i64 0)).setCell ⟨gb451, 4, none⟩ (.int .i64 2)) w.heap.size (fun k_ => k_ ≠ gb451) u6 x6_1) := ⟨by (with_reducible repeat (first | apply Kd.R_alloc | apply Kd.R_drewN | apply Kd.R_drew)); exact Kd.R_mono (Kd.R_far (p := ⟨gb451, 4, none⟩) (Kd.R_far (p := ⟨gb451, 3, none⟩) (Kd.R_far (p := ⟨gb451, 2, none⟩) (Kd.R_far (p := ⟨gb451, 1, none⟩) (Kd.R_far (p := ⟨gb451, 0, none⟩) (Kd.R_mono HO_6.out (fun k_ hk => (⟨hk, hk.2⟩ : _ ∧ k_ ≠ gb451))) (fun _ hk => hk.2) (.int .i64 (wrap64 (100 - x35_1)))) (fun _ hk => hk.2) (.int .i64 (wrap64 (rd y443 x35_1)))) (fun _ hk => hk.2) (.int .i64 (wrap64 ((wrap64 (t448)) - (wrap64 (t449)))))) (fun _ hk => hk.2) (.int .i64 0)) (fun _ hk => hk.2) (.int .i64 2)) (fun _ hk => hk.1.2)⟩
           have n1_ : Aside0 ((((((w22.setCell ⟨gb451, 0, none⟩ (.int .i64 (wrap64 (100 - x35_1)))).setCell ⟨gb451, 1, none⟩ (.int .i64 (wrap64 (rd y443 x35_1)))).setCell ⟨gb451, 2, none⟩ (.int .i64 (wrap64 ((wrap64 (t448)) - (wrap64 (t449)))))).setCell ⟨gb451, 3, none⟩ (.int .i64 0)).setCell ⟨gb451, 4, none⟩ (.int .i64 2)).heap[gb451]? = some (.cells #[.int .i64 (wrap64 (100 - x35_1)), .int .i64 (wrap64 (rd y443 x35_1)), .int .i64 (wrap64 ((wrap64 (t448)) - (wrap64 (t449)))), .int .i64 0, .int .i64 2] 37 (0, 0))) := ⟨by (with_reducible repeat (first | refine blk_drewN ?_ _ | refine blk_drew ?_ | refine blk_alloc ?_ _)); refine blk_put (cs := #[.int .i64 (wrap64 (100 - x35_1)), .int .i64 (wrap64 (rd y443 x35_1)), .int .i64 (wrap64 ((wrap64 (t448)) - (wrap64 (t449)))), .int .i64 0, .int .i64 0]) ?_ 4 _ rfl; (with_reducible repeat (first | refine blk_drewN ?_ _ | refine blk_drew ?_ | refine blk_alloc ?_ _)); refine blk_put (cs := #[.int .i64 (wrap64 (100 - x35_1)), .int .i64 (wrap64 (rd y443 x35_1)), .int .i64 (wrap64 ((wrap64 (t448)) - (wrap64 (t449)))), .int .i64 0, .int .i64 0]) ?_ 3 _ rfl; (with_reducible repeat (first | refine blk_drewN ?_ _ | refine blk_drew ?_ | refine blk_alloc ?_ _)); refine blk_put (cs := #[.int .i64 (wrap64 (100 - x35_1)), .int .i64 (wrap64 (rd y443 x35_1)), .int .i64 0, .int .i64 0, .int .i64 0]) ?_ 2 _ rfl; (with_reducible repeat (first | refine blk_drewN ?_ _ | refine blk_drew ?_ | refine blk_alloc ?_ _)); refine blk_put (cs := #[.int .i64 (wrap64 (100 - x35_1)), .int .i64 0, .int .i64 0, .int .i64 0, .int .i64 0]) ?_ 1 _ rfl; (with_reducible repeat (first | refine blk_drewN ?_ _ | refine blk_drew ?_ | refine blk_alloc ?_ _)); refine blk_put (cs := #[.int .i64 0, .int .i64 0, .int .i64 0, .int .i64 0, .int .i64 0]) ?_ 0 _ rfl; (with_reducible repeat (first | refine blk_drewN ?_ _ | refine blk_drew ?_ | refine blk_alloc ?_ _)); exact BK451.out⟩
           have n2_ : Aside0 (Below w.heap.size w (((((w22.setCell ⟨gb451, 0, none⟩ (.int .i64 (wrap64 (100 - x35_1)))).setCell ⟨gb451, 1, none⟩ (.int .i64 (wrap64 (rd y443 x35_1)))).setCell ⟨gb451, 2, none⟩ (.int .i64 (wrap64 ((wrap64 (t448)) - (wrap64 (t449)))))).setCell ⟨gb451, 3, none⟩ (.int .i64 0)).setCell ⟨gb451, 4, none⟩ (.int .i64 2))) := ⟨by repeat (first | (with_reducible first | exact HB.out | apply below_alloc | apply pw_below_drewN | apply below_drew1 | refine below_set ?_ GE451.out) | exact HB.out)⟩
           (try clear HO_6)
           (try clear BK451)
           (try clear HB)
           generalize (((((w22.setCell ⟨gb451, 0, none⟩ (.int .i64 (wrap64 (100 - x35_1)))).setCell ⟨gb451, 1, none⟩ (.int .i64 (wrap64 (rd y443 x35_1)))).setCell ⟨gb451, 2, none⟩ (.int .i64 (wrap64 ((wrap64 (t448)) - (wrap64 (t449)))))).setCell ⟨gb451, 3, none⟩ (.int .i64 0)).setCell ⟨gb451, 4, none⟩ (.int .i64 2)) = w24 at n0_ n1_ n2_ ⊢
           have HO_6 := n0_
           have BK451 := n1_
           have HB := n2_
           clear n0_ n1_ n2_
           have n0_ := Aside0.mk (Kd.R_drew HO_6.out)
           have n1_ := Aside0.mk (blk_drew BK451.out)
           have n2_ := Aside0.mk (below_drew1 HB.out)
           clear HO_6
           clear BK451
           clear HB
           have HO_6 := n0_
           have BK451 := n1_
           have HB := n2_
           clear n0_ n1_ n2_
           have p452 : 0 ≤ (x35_1 : Int) := of_decide_eq_true (by first | (with_reducible assumption) | assumption)
           have q452 : x35_1 < (l1.length : Int) := of_decide_eq_true (by first | (with_reducible assumption) | assumption)
           obtain ⟨ad452, e452, hx452_0⟩ := Kd.at_int HR1.out x35_1 p452 q452
           have hw452_0 := hx452_0
           cases e452
           replace hx452_0 := (HB.out.cell (World.block_lt_of_cell? w _ hx452_0)).trans hx452_0
           replace p452 := eq_true p452
           replace q452 := eq_true q452
           refine start_ (n := 10) (S := fun w' => w'.cell? ⟨gb451, 0, none⟩ = some (.int .i64 (wrap64 (100 - x35_1))) ∧ w'.cell? ⟨gb451, 1, none⟩ = some (.int .i64 (wrap64 (rd y443 x35_1))) ∧ w'.cell? ⟨gb451, 2, none⟩ = some (.int .i64 (wrap64 ((wrap64 (t448)) - (wrap64 (t449))))) ∧ w'.cell? ⟨gb451, 3, none⟩ = some (.int .i64 0) ∧ w'.cell? ⟨gb451, 4, none⟩ = some (.int .i64 2) ∧ w'.cell? (ad452.add (x35_1).toNat) = some (.int .u16 (rd l1 x35_1))) (ds := [9]) #[false, false, false, false, false, false, false, false, false, false] (by kernel_rfl) rfl rfl ⟨(blk_cell BK451.out 0).trans rfl, (blk_cell BK451.out 1).trans rfl, (blk_cell BK451.out 2).trans rfl, (blk_cell BK451.out 3).trans rfl, (blk_cell BK451.out 4).trans rfl, ((HB.out.cell (World.block_lt_of_cell? w _ hw452_0)).trans hw452_0)⟩ (fun hHeld => ?_); refine with_tabW timesynclaw24_ChooseTogether.tab12 timesynclaw24_ChooseTogether.bits12 (fun HT_ HW_ => ?_)
           generalize w24.drew = w25 at HO_6 BK451 HB hx452_0 hHeld ⊢
           refine pure_ (i := 0) (N := some 50) (v := ?_) (a' := ?_) #[true, false, false, false, false, false, false, false, false, false] rfl rfl (any_of HT_.out (by kernel_rfl)) (fun _ _ _ h => h) (Or.inl ⟨by rfl, ?_⟩) ?_ ?_
           rotate_left
           ·intro w'
            go_simp
            with_reducible rfl
           rotate_left
           ·simp only [Act.put, List.setIfInBounds_toArray, List.set_cons_zero, List.set_cons_succ, i64_w, i32_w]
            rfl
           refine pure_ (i := 2) (N := some 52) (v := ?_) (a' := ?_) #[true, false, true, false, false, false, false, false, false, false] rfl rfl (any_of HT_.out (by kernel_rfl)) (fun _ _ _ h => h) (Or.inl ⟨by rfl, ?_⟩) ?_ ?_
           rotate_left
           ·intro w'
            go_simp
            with_reducible rfl
           rotate_left
           ·simp only [Act.put, List.setIfInBounds_toArray, List.set_cons_zero, List.set_cons_succ, i64_w, i32_w]
            rfl
           refine pure_ (i := 3) (N := some 53) (v := ?_) (a' := ?_) #[true, false, true, true, false, false, false, false, false, false] rfl rfl (any_of HT_.out (by kernel_rfl)) (fun _ _ _ h => h) (Or.inl ⟨by rfl, ?_⟩) ?_ ?_
           rotate_left
           ·intro w'
            go_simp
            with_reducible rfl
           rotate_left
           ·simp only [Act.put, List.setIfInBounds_toArray, List.set_cons_zero, List.set_cons_succ, i64_w, i32_w]
            rfl
           refine pure_ (i := 4) (N := some 54) (v := ?_) (a' := ?_) #[true, false, true, true, true, false, false, false, false, false] rfl rfl (any_of HT_.out (by kernel_rfl)) (fun _ _ _ h => h) (Or.inl ⟨by rfl, ?_⟩) ?_ ?_
           rotate_left
           ·intro w'
            go_simp
            with_reducible rfl
           rotate_left
           ·simp only [Act.put, List.setIfInBounds_toArray, List.set_cons_zero, List.set_cons_succ, i64_w, i32_w]
            rfl
           refine take_ (i := 1) (N := some 51) (v := ?_) (a' := ?_) #[true, true, true, true, true, false, false, false, false, false] rfl rfl (take_ofW HT_.out HW_.out (by kernel_rfl)) (fun _ _ _ h => h) (Or.inl ⟨by rfl, ?_⟩) hHeld ?_ ?_
           rotate_left
           ·rintro w' ⟨s0, s1, s2, s3, s4, s5⟩
            go_simp
            with_reducible rfl
           rotate_left
           ·simp only [Act.put, List.setIfInBounds_toArray, List.set_cons_zero, List.set_cons_succ, i64_w, i32_w]
            rfl
           refine take_ (i := 5) (N := some 55) (v := ?_) (a' := ?_) #[true, true, true, true, true, true, false, false, false, false] rfl rfl (take_ofW HT_.out HW_.out (by kernel_rfl)) (fun _ _ _ h => h) (Or.inl ⟨by rfl, ?_⟩) hHeld ?_ ?_
           rotate_left
           ·rintro w' ⟨s0, s1, s2, s3, s4, s5⟩
            go_simp
            with_reducible rfl
           rotate_left
           ·simp only [Act.put, List.setIfInBounds_toArray, List.set_cons_zero, List.set_cons_succ, i64_w, i32_w]
            rfl
           refine pure_ (i := 6) (N := some 56) (v := ?_) (a' := ?_) #[true, true, true, true, true, true, true, false, false, false] rfl rfl (any_of HT_.out (by kernel_rfl)) (fun _ _ _ h => h) (Or.inl ⟨by rfl, ?_⟩) ?_ ?_
           rotate_left
           ·intro w'
            go_simp
            with_reducible rfl
           rotate_left
           ·simp only [Act.put, List.setIfInBounds_toArray, List.set_cons_zero, List.set_cons_succ, i64_w, i32_w]
            rfl
           refine pure_ (i := 7) (N := some 57) (v := ?_) (a' := ?_) #[true, true, true, true, true, true, true, true, false, false] rfl rfl (any_of HT_.out (by kernel_rfl)) (fun _ _ _ h => h) (Or.inl ⟨by rfl, ?_⟩) ?_ ?_
           rotate_left
           ·intro w'
            go_simp
            with_reducible rfl
           rotate_left
           ·simp only [Act.put, List.setIfInBounds_toArray, List.set_cons_zero, List.set_cons_succ, i64_w, i32_w]
            rfl
           refine pure_ (i := 8) (N := some 58) (v := ?_) (a' := ?_) #[true, true, true, true, true, true, true, true, true, false] rfl rfl (any_of HT_.out (by kernel_rfl)) (fun _ _ _ h => h) (Or.inl ⟨by rfl, ?_⟩) ?_ ?_
           rotate_left
           ·intro w'
            go_simp
            with_reducible rfl
           rotate_left
           ·simp only [Act.put, List.setIfInBounds_toArray, List.set_cons_zero, List.set_cons_succ, i64_w, i32_w]
            rfl
           refine last_ (i := 9) (N := none) #[true, true, true, true, true, true, true, true, true, true] rfl rfl (one_of HT_.out (by kernel_rfl)) (by decide) (fun K hK => ?_)
           have hs26 : w25.cell? ⟨gb451, 2, none⟩ = some (.int .i64 (wrap64 ((wrap64 (t448)) - (wrap64 (t449))))) := (blk_cell BK451.out 2).trans rfl
           have hfs26 := blk_frozen BK451.out 2
           refine skip_ (w1 := ?_) (by rfl) rfl ?_ ?_
           rotate_left
           ·go_simp
            rfl
           refine hK.out _ _ ?_
           clear hK K
           refine done_ (done_of HT_.out (by kernel_rfl)) ?_
           try go_wp2
           have n0_ : Aside0 (Kd.R k37 37 (w25.setCell ⟨gb451, 2, none⟩ (.int .i64 (wrap64 ((wrap64 ((wrap64 (t448)) - (wrap64 (t449)))) + (wrap64 (rd l1 x35_1)))))) w.heap.size (fun k_ => k_ ≠ gb451) u6 x6_1) := ⟨by (with_reducible repeat (first | apply Kd.R_alloc | apply Kd.R_drewN | apply Kd.R_drew)); exact Kd.R_mono (Kd.R_far (p := ⟨gb451, 2, none⟩) (Kd.R_mono HO_6.out (fun k_ hk => (⟨hk, hk⟩ : _ ∧ k_ ≠ gb451))) (fun _ hk => hk.2) (.int .i64 (wrap64 ((wrap64 ((wrap64 (t448)) - (wrap64 (t449)))) + (wrap64 (rd l1 x35_1)))))) (fun _ hk => hk.1)⟩
           have n1_ : Aside0 ((w25.setCell ⟨gb451, 2, none⟩ (.int .i64 (wrap64 ((wrap64 ((wrap64 (t448)) - (wrap64 (t449)))) + (wrap64 (rd l1 x35_1)))))).heap[gb451]? = some (.cells #[.int .i64 (wrap64 (100 - x35_1)), .int .i64 (wrap64 (rd y443 x35_1)), .int .i64 (wrap64 ((wrap64 ((wrap64 (t448)) - (wrap64 (t449)))) + (wrap64 (rd l1 x35_1)))), .int .i64 0, .int .i64 2] 37 (0, 0))) := ⟨by (with_reducible repeat (first | refine blk_drewN ?_ _ | refine blk_drew ?_ | refine blk_alloc ?_ _)); refine blk_put (cs := #[.int .i64 (wrap64 (100 - x35_1)), .int .i64 (wrap64 (rd y443 x35_1)), .int .i64 (wrap64 ((wrap64 (t448)) - (wrap64 (t449)))), .int .i64 0, .int .i64 2]) ?_ 2 _ rfl; (with_reducible repeat (first | refine blk_drewN ?_ _ | refine blk_drew ?_ | refine blk_alloc ?_ _)); exact BK451.out⟩
           have n2_ : Aside0 (Below w.heap.size w (w25.setCell ⟨gb451, 2, none⟩ (.int .i64 (wrap64 ((wrap64 ((wrap64 (t448)) - (wrap64 (t449)))) + (wrap64 (rd l1 x35_1))))))) := ⟨by repeat (first | (with_reducible first | exact HB.out | apply below_alloc | apply pw_below_drewN | apply below_drew1 | refine below_set ?_ GE451.out) | exact HB.out)⟩
           (try clear HO_6)
           (try clear BK451)
           (try clear HB)
           generalize (w25.setCell ⟨gb451, 2, none⟩ (.int .i64 (wrap64 ((wrap64 ((wrap64 (t448)) - (wrap64 (t449)))) + (wrap64 (rd l1 x35_1)))))) = w27 at n0_ n1_ n2_ ⊢
           have HO_6 := n0_
           have BK451 := n1_
           have HB := n2_
           clear n0_ n1_ n2_
           have n0_ := Aside0.mk (Kd.R_drew HO_6.out)
           have n1_ := Aside0.mk (blk_drew BK451.out)
           have n2_ := Aside0.mk (below_drew1 HB.out)
           clear HO_6
           clear BK451
           clear HB
           have HO_6 := n0_
           have BK451 := n1_
           have HB := n2_
           clear n0_ n1_ n2_
           refine start_ (n := 16) (S := fun w' => w'.cell? ⟨gb451, 0, none⟩ = some (.int .i64 (wrap64 (100 - x35_1))) ∧ w'.cell? ⟨gb451, 1, none⟩ = some (.int .i64 (wrap64 (rd y443 x35_1))) ∧ w'.cell? ⟨gb451, 2, none⟩ = some (.int .i64 (wrap64 ((wrap64 ((wrap64 (t448)) - (wrap64 (t449)))) + (wrap64 (rd l1 x35_1))))) ∧ w'.cell? ⟨gb451, 3, none⟩ = some (.int .i64 0) ∧ w'.cell? ⟨gb451, 4, none⟩ = some (.int .i64 2)) (ds := []) #[false, false, false, false, false, false, false, false, false, false, false, false, false, false, false, false] (by kernel_rfl) rfl rfl ⟨(blk_cell BK451.out 0).trans rfl, (blk_cell BK451.out 1).trans rfl, (blk_cell BK451.out 2).trans rfl, (blk_cell BK451.out 3).trans rfl, (blk_cell BK451.out 4).trans rfl⟩ (fun hHeld => ?_); refine with_tabW timesynclaw24_ChooseTogether.tab13 timesynclaw24_ChooseTogether.bits13 (fun HT_ HW_ => ?_)
           generalize w27.drew = w28 at HO_6 BK451 HB hHeld ⊢
           refine pure_ (i := 0) (N := some 59) (v := ?_) (a' := ?_) #[true, false, false, false, false, false, false, false, false, false, false, false, false, false, false, false] rfl rfl (any_of HT_.out (by kernel_rfl)) (fun _ _ _ h => h) (Or.inl ⟨by rfl, ?_⟩) ?_ ?_
           rotate_left
           ·intro w'
            go_simp
            with_reducible rfl
           rotate_left
           ·simp only [Act.put, List.setIfInBounds_toArray, List.set_cons_zero, List.set_cons_succ, i64_w, i32_w]
            rfl
           refine pure_ (i := 1) (N := some 60) (v := ?_) (a' := ?_) #[true, true, false, false, false, false, false, false, false, false, false, false, false, false, false, false] rfl rfl (any_of HT_.out (by kernel_rfl)) (fun _ _ _ h => h) (Or.inl ⟨by rfl, ?_⟩) ?_ ?_
           rotate_left
           ·intro w'
            go_simp
            with_reducible rfl
           rotate_left
           ·simp only [Act.put, List.setIfInBounds_toArray, List.set_cons_zero, List.set_cons_succ, i64_w, i32_w]
            rfl
           refine pure_ (i := 3) (N := some 62) (v := ?_) (a' := ?_) #[true, true, false, true, false, false, false, false, false, false, false, false, false, false, false, false] rfl rfl (any_of HT_.out (by kernel_rfl)) (fun _ _ _ h => h) (Or.inl ⟨by rfl, ?_⟩) ?_ ?_
           rotate_left
           ·intro w'
            go_simp
            with_reducible rfl
           rotate_left
           ·simp only [Act.put, List.setIfInBounds_toArray, List.set_cons_zero, List.set_cons_succ, i64_w, i32_w]
            rfl
           refine pure_ (i := 7) (N := some 66) (v := ?_) (a' := ?_) #[true, true, false, true, false, false, false, true, false, false, false, false, false, false, false, false] rfl rfl (any_of HT_.out (by kernel_rfl)) (fun _ _ _ h => h) (Or.inl ⟨by rfl, ?_⟩) ?_ ?_
           rotate_left
           ·intro w'
            go_simp
            with_reducible rfl
           rotate_left
           ·simp only [Act.put, List.setIfInBounds_toArray, List.set_cons_zero, List.set_cons_succ, i64_w, i32_w]
            rfl
           refine pure_ (i := 8) (N := some 67) (v := ?_) (a' := ?_) #[true, true, false, true, false, false, false, true, true, false, false, false, false, false, false, false] rfl rfl (any_of HT_.out (by kernel_rfl)) (fun _ _ _ h => h) (Or.inl ⟨by rfl, ?_⟩) ?_ ?_
           rotate_left
           ·intro w'
            go_simp
            with_reducible rfl
           rotate_left
           ·simp only [Act.put, List.setIfInBounds_toArray, List.set_cons_zero, List.set_cons_succ, i64_w, i32_w]
            rfl
           refine pure_ (i := 10) (N := some 69) (v := ?_) (a' := ?_) #[true, true, false, true, false, false, false, true, true, false, true, false, false, false, false, false] rfl rfl (any_of HT_.out (by kernel_rfl)) (fun _ _ _ h => h) (Or.inl ⟨by rfl, ?_⟩) ?_ ?_
           rotate_left
           ·intro w'
            go_simp
            with_reducible rfl
           rotate_left
           ·simp only [Act.put, List.setIfInBounds_toArray, List.set_cons_zero, List.set_cons_succ, i64_w, i32_w]
            rfl
           refine take_ (i := 2) (N := some 61) (v := ?_) (a' := ?_) #[true, true, true, true, false, false, false, true, true, false, true, false, false, false, false, false] rfl rfl (take_ofW HT_.out HW_.out (by kernel_rfl)) (fun _ _ _ h => h) (Or.inl ⟨by rfl, ?_⟩) hHeld ?_ ?_
           rotate_left
           ·rintro w' ⟨s0, s1, s2, s3, s4⟩
            go_simp
            with_reducible rfl
           rotate_left
           ·simp only [Act.put, List.setIfInBounds_toArray, List.set_cons_zero, List.set_cons_succ, i64_w, i32_w]
            rfl
           refine take_ (i := 4) (N := some 63) (v := ?_) (a' := ?_) #[true, true, true, true, true, false, false, true, true, false, true, false, false, false, false, false] rfl rfl (take_ofW HT_.out HW_.out (by kernel_rfl)) (fun _ _ _ h => h) (Or.inl ⟨by rfl, ?_⟩) hHeld ?_ ?_
           rotate_left
           ·rintro w' ⟨s0, s1, s2, s3, s4⟩
            go_simp
            with_reducible rfl
           rotate_left
           ·simp only [Act.put, List.setIfInBounds_toArray, List.set_cons_zero, List.set_cons_succ, i64_w, i32_w]
            rfl
           refine pure_ (i := 5) (N := some 64) (v := ?_) (a' := ?_) #[true, true, true, true, true, true, false, true, true, false, true, false, false, false, false, false] rfl rfl (any_of HT_.out (by kernel_rfl)) (fun _ _ _ h => h) (Or.inl ⟨by rfl, ?_⟩) ?_ ?_
           rotate_left
           ·intro w'
            go_simp
            with_reducible rfl
           rotate_left
           ·simp only [Act.put, List.setIfInBounds_toArray, List.set_cons_zero, List.set_cons_succ, i64_w, i32_w]
            rfl
           refine pure_ (i := 6) (N := some 65) (v := ?_) (a' := ?_) #[true, true, true, true, true, true, true, true, true, false, true, false, false, false, false, false] rfl rfl (any_of HT_.out (by kernel_rfl)) (fun _ _ _ h => h) (Or.inl ⟨by rfl, ?_⟩) ?_ ?_
           rotate_left
           ·intro w'
            go_simp
            with_reducible rfl
           rotate_left
           ·simp only [Act.put, List.setIfInBounds_toArray, List.set_cons_zero, List.set_cons_succ, i64_w, i32_w]
            rfl
           refine pure_ (i := 14) (N := some 7) (v := ?_) (a' := ?_) #[true, true, true, true, true, true, true, true, true, false, true, false, false, false, true, false] rfl rfl (any_of HT_.out (by kernel_rfl)) (fun _ _ _ h => h) (Or.inl ⟨by rfl, ?_⟩) ?_ ?_
           rotate_left
           ·intro w'
            go_simp
            with_reducible rfl
           rotate_left
           ·simp only [Act.put, List.setIfInBounds_toArray, List.set_cons_zero, List.set_cons_succ, i64_w, i32_w]
            rfl
           refine take_ (i := 9) (N := some 68) (v := ?_) (a' := ?_) #[true, true, true, true, true, true, true, true, true, true, true, false, false, false, true, false] rfl rfl (take_ofW HT_.out HW_.out (by kernel_rfl)) (fun _ _ _ h => h) (Or.inl ⟨by rfl, ?_⟩) hHeld ?_ ?_
           rotate_left
           ·rintro w' ⟨s0, s1, s2, s3, s4⟩
            go_simp
            with_reducible rfl
           rotate_left
           ·simp only [Act.put, List.setIfInBounds_toArray, List.set_cons_zero, List.set_cons_succ, i64_w, i32_w]
            rfl
           refine take_ (i := 11) (N := some 70) (v := ?_) (a' := ?_) #[true, true, true, true, true, true, true, true, true, true, true, true, false, false, true, false] rfl rfl (take_ofW HT_.out HW_.out (by kernel_rfl)) (fun _ _ _ h => h) (Or.inl ⟨by rfl, ?_⟩) hHeld ?_ ?_
           rotate_left
           ·rintro w' ⟨s0, s1, s2, s3, s4⟩
            go_simp
            with_reducible rfl
           rotate_left
           ·simp only [Act.put, List.setIfInBounds_toArray, List.set_cons_zero, List.set_cons_succ, i64_w, i32_w]
            rfl
           refine pure_ (i := 12) (N := some 71) (v := ?_) (a' := ?_) #[true, true, true, true, true, true, true, true, true, true, true, true, true, false, true, false] rfl rfl (any_of HT_.out (by kernel_rfl)) (fun _ _ _ h => h) (Or.inl ⟨by rfl, ?_⟩) ?_ ?_
           rotate_left
           ·intro w'
            go_simp
            with_reducible rfl
           rotate_left
           ·simp only [Act.put, List.setIfInBounds_toArray, List.set_cons_zero, List.set_cons_succ, i64_w, i32_w]
            rfl
           refine pure_ (i := 13) (N := some 72) (v := ?_) (a' := ?_) #[true, true, true, true, true, true, true, true, true, true, true, true, true, true, true, false] rfl rfl (any_of HT_.out (by kernel_rfl)) (fun _ _ _ h => h) (Or.inl ⟨by rfl, ?_⟩) ?_ ?_
           rotate_left
           ·intro w'
            go_simp
            with_reducible rfl
           rotate_left
           ·simp only [Act.put, List.setIfInBounds_toArray, List.set_cons_zero, List.set_cons_succ, i64_w, i32_w]
            rfl
           refine pure_ (i := 15) (N := some 8) (v := ?_) (a' := ?_) #[true, true, true, true, true, true, true, true, true, true, true, true, true, true, true, true] rfl rfl (any_of HT_.out (by kernel_rfl)) (fun _ _ _ h => h) (Or.inl ⟨by rfl, ?_⟩) ?_ ?_
           rotate_left
           ·intro w'
            go_simp
            with_reducible rfl
           rotate_left
           ·simp only [Act.put, List.setIfInBounds_toArray, List.set_cons_zero, List.set_cons_succ, i64_w, i32_w]
            rfl
           refine done_ (done_of HT_.out (by kernel_rfl)) ?_
           have hcz29_0 : w28.cell? ⟨gb451, 0, none⟩ = some (.int .i64 (wrap64 (100 - x35_1))) := (blk_cell BK451.out 0).trans rfl
           have hcz29_1 : w28.cell? ⟨gb451, 1, none⟩ = some (.int .i64 (wrap64 (rd y443 x35_1))) := (blk_cell BK451.out 1).trans rfl
           have hcz29_2 : w28.cell? ⟨gb451, 2, none⟩ = some (.int .i64 (wrap64 ((wrap64 ((wrap64 (t448)) - (wrap64 (t449)))) + (wrap64 (rd l1 x35_1))))) := (blk_cell BK451.out 2).trans rfl
           have hcz29_3 : w28.cell? ⟨gb451, 3, none⟩ = some (.int .i64 0) := (blk_cell BK451.out 3).trans rfl
           have hcz29_4 : w28.cell? ⟨gb451, 4, none⟩ = some (.int .i64 2) := (blk_cell BK451.out 4).trans rfl
           have hfz29_0 := blk_frozen BK451.out 0
           have hfz29_1 := blk_frozen BK451.out 1
           have hfz29_2 := blk_frozen BK451.out 2
           have hfz29_3 := blk_frozen BK451.out 3
           have hfz29_4 := blk_frozen BK451.out 4
           try go_wp2_with (first | ((with_reducible refine gate_builtin (b := .append) (xs := #[.tmp 73, .tmp 75]) rfl ?_); (try (refine gate_guard (by rfl) ?_; dsimp only)); at_builtin; refine Kd.R_append k37 (w0 := w) w.heap.size rfl (.tmp 73) (.tmp 75) 22 37 (.agg #[(.int .i64 0), (.int .i64 0), (.int .i64 0), (.int .i64 0), (.int .i64 0)]) 40 rfl Try.underlying22 info37 rfl (by decide) (by omega) u6 x6_1 (⟨wrap64 (100 - x35_1), wrap64 (rd y443 x35_1), wrap64 ((wrap64 ((wrap64 (t448)) - (wrap64 (t449)))) + (wrap64 (rd l1 x35_1))), 0, 2⟩ : S37) [.int .i64 (wrap64 (100 - x35_1)), .int .i64 (wrap64 (rd y443 x35_1)), .int .i64 (wrap64 ((wrap64 ((wrap64 (t448)) - (wrap64 (t449)))) + (wrap64 (rd l1 x35_1)))), .int .i64 0, .int .i64 2] (fun k_ => k_ ≠ gb451) (fun _ => False) rfl rfl ?aP (fun _ hk => hk.elim) ?aF ?aO ?aB ?aS ?aL ?_; (case aP => exact k37_mkM _ _ _ (⟨wrap64 (100 - x35_1), wrap64 (rd y443 x35_1), wrap64 ((wrap64 ((wrap64 (t448)) - (wrap64 (t449)))) + (wrap64 (rd l1 x35_1))), 0, 2⟩ : S37)); (case aB => exact (by repeat (first | (with_reducible first | exact HB.out | apply below_alloc | apply pw_below_drewN | apply below_drew1 | refine below_set ?_ GE451.out) | exact HB.out))); (case aF => exact (fun k_ hk => Kd.freshB (g := gb451) (o := .cells #[.int .i64 (wrap64 (100 - x35_1)), .int .i64 (wrap64 (rd y443 x35_1)), .int .i64 (wrap64 ((wrap64 ((wrap64 (t448)) - (wrap64 (t449)))) + (wrap64 (rd l1 x35_1)))), .int .i64 0, .int .i64 2] 37 (0, 0)) (by (with_reducible repeat (first | refine blk_drewN ?_ _ | refine blk_drew ?_ | refine blk_alloc ?_ _)); exact BK451.out) k_ hk)); (case aO => exact (by (with_reducible repeat (first | apply Kd.R_alloc | apply Kd.R_drewN | apply Kd.R_drew)); exact HO_6.out)); (case aS => exact (below_size (by repeat (first | (with_reducible first | exact HB.out | apply below_alloc | apply pw_below_drewN | apply below_drew1 | refine below_set ?_ GE451.out) | exact HB.out)))); (case aL => have := LMc21.out; omega); intro v454 w30 ho hb hg hat; rw [← Ny453.out] at ho; have n0_ := Aside0.mk (blk_grown (g := gb451) (o := .cells #[.int .i64 (wrap64 (100 - x35_1)), .int .i64 (wrap64 (rd y443 x35_1)), .int .i64 (wrap64 ((wrap64 ((wrap64 (t448)) - (wrap64 (t449)))) + (wrap64 (rd l1 x35_1)))), .int .i64 0, .int .i64 2] 37 (0, 0)) (by (with_reducible repeat (first | refine blk_drewN ?_ _ | refine blk_drew ?_ | refine blk_alloc ?_ _)); exact BK451.out) hg (Kd.R_away HO_6.out (fun _ hk => hk))); have n1_ := Aside0.mk (hb); have n2_ := Aside0.mk (ho); clear BK451; clear HB; clear HO_6; have BK451 := n0_; have HB := n1_; have HO455 := n2_; clear n0_ n1_ n2_; clear ho hb hg hat))
           go_roundg k1
           case measure => have := HK1.out; omega
           case rel => exact ⟨(y453), (ji19), (ji20), (wrap64 (x35_1 + 1)), (by first | rfl | (simp; done) | (simp only [← hji19] <;> (first | rfl | simp)) | (simp [*]; done)), (by first | rfl | (simp; done) | (simp only [← hji20] <;> (first | rfl | simp)) | (simp [*]; done)), (by first | rfl | (simp; done) | (simp [*]; done)), H', ⟨by have := HK1.out; omega⟩, ⟨by (with_reducible repeat (first | apply Kd.R_alloc | apply Kd.R_drewN | apply Kd.R_drew)); exact Kd.R_mono HO455.out (fun _ hk => trivial)⟩, ⟨by repeat (first | (with_reducible first | exact HB.out | apply below_alloc | apply pw_below_drewN | apply below_drew1 | refine below_set ?_ GE451.out) | exact HB.out)⟩⟩
          ·rw [if_neg c21] at H
           exact absurd H (by simp)
         ·rw [if_neg c18] at H
          have c18b0 : decide (x35_1 < (l1.length : Int)) = false := decide_eq_false c18
          clear c18
          obtain ⟨ji31, hji31⟩ : ∃ j_ : Int, (mx x7_1 (wrap64 ((wrap64 (rd y443 x35_1)) - (wrap64 ((wrap64 (t448)) - (wrap64 (t449))))))) = j_ := ⟨_, rfl⟩
          replace H : (if x6_1.length < 3518437208883 then (timesynclaw24_ChooseTogether.l0 k1 l1 (wrap64 ((wrap64 (t448)) - (wrap64 (t449)))) (x6_1 ++ [(⟨wrap64 (100 - x35_1), wrap64 (rd y443 x35_1), (wrap64 ((wrap64 (t448)) - (wrap64 (t449)))), 0, 2⟩ : S37)]) ji31 (mn x8_1 (wrap64 ((wrap64 (rd y443 x35_1)) + (wrap64 ((wrap64 (t448)) - (wrap64 (t449))))))) y443 (y443.length : Int) (wrap64 (x35_1 + 1))) else (none)) = some r := by first | (rw [hji31] at H; exact H) | (simp only [hji31] at H ⊢; exact H)
          have hji31_ : (if x7_1 < (wrap64 ((wrap64 (rd y443 x35_1)) - (wrap64 ((wrap64 (t448)) - (wrap64 (t449)))))) then (wrap64 ((wrap64 (rd y443 x35_1)) - (wrap64 ((wrap64 (t448)) - (wrap64 (t449)))))) else x7_1) = ji31 := hji31
          obtain ⟨ji32, hji32⟩ : ∃ j_ : Int, (mn x8_1 (wrap64 ((wrap64 (rd y443 x35_1)) + (wrap64 ((wrap64 (t448)) - (wrap64 (t449))))))) = j_ := ⟨_, rfl⟩
          replace H : (if x6_1.length < 3518437208883 then (timesynclaw24_ChooseTogether.l0 k1 l1 (wrap64 ((wrap64 (t448)) - (wrap64 (t449)))) (x6_1 ++ [(⟨wrap64 (100 - x35_1), wrap64 (rd y443 x35_1), (wrap64 ((wrap64 (t448)) - (wrap64 (t449)))), 0, 2⟩ : S37)]) ji31 ji32 y443 (y443.length : Int) (wrap64 (x35_1 + 1))) else (none)) = some r := by first | (rw [hji32] at H; exact H) | (simp only [hji32] at H ⊢; exact H)
          have hji32_ : (if (wrap64 ((wrap64 (rd y443 x35_1)) + (wrap64 ((wrap64 (t448)) - (wrap64 (t449)))))) < x8_1 then (wrap64 ((wrap64 (rd y443 x35_1)) + (wrap64 ((wrap64 (t448)) - (wrap64 (t449)))))) else x8_1) = ji32 := hji32
          by_cases c33 : x6_1.length < 3518437208883
          ·rw [if_pos c33] at H
           have LMc33 := Aside0.mk c33
           clear c33
           obtain ⟨y456, hy456⟩ : ∃ y_ : List (S37), y_ = (x6_1 ++ [(⟨wrap64 (100 - x35_1), wrap64 (rd y443 x35_1), (wrap64 ((wrap64 (t448)) - (wrap64 (t449)))), 0, 2⟩ : S37)]) := ⟨_, rfl⟩
           replace H : (timesynclaw24_ChooseTogether.l0 k1 l1 (wrap64 ((wrap64 (t448)) - (wrap64 (t449)))) y456 ji31 ji32 y443 (y443.length : Int) (wrap64 (x35_1 + 1))) = some r := by first | (rw [hy456]; with_reducible exact H) | (have H2_ := (Option.bind_some _ _).symm.trans H; rw [hy456]; with_reducible exact H2_) | (have H2_ := (Option.bind_some _ _).symm.trans H; with_reducible exact H2_) | with_reducible exact H | (rw [hy456]; exact H) | exact H
           have Ny456 := Aside0.mk hy456
           clear hy456
           have H' := Aside0.mk H
           clear H
           have p450 : 0 ≤ (x35_1 : Int) := of_decide_eq_true (by first | (with_reducible assumption) | assumption)
           have q450 : x35_1 < (y443.length : Int) := of_decide_eq_true (by first | (with_reducible assumption) | assumption)
           obtain ⟨ad450, e450, hx450_0⟩ := Kd.at_int HR446.out x35_1 p450 q450
           cases e450
           replace hx450_0 := (HB.out.cell (World.block_lt_of_cell? w _ hx450_0)).trans hx450_0
           replace p450 := eq_true p450
           replace q450 := eq_true q450
           try go_wp2_with (first | ((with_reducible refine gate_dst (N := 11) rfl ?_); (try (refine gate_guard (by rfl) ?_; dsimp only)); refine box_event ?hg (N := 11) ?hd (cs := #[.int .i64 0, .int .i64 0, .int .i64 0, .int .i64 0, .int .i64 0]) (t := 37) ?hr ?_; (case hd => rfl); (case hg => rfl); (case hr => first | (go_simp; done) | (go_simp; rfl)); intro gb451 hg w34 hbox hb; have n0_ := Aside0.mk (Kd.R_below (Kd.R_elderB (by (with_reducible repeat (first | apply Kd.R_alloc | apply Kd.R_drewN | apply Kd.R_drew)); exact HO_6.out) gb451 (Nat.le_of_eq hg.symm)) hb); have n1_ := Aside0.mk (below_step (by repeat (first | (with_reducible first | exact HB.out | apply below_alloc | apply pw_below_drewN | apply below_drew1) | exact HB.out)) hb); have n2_ := Aside0.mk (hbox); have n3_ := Aside0.mk ((by rw [hg]; exact (below_size (by repeat (first | (with_reducible first | exact HB.out | apply below_alloc | apply pw_below_drewN | apply below_drew1) | exact HB.out))) : w.heap.size ≤ gb451)); have n4_ := Aside0.mk ((by rw [hg]; exact (below_size (by repeat (first | (with_reducible first | exact HB.out | apply below_alloc | apply pw_below_drewN | apply below_drew1) | exact HB.out))) : w.heap.size ≤ gb451)); clear HO_6; clear HB; have HO_6 := n0_; have HB := n1_; have BK451 := n2_; have GW451 := n3_; have GE451 := n4_; clear n0_ n1_ n2_ n3_ n4_; clear hb hbox hg; have hcz35_0 : w34.cell? ⟨gb451, 0, none⟩ = some (.int .i64 0) := (blk_cell BK451.out 0).trans rfl; have hcz35_1 : w34.cell? ⟨gb451, 1, none⟩ = some (.int .i64 0) := (blk_cell BK451.out 1).trans rfl; have hcz35_2 : w34.cell? ⟨gb451, 2, none⟩ = some (.int .i64 0) := (blk_cell BK451.out 2).trans rfl; have hcz35_3 : w34.cell? ⟨gb451, 3, none⟩ = some (.int .i64 0) := (blk_cell BK451.out 3).trans rfl; have hcz35_4 : w34.cell? ⟨gb451, 4, none⟩ = some (.int .i64 0) := (blk_cell BK451.out 4).trans rfl; have hfz35_0 := blk_frozen BK451.out 0; have hfz35_1 := blk_frozen BK451.out 1; have hfz35_2 := blk_frozen BK451.out 2; have hfz35_3 := blk_frozen BK451.out 3; have hfz35_4 := blk_frozen BK451.out 4))
           have n0_ : Aside0 (Kd.R k37 37 (((((w34.setCell ⟨gb451, 0, none⟩ (.int .i64 (wrap64 (100 - x35_1)))).setCell ⟨gb451, 1, none⟩ (.int .i64 (wrap64 (rd y443 x35_1)))).setCell ⟨gb451, 2, none⟩ (.int .i64 (wrap64 ((wrap64 (t448)) - (wrap64 (t449)))))).setCell ⟨gb451, 3, none⟩ (.int .i64 0)).setCell ⟨gb451, 4, none⟩ (.int .i64 2)) w.heap.size (fun k_ => k_ ≠ gb451) u6 x6_1) := ⟨by (with_reducible repeat (first | apply Kd.R_alloc | apply Kd.R_drewN | apply Kd.R_drew)); exact Kd.R_mono (Kd.R_far (p := ⟨gb451, 4, none⟩) (Kd.R_far (p := ⟨gb451, 3, none⟩) (Kd.R_far (p := ⟨gb451, 2, none⟩) (Kd.R_far (p := ⟨gb451, 1, none⟩) (Kd.R_far (p := ⟨gb451, 0, none⟩) (Kd.R_mono HO_6.out (fun k_ hk => (⟨hk, hk.2⟩ : _ ∧ k_ ≠ gb451))) (fun _ hk => hk.2) (.int .i64 (wrap64 (100 - x35_1)))) (fun _ hk => hk.2) (.int .i64 (wrap64 (rd y443 x35_1)))) (fun _ hk => hk.2) (.int .i64 (wrap64 ((wrap64 (t448)) - (wrap64 (t449)))))) (fun _ hk => hk.2) (.int .i64 0)) (fun _ hk => hk.2) (.int .i64 2)) (fun _ hk => hk.1.2)⟩
           have n1_ : Aside0 ((((((w34.setCell ⟨gb451, 0, none⟩ (.int .i64 (wrap64 (100 - x35_1)))).setCell ⟨gb451, 1, none⟩ (.int .i64 (wrap64 (rd y443 x35_1)))).setCell ⟨gb451, 2, none⟩ (.int .i64 (wrap64 ((wrap64 (t448)) - (wrap64 (t449)))))).setCell ⟨gb451, 3, none⟩ (.int .i64 0)).setCell ⟨gb451, 4, none⟩ (.int .i64 2)).heap[gb451]? = some (.cells #[.int .i64 (wrap64 (100 - x35_1)), .int .i64 (wrap64 (rd y443 x35_1)), .int .i64 (wrap64 ((wrap64 (t448)) - (wrap64 (t449)))), .int .i64 0, .int .i64 2] 37 (0, 0))) := ⟨by (with_reducible repeat (first | refine blk_drewN ?_ _ | refine blk_drew ?_ | refine blk_alloc ?_ _)); refine blk_put (cs := #[.int .i64 (wrap64 (100 - x35_1)), .int .i64 (wrap64 (rd y443 x35_1)), .int .i64 (wrap64 ((wrap64 (t448)) - (wrap64 (t449)))), .int .i64 0, .int .i64 0]) ?_ 4 _ rfl; (with_reducible repeat (first | refine blk_drewN ?_ _ | refine blk_drew ?_ | refine blk_alloc ?_ _)); refine blk_put (cs := #[.int .i64 (wrap64 (100 - x35_1)), .int .i64 (wrap64 (rd y443 x35_1)), .int .i64 (wrap64 ((wrap64 (t448)) - (wrap64 (t449)))), .int .i64 0, .int .i64 0]) ?_ 3 _ rfl; (with_reducible repeat (first | refine blk_drewN ?_ _ | refine blk_drew ?_ | refine blk_alloc ?_ _)); refine blk_put (cs := #[.int .i64 (wrap64 (100 - x35_1)), .int .i64 (wrap64 (rd y443 x35_1)), .int .i64 0, .int .i64 0, .int .i64 0]) ?_ 2 _ rfl; (with_reducible repeat (first | refine blk_drewN ?_ _ | refine blk_drew ?_ | refine blk_alloc ?_ _)); refine blk_put (cs := #[.int .i64 (wrap64 (100 - x35_1)), .int .i64 0, .int .i64 0, .int .i64 0, .int .i64 0]) ?_ 1 _ rfl; (with_reducible repeat (first | refine blk_drewN ?_ _ | refine blk_drew ?_ | refine blk_alloc ?_ _)); refine blk_put (cs := #[.int .i64 0, .int .i64 0, .int .i64 0, .int .i64 0, .int .i64 0]) ?_ 0 _ rfl; (with_reducible repeat (first | refine blk_drewN ?_ _ | refine blk_drew ?_ | refine blk_alloc ?_ _)); exact BK451.out⟩
           have n2_ : Aside0 (Below w.heap.size w (((((w34.setCell ⟨gb451, 0, none⟩ (.int .i64 (wrap64 (100 - x35_1)))).setCell ⟨gb451, 1, none⟩ (.int .i64 (wrap64 (rd y443 x35_1)))).setCell ⟨gb451, 2, none⟩ (.int .i64 (wrap64 ((wrap64 (t448)) - (wrap64 (t449)))))).setCell ⟨gb451, 3, none⟩ (.int .i64 0)).setCell ⟨gb451, 4, none⟩ (.int .i64 2))) := ⟨by repeat (first | (with_reducible first | exact HB.out | apply below_alloc | apply pw_below_drewN | apply below_drew1 | refine below_set ?_ GE451.out) | exact HB.out)⟩
           (try clear HO_6)
           (try clear BK451)
           (try clear HB)
           generalize (((((w34.setCell ⟨gb451, 0, none⟩ (.int .i64 (wrap64 (100 - x35_1)))).setCell ⟨gb451, 1, none⟩ (.int .i64 (wrap64 (rd y443 x35_1)))).setCell ⟨gb451, 2, none⟩ (.int .i64 (wrap64 ((wrap64 (t448)) - (wrap64 (t449)))))).setCell ⟨gb451, 3, none⟩ (.int .i64 0)).setCell ⟨gb451, 4, none⟩ (.int .i64 2)) = w36 at n0_ n1_ n2_ ⊢
           have HO_6 := n0_
           have BK451 := n1_
           have HB := n2_
           clear n0_ n1_ n2_
           have n0_ := Aside0.mk (Kd.R_drew HO_6.out)
           have n1_ := Aside0.mk (blk_drew BK451.out)
           have n2_ := Aside0.mk (below_drew1 HB.out)
           clear HO_6
           clear BK451
           clear HB
           have HO_6 := n0_
           have BK451 := n1_
           have HB := n2_
           clear n0_ n1_ n2_
           refine start_ (n := 16) (S := fun w' => w'.cell? ⟨gb451, 0, none⟩ = some (.int .i64 (wrap64 (100 - x35_1))) ∧ w'.cell? ⟨gb451, 1, none⟩ = some (.int .i64 (wrap64 (rd y443 x35_1))) ∧ w'.cell? ⟨gb451, 2, none⟩ = some (.int .i64 (wrap64 ((wrap64 (t448)) - (wrap64 (t449))))) ∧ w'.cell? ⟨gb451, 3, none⟩ = some (.int .i64 0) ∧ w'.cell? ⟨gb451, 4, none⟩ = some (.int .i64 2)) (ds := []) #[false, false, false, false, false, false, false, false, false, false, false, false, false, false, false, false] (by kernel_rfl) rfl rfl ⟨(blk_cell BK451.out 0).trans rfl, (blk_cell BK451.out 1).trans rfl, (blk_cell BK451.out 2).trans rfl, (blk_cell BK451.out 3).trans rfl, (blk_cell BK451.out 4).trans rfl⟩ (fun hHeld => ?_); refine with_tabW timesynclaw24_ChooseTogether.tab13 timesynclaw24_ChooseTogether.bits13 (fun HT_ HW_ => ?_)
           generalize w36.drew = w37 at HO_6 BK451 HB hHeld ⊢
           refine pure_ (i := 0) (N := some 59) (v := ?_) (a' := ?_) #[true, false, false, false, false, false, false, false, false, false, false, false, false, false, false, false] rfl rfl (any_of HT_.out (by kernel_rfl)) (fun _ _ _ h => h) (Or.inl ⟨by rfl, ?_⟩) ?_ ?_
           rotate_left
           ·intro w'
            go_simp
            with_reducible rfl
           rotate_left
           ·simp only [Act.put, List.setIfInBounds_toArray, List.set_cons_zero, List.set_cons_succ, i64_w, i32_w]
            rfl
           refine pure_ (i := 1) (N := some 60) (v := ?_) (a' := ?_) #[true, true, false, false, false, false, false, false, false, false, false, false, false, false, false, false] rfl rfl (any_of HT_.out (by kernel_rfl)) (fun _ _ _ h => h) (Or.inl ⟨by rfl, ?_⟩) ?_ ?_
           rotate_left
           ·intro w'
            go_simp
            with_reducible rfl
           rotate_left
           ·simp only [Act.put, List.setIfInBounds_toArray, List.set_cons_zero, List.set_cons_succ, i64_w, i32_w]
            rfl
           refine pure_ (i := 3) (N := some 62) (v := ?_) (a' := ?_) #[true, true, false, true, false, false, false, false, false, false, false, false, false, false, false, false] rfl rfl (any_of HT_.out (by kernel_rfl)) (fun _ _ _ h => h) (Or.inl ⟨by rfl, ?_⟩) ?_ ?_
           rotate_left
           ·intro w'
            go_simp
            with_reducible rfl
           rotate_left
           ·simp only [Act.put, List.setIfInBounds_toArray, List.set_cons_zero, List.set_cons_succ, i64_w, i32_w]
            rfl
           refine pure_ (i := 7) (N := some 66) (v := ?_) (a' := ?_) #[true, true, false, true, false, false, false, true, false, false, false, false, false, false, false, false] rfl rfl (any_of HT_.out (by kernel_rfl)) (fun _ _ _ h => h) (Or.inl ⟨by rfl, ?_⟩) ?_ ?_
           rotate_left
           ·intro w'
            go_simp
            with_reducible rfl
           rotate_left
           ·simp only [Act.put, List.setIfInBounds_toArray, List.set_cons_zero, List.set_cons_succ, i64_w, i32_w]
            rfl
           refine pure_ (i := 8) (N := some 67) (v := ?_) (a' := ?_) #[true, true, false, true, false, false, false, true, true, false, false, false, false, false, false, false] rfl rfl (any_of HT_.out (by kernel_rfl)) (fun _ _ _ h => h) (Or.inl ⟨by rfl, ?_⟩) ?_ ?_
           rotate_left
           ·intro w'
            go_simp
            with_reducible rfl
           rotate_left
           ·simp only [Act.put, List.setIfInBounds_toArray, List.set_cons_zero, List.set_cons_succ, i64_w, i32_w]
            rfl
           refine pure_ (i := 10) (N := some 69) (v := ?_) (a' := ?_) #[true, true, false, true, false, false, false, true, true, false, true, false, false, false, false, false] rfl rfl (any_of HT_.out (by kernel_rfl)) (fun _ _ _ h => h) (Or.inl ⟨by rfl, ?_⟩) ?_ ?_
           rotate_left
           ·intro w'
            go_simp
            with_reducible rfl
           rotate_left
           ·simp only [Act.put, List.setIfInBounds_toArray, List.set_cons_zero, List.set_cons_succ, i64_w, i32_w]
            rfl
           refine take_ (i := 2) (N := some 61) (v := ?_) (a' := ?_) #[true, true, true, true, false, false, false, true, true, false, true, false, false, false, false, false] rfl rfl (take_ofW HT_.out HW_.out (by kernel_rfl)) (fun _ _ _ h => h) (Or.inl ⟨by rfl, ?_⟩) hHeld ?_ ?_
           rotate_left
           ·rintro w' ⟨s0, s1, s2, s3, s4⟩
            go_simp
            with_reducible rfl
           rotate_left
           ·simp only [Act.put, List.setIfInBounds_toArray, List.set_cons_zero, List.set_cons_succ, i64_w, i32_w]
            rfl
           refine take_ (i := 4) (N := some 63) (v := ?_) (a' := ?_) #[true, true, true, true, true, false, false, true, true, false, true, false, false, false, false, false] rfl rfl (take_ofW HT_.out HW_.out (by kernel_rfl)) (fun _ _ _ h => h) (Or.inl ⟨by rfl, ?_⟩) hHeld ?_ ?_
           rotate_left
           ·rintro w' ⟨s0, s1, s2, s3, s4⟩
            go_simp
            with_reducible rfl
           rotate_left
           ·simp only [Act.put, List.setIfInBounds_toArray, List.set_cons_zero, List.set_cons_succ, i64_w, i32_w]
            rfl
           refine pure_ (i := 5) (N := some 64) (v := ?_) (a' := ?_) #[true, true, true, true, true, true, false, true, true, false, true, false, false, false, false, false] rfl rfl (any_of HT_.out (by kernel_rfl)) (fun _ _ _ h => h) (Or.inl ⟨by rfl, ?_⟩) ?_ ?_
           rotate_left
           ·intro w'
            go_simp
            with_reducible rfl
           rotate_left
           ·simp only [Act.put, List.setIfInBounds_toArray, List.set_cons_zero, List.set_cons_succ, i64_w, i32_w]
            rfl
           refine pure_ (i := 6) (N := some 65) (v := ?_) (a' := ?_) #[true, true, true, true, true, true, true, true, true, false, true, false, false, false, false, false] rfl rfl (any_of HT_.out (by kernel_rfl)) (fun _ _ _ h => h) (Or.inl ⟨by rfl, ?_⟩) ?_ ?_
           rotate_left
           ·intro w'
            go_simp
            with_reducible rfl
           rotate_left
           ·simp only [Act.put, List.setIfInBounds_toArray, List.set_cons_zero, List.set_cons_succ, i64_w, i32_w]
            rfl
           refine pure_ (i := 14) (N := some 7) (v := ?_) (a' := ?_) #[true, true, true, true, true, true, true, true, true, false, true, false, false, false, true, false] rfl rfl (any_of HT_.out (by kernel_rfl)) (fun _ _ _ h => h) (Or.inl ⟨by rfl, ?_⟩) ?_ ?_
           rotate_left
           ·intro w'
            go_simp
            with_reducible rfl
           rotate_left
           ·simp only [Act.put, List.setIfInBounds_toArray, List.set_cons_zero, List.set_cons_succ, i64_w, i32_w]
            rfl
           refine take_ (i := 9) (N := some 68) (v := ?_) (a' := ?_) #[true, true, true, true, true, true, true, true, true, true, true, false, false, false, true, false] rfl rfl (take_ofW HT_.out HW_.out (by kernel_rfl)) (fun _ _ _ h => h) (Or.inl ⟨by rfl, ?_⟩) hHeld ?_ ?_
           rotate_left
           ·rintro w' ⟨s0, s1, s2, s3, s4⟩
            go_simp
            with_reducible rfl
           rotate_left
           ·simp only [Act.put, List.setIfInBounds_toArray, List.set_cons_zero, List.set_cons_succ, i64_w, i32_w]
            rfl
           refine take_ (i := 11) (N := some 70) (v := ?_) (a' := ?_) #[true, true, true, true, true, true, true, true, true, true, true, true, false, false, true, false] rfl rfl (take_ofW HT_.out HW_.out (by kernel_rfl)) (fun _ _ _ h => h) (Or.inl ⟨by rfl, ?_⟩) hHeld ?_ ?_
           rotate_left
           ·rintro w' ⟨s0, s1, s2, s3, s4⟩
            go_simp
            with_reducible rfl
           rotate_left
           ·simp only [Act.put, List.setIfInBounds_toArray, List.set_cons_zero, List.set_cons_succ, i64_w, i32_w]
            rfl
           refine pure_ (i := 12) (N := some 71) (v := ?_) (a' := ?_) #[true, true, true, true, true, true, true, true, true, true, true, true, true, false, true, false] rfl rfl (any_of HT_.out (by kernel_rfl)) (fun _ _ _ h => h) (Or.inl ⟨by rfl, ?_⟩) ?_ ?_
           rotate_left
           ·intro w'
            go_simp
            with_reducible rfl
           rotate_left
           ·simp only [Act.put, List.setIfInBounds_toArray, List.set_cons_zero, List.set_cons_succ, i64_w, i32_w]
            rfl
           refine pure_ (i := 13) (N := some 72) (v := ?_) (a' := ?_) #[true, true, true, true, true, true, true, true, true, true, true, true, true, true, true, false] rfl rfl (any_of HT_.out (by kernel_rfl)) (fun _ _ _ h => h) (Or.inl ⟨by rfl, ?_⟩) ?_ ?_
           rotate_left
           ·intro w'
            go_simp
            with_reducible rfl
           rotate_left
           ·simp only [Act.put, List.setIfInBounds_toArray, List.set_cons_zero, List.set_cons_succ, i64_w, i32_w]
            rfl
           refine pure_ (i := 15) (N := some 8) (v := ?_) (a' := ?_) #[true, true, true, true, true, true, true, true, true, true, true, true, true, true, true, true] rfl rfl (any_of HT_.out (by kernel_rfl)) (fun _ _ _ h => h) (Or.inl ⟨by rfl, ?_⟩) ?_ ?_
           rotate_left
           ·intro w'
            go_simp
            with_reducible rfl
           rotate_left
           ·simp only [Act.put, List.setIfInBounds_toArray, List.set_cons_zero, List.set_cons_succ, i64_w, i32_w]
            rfl
           refine done_ (done_of HT_.out (by kernel_rfl)) ?_
           have hcz38_0 : w37.cell? ⟨gb451, 0, none⟩ = some (.int .i64 (wrap64 (100 - x35_1))) := (blk_cell BK451.out 0).trans rfl
           have hcz38_1 : w37.cell? ⟨gb451, 1, none⟩ = some (.int .i64 (wrap64 (rd y443 x35_1))) := (blk_cell BK451.out 1).trans rfl
           have hcz38_2 : w37.cell? ⟨gb451, 2, none⟩ = some (.int .i64 (wrap64 ((wrap64 (t448)) - (wrap64 (t449))))) := (blk_cell BK451.out 2).trans rfl
           have hcz38_3 : w37.cell? ⟨gb451, 3, none⟩ = some (.int .i64 0) := (blk_cell BK451.out 3).trans rfl
           have hcz38_4 : w37.cell? ⟨gb451, 4, none⟩ = some (.int .i64 2) := (blk_cell BK451.out 4).trans rfl
           have hfz38_0 := blk_frozen BK451.out 0
           have hfz38_1 := blk_frozen BK451.out 1
           have hfz38_2 := blk_frozen BK451.out 2
           have hfz38_3 := blk_frozen BK451.out 3
           have hfz38_4 := blk_frozen BK451.out 4
           try go_wp2_with (first | ((with_reducible refine gate_builtin (b := .append) (xs := #[.tmp 73, .tmp 75]) rfl ?_); (try (refine gate_guard (by rfl) ?_; dsimp only)); at_builtin; refine Kd.R_append k37 (w0 := w) w.heap.size rfl (.tmp 73) (.tmp 75) 22 37 (.agg #[(.int .i64 0), (.int .i64 0), (.int .i64 0), (.int .i64 0), (.int .i64 0)]) 40 rfl Try.underlying22 info37 rfl (by decide) (by omega) u6 x6_1 (⟨wrap64 (100 - x35_1), wrap64 (rd y443 x35_1), (wrap64 ((wrap64 (t448)) - (wrap64 (t449)))), 0, 2⟩ : S37) [.int .i64 (wrap64 (100 - x35_1)), .int .i64 (wrap64 (rd y443 x35_1)), .int .i64 (wrap64 ((wrap64 (t448)) - (wrap64 (t449)))), .int .i64 0, .int .i64 2] (fun k_ => k_ ≠ gb451) (fun _ => False) rfl rfl ?aP (fun _ hk => hk.elim) ?aF ?aO ?aB ?aS ?aL ?_; (case aP => exact k37_mkM _ _ _ (⟨wrap64 (100 - x35_1), wrap64 (rd y443 x35_1), (wrap64 ((wrap64 (t448)) - (wrap64 (t449)))), 0, 2⟩ : S37)); (case aB => exact (by repeat (first | (with_reducible first | exact HB.out | apply below_alloc | apply pw_below_drewN | apply below_drew1 | refine below_set ?_ GE451.out) | exact HB.out))); (case aF => exact (fun k_ hk => Kd.freshB (g := gb451) (o := .cells #[.int .i64 (wrap64 (100 - x35_1)), .int .i64 (wrap64 (rd y443 x35_1)), .int .i64 (wrap64 ((wrap64 (t448)) - (wrap64 (t449)))), .int .i64 0, .int .i64 2] 37 (0, 0)) (by (with_reducible repeat (first | refine blk_drewN ?_ _ | refine blk_drew ?_ | refine blk_alloc ?_ _)); exact BK451.out) k_ hk)); (case aO => exact (by (with_reducible repeat (first | apply Kd.R_alloc | apply Kd.R_drewN | apply Kd.R_drew)); exact HO_6.out)); (case aS => exact (below_size (by repeat (first | (with_reducible first | exact HB.out | apply below_alloc | apply pw_below_drewN | apply below_drew1 | refine below_set ?_ GE451.out) | exact HB.out)))); (case aL => have := LMc33.out; omega); intro v457 w39 ho hb hg hat; rw [← Ny456.out] at ho; have n0_ := Aside0.mk (blk_grown (g := gb451) (o := .cells #[.int .i64 (wrap64 (100 - x35_1)), .int .i64 (wrap64 (rd y443 x35_1)), .int .i64 (wrap64 ((wrap64 (t448)) - (wrap64 (t449)))), .int .i64 0, .int .i64 2] 37 (0, 0)) (by (with_reducible repeat (first | refine blk_drewN ?_ _ | refine blk_drew ?_ | refine blk_alloc ?_ _)); exact BK451.out) hg (Kd.R_away HO_6.out (fun _ hk => hk))); have n1_ := Aside0.mk (hb); have n2_ := Aside0.mk (ho); clear BK451; clear HB; clear HO_6; have BK451 := n0_; have HB := n1_; have HO458 := n2_; clear n0_ n1_ n2_; clear ho hb hg hat))
           go_roundg k1
           case measure => have := HK1.out; omega
           case rel => exact ⟨(y456), (ji31), (ji32), (wrap64 (x35_1 + 1)), (by first | rfl | (simp; done) | (simp only [← hji31] <;> (first | rfl | simp)) | (simp [*]; done)), (by first | rfl | (simp; done) | (simp only [← hji32] <;> (first | rfl | simp)) | (simp [*]; done)), (by first | rfl | (simp; done) | (simp [*]; done)), H', ⟨by have := HK1.out; omega⟩, ⟨by (with_reducible repeat (first | apply Kd.R_alloc | apply Kd.R_drewN | apply Kd.R_drew)); exact Kd.R_mono HO458.out (fun _ hk => trivial)⟩, ⟨by repeat (first | (with_reducible first | exact HB.out | apply below_alloc | apply pw_below_drewN | apply below_drew1 | refine below_set ?_ GE451.out) | exact HB.out)⟩⟩
          ·rw [if_neg c33] at H
           exact absurd H (by simp)
        ·rw [if_neg c17] at H
         exact absurd H (by simp)
       ·rw [if_neg c16] at H
        exact absurd H (by simp)
      ·rw [if_neg c15] at H
       have c15b0 : decide (x35_1 < (y443.length : Int)) = false := decide_eq_false c15
       clear c15
       replace H := Option.bind_eq_some_iff.mp H
       obtain ⟨⟨t459, t462, t463, t464⟩, A400, H⟩ := H
       replace H : ((choose_Falsetickers.f k1 x6_1).bind fun bt466 => (if t464 = 0 then (if bt466.2 = 0 then (if (t459.length : Int) = (x6_1.length : Int) then (if (bt466.1.length : Int) = 0 then (if (t462 == x7_1 && (t463 == x8_1)) = true then ((timesynclaw24_awake.f k1).bind fun t470 => (some t470)) else (none)) else (none)) else (none)) else (none)) else (none))) = some r := H
       have A40 := Aside0.mk A400
       clear A400
       replace H := Option.bind_eq_some_iff.mp H
       obtain ⟨⟨t466, t467⟩, A410, H⟩ := H
       replace H : (if t464 = 0 then (if t467 = 0 then (if (t459.length : Int) = (x6_1.length : Int) then (if (t466.length : Int) = 0 then (if (t462 == x7_1 && (t463 == x8_1)) = true then ((timesynclaw24_awake.f k1).bind fun t470 => (some t470)) else (none)) else (none)) else (none)) else (none)) else (none)) = some r := H
       have A41 := Aside0.mk A410
       clear A410
       by_cases c42 : t464 = 0
       ·rw [if_pos c42] at H
        have c42b0 : (t464 == 0) = true := beq_iff_eq.mpr c42
        have c42b1 : (t464 != 0) = false := bne_eq_false_iff_eq.mpr c42
        clear c42
        by_cases c43 : t467 = 0
        ·rw [if_pos c43] at H
         have c43b0 : (t467 == 0) = true := beq_iff_eq.mpr c43
         have c43b1 : (t467 != 0) = false := bne_eq_false_iff_eq.mpr c43
         clear c43
         by_cases c44 : (t459.length : Int) = (x6_1.length : Int)
         ·rw [if_pos c44] at H
          have c44b0 : ((t459.length : Int) == (x6_1.length : Int)) = true := beq_iff_eq.mpr c44
          have c44b1 : ((t459.length : Int) != (x6_1.length : Int)) = false := bne_eq_false_iff_eq.mpr c44
          have c44b2 : (t459.length == x6_1.length) = true := by first | simpa using c44 | (simp at c44 ⊢; omega)
          clear c44
          by_cases c45 : (t466.length : Int) = 0
          ·rw [if_pos c45] at H
           have c45b0 : ((t466.length : Int) == 0) = true := beq_iff_eq.mpr c45
           have c45b1 : ((t466.length : Int) != 0) = false := bne_eq_false_iff_eq.mpr c45
           clear c45
           by_cases c46 : (t462 == x7_1 && (t463 == x8_1)) = true
           ·rw [if_pos c46] at H
            have c46b0 : (t462 == x7_1 && (t463 == x8_1)) = true := c46
            (try (have c46b1 : decide (t462 = x7_1 && (t463 == x8_1)) = true := by simpa using c46))
            (try (have c46b2 : (t462 == x7_1 && (t463 == x8_1)) = true := by simpa using c46))
            clear c46
            replace H := Option.bind_eq_some_iff.mp H
            obtain ⟨t470, A470, H⟩ := H
            replace H : (some t470) = some r := H
            have A47 := Aside0.mk A470
            clear A470
            obtain rfl := Option.some.inj H
            obtain ⟨Ao48, co48, eo48⟩ := Kd.R_slice HO_6.out
            subst eo48
            go_wp2_with (first | ((with_reducible refine gate_callee (f := 17) rfl ?_); refine goesL_ (some 80) rfl rfl Try.func17 (by kernel_rfl) rfl #[.slice Ao48 x6_1.length co48] rfl (by (try simp only [List.map_toArray, List.map_cons, List.map_nil]); first | done | rfl | (simp only [List.length_drop, List.length_take]; rfl)) ?_; (with_reducible refine (choose_Select.calls k1 _ _ x6_1 t459 t462 t463 t464 _ ?side1 ?side2 A40.out).mono ?_); (case side1 => repeat (first | exact (Kd.R_reads' HO_6.out).2.2 | (with_reducible refine Kd.C_alloc ?_ _) | (with_reducible refine Kd.C_drewN ?_ _) | (with_reducible refine Kd.C_drew ?_))); (case side2 => exact (Kd.R_reads' HO_6.out).2.1); rintro e w49 ⟨v460, rfl, ho0, hb⟩; refine ⟨_, rfl, ?_⟩; have n0_ := Aside0.mk (Kd.R_below (by (with_reducible repeat (first | apply Kd.R_alloc | apply Kd.R_drewN | apply Kd.R_drew)); exact HO_6.out) hb); have n1_ := Aside0.mk (Kd.R_lower ho0 (below_size (by repeat (first | (with_reducible first | exact HB.out | apply below_alloc | apply pw_below_drewN | apply below_drew1) | exact HB.out)))); have n2_ := Aside0.mk (below_step (by repeat (first | (with_reducible first | exact HB.out | apply below_alloc | apply pw_below_drewN | apply below_drew1) | exact HB.out)) hb); clear HO_6; clear HB; have HO_6 := n0_; have HO461 := n1_; have HB := n2_; clear n0_ n1_ n2_; (try clear hb); (try clear hb2); (try clear hk); (try clear hi); (try clear ho0)) | ((with_reducible refine gate_dst (N := 13) rfl ?_); (try (refine gate_guard (by rfl) ?_; dsimp only)); refine box_event ?hg (N := 13) ?hd (cs := #[.int .i64 0, .int .i64 0]) (t := 29) ?hr ?_; (case hd => rfl); (case hg => rfl); (case hr => first | (go_simp; done) | (go_simp; rfl)); intro gb465 hg w50 hbox hb; have n0_ := Aside0.mk (Kd.R_below (by (with_reducible repeat (first | apply Kd.R_alloc | apply Kd.R_drewN | apply Kd.R_drew)); exact HO_6.out) hb); have n1_ := Aside0.mk (Kd.R_below (by (with_reducible repeat (first | apply Kd.R_alloc | apply Kd.R_drewN | apply Kd.R_drew)); exact HO461.out) hb); have n2_ := Aside0.mk (below_step (by repeat (first | (with_reducible first | exact HB.out | apply below_alloc | apply pw_below_drewN | apply below_drew1) | exact HB.out)) hb); have n3_ := Aside0.mk (hbox); have n4_ := Aside0.mk ((by rw [hg]; exact (below_size (by repeat (first | (with_reducible first | exact HB.out | apply below_alloc | apply pw_below_drewN | apply below_drew1) | exact HB.out))) : w.heap.size ≤ gb465)); have n5_ := Aside0.mk ((by rw [hg]; exact (below_size (by repeat (first | (with_reducible first | exact HB.out | apply below_alloc | apply pw_below_drewN | apply below_drew1) | exact HB.out))) : w.heap.size ≤ gb465)); clear HO_6; clear HO461; clear HB; have HO_6 := n0_; have HO461 := n1_; have HB := n2_; have BK465 := n3_; have GW465 := n4_; have GE465 := n5_; clear n0_ n1_ n2_ n3_ n4_ n5_; clear hb hbox hg; have hcz51_0 : w50.cell? ⟨gb465, 0, none⟩ = some (.int .i64 0) := (blk_cell BK465.out 0).trans rfl; have hcz51_1 : w50.cell? ⟨gb465, 1, none⟩ = some (.int .i64 0) := (blk_cell BK465.out 1).trans rfl; have hfz51_0 := blk_frozen BK465.out 0; have hfz51_1 := blk_frozen BK465.out 1) | ((with_reducible refine gate_callee (f := 19) rfl ?_); refine goesL_ (some 86) rfl rfl Try.func19 (by kernel_rfl) rfl #[.slice Ao48 x6_1.length co48] rfl (by (try simp only [List.map_toArray, List.map_cons, List.map_nil]); first | done | rfl | (simp only [List.length_drop, List.length_take]; rfl)) ?_; (with_reducible refine (choose_Falsetickers.calls k1 _ _ x6_1 t466 t467 _ ?side1 ?side2 A41.out).mono ?_); (case side1 => refine (Kd.R_reads' (e := 37) (base := w.heap.size) (ok := fun k_ => True) (n := x6_1.length) (c := co48) ?_).2.2; exact (by (with_reducible repeat (first | apply Kd.R_alloc | apply Kd.R_drewN | apply Kd.R_drew)); exact (Kd.R_mono (Kd.R_far (p := ⟨gb465, 1, none⟩) (Kd.R_far (p := ⟨gb465, 0, none⟩) (Kd.R_types HO_6.out BK465.out (by decide)) (fun _ hk => hk.2) (.int .i64 t462)) (fun _ hk => hk.2) (.int .i64 t463)) (fun _ h_ => h_.1)))); (case side2 => exact (Kd.R_reads' HO_6.out).2.1); rintro e w52 ⟨v468, rfl, ho0, hb⟩; refine ⟨_, rfl, ?_⟩; have n0_ := Aside0.mk (Kd.R_below (by (with_reducible repeat (first | apply Kd.R_alloc | apply Kd.R_drewN | apply Kd.R_drew)); exact (Kd.R_mono (Kd.R_far (p := ⟨gb465, 1, none⟩) (Kd.R_far (p := ⟨gb465, 0, none⟩) (Kd.R_types HO_6.out BK465.out (by decide)) (fun _ hk => hk.2) (.int .i64 t462)) (fun _ hk => hk.2) (.int .i64 t463)) (fun _ h_ => h_.1))) hb); have n1_ := Aside0.mk (Kd.R_elder' (by (with_reducible repeat (first | apply Kd.R_alloc | apply Kd.R_drewN | apply Kd.R_drew)); exact (Kd.R_mono (Kd.R_far (p := ⟨gb465, 1, none⟩) (Kd.R_far (p := ⟨gb465, 0, none⟩) (Kd.R_types HO461.out BK465.out (by decide)) (fun _ hk => hk.2) (.int .i64 t462)) (fun _ hk => hk.2) (.int .i64 t463)) (fun _ h_ => h_.1))) (Kd.R_base ho0) hb); have n2_ := Aside0.mk (Kd.R_lower (Kd.R_new' ho0 (Kd.R_lt (by (with_reducible repeat (first | apply Kd.R_alloc | apply Kd.R_drewN | apply Kd.R_drew)); exact (Kd.R_mono (Kd.R_far (p := ⟨gb465, 1, none⟩) (Kd.R_far (p := ⟨gb465, 0, none⟩) (Kd.R_types HO461.out BK465.out (by decide)) (fun _ hk => hk.2) (.int .i64 t462)) (fun _ hk => hk.2) (.int .i64 t463)) (fun _ h_ => h_.1))))) (below_size (by repeat (first | (with_reducible first | exact HB.out | apply below_alloc | apply pw_below_drewN | apply below_drew1 | refine below_set ?_ GE465.out) | exact HB.out)))); have n3_ := Aside0.mk (blk_below (g := gb465) (o := .cells #[.int .i64 t462, .int .i64 t463] 29 (0, 0)) (by (with_reducible repeat (first | refine blk_drewN ?_ _ | refine blk_drew ?_ | refine blk_alloc ?_ _)); refine blk_put (cs := #[.int .i64 t462, .int .i64 0]) ?_ 1 _ rfl; (with_reducible repeat (first | refine blk_drewN ?_ _ | refine blk_drew ?_ | refine blk_alloc ?_ _)); refine blk_put (cs := #[.int .i64 0, .int .i64 0]) ?_ 0 _ rfl; (with_reducible repeat (first | refine blk_drewN ?_ _ | refine blk_drew ?_ | refine blk_alloc ?_ _)); exact BK465.out) hb); have n4_ := Aside0.mk (below_step (by repeat (first | (with_reducible first | exact HB.out | apply below_alloc | apply pw_below_drewN | apply below_drew1 | refine below_set ?_ GE465.out) | exact HB.out)) hb); clear HO_6; clear HO461; clear BK465; clear HB; have HO_6 := n0_; have HO461 := n1_; have HO469 := n2_; have BK465 := n3_; have HB := n4_; clear n0_ n1_ n2_ n3_ n4_; (try clear hb); (try clear hb2); (try clear hk); (try clear hi); (try clear ho0); obtain ⟨Ao53, co53, eo53⟩ := Kd.R_slice HO461.out; subst eo53; obtain ⟨Ao54, co54, eo54⟩ := Kd.R_slice HO469.out; subst eo54; have hcz55_0 : w52.cell? ⟨gb465, 0, none⟩ = some (.int .i64 t462) := (blk_cell BK465.out 0).trans rfl; have hcz55_1 : w52.cell? ⟨gb465, 1, none⟩ = some (.int .i64 t463) := (blk_cell BK465.out 1).trans rfl; have hfz55_0 := blk_frozen BK465.out 0; have hfz55_1 := blk_frozen BK465.out 1) | (go_at_call 14; (with_reducible refine (timesynclaw24_awake.calls k1  t470 _ A47.out).mono ?_); rintro e w56 ⟨rfl, hb⟩; have n0_ := Aside0.mk (Kd.R_below (by (with_reducible repeat (first | apply Kd.R_alloc | apply Kd.R_drewN | apply Kd.R_drew)); exact HO_6.out) hb); have n1_ := Aside0.mk (Kd.R_below (by (with_reducible repeat (first | apply Kd.R_alloc | apply Kd.R_drewN | apply Kd.R_drew)); exact HO461.out) hb); have n2_ := Aside0.mk (Kd.R_below (by (with_reducible repeat (first | apply Kd.R_alloc | apply Kd.R_drewN | apply Kd.R_drew)); exact HO469.out) hb); have n3_ := Aside0.mk (blk_below (g := gb465) (o := .cells #[.int .i64 t462, .int .i64 t463] 29 (0, 0)) (by (with_reducible repeat (first | refine blk_drewN ?_ _ | refine blk_drew ?_ | refine blk_alloc ?_ _)); exact BK465.out) hb); have n4_ := Aside0.mk (below_step (by repeat (first | (with_reducible first | exact HB.out | apply below_alloc | apply pw_below_drewN | apply below_drew1 | refine below_set ?_ GE465.out) | exact HB.out)) hb); clear HO_6; clear HO461; clear HO469; clear BK465; clear HB; have HO_6 := n0_; have HO461 := n1_; have HO469 := n2_; have BK465 := n3_; have HB := n4_; clear n0_ n1_ n2_ n3_ n4_; (try clear hb); (try clear hb2); (try clear hk); (try clear hi)))
            go_ret
            exact ⟨by first | rfl | (simp [errW_none, errW_some] <;> rfl) | (simp only [← hji3]; first | rfl | (simp [errW_none, errW_some] <;> rfl)) | (simp [*, errW_none, errW_some] <;> rfl), by repeat (first | (with_reducible first | exact HB.out | apply below_alloc | apply pw_below_drewN | apply below_drew1 | refine below_set ?_ GE465.out) | exact HB.out)⟩
           ·rw [if_neg c46] at H
            exact absurd H (by simp)
          ·rw [if_neg c45] at H
           exact absurd H (by simp)
         ·rw [if_neg c44] at H
          exact absurd H (by simp)
        ·rw [if_neg c43] at H
         exact absurd H (by simp)
       ·rw [if_neg c42] at H
        exact absurd H (by simp)
  ·rw [if_neg c5] at H
   exact absurd H (by simp)
 ·rw [if_neg c4] at H
  exact absurd H (by simp)

end Go.Proofs.Ytlfilhplklifjaa.X

namespace Go.Proofs.Ytlfilhplklifjaa.X
open Go.RowKit Go.Proofs.YtlfilhplklifjaaW.PrintWords Go.Proofs.YtlfilhplklifjaaW.PrintLast Go.Proofs.YtlfilhplklifjaaW.PrintMore
attribute [local go_sem] max2_int min2_int max_two min_two max_three min_three max_four min_four   -- for this text's walks alone
set_option linter.unusedVariables false
set_option linter.unusedSimpArgs false

def WFi32 (x : Int) : Prop := (Lit.int .i32 x).wf = true
def WFL21 (x : List Int) : Prop := x.length ≤ 9223372036854775807 ∧ ∀ y ∈ x, WFi32 y
def WFu16 (x : Int) : Prop := (Lit.int .u16 x).wf = true
def WFL51 (x : List Int) : Prop := x.length ≤ 9223372036854775807 ∧ ∀ y ∈ x, WFu16 y
end Go.Proofs.Ytlfilhplklifjaa.X

/- Plain words of this seat: rounds, wrapped numbers, lists by index; the check of candidates. -/
namespace Go.Proofs.Ytlfilhplklifjaa.PA
open Go.RowKit Go.Proofs.Ytlfilhplklifjaa.X Go.Proofs.YtlfilhplklifjaaW.PrintWords Go.Proofs.YtlfilhplklifjaaW.PrintLast

section
variable {α β : Type} {f g h : Nat → Option α} {r : α} {c : Prop} [Decidable c]
theorem Ev.pos (hc : c) (h : Ev f r) : Ev (fun n => if c then f n else g n) r := Ev.congr (fun _ => if_pos hc) h
theorem Ev.neg (hc : ¬ c) (h : Ev g r) : Ev (fun n => if c then f n else g n) r := Ev.congr (fun _ => if_neg hc) h
theorem Ev.ite_ (h1 : c → Ev f r) (h2 : ¬ c → Ev g r) : Ev (fun n => if c then f n else g n) r := by
  by_cases hc : c
  · exact Ev.pos hc (h1 hc)
  · exact Ev.neg hc (h2 hc)
theorem Ev.bind' {g : Nat → Option α} {f : Nat → α → Option β} {r : β} (a : α) (h : Ev g a) (k : Ev (fun n => f n a) r) : Ev (fun n => (g n).bind (f n)) r := Ev.bind h k
theorem Ev.some_bind {f : Nat → α → Option β} {a : α} {r : β} (k : Ev (fun n => f n a) r) : Ev (fun n => (some a).bind (f n)) r := k
theorem Ev.const {x : Option α} (h : x = some r) : Ev (fun _ => x) r := ⟨0, fun _ _ => h⟩
theorem Ev.uniq {r r' : α} (h : Ev f r) (h' : Ev f r') : r = r' := by
  obtain ⟨K, h⟩ := h
  obtain ⟨K', h'⟩ := h'
  have h1 := h (max K K') (by omega)
  have h2 := h' (max K K') (by omega)
  rw [h1] at h2
  exact Option.some.inj h2
end

theorem wrap_id {x : Int} (h0 : -9223372036854775808 ≤ x) (h1 : x < 9223372036854775808) : wrap64 x = x := by
  unfold wrap64; omega
theorem wrap_nat {i : Nat} (h : i < 9223372036854775807) : wrap64 ((i : Int) + 1) = ((i + 1 : Nat) : Int) := by
  rw [wrap_id (by omega) (by omega)]; rfl
theorem rd37 (l : List S37) (i : Nat) : rd_T37 l (i : Int) = l.getD i z37 := by simp [rd_T37]
theorem rd29 (l : List S29) (i : Nat) : rd_T29 l (i : Int) = l.getD i z29 := by simp [rd_T29]
theorem rd88 (l : List S88) (i : Nat) : rd_T88 l (i : Int) = l.getD i z88 := by simp [rd_T88]
theorem rd110 (l : List S110) (i : Nat) : rd_T110 l (i : Int) = l.getD i z110 := by simp [rd_T110]
theorem rdI (l : List Int) (i : Nat) : rd l (i : Int) = l.getD i 0 := by simp [rd]

/-! ### Check -/
/-- A candidate within the limits. -/
def OkC (c : S37) : Prop := 0 ≤ c.f0 ∧ c.f0 ≤ 2147483647 ∧ -4503599627370496 ≤ c.f1 ∧ c.f1 ≤ 4503599627370496 ∧ 0 ≤ c.f2 ∧ c.f2 ≤ 9007199254740992 ∧ 0 ≤ c.f3 ∧ c.f3 ≤ 9007199254740992 ∧ 1 ≤ c.f4 ∧ c.f4 ≤ 16
instance (c : S37) : Decidable (OkC c) := by unfold OkC; infer_instance
/-- One of the candidates from j on, ahead of i, has i's number. -/
def dupFrom (l : List S37) (i : Nat) : Nat → Nat → Bool
  | 0, _ => false
  | d + 1, j => if (l.getD j z37).f0 = (l.getD i z37).f0 then true else dupFrom l i d (j + 1)
def chkFrom (l : List S37) : Nat → Nat → Int
  | 0, _ => 0
  | d + 1, i => if OkC (l.getD i z37) then (if dupFrom l i i 0 = true then 10 else chkFrom l d (i + 1)) else 3
def chk (l : List S37) : Int := if (l.length : Int) > 12 then 6 else chkFrom l l.length 0

theorem impl_dup (l : List S37) (hn : l.length ≤ 12) (i : Nat) (hi : i < l.length) (r : Int) (hnext : Ev (fun k => choose_Check.l0 k l l l.length ((i + 1 : Nat) : Int)) r) (a b c e : Int) :
    ∀ d j, j + d = i → Ev (fun k => choose_Check.l1 k l l l.length i (l.take i) i j (l.getD i z37).f0 a b c e) (if dupFrom l i d j = true then 10 else r) := by
  intro d
  induction d with
  | zero =>
    intro j hj
    refine Ev.step (fun k => by rw [choose_Check.l1]) ?_
    refine Ev.neg (by omega) ?_
    rw [wrap_nat (by omega)]
    simpa [dupFrom] using hnext
  | succ d ih =>
    intro j hj
    refine Ev.step (fun k => by rw [choose_Check.l1]) ?_
    refine Ev.pos (by omega) (Ev.pos (by omega) (Ev.pos (by rw [List.length_take]; omega) ?_))
    rw [rd37]
    unfold dupFrom
    have e1 : (l.take i).getD j z37 = l.getD j z37 := by
      simp [List.getD, show j < i by omega]
    rw [e1]
    by_cases h : (l.getD j z37).f0 = (l.getD i z37).f0
    · rw [if_pos h]
      exact Ev.pos h (Ev.const rfl)
    · rw [if_neg h]
      refine Ev.neg h ?_
      rw [wrap_nat (by omega)]
      exact ih (j + 1) (by omega)

theorem impl_j1 (l : List S37) (hn : l.length ≤ 12) (i : Nat) (hi : i < l.length) (r : Int) (hnext : Ev (fun k => choose_Check.l0 k l l l.length ((i + 1 : Nat) : Int)) r) (bad : Bool) (a b c e : Int) :
    Ev (fun k => choose_Check.j1 k l i l l.length i bad (l.getD i z37).f0 a b c e) (if bad = true then 3 else if dupFrom l i i 0 = true then 10 else r) := by
  refine Ev.step (fun k => by rw [choose_Check.j1]) ?_
  cases bad with
  | true => exact Ev.pos rfl (Ev.const rfl)
  | false =>
    refine Ev.neg (by simp) (Ev.pos (by omega) (Ev.pos (by omega) (Ev.some_bind ?_)))
    have h1 : ((l.take ((i : Int)).toNat).length : Int) = i := by rw [List.length_take]; simp; omega
    simp only [h1]
    simp only [Int.toNat_natCast, Bool.false_eq_true, if_false]
    exact impl_dup l hn i hi r hnext a b c e i 0 (by omega)

theorem impl_chk_from (l : List S37) (hn : l.length ≤ 12) : ∀ d i, i + d = l.length → Ev (fun k => choose_Check.l0 k l l l.length i) (chkFrom l d i) := by
  intro d
  induction d with
  | zero =>
    intro i hi
    refine Ev.step (fun k => by rw [choose_Check.l0]) ?_
    exact Ev.neg (by omega) (Ev.const rfl)
  | succ d ih =>
    intro i hi
    have J := fun bad a b c e => impl_j1 l hn i (by omega) _ (ih (i + 1) (by omega)) bad a b c e
    refine Ev.step (fun k => by rw [choose_Check.l0]) ?_
    refine Ev.pos (by omega) (Ev.pos (by omega) (Ev.pos (by omega) ?_))
    simp only [rd37]
    unfold chkFrom
    generalize l.getD i z37 = c at J ⊢
    by_cases h : OkC c
    · rw [if_pos h]
      obtain ⟨h1, h2, h3, h4, h5, h6, h7, h8, h9, h10⟩ := h
      refine Ev.neg (by omega) (Ev.neg (by omega) (Ev.neg (by omega) (Ev.neg (by omega) (Ev.neg (by omega) (Ev.neg (by omega) (Ev.neg (by omega) (Ev.neg (by omega) (Ev.neg (by omega) ?_))))))))
      have e1 : decide (c.f4 > 16) = false := by simp; omega
      rw [e1]
      simpa using J false c.f1 c.f2 c.f3 c.f4
    · rw [if_neg h]
      have J3 := J true c.f1 c.f2 c.f3 c.f4
      simp only [if_true] at J3
      refine Ev.ite_ (fun _ => J3) (fun h1 => Ev.ite_ (fun _ => J3) (fun h2 => Ev.ite_ (fun _ => J3) (fun h3 => Ev.ite_ (fun _ => J3) (fun h4 => Ev.ite_ (fun _ => J3) (fun h5 => Ev.ite_ (fun _ => J3) (fun h6 => Ev.ite_ (fun _ => J3) (fun h7 => Ev.ite_ (fun _ => J3) (fun h8 => Ev.ite_ (fun _ => J3) (fun h9 => ?_)))))))))
      have e1 : decide (c.f4 > 16) = true := by
        simp only [decide_eq_true_eq]
        by_cases h10 : c.f4 > 16
        · exact h10
        · exact absurd ⟨by omega, by omega, by omega, by omega, by omega, by omega, by omega, by omega, by omega, by omega⟩ h
      rw [e1]
      exact J3

theorem impl_check (l : List S37) : Ev (fun k => choose_Check.f k l) (chk l) := by
  unfold choose_Check.f chk
  by_cases h : (l.length : Int) > 12
  · rw [if_pos h]; exact Ev.pos h (Ev.const rfl)
  · rw [if_neg h]; exact Ev.neg h (impl_chk_from l (by omega) l.length 0 (by omega))

/-- What a check that says 0 tells. -/
theorem chkFrom_ok {l : List S37} : ∀ {d i}, i + d = l.length → chkFrom l d i = 0 → ∀ j, i ≤ j → j < l.length → OkC (l.getD j z37) := by
  intro d
  induction d with
  | zero => intro i hi _ j hj hl; omega
  | succ d ih =>
    intro i hi h j hj hl
    unfold chkFrom at h
    by_cases hok : OkC (l.getD i z37)
    · rw [if_pos hok] at h
      by_cases hd : dupFrom l i i 0 = true
      · rw [if_pos hd] at h; omega
      · rw [if_neg hd] at h
        rcases Nat.lt_or_ge i j with h1 | h1
        · exact ih (by omega) h j (by omega) hl
        · rw [show j = i by omega]; exact hok
    · rw [if_neg hok] at h; omega
theorem chk_ok {l : List S37} (h : chk l = 0) : l.length ≤ 12 ∧ ∀ c ∈ l, OkC c := by
  unfold chk at h
  by_cases h12 : (l.length : Int) > 12
  · rw [if_pos h12] at h; omega
  · rw [if_neg h12] at h
    refine ⟨by omega, fun c hc => ?_⟩
    obtain ⟨j, hj, rfl⟩ := List.getElem_of_mem hc
    have := chkFrom_ok (by omega) h j (by omega) hj
    simpa [List.getD, hj] using this
end Go.Proofs.Ytlfilhplklifjaa.PA

/- The chapter's examples, reckoned. -/
namespace Go.Proofs.Ytlfilhplklifjaa.PA
open Go.RowKit Go.Proofs.Ytlfilhplklifjaa.X Go.Proofs.YtlfilhplklifjaaW.PrintWords
theorem awake24 : Ev (fun k => timesynclaw24_awake.f k) true := by
  have h : timesynclaw24_awake.f 30 = some true := by kernel_rfl
  exact Ev.of (fun k => timesynclaw24_awake.mono k) h
theorem awake24' : Ev (fun k => (timesynclaw24_awake.f k).bind fun t => some t) true := Ev.bind' true awake24 (Ev.const rfl)
end Go.Proofs.Ytlfilhplklifjaa.PA

/- Positions by a test; how many intervals hold an instant; the reference's hull. -/
namespace Go.Proofs.Ytlfilhplklifjaa.PA
open Go.RowKit Go.Proofs.Ytlfilhplklifjaa.X Go.Proofs.YtlfilhplklifjaaW.PrintWords Go.Proofs.YtlfilhplklifjaaW.PrintLast

/-! ### Positions -/
def idxFrom (l : List S37) (p : S37 → Bool) : Nat → Nat → List Int
  | 0, _ => []
  | d + 1, i => if p (l.getD i z37) = true then (i : Int) :: idxFrom l p d (i + 1) else idxFrom l p d (i + 1)
def idx (l : List S37) (p : S37 → Bool) : List Int := idxFrom l p l.length 0
def pIn (lo hi : Int) (c : S37) : Bool := decide (lo ≤ c.f1) && decide (c.f1 ≤ hi)
def pOut (lo hi : Int) (c : S37) : Bool := !pIn lo hi c
theorem where48 (l : List S37) (hn : l.length ≤ 100) (lo hi : Int) : ∀ d i (acc : List Int), i + d = l.length → acc.length ≤ i → Ev (fun k => api_Cand_47_48.l0 k acc l l.length i lo hi) (acc ++ idxFrom l (pIn lo hi) d i) := by
  intro d
  induction d with
  | zero =>
    intro i acc hi ha
    refine Ev.step (fun k => by rw [api_Cand_47_48.l0]) ?_
    exact Ev.neg (by omega) (Ev.const (by simp [idxFrom]))
  | succ d ih =>
    intro i acc hi' ha
    refine Ev.step (fun k => by rw [api_Cand_47_48.l0]) ?_
    refine Ev.pos (by omega) (Ev.pos (by omega) (Ev.pos (by omega) ?_))
    simp only [rd37]
    have e : choose_Select_1.f (l.getD i z37).f0 (l.getD i z37).f1 (l.getD i z37).f2 (l.getD i z37).f3 (l.getD i z37).f4 lo hi = some (pIn lo hi (l.getD i z37)) := by
      unfold choose_Select_1.f pIn
      by_cases h : (l.getD i z37).f1 ≥ lo
      · rw [if_pos h, decide_eq_true h, Bool.true_and]
      · rw [if_neg h, decide_eq_false h, Bool.false_and]
    rw [e]
    refine Ev.some_bind ?_
    unfold idxFrom
    rw [wrap_nat (by omega)]
    by_cases h : pIn lo hi (l.getD i z37) = true
    · rw [if_pos h]
      refine Ev.pos h (Ev.pos (by omega) ?_)
      have := ih (i + 1) (acc ++ [(i : Int)]) (by omega) (by simp; omega)
      simpa using this
    · rw [if_neg h]
      exact Ev.neg h (ih (i + 1) acc (by omega) (by omega))
theorem impl_in (l : List S37) (hn : l.length ≤ 100) (lo hi : Int) : Ev (fun k => api_Cand_47_48.f k l lo hi) (idx l (pIn lo hi)) := where48 l hn lo hi l.length 0 [] (by omega) (by simp)

theorem where51 (l : List S37) (hn : l.length ≤ 100) (lo hi : Int) : ∀ d i (acc : List Int), i + d = l.length → acc.length ≤ i → Ev (fun k => api_Cand_47_51.l0 k acc l l.length i lo hi) (acc ++ idxFrom l (pOut lo hi) d i) := by
  intro d
  induction d with
  | zero =>
    intro i acc hi ha
    refine Ev.step (fun k => by rw [api_Cand_47_51.l0]) ?_
    exact Ev.neg (by omega) (Ev.const (by simp [idxFrom]))
  | succ d ih =>
    intro i acc hi' ha
    refine Ev.step (fun k => by rw [api_Cand_47_51.l0]) ?_
    refine Ev.pos (by omega) (Ev.pos (by omega) (Ev.pos (by omega) ?_))
    simp only [rd37]
    have e : choose_Falsetickers_1.f (l.getD i z37).f0 (l.getD i z37).f1 (l.getD i z37).f2 (l.getD i z37).f3 (l.getD i z37).f4 lo hi = some (pOut lo hi (l.getD i z37)) := by
      unfold choose_Falsetickers_1.f pOut pIn
      by_cases h : (l.getD i z37).f1 < lo
      · rw [if_pos h, decide_eq_false (by omega : ¬ lo ≤ (l.getD i z37).f1)]; rfl
      · rw [if_neg h, decide_eq_true (by omega : lo ≤ (l.getD i z37).f1)]
        by_cases h2 : (l.getD i z37).f1 ≤ hi
        · rw [decide_eq_true h2, decide_eq_false (by omega : ¬ (l.getD i z37).f1 > hi)]; rfl
        · rw [decide_eq_false h2, decide_eq_true (by omega : (l.getD i z37).f1 > hi)]; rfl
    rw [e]
    refine Ev.some_bind ?_
    unfold idxFrom
    rw [wrap_nat (by omega)]
    by_cases h : pOut lo hi (l.getD i z37) = true
    · rw [if_pos h]
      refine Ev.pos h (Ev.pos (by omega) ?_)
      have := ih (i + 1) (acc ++ [(i : Int)]) (by omega) (by simp; omega)
      simpa using this
    · rw [if_neg h]
      exact Ev.neg h (ih (i + 1) acc (by omega) (by omega))
theorem impl_out (l : List S37) (hn : l.length ≤ 100) (lo hi : Int) : Ev (fun k => api_Cand_47_51.f k l lo hi) (idx l (pOut lo hi)) := where51 l hn lo hi l.length 0 [] (by omega) (by simp)

/-! ### Counts -/
def holds (s : S29) (t : Int) : Bool := decide (s.f0 ≤ t) && decide (t ≤ s.f1)
def cnt (v : List S29) (t : Int) : Nat := v.countP (fun s => holds s t)
def span (c : S37) : S29 := ⟨c.f1 - c.f2, c.f1 + c.f2⟩
def spans (l : List S37) : List S29 := l.map span
/-- What a hull is: the first and the last instant with at least 'need' intervals; none if there is no such instant. -/
def HullSpec (v : List S29) (need : Int) (lo hi : Int) (ok : Bool) : Prop :=
  (ok = true ∧ 1 ≤ need ∧ need ≤ cnt v lo ∧ need ≤ cnt v hi ∧ ∀ t, need ≤ cnt v t → lo ≤ t ∧ t ≤ hi) ∨ (ok = false ∧ lo = 0 ∧ hi = 0 ∧ (need < 1 ∨ ∀ t, (cnt v t : Int) < need))
theorem HullSpec.uniq {v : List S29} {need a b a' b' : Int} {o o' : Bool} (h : HullSpec v need a b o) (h' : HullSpec v need a' b' o') : a = a' ∧ b = b' ∧ o = o' := by
  rcases h with ⟨rfl, h1, h2, h3, h4⟩ | ⟨rfl, rfl, rfl, h1⟩ <;> rcases h' with ⟨rfl, g1, g2, g3, g4⟩ | ⟨rfl, rfl, rfl, g1⟩
  · have x1 := h4 _ g2; have x2 := h4 _ g3; have x3 := g4 _ h2; have x4 := g4 _ h3
    exact ⟨by omega, by omega, rfl⟩
  · rcases g1 with g1 | g1
    · omega
    · have := g1 a; omega
  · rcases h1 with h1 | h1
    · omega
    · have := h1 a'; omega
  · exact ⟨rfl, rfl, rfl⟩

theorem holds_iff {s : S29} {t : Int} : holds s t = true ↔ s.f0 ≤ t ∧ t ≤ s.f1 := by simp [holds]
theorem spanAt {l : List S37} {i : Nat} (hi : i < l.length) : span (l.getD i z37) ∈ spans l := by
  have : l.getD i z37 ∈ l := by simp [List.getD, hi]
  exact List.mem_map.2 ⟨_, this, rfl⟩
theorem span_at {l : List S37} {s : S29} (h : s ∈ spans l) : ∃ i, i < l.length ∧ span (l.getD i z37) = s := by
  obtain ⟨c, hc, rfl⟩ := List.mem_map.1 h
  obtain ⟨i, hi, rfl⟩ := List.getElem_of_mem hc
  exact ⟨i, hi, by simp [List.getD, hi]⟩

end Go.Proofs.Ytlfilhplklifjaa.PA

/- The program's runs and its hull. -/
namespace Go.Proofs.Ytlfilhplklifjaa.PA
open Go.RowKit Go.Proofs.Ytlfilhplklifjaa.X Go.Proofs.YtlfilhplklifjaaW.PrintWords Go.Proofs.YtlfilhplklifjaaW.PrintLast

/-! ### Valid intervals -/
def OkI (s : S29) : Prop := s.f0 ≤ s.f1 ∧ -8000000000000000000 ≤ s.f0 ∧ s.f1 ≤ 8000000000000000000
instance (s : S29) : Decidable (OkI s) := by unfold OkI; infer_instance
def valid (v : List S29) : List S29 := if (v.length : Int) > 48 then [] else v.filter (fun s => decide (OkI s))
theorem drift_check (s : S29) : drift_Check.f s.f0 s.f1 = some (if OkI s then 0 else 3) := by
  unfold drift_Check.f
  have nk : ∀ {p : Prop}, p → (OkI s → ¬ p) → ¬ OkI s := fun h h2 h3 => h2 h3 h
  by_cases h1 : s.f0 > s.f1
  · rw [if_pos h1, if_neg (nk h1 fun h => by unfold OkI at h; omega)]
  · rw [if_neg h1]
    by_cases h2 : s.f0 < -8000000000000000000
    · rw [if_pos h2, if_neg (nk h2 fun h => by unfold OkI at h; omega)]
    · rw [if_neg h2]
      by_cases h3 : s.f1 > 8000000000000000000
      · rw [if_pos h3, if_neg (nk h3 fun h => by unfold OkI at h; omega)]
      · rw [if_neg h3, if_pos (show OkI s by unfold OkI; omega)]
theorem valid_from (v : List S29) (hn : v.length ≤ 48) : ∀ d i (acc : List S29), i + d = v.length → acc.length ≤ i → Ev (fun k => interval_valid.l0 k acc v v.length i) (acc ++ (v.drop i).filter (fun s => decide (OkI s))) := by
  intro d
  induction d with
  | zero =>
    intro i acc hi ha
    refine Ev.step (fun k => by rw [interval_valid.l0]) ?_
    refine Ev.neg (by omega) (Ev.const ?_)
    rw [List.drop_eq_nil_of_le (by omega)]
    simp
  | succ d ih =>
    intro i acc hi ha
    have hlt : i < v.length := by omega
    have hg : v.getD i z29 = v[i] := by simp [List.getD, hlt]
    refine Ev.step (fun k => by rw [interval_valid.l0]) ?_
    refine Ev.pos (by omega) (Ev.pos (by omega) (Ev.pos (by omega) ?_))
    simp only [rd29]
    rw [drift_check, hg]
    refine Ev.some_bind ?_
    have ew : wrap64 ((i : Int) + 1) = ((i + 1 : Nat) : Int) := wrap_nat (by omega)
    rw [ew, List.drop_eq_getElem_cons hlt]
    by_cases h : OkI v[i]
    · rw [if_pos h, List.filter_cons_of_pos (by simpa using h)]
      refine Ev.pos rfl (Ev.pos (by omega) ?_)
      have := ih (i + 1) (acc ++ [v[i]]) (by omega) (by simp; omega)
      simpa using this
    · rw [if_neg h, List.filter_cons_of_neg (by simpa using h)]
      exact Ev.neg (by omega) (ih (i + 1) acc (by omega) (by omega))
theorem impl_valid (v : List S29) : Ev (fun k => interval_valid.f k v) (valid v) := by
  unfold interval_valid.f valid
  by_cases h : (v.length : Int) > 48
  · rw [if_pos h]; exact Ev.pos h (Ev.const rfl)
  · rw [if_neg h]
    refine Ev.neg h ?_
    have := valid_from v (by omega) v.length 0 [] (by omega) (by simp)
    simpa using this
theorem valid_len (v : List S29) : (valid v).length ≤ 48 := by
  unfold valid
  split
  · simp
  · exact Nat.le_trans (List.length_filter_le _ _) (by omega)
theorem valid_ok {v : List S29} {s : S29} (h : s ∈ valid v) : OkI s := by
  unfold valid at h
  split at h
  · simp at h
  · simpa using (List.mem_filter.1 h).2

/-! ### Changes -/
def changes (v : List S29) : List S110 := v.flatMap (fun s => [⟨s.f0, 1⟩, ⟨s.f1 + 1, -1⟩])
theorem changes_len (v : List S29) : (changes v).length = 2 * v.length := by
  unfold changes
  induction v with
  | nil => rfl
  | cons a r ih => simp only [List.flatMap_cons, List.length_append, List.length_cons, List.length_nil, ih]; omega
/-- What the changes up to an instant make together. -/
def sumLe (cs : List S110) (t : Int) : Int := (cs.map (fun x => if x.f0 ≤ t then x.f1 else 0)).sum
def total (cs : List S110) : Int := (cs.map (fun x => x.f1)).sum
theorem sumLe_changes (v : List S29) (h : ∀ s ∈ v, s.f0 ≤ s.f1) (t : Int) : sumLe (changes v) t = cnt v t := by
  induction v with
  | nil => rfl
  | cons a r ih =>
    have ih := ih (fun s hs => h s (List.mem_cons_of_mem _ hs))
    have ha := h a (by simp)
    have e1 : sumLe (changes (a :: r)) t = (if a.f0 ≤ t then 1 else 0) + ((if a.f1 + 1 ≤ t then -1 else 0) + sumLe (changes r) t) := by
      simp [sumLe, changes]
    have e2 : cnt (a :: r) t = cnt r t + (if holds a t = true then 1 else 0) := by simp [cnt, List.countP_cons]
    rw [e1, e2, ih]
    by_cases h1 : a.f0 ≤ t <;> by_cases h2 : a.f1 + 1 ≤ t
    · have : ¬ holds a t = true := fun hh => by have := holds_iff.1 hh; omega
      simp [h1, h2, this]; omega
    · have : holds a t = true := holds_iff.2 (by omega)
      simp [h1, h2, this]; omega
    · omega
    · have : ¬ holds a t = true := fun hh => by have := holds_iff.1 hh; omega
      simp [h1, h2, this]
theorem total_changes (v : List S29) : total (changes v) = 0 := by
  induction v with
  | nil => rfl
  | cons a r ih =>
    have : total (changes (a :: r)) = 1 + (-1 + total (changes r)) := by simp [total, changes]
    omega
theorem sum_perm {l l' : List Int} (h : l.Perm l') : l.sum = l'.sum := by
  induction h with
  | nil => rfl
  | cons x _ ih => simp [ih]
  | swap x y l => simp only [List.sum_cons]; omega
  | trans _ _ ih1 ih2 => exact ih1.trans ih2
theorem sumLe_perm {cs cs' : List S110} (h : cs.Perm cs') (t : Int) : sumLe cs t = sumLe cs' t := sum_perm (h.map _)
theorem total_perm {cs cs' : List S110} (h : cs.Perm cs') : total cs = total cs' := sum_perm (h.map _)

theorem runs_from (v : List S29) (hn : v.length ≤ 48) (hok : ∀ s ∈ v, OkI s) (r : List S88)
    (hr : Ev (fun k => (interval_change_82_83.f (changes v)).bind fun t => interval_runs.l1 k t [] 0 t ((changes v).length : Int) 0) r) :
    ∀ d i (acc : List S110), i + d = v.length → acc = changes (v.take i) → Ev (fun k => interval_runs.l0 k acc v v.length i) r := by
  intro d
  induction d with
  | zero =>
    intro i acc hi ha
    refine Ev.step (fun k => by rw [interval_runs.l0]) ?_
    refine Ev.neg (by omega) ?_
    rw [List.take_of_length_le (by omega)] at ha
    subst ha
    exact hr
  | succ d ih =>
    intro i acc hi ha
    have hlt : i < v.length := by omega
    have hg : v.getD i z29 = v[i] := by simp [List.getD, hlt]
    obtain ⟨_, h2, h3⟩ := hok v[i] (List.getElem_mem hlt)
    refine Ev.step (fun k => by rw [interval_runs.l0]) ?_
    refine Ev.pos (by omega) (Ev.pos (by omega) (Ev.pos (by omega) (Ev.some_bind ?_)))
    simp only [rd29]
    have ew : wrap64 ((i : Int) + 1) = ((i + 1 : Nat) : Int) := wrap_nat (by omega)
    have el : acc.length = 2 * i := by rw [ha, changes_len, List.length_take]; omega
    rw [hg, ew, wrap_id (x := v[i].f1 + 1) (by have := hok v[i] (List.getElem_mem hlt); unfold OkI at this; omega) (by omega)]
    refine Ev.pos (by simp [el]; omega) ?_
    refine ih (i + 1) _ (by omega) ?_
    rw [ha, List.take_succ_eq_append_getElem hlt]
    unfold changes
    rw [List.flatMap_append]
    rfl

/-! ### Runs -/
def runsOf : Int → List S110 → List S88
  | _, [] => []
  | _, [_] => []
  | c, x :: y :: rest => if y.f0 > x.f0 then ⟨x.f0, y.f0 - 1, c + x.f1⟩ :: runsOf (c + x.f1) (y :: rest) else runsOf (c + x.f1) (y :: rest)
theorem runsOf_len : ∀ (cs : List S110) (c : Int), (runsOf c cs).length ≤ cs.length
  | [], _ => by simp [runsOf]
  | [_], _ => by simp [runsOf]
  | x :: y :: rest, c => by
    have := runsOf_len (y :: rest) (c + x.f1)
    unfold runsOf
    split
    · simp only [List.length_cons] at this ⊢; omega
    · simp only [List.length_cons] at this ⊢; omega
/-- Small changes at small instants. -/
def Small (cs : List S110) : Prop := ∀ x ∈ cs, -1 ≤ x.f1 ∧ x.f1 ≤ 1 ∧ -8000000000000000000 ≤ x.f0 ∧ x.f0 ≤ 8000000000000000001
theorem runs_l1 (cs : List S110) (hn : cs.length ≤ 96) (hs : Small cs) : ∀ d i (acc : List S88) (c : Int), i + d = cs.length → acc.length ≤ i → -(i : Int) ≤ c → c ≤ i →
    Ev (fun k => interval_runs.l1 k cs acc c cs cs.length i) (acc ++ runsOf c (cs.drop i)) := by
  intro d
  induction d with
  | zero =>
    intro i acc c hi ha _ _
    refine Ev.step (fun k => by rw [interval_runs.l1]) ?_
    refine Ev.neg (by omega) (Ev.const ?_)
    rw [List.drop_eq_nil_of_le (by omega)]
    simp [runsOf]
  | succ d ih =>
    intro i acc c hi ha hc1 hc2
    have hlt : i < cs.length := by omega
    have hg : cs.getD i z110 = cs[i] := by simp [List.getD, hlt]
    obtain ⟨s1, s2, s3, s4⟩ := hs cs[i] (List.getElem_mem hlt)
    refine Ev.step (fun k => by rw [interval_runs.l1]) ?_
    have ew : wrap64 ((i : Int) + 1) = ((i + 1 : Nat) : Int) := wrap_nat (by omega)
    have ec : wrap64 (c + cs[i].f1) = c + cs[i].f1 := wrap_id (by omega) (by omega)
    refine Ev.pos (by omega) (Ev.pos (by omega) (Ev.pos (by omega) ?_))
    rw [ew]
    simp only [rd110]
    rw [hg, ec]
    rcases Nat.lt_or_ge (i + 1) cs.length with h1 | h1
    · have hg1 : cs.getD (i + 1) z110 = cs[i + 1] := by simp [List.getD, h1]
      obtain ⟨t1, t2, t3, t4⟩ := hs cs[i + 1] (List.getElem_mem h1)
      rw [hg1]
      refine Ev.pos (by omega) (Ev.pos (by omega) ?_)
      rw [List.drop_eq_getElem_cons hlt, List.drop_eq_getElem_cons h1]
      unfold runsOf
      by_cases hgt : cs[i + 1].f0 > cs[i].f0
      · rw [if_pos hgt]
        refine Ev.pos hgt (Ev.pos (by omega) ?_)
        rw [wrap_id (x := cs[i + 1].f0 - 1) (by omega) (by omega)]
        have := ih (i + 1) (acc ++ [⟨cs[i].f0, cs[i + 1].f0 - 1, c + cs[i].f1⟩]) (c + cs[i].f1) (by omega) (by simp; omega) (by omega) (by omega)
        rw [List.drop_eq_getElem_cons h1] at this
        simpa using this
      · rw [if_neg hgt]
        refine Ev.neg hgt ?_
        have := ih (i + 1) acc (c + cs[i].f1) (by omega) (by omega) (by omega) (by omega)
        rw [List.drop_eq_getElem_cons h1] at this
        exact this
    · refine Ev.neg (by omega) ?_
      have := ih (i + 1) acc (c + cs[i].f1) (by omega) (by omega) (by omega) (by omega)
      rw [List.drop_eq_getElem_cons hlt, List.drop_eq_nil_of_le (by omega)]
      rw [List.drop_eq_nil_of_le (by omega)] at this
      simpa [runsOf] using this

def sorted (v : List S29) : List S110 := sortChange (changes v)
theorem small_changes {v : List S29} (hok : ∀ s ∈ v, OkI s) : Small (changes v) := by
  intro x hx
  obtain ⟨s, hs, hx⟩ := List.mem_flatMap.1 hx
  obtain ⟨h1, h2, h3⟩ := hok s hs
  simp only [List.mem_cons, List.not_mem_nil, or_false] at hx
  rcases hx with rfl | rfl
  · exact ⟨by show (-1 : Int) ≤ 1; omega, by show (1 : Int) ≤ 1; omega, h2, by show s.f0 ≤ _; omega⟩
  · exact ⟨by show (-1 : Int) ≤ -1; omega, by show (-1 : Int) ≤ 1; omega, by show _ ≤ s.f1 + 1; omega, by show s.f1 + 1 ≤ _; omega⟩
theorem sorted_perm (v : List S29) : (sorted v).Perm (changes v) := (sortChange_spec _).2.1
theorem sorted_sorted (v : List S29) : (sorted v).Pairwise (fun x y => x.f0 ≤ y.f0) := by
  have h := (sortChange_spec (changes v)).2.2
  have hsz := (sortChange_spec (changes v)).1
  rw [List.pairwise_iff_getElem]
  intro i j hi hj hij
  have hj' : j < (pdqChange (changes v)).size := by simpa [sorted, sortChange] using hj
  have hi' : i < (pdqChange (changes v)).size := by omega
  have := h i j (Nat.zero_le _) hij (by omega)
  rw [lt110] at this
  have e1 : (pdqChange (changes v))[i]! = (sorted v)[i] := by
    rw [getElem!_pos _ i hi']; simp [sorted, sortChange]
  have e2 : (pdqChange (changes v))[j]! = (sorted v)[j] := by
    rw [getElem!_pos _ j hj']; simp [sorted, sortChange]
  rw [e1, e2] at this
  simp at this
  exact this
def runs (v : List S29) : List S88 := runsOf 0 (sorted (valid v))
theorem impl_runs (v : List S29) : Ev (fun k => interval_runs.f k v) (runs v) := by
  unfold interval_runs.f
  refine Ev.bind' _ (impl_valid v) ?_
  have hl := valid_len v
  have hs := sorted_perm (valid v)
  have hsm : Small (sorted (valid v)) := fun x hx => small_changes (fun s hs => valid_ok hs) x (hs.mem_iff.1 hx)
  have hlen : (sorted (valid v)).length = (changes (valid v)).length := hs.length_eq
  have hl2 : (sorted (valid v)).length ≤ 96 := by rw [hlen, changes_len]; omega
  refine runs_from (valid v) hl (fun s hs => valid_ok hs) _ ?_ (valid v).length 0 [] (by omega) (by simp [changes])
  have ef : interval_change_82_83.f (changes (valid v)) = some (sorted (valid v)) := by
    unfold interval_change_82_83.f
    rw [if_pos (by rw [← hlen]; omega)]
    rfl
  rw [ef]
  refine Ev.some_bind ?_
  rw [← hlen]
  have := runs_l1 (sorted (valid v)) hl2 hsm (sorted (valid v)).length 0 [] 0 (by omega) (by simp) (by simp) (by simp)
  simpa [runs] using this

/-! ### What the runs tell -/
theorem sumLe_cons (x : S110) (cs : List S110) (t : Int) : sumLe (x :: cs) t = (if x.f0 ≤ t then x.f1 else 0) + sumLe cs t := by simp [sumLe]
theorem sumLe_none {cs : List S110} {t : Int} (h : ∀ x ∈ cs, t < x.f0) : sumLe cs t = 0 := by
  induction cs with
  | nil => rfl
  | cons a r ih =>
    rw [sumLe_cons, ih (fun x hx => h x (List.mem_cons_of_mem _ hx)), if_neg (by have := h a (by simp); omega)]
    rfl
theorem sumLe_all {cs : List S110} {t : Int} (h : ∀ x ∈ cs, x.f0 ≤ t) : sumLe cs t = total cs := by
  induction cs with
  | nil => rfl
  | cons a r ih =>
    rw [sumLe_cons, ih (fun x hx => h x (List.mem_cons_of_mem _ hx)), if_pos (h a (by simp))]
    simp [total]
/-- Within a run the count stands; the runs follow one another; what is between the first change and the last one lies in one. -/
theorem runsOf_spec : ∀ (cs : List S110) (c : Int), cs.Pairwise (fun x y => x.f0 ≤ y.f0) →
    (∀ r ∈ runsOf c cs, r.f0 ≤ r.f1 ∧ (∀ t, r.f0 ≤ t → t ≤ r.f1 → c + sumLe cs t = r.f2) ∧ (∀ x ∈ cs.head?, x.f0 ≤ r.f0)) ∧
    (runsOf c cs).Pairwise (fun r q => r.f1 < q.f0) ∧
    (∀ t, (∃ x ∈ cs, x.f0 ≤ t) → (∃ x ∈ cs, t < x.f0) → ∃ r ∈ runsOf c cs, r.f0 ≤ t ∧ t ≤ r.f1)
  | [], c, _ => ⟨by simp [runsOf], by simp [runsOf], by simp⟩
  | [x], c, _ => ⟨by simp [runsOf], by simp [runsOf], fun t ⟨a, ha, h1⟩ ⟨b, hb, h2⟩ => by
      simp only [List.mem_cons, List.not_mem_nil, or_false] at ha hb
      subst ha; subst hb; omega⟩
  | x :: y :: rest, c, hp => by
    obtain ⟨hx, hp'⟩ := List.pairwise_cons.1 hp
    obtain ⟨i1, i2, i3⟩ := runsOf_spec (y :: rest) (c + x.f1) hp'
    have hxy := hx y (by simp)
    have later : ∀ t, x.f0 ≤ t → c + sumLe (x :: y :: rest) t = c + x.f1 + sumLe (y :: rest) t := fun t ht => by
      rw [sumLe_cons, if_pos ht]; omega
    have hy : ∀ z ∈ y :: rest, y.f0 ≤ z.f0 := fun z hz => by
      rcases List.mem_cons.1 hz with rfl | hz
      · exact Int.le_refl _
      · exact (List.pairwise_cons.1 hp').1 z hz
    have tail : ∀ r ∈ runsOf (c + x.f1) (y :: rest), r.f0 ≤ r.f1 ∧ (∀ t, r.f0 ≤ t → t ≤ r.f1 → c + sumLe (x :: y :: rest) t = r.f2) ∧ y.f0 ≤ r.f0 := fun r hr => by
      obtain ⟨a, b, d⟩ := i1 r hr
      have d' := d y rfl
      exact ⟨a, fun t h1 h2 => by rw [later t (by omega)]; exact b t h1 h2, d'⟩
    have cover : ∀ t, y.f0 ≤ t → (∃ z ∈ x :: y :: rest, t < z.f0) → ∃ r ∈ runsOf (c + x.f1) (y :: rest), r.f0 ≤ t ∧ t ≤ r.f1 := fun t ht ⟨z, hz, h2⟩ => by
      refine i3 t ⟨y, by simp, ht⟩ ⟨z, ?_, h2⟩
      rcases List.mem_cons.1 hz with rfl | hz
      · omega
      · exact hz
    unfold runsOf
    by_cases hgt : y.f0 > x.f0
    · rw [if_pos hgt]
      refine ⟨fun r hr => ?_, ?_, fun t ⟨a, ha, h1⟩ h2 => ?_⟩
      · rcases List.mem_cons.1 hr with rfl | hr
        · refine ⟨by show x.f0 ≤ y.f0 - 1; omega, fun t h1 h2 => ?_, fun z hz => by simp at hz; subst hz; exact Int.le_refl _⟩
          have h2' : t ≤ y.f0 - 1 := h2
          rw [later t h1, sumLe_none (fun z hz => by have := hy z hz; omega)]
          show c + x.f1 + 0 = c + x.f1
          omega
        · obtain ⟨a, b, d⟩ := tail r hr
          exact ⟨a, b, fun z hz => by simp at hz; subst hz; omega⟩
      · refine List.pairwise_cons.2 ⟨fun r hr => ?_, i2⟩
        have := (tail r hr).2.2
        show y.f0 - 1 < r.f0
        omega
      · by_cases hy2 : y.f0 ≤ t
        · obtain ⟨r, hr, h⟩ := cover t hy2 h2
          exact ⟨r, List.mem_cons_of_mem _ hr, h⟩
        · refine ⟨_, List.mem_cons_self, ?_, by show t ≤ y.f0 - 1; omega⟩
          show x.f0 ≤ t
          rcases List.mem_cons.1 ha with rfl | ha
          · exact h1
          · have := hx a ha; omega
    · rw [if_neg hgt]
      refine ⟨fun r hr => ?_, i2, fun t ⟨a, ha, h1⟩ h2 => ?_⟩
      · obtain ⟨a, b, d⟩ := tail r hr
        exact ⟨a, b, fun z hz => by simp at hz; subst hz; omega⟩
      · refine cover t ?_ h2
        rcases List.mem_cons.1 ha with rfl | ha
        · omega
        · exact Int.le_trans (hy a ha) h1

/-- The runs of a list of intervals: pieces in which the count stands, one behind the other; every instant that an interval holds lies in one. -/
theorem runs_spec (v : List S29) :
    (∀ r ∈ runs v, r.f0 ≤ r.f1 ∧ ∀ t, r.f0 ≤ t → t ≤ r.f1 → (cnt (valid v) t : Int) = r.f2) ∧ (runs v).Pairwise (fun r q => r.f1 < q.f0) ∧ ∀ t, 1 ≤ cnt (valid v) t → ∃ r ∈ runs v, r.f0 ≤ t ∧ t ≤ r.f1 := by
  have hs : ∀ t, sumLe (sorted (valid v)) t = cnt (valid v) t := fun t => by
    rw [sumLe_perm (sorted_perm _), sumLe_changes _ (fun s hs => (valid_ok hs).1)]
  obtain ⟨h1, h2, h3⟩ := runsOf_spec (sorted (valid v)) 0 (sorted_sorted _)
  refine ⟨fun r hr => ⟨(h1 r hr).1, fun t ha hb => ?_⟩, h2, fun t ht => h3 t ?_ ?_⟩
  · rw [← hs t]
    have := (h1 r hr).2.1 t ha hb
    omega
  · refine Classical.byContradiction fun hc => ?_
    have : sumLe (sorted (valid v)) t = 0 := sumLe_none fun x hx => Int.not_le.1 fun hle => hc ⟨x, hx, hle⟩
    rw [hs] at this
    omega
  · refine Classical.byContradiction fun hc => ?_
    have : sumLe (sorted (valid v)) t = total (sorted (valid v)) := sumLe_all fun x hx => Int.not_lt.1 fun hlt => hc ⟨x, hx, hlt⟩
    rw [hs, total_perm (sorted_perm _), total_changes] at this
    omega
theorem runs_len (v : List S29) : (runs v).length ≤ 96 := by
  have h := runsOf_len (sorted (valid v)) 0
  rw [(sorted_perm _).length_eq, changes_len] at h
  have := valid_len v
  unfold runs
  omega

/-! ### The hull -/
theorem index_from (R : List S88) (hn : R.length ≤ 96) (need : Int) : ∀ d i, i + d = R.length → (∀ j, j < i → (R.getD j z88).f2 < need) →
    (∃ j : Nat, j < R.length ∧ Ev (fun k => interval_run_64_63.l0 k R R.length i need) (j : Int) ∧ need ≤ (R.getD j z88).f2 ∧ ∀ q, q < j → (R.getD q z88).f2 < need) ∨
    (Ev (fun k => interval_run_64_63.l0 k R R.length i need) (-1) ∧ ∀ q, q < R.length → (R.getD q z88).f2 < need) := by
  intro d
  induction d with
  | zero =>
    intro i hi hm
    refine .inr ⟨?_, fun q hq => hm q (by omega)⟩
    refine Ev.step (fun k => by rw [interval_run_64_63.l0]) ?_
    exact Ev.neg (by omega) (Ev.const rfl)
  | succ d ih =>
    intro i hi hm
    have st : ∀ r, Ev (fun k => if decide ((R.getD i z88).f2 ≥ need) = true then some (i : Int) else interval_run_64_63.l0 k R R.length ((i + 1 : Nat) : Int) need) r → Ev (fun k => interval_run_64_63.l0 k R R.length i need) r := by
      intro r hr
      refine Ev.step (fun k => by rw [interval_run_64_63.l0]) ?_
      refine Ev.pos (by omega) (Ev.pos (by omega) (Ev.pos (by omega) ?_))
      simp only [rd88, interval_Hull_1.f]
      refine Ev.some_bind ?_
      rw [wrap_nat (by omega)]
      exact hr
    by_cases h : (R.getD i z88).f2 ≥ need
    · exact .inl ⟨i, by omega, st _ (Ev.pos (by simpa using h) (Ev.const rfl)), h, hm⟩
    · have hm' : ∀ j, j < i + 1 → (R.getD j z88).f2 < need := fun j hj => by
        rcases Nat.lt_or_ge j i with hji | hji
        · exact hm j hji
        · have e : j = i := by omega
          subst e
          exact Int.not_le.1 h
      rcases ih (i + 1) (by omega) hm' with ⟨j, h1, h2, h3, h4⟩ | ⟨h1, h2⟩
      · exact .inl ⟨j, h1, st _ (Ev.neg (by simpa using h) h2), h3, h4⟩
      · exact .inr ⟨st _ (Ev.neg (by simpa using h) h1), h2⟩
theorem impl_index (R : List S88) (hn : R.length ≤ 96) (need : Int) :
    (∃ j : Nat, j < R.length ∧ Ev (fun k => interval_run_64_63.f k R need) (j : Int) ∧ need ≤ (R.getD j z88).f2 ∧ ∀ q, q < j → (R.getD q z88).f2 < need) ∨
    (Ev (fun k => interval_run_64_63.f k R need) (-1) ∧ ∀ q, q < R.length → (R.getD q z88).f2 < need) :=
  index_from R hn need R.length 0 (by omega) (fun j hj => by omega)
theorem getD_mem {R : List S88} {j : Nat} (h : j < R.length) : R.getD j z88 ∈ R := by simp [List.getD, h]
theorem mem_getD {R : List S88} {r : S88} (h : r ∈ R) : ∃ j, j < R.length ∧ R.getD j z88 = r := by
  obtain ⟨j, hj, rfl⟩ := List.getElem_of_mem h
  exact ⟨j, hj, by simp [List.getD, hj]⟩

theorem impl_hull (v : List S29) (need : Int) : ∃ lo hi ok, Ev (fun k => interval_Hull.f k v need) (lo, hi, ok) ∧ HullSpec (valid v) need lo hi ok := by
  obtain ⟨s1, s2, s3⟩ := runs_spec v
  have hl := runs_len v
  have ix := impl_index (runs v) hl need
  have st : ∀ (i : Int) r, Ev (fun k => interval_run_64_63.f k (runs v) need) i → Ev (fun k => if need < 1 then (interval_Hull.j0 k (runs v) i true need) else (interval_Hull.j0 k (runs v) i (decide (i < 0)) need)) r → Ev (fun k => interval_Hull.f k v need) r := fun i r h1 h2 => by
    unfold interval_Hull.f
    exact Ev.bind' _ (impl_runs v) (Ev.bind' _ h1 h2)
  by_cases hneed : need < 1
  · have e0 : ∀ i : Int, Ev (fun k => interval_Hull.j0 k (runs v) i true need) (0, 0, false) := fun i => by
      refine Ev.step (fun k => by rw [interval_Hull.j0]) ?_
      exact Ev.pos rfl (Ev.const rfl)
    refine ⟨0, 0, false, ?_, .inr ⟨rfl, rfl, rfl, .inl hneed⟩⟩
    rcases ix with ⟨j, _, h2, _⟩ | ⟨h1, _⟩
    · exact st _ _ h2 (Ev.pos hneed (e0 _))
    · exact st _ _ h1 (Ev.pos hneed (e0 _))
  · rcases ix with ⟨j, hj, h2, h3, h4⟩ | ⟨h1, h2⟩
    · have ir := impl_index (runs v).reverse (by simpa using hl) need
      have er : interval_run_65.f (runs v) = some (runs v).reverse := by
        unfold interval_run_65.f
        rw [if_pos (by omega)]
      have rev : ∀ q, q < (runs v).length → (runs v).reverse.getD q z88 = (runs v).getD ((runs v).length - 1 - q) z88 := fun q hq => by
        simp [List.getD, List.getElem?_reverse hq]
      rcases ir with ⟨q, hq, g2, g3, g4⟩ | ⟨g1, g2⟩
      · have hq' : q < (runs v).length := by simpa using hq
        have hp : (runs v).length - 1 - q < (runs v).length := by omega
        rw [rev q hq'] at g3
        have ord : ∀ a b, a < b → b < (runs v).length → ((runs v).getD a z88).f1 < ((runs v).getD b z88).f0 := fun a b hab hb => by
          have ha : a < (runs v).length := by omega
          have := (List.pairwise_iff_getElem.1 s2) a b ha hb hab
          simpa [List.getD, ha, hb] using this
        refine ⟨((runs v).getD j z88).f0, ((runs v).getD ((runs v).length - 1 - q) z88).f1, true, ?_, .inl ⟨rfl, by omega, ?_, ?_, fun t ht => ?_⟩⟩
        · refine st _ _ h2 (Ev.neg hneed ?_)
          rw [decide_eq_false (by omega : ¬ (j : Int) < 0)]
          refine Ev.step (fun k => by rw [interval_Hull.j0]) ?_
          refine Ev.neg (by simp) (Ev.pos (by omega) (Ev.pos (by omega) ?_))
          rw [er]
          refine Ev.some_bind (Ev.bind' _ g2 (Ev.pos (by omega) (Ev.pos (by omega) (Ev.const ?_))))
          rw [rd88, rd88, rev q hq']
        · obtain ⟨a, b⟩ := s1 _ (getD_mem hj)
          rw [b _ (Int.le_refl _) a]; exact h3
        · obtain ⟨a, b⟩ := s1 _ (getD_mem hp)
          rw [b _ a (Int.le_refl _)]; exact g3
        · obtain ⟨r, hr, h5, h6⟩ := s3 t (by omega)
          have h7 := (s1 r hr).2 t h5 h6
          obtain ⟨m, hm, rfl⟩ := mem_getD hr
          constructor
          · rcases Nat.lt_or_ge m j with hmj | hmj
            · have := h4 m hmj; omega
            · rcases Nat.eq_or_lt_of_le hmj with e | hmj
              · rw [e]; exact h5
              · have := ord j m hmj hm
                have := (s1 _ (getD_mem hj)).1
                omega
          · rcases Nat.lt_or_ge ((runs v).length - 1 - q) m with hmq | hmq
            · have hx : (runs v).length - 1 - m < q := by omega
              have := g4 _ hx
              rw [rev _ (by omega), show (runs v).length - 1 - ((runs v).length - 1 - m) = m by omega] at this
              omega
            · rcases Nat.eq_or_lt_of_le hmq with e | hmq
              · rw [← e]; exact h6
              · have := ord m _ hmq hp
                have := (s1 _ (getD_mem hp)).1
                omega
      · exfalso
        have := g2 ((runs v).length - 1 - j) (by rw [List.length_reverse]; omega)
        rw [rev _ (by omega), show (runs v).length - 1 - ((runs v).length - 1 - j) = j by omega] at this
        omega
    · refine ⟨0, 0, false, ?_, .inr ⟨rfl, rfl, rfl, .inr fun t => ?_⟩⟩
      · refine st _ _ h1 (Ev.neg hneed ?_)
        rw [show decide ((-1 : Int) < 0) = true from rfl]
        refine Ev.step (fun k => by rw [interval_Hull.j0]) ?_
        exact Ev.pos rfl (Ev.const rfl)
      · rcases Nat.eq_zero_or_pos (cnt (valid v) t) with h0 | h0
        · omega
        · obtain ⟨r, hr, h5, h6⟩ := s3 t h0
          obtain ⟨q, hq, rfl⟩ := mem_getD hr
          have := h2 q hq
          rw [(s1 _ hr).2 t h5 h6]
          exact this
end Go.Proofs.Ytlfilhplklifjaa.PA

/- The selection, the falsetickers, the majority: both texts tell the same. -/
namespace Go.Proofs.Ytlfilhplklifjaa.PA
open Go.RowKit Go.Proofs.Ytlfilhplklifjaa.X Go.Proofs.YtlfilhplklifjaaW.PrintWords Go.Proofs.YtlfilhplklifjaaW.PrintLast

theorem idxFrom_parts (l : List S37) (p : S37 → Bool) : ∀ d i, (idxFrom l p d i).length + (idxFrom l (fun c => !p c) d i).length = d
  | 0, _ => rfl
  | d + 1, i => by
    have := idxFrom_parts l p d (i + 1)
    unfold idxFrom
    cases p (l.getD i z37) <;> simp <;> omega
theorem idx_parts (l : List S37) (lo hi : Int) : (idx l (pIn lo hi)).length + (idx l (pOut lo hi)).length = l.length := idxFrom_parts l (pIn lo hi) l.length 0
theorem idxFrom_le (l : List S37) (p : S37 → Bool) : ∀ d i, (idxFrom l p d i).length ≤ d
  | 0, _ => by simp [idxFrom]
  | d + 1, i => by
    have := idxFrom_le l p d (i + 1)
    unfold idxFrom
    split
    · simp; omega
    · omega
theorem idx_le (l : List S37) (p : S37 → Bool) : (idx l p).length ≤ l.length := idxFrom_le l p l.length 0

theorem spans_ok {l : List S37} (h : ∀ c ∈ l, OkC c) : ∀ s ∈ spans l, OkI s := by
  intro s hs
  obtain ⟨c, hc, rfl⟩ := List.mem_map.1 hs
  obtain ⟨_, _, h3, h4, h5, h6, _⟩ := h c hc
  unfold OkI span
  refine ⟨?_, ?_, ?_⟩ <;> simp only <;> omega
theorem valid_spans {l : List S37} (h : ∀ c ∈ l, OkC c) (hn : l.length ≤ 12) : valid (spans l) = spans l := by
  unfold valid
  rw [if_neg (by simp [spans]; omega), List.filter_eq_self.2 fun s hs => by simpa using spans_ok h s hs]

theorem hull_ex (v : List S29) (need : Int) : ∃ r : Int × Int × Bool, Ev (fun k => interval_Hull.f k v need) r ∧ HullSpec (valid v) need r.1 r.2.1 r.2.2 := by
  obtain ⟨a, b, o, h1, h2⟩ := impl_hull v need
  exact ⟨(a, b, o), h1, h2⟩
noncomputable def hullR (v : List S29) (need : Int) : Int × Int × Bool := Classical.choose (hull_ex v need)
theorem hullR_ev (v : List S29) (need : Int) : Ev (fun k => interval_Hull.f k v need) (hullR v need) := (Classical.choose_spec (hull_ex v need)).1
theorem hullR_spec (v : List S29) (need : Int) : HullSpec (valid v) need (hullR v need).1 (hullR v need).2.1 (hullR v need).2.2 := (Classical.choose_spec (hull_ex v need)).2
/-- The selection from 'a' wrong ones on. -/
noncomputable def selFrom (l : List S37) : Nat → Nat → List Int × Int × Int × Int
  | 0, _ => ([], 0, 0, 11)
  | d + 1, a => if 2 * a < l.length then (if (hullR (spans l) ((l.length : Int) - a)).2.2 = true then
      (if (l.length : Int) - ((idx l (pIn (hullR (spans l) ((l.length : Int) - a)).1 (hullR (spans l) ((l.length : Int) - a)).2.1)).length : Int) ≤ a then (idx l (pIn (hullR (spans l) ((l.length : Int) - a)).1 (hullR (spans l) ((l.length : Int) - a)).2.1), (hullR (spans l) ((l.length : Int) - a)).1, (hullR (spans l) ((l.length : Int) - a)).2.1, 0)
       else selFrom l d (a + 1)) else selFrom l d (a + 1)) else ([], 0, 0, 11)
noncomputable def sel (l : List S37) : List Int × Int × Int × Int := if chk l = 0 then selFrom l (l.length + 1) 0 else ([], 0, 0, chk l)

theorem impl_spans (l : List S37) (hn : l.length ≤ 12) (hok : ∀ c ∈ l, OkC c) (r : List Int × Int × Int × Int) (hr : Ev (fun k => choose_Select.l1 k l (spans l) 0) r) :
    ∀ d i (acc : List S29), i + d = l.length → acc = spans (l.take i) → Ev (fun k => choose_Select.l0 k l acc l l.length i) r := by
  intro d
  induction d with
  | zero =>
    intro i acc hi ha
    refine Ev.step (fun k => by rw [choose_Select.l0]) ?_
    refine Ev.neg (by omega) ?_
    rw [List.take_of_length_le (by omega)] at ha
    subst ha
    exact hr
  | succ d ih =>
    intro i acc hi ha
    have hlt : i < l.length := by omega
    have hg : l.getD i z37 = l[i] := by simp [List.getD, hlt]
    have ho := hok l[i] (List.getElem_mem hlt)
    refine Ev.step (fun k => by rw [choose_Select.l0]) ?_
    refine Ev.pos (by omega) (Ev.pos (by omega) (Ev.pos (by omega) ?_))
    simp only [rd37, choose_span.f]
    refine Ev.some_bind ?_
    have el : acc.length = i := by rw [ha]; simp [spans]; omega
    refine Ev.pos (by omega) ?_
    obtain ⟨_, _, h3, h4, h5, h6, _⟩ := ho
    rw [hg, wrap_id (x := l[i].f1 - l[i].f2) (by omega) (by omega), wrap_id (x := l[i].f1 + l[i].f2) (by omega) (by omega), wrap_nat (by omega)]
    refine ih (i + 1) _ (by omega) ?_
    rw [ha, List.take_succ_eq_append_getElem hlt]
    unfold spans
    rw [List.map_append]
    rfl

theorem impl_sel_from (l : List S37) (hn : l.length ≤ 12) : ∀ d a, a + d = l.length + 1 → Ev (fun k => choose_Select.l1 k l (spans l) a) (selFrom l d a) := by
  intro d
  induction d with
  | zero =>
    intro a ha
    refine Ev.step (fun k => by rw [choose_Select.l1]) ?_
    refine Ev.neg ?_ (Ev.const rfl)
    rw [wrap_id (by omega) (by omega)]; omega
  | succ d ih =>
    intro a ha
    refine Ev.step (fun k => by rw [choose_Select.l1]) ?_
    rw [wrap_id (x := 2 * (a : Int)) (by omega) (by omega)]
    unfold selFrom
    by_cases h2 : 2 * a < l.length
    · rw [if_pos h2]
      refine Ev.pos (by omega) ?_
      rw [wrap_id (x := (l.length : Int) - a) (by omega) (by omega), wrap_nat (by omega)]
      refine Ev.bind' _ (hullR_ev (spans l) _) ?_
      by_cases h3 : (hullR (spans l) ((l.length : Int) - a)).2.2 = true
      · rw [if_pos h3]
        refine Ev.pos h3 (Ev.bind' _ (impl_in l (by omega) _ _) ?_)
        have hle := idx_le l (pIn (hullR (spans l) ((l.length : Int) - a)).1 (hullR (spans l) ((l.length : Int) - a)).2.1)
        rw [wrap_id (x := (l.length : Int) - _) (by omega) (by omega)]
        by_cases h4 : (l.length : Int) - ((idx l (pIn (hullR (spans l) ((l.length : Int) - a)).1 (hullR (spans l) ((l.length : Int) - a)).2.1)).length : Int) ≤ a
        · rw [if_pos h4]; exact Ev.pos h4 (Ev.const rfl)
        · rw [if_neg h4]; exact Ev.neg h4 (ih (a + 1) (by omega))
      · rw [if_neg h3]; exact Ev.neg h3 (ih (a + 1) (by omega))
    · rw [if_neg h2]
      exact Ev.neg (by omega) (Ev.const rfl)
theorem impl_select (l : List S37) : Ev (fun k => choose_Select.f k l) (sel l) := by
  unfold choose_Select.f sel
  refine Ev.bind' _ (impl_check l) ?_
  by_cases h : chk l = 0
  · rw [if_pos h]
    obtain ⟨hn, hok⟩ := chk_ok h
    exact Ev.pos h (impl_spans l hn hok _ (impl_sel_from l hn (l.length + 1) 0 (by omega)) l.length 0 [] (by omega) (by simp [spans]))
  · rw [if_neg h]; exact Ev.neg h (Ev.const rfl)
/-- What a selection is. -/
structure SelOk (l : List S37) (p : List Int) (lo hi : Int) : Prop where
  chk0 : chk l = 0
  wit : ∃ a : Nat, 2 * a < l.length ∧ HullSpec (spans l) ((l.length : Int) - a) lo hi true ∧ (l.length : Int) - (p.length : Int) ≤ a ∧ ∀ b : Nat, b < a → ∀ lo' hi', HullSpec (spans l) ((l.length : Int) - b) lo' hi' true → (b : Int) < (l.length : Int) - ((idx l (pIn lo' hi')).length : Int)
  pos : p = idx l (pIn lo hi)
def SelNone (l : List S37) : Prop := ∀ a : Nat, 2 * a < l.length → ∀ lo hi, HullSpec (spans l) ((l.length : Int) - a) lo hi true → (a : Int) < (l.length : Int) - ((idx l (pIn lo hi)).length : Int)
theorem selFrom_spec {l : List S37} (h0 : chk l = 0) : ∀ d a, a + d = l.length + 1 → (∀ b : Nat, b < a → 2 * b < l.length → ∀ lo' hi', HullSpec (spans l) ((l.length : Int) - b) lo' hi' true → (b : Int) < (l.length : Int) - ((idx l (pIn lo' hi')).length : Int)) →
    (selFrom l d a = ([], 0, 0, 11) ∧ SelNone l) ∨ ∃ p lo hi, selFrom l d a = (p, lo, hi, 0) ∧ SelOk l p lo hi := by
  obtain ⟨hn, hok⟩ := chk_ok h0
  intro d
  induction d with
  | zero => exact fun a ha hb => .inl ⟨rfl, fun b h2 => hb b (by omega) h2⟩
  | succ d ih =>
    intro a ha hb
    have hs := hullR_spec (spans l) ((l.length : Int) - a)
    rw [valid_spans hok hn] at hs
    have next : (∀ lo' hi', HullSpec (spans l) ((l.length : Int) - a) lo' hi' true → (a : Int) < (l.length : Int) - ((idx l (pIn lo' hi')).length : Int)) → ∀ b : Nat, b < a + 1 → 2 * b < l.length → ∀ lo' hi', HullSpec (spans l) ((l.length : Int) - b) lo' hi' true → (b : Int) < (l.length : Int) - ((idx l (pIn lo' hi')).length : Int) := fun hx b hba h2 => by
      rcases Nat.lt_or_ge b a with h3 | h3
      · exact hb b h3 h2
      · have e : b = a := by omega
        subst e; exact hx
    unfold selFrom
    by_cases h2 : 2 * a < l.length
    · rw [if_pos h2]
      by_cases h3 : (hullR (spans l) ((l.length : Int) - a)).2.2 = true
      · rw [if_pos h3]
        rw [h3] at hs
        by_cases h4 : (l.length : Int) - ((idx l (pIn (hullR (spans l) ((l.length : Int) - a)).1 (hullR (spans l) ((l.length : Int) - a)).2.1)).length : Int) ≤ a
        · rw [if_pos h4]
          exact .inr ⟨_, _, _, rfl, h0, ⟨a, h2, hs, h4, fun b hba => hb b hba (by omega)⟩, rfl⟩
        · rw [if_neg h4]
          refine ih (a + 1) (by omega) (next fun lo' hi' hh => ?_)
          obtain ⟨e1, e2, _⟩ := hh.uniq hs
          rw [e1, e2]; omega
      · rw [if_neg h3]
        refine ih (a + 1) (by omega) (next fun lo' hi' hh => ?_)
        exact absurd (hh.uniq hs).2.2.symm h3
    · rw [if_neg h2]
      exact .inl ⟨rfl, fun b hb2 => hb b (by omega) hb2⟩
/-- The three ends of a selection. -/
theorem sel_cases (l : List S37) : (chk l ≠ 0 ∧ sel l = ([], 0, 0, chk l)) ∨ (chk l = 0 ∧ sel l = ([], 0, 0, 11) ∧ SelNone l) ∨ ∃ p lo hi, sel l = (p, lo, hi, 0) ∧ SelOk l p lo hi := by
  unfold sel
  by_cases h : chk l = 0
  · rw [if_pos h]
    rcases selFrom_spec h (l.length + 1) 0 (by omega) (fun b hb => by omega) with ⟨h1, h2⟩ | ⟨p, lo, hi, h1, h2⟩
    · exact .inr (.inl ⟨h, h1, h2⟩)
    · exact .inr (.inr ⟨p, lo, hi, h1, h2⟩)
  · rw [if_neg h]; exact .inl ⟨h, rfl⟩

noncomputable def fals (l : List S37) : List Int × Int := if (sel l).2.2.2 = 0 then (idx l (pOut (sel l).2.1 (sel l).2.2.1), 0) else ([], (sel l).2.2.2)
theorem sel_len (l : List S37) (h : (sel l).2.2.2 = 0) : l.length ≤ 12 ∧ ∀ c ∈ l, OkC c := by
  by_cases h0 : chk l = 0
  · exact chk_ok h0
  · unfold sel at h
    rw [if_neg h0] at h
    exact absurd h h0
theorem impl_fals (l : List S37) : Ev (fun k => choose_Falsetickers.f k l) (fals l) := by
  unfold choose_Falsetickers.f fals
  refine Ev.bind' _ (impl_select l) ?_
  by_cases h : (sel l).2.2.2 = 0
  · rw [if_pos h]
    exact Ev.pos h (Ev.bind' _ (impl_out l (by have := (sel_len l h).1; omega) _ _) (Ev.const rfl))
  · rw [if_neg h]; exact Ev.neg h (Ev.const rfl)
/-! ### Majority -/
end Go.Proofs.Ytlfilhplklifjaa.PA

/- More on positions, and on a check that says 0. -/
namespace Go.Proofs.Ytlfilhplklifjaa.PA
open Go.RowKit Go.Proofs.Ytlfilhplklifjaa.X Go.Proofs.YtlfilhplklifjaaW.PrintWords Go.Proofs.YtlfilhplklifjaaW.PrintLast

/-- All of them. -/
theorem idxFrom_all (l : List S37) (p : S37 → Bool) : ∀ d i, (∀ j, i ≤ j → j < i + d → p (l.getD j z37) = true) → (idxFrom l p d i).length = d
  | 0, _, _ => rfl
  | d + 1, i, h => by
    have ih := idxFrom_all l p d (i + 1) (fun j h1 h2 => h j (by omega) (by omega))
    unfold idxFrom
    rw [if_pos (h i (by omega) (by omega)), List.length_cons, ih]
theorem idx_all {l : List S37} {p : S37 → Bool} (h : ∀ c ∈ l, p c = true) : (idx l p).length = l.length :=
  idxFrom_all l p l.length 0 fun j _ hj => h _ (by simp [List.getD, show j < l.length by omega])
/-! ### A check that says 0 -/
theorem dupFrom_false (l : List S37) (i : Nat) : ∀ d j, dupFrom l i d j = false ↔ ∀ q, j ≤ q → q < j + d → (l.getD q z37).f0 ≠ (l.getD i z37).f0
  | 0, j => by simp [dupFrom]; intro q h1 h2; omega
  | d + 1, j => by
    have ih := dupFrom_false l i d (j + 1)
    unfold dupFrom
    by_cases h : (l.getD j z37).f0 = (l.getD i z37).f0
    · rw [if_pos h]
      constructor
      · intro hh; cases hh
      · intro hh; exact absurd h (hh j (by omega) (by omega))
    · rw [if_neg h, ih]
      constructor
      · intro hh q h1 h2
        by_cases e : q = j
        · subst e; exact h
        · exact hh q (by omega) (by omega)
      · intro hh q h1 h2
        exact hh q (by omega) (by omega)
theorem chkFrom_zero (l : List S37) : ∀ d i, i + d = l.length → (chkFrom l d i = 0 ↔ ∀ j, i ≤ j → j < l.length → OkC (l.getD j z37) ∧ ∀ q, q < j → (l.getD q z37).f0 ≠ (l.getD j z37).f0)
  | 0, i, hi => by simp [chkFrom]; intro j h1 h2; omega
  | d + 1, i, hi => by
    have ih := chkFrom_zero l d (i + 1) (by omega)
    have hd := dupFrom_false l i i 0
    unfold chkFrom
    by_cases h : OkC (l.getD i z37)
    · rw [if_pos h]
      by_cases h2 : dupFrom l i i 0 = true
      · rw [if_pos h2]
        constructor
        · intro hh; omega
        · intro hh
          have h3 := (hh i (by omega) (by omega)).2
          have h4 := hd.2 (fun q _ hq => h3 q (by omega))
          rw [h4] at h2; cases h2
      · rw [if_neg h2, ih]
        have h3 := hd.1 (by simpa using h2)
        constructor
        · intro hh j h4 h5
          by_cases e : j = i
          · subst e; exact ⟨h, fun q hq => h3 q (by omega) (by omega)⟩
          · exact hh j (by omega) h5
        · intro hh j h4 h5
          exact hh j (by omega) h5
    · rw [if_neg h]
      constructor
      · intro hh; omega
      · intro hh; exact absurd (hh i (by omega) (by omega)).1 h
/-- The check says 0 of at most twelve candidates within the limits, of different numbers. -/
theorem chk_iff (l : List S37) : chk l = 0 ↔ l.length ≤ 12 ∧ (∀ c ∈ l, OkC c) ∧ l.Pairwise (fun a b => a.f0 ≠ b.f0) := by
  unfold chk
  by_cases h : (l.length : Int) > 12
  · rw [if_pos h]
    constructor
    · intro hh; omega
    · intro hh; omega
  · rw [if_neg h, chkFrom_zero l l.length 0 (by omega)]
    have g : ∀ i (hi : i < l.length), l.getD i z37 = l[i] := fun i hi => by simp [List.getD, hi]
    constructor
    · intro hh
      refine ⟨by omega, fun c hc => ?_, List.pairwise_iff_getElem.2 fun i j hi hj hij => ?_⟩
      · obtain ⟨j, hj, rfl⟩ := List.getElem_of_mem hc
        have := (hh j (by omega) hj).1
        rwa [g j hj] at this
      · have := (hh j (by omega) hj).2 i hij
        rwa [g i hi, g j hj] at this
    · rintro ⟨_, h1, h2⟩ j _ hj
      refine ⟨by rw [g j hj]; exact h1 _ (List.getElem_mem hj), fun q hq => ?_⟩
      rw [g j hj, g q (by omega)]
      exact List.pairwise_iff_getElem.1 h2 q j (by omega) hj hq
end Go.Proofs.Ytlfilhplklifjaa.PA

/- The pure statement of ChooseTogether: candidates each of whose intervals contains the Offsets of all are all selected. -/
namespace Go.Proofs.Ytlfilhplklifjaa.PureChooseTogether
open Go.RowKit Go.Proofs.Ytlfilhplklifjaa.X Go.Proofs.Ytlfilhplklifjaa.PA Go.Proofs.YtlfilhplklifjaaW.PrintWords Go.Proofs.YtlfilhplklifjaaW.PrintLast Go.Proofs.YtlfilhplklifjaaW.PrintMore
theorem wf_i32 {x : Int} (h : WFi32 x) : -2147483648 ≤ x ∧ x ≤ 2147483647 := by
  simpa [WFi32, Lit.wf, IntKind.min, IntKind.max, IntKind.signed, IntKind.bits] using h
theorem wf_u16 {x : Int} (h : WFu16 x) : 0 ≤ x ∧ x ≤ 65535 := by
  simpa [WFu16, Lit.wf, IntKind.min, IntKind.max, IntKind.signed, IntKind.bits] using h

theorem max_from (x : List Int) (hx : x.length ≤ 12) : ∀ d i (m : Int), i + d = x.length →
    ∃ r, Ev (fun k => slices_Max_int32_int32.l0 k x m i) r ∧ m ≤ r ∧ (∀ y ∈ x.drop i, y ≤ r) ∧ (r = m ∨ r ∈ x.drop i) := by
  intro d
  induction d with
  | zero =>
    intro i m hi
    refine ⟨m, ?_, Int.le_refl _, ?_, .inl rfl⟩
    · refine Ev.step (fun k => by rw [slices_Max_int32_int32.l0]) ?_
      exact Ev.neg (by omega) (Ev.const rfl)
    · rw [List.drop_eq_nil_of_le (by omega)]; simp
  | succ d ih =>
    intro i m hi
    have hlt : i < x.length := by omega
    have e1 : x.getD i 0 = x[i] := by simp [List.getD, hlt]
    obtain ⟨r, h1, h2, h3, h4⟩ := ih (i + 1) (mx m x[i]) (by omega)
    have hm : m ≤ mx m x[i] ∧ x[i] ≤ mx m x[i] ∧ (mx m x[i] = m ∨ mx m x[i] = x[i]) := by unfold mx; split <;> omega
    refine ⟨r, ?_, by omega, fun y hy => ?_, ?_⟩
    · refine Ev.step (fun k => by rw [slices_Max_int32_int32.l0]) ?_
      refine Ev.pos (by omega) (Ev.pos (by omega) ?_)
      rw [rdI, e1, wrap_nat (by omega)]
      exact h1
    · rw [List.drop_eq_getElem_cons hlt] at hy
      rcases List.mem_cons.1 hy with rfl | hy
      · omega
      · exact h3 y hy
    · rw [List.drop_eq_getElem_cons hlt]
      rcases h4 with h4 | h4
      · rcases hm.2.2 with h5 | h5
        · exact .inl (by omega)
        · exact .inr (by rw [h4, h5]; exact List.mem_cons_self)
      · exact .inr (List.mem_cons_of_mem _ h4)
theorem max_ev (x : List Int) (hx : x.length ≤ 12) (h0 : 0 < x.length) : ∃ r, Ev (fun k => slices_Max_int32_int32.f k x) r ∧ (∀ y ∈ x, y ≤ r) ∧ r ∈ x := by
  obtain ⟨r, h1, h2, h3, h4⟩ := max_from x hx (x.length - 1) 1 (x.getD 0 0) (by omega)
  have e1 : x.getD 0 0 = x[0] := by simp [List.getD, h0]
  have e2 : x = x[0] :: x.drop 1 := by rw [← List.drop_eq_getElem_cons h0]; rfl
  refine ⟨r, ?_, fun y hy => ?_, ?_⟩
  · unfold slices_Max_int32_int32.f
    refine Ev.neg (by omega) (Ev.pos (by omega) ?_)
    have := rdI x 0
    rw [show ((0 : Nat) : Int) = 0 from rfl] at this
    rw [this]
    exact h1
  · rw [e2] at hy
    rcases List.mem_cons.1 hy with rfl | hy
    · omega
    · exact h3 y hy
  · rw [e2]
    rcases h4 with h4 | h4
    · rw [h4, e1]; exact List.mem_cons_self
    · exact List.mem_cons_of_mem _ h4
theorem min_from (x : List Int) (hx : x.length ≤ 12) : ∀ d i (m : Int), i + d = x.length →
    ∃ r, Ev (fun k => slices_Min_int32_int32.l0 k x m i) r ∧ r ≤ m ∧ (∀ y ∈ x.drop i, r ≤ y) ∧ (r = m ∨ r ∈ x.drop i) := by
  intro d
  induction d with
  | zero =>
    intro i m hi
    refine ⟨m, ?_, Int.le_refl _, ?_, .inl rfl⟩
    · refine Ev.step (fun k => by rw [slices_Min_int32_int32.l0]) ?_
      exact Ev.neg (by omega) (Ev.const rfl)
    · rw [List.drop_eq_nil_of_le (by omega)]; simp
  | succ d ih =>
    intro i m hi
    have hlt : i < x.length := by omega
    have e1 : x.getD i 0 = x[i] := by simp [List.getD, hlt]
    obtain ⟨r, h1, h2, h3, h4⟩ := ih (i + 1) (mn m x[i]) (by omega)
    have hm : mn m x[i] ≤ m ∧ mn m x[i] ≤ x[i] ∧ (mn m x[i] = m ∨ mn m x[i] = x[i]) := by unfold mn; split <;> omega
    refine ⟨r, ?_, by omega, fun y hy => ?_, ?_⟩
    · refine Ev.step (fun k => by rw [slices_Min_int32_int32.l0]) ?_
      refine Ev.pos (by omega) (Ev.pos (by omega) ?_)
      rw [rdI, e1, wrap_nat (by omega)]
      exact h1
    · rw [List.drop_eq_getElem_cons hlt] at hy
      rcases List.mem_cons.1 hy with rfl | hy
      · omega
      · exact h3 y hy
    · rw [List.drop_eq_getElem_cons hlt]
      rcases h4 with h4 | h4
      · rcases hm.2.2 with h5 | h5
        · exact .inl (by omega)
        · exact .inr (by rw [h4, h5]; exact List.mem_cons_self)
      · exact .inr (List.mem_cons_of_mem _ h4)
theorem min_ev (x : List Int) (hx : x.length ≤ 12) (h0 : 0 < x.length) : ∃ r, Ev (fun k => slices_Min_int32_int32.f k x) r ∧ (∀ y ∈ x, r ≤ y) ∧ r ∈ x := by
  obtain ⟨r, h1, h2, h3, h4⟩ := min_from x hx (x.length - 1) 1 (x.getD 0 0) (by omega)
  have e1 : x.getD 0 0 = x[0] := by simp [List.getD, h0]
  have e2 : x = x[0] :: x.drop 1 := by rw [← List.drop_eq_getElem_cons h0]; rfl
  refine ⟨r, ?_, fun y hy => ?_, ?_⟩
  · unfold slices_Min_int32_int32.f
    refine Ev.neg (by omega) (Ev.pos (by omega) ?_)
    have := rdI x 0
    rw [show ((0 : Nat) : Int) = 0 from rfl] at this
    rw [this]
    exact h1
  · rw [e2] at hy
    rcases List.mem_cons.1 hy with rfl | hy
    · omega
    · exact h3 y hy
  · rw [e2]
    rcases h4 with h4 | h4
    · rw [h4, e1]; exact List.mem_cons_self
    · exact List.mem_cons_of_mem _ h4

/-- The candidate of an Offset. -/
def Tog (D : Int) (os : List Int) (j : Nat) (x : S37) : Prop := x.f0 = 100 - j ∧ x.f1 = os.getD j 0 ∧ D ≤ x.f2 ∧ x.f2 ≤ D + 65535 ∧ x.f3 = 0 ∧ x.f4 = 2
structure All (D : Int) (os : List Int) (c : List S37) (lo hi : Int) : Prop where
  each : ∀ j, j < c.length → Tog D os j (c.getD j z37)
  lo1 : ∀ j, j < c.length → (c.getD j z37).f1 - (c.getD j z37).f2 ≤ lo
  hi1 : ∀ j, j < c.length → hi ≤ (c.getD j z37).f1 + (c.getD j z37).f2
  lo2 : c.length = 0 ∨ ∃ j, j < c.length ∧ lo = (c.getD j z37).f1 - (c.getD j z37).f2
  hi2 : c.length = 0 ∨ ∃ j, j < c.length ∧ hi = (c.getD j z37).f1 + (c.getD j z37).f2
  lo3 : c.length = 0 → lo = -4611686018427387904
  hi3 : c.length = 0 → hi = 4611686018427387904
theorem All.add {D : Int} {os : List Int} {c : List S37} {lo hi : Int} (h : All D os c lo hi) {x : S37} (hx : Tog D os c.length x) (hb : -4611686018427387904 ≤ x.f1 - x.f2 ∧ x.f1 + x.f2 ≤ 4611686018427387904) :
    All D os (c ++ [x]) (mx lo (x.f1 - x.f2)) (mn hi (x.f1 + x.f2)) := by
  have old : ∀ j, j < c.length → (c ++ [x]).getD j z37 = c.getD j z37 := fun j hj => by simp [List.getD, List.getElem?_append_left hj]
  have new : (c ++ [x]).getD c.length z37 = x := by simp [List.getD]
  have hl : (c ++ [x]).length = c.length + 1 := by simp
  have hm : lo ≤ mx lo (x.f1 - x.f2) ∧ x.f1 - x.f2 ≤ mx lo (x.f1 - x.f2) ∧ (mx lo (x.f1 - x.f2) = lo ∧ lo ≥ x.f1 - x.f2 ∨ mx lo (x.f1 - x.f2) = x.f1 - x.f2) := by unfold mx; split <;> omega
  have hn : mn hi (x.f1 + x.f2) ≤ hi ∧ mn hi (x.f1 + x.f2) ≤ x.f1 + x.f2 ∧ (mn hi (x.f1 + x.f2) = hi ∧ hi ≤ x.f1 + x.f2 ∨ mn hi (x.f1 + x.f2) = x.f1 + x.f2) := by unfold mn; split <;> omega
  refine ⟨fun j hj => ?_, fun j hj => ?_, fun j hj => ?_, ?_, ?_, fun h0 => by omega, fun h0 => by omega⟩
  · rcases Nat.lt_or_ge j c.length with h1 | h1
    · rw [old j h1]; exact h.each j h1
    · rw [show j = c.length by omega, new]; exact hx
  · rcases Nat.lt_or_ge j c.length with h1 | h1
    · rw [old j h1]; have := h.lo1 j h1; omega
    · rw [show j = c.length by omega, new]; omega
  · rcases Nat.lt_or_ge j c.length with h1 | h1
    · rw [old j h1]; have := h.hi1 j h1; omega
    · rw [show j = c.length by omega, new]; omega
  · right
    rcases hm.2.2 with ⟨h1, h2⟩ | h1
    · rcases h.lo2 with h3 | ⟨j, h3, h4⟩
      · have := h.lo3 h3
        exact ⟨c.length, by omega, by rw [new]; omega⟩
      · exact ⟨j, by omega, by rw [old j h3]; omega⟩
    · exact ⟨c.length, by omega, by rw [new]; omega⟩
  · right
    rcases hn.2.2 with ⟨h1, h2⟩ | h1
    · rcases h.hi2 with h3 | ⟨j, h3, h4⟩
      · have := h.hi3 h3
        exact ⟨c.length, by omega, by rw [new]; omega⟩
      · exact ⟨j, by omega, by rw [old j h3]; omega⟩
    · exact ⟨c.length, by omega, by rw [new]; omega⟩

theorem at_mem {c : List S37} {x : S37} (h : x ∈ c) : ∃ j, j < c.length ∧ c.getD j z37 = x := by
  obtain ⟨j, hj, rfl⟩ := List.getElem_of_mem h
  exact ⟨j, hj, by simp [List.getD, hj]⟩
/-- The end: all are selected. -/
theorem final (D : Int) (os : List Int) (c : List S37) (lo hi : Int) (h : All D os c lo hi) (h1 : 1 ≤ c.length) (hn : c.length ≤ 12) (hD : 0 ≤ D ∧ D ≤ 4294967295)
    (ho : ∀ j, j < c.length → -2147483648 ≤ os.getD j 0 ∧ os.getD j 0 ≤ 2147483647) (hc : ∀ i j, i < c.length → j < c.length → os.getD i 0 - os.getD j 0 ≤ D) :
    sel c = (idx c (pIn lo hi), lo, hi, 0) ∧ (idx c (pIn lo hi)).length = c.length := by
  have h0 : chk c = 0 := by
    refine (chk_iff c).2 ⟨hn, fun x hx => ?_, List.pairwise_iff_getElem.2 fun i j hi hj hij => ?_⟩
    · obtain ⟨j, hj, rfl⟩ := at_mem hx
      obtain ⟨t0, t1, t2, t3, t4, t5⟩ := h.each j hj
      have := ho j hj
      refine ⟨?_, ?_, ?_, ?_, ?_, ?_, ?_, ?_, ?_, ?_⟩ <;> omega
    · have t1 := (h.each i hi).1
      have t2 := (h.each j hj).1
      simp only [List.getD, List.getElem?_eq_getElem hi, List.getElem?_eq_getElem hj, Option.getD_some] at t1 t2
      omega
  have inn : ∀ i j, i < c.length → j < c.length → (c.getD i z37).f1 - (c.getD i z37).f2 ≤ (c.getD j z37).f1 ∧ (c.getD j z37).f1 ≤ (c.getD i z37).f1 + (c.getD i z37).f2 := fun i j hi hj => by
    obtain ⟨_, t1, t2, _⟩ := h.each i hi
    obtain ⟨_, u1, _⟩ := h.each j hj
    have := hc i j hi hj
    have := hc j i hj hi
    omega
  have hlo : ∀ j, j < c.length → lo ≤ (c.getD j z37).f1 := fun j hj => by
    rcases h.lo2 with h3 | ⟨i, h3, h4⟩
    · omega
    · have := (inn i j h3 hj).1; omega
  have hhi : ∀ j, j < c.length → (c.getD j z37).f1 ≤ hi := fun j hj => by
    rcases h.hi2 with h3 | ⟨i, h3, h4⟩
    · omega
    · have := (inn i j h3 hj).2; omega
  have hlen : (spans c).length = c.length := by simp [spans]
  have full : ∀ t, (∀ j, j < c.length → (c.getD j z37).f1 - (c.getD j z37).f2 ≤ t ∧ t ≤ (c.getD j z37).f1 + (c.getD j z37).f2) → cnt (spans c) t = c.length := fun t ht => by
    unfold cnt
    rw [List.countP_eq_length.2 fun s hs => ?_, hlen]
    obtain ⟨j, hj, rfl⟩ := span_at hs
    exact holds_iff.2 (ht j hj)
  have full' : ∀ t, c.length ≤ cnt (spans c) t → ∀ j, j < c.length → (c.getD j z37).f1 - (c.getD j z37).f2 ≤ t ∧ t ≤ (c.getD j z37).f1 + (c.getD j z37).f2 := fun t ht j hj => by
    have hle : cnt (spans c) t ≤ (spans c).length := List.countP_le_length
    have := (List.countP_eq_length (p := fun s => holds s t) (l := spans c)).1 (by unfold cnt at ht hle; omega) _ (spanAt hj)
    exact holds_iff.1 this
  have h00 : 0 < c.length := by omega
  have hspec : HullSpec (spans c) ((c.length : Int) - (0 : Nat)) lo hi true := by
    refine .inl ⟨rfl, by omega, ?_, ?_, fun t ht => ?_⟩
    · rw [full lo fun j hj => ⟨h.lo1 j hj, ?_⟩]
      · omega
      · have := (inn j 0 hj h00).2; have := hlo 0 h00; omega
    · rw [full hi fun j hj => ⟨?_, h.hi1 j hj⟩]
      · omega
      · have := (inn j 0 hj h00).1; have := hhi 0 h00; omega
    · have ht' := full' t (by omega)
      rcases h.lo2 with h3 | ⟨i, h3, h4⟩
      · omega
      · rcases h.hi2 with h5 | ⟨j, h5, h6⟩
        · omega
        · have := ht' i h3; have := ht' j h5; omega
  have hall : (idx c (pIn lo hi)).length = c.length := idx_all fun x hx => by
    obtain ⟨j, hj, rfl⟩ := at_mem hx
    unfold pIn
    rw [decide_eq_true (hlo j hj), decide_eq_true (hhi j hj)]; rfl
  refine ⟨?_, hall⟩
  rcases sel_cases c with ⟨g1, _⟩ | ⟨_, _, g2⟩ | ⟨p, lo2, hi2, g1, g2⟩
  · exact absurd h0 g1
  · have := g2 0 (by omega) lo hi hspec
    omega
  · obtain ⟨a, ha, hs, _, hmin⟩ := g2.wit
    have ha0 : a = 0 := by
      rcases Nat.eq_zero_or_pos a with q | q
      · exact q
      · have := hmin 0 q lo hi hspec
        omega
    subst ha0
    obtain ⟨e1, e2, _⟩ := hs.uniq hspec
    rw [g1, g2.pos, e1, e2]

theorem loop (D : Int) (os more : List Int) (hm : ∀ y ∈ more, 0 ≤ y ∧ y ≤ 65535) (h1 : 1 ≤ os.length) (hn : os.length ≤ 12) (hD : 0 ≤ D ∧ D ≤ 4294967295)
    (ho : ∀ j, j < os.length → -2147483648 ≤ os.getD j 0 ∧ os.getD j 0 ≤ 2147483647) (hc : ∀ i j, i < os.length → j < os.length → os.getD i 0 - os.getD j 0 ≤ D) :
    ∀ d i (acc : List S37) lo hi, i + d = os.length → acc.length = i → All D os acc lo hi → Ev (fun k => timesynclaw24_ChooseTogether.l0 k more D acc lo hi os os.length i) true := by
  intro d
  induction d with
  | zero =>
    intro i acc lo hi hi' ha h
    obtain ⟨e1, e2⟩ := final D os acc lo hi h (by omega) (by omega) hD (fun j hj => ho j (by omega)) (fun i j h2 h3 => hc i j (by omega) (by omega))
    have ef : fals acc = (idx acc (pOut lo hi), 0) := by unfold fals; rw [e1]; rfl
    have hp := idx_parts acc lo hi
    refine Ev.step (fun k => by rw [timesynclaw24_ChooseTogether.l0]) ?_
    refine Ev.neg (by omega) (Ev.bind' _ (impl_select acc) (Ev.bind' _ (impl_fals acc) ?_))
    rw [e1, ef]
    exact Ev.pos rfl (Ev.pos rfl (Ev.pos (by show ((idx acc (pIn lo hi)).length : Int) = _; omega) (Ev.pos (by show ((idx acc (pOut lo hi)).length : Int) = _; omega) (Ev.pos (by simp) awake24'))))
  | succ d ih =>
    intro i acc lo hi hi' ha h
    have hlt : i < os.length := by omega
    have ho1 := ho i hlt
    refine Ev.step (fun k => by rw [timesynclaw24_ChooseTogether.l0]) ?_
    refine Ev.pos (by omega) (Ev.pos (by omega) (Ev.pos (by omega) ?_))
    rw [rdI, rdI, wrap_id (x := 100 - (i : Int)) (by omega) (by omega), wrap_id (x := os.getD i 0) (by omega) (by omega), wrap_nat (i := i) (by omega)]
    refine Ev.ite_ (fun hlt2 => Ev.pos (by omega) ?_) (fun _ => Ev.pos (by omega) ?_)
    · have hlt3 : i < more.length := by omega
      have hm1 := hm more[i] (List.getElem_mem hlt3)
      have e1 : more.getD i 0 = more[i] := by simp [List.getD, hlt3]
      rw [e1, wrap_id (x := more[i]) (by omega) (by omega), wrap_id (x := D + more[i]) (by omega) (by omega), wrap_id (x := os.getD i 0 - (D + more[i])) (by omega) (by omega), wrap_id (x := os.getD i 0 + (D + more[i])) (by omega) (by omega)]
      exact ih (i + 1) _ _ _ (by omega) (by simp; omega) (h.add (x := ⟨100 - i, os.getD i 0, D + more[i], 0, 2⟩) ⟨by rw [ha], by rw [ha], by show D ≤ D + more[i]; omega, by show D + more[i] ≤ _; omega, rfl, rfl⟩ ⟨by show _ ≤ os.getD i 0 - (D + more[i]); omega, by show os.getD i 0 + (D + more[i]) ≤ _; omega⟩)
    · rw [wrap_id (x := os.getD i 0 - D) (by omega) (by omega), wrap_id (x := os.getD i 0 + D) (by omega) (by omega)]
      exact ih (i + 1) _ _ _ (by omega) (by simp; omega) (h.add (x := ⟨100 - i, os.getD i 0, D, 0, 2⟩) ⟨by rw [ha], by rw [ha], Int.le_refl _, by show D ≤ D + 65535; omega, rfl, rfl⟩ ⟨by show _ ≤ os.getD i 0 - D; omega, by show os.getD i 0 + D ≤ _; omega⟩)

theorem ChooseTogether : ∀ (x0 : List Int) (x1 : List Int), WFL21 x0 → WFL51 x1 → ∃ k, timesynclaw24_ChooseTogether.f k x0 x1 = some true := by
  intro l more hl hmore
  refine Ev.rounds ?_
  have hm : 0 ≤ mn (l.length : Int) 12 ∧ mn (l.length : Int) 12 ≤ l.length ∧ mn (l.length : Int) 12 ≤ 12 := by unfold mn; split <;> omega
  have hlen : (l.take (mn (l.length : Int) 12).toNat).length ≤ 12 := by rw [List.length_take]; omega
  have hmem : ∀ y ∈ l.take (mn (l.length : Int) 12).toNat, -2147483648 ≤ y ∧ y ≤ 2147483647 := fun y hy => wf_i32 (hl.2 y (List.mem_of_mem_take hy))
  unfold timesynclaw24_ChooseTogether.f
  refine Ev.pos hm.1 (Ev.pos hm.2.1 (Ev.some_bind ?_))
  generalize l.take (mn (l.length : Int) 12).toNat = os at hlen hmem
  refine Ev.ite_ (fun _ => awake24') (fun h0 => ?_)
  obtain ⟨M, m1, m2, m3⟩ := max_ev os hlen (by omega)
  obtain ⟨N, n1, n2, n3⟩ := min_ev os hlen (by omega)
  have b1 := hmem M m3
  have b2 := hmem N n3
  have b3 := m2 N n3
  have hat : ∀ j, j < os.length → os.getD j 0 ∈ os := fun j hj => by
    have : os.getD j 0 = os[j] := by simp [List.getD, hj]
    rw [this]; exact List.getElem_mem hj
  refine Ev.bind' _ m1 (Ev.bind' _ n1 ?_)
  rw [wrap_id (x := M) (by omega) (by omega), wrap_id (x := N) (by omega) (by omega), wrap_id (x := M - N) (by omega) (by omega)]
  refine loop (M - N) os more (fun y hy => wf_u16 (hmore.2 y hy)) (by omega) hlen ⟨by omega, by omega⟩ (fun j hj => hmem _ (hat j hj)) (fun i j hi hj => ?_) os.length 0 [] _ _ (by omega) rfl ?_
  · have := m2 _ (hat i hi)
    have := n2 _ (hat j hj)
    omega
  · exact ⟨fun j hj => by simp at hj, fun j hj => by simp at hj, fun j hj => by simp at hj, .inl rfl, .inl rfl, fun _ => rfl, fun _ => rfl⟩
end Go.Proofs.Ytlfilhplklifjaa.PureChooseTogether

/- What an argument reads as, in the printed words: a type's reading gives cells of its kind, and bounds on the numbers. -/
namespace Go.Proofs.Ytlfilhplklifjaa.HO
open Go.RowKit Go.Proofs.YtlfilhplklifjaaW.PrintWords Go.Deep

structure Opens {α : Type} (P : Program) (t : TypeId) (d : Kd α) (B : α → Prop) : Prop where
  out : ∀ {H : Type} (enc : TypeId × Value → H) (w : World) (base : Nat) (spare : Nat → Bool) (held : Bool) (fuel : Nat) (cs : List Value) (x : DataW H × List MemPlace),
    DataW.trod enc P w base spare held fuel t cs = some x → ∃ a : α, d.K w a cs ∧ B a

theorem opens_int {P : Program} {t : TypeId} {k : IntKind} (ht : P.underlying t = some (.int k)) : Opens P t (Kd.int k) (fun n => (Lit.int k n).wf = true) := by
  constructor
  intro H enc w base spare held fuel cs x h
  obtain ⟨n, rfl, _, hw⟩ := DataW.trod_int ht h
  exact ⟨n, rfl, hw⟩
theorem opens_slice {α : Type} [Inhabited α] {P : Program} {t e : TypeId} {d : Kd α} {B : α → Prop} (he : Opens P e d B) (ht : P.underlying t = some (.slice e)) (hs : P.cellsOf e = d.sz) :
    Opens P t (Kd.slice e d) (fun xs => xs.length ≤ 9223372036854775807 ∧ ∀ x ∈ xs, B x) := by
  constructor
  intro H enc w base spare held fuel cs x h
  rcases open_slice ht h with ⟨rfl, _⟩ | ⟨a, len, cap, m, n, D, Pl, rfl, _, hl, hm, hmm, _, hx⟩
  · exact ⟨[], ⟨none, 0, rfl, Nat.le_refl _, rfl, by simp, fun h => by simp at h⟩, by simp, by simp⟩
  · have hlm : len ≤ m := by rw [hmm]; split <;> omega
    obtain ⟨X, hX⟩ := choose_lt (α := α) (n := len) (p := fun i x => B x ∧ ∃ c, c.length = d.sz ∧ d.K w x c ∧ ∀ j u, c[j]? = some u → w.cell? (a.add (i * d.sz + j)) = some u) (fun i hi => by
      obtain ⟨cs', h1, h2⟩ := hx i (Nat.lt_of_lt_of_le hi hlm)
      obtain ⟨x, hK, hB⟩ := he.out enc w base spare held n cs' _ h2
      refine ⟨x, hB, cs', d.K_len hK, hK, fun j u hj => ?_⟩
      obtain ⟨_, h4, h5⟩ := World.cells?_some h1
      have hj' : j < cs'.length := (List.getElem?_eq_some_iff.1 hj).1
      have h6 := h5 j (by rw [h4] at hj'; exact hj')
      rw [Go.Deep.add_add, hs] at h6
      rw [h6, hj])
    refine ⟨(List.range len).map X, ⟨some a, cap, by simp, by simpa using hl, by simp, ?_, fun h0 => ⟨a, rfl, fun j p hp => ?_⟩⟩, ?_, ?_⟩
    · have : cap ≤ 9223372036854775807 := by simpa [maxLen] using hm
      simp only [List.length_map, List.length_range]; omega
    · have hj : j < len := by
        have := (List.getElem?_eq_some_iff.1 hp).1
        simpa using this
      have : X j = p := by simpa [hj] using hp
      subst this
      obtain ⟨_, c, h1, h2, h3⟩ := hX j hj
      exact ⟨c, h1, h2, h3⟩
    · have : cap ≤ 9223372036854775807 := by simpa [maxLen] using hm
      simp only [List.length_map, List.length_range]; omega
    · intro x hx
      obtain ⟨j, hj, rfl⟩ := List.mem_map.1 hx
      exact (hX j (List.mem_range.1 hj)).1

/-- The fields from cell 'off' on. -/
structure OpF {α : Type} (P : Program) (off : Nat) (fs : List Field) (d : Kd α) (B : α → Prop) : Prop where
  out : ∀ {H : Type} (enc : TypeId × Value → H) (w : World) (base : Nat) (spare : Nat → Bool) (held : Bool) (n : Nat) (cs : List Value), cs.length = off + d.sz →
    (∀ f ∈ fs, ∃ y, DataW.trod enc P w base spare held n f.type ((cs.drop f.offset).take (P.cellsOf f.type)) = some y) → ∃ a : α, d.K w a (cs.drop off) ∧ B a
end Go.Proofs.Ytlfilhplklifjaa.HO

/- The row of ChooseTogether: for every input the law returns true, and each argument reads as it read before: out of its pure statement (YtlfilhplklifjaaPureChooseTogether) and the printed walk. No condition. -/
namespace Go.Proofs.Ytlfilhplklifjaa.chooseTogether
open Go.ChangeShapes Go.WideShapes Go.ChangeAt Go.RowKit Go.Proofs.Ytlfilhplklifjaa.X Go.Proofs.YtlfilhplklifjaaW.PrintWords
open Go.ChangeMaps (open_string shut_string)
set_option linter.unusedVariables false
theorem own : ownKnob Try.prog.godebug = none := by kernel_rfl
theorem laidOut : laidOutB Try.prog = true := by kernel_rfl
theorem opens21 : HO.Opens Try.prog 21 (Kd.int .i32) WFi32 := HO.opens_int Try.underlying21
theorem opens48 : HO.Opens Try.prog 48 (Kd.slice 21 (Kd.int .i32)) WFL21 := HO.opens_slice opens21 Try.underlying48 (by kernel_rfl)
theorem opens51 : HO.Opens Try.prog 51 (Kd.int .u16) WFu16 := HO.opens_int Try.underlying51
theorem opens49 : HO.Opens Try.prog 49 (Kd.slice 51 (Kd.int .u16)) WFL51 := HO.opens_slice opens51 Try.underlying49 (by kernel_rfl)
set_option maxRecDepth 100000 in
theorem lifted (os : Os) (started : os.Started) (H : Type) (enc : TypeId × Value → H) :
    ReturnsInHanded {} Try.checked os 9 .any (Rows.chooseTogetherSpec.pre6 enc Try.prog Try.f9 Rows.chooseTogetherRow.domain false) (Rows.chooseTogetherSpec.post enc Try.prog Try.f9 false true false false) := by
  refine returnsInHanded_of_change_sized (C := Try.checked) own started (by kernel_rfl) Try.func9
    (ChangeSpec.witness6 (enc := enc) (C := Try.checked) false ⟨#[], #[.slice none 0 0, .slice none 0 0], []⟩ 8 (by kernel_rfl) (by kernel_rfl) (by kernel_rfl) (by kernel_rfl)) ?_
  intro W base args ds gs before hval0 hW hcnd hsz0 _
  have hval : ∀ (j : Nat) t v, Try.f9.params[j]? = some t → args[j]? = some v → Value.okWide Try.prog W .any base t v := hval0
  have hW' := hW
  obtain ⟨p, q, hA0, hV, rfl, hfz, hnd⟩ := hW
  have hA : DataW.TrodAll enc Try.prog W 0 (fun _ => true) true Try.f9.params.toList args.toList ds p := hA0
  rw [Try.params9] at hA hval
  obtain ⟨v0, vs0, d0, ds0, p0, q0, hargs, rfl, rfl, h0, r0⟩ := trodAll_cons hA
  obtain ⟨v1, vs1, d1, ds1, p1, q1, rfl, rfl, rfl, h1, r1⟩ := trodAll_cons r0
  obtain ⟨rfl, rfl, rfl⟩ := trodAll_nil r1
  obtain rfl : args = #[v0, v1] := by cases args; simp_all
  obtain ⟨rfl, rfl⟩ := trodVars_none hV
  have k0 := h0
  have lt0 : ∀ x ∈ p0, x.block < W.heap.size := by obtain ⟨m, hm⟩ := k0; exact DataW.trod_lt m _ _ _ hm
  obtain ⟨fuel0, hf0⟩ := h0
  obtain ⟨x0, K0, B0⟩ := opens48.out enc W 0 _ true fuel0 _ _ hf0
  obtain ⟨a0, len0, cap0, rfl⟩ := okWide_slice Try.underlying48 (hval 0 48 v0 rfl rfl)
  obtain ⟨A0, c0, e0, hc0, hr0⟩ := K0
  simp only [Value.cells, List.cons.injEq, Value.slice.injEq, and_true] at e0
  obtain ⟨rfl, rfl, rfl⟩ := e0
  have k1 := h1
  have lt1 : ∀ x ∈ p1, x.block < W.heap.size := by obtain ⟨m, hm⟩ := k1; exact DataW.trod_lt m _ _ _ hm
  obtain ⟨fuel1, hf1⟩ := h1
  obtain ⟨x1, K1, B1⟩ := opens49.out enc W 0 _ true fuel1 _ _ hf1
  obtain ⟨a1, len1, cap1, rfl⟩ := okWide_slice Try.underlying49 (hval 1 49 v1 rfl rfl)
  obtain ⟨A1, c1, e1, hc1, hr1⟩ := K1
  simp only [Value.cells, List.cons.injEq, Value.slice.injEq, and_true] at e1
  obtain ⟨rfl, rfl, rfl⟩ := e1
  clear hA0 hval0 hsz0
  obtain ⟨k, hp⟩ := PureChooseTogether.ChooseTogether x0 x1 B0 B1
  refine (timesynclaw24_ChooseTogether.calls k _ _ x0 _ _ x1 true W hr0 hc0 hr1 hc1 hp).mono fun e W' ⟨he, bel0⟩ => ?_
  have bel := bel0
  subst he
  exact ⟨_, rfl, _, _, _, [], _, [], hW', trodAll_mk1 (shut_bool Try.underlying4 _), (trodAll_cons_mk (Below.trod laidOut (by kernel_rfl) (of_decide_eq_true (by kernel_rfl)) k0 bel lt0) (trodAll_cons_mk (Below.trod laidOut (by kernel_rfl) (of_decide_eq_true (by kernel_rfl)) k1 bel lt1) trodAll_mk0)), rfl, bel.frame _, fun h => by cases h⟩
theorem over : Rows.chooseTogetherRow.holds Try.pinned (OpenSpec.ofChange Rows.chooseTogetherSpec) :=
  OpenClaim.holds_of_wide 9 Try.f9 rfl rfl rfl rfl rfl rfl rfl ⟨rfl, rfl, rfl, rfl, rfl⟩ rfl rfl rfl rfl rfl (by kernel_rfl) Try.func9 (by kernel_rfl)
    (of_decide_eq_true (by kernel_rfl)) (by unfold Func.isWrapper; first | (rw [if_pos (by decide +kernel)]; kernel_rfl) | (rw [if_neg (by decide +kernel)]; exact ⟨rfl, rfl⟩))
    (fun os started H enc _ => lifted os started H enc)
#print axioms over
end Go.Proofs.Ytlfilhplklifjaa.chooseTogether
namespace Go.Proofs.Ytlfilhplklifjaa
/-- The row of ChooseTogether. -/
theorem chooseTogether_holds : Rows.ChooseTogetherSaid := chooseTogether.over
end Go.Proofs.Ytlfilhplklifjaa
