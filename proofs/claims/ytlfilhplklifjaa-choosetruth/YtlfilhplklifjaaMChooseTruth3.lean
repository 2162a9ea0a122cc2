/- Ytlfilhplklifjaa: part 3 of 4 of the proof that the law ChooseTruth returns true for every input, its arguments reading as before. No condition. -/
import Derived.Test.YtlfilhplklifjaaMChooseTruth1
import Derived.Test.YtlfilhplklifjaaMChooseTruth2
import Derived.KernelRfl
namespace Go.Proofs.Ytlfilhplklifjaa.X
open Go.RowKit Go.Proofs.YtlfilhplklifjaaW.PrintWords Go.Proofs.YtlfilhplklifjaaW.PrintLast Go.Proofs.YtlfilhplklifjaaW.PrintMore
attribute [local go_sem] max2_int min2_int max_two min_two max_three min_three max_four min_four   -- for this text's walks alone
set_option linter.unusedVariables false
set_option linter.unusedSimpArgs false

attribute [local go_sem high] eqA29
/-! ### timesynclaw24_awake: function 14 -/
def timesynclaw24_awake.f (k : Nat)  : Option (Bool) := (some (([(⟨1, 0, 10, 0, 1⟩ : S37), (⟨2, 4, 10, 0, 1⟩ : S37), (⟨3, 100, 5, 0, 1⟩ : S37)] : List (S37)) : List (S37))).bind fun y207 => ((choose_Select.f k y207).bind fun bt210 => ((choose_Falsetickers.f k y207).bind fun bt217 => ((choose_Select.f k (([(⟨1, 0, 5, 0, 1⟩ : S37), (⟨2, 10, 5, 0, 1⟩ : S37)] : List (S37)))).bind fun bt224 => ((slices_Equal_int_int.f k bt210.1 (([0, 1] : List Int))).bind fun t234 => (if t234 = true then (if (bt210.2.1 == (-6) && (bt210.2.2.1 == 10)) = true then (if bt210.2.2.2 = 0 then ((slices_Equal_int_int.f k bt217.1 (([2] : List Int))).bind fun t238 => (if t238 = true then (if bt217.2 = 0 then (if bt224.2.2.2 = 11 then ((choose_Majority.f k y207 12 14).bind fun t239 => (if (t239 == false) = true then ((choose_Majority.f k y207 10 14).bind fun t240 => (some t240)) else (none))) else (none)) else (none)) else (none))) else (none)) else (none)) else (none))))))
theorem timesynclaw24_awake.mono : ∀ k, LeO (timesynclaw24_awake.f k ) (timesynclaw24_awake.f (k + 1) ) := by
 intro  k
 unfold timesynclaw24_awake.f
 repeat' first
   | (with_reducible exact choose_Falsetickers.mono _ _)
   | (with_reducible exact choose_Majority.mono _ _ _ _)
   | (with_reducible exact choose_Select.mono _ _)
   | (with_reducible exact slices_Equal_int_int.mono _ _ _)
   | (with_reducible exact LeO.refl _)
   | (with_reducible exact LeO.none _)
   | (with_reducible refine LeO.ite ?_ ?_)
   | (with_reducible refine LeO.bind ?_ (fun _ => ?_))
   | exact choose_Falsetickers.mono _ _
   | exact choose_Majority.mono _ _ _ _
   | exact choose_Select.mono _ _
   | exact slices_Equal_int_int.mono _ _ _
   | exact LeO.none _
   | refine LeO.ite ?_ ?_
   | refine LeO.bind ?_ (fun _ => ?_)
set_option maxHeartbeats 8000000 in
set_option maxRecDepth 100000 in
theorem timesynclaw24_awake.calls (k : Nat)  (r : Bool) (w : World) (h : timesynclaw24_awake.f k  = some r) :
  Calls Try.prog 14 #[] w fun e w' => e = .returned (.bool r) ∧ Below w.heap.size w w' := by
 have hu37 := Try.underlying37
 have hu29 := Try.underlying29
 have HB := Aside0.mk (Below.refl w.heap.size w)
 have H : ((some (([(⟨1, 0, 10, 0, 1⟩ : S37), (⟨2, 4, 10, 0, 1⟩ : S37), (⟨3, 100, 5, 0, 1⟩ : S37)] : List (S37)) : List (S37))).bind fun y207 => ((choose_Select.f k y207).bind fun bt210 => ((choose_Falsetickers.f k y207).bind fun bt217 => ((choose_Select.f k (([(⟨1, 0, 5, 0, 1⟩ : S37), (⟨2, 10, 5, 0, 1⟩ : S37)] : List (S37)))).bind fun bt224 => ((slices_Equal_int_int.f k bt210.1 (([0, 1] : List Int))).bind fun t234 => (if t234 = true then (if (bt210.2.1 == (-6) && (bt210.2.2.1 == 10)) = true then (if bt210.2.2.2 = 0 then ((slices_Equal_int_int.f k bt217.1 (([2] : List Int))).bind fun t238 => (if t238 = true then (if bt217.2 = 0 then (if bt224.2.2.2 = 11 then ((choose_Majority.f k y207 12 14).bind fun t239 => (if (t239 == false) = true then ((choose_Majority.f k y207 10 14).bind fun t240 => (some t240)) else (none))) else (none)) else (none)) else (none))) else (none)) else (none)) else (none))))))) = some r := h
 clear h
 obtain ⟨y207, hy207⟩ : ∃ y_ : List (S37), y_ = (([(⟨1, 0, 10, 0, 1⟩ : S37), (⟨2, 4, 10, 0, 1⟩ : S37), (⟨3, 100, 5, 0, 1⟩ : S37)] : List (S37))) := ⟨_, rfl⟩
 replace H : ((choose_Select.f k y207).bind fun bt210 => ((choose_Falsetickers.f k y207).bind fun bt217 => ((choose_Select.f k (([(⟨1, 0, 5, 0, 1⟩ : S37), (⟨2, 10, 5, 0, 1⟩ : S37)] : List (S37)))).bind fun bt224 => ((slices_Equal_int_int.f k bt210.1 (([0, 1] : List Int))).bind fun t234 => (if t234 = true then (if (bt210.2.1 == (-6) && (bt210.2.2.1 == 10)) = true then (if bt210.2.2.2 = 0 then ((slices_Equal_int_int.f k bt217.1 (([2] : List Int))).bind fun t238 => (if t238 = true then (if bt217.2 = 0 then (if bt224.2.2.2 = 11 then ((choose_Majority.f k y207 12 14).bind fun t239 => (if (t239 == false) = true then ((choose_Majority.f k y207 10 14).bind fun t240 => (some t240)) else (none))) else (none)) else (none)) else (none))) else (none)) else (none)) else (none)))))) = some r := by first | (rw [hy207]; with_reducible exact H) | (have H2_ := (Option.bind_some _ _).symm.trans H; rw [hy207]; with_reducible exact H2_) | (have H2_ := (Option.bind_some _ _).symm.trans H; with_reducible exact H2_) | with_reducible exact H | (rw [hy207]; exact H) | exact H
 have Ny207 := Aside0.mk hy207
 clear hy207
 replace H := Option.bind_eq_some_iff.mp H
 obtain ⟨⟨t210, t213, t214, t215⟩, A10, H⟩ := H
 replace H : ((choose_Falsetickers.f k y207).bind fun bt217 => ((choose_Select.f k (([(⟨1, 0, 5, 0, 1⟩ : S37), (⟨2, 10, 5, 0, 1⟩ : S37)] : List (S37)))).bind fun bt224 => ((slices_Equal_int_int.f k t210 (([0, 1] : List Int))).bind fun t234 => (if t234 = true then (if (t213 == (-6) && (t214 == 10)) = true then (if t215 = 0 then ((slices_Equal_int_int.f k bt217.1 (([2] : List Int))).bind fun t238 => (if t238 = true then (if bt217.2 = 0 then (if bt224.2.2.2 = 11 then ((choose_Majority.f k y207 12 14).bind fun t239 => (if (t239 == false) = true then ((choose_Majority.f k y207 10 14).bind fun t240 => (some t240)) else (none))) else (none)) else (none)) else (none))) else (none)) else (none)) else (none))))) = some r := H
 have A1 := Aside0.mk A10
 clear A10
 replace H := Option.bind_eq_some_iff.mp H
 obtain ⟨⟨t217, t218⟩, A20, H⟩ := H
 replace H : ((choose_Select.f k (([(⟨1, 0, 5, 0, 1⟩ : S37), (⟨2, 10, 5, 0, 1⟩ : S37)] : List (S37)))).bind fun bt224 => ((slices_Equal_int_int.f k t210 (([0, 1] : List Int))).bind fun t234 => (if t234 = true then (if (t213 == (-6) && (t214 == 10)) = true then (if t215 = 0 then ((slices_Equal_int_int.f k t217 (([2] : List Int))).bind fun t238 => (if t238 = true then (if t218 = 0 then (if bt224.2.2.2 = 11 then ((choose_Majority.f k y207 12 14).bind fun t239 => (if (t239 == false) = true then ((choose_Majority.f k y207 10 14).bind fun t240 => (some t240)) else (none))) else (none)) else (none)) else (none))) else (none)) else (none)) else (none)))) = some r := H
 have A2 := Aside0.mk A20
 clear A20
 obtain ⟨y221, hy221⟩ : ∃ y_ : List (S37), y_ = (([(⟨1, 0, 5, 0, 1⟩ : S37), (⟨2, 10, 5, 0, 1⟩ : S37)] : List (S37))) := ⟨_, rfl⟩
 replace H : ((choose_Select.f k y221).bind fun bt224 => ((slices_Equal_int_int.f k t210 (([0, 1] : List Int))).bind fun t234 => (if t234 = true then (if (t213 == (-6) && (t214 == 10)) = true then (if t215 = 0 then ((slices_Equal_int_int.f k t217 (([2] : List Int))).bind fun t238 => (if t238 = true then (if t218 = 0 then (if bt224.2.2.2 = 11 then ((choose_Majority.f k y207 12 14).bind fun t239 => (if (t239 == false) = true then ((choose_Majority.f k y207 10 14).bind fun t240 => (some t240)) else (none))) else (none)) else (none)) else (none))) else (none)) else (none)) else (none)))) = some r := by first | (rw [hy221]; with_reducible exact H) | (have H2_ := (Option.bind_some _ _).symm.trans H; rw [hy221]; with_reducible exact H2_) | (have H2_ := (Option.bind_some _ _).symm.trans H; with_reducible exact H2_) | with_reducible exact H | (rw [hy221]; exact H) | exact H
 have Ny221 := Aside0.mk hy221
 clear hy221
 replace H := Option.bind_eq_some_iff.mp H
 obtain ⟨⟨t224, t227, t228, t229⟩, A30, H⟩ := H
 replace H : ((slices_Equal_int_int.f k t210 (([0, 1] : List Int))).bind fun t234 => (if t234 = true then (if (t213 == (-6) && (t214 == 10)) = true then (if t215 = 0 then ((slices_Equal_int_int.f k t217 (([2] : List Int))).bind fun t238 => (if t238 = true then (if t218 = 0 then (if t229 = 11 then ((choose_Majority.f k y207 12 14).bind fun t239 => (if (t239 == false) = true then ((choose_Majority.f k y207 10 14).bind fun t240 => (some t240)) else (none))) else (none)) else (none)) else (none))) else (none)) else (none)) else (none))) = some r := H
 have A3 := Aside0.mk A30
 clear A30
 obtain ⟨y231, hy231⟩ : ∃ y_ : List Int, y_ = (([0, 1] : List Int)) := ⟨_, rfl⟩
 replace H : ((slices_Equal_int_int.f k t210 y231).bind fun t234 => (if t234 = true then (if (t213 == (-6) && (t214 == 10)) = true then (if t215 = 0 then ((slices_Equal_int_int.f k t217 (([2] : List Int))).bind fun t238 => (if t238 = true then (if t218 = 0 then (if t229 = 11 then ((choose_Majority.f k y207 12 14).bind fun t239 => (if (t239 == false) = true then ((choose_Majority.f k y207 10 14).bind fun t240 => (some t240)) else (none))) else (none)) else (none)) else (none))) else (none)) else (none)) else (none))) = some r := by first | (rw [hy231]; with_reducible exact H) | (have H2_ := (Option.bind_some _ _).symm.trans H; rw [hy231]; with_reducible exact H2_) | (have H2_ := (Option.bind_some _ _).symm.trans H; with_reducible exact H2_) | with_reducible exact H | (rw [hy231]; exact H) | exact H
 have Ny231 := Aside0.mk hy231
 clear hy231
 replace H := Option.bind_eq_some_iff.mp H
 obtain ⟨t234, A40, H⟩ := H
 replace H : (if t234 = true then (if (t213 == (-6) && (t214 == 10)) = true then (if t215 = 0 then ((slices_Equal_int_int.f k t217 (([2] : List Int))).bind fun t238 => (if t238 = true then (if t218 = 0 then (if t229 = 11 then ((choose_Majority.f k y207 12 14).bind fun t239 => (if (t239 == false) = true then ((choose_Majority.f k y207 10 14).bind fun t240 => (some t240)) else (none))) else (none)) else (none)) else (none))) else (none)) else (none)) else (none)) = some r := H
 have A4 := Aside0.mk A40
 clear A40
 by_cases c5 : t234 = true
 ·subst c5
  have H1 : (if (t213 == (-6) && (t214 == 10)) = true then (if t215 = 0 then ((slices_Equal_int_int.f k t217 (([2] : List Int))).bind fun t238 => (if t238 = true then (if t218 = 0 then (if t229 = 11 then ((choose_Majority.f k y207 12 14).bind fun t239 => (if (t239 == false) = true then ((choose_Majority.f k y207 10 14).bind fun t240 => (some t240)) else (none))) else (none)) else (none)) else (none))) else (none)) else (none)) = some r := by rw [if_pos rfl] at H; exact H
  clear H
  have H := H1
  clear H1
  by_cases c6 : (t213 == (-6) && (t214 == 10)) = true
  ·rw [if_pos c6] at H
   have c6b0 : (t213 == (-6) && (t214 == 10)) = true := c6
   (try (have c6b1 : decide (t213 = (-6) && (t214 == 10)) = true := by simpa using c6))
   (try (have c6b2 : (t213 == (-6) && (t214 == 10)) = true := by simpa using c6))
   clear c6
   by_cases c7 : t215 = 0
   ·rw [if_pos c7] at H
    have c7b0 : (t215 == 0) = true := beq_iff_eq.mpr c7
    have c7b1 : (t215 != 0) = false := bne_eq_false_iff_eq.mpr c7
    clear c7
    obtain ⟨y235, hy235⟩ : ∃ y_ : List Int, y_ = (([2] : List Int)) := ⟨_, rfl⟩
    replace H : ((slices_Equal_int_int.f k t217 y235).bind fun t238 => (if t238 = true then (if t218 = 0 then (if t229 = 11 then ((choose_Majority.f k y207 12 14).bind fun t239 => (if (t239 == false) = true then ((choose_Majority.f k y207 10 14).bind fun t240 => (some t240)) else (none))) else (none)) else (none)) else (none))) = some r := by first | (rw [hy235]; with_reducible exact H) | (have H2_ := (Option.bind_some _ _).symm.trans H; rw [hy235]; with_reducible exact H2_) | (have H2_ := (Option.bind_some _ _).symm.trans H; with_reducible exact H2_) | with_reducible exact H | (rw [hy235]; exact H) | exact H
    have Ny235 := Aside0.mk hy235
    clear hy235
    replace H := Option.bind_eq_some_iff.mp H
    obtain ⟨t238, A80, H⟩ := H
    replace H : (if t238 = true then (if t218 = 0 then (if t229 = 11 then ((choose_Majority.f k y207 12 14).bind fun t239 => (if (t239 == false) = true then ((choose_Majority.f k y207 10 14).bind fun t240 => (some t240)) else (none))) else (none)) else (none)) else (none)) = some r := H
    have A8 := Aside0.mk A80
    clear A80
    by_cases c9 : t238 = true
    ·subst c9
     have H1 : (if t218 = 0 then (if t229 = 11 then ((choose_Majority.f k y207 12 14).bind fun t239 => (if (t239 == false) = true then ((choose_Majority.f k y207 10 14).bind fun t240 => (some t240)) else (none))) else (none)) else (none)) = some r := by rw [if_pos rfl] at H; exact H
     clear H
     have H := H1
     clear H1
     by_cases c10 : t218 = 0
     ·rw [if_pos c10] at H
      have c10b0 : (t218 == 0) = true := beq_iff_eq.mpr c10
      have c10b1 : (t218 != 0) = false := bne_eq_false_iff_eq.mpr c10
      clear c10
      by_cases c11 : t229 = 11
      ·rw [if_pos c11] at H
       have c11b0 : (t229 == 11) = true := beq_iff_eq.mpr c11
       have c11b1 : (t229 != 11) = false := bne_eq_false_iff_eq.mpr c11
       clear c11
       replace H := Option.bind_eq_some_iff.mp H
       obtain ⟨t239, A120, H⟩ := H
       replace H : (if (t239 == false) = true then ((choose_Majority.f k y207 10 14).bind fun t240 => (some t240)) else (none)) = some r := H
       have A12 := Aside0.mk A120
       clear A120
       by_cases c13 : (t239 == false) = true
       ·rw [if_pos c13] at H
        have c13b0 : (t239 == false) = true := c13
        (try (have c13b1 : decide (t239 = false) = true := by simpa using c13))
        (try (have c13b2 : (t239 == false) = true := by simpa using c13))
        clear c13
        replace H := Option.bind_eq_some_iff.mp H
        obtain ⟨t240, A140, H⟩ := H
        replace H : (some t240) = some r := H
        have A14 := Aside0.mk A140
        clear A140
        obtain rfl := Option.some.inj H
        go_enter Try.func14, Try.ntmps14
        go_wp2_with (first | ((with_reducible refine gate_dst (N := 13) rfl ?_); (try (refine gate_guard (by rfl) ?_; dsimp only)); refine Kd.R_lit k37 _ 37 ?hg (N := 13) ?hd (xs := ([(⟨1, 0, 10, 0, 1⟩ : S37), (⟨2, 4, 10, 0, 1⟩ : S37), (⟨3, 100, 5, 0, 1⟩ : S37)] : List (S37))) (inner := [.int .i64 1, .int .i64 0, .int .i64 10, .int .i64 0, .int .i64 1, .int .i64 2, .int .i64 4, .int .i64 10, .int .i64 0, .int .i64 1, .int .i64 3, .int .i64 100, .int .i64 5, .int .i64 0, .int .i64 1]) (ok := fun _ => True) (okp := fun _ => True) ?hr ?hp (fun _ hk => hk) trivial (Below.refl _ _) (Nat.le_refl _) (by simp) ?_; (case hd => rfl); (case hg => rfl); (case hr => first | (go_simp; done) | (go_simp; rfl)); (case hp => exact (Reps.c5 (show Kd.M k37 _ _ _ (⟨1, 0, 10, 0, 1⟩ : S37) [.int .i64 1, .int .i64 0, .int .i64 10, .int .i64 0, .int .i64 1] from (k37_mkM _ _ _ (⟨1, 0, 10, 0, 1⟩ : S37) )) (Reps.c5 (show Kd.M k37 _ _ _ (⟨2, 4, 10, 0, 1⟩ : S37) [.int .i64 2, .int .i64 4, .int .i64 10, .int .i64 0, .int .i64 1] from (k37_mkM _ _ _ (⟨2, 4, 10, 0, 1⟩ : S37) )) (Reps.c5 (show Kd.M k37 _ _ _ (⟨3, 100, 5, 0, 1⟩ : S37) [.int .i64 3, .int .i64 100, .int .i64 5, .int .i64 0, .int .i64 1] from (k37_mkM _ _ _ (⟨3, 100, 5, 0, 1⟩ : S37) )) (Reps.none _ _))))); intro v208 w15 ho16 hb hg_ hnew_; clear hg_ hnew_; (first | rw [← Ny207.out] at ho16 | (simp only [Int.reduceToNat] at ho16; rw [← Ny207.out] at ho16)); have n0_ := Aside0.mk (Kd.R_lower ho16 (below_size (by repeat (first | (with_reducible first | exact HB.out | apply below_alloc | apply pw_below_drewN | apply below_drew1) | exact HB.out)))); have n1_ := Aside0.mk (below_step (by repeat (first | (with_reducible first | exact HB.out | apply below_alloc | apply pw_below_drewN | apply below_drew1) | exact HB.out)) hb); clear HB; have HO209 := n0_; have HB := n1_; clear n0_ n1_; clear hb ho16; obtain ⟨Ao17, co17, eo17⟩ := Kd.R_slice HO209.out; subst eo17) | ((with_reducible refine gate_callee (f := 17) rfl ?_); refine goesL_ (some 16) rfl rfl Try.func17 (by kernel_rfl) rfl #[.slice Ao17 y207.length co17] rfl (by (try simp only [List.map_toArray, List.map_cons, List.map_nil]); first | done | rfl | (simp only [List.length_drop, List.length_take]; rfl)) ?_; (with_reducible refine (choose_Select.calls k _ _ y207 t210 t213 t214 t215 _ ?side1 ?side2 A1.out).mono ?_); (case side1 => repeat (first | exact (Kd.R_reads' HO209.out).2.2 | (with_reducible refine Kd.C_alloc ?_ _) | (with_reducible refine Kd.C_drewN ?_ _) | (with_reducible refine Kd.C_drew ?_))); (case side2 => exact (Kd.R_reads' HO209.out).2.1); rintro e w18 ⟨v211, rfl, ho0, hb⟩; refine ⟨_, rfl, ?_⟩; have n0_ := Aside0.mk (Kd.R_below (by (with_reducible repeat (first | apply Kd.R_alloc | apply Kd.R_drewN | apply Kd.R_drew)); exact HO209.out) hb); have n1_ := Aside0.mk (Kd.R_lower ho0 (below_size (by repeat (first | (with_reducible first | exact HB.out | apply below_alloc | apply pw_below_drewN | apply below_drew1) | exact HB.out)))); have n2_ := Aside0.mk (below_step (by repeat (first | (with_reducible first | exact HB.out | apply below_alloc | apply pw_below_drewN | apply below_drew1) | exact HB.out)) hb); clear HO209; clear HB; have HO209 := n0_; have HO212 := n1_; have HB := n2_; clear n0_ n1_ n2_; (try clear hb); (try clear hb2); (try clear hk); (try clear hi); (try clear ho0)) | ((with_reducible refine gate_dst (N := 3) rfl ?_); (try (refine gate_guard (by rfl) ?_; dsimp only)); refine box_event ?hg (N := 3) ?hd (cs := #[.int .i64 0, .int .i64 0]) (t := 29) ?hr ?_; (case hd => rfl); (case hg => rfl); (case hr => first | (go_simp; done) | (go_simp; rfl)); intro gb216 hg w19 hbox hb; have n0_ := Aside0.mk (Kd.R_below (by (with_reducible repeat (first | apply Kd.R_alloc | apply Kd.R_drewN | apply Kd.R_drew)); exact HO209.out) hb); have n1_ := Aside0.mk (Kd.R_below (by (with_reducible repeat (first | apply Kd.R_alloc | apply Kd.R_drewN | apply Kd.R_drew)); exact HO212.out) hb); have n2_ := Aside0.mk (below_step (by repeat (first | (with_reducible first | exact HB.out | apply below_alloc | apply pw_below_drewN | apply below_drew1) | exact HB.out)) hb); have n3_ := Aside0.mk (hbox); have n4_ := Aside0.mk ((by rw [hg]; exact (below_size (by repeat (first | (with_reducible first | exact HB.out | apply below_alloc | apply pw_below_drewN | apply below_drew1) | exact HB.out))) : w.heap.size ≤ gb216)); have n5_ := Aside0.mk ((by rw [hg]; exact (below_size (by repeat (first | (with_reducible first | exact HB.out | apply below_alloc | apply pw_below_drewN | apply below_drew1) | exact HB.out))) : w.heap.size ≤ gb216)); clear HO209; clear HO212; clear HB; have HO209 := n0_; have HO212 := n1_; have HB := n2_; have BK216 := n3_; have GW216 := n4_; have GE216 := n5_; clear n0_ n1_ n2_ n3_ n4_ n5_; clear hb hbox hg; have hcz20_0 : w19.cell? ⟨gb216, 0, none⟩ = some (.int .i64 0) := (blk_cell BK216.out 0).trans rfl; have hcz20_1 : w19.cell? ⟨gb216, 1, none⟩ = some (.int .i64 0) := (blk_cell BK216.out 1).trans rfl; have hfz20_0 := blk_frozen BK216.out 0; have hfz20_1 := blk_frozen BK216.out 1) | ((with_reducible refine gate_callee (f := 19) rfl ?_); refine goesL_ (some 22) rfl rfl Try.func19 (by kernel_rfl) rfl #[.slice Ao17 y207.length co17] rfl (by (try simp only [List.map_toArray, List.map_cons, List.map_nil]); first | done | rfl | (simp only [List.length_drop, List.length_take]; rfl)) ?_; (with_reducible refine (choose_Falsetickers.calls k _ _ y207 t217 t218 _ ?side1 ?side2 A2.out).mono ?_); (case side1 => refine (Kd.R_reads' (e := 37) (base := w.heap.size) (ok := fun k_ => True) (n := y207.length) (c := co17) ?_).2.2; exact (by (with_reducible repeat (first | apply Kd.R_alloc | apply Kd.R_drewN | apply Kd.R_drew)); exact (Kd.R_mono (Kd.R_far (p := ⟨gb216, 1, none⟩) (Kd.R_far (p := ⟨gb216, 0, none⟩) (Kd.R_types HO209.out BK216.out (by decide)) (fun _ hk => hk.2) (.int .i64 t213)) (fun _ hk => hk.2) (.int .i64 t214)) (fun _ h_ => h_.1)))); (case side2 => exact (Kd.R_reads' HO209.out).2.1); rintro e w21 ⟨v219, rfl, ho0, hb⟩; refine ⟨_, rfl, ?_⟩; have n0_ := Aside0.mk (Kd.R_below (by (with_reducible repeat (first | apply Kd.R_alloc | apply Kd.R_drewN | apply Kd.R_drew)); exact (Kd.R_mono (Kd.R_far (p := ⟨gb216, 1, none⟩) (Kd.R_far (p := ⟨gb216, 0, none⟩) (Kd.R_types HO209.out BK216.out (by decide)) (fun _ hk => hk.2) (.int .i64 t213)) (fun _ hk => hk.2) (.int .i64 t214)) (fun _ h_ => h_.1))) hb); have n1_ := Aside0.mk (Kd.R_elder' (by (with_reducible repeat (first | apply Kd.R_alloc | apply Kd.R_drewN | apply Kd.R_drew)); exact (Kd.R_mono (Kd.R_far (p := ⟨gb216, 1, none⟩) (Kd.R_far (p := ⟨gb216, 0, none⟩) (Kd.R_types HO212.out BK216.out (by decide)) (fun _ hk => hk.2) (.int .i64 t213)) (fun _ hk => hk.2) (.int .i64 t214)) (fun _ h_ => h_.1))) (Kd.R_base ho0) hb); have n2_ := Aside0.mk (Kd.R_lower (Kd.R_new' ho0 (Kd.R_lt (by (with_reducible repeat (first | apply Kd.R_alloc | apply Kd.R_drewN | apply Kd.R_drew)); exact (Kd.R_mono (Kd.R_far (p := ⟨gb216, 1, none⟩) (Kd.R_far (p := ⟨gb216, 0, none⟩) (Kd.R_types HO212.out BK216.out (by decide)) (fun _ hk => hk.2) (.int .i64 t213)) (fun _ hk => hk.2) (.int .i64 t214)) (fun _ h_ => h_.1))))) (below_size (by repeat (first | (with_reducible first | exact HB.out | apply below_alloc | apply pw_below_drewN | apply below_drew1 | refine below_set ?_ GE216.out) | exact HB.out)))); have n3_ := Aside0.mk (blk_below (g := gb216) (o := .cells #[.int .i64 t213, .int .i64 t214] 29 (0, 0)) (by (with_reducible repeat (first | refine blk_drewN ?_ _ | refine blk_drew ?_ | refine blk_alloc ?_ _)); refine blk_put (cs := #[.int .i64 t213, .int .i64 0]) ?_ 1 _ rfl; (with_reducible repeat (first | refine blk_drewN ?_ _ | refine blk_drew ?_ | refine blk_alloc ?_ _)); refine blk_put (cs := #[.int .i64 0, .int .i64 0]) ?_ 0 _ rfl; (with_reducible repeat (first | refine blk_drewN ?_ _ | refine blk_drew ?_ | refine blk_alloc ?_ _)); exact BK216.out) hb); have n4_ := Aside0.mk (below_step (by repeat (first | (with_reducible first | exact HB.out | apply below_alloc | apply pw_below_drewN | apply below_drew1 | refine below_set ?_ GE216.out) | exact HB.out)) hb); clear HO209; clear HO212; clear BK216; clear HB; have HO209 := n0_; have HO212 := n1_; have HO220 := n2_; have BK216 := n3_; have HB := n4_; clear n0_ n1_ n2_ n3_ n4_; (try clear hb); (try clear hb2); (try clear hk); (try clear hi); (try clear ho0)) | ((with_reducible refine gate_dst (N := 28) rfl ?_); (try (refine gate_guard (by rfl) ?_; dsimp only)); refine Kd.R_lit k37 _ 37 ?hg (N := 28) ?hd (xs := ([(⟨1, 0, 5, 0, 1⟩ : S37), (⟨2, 10, 5, 0, 1⟩ : S37)] : List (S37))) (inner := [.int .i64 1, .int .i64 0, .int .i64 5, .int .i64 0, .int .i64 1, .int .i64 2, .int .i64 10, .int .i64 5, .int .i64 0, .int .i64 1]) (ok := fun _ => True) (okp := fun _ => True) ?hr ?hp (fun _ hk => hk) trivial (Below.refl _ _) (Nat.le_refl _) (by simp) ?_; (case hd => rfl); (case hg => rfl); (case hr => first | (go_simp; done) | (go_simp; rfl)); (case hp => exact (Reps.c5 (show Kd.M k37 _ _ _ (⟨1, 0, 5, 0, 1⟩ : S37) [.int .i64 1, .int .i64 0, .int .i64 5, .int .i64 0, .int .i64 1] from (k37_mkM _ _ _ (⟨1, 0, 5, 0, 1⟩ : S37) )) (Reps.c5 (show Kd.M k37 _ _ _ (⟨2, 10, 5, 0, 1⟩ : S37) [.int .i64 2, .int .i64 10, .int .i64 5, .int .i64 0, .int .i64 1] from (k37_mkM _ _ _ (⟨2, 10, 5, 0, 1⟩ : S37) )) (Reps.none _ _)))); intro v222 w22 ho23 hb hg_ hnew_; clear hg_ hnew_; (first | rw [← Ny221.out] at ho23 | (simp only [Int.reduceToNat] at ho23; rw [← Ny221.out] at ho23)); have n0_ := Aside0.mk (Kd.R_elder' (by (with_reducible repeat (first | apply Kd.R_alloc | apply Kd.R_drewN | apply Kd.R_drew)); exact HO209.out) (Kd.R_base ho23) hb); have n1_ := Aside0.mk (Kd.R_below (by (with_reducible repeat (first | apply Kd.R_alloc | apply Kd.R_drewN | apply Kd.R_drew)); exact HO212.out) hb); have n2_ := Aside0.mk (Kd.R_below (by (with_reducible repeat (first | apply Kd.R_alloc | apply Kd.R_drewN | apply Kd.R_drew)); exact HO220.out) hb); have n3_ := Aside0.mk (Kd.R_lower (Kd.R_new' ho23 (Kd.R_lt (by (with_reducible repeat (first | apply Kd.R_alloc | apply Kd.R_drewN | apply Kd.R_drew)); exact HO209.out))) (below_size (by repeat (first | (with_reducible first | exact HB.out | apply below_alloc | apply pw_below_drewN | apply below_drew1 | refine below_set ?_ GE216.out) | exact HB.out)))); have n4_ := Aside0.mk (blk_below (g := gb216) (o := .cells #[.int .i64 t213, .int .i64 t214] 29 (0, 0)) (by (with_reducible repeat (first | refine blk_drewN ?_ _ | refine blk_drew ?_ | refine blk_alloc ?_ _)); exact BK216.out) hb); have n5_ := Aside0.mk (below_step (by repeat (first | (with_reducible first | exact HB.out | apply below_alloc | apply pw_below_drewN | apply below_drew1 | refine below_set ?_ GE216.out) | exact HB.out)) hb); clear HO209; clear HO212; clear HO220; clear BK216; clear HB; have HO209 := n0_; have HO212 := n1_; have HO220 := n2_; have HO223 := n3_; have BK216 := n4_; have HB := n5_; clear n0_ n1_ n2_ n3_ n4_ n5_; clear hb ho23; obtain ⟨Ao24, co24, eo24⟩ := Kd.R_slice HO223.out; subst eo24) | ((with_reducible refine gate_callee (f := 17) rfl ?_); refine goesL_ (some 29) rfl rfl Try.func17 (by kernel_rfl) rfl #[.slice Ao24 y221.length co24] rfl (by (try simp only [List.map_toArray, List.map_cons, List.map_nil]); first | done | rfl | (simp only [List.length_drop, List.length_take]; rfl)) ?_; (with_reducible refine (choose_Select.calls k _ _ y221 t224 t227 t228 t229 _ ?side1 ?side2 A3.out).mono ?_); (case side1 => repeat (first | exact (Kd.R_reads' HO223.out).2.2 | (with_reducible refine Kd.C_alloc ?_ _) | (with_reducible refine Kd.C_drewN ?_ _) | (with_reducible refine Kd.C_drew ?_))); (case side2 => exact (Kd.R_reads' HO223.out).2.1); rintro e w25 ⟨v225, rfl, ho0, hb⟩; refine ⟨_, rfl, ?_⟩; have n0_ := Aside0.mk (Kd.R_below (by (with_reducible repeat (first | apply Kd.R_alloc | apply Kd.R_drewN | apply Kd.R_drew)); exact HO209.out) hb); have n1_ := Aside0.mk (Kd.R_elder' (by (with_reducible repeat (first | apply Kd.R_alloc | apply Kd.R_drewN | apply Kd.R_drew)); exact HO212.out) (Kd.R_base ho0) hb); have n2_ := Aside0.mk (Kd.R_elder' (by (with_reducible repeat (first | apply Kd.R_alloc | apply Kd.R_drewN | apply Kd.R_drew)); exact HO220.out) (Kd.R_base ho0) hb); have n3_ := Aside0.mk (Kd.R_below (by (with_reducible repeat (first | apply Kd.R_alloc | apply Kd.R_drewN | apply Kd.R_drew)); exact HO223.out) hb); have n4_ := Aside0.mk (Kd.R_lower (Kd.R_new' (Kd.R_new' ho0 (Kd.R_lt (by (with_reducible repeat (first | apply Kd.R_alloc | apply Kd.R_drewN | apply Kd.R_drew)); exact HO212.out))) (Kd.R_lt (by (with_reducible repeat (first | apply Kd.R_alloc | apply Kd.R_drewN | apply Kd.R_drew)); exact HO220.out))) (below_size (by repeat (first | (with_reducible first | exact HB.out | apply below_alloc | apply pw_below_drewN | apply below_drew1 | refine below_set ?_ GE216.out) | exact HB.out)))); have n5_ := Aside0.mk (blk_below (g := gb216) (o := .cells #[.int .i64 t213, .int .i64 t214] 29 (0, 0)) (by (with_reducible repeat (first | refine blk_drewN ?_ _ | refine blk_drew ?_ | refine blk_alloc ?_ _)); exact BK216.out) hb); have n6_ := Aside0.mk (below_step (by repeat (first | (with_reducible first | exact HB.out | apply below_alloc | apply pw_below_drewN | apply below_drew1 | refine below_set ?_ GE216.out) | exact HB.out)) hb); clear HO209; clear HO212; clear HO220; clear HO223; clear BK216; clear HB; have HO209 := n0_; have HO212 := n1_; have HO220 := n2_; have HO223 := n3_; have HO226 := n4_; have BK216 := n5_; have HB := n6_; clear n0_ n1_ n2_ n3_ n4_ n5_ n6_; (try clear hb); (try clear hb2); (try clear hk); (try clear hi); (try clear ho0)) | ((with_reducible refine gate_dst (N := 8) rfl ?_); (try (refine gate_guard (by rfl) ?_; dsimp only)); refine box_event ?hg (N := 8) ?hd (cs := #[.int .i64 0, .int .i64 0]) (t := 29) ?hr ?_; (case hd => rfl); (case hg => rfl); (case hr => first | (go_simp; done) | (go_simp; rfl)); intro gb230 hg w26 hbox hb; have n0_ := Aside0.mk (Kd.R_below (by (with_reducible repeat (first | apply Kd.R_alloc | apply Kd.R_drewN | apply Kd.R_drew)); exact HO209.out) hb); have n1_ := Aside0.mk (Kd.R_below (by (with_reducible repeat (first | apply Kd.R_alloc | apply Kd.R_drewN | apply Kd.R_drew)); exact HO212.out) hb); have n2_ := Aside0.mk (Kd.R_below (by (with_reducible repeat (first | apply Kd.R_alloc | apply Kd.R_drewN | apply Kd.R_drew)); exact HO220.out) hb); have n3_ := Aside0.mk (Kd.R_below (by (with_reducible repeat (first | apply Kd.R_alloc | apply Kd.R_drewN | apply Kd.R_drew)); exact HO223.out) hb); have n4_ := Aside0.mk (Kd.R_below (by (with_reducible repeat (first | apply Kd.R_alloc | apply Kd.R_drewN | apply Kd.R_drew)); exact HO226.out) hb); have n5_ := Aside0.mk (blk_below (g := gb216) (o := .cells #[.int .i64 t213, .int .i64 t214] 29 (0, 0)) (by (with_reducible repeat (first | refine blk_drewN ?_ _ | refine blk_drew ?_ | refine blk_alloc ?_ _)); exact BK216.out) hb); have n6_ := Aside0.mk (below_step (by repeat (first | (with_reducible first | exact HB.out | apply below_alloc | apply pw_below_drewN | apply below_drew1 | refine below_set ?_ GE216.out) | exact HB.out)) hb); have n7_ := Aside0.mk (hbox); have n8_ := Aside0.mk ((by rw [hg]; exact (below_size (by repeat (first | (with_reducible first | exact HB.out | apply below_alloc | apply pw_below_drewN | apply below_drew1 | refine below_set ?_ GE216.out) | exact HB.out))) : w.heap.size ≤ gb230)); have n9_ := Aside0.mk ((by rw [hg]; exact (below_size (by repeat (first | (with_reducible first | exact HB.out | apply below_alloc | apply pw_below_drewN | apply below_drew1 | refine below_set ?_ GE216.out) | exact HB.out))) : w.heap.size ≤ gb230)); have n10_ := Aside0.mk ((by rw [hg]; exact Nat.ne_of_lt (blk_lt (g := gb216) (o := .cells #[.int .i64 t213, .int .i64 t214] 29 (0, 0)) (by (with_reducible repeat (first | refine blk_drewN ?_ _ | refine blk_drew ?_ | refine blk_alloc ?_ _)); exact BK216.out)) : gb216 ≠ gb230)); have n11_ := Aside0.mk ((by rw [hg]; exact Nat.ne_of_gt (blk_lt (g := gb216) (o := .cells #[.int .i64 t213, .int .i64 t214] 29 (0, 0)) (by (with_reducible repeat (first | refine blk_drewN ?_ _ | refine blk_drew ?_ | refine blk_alloc ?_ _)); exact BK216.out)) : gb230 ≠ gb216)); clear HO209; clear HO212; clear HO220; clear HO223; clear HO226; clear BK216; clear HB; have HO209 := n0_; have HO212 := n1_; have HO220 := n2_; have HO223 := n3_; have HO226 := n4_; have BK216 := n5_; have HB := n6_; have BK230 := n7_; have GW230 := n8_; have GE230 := n9_; have NB216_230 := n10_; have NB230_216 := n11_; clear n0_ n1_ n2_ n3_ n4_ n5_ n6_ n7_ n8_ n9_ n10_ n11_; clear hb hbox hg; have hnb27 := NB230_216.out; have hnc27 := NB216_230.out; have hcz28_0 : w26.cell? ⟨gb230, 0, none⟩ = some (.int .i64 0) := (blk_cell BK230.out 0).trans rfl; have hcz28_1 : w26.cell? ⟨gb230, 1, none⟩ = some (.int .i64 0) := (blk_cell BK230.out 1).trans rfl; have hfz28_0 := blk_frozen BK230.out 0; have hfz28_1 := blk_frozen BK230.out 1) | ((with_reducible refine gate_dst (N := 34) rfl ?_); (try (refine gate_guard (by rfl) ?_; dsimp only)); refine Kd.R_lit (Kd.int .i64) _ 3 ?hg (N := 34) ?hd (xs := ([0, 1] : List Int)) (inner := [.int .i64 0, .int .i64 1]) (ok := fun _ => True) (okp := fun _ => True) ?hr ?hp (fun _ hk => hk) trivial (Below.refl _ _) (Nat.le_refl _) (by simp) ?_; (case hd => rfl); (case hg => rfl); (case hr => first | (go_simp; done) | (go_simp; rfl)); (case hp => exact (Reps.one (show Kd.M (Kd.int .i64) _ _ _ 0 [.int .i64 0] from rfl) (Reps.one (show Kd.M (Kd.int .i64) _ _ _ 1 [.int .i64 1] from rfl) (Reps.none _ _)))); intro v232 w29 ho30 hb hg_ hnew_; clear hg_ hnew_; (first | rw [← Ny231.out] at ho30 | (simp only [Int.reduceToNat] at ho30; rw [← Ny231.out] at ho30)); have n0_ := Aside0.mk (Kd.R_below (by (with_reducible repeat (first | apply Kd.R_alloc | apply Kd.R_drewN | apply Kd.R_drew)); exact (Kd.R_mono (Kd.R_far (p := ⟨gb230, 1, none⟩) (Kd.R_far (p := ⟨gb230, 0, none⟩) (Kd.R_types HO209.out BK230.out (by decide)) (fun _ hk => hk.2) (.int .i64 t227)) (fun _ hk => hk.2) (.int .i64 t228)) (fun _ h_ => h_.1))) hb); have n1_ := Aside0.mk (Kd.R_elder' (by (with_reducible repeat (first | apply Kd.R_alloc | apply Kd.R_drewN | apply Kd.R_drew)); exact (Kd.R_mono (Kd.R_far (p := ⟨gb230, 1, none⟩) (Kd.R_far (p := ⟨gb230, 0, none⟩) (Kd.R_types HO212.out BK230.out (by decide)) (fun _ hk => hk.2) (.int .i64 t227)) (fun _ hk => hk.2) (.int .i64 t228)) (fun _ h_ => h_.1))) (Kd.R_base ho30) hb); have n2_ := Aside0.mk (Kd.R_elder' (by (with_reducible repeat (first | apply Kd.R_alloc | apply Kd.R_drewN | apply Kd.R_drew)); exact (Kd.R_mono (Kd.R_far (p := ⟨gb230, 1, none⟩) (Kd.R_far (p := ⟨gb230, 0, none⟩) (Kd.R_types HO220.out BK230.out (by decide)) (fun _ hk => hk.2) (.int .i64 t227)) (fun _ hk => hk.2) (.int .i64 t228)) (fun _ h_ => h_.1))) (Kd.R_base ho30) hb); have n3_ := Aside0.mk (Kd.R_below (by (with_reducible repeat (first | apply Kd.R_alloc | apply Kd.R_drewN | apply Kd.R_drew)); exact (Kd.R_mono (Kd.R_far (p := ⟨gb230, 1, none⟩) (Kd.R_far (p := ⟨gb230, 0, none⟩) (Kd.R_types HO223.out BK230.out (by decide)) (fun _ hk => hk.2) (.int .i64 t227)) (fun _ hk => hk.2) (.int .i64 t228)) (fun _ h_ => h_.1))) hb); have n4_ := Aside0.mk (Kd.R_elder' (by (with_reducible repeat (first | apply Kd.R_alloc | apply Kd.R_drewN | apply Kd.R_drew)); exact (Kd.R_mono (Kd.R_far (p := ⟨gb230, 1, none⟩) (Kd.R_far (p := ⟨gb230, 0, none⟩) (Kd.R_types HO226.out BK230.out (by decide)) (fun _ hk => hk.2) (.int .i64 t227)) (fun _ hk => hk.2) (.int .i64 t228)) (fun _ h_ => h_.1))) (Kd.R_base ho30) hb); have n5_ := Aside0.mk (Kd.R_lower (Kd.R_new' (Kd.R_new' (Kd.R_new' ho30 (Kd.R_lt (by (with_reducible repeat (first | apply Kd.R_alloc | apply Kd.R_drewN | apply Kd.R_drew)); exact (Kd.R_mono (Kd.R_far (p := ⟨gb230, 1, none⟩) (Kd.R_far (p := ⟨gb230, 0, none⟩) (Kd.R_types HO212.out BK230.out (by decide)) (fun _ hk => hk.2) (.int .i64 t227)) (fun _ hk => hk.2) (.int .i64 t228)) (fun _ h_ => h_.1))))) (Kd.R_lt (by (with_reducible repeat (first | apply Kd.R_alloc | apply Kd.R_drewN | apply Kd.R_drew)); exact (Kd.R_mono (Kd.R_far (p := ⟨gb230, 1, none⟩) (Kd.R_far (p := ⟨gb230, 0, none⟩) (Kd.R_types HO220.out BK230.out (by decide)) (fun _ hk => hk.2) (.int .i64 t227)) (fun _ hk => hk.2) (.int .i64 t228)) (fun _ h_ => h_.1))))) (Kd.R_lt (by (with_reducible repeat (first | apply Kd.R_alloc | apply Kd.R_drewN | apply Kd.R_drew)); exact (Kd.R_mono (Kd.R_far (p := ⟨gb230, 1, none⟩) (Kd.R_far (p := ⟨gb230, 0, none⟩) (Kd.R_types HO226.out BK230.out (by decide)) (fun _ hk => hk.2) (.int .i64 t227)) (fun _ hk => hk.2) (.int .i64 t228)) (fun _ h_ => h_.1))))) (below_size (by repeat (first | (with_reducible first | exact HB.out | apply below_alloc | apply pw_below_drewN | apply below_drew1 | refine below_set ?_ GE216.out | refine below_set ?_ GE230.out) | exact HB.out)))); have n6_ := Aside0.mk (blk_below (g := gb216) (o := .cells #[.int .i64 t213, .int .i64 t214] 29 (0, 0)) (by (with_reducible repeat (first | refine blk_drewN ?_ _ | refine blk_drew ?_ | refine blk_alloc ?_ _)); refine blk_far ?_ NB216_230.out _; (with_reducible repeat (first | refine blk_drewN ?_ _ | refine blk_drew ?_ | refine blk_alloc ?_ _)); refine blk_far ?_ NB216_230.out _; (with_reducible repeat (first | refine blk_drewN ?_ _ | refine blk_drew ?_ | refine blk_alloc ?_ _)); exact BK216.out) hb); have n7_ := Aside0.mk (blk_below (g := gb230) (o := .cells #[.int .i64 t227, .int .i64 t228] 29 (0, 0)) (by (with_reducible repeat (first | refine blk_drewN ?_ _ | refine blk_drew ?_ | refine blk_alloc ?_ _)); refine blk_put (cs := #[.int .i64 t227, .int .i64 0]) ?_ 1 _ rfl; (with_reducible repeat (first | refine blk_drewN ?_ _ | refine blk_drew ?_ | refine blk_alloc ?_ _)); refine blk_put (cs := #[.int .i64 0, .int .i64 0]) ?_ 0 _ rfl; (with_reducible repeat (first | refine blk_drewN ?_ _ | refine blk_drew ?_ | refine blk_alloc ?_ _)); exact BK230.out) hb); have n8_ := Aside0.mk (below_step (by repeat (first | (with_reducible first | exact HB.out | apply below_alloc | apply pw_below_drewN | apply below_drew1 | refine below_set ?_ GE216.out | refine below_set ?_ GE230.out) | exact HB.out)) hb); clear HO209; clear HO212; clear HO220; clear HO223; clear HO226; clear BK216; clear BK230; clear HB; have HO209 := n0_; have HO212 := n1_; have HO220 := n2_; have HO223 := n3_; have HO226 := n4_; have HO233 := n5_; have BK216 := n6_; have BK230 := n7_; have HB := n8_; clear n0_ n1_ n2_ n3_ n4_ n5_ n6_ n7_ n8_; clear hb ho30; obtain ⟨Ao31, co31, eo31⟩ := Kd.R_slice HO212.out; subst eo31; obtain ⟨Ao32, co32, eo32⟩ := Kd.R_slice HO233.out; subst eo32) | ((with_reducible refine gate_callee (f := 21) rfl ?_); refine goesL_ (some 35) rfl rfl Try.func21 (by kernel_rfl) rfl #[.slice Ao31 t210.length co31, .slice Ao32 y231.length co32] rfl (by (try simp only [List.map_toArray, List.map_cons, List.map_nil]); first | done | rfl | (simp only [List.length_drop, List.length_take]; rfl)) ?_; (with_reducible refine (slices_Equal_int_int.calls k _ _ t210 _ _ y231 true _ ?side1 ?side2 ?side3 ?side4 A4.out).mono ?_); (case side1 => repeat (first | exact (Kd.R_reads' HO212.out).2.2 | (with_reducible refine Kd.C_alloc ?_ _) | (with_reducible refine Kd.C_drewN ?_ _) | (with_reducible refine Kd.C_drew ?_))); (case side2 => exact (Kd.R_reads' HO212.out).2.1); (case side3 => repeat (first | exact (Kd.R_reads' HO233.out).2.2 | (with_reducible refine Kd.C_alloc ?_ _) | (with_reducible refine Kd.C_drewN ?_ _) | (with_reducible refine Kd.C_drew ?_))); (case side4 => exact (Kd.R_reads' HO233.out).2.1); rintro e w' ⟨rfl, ⟨nd, rfl⟩⟩; refine ⟨_, rfl, ?_⟩; have hcz33_0 : w29.cell? ⟨gb216, 0, none⟩ = some (.int .i64 t213) := (blk_cell BK216.out 0).trans rfl; have hcz33_1 : w29.cell? ⟨gb216, 1, none⟩ = some (.int .i64 t214) := (blk_cell BK216.out 1).trans rfl; have hfz33_0 := blk_frozen BK216.out 0; have hfz33_1 := blk_frozen BK216.out 1) | ((with_reducible refine gate_dst (N := 47) rfl ?_); (try (refine gate_guard (by rfl) ?_; dsimp only)); refine Kd.R_lit (Kd.int .i64) _ 3 ?hg (N := 47) ?hd (xs := ([2] : List Int)) (inner := [.int .i64 2]) (ok := fun _ => True) (okp := fun _ => True) ?hr ?hp (fun _ hk => hk) trivial (Below.refl _ _) (Nat.le_refl _) (by simp) ?_; (case hd => rfl); (case hg => rfl); (case hr => first | (go_simp; done) | (go_simp; rfl)); (case hp => exact (Reps.one (show Kd.M (Kd.int .i64) _ _ _ 2 [.int .i64 2] from rfl) (Reps.none _ _))); intro v236 w34 ho35 hb hg_ hnew_; clear hg_ hnew_; (first | rw [← Ny235.out] at ho35 | (simp only [Int.reduceToNat] at ho35; rw [← Ny235.out] at ho35)); have n0_ := Aside0.mk (Kd.R_below (by (with_reducible repeat (first | apply Kd.R_alloc | apply Kd.R_drewN | apply Kd.R_drew)); exact HO209.out) hb); have n1_ := Aside0.mk (Kd.R_elder' (by (with_reducible repeat (first | apply Kd.R_alloc | apply Kd.R_drewN | apply Kd.R_drew)); exact HO212.out) (Kd.R_base ho35) hb); have n2_ := Aside0.mk (Kd.R_elder' (by (with_reducible repeat (first | apply Kd.R_alloc | apply Kd.R_drewN | apply Kd.R_drew)); exact HO220.out) (Kd.R_base ho35) hb); have n3_ := Aside0.mk (Kd.R_below (by (with_reducible repeat (first | apply Kd.R_alloc | apply Kd.R_drewN | apply Kd.R_drew)); exact HO223.out) hb); have n4_ := Aside0.mk (Kd.R_elder' (by (with_reducible repeat (first | apply Kd.R_alloc | apply Kd.R_drewN | apply Kd.R_drew)); exact HO226.out) (Kd.R_base ho35) hb); have n5_ := Aside0.mk (Kd.R_elder' (by (with_reducible repeat (first | apply Kd.R_alloc | apply Kd.R_drewN | apply Kd.R_drew)); exact HO233.out) (Kd.R_base ho35) hb); have n6_ := Aside0.mk (Kd.R_lower (Kd.R_new' (Kd.R_new' (Kd.R_new' (Kd.R_new' ho35 (Kd.R_lt (by (with_reducible repeat (first | apply Kd.R_alloc | apply Kd.R_drewN | apply Kd.R_drew)); exact HO212.out))) (Kd.R_lt (by (with_reducible repeat (first | apply Kd.R_alloc | apply Kd.R_drewN | apply Kd.R_drew)); exact HO220.out))) (Kd.R_lt (by (with_reducible repeat (first | apply Kd.R_alloc | apply Kd.R_drewN | apply Kd.R_drew)); exact HO226.out))) (Kd.R_lt (by (with_reducible repeat (first | apply Kd.R_alloc | apply Kd.R_drewN | apply Kd.R_drew)); exact HO233.out))) (below_size (by repeat (first | (with_reducible first | exact HB.out | apply below_alloc | apply pw_below_drewN | apply below_drew1 | refine below_set ?_ GE216.out | refine below_set ?_ GE230.out) | exact HB.out)))); have n7_ := Aside0.mk (blk_below (g := gb216) (o := .cells #[.int .i64 t213, .int .i64 t214] 29 (0, 0)) (by (with_reducible repeat (first | refine blk_drewN ?_ _ | refine blk_drew ?_ | refine blk_alloc ?_ _)); exact BK216.out) hb); have n8_ := Aside0.mk (blk_below (g := gb230) (o := .cells #[.int .i64 t227, .int .i64 t228] 29 (0, 0)) (by (with_reducible repeat (first | refine blk_drewN ?_ _ | refine blk_drew ?_ | refine blk_alloc ?_ _)); exact BK230.out) hb); have n9_ := Aside0.mk (below_step (by repeat (first | (with_reducible first | exact HB.out | apply below_alloc | apply pw_below_drewN | apply below_drew1 | refine below_set ?_ GE216.out | refine below_set ?_ GE230.out) | exact HB.out)) hb); clear HO209; clear HO212; clear HO220; clear HO223; clear HO226; clear HO233; clear BK216; clear BK230; clear HB; have HO209 := n0_; have HO212 := n1_; have HO220 := n2_; have HO223 := n3_; have HO226 := n4_; have HO233 := n5_; have HO237 := n6_; have BK216 := n7_; have BK230 := n8_; have HB := n9_; clear n0_ n1_ n2_ n3_ n4_ n5_ n6_ n7_ n8_ n9_; clear hb ho35; obtain ⟨Ao36, co36, eo36⟩ := Kd.R_slice HO220.out; subst eo36; obtain ⟨Ao37, co37, eo37⟩ := Kd.R_slice HO237.out; subst eo37) | (go_at_call 21; (with_reducible refine (slices_Equal_int_int.calls k _ _ t217 _ _ y235 true _ ?side1 ?side2 ?side3 ?side4 A8.out).mono ?_); (case side1 => repeat (first | exact (Kd.R_reads' HO220.out).2.2 | (with_reducible refine Kd.C_alloc ?_ _) | (with_reducible refine Kd.C_drewN ?_ _) | (with_reducible refine Kd.C_drew ?_))); (case side2 => exact (Kd.R_reads' HO220.out).2.1); (case side3 => repeat (first | exact (Kd.R_reads' HO237.out).2.2 | (with_reducible refine Kd.C_alloc ?_ _) | (with_reducible refine Kd.C_drewN ?_ _) | (with_reducible refine Kd.C_drew ?_))); (case side4 => exact (Kd.R_reads' HO237.out).2.1); rintro e w' ⟨rfl, ⟨nd, rfl⟩⟩) | (go_at_call 22; (with_reducible refine (choose_Majority.calls k _ _ y207 12 14 t239 _ ?side1 ?side2 A12.out).mono ?_); (case side1 => repeat (first | exact (Kd.R_reads' HO209.out).2.2 | (with_reducible refine Kd.C_alloc ?_ _) | (with_reducible refine Kd.C_drewN ?_ _) | (with_reducible refine Kd.C_drew ?_))); (case side2 => exact (Kd.R_reads' HO209.out).2.1); rintro e w38 ⟨rfl, hb⟩; have n0_ := Aside0.mk (Kd.R_below (by (with_reducible repeat (first | apply Kd.R_alloc | apply Kd.R_drewN | apply Kd.R_drew)); exact HO209.out) hb); have n1_ := Aside0.mk (Kd.R_below (by (with_reducible repeat (first | apply Kd.R_alloc | apply Kd.R_drewN | apply Kd.R_drew)); exact HO212.out) hb); have n2_ := Aside0.mk (Kd.R_below (by (with_reducible repeat (first | apply Kd.R_alloc | apply Kd.R_drewN | apply Kd.R_drew)); exact HO220.out) hb); have n3_ := Aside0.mk (Kd.R_below (by (with_reducible repeat (first | apply Kd.R_alloc | apply Kd.R_drewN | apply Kd.R_drew)); exact HO223.out) hb); have n4_ := Aside0.mk (Kd.R_below (by (with_reducible repeat (first | apply Kd.R_alloc | apply Kd.R_drewN | apply Kd.R_drew)); exact HO226.out) hb); have n5_ := Aside0.mk (Kd.R_below (by (with_reducible repeat (first | apply Kd.R_alloc | apply Kd.R_drewN | apply Kd.R_drew)); exact HO233.out) hb); have n6_ := Aside0.mk (Kd.R_below (by (with_reducible repeat (first | apply Kd.R_alloc | apply Kd.R_drewN | apply Kd.R_drew)); exact HO237.out) hb); have n7_ := Aside0.mk (blk_below (g := gb216) (o := .cells #[.int .i64 t213, .int .i64 t214] 29 (0, 0)) (by (with_reducible repeat (first | refine blk_drewN ?_ _ | refine blk_drew ?_ | refine blk_alloc ?_ _)); exact BK216.out) hb); have n8_ := Aside0.mk (blk_below (g := gb230) (o := .cells #[.int .i64 t227, .int .i64 t228] 29 (0, 0)) (by (with_reducible repeat (first | refine blk_drewN ?_ _ | refine blk_drew ?_ | refine blk_alloc ?_ _)); exact BK230.out) hb); have n9_ := Aside0.mk (below_step (by repeat (first | (with_reducible first | exact HB.out | apply below_alloc | apply pw_below_drewN | apply below_drew1 | refine below_set ?_ GE216.out | refine below_set ?_ GE230.out) | exact HB.out)) hb); clear HO209; clear HO212; clear HO220; clear HO223; clear HO226; clear HO233; clear HO237; clear BK216; clear BK230; clear HB; have HO209 := n0_; have HO212 := n1_; have HO220 := n2_; have HO223 := n3_; have HO226 := n4_; have HO233 := n5_; have HO237 := n6_; have BK216 := n7_; have BK230 := n8_; have HB := n9_; clear n0_ n1_ n2_ n3_ n4_ n5_ n6_ n7_ n8_ n9_; (try clear hb); (try clear hb2); (try clear hk); (try clear hi)) | (go_at_call 22; (with_reducible refine (choose_Majority.calls k _ _ y207 10 14 t240 _ ?side1 ?side2 A14.out).mono ?_); (case side1 => repeat (first | exact (Kd.R_reads' HO209.out).2.2 | (with_reducible refine Kd.C_alloc ?_ _) | (with_reducible refine Kd.C_drewN ?_ _) | (with_reducible refine Kd.C_drew ?_))); (case side2 => exact (Kd.R_reads' HO209.out).2.1); rintro e w39 ⟨rfl, hb⟩; have n0_ := Aside0.mk (Kd.R_below (by (with_reducible repeat (first | apply Kd.R_alloc | apply Kd.R_drewN | apply Kd.R_drew)); exact HO209.out) hb); have n1_ := Aside0.mk (Kd.R_below (by (with_reducible repeat (first | apply Kd.R_alloc | apply Kd.R_drewN | apply Kd.R_drew)); exact HO212.out) hb); have n2_ := Aside0.mk (Kd.R_below (by (with_reducible repeat (first | apply Kd.R_alloc | apply Kd.R_drewN | apply Kd.R_drew)); exact HO220.out) hb); have n3_ := Aside0.mk (Kd.R_below (by (with_reducible repeat (first | apply Kd.R_alloc | apply Kd.R_drewN | apply Kd.R_drew)); exact HO223.out) hb); have n4_ := Aside0.mk (Kd.R_below (by (with_reducible repeat (first | apply Kd.R_alloc | apply Kd.R_drewN | apply Kd.R_drew)); exact HO226.out) hb); have n5_ := Aside0.mk (Kd.R_below (by (with_reducible repeat (first | apply Kd.R_alloc | apply Kd.R_drewN | apply Kd.R_drew)); exact HO233.out) hb); have n6_ := Aside0.mk (Kd.R_below (by (with_reducible repeat (first | apply Kd.R_alloc | apply Kd.R_drewN | apply Kd.R_drew)); exact HO237.out) hb); have n7_ := Aside0.mk (blk_below (g := gb216) (o := .cells #[.int .i64 t213, .int .i64 t214] 29 (0, 0)) (by (with_reducible repeat (first | refine blk_drewN ?_ _ | refine blk_drew ?_ | refine blk_alloc ?_ _)); exact BK216.out) hb); have n8_ := Aside0.mk (blk_below (g := gb230) (o := .cells #[.int .i64 t227, .int .i64 t228] 29 (0, 0)) (by (with_reducible repeat (first | refine blk_drewN ?_ _ | refine blk_drew ?_ | refine blk_alloc ?_ _)); exact BK230.out) hb); have n9_ := Aside0.mk (below_step (by repeat (first | (with_reducible first | exact HB.out | apply below_alloc | apply pw_below_drewN | apply below_drew1 | refine below_set ?_ GE216.out | refine below_set ?_ GE230.out) | exact HB.out)) hb); clear HO209; clear HO212; clear HO220; clear HO223; clear HO226; clear HO233; clear HO237; clear BK216; clear BK230; clear HB; have HO209 := n0_; have HO212 := n1_; have HO220 := n2_; have HO223 := n3_; have HO226 := n4_; have HO233 := n5_; have HO237 := n6_; have BK216 := n7_; have BK230 := n8_; have HB := n9_; clear n0_ n1_ n2_ n3_ n4_ n5_ n6_ n7_ n8_ n9_; (try clear hb); (try clear hb2); (try clear hk); (try clear hi)))
        go_ret
        exact ⟨by first | rfl | (simp [errW_none, errW_some] <;> rfl) | (simp [*, errW_none, errW_some] <;> rfl), by repeat (first | (with_reducible first | exact HB.out | apply below_alloc | apply pw_below_drewN | apply below_drew1 | refine below_set ?_ GE216.out | refine below_set ?_ GE230.out) | exact HB.out)⟩
       ·rw [if_neg c13] at H
        exact absurd H (by simp)
      ·rw [if_neg c11] at H
       exact absurd H (by simp)
     ·rw [if_neg c10] at H
      exact absurd H (by simp)
    ·replace c9 := Bool.eq_false_iff.mpr c9
     subst c9
     have H1 : (none) = some r := by rw [if_neg (show ¬ (false = true) by decide)] at H; exact H
     clear H
     have H := H1
     clear H1
     exact absurd H (by simp)
   ·rw [if_neg c7] at H
    exact absurd H (by simp)
  ·rw [if_neg c6] at H
   exact absurd H (by simp)
 ·replace c5 := Bool.eq_false_iff.mpr c5
  subst c5
  have H1 : (none) = some r := by rw [if_neg (show ¬ (false = true) by decide)] at H; exact H
  clear H
  have H := H1
  clear H1
  exact absurd H (by simp)

end Go.Proofs.Ytlfilhplklifjaa.X

namespace Go.Proofs.Ytlfilhplklifjaa.X
open Go.RowKit Go.Proofs.YtlfilhplklifjaaW.PrintWords Go.Proofs.YtlfilhplklifjaaW.PrintLast Go.Proofs.YtlfilhplklifjaaW.PrintMore
attribute [local go_sem] max2_int min2_int max_two min_two max_three min_three max_four min_four   -- for this text's walks alone
set_option linter.unusedVariables false
set_option linter.unusedSimpArgs false

/-! ### timesynclaw24_around: function 32 -/
def timesynclaw24_around.l0 : Nat → Int → List (S37) → List (S83) → Int → Int → Option ((List (S37)))
 | 0, _, _, _, _, _ => none
 | k + 1, x0, x5, x14, x15, x16 => if x16 < x15 then (if 0 ≤ x16 then (if x16 < (x14.length : Int) then (if (Int.tmod (wrap64 ((wrap64 ((rd_T83 x14 x16).f0)) + (wrap64 ((rd_T83 x14 x16).f1)))) 2) = 0 then (if x5.length < 3518437208883 then (timesynclaw24_around.l0 k x0 (x5 ++ [(⟨x16, wrap64 (x0 + (wrap64 (Int.tdiv (wrap64 ((wrap64 ((rd_T83 x14 x16).f1)) - (wrap64 ((rd_T83 x14 x16).f0)))) 2))), wrap64 (Int.tdiv (wrap64 ((wrap64 ((rd_T83 x14 x16).f0)) + (wrap64 ((rd_T83 x14 x16).f1)))) 2), 0, wrap64 (1 + x16)⟩ : S37)]) x14 x15 (wrap64 (x16 + 1))) else (none)) else (if x5.length < 3518437208883 then (timesynclaw24_around.l0 k x0 (x5 ++ [(⟨x16, wrap64 (x0 + (wrap64 (Int.tdiv (wrap64 ((wrap64 ((wrap64 ((rd_T83 x14 x16).f1)) + 1)) - (wrap64 ((rd_T83 x14 x16).f0)))) 2))), wrap64 (Int.tdiv (wrap64 ((wrap64 ((rd_T83 x14 x16).f0)) + (wrap64 ((wrap64 ((rd_T83 x14 x16).f1)) + 1)))) 2), 0, wrap64 (1 + x16)⟩ : S37)]) x14 x15 (wrap64 (x16 + 1))) else (none))) else (none)) else (none)) else (some x5)
def timesynclaw24_around.f (k : Nat) (a0 : Int) (l1 : List (S83)) : Option ((List (S37))) := if 0 ≤ (mn (l1.length : Int) 12) then (if (mn (l1.length : Int) 12) ≤ (l1.length : Int) then ((some (l1.take ((mn (l1.length : Int) 12) : Int).toNat : List (S83))).bind fun y468 => (timesynclaw24_around.l0 k a0 ([] : List (S37)) y468 (y468.length : Int) 0)) else (none)) else (none)
set_option maxHeartbeats 8000000 in
set_option maxRecDepth 100000 in
theorem timesynclaw24_around.calls (k : Nat) (a0 : Int) (A1 : Option Addr) (c1 : Nat) (l1 : List (S83)) (r : List (S37)) (w : World) (hr1 : Kd.C k83 w A1 l1.length l1) (hc1 : l1.length ≤ c1) (h : timesynclaw24_around.f k a0 l1 = some r) :
  Calls Try.prog 32 #[.int .i64 a0, .slice A1 l1.length c1] w fun e w' => ∃ v0_ : Value, e = .returned (v0_) ∧ Kd.R k37 37 w' w.heap.size (fun _ => True) v0_ r ∧ Below w.heap.size w w' := by
 have hu83 := Try.underlying83
 have hu37 := Try.underlying37
 have HR1 := Aside0.mk hr1
 have HC1 := Aside0.mk hc1
 clear hr1 hc1
 have HB := Aside0.mk (Below.refl w.heap.size w)
 have H : (if 0 ≤ (mn (l1.length : Int) 12) then (if (mn (l1.length : Int) 12) ≤ (l1.length : Int) then ((some (l1.take ((mn (l1.length : Int) 12) : Int).toNat : List (S83))).bind fun y468 => (timesynclaw24_around.l0 k a0 ([] : List (S37)) y468 (y468.length : Int) 0)) else (none)) else (none)) = some r := h
 clear h
 obtain ⟨ji3, hji3⟩ : ∃ j_ : Int, (mn (l1.length : Int) 12) = j_ := ⟨_, rfl⟩
 replace H : (if 0 ≤ (ji3) then (if (ji3) ≤ (l1.length : Int) then ((some (l1.take ((ji3) : Int).toNat : List (S83))).bind fun y468 => (timesynclaw24_around.l0 k a0 ([] : List (S37)) y468 (y468.length : Int) 0)) else (none)) else (none)) = some r := by first | (rw [hji3] at H; exact H) | (simp only [hji3] at H ⊢; exact H)
 (try (have hji3h : ji3 ≤ 12 := by (rw [← hji3]; unfold mn; (repeat' split) <;> omega)))
 (try (have hji3g : ji3 ≤ 64 := by omega))
 (try (have hji3l : 0 ≤ ji3 := by (rw [← hji3]; unfold mn; (repeat' split) <;> omega)))
 (try (have hji3m : 0 ≤ ji3 := by omega))
 have hji3_ : (if 12 < (l1.length : Int) then 12 else (l1.length : Int)) = ji3 := hji3
 by_cases c4 : 0 ≤ (ji3)
 ·rw [if_pos c4] at H
  have c4b0 := eq_true c4
  have c4b1 : decide (0 ≤ (ji3)) = true := decide_eq_true c4
  clear c4
  by_cases c5 : (ji3) ≤ (l1.length : Int)
  ·rw [if_pos c5] at H
   have c5b0 := eq_true c5
   have c5b1 : decide ((ji3) ≤ (l1.length : Int)) = true := decide_eq_true c5
   clear c5
   obtain ⟨y468, hy468⟩ : ∃ y_ : List (S83), y_ = (l1.take ((ji3) : Int).toNat) := ⟨_, rfl⟩
   replace H : (timesynclaw24_around.l0 k a0 ([] : List (S37)) y468 (y468.length : Int) 0) = some r := by first | (rw [hy468]; with_reducible exact H) | (have H2_ := (Option.bind_some _ _).symm.trans H; rw [hy468]; with_reducible exact H2_) | (have H2_ := (Option.bind_some _ _).symm.trans H; with_reducible exact H2_) | with_reducible exact H | (rw [hy468]; exact H) | exact H
   have Ny468 := Aside0.mk hy468
   clear hy468
   have H' := Aside0.mk H
   clear H
   have q6 : ((ji3) : Int) ≤ ((l1.length : Int) : Int) := of_decide_eq_true (by first | (with_reducible assumption) | assumption)
   obtain ⟨i06, hi06, _, hsz6, _⟩ := info_parts info83
   have hroom6 : l1.length ≤ c1 := HC1.out
   have hC6 : Kd.C k83 _ A1 l1.length l1 := HR1.out
   have hcut6 := cut_to (P := Try.prog) 53 83 .i64 Try.underlying53 hi06 A1 l1.length c1 (ji3) (of_decide_eq_true (by first | (with_reducible assumption) | assumption)) q6 hroom6
   have hr6 := Kd.C_take (m := ((ji3) : Int).toNat) hC6 (by omega)
   have hy6 : y468.length = ((ji3) : Int).toNat := (by rw [Ny468.out, List.length_take]; omega)
   rw [← Ny468.out] at hr6
   rw [← hy6] at hcut6
   have HR471 := Aside0.mk hr6
   have HC471 := Aside0.mk (show y468.length ≤ c1 from by omega)
   clear hr6 hC6 hroom6 hi06 hsz6
   have KY6 := Aside0.mk hy6
   clear hy6
   replace q6 := eq_true q6
   go_enter Try.func32, Try.ntmps32
   go_wp2
   repeat (go_quiet (fail); try go_wp2)
   go_loopg [5, 16] k (fun kq v5 v16 w' => ∃ (x5_1 : List (S37)) (x16_1 : Int), v16 = .int .i64 x16_1 ∧ Aside0 (timesynclaw24_around.l0 kq a0 x5_1 y468 (y468.length : Int) x16_1 = some r) ∧ Aside0 (kq ≤ k) ∧ Aside0 (Kd.R k37 37 w' w.heap.size (fun _ => True) v5 x5_1) ∧ Aside0 (Below w.heap.size w w'))
   case atStart => exact ⟨(([] : List (S37))), (0), (by first | rfl | (simp; done) | (simp [*]; done)), H', ⟨Nat.le_refl _⟩, ⟨by first | exact Kd.R_nil _ _ _ _ _ | exact Kd.N_nil _ _ _ _ _ | exact Kd.V_nil _ _ _ _ _ | exact Kd.Q_nil _ _ _ _ _ | exact Kd.S_nil _ _ _ _ _⟩, ⟨by repeat (first | (with_reducible first | exact HB.out | apply below_alloc | apply pw_below_drewN | apply below_drew1) | exact HB.out)⟩⟩
   case round =>
    clear H'
    try clear c1
    try clear p2
    try clear c3
    try clear c4
    try clear c4b0
    try clear c4b1
    try clear c5
    try clear c5b0
    try clear c5b1
    try clear q6
    try clear q6
    obtain ⟨x5_1, x16_1, rfl, HA, HK1, HO_5, HB⟩ := hrel
    cases gk with
    | zero => exact absurd HA.out (by simp [timesynclaw24_around.l0])
    | succ k1 =>
     have H := HA.out
     clear HA
     simp only [timesynclaw24_around.l0] at H
     by_cases c7 : x16_1 < (y468.length : Int)
     ·rw [if_pos c7] at H
      have c7b0 : decide (x16_1 < (y468.length : Int)) = true := decide_eq_true c7
      clear c7
      by_cases c8 : 0 ≤ x16_1
      ·rw [if_pos c8] at H
       have c8b0 : decide (0 ≤ x16_1) = true := decide_eq_true c8
       clear c8
       by_cases c9 : x16_1 < (y468.length : Int)
       ·rw [if_pos c9] at H
        have c9b0 : decide (x16_1 < (y468.length : Int)) = true := decide_eq_true c9
        clear c9
        by_cases c10 : (Int.tmod (wrap64 ((wrap64 ((rd_T83 y468 x16_1).f0)) + (wrap64 ((rd_T83 y468 x16_1).f1)))) 2) = 0
        ·rw [if_pos c10] at H
         have c10b0 : ((Int.tmod (wrap64 ((wrap64 ((rd_T83 y468 x16_1).f0)) + (wrap64 ((rd_T83 y468 x16_1).f1)))) 2) == 0) = true := beq_iff_eq.mpr c10
         have c10b1 : ((Int.tmod (wrap64 ((wrap64 ((rd_T83 y468 x16_1).f0)) + (wrap64 ((rd_T83 y468 x16_1).f1)))) 2) != 0) = false := bne_eq_false_iff_eq.mpr c10
         clear c10
         by_cases c11 : x5_1.length < 3518437208883
         ·rw [if_pos c11] at H
          have LMc11 := Aside0.mk c11
          clear c11
          obtain ⟨y474, hy474⟩ : ∃ y_ : List (S37), y_ = (x5_1 ++ [(⟨x16_1, wrap64 (a0 + (wrap64 (Int.tdiv (wrap64 ((wrap64 ((rd_T83 y468 x16_1).f1)) - (wrap64 ((rd_T83 y468 x16_1).f0)))) 2))), wrap64 (Int.tdiv (wrap64 ((wrap64 ((rd_T83 y468 x16_1).f0)) + (wrap64 ((rd_T83 y468 x16_1).f1)))) 2), 0, wrap64 (1 + x16_1)⟩ : S37)]) := ⟨_, rfl⟩
          replace H : (timesynclaw24_around.l0 k1 a0 y474 y468 (y468.length : Int) (wrap64 (x16_1 + 1))) = some r := by first | (rw [hy474]; with_reducible exact H) | (have H2_ := (Option.bind_some _ _).symm.trans H; rw [hy474]; with_reducible exact H2_) | (have H2_ := (Option.bind_some _ _).symm.trans H; with_reducible exact H2_) | with_reducible exact H | (rw [hy474]; exact H) | exact H
          have Ny474 := Aside0.mk hy474
          clear hy474
          have H' := Aside0.mk H
          clear H
          have p472 : 0 ≤ (x16_1 : Int) := of_decide_eq_true (by first | (with_reducible assumption) | assumption)
          have q472 : x16_1 < (y468.length : Int) := of_decide_eq_true (by first | (with_reducible assumption) | assumption)
          obtain ⟨ad472, e472, hx472_0, hx472_1⟩ := at_T83 HR471.out x16_1 p472 q472
          cases e472
          replace hx472_0 := (HB.out.cell (World.block_lt_of_cell? w _ hx472_0)).trans hx472_0
          replace hx472_1 := (HB.out.cell (World.block_lt_of_cell? w _ hx472_1)).trans hx472_1
          replace p472 := eq_true p472
          replace q472 := eq_true q472
          go_wp2_with (first | ((with_reducible refine gate_dst (N := 7) rfl ?_); refine box_event ?hg (N := 7) ?hd (cs := #[.int .u32 0, .int .u32 0]) (t := 83) ?hr ?_; (case hd => rfl); (case hg => rfl); (case hr => first | (go_simp; done) | (go_simp; rfl)); intro gb473 hg w12 hbox hb; have n0_ := Aside0.mk (Kd.R_below (by (with_reducible repeat (first | apply Kd.R_alloc | apply Kd.R_drewN | apply Kd.R_drew)); exact HO_5.out) hb); have n1_ := Aside0.mk (below_step (by repeat (first | (with_reducible first | exact HB.out | apply below_alloc | apply pw_below_drewN | apply below_drew1) | exact HB.out)) hb); have n2_ := Aside0.mk (hbox); have n3_ := Aside0.mk ((by rw [hg]; exact (below_size (by repeat (first | (with_reducible first | exact HB.out | apply below_alloc | apply pw_below_drewN | apply below_drew1) | exact HB.out))) : w.heap.size ≤ gb473)); have n4_ := Aside0.mk ((by rw [hg]; exact (below_size (by repeat (first | (with_reducible first | exact HB.out | apply below_alloc | apply pw_below_drewN | apply below_drew1) | exact HB.out))) : w.heap.size ≤ gb473)); clear HO_5; clear HB; have HO_5 := n0_; have HB := n1_; have BK473 := n2_; have GW473 := n3_; have GE473 := n4_; clear n0_ n1_ n2_ n3_ n4_; clear hb hbox hg; have hcz13_0 : w12.cell? ⟨gb473, 0, none⟩ = some (.int .u32 0) := (blk_cell BK473.out 0).trans rfl; have hcz13_1 : w12.cell? ⟨gb473, 1, none⟩ = some (.int .u32 0) := (blk_cell BK473.out 1).trans rfl; have hfz13_0 := blk_frozen BK473.out 0; have hfz13_1 := blk_frozen BK473.out 1) | ((with_reducible refine gate_builtin (b := .append) (xs := #[.tmp 34, .tmp 49]) rfl ?_); at_builtin; refine Kd.R_append k37 (w0 := w) w.heap.size rfl (.tmp 34) (.tmp 49) 22 37 (.agg #[(.int .i64 0), (.int .i64 0), (.int .i64 0), (.int .i64 0), (.int .i64 0)]) 40 rfl Try.underlying22 info37 rfl (by decide) (by omega) u5 x5_1 (⟨x16_1, wrap64 (a0 + (wrap64 (Int.tdiv (wrap64 ((wrap64 ((rd_T83 y468 x16_1).f1)) - (wrap64 ((rd_T83 y468 x16_1).f0)))) 2))), wrap64 (Int.tdiv (wrap64 ((wrap64 ((rd_T83 y468 x16_1).f0)) + (wrap64 ((rd_T83 y468 x16_1).f1)))) 2), 0, wrap64 (1 + x16_1)⟩ : S37) [.int .i64 x16_1, .int .i64 (wrap64 (a0 + (wrap64 (Int.tdiv (wrap64 ((wrap64 ((rd_T83 y468 x16_1).f1)) - (wrap64 ((rd_T83 y468 x16_1).f0)))) 2)))), .int .i64 (wrap64 (Int.tdiv (wrap64 ((wrap64 ((rd_T83 y468 x16_1).f0)) + (wrap64 ((rd_T83 y468 x16_1).f1)))) 2)), .int .i64 0, .int .i64 (wrap64 (1 + x16_1))] (fun _ => True) (fun _ => False) rfl (by first | (go_simp; done) | (go_simp; rfl)) ?aP (fun _ hk => hk.elim) ?aF ?aO ?aB ?aS ?aL ?_; (case aP => exact k37_mkM _ _ _ (⟨x16_1, wrap64 (a0 + (wrap64 (Int.tdiv (wrap64 ((wrap64 ((rd_T83 y468 x16_1).f1)) - (wrap64 ((rd_T83 y468 x16_1).f0)))) 2))), wrap64 (Int.tdiv (wrap64 ((wrap64 ((rd_T83 y468 x16_1).f0)) + (wrap64 ((rd_T83 y468 x16_1).f1)))) 2), 0, wrap64 (1 + x16_1)⟩ : S37)); (case aB => exact (by repeat (first | (with_reducible first | exact HB.out | apply below_alloc | apply pw_below_drewN | apply below_drew1 | refine below_set ?_ GE473.out) | exact HB.out))); (case aF => exact (fun _ _ => trivial)); (case aO => exact (by (with_reducible repeat (first | apply Kd.R_alloc | apply Kd.R_drewN | apply Kd.R_drew)); exact Kd.R_mono (Kd.R_far (p := ⟨gb473, 1, none⟩) (Kd.R_far (p := ⟨gb473, 0, none⟩) (Kd.R_types HO_5.out BK473.out (by decide)) (fun _ hk => hk.2) (.int .u32 ((rd_T83 y468 x16_1).f0))) (fun _ hk => hk.2) (.int .u32 ((rd_T83 y468 x16_1).f1))) (fun _ hk => trivial))); (case aS => exact (below_size (by repeat (first | (with_reducible first | exact HB.out | apply below_alloc | apply pw_below_drewN | apply below_drew1 | refine below_set ?_ GE473.out) | exact HB.out)))); (case aL => have := LMc11.out; omega); intro v475 w14 ho hb hg hat; rw [← Ny474.out] at ho; have n0_ := Aside0.mk (blk_grown (g := gb473) (o := .cells #[.int .u32 ((rd_T83 y468 x16_1).f0), .int .u32 ((rd_T83 y468 x16_1).f1)] 83 (0, 0)) (by (with_reducible repeat (first | refine blk_drewN ?_ _ | refine blk_drew ?_ | refine blk_alloc ?_ _)); refine blk_put (cs := #[.int .u32 ((rd_T83 y468 x16_1).f0), .int .u32 0]) ?_ 1 _ rfl; (with_reducible repeat (first | refine blk_drewN ?_ _ | refine blk_drew ?_ | refine blk_alloc ?_ _)); refine blk_put (cs := #[.int .u32 0, .int .u32 0]) ?_ 0 _ rfl; (with_reducible repeat (first | refine blk_drewN ?_ _ | refine blk_drew ?_ | refine blk_alloc ?_ _)); exact BK473.out) hg (Kd.R_ne HO_5.out BK473.out (by decide))); have n1_ := Aside0.mk (hb); have n2_ := Aside0.mk (ho); clear BK473; clear HB; clear HO_5; have BK473 := n0_; have HB := n1_; have HO476 := n2_; clear n0_ n1_ n2_; clear ho hb hg hat))
          repeat (go_quiet (first | ((with_reducible refine gate_dst (N := 7) rfl ?_); refine box_event ?hg (N := 7) ?hd (cs := #[.int .u32 0, .int .u32 0]) (t := 83) ?hr ?_; (case hd => rfl); (case hg => rfl); (case hr => first | (go_simp; done) | (go_simp; rfl)); intro gb473 hg w12 hbox hb; have n0_ := Aside0.mk (Kd.R_below (by (with_reducible repeat (first | apply Kd.R_alloc | apply Kd.R_drewN | apply Kd.R_drew)); exact HO_5.out) hb); have n1_ := Aside0.mk (below_step (by repeat (first | (with_reducible first | exact HB.out | apply below_alloc | apply pw_below_drewN | apply below_drew1) | exact HB.out)) hb); have n2_ := Aside0.mk (hbox); have n3_ := Aside0.mk ((by rw [hg]; exact (below_size (by repeat (first | (with_reducible first | exact HB.out | apply below_alloc | apply pw_below_drewN | apply below_drew1) | exact HB.out))) : w.heap.size ≤ gb473)); have n4_ := Aside0.mk ((by rw [hg]; exact (below_size (by repeat (first | (with_reducible first | exact HB.out | apply below_alloc | apply pw_below_drewN | apply below_drew1) | exact HB.out))) : w.heap.size ≤ gb473)); clear HO_5; clear HB; have HO_5 := n0_; have HB := n1_; have BK473 := n2_; have GW473 := n3_; have GE473 := n4_; clear n0_ n1_ n2_ n3_ n4_; clear hb hbox hg; have hcz13_0 : w12.cell? ⟨gb473, 0, none⟩ = some (.int .u32 0) := (blk_cell BK473.out 0).trans rfl; have hcz13_1 : w12.cell? ⟨gb473, 1, none⟩ = some (.int .u32 0) := (blk_cell BK473.out 1).trans rfl; have hfz13_0 := blk_frozen BK473.out 0; have hfz13_1 := blk_frozen BK473.out 1) | ((with_reducible refine gate_builtin (b := .append) (xs := #[.tmp 34, .tmp 49]) rfl ?_); at_builtin; refine Kd.R_append k37 (w0 := w) w.heap.size rfl (.tmp 34) (.tmp 49) 22 37 (.agg #[(.int .i64 0), (.int .i64 0), (.int .i64 0), (.int .i64 0), (.int .i64 0)]) 40 rfl Try.underlying22 info37 rfl (by decide) (by omega) u5 x5_1 (⟨x16_1, wrap64 (a0 + (wrap64 (Int.tdiv (wrap64 ((wrap64 ((rd_T83 y468 x16_1).f1)) - (wrap64 ((rd_T83 y468 x16_1).f0)))) 2))), wrap64 (Int.tdiv (wrap64 ((wrap64 ((rd_T83 y468 x16_1).f0)) + (wrap64 ((rd_T83 y468 x16_1).f1)))) 2), 0, wrap64 (1 + x16_1)⟩ : S37) [.int .i64 x16_1, .int .i64 (wrap64 (a0 + (wrap64 (Int.tdiv (wrap64 ((wrap64 ((rd_T83 y468 x16_1).f1)) - (wrap64 ((rd_T83 y468 x16_1).f0)))) 2)))), .int .i64 (wrap64 (Int.tdiv (wrap64 ((wrap64 ((rd_T83 y468 x16_1).f0)) + (wrap64 ((rd_T83 y468 x16_1).f1)))) 2)), .int .i64 0, .int .i64 (wrap64 (1 + x16_1))] (fun _ => True) (fun _ => False) rfl (by first | (go_simp; done) | (go_simp; rfl)) ?aP (fun _ hk => hk.elim) ?aF ?aO ?aB ?aS ?aL ?_; (case aP => exact k37_mkM _ _ _ (⟨x16_1, wrap64 (a0 + (wrap64 (Int.tdiv (wrap64 ((wrap64 ((rd_T83 y468 x16_1).f1)) - (wrap64 ((rd_T83 y468 x16_1).f0)))) 2))), wrap64 (Int.tdiv (wrap64 ((wrap64 ((rd_T83 y468 x16_1).f0)) + (wrap64 ((rd_T83 y468 x16_1).f1)))) 2), 0, wrap64 (1 + x16_1)⟩ : S37)); (case aB => exact (by repeat (first | (with_reducible first | exact HB.out | apply below_alloc | apply pw_below_drewN | apply below_drew1 | refine below_set ?_ GE473.out) | exact HB.out))); (case aF => exact (fun _ _ => trivial)); (case aO => exact (by (with_reducible repeat (first | apply Kd.R_alloc | apply Kd.R_drewN | apply Kd.R_drew)); exact Kd.R_mono (Kd.R_far (p := ⟨gb473, 1, none⟩) (Kd.R_far (p := ⟨gb473, 0, none⟩) (Kd.R_types HO_5.out BK473.out (by decide)) (fun _ hk => hk.2) (.int .u32 ((rd_T83 y468 x16_1).f0))) (fun _ hk => hk.2) (.int .u32 ((rd_T83 y468 x16_1).f1))) (fun _ hk => trivial))); (case aS => exact (below_size (by repeat (first | (with_reducible first | exact HB.out | apply below_alloc | apply pw_below_drewN | apply below_drew1 | refine below_set ?_ GE473.out) | exact HB.out)))); (case aL => have := LMc11.out; omega); intro v475 w14 ho hb hg hat; rw [← Ny474.out] at ho; have n0_ := Aside0.mk (blk_grown (g := gb473) (o := .cells #[.int .u32 ((rd_T83 y468 x16_1).f0), .int .u32 ((rd_T83 y468 x16_1).f1)] 83 (0, 0)) (by (with_reducible repeat (first | refine blk_drewN ?_ _ | refine blk_drew ?_ | refine blk_alloc ?_ _)); refine blk_put (cs := #[.int .u32 ((rd_T83 y468 x16_1).f0), .int .u32 0]) ?_ 1 _ rfl; (with_reducible repeat (first | refine blk_drewN ?_ _ | refine blk_drew ?_ | refine blk_alloc ?_ _)); refine blk_put (cs := #[.int .u32 0, .int .u32 0]) ?_ 0 _ rfl; (with_reducible repeat (first | refine blk_drewN ?_ _ | refine blk_drew ?_ | refine blk_alloc ?_ _)); exact BK473.out) hg (Kd.R_ne HO_5.out BK473.out (by decide))); have n1_ := Aside0.mk (hb); have n2_ := Aside0.mk (ho); clear BK473; clear HB; clear HO_5; have BK473 := n0_; have HB := n1_; have HO476 := n2_; clear n0_ n1_ n2_; clear ho hb hg hat)); try go_wp2_with (first | ((with_reducible refine gate_dst (N := 7) rfl ?_); refine box_event ?hg (N := 7) ?hd (cs := #[.int .u32 0, .int .u32 0]) (t := 83) ?hr ?_; (case hd => rfl); (case hg => rfl); (case hr => first | (go_simp; done) | (go_simp; rfl)); intro gb473 hg w12 hbox hb; have n0_ := Aside0.mk (Kd.R_below (by (with_reducible repeat (first | apply Kd.R_alloc | apply Kd.R_drewN | apply Kd.R_drew)); exact HO_5.out) hb); have n1_ := Aside0.mk (below_step (by repeat (first | (with_reducible first | exact HB.out | apply below_alloc | apply pw_below_drewN | apply below_drew1) | exact HB.out)) hb); have n2_ := Aside0.mk (hbox); have n3_ := Aside0.mk ((by rw [hg]; exact (below_size (by repeat (first | (with_reducible first | exact HB.out | apply below_alloc | apply pw_below_drewN | apply below_drew1) | exact HB.out))) : w.heap.size ≤ gb473)); have n4_ := Aside0.mk ((by rw [hg]; exact (below_size (by repeat (first | (with_reducible first | exact HB.out | apply below_alloc | apply pw_below_drewN | apply below_drew1) | exact HB.out))) : w.heap.size ≤ gb473)); clear HO_5; clear HB; have HO_5 := n0_; have HB := n1_; have BK473 := n2_; have GW473 := n3_; have GE473 := n4_; clear n0_ n1_ n2_ n3_ n4_; clear hb hbox hg; have hcz13_0 : w12.cell? ⟨gb473, 0, none⟩ = some (.int .u32 0) := (blk_cell BK473.out 0).trans rfl; have hcz13_1 : w12.cell? ⟨gb473, 1, none⟩ = some (.int .u32 0) := (blk_cell BK473.out 1).trans rfl; have hfz13_0 := blk_frozen BK473.out 0; have hfz13_1 := blk_frozen BK473.out 1) | ((with_reducible refine gate_builtin (b := .append) (xs := #[.tmp 34, .tmp 49]) rfl ?_); at_builtin; refine Kd.R_append k37 (w0 := w) w.heap.size rfl (.tmp 34) (.tmp 49) 22 37 (.agg #[(.int .i64 0), (.int .i64 0), (.int .i64 0), (.int .i64 0), (.int .i64 0)]) 40 rfl Try.underlying22 info37 rfl (by decide) (by omega) u5 x5_1 (⟨x16_1, wrap64 (a0 + (wrap64 (Int.tdiv (wrap64 ((wrap64 ((rd_T83 y468 x16_1).f1)) - (wrap64 ((rd_T83 y468 x16_1).f0)))) 2))), wrap64 (Int.tdiv (wrap64 ((wrap64 ((rd_T83 y468 x16_1).f0)) + (wrap64 ((rd_T83 y468 x16_1).f1)))) 2), 0, wrap64 (1 + x16_1)⟩ : S37) [.int .i64 x16_1, .int .i64 (wrap64 (a0 + (wrap64 (Int.tdiv (wrap64 ((wrap64 ((rd_T83 y468 x16_1).f1)) - (wrap64 ((rd_T83 y468 x16_1).f0)))) 2)))), .int .i64 (wrap64 (Int.tdiv (wrap64 ((wrap64 ((rd_T83 y468 x16_1).f0)) + (wrap64 ((rd_T83 y468 x16_1).f1)))) 2)), .int .i64 0, .int .i64 (wrap64 (1 + x16_1))] (fun _ => True) (fun _ => False) rfl (by first | (go_simp; done) | (go_simp; rfl)) ?aP (fun _ hk => hk.elim) ?aF ?aO ?aB ?aS ?aL ?_; (case aP => exact k37_mkM _ _ _ (⟨x16_1, wrap64 (a0 + (wrap64 (Int.tdiv (wrap64 ((wrap64 ((rd_T83 y468 x16_1).f1)) - (wrap64 ((rd_T83 y468 x16_1).f0)))) 2))), wrap64 (Int.tdiv (wrap64 ((wrap64 ((rd_T83 y468 x16_1).f0)) + (wrap64 ((rd_T83 y468 x16_1).f1)))) 2), 0, wrap64 (1 + x16_1)⟩ : S37)); (case aB => exact (by repeat (first | (with_reducible first | exact HB.out | apply below_alloc | apply pw_below_drewN | apply below_drew1 | refine below_set ?_ GE473.out) | exact HB.out))); (case aF => exact (fun _ _ => trivial)); (case aO => exact (by (with_reducible repeat (first | apply Kd.R_alloc | apply Kd.R_drewN | apply Kd.R_drew)); exact Kd.R_mono (Kd.R_far (p := ⟨gb473, 1, none⟩) (Kd.R_far (p := ⟨gb473, 0, none⟩) (Kd.R_types HO_5.out BK473.out (by decide)) (fun _ hk => hk.2) (.int .u32 ((rd_T83 y468 x16_1).f0))) (fun _ hk => hk.2) (.int .u32 ((rd_T83 y468 x16_1).f1))) (fun _ hk => trivial))); (case aS => exact (below_size (by repeat (first | (with_reducible first | exact HB.out | apply below_alloc | apply pw_below_drewN | apply below_drew1 | refine below_set ?_ GE473.out) | exact HB.out)))); (case aL => have := LMc11.out; omega); intro v475 w14 ho hb hg hat; rw [← Ny474.out] at ho; have n0_ := Aside0.mk (blk_grown (g := gb473) (o := .cells #[.int .u32 ((rd_T83 y468 x16_1).f0), .int .u32 ((rd_T83 y468 x16_1).f1)] 83 (0, 0)) (by (with_reducible repeat (first | refine blk_drewN ?_ _ | refine blk_drew ?_ | refine blk_alloc ?_ _)); refine blk_put (cs := #[.int .u32 ((rd_T83 y468 x16_1).f0), .int .u32 0]) ?_ 1 _ rfl; (with_reducible repeat (first | refine blk_drewN ?_ _ | refine blk_drew ?_ | refine blk_alloc ?_ _)); refine blk_put (cs := #[.int .u32 0, .int .u32 0]) ?_ 0 _ rfl; (with_reducible repeat (first | refine blk_drewN ?_ _ | refine blk_drew ?_ | refine blk_alloc ?_ _)); exact BK473.out) hg (Kd.R_ne HO_5.out BK473.out (by decide))); have n1_ := Aside0.mk (hb); have n2_ := Aside0.mk (ho); clear BK473; clear HB; clear HO_5; have BK473 := n0_; have HB := n1_; have HO476 := n2_; clear n0_ n1_ n2_; clear ho hb hg hat)))
          go_roundg k1
          case measure => have := HK1.out; omega
          case rel => exact ⟨(y474), (wrap64 (x16_1 + 1)), (by first | rfl | (simp; done) | (simp [*]; done)), H', ⟨by have := HK1.out; omega⟩, ⟨by (with_reducible repeat (first | apply Kd.R_alloc | apply Kd.R_drewN | apply Kd.R_drew)); exact HO476.out⟩, ⟨by repeat (first | (with_reducible first | exact HB.out | apply below_alloc | apply pw_below_drewN | apply below_drew1 | refine below_set ?_ GE473.out) | exact HB.out)⟩⟩
         ·rw [if_neg c11] at H
          exact absurd H (by simp)
        ·rw [if_neg c10] at H
         have c10b0 : ((Int.tmod (wrap64 ((wrap64 ((rd_T83 y468 x16_1).f0)) + (wrap64 ((rd_T83 y468 x16_1).f1)))) 2) == 0) = false := beq_eq_false_iff_ne.mpr c10
         have c10b1 : ((Int.tmod (wrap64 ((wrap64 ((rd_T83 y468 x16_1).f0)) + (wrap64 ((rd_T83 y468 x16_1).f1)))) 2) != 0) = true := bne_iff_ne.mpr c10
         by_cases c15 : x5_1.length < 3518437208883
         ·rw [if_pos c15] at H
          have LMc15 := Aside0.mk c15
          clear c15
          obtain ⟨y477, hy477⟩ : ∃ y_ : List (S37), y_ = (x5_1 ++ [(⟨x16_1, wrap64 (a0 + (wrap64 (Int.tdiv (wrap64 ((wrap64 ((wrap64 ((rd_T83 y468 x16_1).f1)) + 1)) - (wrap64 ((rd_T83 y468 x16_1).f0)))) 2))), wrap64 (Int.tdiv (wrap64 ((wrap64 ((rd_T83 y468 x16_1).f0)) + (wrap64 ((wrap64 ((rd_T83 y468 x16_1).f1)) + 1)))) 2), 0, wrap64 (1 + x16_1)⟩ : S37)]) := ⟨_, rfl⟩
          replace H : (timesynclaw24_around.l0 k1 a0 y477 y468 (y468.length : Int) (wrap64 (x16_1 + 1))) = some r := by first | (rw [hy477]; with_reducible exact H) | (have H2_ := (Option.bind_some _ _).symm.trans H; rw [hy477]; with_reducible exact H2_) | (have H2_ := (Option.bind_some _ _).symm.trans H; with_reducible exact H2_) | with_reducible exact H | (rw [hy477]; exact H) | exact H
          have Ny477 := Aside0.mk hy477
          clear hy477
          have H' := Aside0.mk H
          clear H
          have p472 : 0 ≤ (x16_1 : Int) := of_decide_eq_true (by first | (with_reducible assumption) | assumption)
          have q472 : x16_1 < (y468.length : Int) := of_decide_eq_true (by first | (with_reducible assumption) | assumption)
          obtain ⟨ad472, e472, hx472_0, hx472_1⟩ := at_T83 HR471.out x16_1 p472 q472
          cases e472
          replace hx472_0 := (HB.out.cell (World.block_lt_of_cell? w _ hx472_0)).trans hx472_0
          replace hx472_1 := (HB.out.cell (World.block_lt_of_cell? w _ hx472_1)).trans hx472_1
          replace p472 := eq_true p472
          replace q472 := eq_true q472
          go_wp2_with (first | ((with_reducible refine gate_dst (N := 7) rfl ?_); refine box_event ?hg (N := 7) ?hd (cs := #[.int .u32 0, .int .u32 0]) (t := 83) ?hr ?_; (case hd => rfl); (case hg => rfl); (case hr => first | (go_simp; done) | (go_simp; rfl)); intro gb473 hg w16 hbox hb; have n0_ := Aside0.mk (Kd.R_below (by (with_reducible repeat (first | apply Kd.R_alloc | apply Kd.R_drewN | apply Kd.R_drew)); exact HO_5.out) hb); have n1_ := Aside0.mk (below_step (by repeat (first | (with_reducible first | exact HB.out | apply below_alloc | apply pw_below_drewN | apply below_drew1) | exact HB.out)) hb); have n2_ := Aside0.mk (hbox); have n3_ := Aside0.mk ((by rw [hg]; exact (below_size (by repeat (first | (with_reducible first | exact HB.out | apply below_alloc | apply pw_below_drewN | apply below_drew1) | exact HB.out))) : w.heap.size ≤ gb473)); have n4_ := Aside0.mk ((by rw [hg]; exact (below_size (by repeat (first | (with_reducible first | exact HB.out | apply below_alloc | apply pw_below_drewN | apply below_drew1) | exact HB.out))) : w.heap.size ≤ gb473)); clear HO_5; clear HB; have HO_5 := n0_; have HB := n1_; have BK473 := n2_; have GW473 := n3_; have GE473 := n4_; clear n0_ n1_ n2_ n3_ n4_; clear hb hbox hg; have hcz17_0 : w16.cell? ⟨gb473, 0, none⟩ = some (.int .u32 0) := (blk_cell BK473.out 0).trans rfl; have hcz17_1 : w16.cell? ⟨gb473, 1, none⟩ = some (.int .u32 0) := (blk_cell BK473.out 1).trans rfl; have hfz17_0 := blk_frozen BK473.out 0; have hfz17_1 := blk_frozen BK473.out 1) | ((with_reducible refine gate_builtin (b := .append) (xs := #[.tmp 34, .tmp 49]) rfl ?_); at_builtin; refine Kd.R_append k37 (w0 := w) w.heap.size rfl (.tmp 34) (.tmp 49) 22 37 (.agg #[(.int .i64 0), (.int .i64 0), (.int .i64 0), (.int .i64 0), (.int .i64 0)]) 40 rfl Try.underlying22 info37 rfl (by decide) (by omega) u5 x5_1 (⟨x16_1, wrap64 (a0 + (wrap64 (Int.tdiv (wrap64 ((wrap64 ((wrap64 ((rd_T83 y468 x16_1).f1)) + 1)) - (wrap64 ((rd_T83 y468 x16_1).f0)))) 2))), wrap64 (Int.tdiv (wrap64 ((wrap64 ((rd_T83 y468 x16_1).f0)) + (wrap64 ((wrap64 ((rd_T83 y468 x16_1).f1)) + 1)))) 2), 0, wrap64 (1 + x16_1)⟩ : S37) [.int .i64 x16_1, .int .i64 (wrap64 (a0 + (wrap64 (Int.tdiv (wrap64 ((wrap64 ((wrap64 ((rd_T83 y468 x16_1).f1)) + 1)) - (wrap64 ((rd_T83 y468 x16_1).f0)))) 2)))), .int .i64 (wrap64 (Int.tdiv (wrap64 ((wrap64 ((rd_T83 y468 x16_1).f0)) + (wrap64 ((wrap64 ((rd_T83 y468 x16_1).f1)) + 1)))) 2)), .int .i64 0, .int .i64 (wrap64 (1 + x16_1))] (fun _ => True) (fun _ => False) rfl (by first | (go_simp; done) | (go_simp; rfl)) ?aP (fun _ hk => hk.elim) ?aF ?aO ?aB ?aS ?aL ?_; (case aP => exact k37_mkM _ _ _ (⟨x16_1, wrap64 (a0 + (wrap64 (Int.tdiv (wrap64 ((wrap64 ((wrap64 ((rd_T83 y468 x16_1).f1)) + 1)) - (wrap64 ((rd_T83 y468 x16_1).f0)))) 2))), wrap64 (Int.tdiv (wrap64 ((wrap64 ((rd_T83 y468 x16_1).f0)) + (wrap64 ((wrap64 ((rd_T83 y468 x16_1).f1)) + 1)))) 2), 0, wrap64 (1 + x16_1)⟩ : S37)); (case aB => exact (by repeat (first | (with_reducible first | exact HB.out | apply below_alloc | apply pw_below_drewN | apply below_drew1 | refine below_set ?_ GE473.out) | exact HB.out))); (case aF => exact (fun _ _ => trivial)); (case aO => exact (by (with_reducible repeat (first | apply Kd.R_alloc | apply Kd.R_drewN | apply Kd.R_drew)); exact Kd.R_mono (Kd.R_far (p := ⟨gb473, 1, none⟩) (Kd.R_far (p := ⟨gb473, 0, none⟩) (Kd.R_types HO_5.out BK473.out (by decide)) (fun _ hk => hk.2) (.int .u32 ((rd_T83 y468 x16_1).f0))) (fun _ hk => hk.2) (.int .u32 ((rd_T83 y468 x16_1).f1))) (fun _ hk => trivial))); (case aS => exact (below_size (by repeat (first | (with_reducible first | exact HB.out | apply below_alloc | apply pw_below_drewN | apply below_drew1 | refine below_set ?_ GE473.out) | exact HB.out)))); (case aL => have := LMc15.out; omega); intro v478 w18 ho hb hg hat; rw [← Ny477.out] at ho; have n0_ := Aside0.mk (blk_grown (g := gb473) (o := .cells #[.int .u32 ((rd_T83 y468 x16_1).f0), .int .u32 ((rd_T83 y468 x16_1).f1)] 83 (0, 0)) (by (with_reducible repeat (first | refine blk_drewN ?_ _ | refine blk_drew ?_ | refine blk_alloc ?_ _)); refine blk_put (cs := #[.int .u32 ((rd_T83 y468 x16_1).f0), .int .u32 0]) ?_ 1 _ rfl; (with_reducible repeat (first | refine blk_drewN ?_ _ | refine blk_drew ?_ | refine blk_alloc ?_ _)); refine blk_put (cs := #[.int .u32 0, .int .u32 0]) ?_ 0 _ rfl; (with_reducible repeat (first | refine blk_drewN ?_ _ | refine blk_drew ?_ | refine blk_alloc ?_ _)); exact BK473.out) hg (Kd.R_ne HO_5.out BK473.out (by decide))); have n1_ := Aside0.mk (hb); have n2_ := Aside0.mk (ho); clear BK473; clear HB; clear HO_5; have BK473 := n0_; have HB := n1_; have HO479 := n2_; clear n0_ n1_ n2_; clear ho hb hg hat))
          repeat (go_quiet (first | ((with_reducible refine gate_dst (N := 7) rfl ?_); refine box_event ?hg (N := 7) ?hd (cs := #[.int .u32 0, .int .u32 0]) (t := 83) ?hr ?_; (case hd => rfl); (case hg => rfl); (case hr => first | (go_simp; done) | (go_simp; rfl)); intro gb473 hg w16 hbox hb; have n0_ := Aside0.mk (Kd.R_below (by (with_reducible repeat (first | apply Kd.R_alloc | apply Kd.R_drewN | apply Kd.R_drew)); exact HO_5.out) hb); have n1_ := Aside0.mk (below_step (by repeat (first | (with_reducible first | exact HB.out | apply below_alloc | apply pw_below_drewN | apply below_drew1) | exact HB.out)) hb); have n2_ := Aside0.mk (hbox); have n3_ := Aside0.mk ((by rw [hg]; exact (below_size (by repeat (first | (with_reducible first | exact HB.out | apply below_alloc | apply pw_below_drewN | apply below_drew1) | exact HB.out))) : w.heap.size ≤ gb473)); have n4_ := Aside0.mk ((by rw [hg]; exact (below_size (by repeat (first | (with_reducible first | exact HB.out | apply below_alloc | apply pw_below_drewN | apply below_drew1) | exact HB.out))) : w.heap.size ≤ gb473)); clear HO_5; clear HB; have HO_5 := n0_; have HB := n1_; have BK473 := n2_; have GW473 := n3_; have GE473 := n4_; clear n0_ n1_ n2_ n3_ n4_; clear hb hbox hg; have hcz17_0 : w16.cell? ⟨gb473, 0, none⟩ = some (.int .u32 0) := (blk_cell BK473.out 0).trans rfl; have hcz17_1 : w16.cell? ⟨gb473, 1, none⟩ = some (.int .u32 0) := (blk_cell BK473.out 1).trans rfl; have hfz17_0 := blk_frozen BK473.out 0; have hfz17_1 := blk_frozen BK473.out 1) | ((with_reducible refine gate_builtin (b := .append) (xs := #[.tmp 34, .tmp 49]) rfl ?_); at_builtin; refine Kd.R_append k37 (w0 := w) w.heap.size rfl (.tmp 34) (.tmp 49) 22 37 (.agg #[(.int .i64 0), (.int .i64 0), (.int .i64 0), (.int .i64 0), (.int .i64 0)]) 40 rfl Try.underlying22 info37 rfl (by decide) (by omega) u5 x5_1 (⟨x16_1, wrap64 (a0 + (wrap64 (Int.tdiv (wrap64 ((wrap64 ((wrap64 ((rd_T83 y468 x16_1).f1)) + 1)) - (wrap64 ((rd_T83 y468 x16_1).f0)))) 2))), wrap64 (Int.tdiv (wrap64 ((wrap64 ((rd_T83 y468 x16_1).f0)) + (wrap64 ((wrap64 ((rd_T83 y468 x16_1).f1)) + 1)))) 2), 0, wrap64 (1 + x16_1)⟩ : S37) [.int .i64 x16_1, .int .i64 (wrap64 (a0 + (wrap64 (Int.tdiv (wrap64 ((wrap64 ((wrap64 ((rd_T83 y468 x16_1).f1)) + 1)) - (wrap64 ((rd_T83 y468 x16_1).f0)))) 2)))), .int .i64 (wrap64 (Int.tdiv (wrap64 ((wrap64 ((rd_T83 y468 x16_1).f0)) + (wrap64 ((wrap64 ((rd_T83 y468 x16_1).f1)) + 1)))) 2)), .int .i64 0, .int .i64 (wrap64 (1 + x16_1))] (fun _ => True) (fun _ => False) rfl (by first | (go_simp; done) | (go_simp; rfl)) ?aP (fun _ hk => hk.elim) ?aF ?aO ?aB ?aS ?aL ?_; (case aP => exact k37_mkM _ _ _ (⟨x16_1, wrap64 (a0 + (wrap64 (Int.tdiv (wrap64 ((wrap64 ((wrap64 ((rd_T83 y468 x16_1).f1)) + 1)) - (wrap64 ((rd_T83 y468 x16_1).f0)))) 2))), wrap64 (Int.tdiv (wrap64 ((wrap64 ((rd_T83 y468 x16_1).f0)) + (wrap64 ((wrap64 ((rd_T83 y468 x16_1).f1)) + 1)))) 2), 0, wrap64 (1 + x16_1)⟩ : S37)); (case aB => exact (by repeat (first | (with_reducible first | exact HB.out | apply below_alloc | apply pw_below_drewN | apply below_drew1 | refine below_set ?_ GE473.out) | exact HB.out))); (case aF => exact (fun _ _ => trivial)); (case aO => exact (by (with_reducible repeat (first | apply Kd.R_alloc | apply Kd.R_drewN | apply Kd.R_drew)); exact Kd.R_mono (Kd.R_far (p := ⟨gb473, 1, none⟩) (Kd.R_far (p := ⟨gb473, 0, none⟩) (Kd.R_types HO_5.out BK473.out (by decide)) (fun _ hk => hk.2) (.int .u32 ((rd_T83 y468 x16_1).f0))) (fun _ hk => hk.2) (.int .u32 ((rd_T83 y468 x16_1).f1))) (fun _ hk => trivial))); (case aS => exact (below_size (by repeat (first | (with_reducible first | exact HB.out | apply below_alloc | apply pw_below_drewN | apply below_drew1 | refine below_set ?_ GE473.out) | exact HB.out)))); (case aL => have := LMc15.out; omega); intro v478 w18 ho hb hg hat; rw [← Ny477.out] at ho; have n0_ := Aside0.mk (blk_grown (g := gb473) (o := .cells #[.int .u32 ((rd_T83 y468 x16_1).f0), .int .u32 ((rd_T83 y468 x16_1).f1)] 83 (0, 0)) (by (with_reducible repeat (first | refine blk_drewN ?_ _ | refine blk_drew ?_ | refine blk_alloc ?_ _)); refine blk_put (cs := #[.int .u32 ((rd_T83 y468 x16_1).f0), .int .u32 0]) ?_ 1 _ rfl; (with_reducible repeat (first | refine blk_drewN ?_ _ | refine blk_drew ?_ | refine blk_alloc ?_ _)); refine blk_put (cs := #[.int .u32 0, .int .u32 0]) ?_ 0 _ rfl; (with_reducible repeat (first | refine blk_drewN ?_ _ | refine blk_drew ?_ | refine blk_alloc ?_ _)); exact BK473.out) hg (Kd.R_ne HO_5.out BK473.out (by decide))); have n1_ := Aside0.mk (hb); have n2_ := Aside0.mk (ho); clear BK473; clear HB; clear HO_5; have BK473 := n0_; have HB := n1_; have HO479 := n2_; clear n0_ n1_ n2_; clear ho hb hg hat)); try go_wp2_with (first | ((with_reducible refine gate_dst (N := 7) rfl ?_); refine box_event ?hg (N := 7) ?hd (cs := #[.int .u32 0, .int .u32 0]) (t := 83) ?hr ?_; (case hd => rfl); (case hg => rfl); (case hr => first | (go_simp; done) | (go_simp; rfl)); intro gb473 hg w16 hbox hb; have n0_ := Aside0.mk (Kd.R_below (by (with_reducible repeat (first | apply Kd.R_alloc | apply Kd.R_drewN | apply Kd.R_drew)); exact HO_5.out) hb); have n1_ := Aside0.mk (below_step (by repeat (first | (with_reducible first | exact HB.out | apply below_alloc | apply pw_below_drewN | apply below_drew1) | exact HB.out)) hb); have n2_ := Aside0.mk (hbox); have n3_ := Aside0.mk ((by rw [hg]; exact (below_size (by repeat (first | (with_reducible first | exact HB.out | apply below_alloc | apply pw_below_drewN | apply below_drew1) | exact HB.out))) : w.heap.size ≤ gb473)); have n4_ := Aside0.mk ((by rw [hg]; exact (below_size (by repeat (first | (with_reducible first | exact HB.out | apply below_alloc | apply pw_below_drewN | apply below_drew1) | exact HB.out))) : w.heap.size ≤ gb473)); clear HO_5; clear HB; have HO_5 := n0_; have HB := n1_; have BK473 := n2_; have GW473 := n3_; have GE473 := n4_; clear n0_ n1_ n2_ n3_ n4_; clear hb hbox hg; have hcz17_0 : w16.cell? ⟨gb473, 0, none⟩ = some (.int .u32 0) := (blk_cell BK473.out 0).trans rfl; have hcz17_1 : w16.cell? ⟨gb473, 1, none⟩ = some (.int .u32 0) := (blk_cell BK473.out 1).trans rfl; have hfz17_0 := blk_frozen BK473.out 0; have hfz17_1 := blk_frozen BK473.out 1) | ((with_reducible refine gate_builtin (b := .append) (xs := #[.tmp 34, .tmp 49]) rfl ?_); at_builtin; refine Kd.R_append k37 (w0 := w) w.heap.size rfl (.tmp 34) (.tmp 49) 22 37 (.agg #[(.int .i64 0), (.int .i64 0), (.int .i64 0), (.int .i64 0), (.int .i64 0)]) 40 rfl Try.underlying22 info37 rfl (by decide) (by omega) u5 x5_1 (⟨x16_1, wrap64 (a0 + (wrap64 (Int.tdiv (wrap64 ((wrap64 ((wrap64 ((rd_T83 y468 x16_1).f1)) + 1)) - (wrap64 ((rd_T83 y468 x16_1).f0)))) 2))), wrap64 (Int.tdiv (wrap64 ((wrap64 ((rd_T83 y468 x16_1).f0)) + (wrap64 ((wrap64 ((rd_T83 y468 x16_1).f1)) + 1)))) 2), 0, wrap64 (1 + x16_1)⟩ : S37) [.int .i64 x16_1, .int .i64 (wrap64 (a0 + (wrap64 (Int.tdiv (wrap64 ((wrap64 ((wrap64 ((rd_T83 y468 x16_1).f1)) + 1)) - (wrap64 ((rd_T83 y468 x16_1).f0)))) 2)))), .int .i64 (wrap64 (Int.tdiv (wrap64 ((wrap64 ((rd_T83 y468 x16_1).f0)) + (wrap64 ((wrap64 ((rd_T83 y468 x16_1).f1)) + 1)))) 2)), .int .i64 0, .int .i64 (wrap64 (1 + x16_1))] (fun _ => True) (fun _ => False) rfl (by first | (go_simp; done) | (go_simp; rfl)) ?aP (fun _ hk => hk.elim) ?aF ?aO ?aB ?aS ?aL ?_; (case aP => exact k37_mkM _ _ _ (⟨x16_1, wrap64 (a0 + (wrap64 (Int.tdiv (wrap64 ((wrap64 ((wrap64 ((rd_T83 y468 x16_1).f1)) + 1)) - (wrap64 ((rd_T83 y468 x16_1).f0)))) 2))), wrap64 (Int.tdiv (wrap64 ((wrap64 ((rd_T83 y468 x16_1).f0)) + (wrap64 ((wrap64 ((rd_T83 y468 x16_1).f1)) + 1)))) 2), 0, wrap64 (1 + x16_1)⟩ : S37)); (case aB => exact (by repeat (first | (with_reducible first | exact HB.out | apply below_alloc | apply pw_below_drewN | apply below_drew1 | refine below_set ?_ GE473.out) | exact HB.out))); (case aF => exact (fun _ _ => trivial)); (case aO => exact (by (with_reducible repeat (first | apply Kd.R_alloc | apply Kd.R_drewN | apply Kd.R_drew)); exact Kd.R_mono (Kd.R_far (p := ⟨gb473, 1, none⟩) (Kd.R_far (p := ⟨gb473, 0, none⟩) (Kd.R_types HO_5.out BK473.out (by decide)) (fun _ hk => hk.2) (.int .u32 ((rd_T83 y468 x16_1).f0))) (fun _ hk => hk.2) (.int .u32 ((rd_T83 y468 x16_1).f1))) (fun _ hk => trivial))); (case aS => exact (below_size (by repeat (first | (with_reducible first | exact HB.out | apply below_alloc | apply pw_below_drewN | apply below_drew1 | refine below_set ?_ GE473.out) | exact HB.out)))); (case aL => have := LMc15.out; omega); intro v478 w18 ho hb hg hat; rw [← Ny477.out] at ho; have n0_ := Aside0.mk (blk_grown (g := gb473) (o := .cells #[.int .u32 ((rd_T83 y468 x16_1).f0), .int .u32 ((rd_T83 y468 x16_1).f1)] 83 (0, 0)) (by (with_reducible repeat (first | refine blk_drewN ?_ _ | refine blk_drew ?_ | refine blk_alloc ?_ _)); refine blk_put (cs := #[.int .u32 ((rd_T83 y468 x16_1).f0), .int .u32 0]) ?_ 1 _ rfl; (with_reducible repeat (first | refine blk_drewN ?_ _ | refine blk_drew ?_ | refine blk_alloc ?_ _)); refine blk_put (cs := #[.int .u32 0, .int .u32 0]) ?_ 0 _ rfl; (with_reducible repeat (first | refine blk_drewN ?_ _ | refine blk_drew ?_ | refine blk_alloc ?_ _)); exact BK473.out) hg (Kd.R_ne HO_5.out BK473.out (by decide))); have n1_ := Aside0.mk (hb); have n2_ := Aside0.mk (ho); clear BK473; clear HB; clear HO_5; have BK473 := n0_; have HB := n1_; have HO479 := n2_; clear n0_ n1_ n2_; clear ho hb hg hat)))
          go_roundg k1
          case measure => have := HK1.out; omega
          case rel => exact ⟨(y477), (wrap64 (x16_1 + 1)), (by first | rfl | (simp; done) | (simp [*]; done)), H', ⟨by have := HK1.out; omega⟩, ⟨by (with_reducible repeat (first | apply Kd.R_alloc | apply Kd.R_drewN | apply Kd.R_drew)); exact HO479.out⟩, ⟨by repeat (first | (with_reducible first | exact HB.out | apply below_alloc | apply pw_below_drewN | apply below_drew1 | refine below_set ?_ GE473.out) | exact HB.out)⟩⟩
         ·rw [if_neg c15] at H
          exact absurd H (by simp)
       ·rw [if_neg c9] at H
        exact absurd H (by simp)
      ·rw [if_neg c8] at H
       exact absurd H (by simp)
     ·rw [if_neg c7] at H
      have c7b0 : decide (x16_1 < (y468.length : Int)) = false := decide_eq_false c7
      clear c7
      obtain rfl := Option.some.inj H
      go_wp2
      repeat (go_quiet (fail); try go_wp2)
      go_ret
      exact ⟨_, by first | rfl | (simp [errW_none, errW_some] <;> rfl) | (simp only [← hji3]; first | rfl | (simp [errW_none, errW_some] <;> rfl)) | (simp [*, errW_none, errW_some] <;> rfl), by (with_reducible repeat (first | apply Kd.R_alloc | apply Kd.R_drewN | apply Kd.R_drew)); exact HO_5.out, by repeat (first | (with_reducible first | exact HB.out | apply below_alloc | apply pw_below_drewN | apply below_drew1) | exact HB.out)⟩
  ·rw [if_neg c5] at H
   exact absurd H (by simp)
 ·rw [if_neg c4] at H
  exact absurd H (by simp)

end Go.Proofs.Ytlfilhplklifjaa.X

namespace Go.Proofs.Ytlfilhplklifjaa.X
open Go.RowKit Go.Proofs.YtlfilhplklifjaaW.PrintWords Go.Proofs.YtlfilhplklifjaaW.PrintLast Go.Proofs.YtlfilhplklifjaaW.PrintMore
attribute [local go_sem] max2_int min2_int max_two min_two max_three min_three max_four min_four   -- for this text's walks alone
set_option linter.unusedVariables false
set_option linter.unusedSimpArgs false

/-! ### cmp_isNaN_int: function 81 -/
def cmp_isNaN_int.f (a0 : Int) : Option (Bool) := some (a0 != a0)
set_option maxHeartbeats 8000000 in
set_option maxRecDepth 100000 in
theorem cmp_isNaN_int.calls (a0 : Int) (r : Bool) (w : World) (h : cmp_isNaN_int.f a0 = some r) :
  Calls Try.prog 81 #[.int .i64 a0] w fun e w' => e = .returned (.bool r) ∧ Drawn0 w w' := by
 have H : (some (a0 != a0)) = some r := h
 clear h
 obtain rfl := Option.some.inj H
 go_enter Try.func81, Try.ntmps81
 go_wp2
 go_ret
 exact ⟨by first | rfl | (simp; done) | (simp [*]; done), by repeat (first | exact Drawn0.refl _ | apply Drawn0.step)⟩

end Go.Proofs.Ytlfilhplklifjaa.X

namespace Go.Proofs.Ytlfilhplklifjaa.X
open Go.RowKit Go.Proofs.YtlfilhplklifjaaW.PrintWords Go.Proofs.YtlfilhplklifjaaW.PrintLast Go.Proofs.YtlfilhplklifjaaW.PrintMore
attribute [local go_sem] max2_int min2_int max_two min_two max_three min_three max_four min_four   -- for this text's walks alone
set_option linter.unusedVariables false
set_option linter.unusedSimpArgs false

/-! ### cmp_Less_int: function 59 -/
def cmp_Less_int.f (a0 : Int) (a1 : Int) : Option (Bool) := (cmp_isNaN_int.f a0).bind fun t480 => (if t480 = true then ((cmp_isNaN_int.f a1).bind fun t481 => (if t481 = true then (some (decide (a0 < a1))) else (some true))) else (some (decide (a0 < a1))))
set_option maxHeartbeats 8000000 in
set_option maxRecDepth 100000 in
theorem cmp_Less_int.calls (a0 : Int) (a1 : Int) (r : Bool) (w : World) (h : cmp_Less_int.f a0 a1 = some r) :
  Calls Try.prog 59 #[.int .i64 a0, .int .i64 a1] w fun e w' => e = .returned (.bool r) ∧ Drawn0 w w' := by
 have H : ((cmp_isNaN_int.f a0).bind fun t480 => (if t480 = true then ((cmp_isNaN_int.f a1).bind fun t481 => (if t481 = true then (some (decide (a0 < a1))) else (some true))) else (some (decide (a0 < a1))))) = some r := h
 clear h
 replace H := Option.bind_eq_some_iff.mp H
 obtain ⟨t480, A30, H⟩ := H
 replace H : (if t480 = true then ((cmp_isNaN_int.f a1).bind fun t481 => (if t481 = true then (some (decide (a0 < a1))) else (some true))) else (some (decide (a0 < a1)))) = some r := H
 have A3 := Aside0.mk A30
 clear A30
 by_cases c4 : t480 = true
 ·subst c4
  have H1 : ((cmp_isNaN_int.f a1).bind fun t481 => (if t481 = true then (some (decide (a0 < a1))) else (some true))) = some r := by rw [if_pos rfl] at H; exact H
  clear H
  have H := H1
  clear H1
  replace H := Option.bind_eq_some_iff.mp H
  obtain ⟨t481, A50, H⟩ := H
  replace H : (if t481 = true then (some (decide (a0 < a1))) else (some true)) = some r := H
  have A5 := Aside0.mk A50
  clear A50
  by_cases c6 : t481 = true
  ·subst c6
   have H1 : (some (decide (a0 < a1))) = some r := by rw [if_pos rfl] at H; exact H
   clear H
   have H := H1
   clear H1
   obtain rfl := Option.some.inj H
   go_enter Try.func59, Try.ntmps59
   go_wp2_with (first | ((with_reducible refine gate_callee (f := 81) rfl ?_); refine goesL_ (some 6) rfl rfl Try.func81 (by kernel_rfl) rfl #[.int .i64 a0] rfl (by (try simp only [List.map_toArray, List.map_cons, List.map_nil]); first | done | rfl | (simp only [List.length_drop, List.length_take]; rfl)) ?_; (with_reducible refine (cmp_isNaN_int.calls a0 true _ A3.out).mono ?_); rintro e w' ⟨rfl, ⟨nd, rfl⟩⟩; refine ⟨_, rfl, ?_⟩) | (go_at_call 81; (with_reducible refine (cmp_isNaN_int.calls a1 true _ A5.out).mono ?_); rintro e w' ⟨rfl, ⟨nd, rfl⟩⟩))
   go_ret
   exact ⟨by first | rfl | (simp; done) | (simp [*]; done), by repeat (first | exact Drawn0.refl _ | apply Drawn0.step)⟩
  ·replace c6 := Bool.eq_false_iff.mpr c6
   subst c6
   have H1 : (some true) = some r := by rw [if_neg (show ¬ (false = true) by decide)] at H; exact H
   clear H
   have H := H1
   clear H1
   obtain rfl := Option.some.inj H
   go_enter Try.func59, Try.ntmps59
   go_wp2_with (first | ((with_reducible refine gate_callee (f := 81) rfl ?_); refine goesL_ (some 6) rfl rfl Try.func81 (by kernel_rfl) rfl #[.int .i64 a0] rfl (by (try simp only [List.map_toArray, List.map_cons, List.map_nil]); first | done | rfl | (simp only [List.length_drop, List.length_take]; rfl)) ?_; (with_reducible refine (cmp_isNaN_int.calls a0 true _ A3.out).mono ?_); rintro e w' ⟨rfl, ⟨nd, rfl⟩⟩; refine ⟨_, rfl, ?_⟩) | (go_at_call 81; (with_reducible refine (cmp_isNaN_int.calls a1 false _ A5.out).mono ?_); rintro e w' ⟨rfl, ⟨nd, rfl⟩⟩))
   go_ret
   exact ⟨by first | rfl | (simp; done) | (simp [*]; done), by repeat (first | exact Drawn0.refl _ | apply Drawn0.step)⟩
 ·replace c4 := Bool.eq_false_iff.mpr c4
  subst c4
  have H1 : (some (decide (a0 < a1))) = some r := by rw [if_neg (show ¬ (false = true) by decide)] at H; exact H
  clear H
  have H := H1
  clear H1
  obtain rfl := Option.some.inj H
  go_enter Try.func59, Try.ntmps59
  go_wp2_with (first | ((with_reducible refine gate_callee (f := 81) rfl ?_); refine goesL_ (some 6) rfl rfl Try.func81 (by kernel_rfl) rfl #[.int .i64 a0] rfl (by (try simp only [List.map_toArray, List.map_cons, List.map_nil]); first | done | rfl | (simp only [List.length_drop, List.length_take]; rfl)) ?_; (with_reducible refine (cmp_isNaN_int.calls a0 false _ A3.out).mono ?_); rintro e w' ⟨rfl, ⟨nd, rfl⟩⟩; refine ⟨_, rfl, ?_⟩))
  go_ret
  exact ⟨by first | rfl | (simp; done) | (simp [*]; done), by repeat (first | exact Drawn0.refl _ | apply Drawn0.step)⟩

end Go.Proofs.Ytlfilhplklifjaa.X

namespace Go.Proofs.Ytlfilhplklifjaa.X
open Go.RowKit Go.Proofs.YtlfilhplklifjaaW.PrintWords Go.Proofs.YtlfilhplklifjaaW.PrintLast Go.Proofs.YtlfilhplklifjaaW.PrintMore
attribute [local go_sem] max2_int min2_int max_two min_two max_three min_three max_four min_four   -- for this text's walks alone
set_option linter.unusedVariables false
set_option linter.unusedSimpArgs false

/-! ### slices_IsSorted_int_int: function 33 -/
def slices_IsSorted_int_int.l0 : Nat → List Int → Int → Option (Bool)
 | 0, _, _ => none
 | k + 1, x0, x3 => if x3 > 0 then (if 0 ≤ x3 then (if x3 < (x0.length : Int) then (if 0 ≤ (wrap64 (x3 - 1)) then (if (wrap64 (x3 - 1)) < (x0.length : Int) then ((cmp_Less_int.f (rd x0 x3) (rd x0 (wrap64 (x3 - 1)))).bind fun t484 => (if t484 = true then (some false) else (slices_IsSorted_int_int.l0 k x0 (wrap64 (x3 - 1))))) else (none)) else (none)) else (none)) else (none)) else (some true)
def slices_IsSorted_int_int.f (k : Nat) (l0 : List Int) : Option (Bool) := slices_IsSorted_int_int.l0 k l0 (wrap64 ((l0.length : Int) - 1))
set_option maxHeartbeats 8000000 in
set_option maxRecDepth 100000 in
theorem slices_IsSorted_int_int.calls (k : Nat) (A0 : Option Addr) (c0 : Nat) (l0 : List Int) (r : Bool) (w : World) (hr0 : Kd.C (Kd.int .i64) w A0 l0.length l0) (hc0 : l0.length ≤ c0) (h : slices_IsSorted_int_int.f k l0 = some r) :
  Calls Try.prog 33 #[.slice A0 l0.length c0] w fun e w' => e = .returned (.bool r) ∧ Drawn0 w w' := by
 have HR0 := Aside0.mk hr0
 have HC0 := Aside0.mk hc0
 clear hr0 hc0
 have H : (slices_IsSorted_int_int.l0 k l0 (wrap64 ((l0.length : Int) - 1))) = some r := h
 clear h
 have H' := Aside0.mk H
 clear H
 go_enter Try.func33, Try.ntmps33
 go_wp2
 repeat (go_quiet (fail); try go_wp2)
 go_loopg [3] k (fun kq v3 w' => ∃ (x3_1 : Int), v3 = .int .i64 x3_1 ∧ Aside0 (slices_IsSorted_int_int.l0 kq l0 x3_1 = some r) ∧ Aside0 (kq ≤ k) ∧ Drawn0 w w')
 case atStart => exact ⟨(wrap64 ((l0.length : Int) - 1)), (by first | rfl | (simp; done) | (simp [*]; done)), H', ⟨Nat.le_refl _⟩, by repeat (first | exact Drawn0.refl _ | apply Drawn0.step)⟩
 case round =>
  clear H'
  obtain ⟨x3_1, rfl, HA, HK1, ⟨m1, rfl⟩⟩ := hrel
  cases gk with
  | zero => exact absurd HA.out (by simp [slices_IsSorted_int_int.l0])
  | succ k1 =>
   have H := HA.out
   clear HA
   simp only [slices_IsSorted_int_int.l0] at H
   by_cases c2 : x3_1 > 0
   ·rw [if_pos c2] at H
    have c2b0 : decide (0 < x3_1) = true := decide_eq_true c2
    clear c2
    by_cases c3 : 0 ≤ x3_1
    ·rw [if_pos c3] at H
     have c3b0 : decide (0 ≤ x3_1) = true := decide_eq_true c3
     clear c3
     by_cases c4 : x3_1 < (l0.length : Int)
     ·rw [if_pos c4] at H
      have c4b0 : decide (x3_1 < (l0.length : Int)) = true := decide_eq_true c4
      clear c4
      obtain ⟨ji5, hji5⟩ : ∃ j_ : Int, (wrap64 (x3_1 - 1)) = j_ := ⟨_, rfl⟩
      replace H : (if 0 ≤ (ji5) then (if (ji5) < (l0.length : Int) then ((cmp_Less_int.f (rd l0 x3_1) (rd l0 (ji5))).bind fun t484 => (if t484 = true then (some false) else (slices_IsSorted_int_int.l0 k1 l0 ji5))) else (none)) else (none)) = some r := by first | (rw [hji5] at H; exact H) | (simp only [hji5] at H ⊢; exact H)
      have hji5w : (IntKind.i64.wrap (x3_1 - 1)) = ji5 := (i64_w _).trans hji5
      by_cases c6 : 0 ≤ (ji5)
      ·rw [if_pos c6] at H
       have c6b0 : decide (0 ≤ (ji5)) = true := decide_eq_true c6
       clear c6
       by_cases c7 : (ji5) < (l0.length : Int)
       ·rw [if_pos c7] at H
        have c7b0 : decide ((ji5) < (l0.length : Int)) = true := decide_eq_true c7
        clear c7
        replace H := Option.bind_eq_some_iff.mp H
        obtain ⟨t484, A80, H⟩ := H
        replace H : (if t484 = true then (some false) else (slices_IsSorted_int_int.l0 k1 l0 ji5)) = some r := H
        have A8 := Aside0.mk A80
        clear A80
        by_cases c9 : t484 = true
        ·subst c9
         have H1 : (some false) = some r := by rw [if_pos rfl] at H; exact H
         clear H
         have H := H1
         clear H1
         obtain rfl := Option.some.inj H
         have p482 : 0 ≤ (x3_1 : Int) := of_decide_eq_true (by first | (with_reducible assumption) | assumption)
         have q482 : x3_1 < (l0.length : Int) := of_decide_eq_true (by first | (with_reducible assumption) | assumption)
         obtain ⟨ad482, e482, hx482_0⟩ := Kd.at_int HR0.out x3_1 p482 q482
         cases e482
         replace p482 := eq_true p482
         replace q482 := eq_true q482
         have p483 : 0 ≤ ((ji5) : Int) := of_decide_eq_true (by first | (with_reducible assumption) | assumption)
         have q483 : (ji5) < (l0.length : Int) := of_decide_eq_true (by first | (with_reducible assumption) | assumption)
         obtain ⟨ad483, e483, hx483_0⟩ := Kd.at_int HR0.out (ji5) p483 q483
         obtain rfl : ad482 = ad483 := (by injection e483)
         replace p483 := eq_true p483
         replace q483 := eq_true q483
         go_wp2_with (first | (go_at_call 59; (with_reducible refine (cmp_Less_int.calls (rd l0 x3_1) (rd l0 (ji5)) true _ A8.out).mono ?_); rintro e w' ⟨rfl, ⟨nd, rfl⟩⟩; (try first | exact ⟨rfl, _, World.drewN_drewN _ _ _⟩ | exact ⟨rfl, _, Eq.trans (World.drewN_drewN _ _ _) (congrArg (World.drewN _) (Nat.add_assoc _ _ _))⟩)))
         repeat (go_quiet (first | (go_at_call 59; (with_reducible refine (cmp_Less_int.calls (rd l0 x3_1) (rd l0 (ji5)) true _ A8.out).mono ?_); rintro e w' ⟨rfl, ⟨nd, rfl⟩⟩; (try first | exact ⟨rfl, _, World.drewN_drewN _ _ _⟩ | exact ⟨rfl, _, Eq.trans (World.drewN_drewN _ _ _) (congrArg (World.drewN _) (Nat.add_assoc _ _ _))⟩))); try go_wp2_with (first | (go_at_call 59; (with_reducible refine (cmp_Less_int.calls (rd l0 x3_1) (rd l0 (ji5)) true _ A8.out).mono ?_); rintro e w' ⟨rfl, ⟨nd, rfl⟩⟩; (try first | exact ⟨rfl, _, World.drewN_drewN _ _ _⟩ | exact ⟨rfl, _, Eq.trans (World.drewN_drewN _ _ _) (congrArg (World.drewN _) (Nat.add_assoc _ _ _))⟩))))
         go_ret
         exact ⟨by first | rfl | (simp; done) | (simp only [← hji5] <;> (first | rfl | simp)) | (simp [*]; done), by repeat (first | exact Drawn0.refl _ | apply Drawn0.step)⟩
        ·replace c9 := Bool.eq_false_iff.mpr c9
         subst c9
         have H1 : (slices_IsSorted_int_int.l0 k1 l0 ji5) = some r := by rw [if_neg (show ¬ (false = true) by decide)] at H; exact H
         clear H
         have H := H1
         clear H1
         have H' := Aside0.mk H
         clear H
         have p482 : 0 ≤ (x3_1 : Int) := of_decide_eq_true (by first | (with_reducible assumption) | assumption)
         have q482 : x3_1 < (l0.length : Int) := of_decide_eq_true (by first | (with_reducible assumption) | assumption)
         obtain ⟨ad482, e482, hx482_0⟩ := Kd.at_int HR0.out x3_1 p482 q482
         cases e482
         replace p482 := eq_true p482
         replace q482 := eq_true q482
         have p483 : 0 ≤ ((ji5) : Int) := of_decide_eq_true (by first | (with_reducible assumption) | assumption)
         have q483 : (ji5) < (l0.length : Int) := of_decide_eq_true (by first | (with_reducible assumption) | assumption)
         obtain ⟨ad483, e483, hx483_0⟩ := Kd.at_int HR0.out (ji5) p483 q483
         obtain rfl : ad482 = ad483 := (by injection e483)
         replace p483 := eq_true p483
         replace q483 := eq_true q483
         go_wp2_with (first | (go_at_call 59; (with_reducible refine (cmp_Less_int.calls (rd l0 x3_1) (rd l0 (ji5)) false _ A8.out).mono ?_); rintro e w' ⟨rfl, ⟨nd, rfl⟩⟩; (try first | exact ⟨rfl, _, World.drewN_drewN _ _ _⟩ | exact ⟨rfl, _, Eq.trans (World.drewN_drewN _ _ _) (congrArg (World.drewN _) (Nat.add_assoc _ _ _))⟩)))
         repeat (go_quiet (first | (go_at_call 59; (with_reducible refine (cmp_Less_int.calls (rd l0 x3_1) (rd l0 (ji5)) false _ A8.out).mono ?_); rintro e w' ⟨rfl, ⟨nd, rfl⟩⟩; (try first | exact ⟨rfl, _, World.drewN_drewN _ _ _⟩ | exact ⟨rfl, _, Eq.trans (World.drewN_drewN _ _ _) (congrArg (World.drewN _) (Nat.add_assoc _ _ _))⟩))); try go_wp2_with (first | (go_at_call 59; (with_reducible refine (cmp_Less_int.calls (rd l0 x3_1) (rd l0 (ji5)) false _ A8.out).mono ?_); rintro e w' ⟨rfl, ⟨nd, rfl⟩⟩; (try first | exact ⟨rfl, _, World.drewN_drewN _ _ _⟩ | exact ⟨rfl, _, Eq.trans (World.drewN_drewN _ _ _) (congrArg (World.drewN _) (Nat.add_assoc _ _ _))⟩))))
         go_roundg k1
         case measure => have := HK1.out; omega
         case rel => exact ⟨(ji5), (by first | rfl | (simp; done) | (simp only [← hji5] <;> (first | rfl | simp)) | (simp [*]; done)), H', ⟨by have := HK1.out; omega⟩, by repeat (first | exact Drawn0.refl _ | apply Drawn0.step)⟩
       ·rw [if_neg c7] at H
        exact absurd H (by simp)
      ·rw [if_neg c6] at H
       exact absurd H (by simp)
     ·rw [if_neg c4] at H
      exact absurd H (by simp)
    ·rw [if_neg c3] at H
     exact absurd H (by simp)
   ·rw [if_neg c2] at H
    have c2b0 : decide (0 < x3_1) = false := decide_eq_false c2
    clear c2
    obtain rfl := Option.some.inj H
    go_wp2
    repeat (go_quiet (fail); try go_wp2)
    go_ret
    exact ⟨by first | rfl | (simp; done) | (simp [*]; done), by repeat (first | exact Drawn0.refl _ | apply Drawn0.step)⟩

end Go.Proofs.Ytlfilhplklifjaa.X

namespace Go.Proofs.Ytlfilhplklifjaa.X
open Go.RowKit Go.Proofs.YtlfilhplklifjaaW.PrintWords Go.Proofs.YtlfilhplklifjaaW.PrintLast Go.Proofs.YtlfilhplklifjaaW.PrintMore
attribute [local go_sem] max2_int min2_int max_two min_two max_three min_three max_four min_four   -- for this text's walks alone
set_option linter.unusedVariables false
set_option linter.unusedSimpArgs false

/-! ### slices_Index_int_int: function 60 -/
def slices_Index_int_int.l0 : Nat → List Int → Int → Int → Int → Option (Int)
 | 0, _, _, _, _ => none
 | k + 1, x0, x1, x7, x8 => if x8 < x7 then (if 0 ≤ x8 then (if x8 < (x0.length : Int) then (if x1 = (rd x0 x8) then (some x8) else (slices_Index_int_int.l0 k x0 x1 x7 (wrap64 (x8 + 1)))) else (none)) else (none)) else (some (-1))
def slices_Index_int_int.f (k : Nat) (l0 : List Int) (a1 : Int) : Option (Int) := slices_Index_int_int.l0 k l0 a1 (l0.length : Int) 0
set_option maxHeartbeats 8000000 in
set_option maxRecDepth 100000 in
theorem slices_Index_int_int.calls (k : Nat) (A0 : Option Addr) (c0 : Nat) (l0 : List Int) (a1 : Int) (r : Int) (w : World) (hr0 : Kd.C (Kd.int .i64) w A0 l0.length l0) (hc0 : l0.length ≤ c0) (h : slices_Index_int_int.f k l0 a1 = some r) :
  Calls Try.prog 60 #[.slice A0 l0.length c0, .int .i64 a1] w fun e w' => e = .returned (.int .i64 r) ∧ Drawn0 w w' := by
 have HR0 := Aside0.mk hr0
 have HC0 := Aside0.mk hc0
 clear hr0 hc0
 have H : (slices_Index_int_int.l0 k l0 a1 (l0.length : Int) 0) = some r := h
 clear h
 have H' := Aside0.mk H
 clear H
 go_enter Try.func60, Try.ntmps60
 go_wp2
 go_loopg [8] k (fun kq v8 w' => ∃ (x8_1 : Int), v8 = .int .i64 x8_1 ∧ Aside0 (slices_Index_int_int.l0 kq l0 a1 (l0.length : Int) x8_1 = some r) ∧ Aside0 (kq ≤ k) ∧ Drawn0 w w')
 case atStart => exact ⟨(0), (by first | rfl | (simp; done) | (simp [*]; done)), H', ⟨Nat.le_refl _⟩, by repeat (first | exact Drawn0.refl _ | apply Drawn0.step)⟩
 case round =>
  clear H'
  try clear p2
  obtain ⟨x8_1, rfl, HA, HK1, ⟨m1, rfl⟩⟩ := hrel
  cases gk with
  | zero => exact absurd HA.out (by simp [slices_Index_int_int.l0])
  | succ k1 =>
   have H := HA.out
   clear HA
   simp only [slices_Index_int_int.l0] at H
   by_cases c3 : x8_1 < (l0.length : Int)
   ·rw [if_pos c3] at H
    have c3b0 : decide (x8_1 < (l0.length : Int)) = true := decide_eq_true c3
    clear c3
    by_cases c4 : 0 ≤ x8_1
    ·rw [if_pos c4] at H
     have c4b0 : decide (0 ≤ x8_1) = true := decide_eq_true c4
     clear c4
     by_cases c5 : x8_1 < (l0.length : Int)
     ·rw [if_pos c5] at H
      have c5b0 : decide (x8_1 < (l0.length : Int)) = true := decide_eq_true c5
      clear c5
      by_cases c6 : a1 = (rd l0 x8_1)
      ·rw [if_pos c6] at H
       have c6b0 : (a1 == (rd l0 x8_1)) = true := beq_iff_eq.mpr c6
       have c6b1 : (a1 != (rd l0 x8_1)) = false := bne_eq_false_iff_eq.mpr c6
       clear c6
       obtain rfl := Option.some.inj H
       have p485 : 0 ≤ (x8_1 : Int) := of_decide_eq_true (by first | (with_reducible assumption) | assumption)
       have q485 : x8_1 < (l0.length : Int) := of_decide_eq_true (by first | (with_reducible assumption) | assumption)
       obtain ⟨ad485, e485, hx485_0⟩ := Kd.at_int HR0.out x8_1 p485 q485
       cases e485
       replace p485 := eq_true p485
       replace q485 := eq_true q485
       go_wp2
       go_ret
       exact ⟨by first | rfl | (simp; done) | (simp [*]; done), by repeat (first | exact Drawn0.refl _ | apply Drawn0.step)⟩
      ·rw [if_neg c6] at H
       have c6b0 : (a1 == (rd l0 x8_1)) = false := beq_eq_false_iff_ne.mpr c6
       have c6b1 : (a1 != (rd l0 x8_1)) = true := bne_iff_ne.mpr c6
       have H' := Aside0.mk H
       clear H
       have p485 : 0 ≤ (x8_1 : Int) := of_decide_eq_true (by first | (with_reducible assumption) | assumption)
       have q485 : x8_1 < (l0.length : Int) := of_decide_eq_true (by first | (with_reducible assumption) | assumption)
       obtain ⟨ad485, e485, hx485_0⟩ := Kd.at_int HR0.out x8_1 p485 q485
       cases e485
       replace p485 := eq_true p485
       replace q485 := eq_true q485
       go_wp2
       go_roundg k1
       case measure => have := HK1.out; omega
       case rel => exact ⟨(wrap64 (x8_1 + 1)), (by first | rfl | (simp; done) | (simp [*]; done)), H', ⟨by have := HK1.out; omega⟩, by repeat (first | exact Drawn0.refl _ | apply Drawn0.step)⟩
     ·rw [if_neg c5] at H
      exact absurd H (by simp)
    ·rw [if_neg c4] at H
     exact absurd H (by simp)
   ·rw [if_neg c3] at H
    have c3b0 : decide (x8_1 < (l0.length : Int)) = false := decide_eq_false c3
    clear c3
    obtain rfl := Option.some.inj H
    go_wp2
    go_ret
    exact ⟨by first | rfl | (simp; done) | (simp [*]; done), by repeat (first | exact Drawn0.refl _ | apply Drawn0.step)⟩

end Go.Proofs.Ytlfilhplklifjaa.X

namespace Go.Proofs.Ytlfilhplklifjaa.X
open Go.RowKit Go.Proofs.YtlfilhplklifjaaW.PrintWords Go.Proofs.YtlfilhplklifjaaW.PrintLast Go.Proofs.YtlfilhplklifjaaW.PrintMore
attribute [local go_sem] max2_int min2_int max_two min_two max_three min_three max_four min_four   -- for this text's walks alone
set_option linter.unusedVariables false
set_option linter.unusedSimpArgs false

/-! ### slices_Contains_int_int: function 34 -/
def slices_Contains_int_int.f (k : Nat) (l0 : List Int) (a1 : Int) : Option (Bool) := (slices_Index_int_int.f k l0 a1).bind fun t486 => (some (decide (t486 ≥ 0)))
set_option maxHeartbeats 8000000 in
set_option maxRecDepth 100000 in
theorem slices_Contains_int_int.calls (k : Nat) (A0 : Option Addr) (c0 : Nat) (l0 : List Int) (a1 : Int) (r : Bool) (w : World) (hr0 : Kd.C (Kd.int .i64) w A0 l0.length l0) (hc0 : l0.length ≤ c0) (h : slices_Contains_int_int.f k l0 a1 = some r) :
  Calls Try.prog 34 #[.slice A0 l0.length c0, .int .i64 a1] w fun e w' => e = .returned (.bool r) ∧ Drawn0 w w' := by
 have HR0 := Aside0.mk hr0
 have HC0 := Aside0.mk hc0
 clear hr0 hc0
 have H : ((slices_Index_int_int.f k l0 a1).bind fun t486 => (some (decide (t486 ≥ 0)))) = some r := h
 clear h
 replace H := Option.bind_eq_some_iff.mp H
 obtain ⟨t486, A30, H⟩ := H
 replace H : (some (decide (t486 ≥ 0))) = some r := H
 have A3 := Aside0.mk A30
 clear A30
 obtain rfl := Option.some.inj H
 go_enter Try.func34, Try.ntmps34
 go_wp2_with (first | ((with_reducible refine gate_callee (f := 60) rfl ?_); refine goesL_ (some 7) rfl rfl Try.func60 (by kernel_rfl) rfl #[.slice A0 l0.length c0, .int .i64 a1] rfl (by (try simp only [List.map_toArray, List.map_cons, List.map_nil]); first | done | rfl | (simp only [List.length_drop, List.length_take]; rfl)) ?_; (with_reducible refine (slices_Index_int_int.calls k _ _ l0 a1 t486 _ ?side1 ?side2 A3.out).mono ?_); (case side1 => repeat (first | exact HR0.out | (with_reducible refine Kd.C_alloc ?_ _) | (with_reducible refine Kd.C_drewN ?_ _) | (with_reducible refine Kd.C_drew ?_))); (case side2 => exact HC0.out); rintro e w' ⟨rfl, ⟨nd, rfl⟩⟩; refine ⟨_, rfl, ?_⟩))
 go_ret
 exact ⟨by first | rfl | (simp; done) | (simp [*]; done), by repeat (first | exact Drawn0.refl _ | apply Drawn0.step)⟩

end Go.Proofs.Ytlfilhplklifjaa.X

namespace Go.Proofs.Ytlfilhplklifjaa.X
open Go.RowKit Go.Proofs.YtlfilhplklifjaaW.PrintWords Go.Proofs.YtlfilhplklifjaaW.PrintLast Go.Proofs.YtlfilhplklifjaaW.PrintMore
attribute [local go_sem] max2_int min2_int max_two min_two max_three min_three max_four min_four   -- for this text's walks alone
set_option linter.unusedVariables false
set_option linter.unusedSimpArgs false

attribute [local go_sem high] eqA29
/-! ### timesynclaw24_ChooseTruth: function 10 -/
mutual
def timesynclaw24_ChooseTruth.j0 : Nat → Int → List (S37) → List Int → Int → List Int → Bool → Int → Int → Option (Bool)
 | 0, _, _, _, _, _, _, _, _ => none
 | k + 1, x0, x5, x6, x8, x9, x58, x497000, x497001 => if x58 = true then (none) else (if x8 = 0 then (if x497000 > (wrap64 (x0)) then (timesynclaw24_ChooseTruth.j1 k x5 x6 x9 true x497000 x497001) else (if x497001 < (wrap64 (x0)) then (timesynclaw24_ChooseTruth.j1 k x5 x6 x9 true x497000 x497001) else (if (wrap64 (2 * (x6.length : Int))) ≤ (x5.length : Int) then (timesynclaw24_ChooseTruth.j1 k x5 x6 x9 true x497000 x497001) else ((slices_IsSorted_int_int.f k x6).bind fun t502 => (if t502 = true then ((slices_IsSorted_int_int.f k x9).bind fun t503 => (if t503 = true then (timesynclaw24_ChooseTruth.j1 k x5 x6 x9 ((wrap64 ((x6.length : Int) + (x9.length : Int))) != (x5.length : Int)) x497000 x497001) else (timesynclaw24_ChooseTruth.j1 k x5 x6 x9 true x497000 x497001))) else (timesynclaw24_ChooseTruth.j1 k x5 x6 x9 true x497000 x497001)))))) else ((timesynclaw24_awake.f k).bind fun t501 => (some t501)))
def timesynclaw24_ChooseTruth.j1 : Nat → List (S37) → List Int → List Int → Bool → Int → Int → Option (Bool)
 | 0, _, _, _, _, _, _ => none
 | k + 1, x5, x6, x9, x101, x497000, x497001 => if x101 = true then (none) else (timesynclaw24_ChooseTruth.l0 k x5 x6 x9 x5 (x5.length : Int) 0 x497000 x497001)
def timesynclaw24_ChooseTruth.l0 : Nat → List (S37) → List Int → List Int → List (S37) → Int → Int → Int → Int → Option (Bool)
 | 0, _, _, _, _, _, _, _, _ => none
 | k + 1, x5, x6, x9, x102, x103, x104, x497000, x497001 => if x104 < x103 then (if 0 ≤ x104 then (if x104 < (x102.length : Int) then (if x497000 ≤ ((rd_T37 x102 x104).f1) then (timesynclaw24_ChooseTruth.j3 k x5 x6 x9 x104 (decide (((rd_T37 x102 x104).f1) ≤ x497001)) x102 x103 x104 x497000 x497001) else (timesynclaw24_ChooseTruth.j3 k x5 x6 x9 x104 false x102 x103 x104 x497000 x497001)) else (none)) else (none)) else ((choose_Majority.f k x5 x497000 x497001).bind fun t504 => (if t504 = true then ((timesynclaw24_awake.f k).bind fun t505 => (some t505)) else (none)))
def timesynclaw24_ChooseTruth.j3 : Nat → List (S37) → List Int → List Int → Int → Bool → List (S37) → Int → Int → Int → Int → Option (Bool)
 | 0, _, _, _, _, _, _, _, _, _, _ => none
 | k + 1, x5, x6, x9, x11, x13, x102, x103, x104, x497000, x497001 => (slices_Contains_int_int.f k x6 x11).bind fun t508 => (if (t508 != x13) = true then (none) else ((slices_Contains_int_int.f k x9 x11).bind fun t509 => (if (t509 == x13) = true then (none) else (timesynclaw24_ChooseTruth.l0 k x5 x6 x9 x102 x103 (wrap64 (x104 + 1)) x497000 x497001))))
end
def timesynclaw24_ChooseTruth.f (k : Nat) (a0 : Int) (l1 : List (S83)) : Option (Bool) := (timesynclaw24_around.f k (wrap64 (a0)) l1).bind fun t487 => ((choose_Select.f k t487).bind fun bt490 => ((choose_Falsetickers.f k t487).bind fun bt497 => (if bt490.2.2.2 = bt497.2 then (if bt490.2.2.2 = 0 then (timesynclaw24_ChooseTruth.j0 k a0 t487 bt490.1 bt490.2.2.2 bt497.1 false bt490.2.1 bt490.2.2.1) else (if bt490.2.2.2 = 11 then (if (bt490.1.length : Int) = 0 then (if (bt497.1.length : Int) = 0 then (timesynclaw24_ChooseTruth.j0 k a0 t487 bt490.1 bt490.2.2.2 bt497.1 (!(bt490.2.1 == 0) || (!(bt490.2.2.1 == 0))) bt490.2.1 bt490.2.2.1) else (timesynclaw24_ChooseTruth.j0 k a0 t487 bt490.1 bt490.2.2.2 bt497.1 true bt490.2.1 bt490.2.2.1)) else (timesynclaw24_ChooseTruth.j0 k a0 t487 bt490.1 bt490.2.2.2 bt497.1 true bt490.2.1 bt490.2.2.1)) else (timesynclaw24_ChooseTruth.j0 k a0 t487 bt490.1 bt490.2.2.2 bt497.1 true bt490.2.1 bt490.2.2.1))) else (timesynclaw24_ChooseTruth.j0 k a0 t487 bt490.1 bt490.2.2.2 bt497.1 true bt490.2.1 bt490.2.2.1))))
set_option maxHeartbeats 8000000 in
set_option maxRecDepth 100000 in
theorem timesynclaw24_ChooseTruth.calls (k : Nat) (a0 : Int) (A1 : Option Addr) (c1 : Nat) (l1 : List (S83)) (r : Bool) (w : World) (hr1 : Kd.C k83 w A1 l1.length l1) (hc1 : l1.length ≤ c1) (h : timesynclaw24_ChooseTruth.f k a0 l1 = some r) :
  Calls Try.prog 10 #[.int .i32 a0, .slice A1 l1.length c1] w fun e w' => e = .returned (.bool r) ∧ Below w.heap.size w w' := by
 have hu29 := Try.underlying29
 have hu37 := Try.underlying37
 have HR1 := Aside0.mk hr1
 have HC1 := Aside0.mk hc1
 clear hr1 hc1
 have HB := Aside0.mk (Below.refl w.heap.size w)
 have H : ((timesynclaw24_around.f k (wrap64 (a0)) l1).bind fun t487 => ((choose_Select.f k t487).bind fun bt490 => ((choose_Falsetickers.f k t487).bind fun bt497 => (if bt490.2.2.2 = bt497.2 then (if bt490.2.2.2 = 0 then (timesynclaw24_ChooseTruth.j0 k a0 t487 bt490.1 bt490.2.2.2 bt497.1 false bt490.2.1 bt490.2.2.1) else (if bt490.2.2.2 = 11 then (if (bt490.1.length : Int) = 0 then (if (bt497.1.length : Int) = 0 then (timesynclaw24_ChooseTruth.j0 k a0 t487 bt490.1 bt490.2.2.2 bt497.1 (!(bt490.2.1 == 0) || (!(bt490.2.2.1 == 0))) bt490.2.1 bt490.2.2.1) else (timesynclaw24_ChooseTruth.j0 k a0 t487 bt490.1 bt490.2.2.2 bt497.1 true bt490.2.1 bt490.2.2.1)) else (timesynclaw24_ChooseTruth.j0 k a0 t487 bt490.1 bt490.2.2.2 bt497.1 true bt490.2.1 bt490.2.2.1)) else (timesynclaw24_ChooseTruth.j0 k a0 t487 bt490.1 bt490.2.2.2 bt497.1 true bt490.2.1 bt490.2.2.1))) else (timesynclaw24_ChooseTruth.j0 k a0 t487 bt490.1 bt490.2.2.2 bt497.1 true bt490.2.1 bt490.2.2.1))))) = some r := h
 clear h
 replace H := Option.bind_eq_some_iff.mp H
 obtain ⟨t487, A30, H⟩ := H
 replace H : ((choose_Select.f k t487).bind fun bt490 => ((choose_Falsetickers.f k t487).bind fun bt497 => (if bt490.2.2.2 = bt497.2 then (if bt490.2.2.2 = 0 then (timesynclaw24_ChooseTruth.j0 k a0 t487 bt490.1 bt490.2.2.2 bt497.1 false bt490.2.1 bt490.2.2.1) else (if bt490.2.2.2 = 11 then (if (bt490.1.length : Int) = 0 then (if (bt497.1.length : Int) = 0 then (timesynclaw24_ChooseTruth.j0 k a0 t487 bt490.1 bt490.2.2.2 bt497.1 (!(bt490.2.1 == 0) || (!(bt490.2.2.1 == 0))) bt490.2.1 bt490.2.2.1) else (timesynclaw24_ChooseTruth.j0 k a0 t487 bt490.1 bt490.2.2.2 bt497.1 true bt490.2.1 bt490.2.2.1)) else (timesynclaw24_ChooseTruth.j0 k a0 t487 bt490.1 bt490.2.2.2 bt497.1 true bt490.2.1 bt490.2.2.1)) else (timesynclaw24_ChooseTruth.j0 k a0 t487 bt490.1 bt490.2.2.2 bt497.1 true bt490.2.1 bt490.2.2.1))) else (timesynclaw24_ChooseTruth.j0 k a0 t487 bt490.1 bt490.2.2.2 bt497.1 true bt490.2.1 bt490.2.2.1)))) = some r := H
 have A3 := Aside0.mk A30
 clear A30
 replace H := Option.bind_eq_some_iff.mp H
 obtain ⟨⟨t490, t493, t494, t495⟩, A40, H⟩ := H
 replace H : ((choose_Falsetickers.f k t487).bind fun bt497 => (if t495 = bt497.2 then (if t495 = 0 then (timesynclaw24_ChooseTruth.j0 k a0 t487 t490 t495 bt497.1 false t493 t494) else (if t495 = 11 then (if (t490.length : Int) = 0 then (if (bt497.1.length : Int) = 0 then (timesynclaw24_ChooseTruth.j0 k a0 t487 t490 t495 bt497.1 (!(t493 == 0) || (!(t494 == 0))) t493 t494) else (timesynclaw24_ChooseTruth.j0 k a0 t487 t490 t495 bt497.1 true t493 t494)) else (timesynclaw24_ChooseTruth.j0 k a0 t487 t490 t495 bt497.1 true t493 t494)) else (timesynclaw24_ChooseTruth.j0 k a0 t487 t490 t495 bt497.1 true t493 t494))) else (timesynclaw24_ChooseTruth.j0 k a0 t487 t490 t495 bt497.1 true t493 t494))) = some r := H
 have A4 := Aside0.mk A40
 clear A40
 replace H := Option.bind_eq_some_iff.mp H
 obtain ⟨⟨t497, t498⟩, A50, H⟩ := H
 replace H : (if t495 = t498 then (if t495 = 0 then (timesynclaw24_ChooseTruth.j0 k a0 t487 t490 t495 t497 false t493 t494) else (if t495 = 11 then (if (t490.length : Int) = 0 then (if (t497.length : Int) = 0 then (timesynclaw24_ChooseTruth.j0 k a0 t487 t490 t495 t497 (!(t493 == 0) || (!(t494 == 0))) t493 t494) else (timesynclaw24_ChooseTruth.j0 k a0 t487 t490 t495 t497 true t493 t494)) else (timesynclaw24_ChooseTruth.j0 k a0 t487 t490 t495 t497 true t493 t494)) else (timesynclaw24_ChooseTruth.j0 k a0 t487 t490 t495 t497 true t493 t494))) else (timesynclaw24_ChooseTruth.j0 k a0 t487 t490 t495 t497 true t493 t494)) = some r := H
 have A5 := Aside0.mk A50
 clear A50
 have HC6 := Aside0.mk H
 clear H
 go_enter Try.func10, Try.ntmps10
 go_upto_region 4 with (first | ((with_reducible refine gate_callee (f := 32) rfl ?_); refine goesL_ (some 17) rfl rfl Try.func32 (by kernel_rfl) rfl #[.int .i64 (wrap64 (a0)), .slice A1 l1.length c1] rfl (by (try simp only [List.map_toArray, List.map_cons, List.map_nil]); first | done | rfl | (simp only [List.length_drop, List.length_take]; rfl)) ?_; (with_reducible refine (timesynclaw24_around.calls k (wrap64 (a0)) _ _ l1 t487 _ ?side1 ?side2 A3.out).mono ?_); (case side1 => repeat (first | exact HR1.out | (with_reducible refine Kd.C_alloc ?_ _) | (with_reducible refine Kd.C_drewN ?_ _) | (with_reducible refine Kd.C_drew ?_))); (case side2 => exact HC1.out); rintro e w7 ⟨v488, rfl, ho0, hb⟩; refine ⟨_, rfl, ?_⟩; have n0_ := Aside0.mk (Kd.R_lower ho0 (below_size (by repeat (first | (with_reducible first | exact HB.out | apply below_alloc | apply pw_below_drewN | apply below_drew1) | exact HB.out)))); have n1_ := Aside0.mk (below_step (by repeat (first | (with_reducible first | exact HB.out | apply below_alloc | apply pw_below_drewN | apply below_drew1) | exact HB.out)) hb); clear HB; have HO489 := n0_; have HB := n1_; clear n0_ n1_; (try clear hb); (try clear hb2); (try clear hk); (try clear hi); (try clear ho0); obtain ⟨Ao8, co8, eo8⟩ := Kd.R_slice HO489.out; subst eo8) | ((with_reducible refine gate_callee (f := 17) rfl ?_); refine goesL_ (some 20) rfl rfl Try.func17 (by kernel_rfl) rfl #[.slice Ao8 t487.length co8] rfl (by (try simp only [List.map_toArray, List.map_cons, List.map_nil]); first | done | rfl | (simp only [List.length_drop, List.length_take]; rfl)) ?_; (with_reducible refine (choose_Select.calls k _ _ t487 t490 t493 t494 t495 _ ?side1 ?side2 A4.out).mono ?_); (case side1 => repeat (first | exact (Kd.R_reads' HO489.out).2.2 | (with_reducible refine Kd.C_alloc ?_ _) | (with_reducible refine Kd.C_drewN ?_ _) | (with_reducible refine Kd.C_drew ?_))); (case side2 => exact (Kd.R_reads' HO489.out).2.1); rintro e w9 ⟨v491, rfl, ho0, hb⟩; refine ⟨_, rfl, ?_⟩; have n0_ := Aside0.mk (Kd.R_below (by (with_reducible repeat (first | apply Kd.R_alloc | apply Kd.R_drewN | apply Kd.R_drew)); exact HO489.out) hb); have n1_ := Aside0.mk (Kd.R_lower ho0 (below_size (by repeat (first | (with_reducible first | exact HB.out | apply below_alloc | apply pw_below_drewN | apply below_drew1) | exact HB.out)))); have n2_ := Aside0.mk (below_step (by repeat (first | (with_reducible first | exact HB.out | apply below_alloc | apply pw_below_drewN | apply below_drew1) | exact HB.out)) hb); clear HO489; clear HB; have HO489 := n0_; have HO492 := n1_; have HB := n2_; clear n0_ n1_ n2_; (try clear hb); (try clear hb2); (try clear hk); (try clear hi); (try clear ho0)) | ((with_reducible refine gate_dst (N := 7) rfl ?_); (try (refine gate_guard (by rfl) ?_; dsimp only)); refine box_event ?hg (N := 7) ?hd (cs := #[.int .i64 0, .int .i64 0]) (t := 29) ?hr ?_; (case hd => rfl); (case hg => rfl); (case hr => first | (go_simp; done) | (go_simp; rfl)); intro gb496 hg w10 hbox hb; have n0_ := Aside0.mk (Kd.R_below (by (with_reducible repeat (first | apply Kd.R_alloc | apply Kd.R_drewN | apply Kd.R_drew)); exact HO489.out) hb); have n1_ := Aside0.mk (Kd.R_below (by (with_reducible repeat (first | apply Kd.R_alloc | apply Kd.R_drewN | apply Kd.R_drew)); exact HO492.out) hb); have n2_ := Aside0.mk (below_step (by repeat (first | (with_reducible first | exact HB.out | apply below_alloc | apply pw_below_drewN | apply below_drew1) | exact HB.out)) hb); have n3_ := Aside0.mk (hbox); have n4_ := Aside0.mk ((by rw [hg]; exact (below_size (by repeat (first | (with_reducible first | exact HB.out | apply below_alloc | apply pw_below_drewN | apply below_drew1) | exact HB.out))) : w.heap.size ≤ gb496)); have n5_ := Aside0.mk ((by rw [hg]; exact (below_size (by repeat (first | (with_reducible first | exact HB.out | apply below_alloc | apply pw_below_drewN | apply below_drew1) | exact HB.out))) : w.heap.size ≤ gb496)); clear HO489; clear HO492; clear HB; have HO489 := n0_; have HO492 := n1_; have HB := n2_; have BK496 := n3_; have GW496 := n4_; have GE496 := n5_; clear n0_ n1_ n2_ n3_ n4_ n5_; clear hb hbox hg; have hcz11_0 : w10.cell? ⟨gb496, 0, none⟩ = some (.int .i64 0) := (blk_cell BK496.out 0).trans rfl; have hcz11_1 : w10.cell? ⟨gb496, 1, none⟩ = some (.int .i64 0) := (blk_cell BK496.out 1).trans rfl; have hfz11_0 := blk_frozen BK496.out 0; have hfz11_1 := blk_frozen BK496.out 1) | ((with_reducible refine gate_callee (f := 19) rfl ?_); refine goesL_ (some 26) rfl rfl Try.func19 (by kernel_rfl) rfl #[.slice Ao8 t487.length co8] rfl (by (try simp only [List.map_toArray, List.map_cons, List.map_nil]); first | done | rfl | (simp only [List.length_drop, List.length_take]; rfl)) ?_; (with_reducible refine (choose_Falsetickers.calls k _ _ t487 t497 t498 _ ?side1 ?side2 A5.out).mono ?_); (case side1 => refine (Kd.R_reads' (e := 37) (base := w.heap.size) (ok := fun k_ => True) (n := t487.length) (c := co8) ?_).2.2; exact (by (with_reducible repeat (first | apply Kd.R_alloc | apply Kd.R_drewN | apply Kd.R_drew)); exact (Kd.R_mono (Kd.R_far (p := ⟨gb496, 1, none⟩) (Kd.R_far (p := ⟨gb496, 0, none⟩) (Kd.R_types HO489.out BK496.out (by decide)) (fun _ hk => hk.2) (.int .i64 t493)) (fun _ hk => hk.2) (.int .i64 t494)) (fun _ h_ => h_.1)))); (case side2 => exact (Kd.R_reads' HO489.out).2.1); rintro e w12 ⟨v499, rfl, ho0, hb⟩; refine ⟨_, rfl, ?_⟩; have n0_ := Aside0.mk (Kd.R_below (by (with_reducible repeat (first | apply Kd.R_alloc | apply Kd.R_drewN | apply Kd.R_drew)); exact (Kd.R_mono (Kd.R_far (p := ⟨gb496, 1, none⟩) (Kd.R_far (p := ⟨gb496, 0, none⟩) (Kd.R_types HO489.out BK496.out (by decide)) (fun _ hk => hk.2) (.int .i64 t493)) (fun _ hk => hk.2) (.int .i64 t494)) (fun _ h_ => h_.1))) hb); have n1_ := Aside0.mk (Kd.R_elder' (by (with_reducible repeat (first | apply Kd.R_alloc | apply Kd.R_drewN | apply Kd.R_drew)); exact (Kd.R_mono (Kd.R_far (p := ⟨gb496, 1, none⟩) (Kd.R_far (p := ⟨gb496, 0, none⟩) (Kd.R_types HO492.out BK496.out (by decide)) (fun _ hk => hk.2) (.int .i64 t493)) (fun _ hk => hk.2) (.int .i64 t494)) (fun _ h_ => h_.1))) (Kd.R_base ho0) hb); have n2_ := Aside0.mk (Kd.R_lower (Kd.R_new' ho0 (Kd.R_lt (by (with_reducible repeat (first | apply Kd.R_alloc | apply Kd.R_drewN | apply Kd.R_drew)); exact (Kd.R_mono (Kd.R_far (p := ⟨gb496, 1, none⟩) (Kd.R_far (p := ⟨gb496, 0, none⟩) (Kd.R_types HO492.out BK496.out (by decide)) (fun _ hk => hk.2) (.int .i64 t493)) (fun _ hk => hk.2) (.int .i64 t494)) (fun _ h_ => h_.1))))) (below_size (by repeat (first | (with_reducible first | exact HB.out | apply below_alloc | apply pw_below_drewN | apply below_drew1 | refine below_set ?_ GE496.out) | exact HB.out)))); have n3_ := Aside0.mk (blk_below (g := gb496) (o := .cells #[.int .i64 t493, .int .i64 t494] 29 (0, 0)) (by (with_reducible repeat (first | refine blk_drewN ?_ _ | refine blk_drew ?_ | refine blk_alloc ?_ _)); refine blk_put (cs := #[.int .i64 t493, .int .i64 0]) ?_ 1 _ rfl; (with_reducible repeat (first | refine blk_drewN ?_ _ | refine blk_drew ?_ | refine blk_alloc ?_ _)); refine blk_put (cs := #[.int .i64 0, .int .i64 0]) ?_ 0 _ rfl; (with_reducible repeat (first | refine blk_drewN ?_ _ | refine blk_drew ?_ | refine blk_alloc ?_ _)); exact BK496.out) hb); have n4_ := Aside0.mk (below_step (by repeat (first | (with_reducible first | exact HB.out | apply below_alloc | apply pw_below_drewN | apply below_drew1 | refine below_set ?_ GE496.out) | exact HB.out)) hb); clear HO489; clear HO492; clear BK496; clear HB; have HO489 := n0_; have HO492 := n1_; have HO500 := n2_; have BK496 := n3_; have HB := n4_; clear n0_ n1_ n2_ n3_ n4_; (try clear hb); (try clear hb2); (try clear hk); (try clear hi); (try clear ho0)))
 (try simp only [Act.put, List.setIfInBounds_toArray, List.set_cons_zero, List.set_cons_succ])
 go_cut [58] (fun v58 wc => ∃ (kq : Nat) (x58_5 : Bool), v58 = .bool x58_5 ∧ Aside0 (timesynclaw24_ChooseTruth.j0 kq a0 t487 t490 t495 t497 x58_5 t493 t494 = some r) ∧ Aside0 (kq ≤ k) ∧ Aside0 (Kd.R k37 37 wc w.heap.size (fun _ => True) (.slice Ao8 t487.length co8) t487) ∧ Aside0 (Kd.R (Kd.int .i64) 3 wc w.heap.size (fun k_ => some k_ ≠ (v499 : Value).ownBlock) v491 t490) ∧ Aside0 (Kd.R (Kd.int .i64) 3 wc w.heap.size (fun k_ => some k_ ≠ (v491 : Value).ownBlock) v499 t497) ∧ Aside0 (wc.heap[gb496]? = some (.cells #[.int .i64 t493, .int .i64 t494] 29 (0, 0))) ∧ Aside0 (Below w.heap.size w wc))
 case first =>
  have H := HC6.out
  clear HC6
  by_cases c13 : t495 = t498
  ·rw [if_pos c13] at H
   have c13b0 : (t495 == t498) = true := beq_iff_eq.mpr c13
   have c13b1 : (t495 != t498) = false := bne_eq_false_iff_eq.mpr c13
   clear c13
   (first | rw [c13b0] | (simp only [i64_w, i32_w]; rw [c13b0]) | skip)
   by_cases c14 : t495 = 0
   ·rw [if_pos c14] at H
    have c14b0 : (t495 == 0) = true := beq_iff_eq.mpr c14
    have c14b1 : (t495 != 0) = false := bne_eq_false_iff_eq.mpr c14
    clear c14
    have H' := Aside0.mk H
    clear H
    go_wp2
    go_meet
    case rel => exact ⟨_, (false), (by first | rfl | (simp; done) | (simp [*]; done)), H', ⟨by first | omega | exact Nat.le_refl _⟩, ⟨by (with_reducible repeat (first | apply Kd.R_alloc | apply Kd.R_drewN | apply Kd.R_drew)); exact HO489.out⟩, ⟨by (with_reducible repeat (first | apply Kd.R_alloc | apply Kd.R_drewN | apply Kd.R_drew)); exact Kd.R_mono HO492.out (fun _ hk => hk.2)⟩, ⟨by (with_reducible repeat (first | apply Kd.R_alloc | apply Kd.R_drewN | apply Kd.R_drew)); exact Kd.R_mono HO500.out (fun _ hk => hk.2)⟩, ⟨by (with_reducible repeat (first | refine blk_drewN ?_ _ | refine blk_drew ?_ | refine blk_alloc ?_ _)); exact BK496.out⟩, ⟨by repeat (first | (with_reducible first | exact HB.out | apply below_alloc | apply pw_below_drewN | apply below_drew1 | refine below_set ?_ GE496.out) | exact HB.out)⟩⟩
   ·rw [if_neg c14] at H
    have c14b0 : (t495 == 0) = false := beq_eq_false_iff_ne.mpr c14
    have c14b1 : (t495 != 0) = true := bne_iff_ne.mpr c14
    by_cases c15 : t495 = 11
    ·rw [if_pos c15] at H
     have c15b0 : (t495 == 11) = true := beq_iff_eq.mpr c15
     have c15b1 : (t495 != 11) = false := bne_eq_false_iff_eq.mpr c15
     clear c15
     by_cases c16 : (t490.length : Int) = 0
     ·rw [if_pos c16] at H
      have c16b0 : ((t490.length : Int) == 0) = true := beq_iff_eq.mpr c16
      have c16b1 : ((t490.length : Int) != 0) = false := bne_eq_false_iff_eq.mpr c16
      clear c16
      by_cases c17 : (t497.length : Int) = 0
      ·rw [if_pos c17] at H
       have c17b0 : ((t497.length : Int) == 0) = true := beq_iff_eq.mpr c17
       have c17b1 : ((t497.length : Int) != 0) = false := bne_eq_false_iff_eq.mpr c17
       clear c17
       have H' := Aside0.mk H
       clear H
       obtain ⟨Ao18, co18, eo18⟩ := Kd.R_slice HO492.out
       subst eo18
       obtain ⟨Ao19, co19, eo19⟩ := Kd.R_slice HO500.out
       subst eo19
       have hcz20_0 : w12.cell? ⟨gb496, 0, none⟩ = some (.int .i64 t493) := (blk_cell BK496.out 0).trans rfl
       have hcz20_1 : w12.cell? ⟨gb496, 1, none⟩ = some (.int .i64 t494) := (blk_cell BK496.out 1).trans rfl
       have hfz20_0 := blk_frozen BK496.out 0
       have hfz20_1 := blk_frozen BK496.out 1
       go_wp2
       go_meet
       case rel => exact ⟨_, ((!(t493 == 0) || (!(t494 == 0)))), (by first | rfl | (simp; done) | (simp [*]; done)), H', ⟨by first | omega | exact Nat.le_refl _⟩, ⟨by (with_reducible repeat (first | apply Kd.R_alloc | apply Kd.R_drewN | apply Kd.R_drew)); exact HO489.out⟩, ⟨by (with_reducible repeat (first | apply Kd.R_alloc | apply Kd.R_drewN | apply Kd.R_drew)); exact Kd.R_mono HO492.out (fun _ hk => hk.2)⟩, ⟨by (with_reducible repeat (first | apply Kd.R_alloc | apply Kd.R_drewN | apply Kd.R_drew)); exact Kd.R_mono HO500.out (fun _ hk => hk.2)⟩, ⟨by (with_reducible repeat (first | refine blk_drewN ?_ _ | refine blk_drew ?_ | refine blk_alloc ?_ _)); exact BK496.out⟩, ⟨by repeat (first | (with_reducible first | exact HB.out | apply below_alloc | apply pw_below_drewN | apply below_drew1 | refine below_set ?_ GE496.out) | exact HB.out)⟩⟩
      ·rw [if_neg c17] at H
       have c17b0 : ((t497.length : Int) == 0) = false := beq_eq_false_iff_ne.mpr c17
       have c17b1 : ((t497.length : Int) != 0) = true := bne_iff_ne.mpr c17
       have c17b2 : ¬ (t497 = []) := fun h_ => c17 (by rw [h_]; rfl)
       have H' := Aside0.mk H
       clear H
       obtain ⟨Ao21, co21, eo21⟩ := Kd.R_slice HO492.out
       subst eo21
       obtain ⟨Ao22, co22, eo22⟩ := Kd.R_slice HO500.out
       subst eo22
       go_wp2
       go_meet
       case rel => exact ⟨_, (true), (by first | rfl | (simp; done) | (simp [*]; done)), H', ⟨by first | omega | exact Nat.le_refl _⟩, ⟨by (with_reducible repeat (first | apply Kd.R_alloc | apply Kd.R_drewN | apply Kd.R_drew)); exact HO489.out⟩, ⟨by (with_reducible repeat (first | apply Kd.R_alloc | apply Kd.R_drewN | apply Kd.R_drew)); exact Kd.R_mono HO492.out (fun _ hk => hk.2)⟩, ⟨by (with_reducible repeat (first | apply Kd.R_alloc | apply Kd.R_drewN | apply Kd.R_drew)); exact Kd.R_mono HO500.out (fun _ hk => hk.2)⟩, ⟨by (with_reducible repeat (first | refine blk_drewN ?_ _ | refine blk_drew ?_ | refine blk_alloc ?_ _)); exact BK496.out⟩, ⟨by repeat (first | (with_reducible first | exact HB.out | apply below_alloc | apply pw_below_drewN | apply below_drew1 | refine below_set ?_ GE496.out) | exact HB.out)⟩⟩
     ·rw [if_neg c16] at H
      have c16b0 : ((t490.length : Int) == 0) = false := beq_eq_false_iff_ne.mpr c16
      have c16b1 : ((t490.length : Int) != 0) = true := bne_iff_ne.mpr c16
      have c16b2 : ¬ (t490 = []) := fun h_ => c16 (by rw [h_]; rfl)
      have H' := Aside0.mk H
      clear H
      obtain ⟨Ao23, co23, eo23⟩ := Kd.R_slice HO492.out
      subst eo23
      go_wp2
      go_meet
      case rel => exact ⟨_, (true), (by first | rfl | (simp; done) | (simp [*]; done)), H', ⟨by first | omega | exact Nat.le_refl _⟩, ⟨by (with_reducible repeat (first | apply Kd.R_alloc | apply Kd.R_drewN | apply Kd.R_drew)); exact HO489.out⟩, ⟨by (with_reducible repeat (first | apply Kd.R_alloc | apply Kd.R_drewN | apply Kd.R_drew)); exact Kd.R_mono HO492.out (fun _ hk => hk.2)⟩, ⟨by (with_reducible repeat (first | apply Kd.R_alloc | apply Kd.R_drewN | apply Kd.R_drew)); exact Kd.R_mono HO500.out (fun _ hk => hk.2)⟩, ⟨by (with_reducible repeat (first | refine blk_drewN ?_ _ | refine blk_drew ?_ | refine blk_alloc ?_ _)); exact BK496.out⟩, ⟨by repeat (first | (with_reducible first | exact HB.out | apply below_alloc | apply pw_below_drewN | apply below_drew1 | refine below_set ?_ GE496.out) | exact HB.out)⟩⟩
    ·rw [if_neg c15] at H
     have c15b0 : (t495 == 11) = false := beq_eq_false_iff_ne.mpr c15
     have c15b1 : (t495 != 11) = true := bne_iff_ne.mpr c15
     have H' := Aside0.mk H
     clear H
     go_wp2
     go_meet
     case rel => exact ⟨_, (true), (by first | rfl | (simp; done) | (simp [*]; done)), H', ⟨by first | omega | exact Nat.le_refl _⟩, ⟨by (with_reducible repeat (first | apply Kd.R_alloc | apply Kd.R_drewN | apply Kd.R_drew)); exact HO489.out⟩, ⟨by (with_reducible repeat (first | apply Kd.R_alloc | apply Kd.R_drewN | apply Kd.R_drew)); exact Kd.R_mono HO492.out (fun _ hk => hk.2)⟩, ⟨by (with_reducible repeat (first | apply Kd.R_alloc | apply Kd.R_drewN | apply Kd.R_drew)); exact Kd.R_mono HO500.out (fun _ hk => hk.2)⟩, ⟨by (with_reducible repeat (first | refine blk_drewN ?_ _ | refine blk_drew ?_ | refine blk_alloc ?_ _)); exact BK496.out⟩, ⟨by repeat (first | (with_reducible first | exact HB.out | apply below_alloc | apply pw_below_drewN | apply below_drew1 | refine below_set ?_ GE496.out) | exact HB.out)⟩⟩
  ·rw [if_neg c13] at H
   have c13b0 : (t495 == t498) = false := beq_eq_false_iff_ne.mpr c13
   have c13b1 : (t495 != t498) = true := bne_iff_ne.mpr c13
   (first | rw [c13b0] | (simp only [i64_w, i32_w]; rw [c13b0]) | skip)
   have H' := Aside0.mk H
   clear H
   go_wp2
   go_meet
   case rel => exact ⟨_, (true), (by first | rfl | (simp; done) | (simp [*]; done)), H', ⟨by first | omega | exact Nat.le_refl _⟩, ⟨by (with_reducible repeat (first | apply Kd.R_alloc | apply Kd.R_drewN | apply Kd.R_drew)); exact HO489.out⟩, ⟨by (with_reducible repeat (first | apply Kd.R_alloc | apply Kd.R_drewN | apply Kd.R_drew)); exact Kd.R_mono HO492.out (fun _ hk => hk.2)⟩, ⟨by (with_reducible repeat (first | apply Kd.R_alloc | apply Kd.R_drewN | apply Kd.R_drew)); exact Kd.R_mono HO500.out (fun _ hk => hk.2)⟩, ⟨by (with_reducible repeat (first | refine blk_drewN ?_ _ | refine blk_drew ?_ | refine blk_alloc ?_ _)); exact BK496.out⟩, ⟨by repeat (first | (with_reducible first | exact HB.out | apply below_alloc | apply pw_below_drewN | apply below_drew1 | refine below_set ?_ GE496.out) | exact HB.out)⟩⟩
 case rest =>
  clear HC6
  try clear c1
  try clear p2
  try clear c3
  try clear p6
  try clear c10
  try clear c13
  try clear c13b0
  try clear c13b1
  try clear c14
  try clear c14b0
  try clear c14b1
  try clear c15
  try clear c15b0
  try clear c15b1
  try clear c16
  try clear c16b0
  try clear c16b1
  try clear c16b2
  try clear c17
  try clear c17b0
  try clear c17b1
  try clear c17b2
  try clear c19
  try clear hcz11_0
  try clear hcz11_1
  try clear hcz20_0
  try clear hcz20_1
  try clear hfz11_0
  try clear hfz11_1
  try clear hfz20_0
  try clear hfz20_1
  obtain ⟨kq, x58_5, rfl, HA, HJ5, HO_5, HO_6, HO_9, BK496, HB⟩ := hcut
  cases kq with
  | zero => exact absurd HA.out (by simp [timesynclaw24_ChooseTruth.j0])
  | succ kj5 =>
   have H := HA.out
   clear HA
   simp only [timesynclaw24_ChooseTruth.j0] at H
   by_cases c24 : x58_5 = true
   ·subst c24
    have H1 : (none) = some r := by rw [if_pos rfl] at H; exact H
    clear H
    have H := H1
    clear H1
    exact absurd H (by simp)
   ·replace c24 := Bool.eq_false_iff.mpr c24
    subst c24
    have H1 : (if t495 = 0 then (if t493 > (wrap64 (a0)) then (timesynclaw24_ChooseTruth.j1 kj5 t487 t490 t497 true t493 t494) else (if t494 < (wrap64 (a0)) then (timesynclaw24_ChooseTruth.j1 kj5 t487 t490 t497 true t493 t494) else (if (wrap64 (2 * (t490.length : Int))) ≤ (t487.length : Int) then (timesynclaw24_ChooseTruth.j1 kj5 t487 t490 t497 true t493 t494) else ((slices_IsSorted_int_int.f kj5 t490).bind fun t502 => (if t502 = true then ((slices_IsSorted_int_int.f kj5 t497).bind fun t503 => (if t503 = true then (timesynclaw24_ChooseTruth.j1 kj5 t487 t490 t497 ((wrap64 ((t490.length : Int) + (t497.length : Int))) != (t487.length : Int)) t493 t494) else (timesynclaw24_ChooseTruth.j1 kj5 t487 t490 t497 true t493 t494))) else (timesynclaw24_ChooseTruth.j1 kj5 t487 t490 t497 true t493 t494)))))) else ((timesynclaw24_awake.f kj5).bind fun t501 => (some t501))) = some r := by rw [if_neg (show ¬ (false = true) by decide)] at H; exact H
    clear H
    have H := H1
    clear H1
    by_cases c25 : t495 = 0
    ·rw [if_pos c25] at H
     have c25b0 : (t495 == 0) = true := beq_iff_eq.mpr c25
     have c25b1 : (t495 != 0) = false := bne_eq_false_iff_eq.mpr c25
     clear c25
     have HC26 := Aside0.mk H
     clear H
     go_upto_region 8 with (fail)
     go_cut [101] (fun v101 wc => ∃ (kq : Nat) (x101_25 : Bool), v101 = .bool x101_25 ∧ Aside0 (timesynclaw24_ChooseTruth.j1 kq t487 t490 t497 x101_25 t493 t494 = some r) ∧ Aside0 (kq ≤ kj5) ∧ Aside0 (Kd.R k37 37 wc w.heap.size (fun _ => True) (.slice Ao8 t487.length co8) t487) ∧ Aside0 (Kd.R (Kd.int .i64) 3 wc w.heap.size (fun k_ => some k_ ≠ (v499 : Value).ownBlock) v491 t490) ∧ Aside0 (Kd.R (Kd.int .i64) 3 wc w.heap.size (fun k_ => some k_ ≠ (v491 : Value).ownBlock) v499 t497) ∧ Aside0 (wc.heap[gb496]? = some (.cells #[.int .i64 t493, .int .i64 t494] 29 (0, 0))) ∧ Aside0 (Below w.heap.size w wc))
     case first =>
      have H := HC26.out
      clear HC26
      by_cases c27 : t493 > (wrap64 (a0))
      ·rw [if_pos c27] at H
       have c27b0 : decide ((wrap64 (a0)) < t493) = true := decide_eq_true c27
       clear c27
       (first | rw [c27b0] | (simp only [i64_w, i32_w]; rw [c27b0]) | skip)
       have H' := Aside0.mk H
       clear H
       have hcz28_0 : wc.cell? ⟨gb496, 0, none⟩ = some (.int .i64 t493) := (blk_cell BK496.out 0).trans rfl
       have hcz28_1 : wc.cell? ⟨gb496, 1, none⟩ = some (.int .i64 t494) := (blk_cell BK496.out 1).trans rfl
       have hfz28_0 := blk_frozen BK496.out 0
       have hfz28_1 := blk_frozen BK496.out 1
       go_wp2
       go_meet
       case rel => exact ⟨_, (true), (by first | rfl | (simp; done) | (simp [*]; done)), H', ⟨by have := HJ5.out; first | omega | exact Nat.le_refl _⟩, ⟨by (with_reducible repeat (first | apply Kd.R_alloc | apply Kd.R_drewN | apply Kd.R_drew)); exact HO_5.out⟩, ⟨by (with_reducible repeat (first | apply Kd.R_alloc | apply Kd.R_drewN | apply Kd.R_drew)); exact HO_6.out⟩, ⟨by (with_reducible repeat (first | apply Kd.R_alloc | apply Kd.R_drewN | apply Kd.R_drew)); exact HO_9.out⟩, ⟨by (with_reducible repeat (first | refine blk_drewN ?_ _ | refine blk_drew ?_ | refine blk_alloc ?_ _)); exact BK496.out⟩, ⟨by repeat (first | (with_reducible first | exact HB.out | apply below_alloc | apply pw_below_drewN | apply below_drew1 | refine below_set ?_ GE496.out) | exact HB.out)⟩⟩
      ·rw [if_neg c27] at H
       have c27b0 : decide ((wrap64 (a0)) < t493) = false := decide_eq_false c27
       clear c27
       (first | rw [c27b0] | (simp only [i64_w, i32_w]; rw [c27b0]) | skip)
       by_cases c29 : t494 < (wrap64 (a0))
       ·rw [if_pos c29] at H
        have c29b0 : decide (t494 < (wrap64 (a0))) = true := decide_eq_true c29
        clear c29
        have H' := Aside0.mk H
        clear H
        have hcz30_0 : wc.cell? ⟨gb496, 0, none⟩ = some (.int .i64 t493) := (blk_cell BK496.out 0).trans rfl
        have hcz30_1 : wc.cell? ⟨gb496, 1, none⟩ = some (.int .i64 t494) := (blk_cell BK496.out 1).trans rfl
        have hfz30_0 := blk_frozen BK496.out 0
        have hfz30_1 := blk_frozen BK496.out 1
        go_wp2
        go_meet
        case rel => exact ⟨_, (true), (by first | rfl | (simp; done) | (simp [*]; done)), H', ⟨by have := HJ5.out; first | omega | exact Nat.le_refl _⟩, ⟨by (with_reducible repeat (first | apply Kd.R_alloc | apply Kd.R_drewN | apply Kd.R_drew)); exact HO_5.out⟩, ⟨by (with_reducible repeat (first | apply Kd.R_alloc | apply Kd.R_drewN | apply Kd.R_drew)); exact HO_6.out⟩, ⟨by (with_reducible repeat (first | apply Kd.R_alloc | apply Kd.R_drewN | apply Kd.R_drew)); exact HO_9.out⟩, ⟨by (with_reducible repeat (first | refine blk_drewN ?_ _ | refine blk_drew ?_ | refine blk_alloc ?_ _)); exact BK496.out⟩, ⟨by repeat (first | (with_reducible first | exact HB.out | apply below_alloc | apply pw_below_drewN | apply below_drew1 | refine below_set ?_ GE496.out) | exact HB.out)⟩⟩
       ·rw [if_neg c29] at H
        have c29b0 : decide (t494 < (wrap64 (a0))) = false := decide_eq_false c29
        clear c29
        by_cases c31 : (wrap64 (2 * (t490.length : Int))) ≤ (t487.length : Int)
        ·rw [if_pos c31] at H
         have c31b0 : decide ((wrap64 (2 * (t490.length : Int))) ≤ (t487.length : Int)) = true := decide_eq_true c31
         clear c31
         have H' := Aside0.mk H
         clear H
         have hcz32_0 : wc.cell? ⟨gb496, 0, none⟩ = some (.int .i64 t493) := (blk_cell BK496.out 0).trans rfl
         have hcz32_1 : wc.cell? ⟨gb496, 1, none⟩ = some (.int .i64 t494) := (blk_cell BK496.out 1).trans rfl
         have hfz32_0 := blk_frozen BK496.out 0
         have hfz32_1 := blk_frozen BK496.out 1
         obtain ⟨Ao33, co33, eo33⟩ := Kd.R_slice HO_6.out
         subst eo33
         go_wp2
         go_meet
         case rel => exact ⟨_, (true), (by first | rfl | (simp; done) | (simp [*]; done)), H', ⟨by have := HJ5.out; first | omega | exact Nat.le_refl _⟩, ⟨by (with_reducible repeat (first | apply Kd.R_alloc | apply Kd.R_drewN | apply Kd.R_drew)); exact HO_5.out⟩, ⟨by (with_reducible repeat (first | apply Kd.R_alloc | apply Kd.R_drewN | apply Kd.R_drew)); exact HO_6.out⟩, ⟨by (with_reducible repeat (first | apply Kd.R_alloc | apply Kd.R_drewN | apply Kd.R_drew)); exact HO_9.out⟩, ⟨by (with_reducible repeat (first | refine blk_drewN ?_ _ | refine blk_drew ?_ | refine blk_alloc ?_ _)); exact BK496.out⟩, ⟨by repeat (first | (with_reducible first | exact HB.out | apply below_alloc | apply pw_below_drewN | apply below_drew1 | refine below_set ?_ GE496.out) | exact HB.out)⟩⟩
        ·rw [if_neg c31] at H
         have c31b0 : decide ((wrap64 (2 * (t490.length : Int))) ≤ (t487.length : Int)) = false := decide_eq_false c31
         clear c31
         replace H := Option.bind_eq_some_iff.mp H
         obtain ⟨t502, A340, H⟩ := H
         replace H : (if t502 = true then ((slices_IsSorted_int_int.f kj5 t497).bind fun t503 => (if t503 = true then (timesynclaw24_ChooseTruth.j1 kj5 t487 t490 t497 ((wrap64 ((t490.length : Int) + (t497.length : Int))) != (t487.length : Int)) t493 t494) else (timesynclaw24_ChooseTruth.j1 kj5 t487 t490 t497 true t493 t494))) else (timesynclaw24_ChooseTruth.j1 kj5 t487 t490 t497 true t493 t494)) = some r := H
         have A34 := Aside0.mk A340
         clear A340
         by_cases c35 : t502 = true
         ·subst c35
          have H1 : ((slices_IsSorted_int_int.f kj5 t497).bind fun t503 => (if t503 = true then (timesynclaw24_ChooseTruth.j1 kj5 t487 t490 t497 ((wrap64 ((t490.length : Int) + (t497.length : Int))) != (t487.length : Int)) t493 t494) else (timesynclaw24_ChooseTruth.j1 kj5 t487 t490 t497 true t493 t494))) = some r := by rw [if_pos rfl] at H; exact H
          clear H
          have H := H1
          clear H1
          replace H := Option.bind_eq_some_iff.mp H
          obtain ⟨t503, A360, H⟩ := H
          replace H : (if t503 = true then (timesynclaw24_ChooseTruth.j1 kj5 t487 t490 t497 ((wrap64 ((t490.length : Int) + (t497.length : Int))) != (t487.length : Int)) t493 t494) else (timesynclaw24_ChooseTruth.j1 kj5 t487 t490 t497 true t493 t494)) = some r := H
          have A36 := Aside0.mk A360
          clear A360
          by_cases c37 : t503 = true
          ·subst c37
           have H1 : (timesynclaw24_ChooseTruth.j1 kj5 t487 t490 t497 ((wrap64 ((t490.length : Int) + (t497.length : Int))) != (t487.length : Int)) t493 t494) = some r := by rw [if_pos rfl] at H; exact H
           clear H
           have H := H1
           clear H1
           have H' := Aside0.mk H
           clear H
           have hcz38_0 : wc.cell? ⟨gb496, 0, none⟩ = some (.int .i64 t493) := (blk_cell BK496.out 0).trans rfl
           have hcz38_1 : wc.cell? ⟨gb496, 1, none⟩ = some (.int .i64 t494) := (blk_cell BK496.out 1).trans rfl
           have hfz38_0 := blk_frozen BK496.out 0
           have hfz38_1 := blk_frozen BK496.out 1
           obtain ⟨Ao39, co39, eo39⟩ := Kd.R_slice HO_6.out
           subst eo39
           go_wp2_with (first | (go_at_call 33; (with_reducible refine (slices_IsSorted_int_int.calls kj5 _ _ t490 true _ ?side1 ?side2 A34.out).mono ?_); (case side1 => repeat (first | exact (Kd.R_reads' HO_6.out).2.2 | (with_reducible refine Kd.C_alloc ?_ _) | (with_reducible refine Kd.C_drewN ?_ _) | (with_reducible refine Kd.C_drew ?_))); (case side2 => exact (Kd.R_reads' HO_6.out).2.1); rintro e w' ⟨rfl, ⟨nd, rfl⟩⟩; obtain ⟨Ao40, co40, eo40⟩ := Kd.R_slice HO_9.out; subst eo40) | (go_at_call 33; (with_reducible refine (slices_IsSorted_int_int.calls kj5 _ _ t497 true _ ?side1 ?side2 A36.out).mono ?_); (case side1 => repeat (first | exact (Kd.R_reads' HO_9.out).2.2 | (with_reducible refine Kd.C_alloc ?_ _) | (with_reducible refine Kd.C_drewN ?_ _) | (with_reducible refine Kd.C_drew ?_))); (case side2 => exact (Kd.R_reads' HO_9.out).2.1); rintro e w' ⟨rfl, ⟨nd, rfl⟩⟩))
           go_meet
           case rel => exact ⟨_, (((wrap64 ((t490.length : Int) + (t497.length : Int))) != (t487.length : Int))), (by first | rfl | (simp; done) | (simp [*]; done)), H', ⟨by have := HJ5.out; first | omega | exact Nat.le_refl _⟩, ⟨by (with_reducible repeat (first | apply Kd.R_alloc | apply Kd.R_drewN | apply Kd.R_drew)); exact HO_5.out⟩, ⟨by (with_reducible repeat (first | apply Kd.R_alloc | apply Kd.R_drewN | apply Kd.R_drew)); exact HO_6.out⟩, ⟨by (with_reducible repeat (first | apply Kd.R_alloc | apply Kd.R_drewN | apply Kd.R_drew)); exact HO_9.out⟩, ⟨by (with_reducible repeat (first | refine blk_drewN ?_ _ | refine blk_drew ?_ | refine blk_alloc ?_ _)); exact BK496.out⟩, ⟨by repeat (first | (with_reducible first | exact HB.out | apply below_alloc | apply pw_below_drewN | apply below_drew1 | refine below_set ?_ GE496.out) | exact HB.out)⟩⟩
          ·replace c37 := Bool.eq_false_iff.mpr c37
           subst c37
           have H1 : (timesynclaw24_ChooseTruth.j1 kj5 t487 t490 t497 true t493 t494) = some r := by rw [if_neg (show ¬ (false = true) by decide)] at H; exact H
           clear H
           have H := H1
           clear H1
           have H' := Aside0.mk H
           clear H
           have hcz41_0 : wc.cell? ⟨gb496, 0, none⟩ = some (.int .i64 t493) := (blk_cell BK496.out 0).trans rfl
           have hcz41_1 : wc.cell? ⟨gb496, 1, none⟩ = some (.int .i64 t494) := (blk_cell BK496.out 1).trans rfl
           have hfz41_0 := blk_frozen BK496.out 0
           have hfz41_1 := blk_frozen BK496.out 1
           obtain ⟨Ao42, co42, eo42⟩ := Kd.R_slice HO_6.out
           subst eo42
           go_wp2_with (first | (go_at_call 33; (with_reducible refine (slices_IsSorted_int_int.calls kj5 _ _ t490 true _ ?side1 ?side2 A34.out).mono ?_); (case side1 => repeat (first | exact (Kd.R_reads' HO_6.out).2.2 | (with_reducible refine Kd.C_alloc ?_ _) | (with_reducible refine Kd.C_drewN ?_ _) | (with_reducible refine Kd.C_drew ?_))); (case side2 => exact (Kd.R_reads' HO_6.out).2.1); rintro e w' ⟨rfl, ⟨nd, rfl⟩⟩; obtain ⟨Ao43, co43, eo43⟩ := Kd.R_slice HO_9.out; subst eo43) | (go_at_call 33; (with_reducible refine (slices_IsSorted_int_int.calls kj5 _ _ t497 false _ ?side1 ?side2 A36.out).mono ?_); (case side1 => repeat (first | exact (Kd.R_reads' HO_9.out).2.2 | (with_reducible refine Kd.C_alloc ?_ _) | (with_reducible refine Kd.C_drewN ?_ _) | (with_reducible refine Kd.C_drew ?_))); (case side2 => exact (Kd.R_reads' HO_9.out).2.1); rintro e w' ⟨rfl, ⟨nd, rfl⟩⟩))
           go_meet
           case rel => exact ⟨_, (true), (by first | rfl | (simp; done) | (simp [*]; done)), H', ⟨by have := HJ5.out; first | omega | exact Nat.le_refl _⟩, ⟨by (with_reducible repeat (first | apply Kd.R_alloc | apply Kd.R_drewN | apply Kd.R_drew)); exact HO_5.out⟩, ⟨by (with_reducible repeat (first | apply Kd.R_alloc | apply Kd.R_drewN | apply Kd.R_drew)); exact HO_6.out⟩, ⟨by (with_reducible repeat (first | apply Kd.R_alloc | apply Kd.R_drewN | apply Kd.R_drew)); exact HO_9.out⟩, ⟨by (with_reducible repeat (first | refine blk_drewN ?_ _ | refine blk_drew ?_ | refine blk_alloc ?_ _)); exact BK496.out⟩, ⟨by repeat (first | (with_reducible first | exact HB.out | apply below_alloc | apply pw_below_drewN | apply below_drew1 | refine below_set ?_ GE496.out) | exact HB.out)⟩⟩
         ·replace c35 := Bool.eq_false_iff.mpr c35
          subst c35
          have H1 : (timesynclaw24_ChooseTruth.j1 kj5 t487 t490 t497 true t493 t494) = some r := by rw [if_neg (show ¬ (false = true) by decide)] at H; exact H
          clear H
          have H := H1
          clear H1
          have H' := Aside0.mk H
          clear H
          have hcz44_0 : wc.cell? ⟨gb496, 0, none⟩ = some (.int .i64 t493) := (blk_cell BK496.out 0).trans rfl
          have hcz44_1 : wc.cell? ⟨gb496, 1, none⟩ = some (.int .i64 t494) := (blk_cell BK496.out 1).trans rfl
          have hfz44_0 := blk_frozen BK496.out 0
          have hfz44_1 := blk_frozen BK496.out 1
          obtain ⟨Ao45, co45, eo45⟩ := Kd.R_slice HO_6.out
          subst eo45
          go_wp2_with (first | (go_at_call 33; (with_reducible refine (slices_IsSorted_int_int.calls kj5 _ _ t490 false _ ?side1 ?side2 A34.out).mono ?_); (case side1 => repeat (first | exact (Kd.R_reads' HO_6.out).2.2 | (with_reducible refine Kd.C_alloc ?_ _) | (with_reducible refine Kd.C_drewN ?_ _) | (with_reducible refine Kd.C_drew ?_))); (case side2 => exact (Kd.R_reads' HO_6.out).2.1); rintro e w' ⟨rfl, ⟨nd, rfl⟩⟩))
          go_meet
          case rel => exact ⟨_, (true), (by first | rfl | (simp; done) | (simp [*]; done)), H', ⟨by have := HJ5.out; first | omega | exact Nat.le_refl _⟩, ⟨by (with_reducible repeat (first | apply Kd.R_alloc | apply Kd.R_drewN | apply Kd.R_drew)); exact HO_5.out⟩, ⟨by (with_reducible repeat (first | apply Kd.R_alloc | apply Kd.R_drewN | apply Kd.R_drew)); exact HO_6.out⟩, ⟨by (with_reducible repeat (first | apply Kd.R_alloc | apply Kd.R_drewN | apply Kd.R_drew)); exact HO_9.out⟩, ⟨by (with_reducible repeat (first | refine blk_drewN ?_ _ | refine blk_drew ?_ | refine blk_alloc ?_ _)); exact BK496.out⟩, ⟨by repeat (first | (with_reducible first | exact HB.out | apply below_alloc | apply pw_below_drewN | apply below_drew1 | refine below_set ?_ GE496.out) | exact HB.out)⟩⟩
     case rest =>
      clear HC26
      try clear c1
      try clear c2
      try clear p2
      try clear c3
      try clear p6
      try clear c10
      try clear c13
      try clear c13b0
      try clear c13b1
      try clear c14
      try clear c14b0
      try clear c14b1
      try clear c15
      try clear c15b0
      try clear c15b1
      try clear c16
      try clear c16b0
      try clear c16b1
      try clear c16b2
      try clear c17
      try clear c17b0
      try clear c17b1
      try clear c17b2
      try clear c19
      try clear c24
      try clear c25
      try clear c25b0
      try clear c25b1
      try clear c27
      try clear c27b0
      try clear c29
      try clear c29b0
      try clear c31
      try clear c31b0
      try clear c32
      try clear c35
      try clear c37
      try clear hcz11_0
      try clear hcz11_1
      try clear hcz20_0
      try clear hcz20_1
      try clear hcz28_0
      try clear hcz28_1
      try clear hcz30_0
      try clear hcz30_1
      try clear hcz32_0
      try clear hcz32_1
      try clear hcz38_0
      try clear hcz38_1
      try clear hcz41_0
      try clear hcz41_1
      try clear hcz44_0
      try clear hcz44_1
      try clear hfz11_0
      try clear hfz11_1
      try clear hfz20_0
      try clear hfz20_1
      try clear hfz28_0
      try clear hfz28_1
      try clear hfz30_0
      try clear hfz30_1
      try clear hfz32_0
      try clear hfz32_1
      try clear hfz38_0
      try clear hfz38_1
      try clear hfz41_0
      try clear hfz41_1
      try clear hfz44_0
      try clear hfz44_1
      try clear p2
      try clear p6
      obtain ⟨kq, x101_25, rfl, HA, HJ25, HO_5, HO_6, HO_9, BK496, HB⟩ := hcut
      cases kq with
      | zero => exact absurd HA.out (by simp [timesynclaw24_ChooseTruth.j1])
      | succ kj25 =>
       have H := HA.out
       clear HA
       simp only [timesynclaw24_ChooseTruth.j1] at H
       by_cases c46 : x101_25 = true
       ·subst c46
        have H1 : (none) = some r := by rw [if_pos rfl] at H; exact H
        clear H
        have H := H1
        clear H1
        exact absurd H (by simp)
       ·replace c46 := Bool.eq_false_iff.mpr c46
        subst c46
        have H1 : (timesynclaw24_ChooseTruth.l0 kj25 t487 t490 t497 t487 (t487.length : Int) 0 t493 t494) = some r := by rw [if_neg (show ¬ (false = true) by decide)] at H; exact H
        clear H
        have H := H1
        clear H1
        have H' := Aside0.mk H
        clear H
        go_wp2
        go_loopg [104] kj25 (fun kq v104 w' => ∃ (x104_3 : Int), v104 = .int .i64 x104_3 ∧ Aside0 (timesynclaw24_ChooseTruth.l0 kq t487 t490 t497 t487 (t487.length : Int) x104_3 t493 t494 = some r) ∧ Aside0 (kq ≤ kj25) ∧ Aside0 (Kd.R k37 37 w' w.heap.size (fun _ => True) (.slice Ao8 t487.length co8) t487) ∧ Aside0 (Kd.R (Kd.int .i64) 3 w' w.heap.size (fun k_ => some k_ ≠ (v499 : Value).ownBlock) v491 t490) ∧ Aside0 (Kd.R (Kd.int .i64) 3 w' w.heap.size (fun k_ => some k_ ≠ (v491 : Value).ownBlock) v499 t497) ∧ Aside0 (Kd.R k37 37 w' w.heap.size (fun _ => True) (.slice Ao8 t487.length co8) t487) ∧ Aside0 (w'.heap[gb496]? = some (.cells #[.int .i64 t493, .int .i64 t494] 29 (0, 0))) ∧ Aside0 (Below w.heap.size w w'))
        case atStart => exact ⟨(0), (by first | rfl | (simp; done) | (simp [*]; done)), H', ⟨Nat.le_refl _⟩, ⟨by (with_reducible repeat (first | apply Kd.R_alloc | apply Kd.R_drewN | apply Kd.R_drew)); exact HO_5.out⟩, ⟨by (with_reducible repeat (first | apply Kd.R_alloc | apply Kd.R_drewN | apply Kd.R_drew)); exact HO_6.out⟩, ⟨by (with_reducible repeat (first | apply Kd.R_alloc | apply Kd.R_drewN | apply Kd.R_drew)); exact HO_9.out⟩, ⟨by (with_reducible repeat (first | apply Kd.R_alloc | apply Kd.R_drewN | apply Kd.R_drew)); exact HO_5.out⟩, ⟨by (with_reducible repeat (first | refine blk_drewN ?_ _ | refine blk_drew ?_ | refine blk_alloc ?_ _)); exact BK496.out⟩, ⟨by repeat (first | (with_reducible first | exact HB.out | apply below_alloc | apply pw_below_drewN | apply below_drew1 | refine below_set ?_ GE496.out) | exact HB.out)⟩⟩
        case round =>
         clear H'
         try clear c1
         try clear c2
         try clear p2
         try clear c3
         try clear c4
         try clear p6
         try clear c10
         try clear c13
         try clear c13b0
         try clear c13b1
         try clear c14
         try clear c14b0
         try clear c14b1
         try clear c15
         try clear c15b0
         try clear c15b1
         try clear c16
         try clear c16b0
         try clear c16b1
         try clear c16b2
         try clear c17
         try clear c17b0
         try clear c17b1
         try clear c17b2
         try clear c19
         try clear c24
         try clear c25
         try clear c25b0
         try clear c25b1
         try clear c27
         try clear c27b0
         try clear c29
         try clear c29b0
         try clear c31
         try clear c31b0
         try clear c32
         try clear c35
         try clear c37
         try clear c46
         try clear hcz11_0
         try clear hcz11_1
         try clear hcz20_0
         try clear hcz20_1
         try clear hcz28_0
         try clear hcz28_1
         try clear hcz30_0
         try clear hcz30_1
         try clear hcz32_0
         try clear hcz32_1
         try clear hcz38_0
         try clear hcz38_1
         try clear hcz41_0
         try clear hcz41_1
         try clear hcz44_0
         try clear hcz44_1
         try clear hfz11_0
         try clear hfz11_1
         try clear hfz20_0
         try clear hfz20_1
         try clear hfz28_0
         try clear hfz28_1
         try clear hfz30_0
         try clear hfz30_1
         try clear hfz32_0
         try clear hfz32_1
         try clear hfz38_0
         try clear hfz38_1
         try clear hfz41_0
         try clear hfz41_1
         try clear hfz44_0
         try clear hfz44_1
         try clear p2
         try clear p6
         obtain ⟨x104_3, rfl, HA, HK3, HO_5, HO_6, HO_9, HO_102, BK496, HB⟩ := hrel
         cases gk with
         | zero => exact absurd HA.out (by simp [timesynclaw24_ChooseTruth.l0])
         | succ k3 =>
          have H := HA.out
          clear HA
          simp only [timesynclaw24_ChooseTruth.l0] at H
          by_cases c47 : x104_3 < (t487.length : Int)
          ·rw [if_pos c47] at H
           have c47b0 : decide (x104_3 < (t487.length : Int)) = true := decide_eq_true c47
           clear c47
           by_cases c48 : 0 ≤ x104_3
           ·rw [if_pos c48] at H
            have c48b0 : decide (0 ≤ x104_3) = true := decide_eq_true c48
            clear c48
            by_cases c49 : x104_3 < (t487.length : Int)
            ·rw [if_pos c49] at H
             have c49b0 : decide (x104_3 < (t487.length : Int)) = true := decide_eq_true c49
             clear c49
             have HC50 := Aside0.mk H
             clear H
             have p506 : 0 ≤ (x104_3 : Int) := of_decide_eq_true (by first | (with_reducible assumption) | assumption)
             have q506 : x104_3 < (t487.length : Int) := of_decide_eq_true (by first | (with_reducible assumption) | assumption)
             obtain ⟨ad506, e506, hx506_0, hx506_1, hx506_2, hx506_3, hx506_4⟩ := at_T37 (Kd.R_reads' HO_102.out).2.2 x104_3 p506 q506
             cases e506
             replace p506 := eq_true p506
             replace q506 := eq_true q506
             go_upto_region 13 with (first | ((with_reducible refine gate_dst (N := 12) rfl ?_); (try (refine gate_guard (by rfl) ?_; dsimp only)); refine box_event ?hg (N := 12) ?hd (cs := #[.int .i64 0, .int .i64 0, .int .i64 0, .int .i64 0, .int .i64 0]) (t := 37) ?hr ?_; (case hd => rfl); (case hg => rfl); (case hr => first | (go_simp; done) | (go_simp; rfl)); intro gb507 hg w51 hbox hb; have n0_ := Aside0.mk (Kd.R_below (Kd.R_elderB (by (with_reducible repeat (first | apply Kd.R_alloc | apply Kd.R_drewN | apply Kd.R_drew)); exact HO_5.out) gb507 (Nat.le_of_eq hg.symm)) hb); have n1_ := Aside0.mk (Kd.R_below (by (with_reducible repeat (first | apply Kd.R_alloc | apply Kd.R_drewN | apply Kd.R_drew)); exact HO_6.out) hb); have n2_ := Aside0.mk (Kd.R_below (by (with_reducible repeat (first | apply Kd.R_alloc | apply Kd.R_drewN | apply Kd.R_drew)); exact HO_9.out) hb); have n3_ := Aside0.mk (Kd.R_below (Kd.R_elderB (by (with_reducible repeat (first | apply Kd.R_alloc | apply Kd.R_drewN | apply Kd.R_drew)); exact HO_102.out) gb507 (Nat.le_of_eq hg.symm)) hb); have n4_ := Aside0.mk (blk_below (g := gb496) (o := .cells #[.int .i64 t493, .int .i64 t494] 29 (0, 0)) (by (with_reducible repeat (first | refine blk_drewN ?_ _ | refine blk_drew ?_ | refine blk_alloc ?_ _)); exact BK496.out) hb); have n5_ := Aside0.mk (below_step (by repeat (first | (with_reducible first | exact HB.out | apply below_alloc | apply pw_below_drewN | apply below_drew1 | refine below_set ?_ GE496.out) | exact HB.out)) hb); have n6_ := Aside0.mk (hbox); have n7_ := Aside0.mk ((by rw [hg]; exact (below_size (by repeat (first | (with_reducible first | exact HB.out | apply below_alloc | apply pw_below_drewN | apply below_drew1 | refine below_set ?_ GE496.out) | exact HB.out))) : w.heap.size ≤ gb507)); have n8_ := Aside0.mk ((by rw [hg]; exact (below_size (by repeat (first | (with_reducible first | exact HB.out | apply below_alloc | apply pw_below_drewN | apply below_drew1 | refine below_set ?_ GE496.out) | exact HB.out))) : w.heap.size ≤ gb507)); have n9_ := Aside0.mk ((by rw [hg]; exact Nat.ne_of_lt (blk_lt (g := gb496) (o := .cells #[.int .i64 t493, .int .i64 t494] 29 (0, 0)) (by (with_reducible repeat (first | refine blk_drewN ?_ _ | refine blk_drew ?_ | refine blk_alloc ?_ _)); exact BK496.out)) : gb496 ≠ gb507)); have n10_ := Aside0.mk ((by rw [hg]; exact Nat.ne_of_gt (blk_lt (g := gb496) (o := .cells #[.int .i64 t493, .int .i64 t494] 29 (0, 0)) (by (with_reducible repeat (first | refine blk_drewN ?_ _ | refine blk_drew ?_ | refine blk_alloc ?_ _)); exact BK496.out)) : gb507 ≠ gb496)); clear HO_5; clear HO_6; clear HO_9; clear HO_102; clear BK496; clear HB; have HO_5 := n0_; have HO_6 := n1_; have HO_9 := n2_; have HO_102 := n3_; have BK496 := n4_; have HB := n5_; have BK507 := n6_; have GW507 := n7_; have GE507 := n8_; have NB496_507 := n9_; have NB507_496 := n10_; clear n0_ n1_ n2_ n3_ n4_ n5_ n6_ n7_ n8_ n9_ n10_; clear hb hbox hg; have hnb52 := NB507_496.out; have hnc52 := NB496_507.out; have hcz53_0 : w51.cell? ⟨gb507, 0, none⟩ = some (.int .i64 0) := (blk_cell BK507.out 0).trans rfl; have hcz53_1 : w51.cell? ⟨gb507, 1, none⟩ = some (.int .i64 0) := (blk_cell BK507.out 1).trans rfl; have hcz53_2 : w51.cell? ⟨gb507, 2, none⟩ = some (.int .i64 0) := (blk_cell BK507.out 2).trans rfl; have hcz53_3 : w51.cell? ⟨gb507, 3, none⟩ = some (.int .i64 0) := (blk_cell BK507.out 3).trans rfl; have hcz53_4 : w51.cell? ⟨gb507, 4, none⟩ = some (.int .i64 0) := (blk_cell BK507.out 4).trans rfl; have hfz53_0 := blk_frozen BK507.out 0; have hfz53_1 := blk_frozen BK507.out 1; have hfz53_2 := blk_frozen BK507.out 2; have hfz53_3 := blk_frozen BK507.out 3; have hfz53_4 := blk_frozen BK507.out 4))
             (try simp only [Act.put, List.setIfInBounds_toArray, List.set_cons_zero, List.set_cons_succ])
             go_cut [13] (fun v13 wc => ∃ (kq : Nat) (x13_49 : Bool), v13 = .bool x13_49 ∧ Aside0 (timesynclaw24_ChooseTruth.j3 kq t487 t490 t497 x104_3 x13_49 t487 (t487.length : Int) x104_3 t493 t494 = some r) ∧ Aside0 (kq ≤ k3) ∧ Aside0 (Kd.R k37 37 wc w.heap.size (fun k_ => k_ ≠ gb507) (.slice (some ad506) t487.length co8) t487) ∧ Aside0 (Kd.R (Kd.int .i64) 3 wc w.heap.size (fun k_ => some k_ ≠ (v499 : Value).ownBlock) v491 t490) ∧ Aside0 (Kd.R (Kd.int .i64) 3 wc w.heap.size (fun k_ => some k_ ≠ (v491 : Value).ownBlock) v499 t497) ∧ Aside0 (Kd.R k37 37 wc w.heap.size (fun k_ => k_ ≠ gb507) (.slice (some ad506) t487.length co8) t487) ∧ Aside0 (wc.heap[gb496]? = some (.cells #[.int .i64 t493, .int .i64 t494] 29 (0, 0))) ∧ Aside0 (wc.heap[gb507]? = some (.cells #[.int .i64 ((rd_T37 t487 x104_3).f0), .int .i64 ((rd_T37 t487 x104_3).f1), .int .i64 ((rd_T37 t487 x104_3).f2), .int .i64 ((rd_T37 t487 x104_3).f3), .int .i64 ((rd_T37 t487 x104_3).f4)] 37 (0, 0))) ∧ Aside0 (Below w.heap.size w wc))
             case first =>
              have H := HC50.out
              clear HC50
              by_cases c54 : t493 ≤ ((rd_T37 t487 x104_3).f1)
              ·rw [if_pos c54] at H
               have c54b0 : decide (t493 ≤ ((rd_T37 t487 x104_3).f1)) = true := decide_eq_true c54
               clear c54
               (first | rw [c54b0] | (simp only [i64_w, i32_w]; rw [c54b0]) | skip)
               have H' := Aside0.mk H
               clear H
               have hnb55 := NB496_507.out
               have hnc55 := NB507_496.out
               have hcz56_0 : w51.cell? ⟨gb496, 0, none⟩ = some (.int .i64 t493) := (blk_cell BK496.out 0).trans rfl
               have hcz56_1 : w51.cell? ⟨gb496, 1, none⟩ = some (.int .i64 t494) := (blk_cell BK496.out 1).trans rfl
               have hfz56_0 := blk_frozen BK496.out 0
               have hfz56_1 := blk_frozen BK496.out 1
               have hcz57_0 : w51.cell? ⟨gb507, 0, none⟩ = some (.int .i64 0) := (blk_cell BK507.out 0).trans rfl
               have hcz57_1 : w51.cell? ⟨gb507, 1, none⟩ = some (.int .i64 0) := (blk_cell BK507.out 1).trans rfl
               have hcz57_2 : w51.cell? ⟨gb507, 2, none⟩ = some (.int .i64 0) := (blk_cell BK507.out 2).trans rfl
               have hcz57_3 : w51.cell? ⟨gb507, 3, none⟩ = some (.int .i64 0) := (blk_cell BK507.out 3).trans rfl
               have hcz57_4 : w51.cell? ⟨gb507, 4, none⟩ = some (.int .i64 0) := (blk_cell BK507.out 4).trans rfl
               have hfz57_0 := blk_frozen BK507.out 0
               have hfz57_1 := blk_frozen BK507.out 1
               have hfz57_2 := blk_frozen BK507.out 2
               have hfz57_3 := blk_frozen BK507.out 3
               have hfz57_4 := blk_frozen BK507.out 4
               go_wp2
               go_meet
               case rel => exact ⟨_, (decide (((rd_T37 t487 x104_3).f1) ≤ t494)), (by first | rfl | (simp; done) | (simp [*]; done)), H', ⟨by have := HJ5.out; have := HJ25.out; have := HK3.out; first | omega | exact Nat.le_refl _⟩, ⟨by (with_reducible repeat (first | apply Kd.R_alloc | apply Kd.R_drewN | apply Kd.R_drew)); exact Kd.R_mono (Kd.R_far (p := ⟨gb507, 4, none⟩) (Kd.R_far (p := ⟨gb507, 3, none⟩) (Kd.R_far (p := ⟨gb507, 2, none⟩) (Kd.R_far (p := ⟨gb507, 1, none⟩) (Kd.R_far (p := ⟨gb507, 0, none⟩) (Kd.R_mono HO_5.out (fun k_ hk => (⟨hk, hk.2⟩ : _ ∧ k_ ≠ gb507))) (fun _ hk => hk.2) (.int .i64 ((rd_T37 t487 x104_3).f0))) (fun _ hk => hk.2) (.int .i64 ((rd_T37 t487 x104_3).f1))) (fun _ hk => hk.2) (.int .i64 ((rd_T37 t487 x104_3).f2))) (fun _ hk => hk.2) (.int .i64 ((rd_T37 t487 x104_3).f3))) (fun _ hk => hk.2) (.int .i64 ((rd_T37 t487 x104_3).f4))) (fun _ hk => hk.1.2)⟩, ⟨by (with_reducible repeat (first | apply Kd.R_alloc | apply Kd.R_drewN | apply Kd.R_drew)); exact Kd.R_mono (Kd.R_far (p := ⟨gb507, 4, none⟩) (Kd.R_far (p := ⟨gb507, 3, none⟩) (Kd.R_far (p := ⟨gb507, 2, none⟩) (Kd.R_far (p := ⟨gb507, 1, none⟩) (Kd.R_far (p := ⟨gb507, 0, none⟩) (Kd.R_types HO_6.out BK507.out (by decide)) (fun _ hk => hk.2) (.int .i64 ((rd_T37 t487 x104_3).f0))) (fun _ hk => hk.2) (.int .i64 ((rd_T37 t487 x104_3).f1))) (fun _ hk => hk.2) (.int .i64 ((rd_T37 t487 x104_3).f2))) (fun _ hk => hk.2) (.int .i64 ((rd_T37 t487 x104_3).f3))) (fun _ hk => hk.2) (.int .i64 ((rd_T37 t487 x104_3).f4))) (fun _ hk => hk.1)⟩, ⟨by (with_reducible repeat (first | apply Kd.R_alloc | apply Kd.R_drewN | apply Kd.R_drew)); exact Kd.R_mono (Kd.R_far (p := ⟨gb507, 4, none⟩) (Kd.R_far (p := ⟨gb507, 3, none⟩) (Kd.R_far (p := ⟨gb507, 2, none⟩) (Kd.R_far (p := ⟨gb507, 1, none⟩) (Kd.R_far (p := ⟨gb507, 0, none⟩) (Kd.R_types HO_9.out BK507.out (by decide)) (fun _ hk => hk.2) (.int .i64 ((rd_T37 t487 x104_3).f0))) (fun _ hk => hk.2) (.int .i64 ((rd_T37 t487 x104_3).f1))) (fun _ hk => hk.2) (.int .i64 ((rd_T37 t487 x104_3).f2))) (fun _ hk => hk.2) (.int .i64 ((rd_T37 t487 x104_3).f3))) (fun _ hk => hk.2) (.int .i64 ((rd_T37 t487 x104_3).f4))) (fun _ hk => hk.1)⟩, ⟨by (with_reducible repeat (first | apply Kd.R_alloc | apply Kd.R_drewN | apply Kd.R_drew)); exact Kd.R_mono (Kd.R_far (p := ⟨gb507, 4, none⟩) (Kd.R_far (p := ⟨gb507, 3, none⟩) (Kd.R_far (p := ⟨gb507, 2, none⟩) (Kd.R_far (p := ⟨gb507, 1, none⟩) (Kd.R_far (p := ⟨gb507, 0, none⟩) (Kd.R_mono HO_102.out (fun k_ hk => (⟨hk, hk.2⟩ : _ ∧ k_ ≠ gb507))) (fun _ hk => hk.2) (.int .i64 ((rd_T37 t487 x104_3).f0))) (fun _ hk => hk.2) (.int .i64 ((rd_T37 t487 x104_3).f1))) (fun _ hk => hk.2) (.int .i64 ((rd_T37 t487 x104_3).f2))) (fun _ hk => hk.2) (.int .i64 ((rd_T37 t487 x104_3).f3))) (fun _ hk => hk.2) (.int .i64 ((rd_T37 t487 x104_3).f4))) (fun _ hk => hk.1.2)⟩, ⟨by (with_reducible repeat (first | refine blk_drewN ?_ _ | refine blk_drew ?_ | refine blk_alloc ?_ _)); refine blk_far ?_ NB496_507.out _; (with_reducible repeat (first | refine blk_drewN ?_ _ | refine blk_drew ?_ | refine blk_alloc ?_ _)); refine blk_far ?_ NB496_507.out _; (with_reducible repeat (first | refine blk_drewN ?_ _ | refine blk_drew ?_ | refine blk_alloc ?_ _)); refine blk_far ?_ NB496_507.out _; (with_reducible repeat (first | refine blk_drewN ?_ _ | refine blk_drew ?_ | refine blk_alloc ?_ _)); refine blk_far ?_ NB496_507.out _; (with_reducible repeat (first | refine blk_drewN ?_ _ | refine blk_drew ?_ | refine blk_alloc ?_ _)); refine blk_far ?_ NB496_507.out _; (with_reducible repeat (first | refine blk_drewN ?_ _ | refine blk_drew ?_ | refine blk_alloc ?_ _)); exact BK496.out⟩, ⟨by (with_reducible repeat (first | refine blk_drewN ?_ _ | refine blk_drew ?_ | refine blk_alloc ?_ _)); refine blk_put (cs := #[.int .i64 ((rd_T37 t487 x104_3).f0), .int .i64 ((rd_T37 t487 x104_3).f1), .int .i64 ((rd_T37 t487 x104_3).f2), .int .i64 ((rd_T37 t487 x104_3).f3), .int .i64 0]) ?_ 4 _ rfl; (with_reducible repeat (first | refine blk_drewN ?_ _ | refine blk_drew ?_ | refine blk_alloc ?_ _)); refine blk_put (cs := #[.int .i64 ((rd_T37 t487 x104_3).f0), .int .i64 ((rd_T37 t487 x104_3).f1), .int .i64 ((rd_T37 t487 x104_3).f2), .int .i64 0, .int .i64 0]) ?_ 3 _ rfl; (with_reducible repeat (first | refine blk_drewN ?_ _ | refine blk_drew ?_ | refine blk_alloc ?_ _)); refine blk_put (cs := #[.int .i64 ((rd_T37 t487 x104_3).f0), .int .i64 ((rd_T37 t487 x104_3).f1), .int .i64 0, .int .i64 0, .int .i64 0]) ?_ 2 _ rfl; (with_reducible repeat (first | refine blk_drewN ?_ _ | refine blk_drew ?_ | refine blk_alloc ?_ _)); refine blk_put (cs := #[.int .i64 ((rd_T37 t487 x104_3).f0), .int .i64 0, .int .i64 0, .int .i64 0, .int .i64 0]) ?_ 1 _ rfl; (with_reducible repeat (first | refine blk_drewN ?_ _ | refine blk_drew ?_ | refine blk_alloc ?_ _)); refine blk_put (cs := #[.int .i64 0, .int .i64 0, .int .i64 0, .int .i64 0, .int .i64 0]) ?_ 0 _ rfl; (with_reducible repeat (first | refine blk_drewN ?_ _ | refine blk_drew ?_ | refine blk_alloc ?_ _)); exact BK507.out⟩, ⟨by repeat (first | (with_reducible first | exact HB.out | apply below_alloc | apply pw_below_drewN | apply below_drew1 | refine below_set ?_ GE496.out | refine below_set ?_ GE507.out) | exact HB.out)⟩⟩
              ·rw [if_neg c54] at H
               have c54b0 : decide (t493 ≤ ((rd_T37 t487 x104_3).f1)) = false := decide_eq_false c54
               clear c54
               (first | rw [c54b0] | (simp only [i64_w, i32_w]; rw [c54b0]) | skip)
               have H' := Aside0.mk H
               clear H
               have hnb58 := NB496_507.out
               have hnc58 := NB507_496.out
               have hcz59_0 : w51.cell? ⟨gb496, 0, none⟩ = some (.int .i64 t493) := (blk_cell BK496.out 0).trans rfl
               have hcz59_1 : w51.cell? ⟨gb496, 1, none⟩ = some (.int .i64 t494) := (blk_cell BK496.out 1).trans rfl
               have hfz59_0 := blk_frozen BK496.out 0
               have hfz59_1 := blk_frozen BK496.out 1
               have hcz60_0 : w51.cell? ⟨gb507, 0, none⟩ = some (.int .i64 0) := (blk_cell BK507.out 0).trans rfl
               have hcz60_1 : w51.cell? ⟨gb507, 1, none⟩ = some (.int .i64 0) := (blk_cell BK507.out 1).trans rfl
               have hcz60_2 : w51.cell? ⟨gb507, 2, none⟩ = some (.int .i64 0) := (blk_cell BK507.out 2).trans rfl
               have hcz60_3 : w51.cell? ⟨gb507, 3, none⟩ = some (.int .i64 0) := (blk_cell BK507.out 3).trans rfl
               have hcz60_4 : w51.cell? ⟨gb507, 4, none⟩ = some (.int .i64 0) := (blk_cell BK507.out 4).trans rfl
               have hfz60_0 := blk_frozen BK507.out 0
               have hfz60_1 := blk_frozen BK507.out 1
               have hfz60_2 := blk_frozen BK507.out 2
               have hfz60_3 := blk_frozen BK507.out 3
               have hfz60_4 := blk_frozen BK507.out 4
               go_wp2
               go_meet
               case rel => exact ⟨_, (false), (by first | rfl | (simp; done) | (simp [*]; done)), H', ⟨by have := HJ5.out; have := HJ25.out; have := HK3.out; first | omega | exact Nat.le_refl _⟩, ⟨by (with_reducible repeat (first | apply Kd.R_alloc | apply Kd.R_drewN | apply Kd.R_drew)); exact Kd.R_mono (Kd.R_far (p := ⟨gb507, 4, none⟩) (Kd.R_far (p := ⟨gb507, 3, none⟩) (Kd.R_far (p := ⟨gb507, 2, none⟩) (Kd.R_far (p := ⟨gb507, 1, none⟩) (Kd.R_far (p := ⟨gb507, 0, none⟩) (Kd.R_mono HO_5.out (fun k_ hk => (⟨hk, hk.2⟩ : _ ∧ k_ ≠ gb507))) (fun _ hk => hk.2) (.int .i64 ((rd_T37 t487 x104_3).f0))) (fun _ hk => hk.2) (.int .i64 ((rd_T37 t487 x104_3).f1))) (fun _ hk => hk.2) (.int .i64 ((rd_T37 t487 x104_3).f2))) (fun _ hk => hk.2) (.int .i64 ((rd_T37 t487 x104_3).f3))) (fun _ hk => hk.2) (.int .i64 ((rd_T37 t487 x104_3).f4))) (fun _ hk => hk.1.2)⟩, ⟨by (with_reducible repeat (first | apply Kd.R_alloc | apply Kd.R_drewN | apply Kd.R_drew)); exact Kd.R_mono (Kd.R_far (p := ⟨gb507, 4, none⟩) (Kd.R_far (p := ⟨gb507, 3, none⟩) (Kd.R_far (p := ⟨gb507, 2, none⟩) (Kd.R_far (p := ⟨gb507, 1, none⟩) (Kd.R_far (p := ⟨gb507, 0, none⟩) (Kd.R_types HO_6.out BK507.out (by decide)) (fun _ hk => hk.2) (.int .i64 ((rd_T37 t487 x104_3).f0))) (fun _ hk => hk.2) (.int .i64 ((rd_T37 t487 x104_3).f1))) (fun _ hk => hk.2) (.int .i64 ((rd_T37 t487 x104_3).f2))) (fun _ hk => hk.2) (.int .i64 ((rd_T37 t487 x104_3).f3))) (fun _ hk => hk.2) (.int .i64 ((rd_T37 t487 x104_3).f4))) (fun _ hk => hk.1)⟩, ⟨by (with_reducible repeat (first | apply Kd.R_alloc | apply Kd.R_drewN | apply Kd.R_drew)); exact Kd.R_mono (Kd.R_far (p := ⟨gb507, 4, none⟩) (Kd.R_far (p := ⟨gb507, 3, none⟩) (Kd.R_far (p := ⟨gb507, 2, none⟩) (Kd.R_far (p := ⟨gb507, 1, none⟩) (Kd.R_far (p := ⟨gb507, 0, none⟩) (Kd.R_types HO_9.out BK507.out (by decide)) (fun _ hk => hk.2) (.int .i64 ((rd_T37 t487 x104_3).f0))) (fun _ hk => hk.2) (.int .i64 ((rd_T37 t487 x104_3).f1))) (fun _ hk => hk.2) (.int .i64 ((rd_T37 t487 x104_3).f2))) (fun _ hk => hk.2) (.int .i64 ((rd_T37 t487 x104_3).f3))) (fun _ hk => hk.2) (.int .i64 ((rd_T37 t487 x104_3).f4))) (fun _ hk => hk.1)⟩, ⟨by (with_reducible repeat (first | apply Kd.R_alloc | apply Kd.R_drewN | apply Kd.R_drew)); exact Kd.R_mono (Kd.R_far (p := ⟨gb507, 4, none⟩) (Kd.R_far (p := ⟨gb507, 3, none⟩) (Kd.R_far (p := ⟨gb507, 2, none⟩) (Kd.R_far (p := ⟨gb507, 1, none⟩) (Kd.R_far (p := ⟨gb507, 0, none⟩) (Kd.R_mono HO_102.out (fun k_ hk => (⟨hk, hk.2⟩ : _ ∧ k_ ≠ gb507))) (fun _ hk => hk.2) (.int .i64 ((rd_T37 t487 x104_3).f0))) (fun _ hk => hk.2) (.int .i64 ((rd_T37 t487 x104_3).f1))) (fun _ hk => hk.2) (.int .i64 ((rd_T37 t487 x104_3).f2))) (fun _ hk => hk.2) (.int .i64 ((rd_T37 t487 x104_3).f3))) (fun _ hk => hk.2) (.int .i64 ((rd_T37 t487 x104_3).f4))) (fun _ hk => hk.1.2)⟩, ⟨by (with_reducible repeat (first | refine blk_drewN ?_ _ | refine blk_drew ?_ | refine blk_alloc ?_ _)); refine blk_far ?_ NB496_507.out _; (with_reducible repeat (first | refine blk_drewN ?_ _ | refine blk_drew ?_ | refine blk_alloc ?_ _)); refine blk_far ?_ NB496_507.out _; (with_reducible repeat (first | refine blk_drewN ?_ _ | refine blk_drew ?_ | refine blk_alloc ?_ _)); refine blk_far ?_ NB496_507.out _; (with_reducible repeat (first | refine blk_drewN ?_ _ | refine blk_drew ?_ | refine blk_alloc ?_ _)); refine blk_far ?_ NB496_507.out _; (with_reducible repeat (first | refine blk_drewN ?_ _ | refine blk_drew ?_ | refine blk_alloc ?_ _)); refine blk_far ?_ NB496_507.out _; (with_reducible repeat (first | refine blk_drewN ?_ _ | refine blk_drew ?_ | refine blk_alloc ?_ _)); exact BK496.out⟩, ⟨by (with_reducible repeat (first | refine blk_drewN ?_ _ | refine blk_drew ?_ | refine blk_alloc ?_ _)); refine blk_put (cs := #[.int .i64 ((rd_T37 t487 x104_3).f0), .int .i64 ((rd_T37 t487 x104_3).f1), .int .i64 ((rd_T37 t487 x104_3).f2), .int .i64 ((rd_T37 t487 x104_3).f3), .int .i64 0]) ?_ 4 _ rfl; (with_reducible repeat (first | refine blk_drewN ?_ _ | refine blk_drew ?_ | refine blk_alloc ?_ _)); refine blk_put (cs := #[.int .i64 ((rd_T37 t487 x104_3).f0), .int .i64 ((rd_T37 t487 x104_3).f1), .int .i64 ((rd_T37 t487 x104_3).f2), .int .i64 0, .int .i64 0]) ?_ 3 _ rfl; (with_reducible repeat (first | refine blk_drewN ?_ _ | refine blk_drew ?_ | refine blk_alloc ?_ _)); refine blk_put (cs := #[.int .i64 ((rd_T37 t487 x104_3).f0), .int .i64 ((rd_T37 t487 x104_3).f1), .int .i64 0, .int .i64 0, .int .i64 0]) ?_ 2 _ rfl; (with_reducible repeat (first | refine blk_drewN ?_ _ | refine blk_drew ?_ | refine blk_alloc ?_ _)); refine blk_put (cs := #[.int .i64 ((rd_T37 t487 x104_3).f0), .int .i64 0, .int .i64 0, .int .i64 0, .int .i64 0]) ?_ 1 _ rfl; (with_reducible repeat (first | refine blk_drewN ?_ _ | refine blk_drew ?_ | refine blk_alloc ?_ _)); refine blk_put (cs := #[.int .i64 0, .int .i64 0, .int .i64 0, .int .i64 0, .int .i64 0]) ?_ 0 _ rfl; (with_reducible repeat (first | refine blk_drewN ?_ _ | refine blk_drew ?_ | refine blk_alloc ?_ _)); exact BK507.out⟩, ⟨by repeat (first | (with_reducible first | exact HB.out | apply below_alloc | apply pw_below_drewN | apply below_drew1 | refine below_set ?_ GE496.out | refine below_set ?_ GE507.out) | exact HB.out)⟩⟩
             case rest =>
              clear HC50
              try clear c1
              try clear c2
              try clear p2
              try clear c3
              try clear c4
              try clear c5
              try clear p5
              try clear q5
              try clear hx5
              try clear p6
              try clear c10
              try clear c13
              try clear c13b0
              try clear c13b1
              try clear c14
              try clear c14b0
              try clear c14b1
              try clear c15
              try clear c15b0
              try clear c15b1
              try clear c16
              try clear c16b0
              try clear c16b1
              try clear c16b2
              try clear c17
              try clear c17b0
              try clear c17b1
              try clear c17b2
              try clear c19
              try clear c24
              try clear c25
              try clear c25b0
              try clear c25b1
              try clear c27
              try clear c27b0
              try clear c29
              try clear c29b0
              try clear c31
              try clear c31b0
              try clear c32
              try clear c35
              try clear c37
              try clear c46
              try clear c47
              try clear c47b0
              try clear c48
              try clear c48b0
              try clear c49
              try clear c49b0
              try clear p50
              try clear q50
              try clear hx50
              try clear c52
              try clear c54
              try clear c54b0
              try clear c55
              try clear c58
              try clear hcz11_0
              try clear hcz11_1
              try clear hcz20_0
              try clear hcz20_1
              try clear hcz28_0
              try clear hcz28_1
              try clear hcz30_0
              try clear hcz30_1
              try clear hcz32_0
              try clear hcz32_1
              try clear hcz38_0
              try clear hcz38_1
              try clear hcz41_0
              try clear hcz41_1
              try clear hcz44_0
              try clear hcz44_1
              try clear hcz53_0
              try clear hcz53_1
              try clear hcz53_2
              try clear hcz53_3
              try clear hcz53_4
              try clear hcz56_0
              try clear hcz56_1
              try clear hcz57_0
              try clear hcz57_1
              try clear hcz57_2
              try clear hcz57_3
              try clear hcz57_4
              try clear hcz59_0
              try clear hcz59_1
              try clear hcz60_0
              try clear hcz60_1
              try clear hcz60_2
              try clear hcz60_3
              try clear hcz60_4
              try clear hfz11_0
              try clear hfz11_1
              try clear hfz20_0
              try clear hfz20_1
              try clear hfz28_0
              try clear hfz28_1
              try clear hfz30_0
              try clear hfz30_1
              try clear hfz32_0
              try clear hfz32_1
              try clear hfz38_0
              try clear hfz38_1
              try clear hfz41_0
              try clear hfz41_1
              try clear hfz44_0
              try clear hfz44_1
              try clear hfz53_0
              try clear hfz53_1
              try clear hfz53_2
              try clear hfz53_3
              try clear hfz53_4
              try clear hfz56_0
              try clear hfz56_1
              try clear hfz57_0
              try clear hfz57_1
              try clear hfz57_2
              try clear hfz57_3
              try clear hfz57_4
              try clear hfz59_0
              try clear hfz59_1
              try clear hfz60_0
              try clear hfz60_1
              try clear hfz60_2
              try clear hfz60_3
              try clear hfz60_4
              try clear hx506_0
              try clear hx506_1
              try clear hx506_2
              try clear hx506_3
              try clear hx506_4
              try clear p2
              try clear p506
              try clear p6
              try clear q506
              obtain ⟨kq, x13_49, rfl, HA, HJ49, HO_5, HO_6, HO_9, HO_102, BK496, BK507, HB⟩ := hcut
              cases kq with
              | zero => exact absurd HA.out (by simp [timesynclaw24_ChooseTruth.j3])
              | succ kj49 =>
               have H := HA.out
               clear HA
               simp only [timesynclaw24_ChooseTruth.j3] at H
               replace H := Option.bind_eq_some_iff.mp H
               obtain ⟨t508, A610, H⟩ := H
               replace H : (if (t508 != x13_49) = true then (none) else ((slices_Contains_int_int.f kj49 t497 x104_3).bind fun t509 => (if (t509 == x13_49) = true then (none) else (timesynclaw24_ChooseTruth.l0 kj49 t487 t490 t497 t487 (t487.length : Int) (wrap64 (x104_3 + 1)) t493 t494)))) = some r := H
               have A61 := Aside0.mk A610
               clear A610
               by_cases c62 : (t508 != x13_49) = true
               ·rw [if_pos c62] at H
                exact absurd H (by simp)
               ·rw [if_neg c62] at H
                have c62b0 : (t508 != x13_49) = false := by simpa using c62
                (try (have c62b1 : decide (t508 = x13_49) = true := by simpa using c62))
                (try (have c62b2 : (t508 == x13_49) = true := by simpa using c62))
                clear c62
                replace H := Option.bind_eq_some_iff.mp H
                obtain ⟨t509, A630, H⟩ := H
                replace H : (if (t509 == x13_49) = true then (none) else (timesynclaw24_ChooseTruth.l0 kj49 t487 t490 t497 t487 (t487.length : Int) (wrap64 (x104_3 + 1)) t493 t494)) = some r := H
                have A63 := Aside0.mk A630
                clear A630
                by_cases c64 : (t509 == x13_49) = true
                ·rw [if_pos c64] at H
                 exact absurd H (by simp)
                ·rw [if_neg c64] at H
                 have c64b0 : (t509 == x13_49) = false := by simpa using c64
                 (try (have c64b1 : decide (t509 = x13_49) = false := by simpa using c64))
                 (try (have c64b2 : (t509 == x13_49) = false := by simpa using c64))
                 (try (have c64b3 : ¬ (t509 = x13_49) := by simpa using c64))
                 clear c64
                 have H' := Aside0.mk H
                 clear H
                 obtain ⟨Ao65, co65, eo65⟩ := Kd.R_slice HO_6.out
                 subst eo65
                 go_wp2_with (first | ((with_reducible refine gate_callee (f := 34) rfl ?_); refine goesL_ (some 123) rfl rfl Try.func34 (by kernel_rfl) rfl #[.slice Ao65 t490.length co65, .int .i64 x104_3] rfl (by (try simp only [List.map_toArray, List.map_cons, List.map_nil]); first | done | rfl | (simp only [List.length_drop, List.length_take]; rfl)) ?_; (with_reducible refine (slices_Contains_int_int.calls kj49 _ _ t490 x104_3 t508 _ ?side1 ?side2 A61.out).mono ?_); (case side1 => repeat (first | exact (Kd.R_reads' HO_6.out).2.2 | (with_reducible refine Kd.C_alloc ?_ _) | (with_reducible refine Kd.C_drewN ?_ _) | (with_reducible refine Kd.C_drew ?_))); (case side2 => exact (Kd.R_reads' HO_6.out).2.1); rintro e w' ⟨rfl, ⟨nd, rfl⟩⟩; refine ⟨_, rfl, ?_⟩; obtain ⟨Ao66, co66, eo66⟩ := Kd.R_slice HO_9.out; subst eo66) | (go_at_call 34; (with_reducible refine (slices_Contains_int_int.calls kj49 _ _ t497 x104_3 t509 _ ?side1 ?side2 A63.out).mono ?_); (case side1 => repeat (first | exact (Kd.R_reads' HO_9.out).2.2 | (with_reducible refine Kd.C_alloc ?_ _) | (with_reducible refine Kd.C_drewN ?_ _) | (with_reducible refine Kd.C_drew ?_))); (case side2 => exact (Kd.R_reads' HO_9.out).2.1); rintro e w' ⟨rfl, ⟨nd, rfl⟩⟩))
                 go_roundg kj49
                 case measure => have := HJ5.out; have := HJ25.out; have := HK3.out; have := HJ49.out; omega
                 case rel => exact ⟨(wrap64 (x104_3 + 1)), (by first | rfl | (simp; done) | (simp [*]; done)), H', ⟨by have := HJ5.out; have := HJ25.out; have := HK3.out; have := HJ49.out; omega⟩, ⟨by (with_reducible repeat (first | apply Kd.R_alloc | apply Kd.R_drewN | apply Kd.R_drew)); exact Kd.R_mono HO_5.out (fun _ hk => trivial)⟩, ⟨by (with_reducible repeat (first | apply Kd.R_alloc | apply Kd.R_drewN | apply Kd.R_drew)); exact HO_6.out⟩, ⟨by (with_reducible repeat (first | apply Kd.R_alloc | apply Kd.R_drewN | apply Kd.R_drew)); exact HO_9.out⟩, ⟨by (with_reducible repeat (first | apply Kd.R_alloc | apply Kd.R_drewN | apply Kd.R_drew)); exact Kd.R_mono HO_102.out (fun _ hk => trivial)⟩, ⟨by (with_reducible repeat (first | refine blk_drewN ?_ _ | refine blk_drew ?_ | refine blk_alloc ?_ _)); exact BK496.out⟩, ⟨by repeat (first | (with_reducible first | exact HB.out | apply below_alloc | apply pw_below_drewN | apply below_drew1 | refine below_set ?_ GE496.out | refine below_set ?_ GE507.out) | exact HB.out)⟩⟩
            ·rw [if_neg c49] at H
             exact absurd H (by simp)
           ·rw [if_neg c48] at H
            exact absurd H (by simp)
          ·rw [if_neg c47] at H
           have c47b0 : decide (x104_3 < (t487.length : Int)) = false := decide_eq_false c47
           clear c47
           replace H := Option.bind_eq_some_iff.mp H
           obtain ⟨t504, A670, H⟩ := H
           replace H : (if t504 = true then ((timesynclaw24_awake.f k3).bind fun t505 => (some t505)) else (none)) = some r := H
           have A67 := Aside0.mk A670
           clear A670
           by_cases c68 : t504 = true
           ·subst c68
            have H1 : ((timesynclaw24_awake.f k3).bind fun t505 => (some t505)) = some r := by rw [if_pos rfl] at H; exact H
            clear H
            have H := H1
            clear H1
            replace H := Option.bind_eq_some_iff.mp H
            obtain ⟨t505, A690, H⟩ := H
            replace H : (some t505) = some r := H
            have A69 := Aside0.mk A690
            clear A690
            obtain rfl := Option.some.inj H
            have hcz70_0 : wr.cell? ⟨gb496, 0, none⟩ = some (.int .i64 t493) := (blk_cell BK496.out 0).trans rfl
            have hcz70_1 : wr.cell? ⟨gb496, 1, none⟩ = some (.int .i64 t494) := (blk_cell BK496.out 1).trans rfl
            have hfz70_0 := blk_frozen BK496.out 0
            have hfz70_1 := blk_frozen BK496.out 1
            go_wp2_with (first | ((with_reducible refine gate_callee (f := 22) rfl ?_); refine goesL_ (some 136) rfl rfl Try.func22 (by kernel_rfl) rfl #[.slice Ao8 t487.length co8, .agg #[.int .i64 t493, .int .i64 t494]] rfl (by (try simp only [List.map_toArray, List.map_cons, List.map_nil]); first | done | rfl | (simp only [List.length_drop, List.length_take]; rfl)) ?_; (with_reducible refine (choose_Majority.calls k3 _ _ t487 t493 t494 true _ ?side1 ?side2 A67.out).mono ?_); (case side1 => repeat (first | exact (Kd.R_reads' HO_5.out).2.2 | (with_reducible refine Kd.C_alloc ?_ _) | (with_reducible refine Kd.C_drewN ?_ _) | (with_reducible refine Kd.C_drew ?_))); (case side2 => exact (Kd.R_reads' HO_5.out).2.1); rintro e w71 ⟨rfl, hb⟩; refine ⟨_, rfl, ?_⟩; have n0_ := Aside0.mk (Kd.R_below (by (with_reducible repeat (first | apply Kd.R_alloc | apply Kd.R_drewN | apply Kd.R_drew)); exact HO_5.out) hb); have n1_ := Aside0.mk (Kd.R_below (by (with_reducible repeat (first | apply Kd.R_alloc | apply Kd.R_drewN | apply Kd.R_drew)); exact HO_6.out) hb); have n2_ := Aside0.mk (Kd.R_below (by (with_reducible repeat (first | apply Kd.R_alloc | apply Kd.R_drewN | apply Kd.R_drew)); exact HO_9.out) hb); have n3_ := Aside0.mk (Kd.R_below (by (with_reducible repeat (first | apply Kd.R_alloc | apply Kd.R_drewN | apply Kd.R_drew)); exact HO_102.out) hb); have n4_ := Aside0.mk (blk_below (g := gb496) (o := .cells #[.int .i64 t493, .int .i64 t494] 29 (0, 0)) (by (with_reducible repeat (first | refine blk_drewN ?_ _ | refine blk_drew ?_ | refine blk_alloc ?_ _)); exact BK496.out) hb); have n5_ := Aside0.mk (below_step (by repeat (first | (with_reducible first | exact HB.out | apply below_alloc | apply pw_below_drewN | apply below_drew1 | refine below_set ?_ GE496.out) | exact HB.out)) hb); clear HO_5; clear HO_6; clear HO_9; clear HO_102; clear BK496; clear HB; have HO_5 := n0_; have HO_6 := n1_; have HO_9 := n2_; have HO_102 := n3_; have BK496 := n4_; have HB := n5_; clear n0_ n1_ n2_ n3_ n4_ n5_; (try clear hb); (try clear hb2); (try clear hk); (try clear hi)) | (go_at_call 14; (with_reducible refine (timesynclaw24_awake.calls k3  t505 _ A69.out).mono ?_); rintro e w72 ⟨rfl, hb⟩; have n0_ := Aside0.mk (Kd.R_below (by (with_reducible repeat (first | apply Kd.R_alloc | apply Kd.R_drewN | apply Kd.R_drew)); exact HO_5.out) hb); have n1_ := Aside0.mk (Kd.R_below (by (with_reducible repeat (first | apply Kd.R_alloc | apply Kd.R_drewN | apply Kd.R_drew)); exact HO_6.out) hb); have n2_ := Aside0.mk (Kd.R_below (by (with_reducible repeat (first | apply Kd.R_alloc | apply Kd.R_drewN | apply Kd.R_drew)); exact HO_9.out) hb); have n3_ := Aside0.mk (Kd.R_below (by (with_reducible repeat (first | apply Kd.R_alloc | apply Kd.R_drewN | apply Kd.R_drew)); exact HO_102.out) hb); have n4_ := Aside0.mk (blk_below (g := gb496) (o := .cells #[.int .i64 t493, .int .i64 t494] 29 (0, 0)) (by (with_reducible repeat (first | refine blk_drewN ?_ _ | refine blk_drew ?_ | refine blk_alloc ?_ _)); exact BK496.out) hb); have n5_ := Aside0.mk (below_step (by repeat (first | (with_reducible first | exact HB.out | apply below_alloc | apply pw_below_drewN | apply below_drew1 | refine below_set ?_ GE496.out) | exact HB.out)) hb); clear HO_5; clear HO_6; clear HO_9; clear HO_102; clear BK496; clear HB; have HO_5 := n0_; have HO_6 := n1_; have HO_9 := n2_; have HO_102 := n3_; have BK496 := n4_; have HB := n5_; clear n0_ n1_ n2_ n3_ n4_ n5_; (try clear hb); (try clear hb2); (try clear hk); (try clear hi)))
            go_ret
            exact ⟨by first | rfl | (simp [errW_none, errW_some] <;> rfl) | (simp [*, errW_none, errW_some] <;> rfl), by repeat (first | (with_reducible first | exact HB.out | apply below_alloc | apply pw_below_drewN | apply below_drew1 | refine below_set ?_ GE496.out) | exact HB.out)⟩
           ·replace c68 := Bool.eq_false_iff.mpr c68
            subst c68
            have H1 : (none) = some r := by rw [if_neg (show ¬ (false = true) by decide)] at H; exact H
            clear H
            have H := H1
            clear H1
            exact absurd H (by simp)
    ·rw [if_neg c25] at H
     have c25b0 : (t495 == 0) = false := beq_eq_false_iff_ne.mpr c25
     have c25b1 : (t495 != 0) = true := bne_iff_ne.mpr c25
     replace H := Option.bind_eq_some_iff.mp H
     obtain ⟨t501, A730, H⟩ := H
     replace H : (some t501) = some r := H
     have A73 := Aside0.mk A730
     clear A730
     obtain rfl := Option.some.inj H
     go_wp2_with (first | ((with_reducible refine gate_callee (f := 14) rfl ?_); refine goesL_ (some 61) rfl rfl Try.func14 (by kernel_rfl) rfl #[] rfl (by (try simp only [List.map_toArray, List.map_cons, List.map_nil]); first | done | rfl | (simp only [List.length_drop, List.length_take]; rfl)) ?_; (with_reducible refine (timesynclaw24_awake.calls kj5  t501 _ A73.out).mono ?_); rintro e w74 ⟨rfl, hb⟩; refine ⟨_, rfl, ?_⟩; have n0_ := Aside0.mk (Kd.R_below (by (with_reducible repeat (first | apply Kd.R_alloc | apply Kd.R_drewN | apply Kd.R_drew)); exact HO_5.out) hb); have n1_ := Aside0.mk (Kd.R_below (by (with_reducible repeat (first | apply Kd.R_alloc | apply Kd.R_drewN | apply Kd.R_drew)); exact HO_6.out) hb); have n2_ := Aside0.mk (Kd.R_below (by (with_reducible repeat (first | apply Kd.R_alloc | apply Kd.R_drewN | apply Kd.R_drew)); exact HO_9.out) hb); have n3_ := Aside0.mk (blk_below (g := gb496) (o := .cells #[.int .i64 t493, .int .i64 t494] 29 (0, 0)) (by (with_reducible repeat (first | refine blk_drewN ?_ _ | refine blk_drew ?_ | refine blk_alloc ?_ _)); exact BK496.out) hb); have n4_ := Aside0.mk (below_step (by repeat (first | (with_reducible first | exact HB.out | apply below_alloc | apply pw_below_drewN | apply below_drew1 | refine below_set ?_ GE496.out) | exact HB.out)) hb); clear HO_5; clear HO_6; clear HO_9; clear BK496; clear HB; have HO_5 := n0_; have HO_6 := n1_; have HO_9 := n2_; have BK496 := n3_; have HB := n4_; clear n0_ n1_ n2_ n3_ n4_; (try clear hb); (try clear hb2); (try clear hk); (try clear hi)))
     go_ret
     exact ⟨by first | rfl | (simp [errW_none, errW_some] <;> rfl) | (simp [*, errW_none, errW_some] <;> rfl), by repeat (first | (with_reducible first | exact HB.out | apply below_alloc | apply pw_below_drewN | apply below_drew1 | refine below_set ?_ GE496.out) | exact HB.out)⟩

end Go.Proofs.Ytlfilhplklifjaa.X

namespace Go.Proofs.Ytlfilhplklifjaa.X
open Go.RowKit Go.Proofs.YtlfilhplklifjaaW.PrintWords Go.Proofs.YtlfilhplklifjaaW.PrintLast Go.Proofs.YtlfilhplklifjaaW.PrintMore
attribute [local go_sem] max2_int min2_int max_two min_two max_three min_three max_four min_four   -- for this text's walks alone
set_option linter.unusedVariables false
set_option linter.unusedSimpArgs false

def WFi32 (x : Int) : Prop := (Lit.int .i32 x).wf = true
def WFu32 (x : Int) : Prop := (Lit.int .u32 x).wf = true
def WF83 (x : S83) : Prop := WFu32 x.f0 ∧ WFu32 x.f1
def WFL83 (x : List (S83)) : Prop := x.length ≤ 9223372036854775807 ∧ ∀ y ∈ x, WF83 y
end Go.Proofs.Ytlfilhplklifjaa.X

/- Plain words of this seat: rounds, wrapped numbers, lists by index; the check of candidates. -/
namespace Go.Proofs.Ytlfilhplklifjaa.PA
open Go.RowKit Go.Proofs.Ytlfilhplklifjaa.X Go.Proofs.YtlfilhplklifjaaW.PrintWords Go.Proofs.YtlfilhplklifjaaW.PrintLast

section
variable {α β : Type} {f g h : Nat → Option α} {r : α} {c : Prop} [Decidable c]
theorem Ev.pos (hc : c) (h : Ev f r) : Ev (fun n => if c then f n else g n) r := Ev.congr (fun _ => if_pos hc) h
theorem Ev.neg (hc : ¬ c) (h : Ev g r) : Ev (fun n => if c then f n else g n) r := Ev.congr (fun _ => if_neg hc) h
theorem Ev.ite_ (h1 : c → Ev f r) (h2 : ¬ c → Ev g r) : Ev (fun n => if c then f n else g n) r := by
  by_cases hc : c
  · exact Ev.pos hc (h1 hc)
  · exact Ev.neg hc (h2 hc)
theorem Ev.bind' {g : Nat → Option α} {f : Nat → α → Option β} {r : β} (a : α) (h : Ev g a) (k : Ev (fun n => f n a) r) : Ev (fun n => (g n).bind (f n)) r := Ev.bind h k
theorem Ev.some_bind {f : Nat → α → Option β} {a : α} {r : β} (k : Ev (fun n => f n a) r) : Ev (fun n => (some a).bind (f n)) r := k
theorem Ev.const {x : Option α} (h : x = some r) : Ev (fun _ => x) r := ⟨0, fun _ _ => h⟩
theorem Ev.uniq {r r' : α} (h : Ev f r) (h' : Ev f r') : r = r' := by
  obtain ⟨K, h⟩ := h
  obtain ⟨K', h'⟩ := h'
  have h1 := h (max K K') (by omega)
  have h2 := h' (max K K') (by omega)
  rw [h1] at h2
  exact Option.some.inj h2
end

theorem wrap_id {x : Int} (h0 : -9223372036854775808 ≤ x) (h1 : x < 9223372036854775808) : wrap64 x = x := by
  unfold wrap64; omega
theorem wrap_nat {i : Nat} (h : i < 9223372036854775807) : wrap64 ((i : Int) + 1) = ((i + 1 : Nat) : Int) := by
  rw [wrap_id (by omega) (by omega)]; rfl
theorem rd37 (l : List S37) (i : Nat) : rd_T37 l (i : Int) = l.getD i z37 := by simp [rd_T37]
theorem rd29 (l : List S29) (i : Nat) : rd_T29 l (i : Int) = l.getD i z29 := by simp [rd_T29]
theorem rd88 (l : List S88) (i : Nat) : rd_T88 l (i : Int) = l.getD i z88 := by simp [rd_T88]
theorem rd110 (l : List S110) (i : Nat) : rd_T110 l (i : Int) = l.getD i z110 := by simp [rd_T110]
theorem rdI (l : List Int) (i : Nat) : rd l (i : Int) = l.getD i 0 := by simp [rd]

/-! ### Check -/
/-- A candidate within the limits. -/
def OkC (c : S37) : Prop := 0 ≤ c.f0 ∧ c.f0 ≤ 2147483647 ∧ -4503599627370496 ≤ c.f1 ∧ c.f1 ≤ 4503599627370496 ∧ 0 ≤ c.f2 ∧ c.f2 ≤ 9007199254740992 ∧ 0 ≤ c.f3 ∧ c.f3 ≤ 9007199254740992 ∧ 1 ≤ c.f4 ∧ c.f4 ≤ 16
instance (c : S37) : Decidable (OkC c) := by unfold OkC; infer_instance
/-- One of the candidates from j on, ahead of i, has i's number. -/
def dupFrom (l : List S37) (i : Nat) : Nat → Nat → Bool
  | 0, _ => false
  | d + 1, j => if (l.getD j z37).f0 = (l.getD i z37).f0 then true else dupFrom l i d (j + 1)
def chkFrom (l : List S37) : Nat → Nat → Int
  | 0, _ => 0
  | d + 1, i => if OkC (l.getD i z37) then (if dupFrom l i i 0 = true then 10 else chkFrom l d (i + 1)) else 3
def chk (l : List S37) : Int := if (l.length : Int) > 12 then 6 else chkFrom l l.length 0

theorem impl_dup (l : List S37) (hn : l.length ≤ 12) (i : Nat) (hi : i < l.length) (r : Int) (hnext : Ev (fun k => choose_Check.l0 k l l l.length ((i + 1 : Nat) : Int)) r) (a b c e : Int) :
    ∀ d j, j + d = i → Ev (fun k => choose_Check.l1 k l l l.length i (l.take i) i j (l.getD i z37).f0 a b c e) (if dupFrom l i d j = true then 10 else r) := by
  intro d
  induction d with
  | zero =>
    intro j hj
    refine Ev.step (fun k => by rw [choose_Check.l1]) ?_
    refine Ev.neg (by omega) ?_
    rw [wrap_nat (by omega)]
    simpa [dupFrom] using hnext
  | succ d ih =>
    intro j hj
    refine Ev.step (fun k => by rw [choose_Check.l1]) ?_
    refine Ev.pos (by omega) (Ev.pos (by omega) (Ev.pos (by rw [List.length_take]; omega) ?_))
    rw [rd37]
    unfold dupFrom
    have e1 : (l.take i).getD j z37 = l.getD j z37 := by
      simp [List.getD, show j < i by omega]
    rw [e1]
    by_cases h : (l.getD j z37).f0 = (l.getD i z37).f0
    · rw [if_pos h]
      exact Ev.pos h (Ev.const rfl)
    · rw [if_neg h]
      refine Ev.neg h ?_
      rw [wrap_nat (by omega)]
      exact ih (j + 1) (by omega)

theorem impl_j1 (l : List S37) (hn : l.length ≤ 12) (i : Nat) (hi : i < l.length) (r : Int) (hnext : Ev (fun k => choose_Check.l0 k l l l.length ((i + 1 : Nat) : Int)) r) (bad : Bool) (a b c e : Int) :
    Ev (fun k => choose_Check.j1 k l i l l.length i bad (l.getD i z37).f0 a b c e) (if bad = true then 3 else if dupFrom l i i 0 = true then 10 else r) := by
  refine Ev.step (fun k => by rw [choose_Check.j1]) ?_
  cases bad with
  | true => exact Ev.pos rfl (Ev.const rfl)
  | false =>
    refine Ev.neg (by simp) (Ev.pos (by omega) (Ev.pos (by omega) (Ev.some_bind ?_)))
    have h1 : ((l.take ((i : Int)).toNat).length : Int) = i := by rw [List.length_take]; simp; omega
    simp only [h1]
    simp only [Int.toNat_natCast, Bool.false_eq_true, if_false]
    exact impl_dup l hn i hi r hnext a b c e i 0 (by omega)

theorem impl_chk_from (l : List S37) (hn : l.length ≤ 12) : ∀ d i, i + d = l.length → Ev (fun k => choose_Check.l0 k l l l.length i) (chkFrom l d i) := by
  intro d
  induction d with
  | zero =>
    intro i hi
    refine Ev.step (fun k => by rw [choose_Check.l0]) ?_
    exact Ev.neg (by omega) (Ev.const rfl)
  | succ d ih =>
    intro i hi
    have J := fun bad a b c e => impl_j1 l hn i (by omega) _ (ih (i + 1) (by omega)) bad a b c e
    refine Ev.step (fun k => by rw [choose_Check.l0]) ?_
    refine Ev.pos (by omega) (Ev.pos (by omega) (Ev.pos (by omega) ?_))
    simp only [rd37]
    unfold chkFrom
    generalize l.getD i z37 = c at J ⊢
    by_cases h : OkC c
    · rw [if_pos h]
      obtain ⟨h1, h2, h3, h4, h5, h6, h7, h8, h9, h10⟩ := h
      refine Ev.neg (by omega) (Ev.neg (by omega) (Ev.neg (by omega) (Ev.neg (by omega) (Ev.neg (by omega) (Ev.neg (by omega) (Ev.neg (by omega) (Ev.neg (by omega) (Ev.neg (by omega) ?_))))))))
      have e1 : decide (c.f4 > 16) = false := by simp; omega
      rw [e1]
      simpa using J false c.f1 c.f2 c.f3 c.f4
    · rw [if_neg h]
      have J3 := J true c.f1 c.f2 c.f3 c.f4
      simp only [if_true] at J3
      refine Ev.ite_ (fun _ => J3) (fun h1 => Ev.ite_ (fun _ => J3) (fun h2 => Ev.ite_ (fun _ => J3) (fun h3 => Ev.ite_ (fun _ => J3) (fun h4 => Ev.ite_ (fun _ => J3) (fun h5 => Ev.ite_ (fun _ => J3) (fun h6 => Ev.ite_ (fun _ => J3) (fun h7 => Ev.ite_ (fun _ => J3) (fun h8 => Ev.ite_ (fun _ => J3) (fun h9 => ?_)))))))))
      have e1 : decide (c.f4 > 16) = true := by
        simp only [decide_eq_true_eq]
        by_cases h10 : c.f4 > 16
        · exact h10
        · exact absurd ⟨by omega, by omega, by omega, by omega, by omega, by omega, by omega, by omega, by omega, by omega⟩ h
      rw [e1]
      exact J3

theorem impl_check (l : List S37) : Ev (fun k => choose_Check.f k l) (chk l) := by
  unfold choose_Check.f chk
  by_cases h : (l.length : Int) > 12
  · rw [if_pos h]; exact Ev.pos h (Ev.const rfl)
  · rw [if_neg h]; exact Ev.neg h (impl_chk_from l (by omega) l.length 0 (by omega))

/-- What a check that says 0 tells. -/
theorem chkFrom_ok {l : List S37} : ∀ {d i}, i + d = l.length → chkFrom l d i = 0 → ∀ j, i ≤ j → j < l.length → OkC (l.getD j z37) := by
  intro d
  induction d with
  | zero => intro i hi _ j hj hl; omega
  | succ d ih =>
    intro i hi h j hj hl
    unfold chkFrom at h
    by_cases hok : OkC (l.getD i z37)
    · rw [if_pos hok] at h
      by_cases hd : dupFrom l i i 0 = true
      · rw [if_pos hd] at h; omega
      · rw [if_neg hd] at h
        rcases Nat.lt_or_ge i j with h1 | h1
        · exact ih (by omega) h j (by omega) hl
        · rw [show j = i by omega]; exact hok
    · rw [if_neg hok] at h; omega
theorem chk_ok {l : List S37} (h : chk l = 0) : l.length ≤ 12 ∧ ∀ c ∈ l, OkC c := by
  unfold chk at h
  by_cases h12 : (l.length : Int) > 12
  · rw [if_pos h12] at h; omega
  · rw [if_neg h12] at h
    refine ⟨by omega, fun c hc => ?_⟩
    obtain ⟨j, hj, rfl⟩ := List.getElem_of_mem hc
    have := chkFrom_ok (by omega) h j (by omega) hj
    simpa [List.getD, hj] using this
end Go.Proofs.Ytlfilhplklifjaa.PA

/- The chapter's examples, reckoned. -/
namespace Go.Proofs.Ytlfilhplklifjaa.PA
open Go.RowKit Go.Proofs.Ytlfilhplklifjaa.X Go.Proofs.YtlfilhplklifjaaW.PrintWords
theorem awake24 : Ev (fun k => timesynclaw24_awake.f k) true := by
  have h : timesynclaw24_awake.f 30 = some true := by kernel_rfl
  exact Ev.of (fun k => timesynclaw24_awake.mono k) h
theorem awake24' : Ev (fun k => (timesynclaw24_awake.f k).bind fun t => some t) true := Ev.bind' true awake24 (Ev.const rfl)
end Go.Proofs.Ytlfilhplklifjaa.PA

/- Positions by a test; how many intervals hold an instant; the reference's hull. -/
namespace Go.Proofs.Ytlfilhplklifjaa.PA
open Go.RowKit Go.Proofs.Ytlfilhplklifjaa.X Go.Proofs.YtlfilhplklifjaaW.PrintWords Go.Proofs.YtlfilhplklifjaaW.PrintLast

/-! ### Positions -/
def idxFrom (l : List S37) (p : S37 → Bool) : Nat → Nat → List Int
  | 0, _ => []
  | d + 1, i => if p (l.getD i z37) = true then (i : Int) :: idxFrom l p d (i + 1) else idxFrom l p d (i + 1)
def idx (l : List S37) (p : S37 → Bool) : List Int := idxFrom l p l.length 0
def pIn (lo hi : Int) (c : S37) : Bool := decide (lo ≤ c.f1) && decide (c.f1 ≤ hi)
def pOut (lo hi : Int) (c : S37) : Bool := !pIn lo hi c
def pMeet (lo hi : Int) (c : S37) : Bool := decide (c.f1 - c.f2 ≤ hi) && decide (lo ≤ c.f1 + c.f2)

theorem where48 (l : List S37) (hn : l.length ≤ 100) (lo hi : Int) : ∀ d i (acc : List Int), i + d = l.length → acc.length ≤ i → Ev (fun k => api_Cand_47_48.l0 k acc l l.length i lo hi) (acc ++ idxFrom l (pIn lo hi) d i) := by
  intro d
  induction d with
  | zero =>
    intro i acc hi ha
    refine Ev.step (fun k => by rw [api_Cand_47_48.l0]) ?_
    exact Ev.neg (by omega) (Ev.const (by simp [idxFrom]))
  | succ d ih =>
    intro i acc hi' ha
    refine Ev.step (fun k => by rw [api_Cand_47_48.l0]) ?_
    refine Ev.pos (by omega) (Ev.pos (by omega) (Ev.pos (by omega) ?_))
    simp only [rd37]
    have e : choose_Select_1.f (l.getD i z37).f0 (l.getD i z37).f1 (l.getD i z37).f2 (l.getD i z37).f3 (l.getD i z37).f4 lo hi = some (pIn lo hi (l.getD i z37)) := by
      unfold choose_Select_1.f pIn
      by_cases h : (l.getD i z37).f1 ≥ lo
      · rw [if_pos h, decide_eq_true h, Bool.true_and]
      · rw [if_neg h, decide_eq_false h, Bool.false_and]
    rw [e]
    refine Ev.some_bind ?_
    unfold idxFrom
    rw [wrap_nat (by omega)]
    by_cases h : pIn lo hi (l.getD i z37) = true
    · rw [if_pos h]
      refine Ev.pos h (Ev.pos (by omega) ?_)
      have := ih (i + 1) (acc ++ [(i : Int)]) (by omega) (by simp; omega)
      simpa using this
    · rw [if_neg h]
      exact Ev.neg h (ih (i + 1) acc (by omega) (by omega))
theorem impl_in (l : List S37) (hn : l.length ≤ 100) (lo hi : Int) : Ev (fun k => api_Cand_47_48.f k l lo hi) (idx l (pIn lo hi)) := where48 l hn lo hi l.length 0 [] (by omega) (by simp)

theorem where51 (l : List S37) (hn : l.length ≤ 100) (lo hi : Int) : ∀ d i (acc : List Int), i + d = l.length → acc.length ≤ i → Ev (fun k => api_Cand_47_51.l0 k acc l l.length i lo hi) (acc ++ idxFrom l (pOut lo hi) d i) := by
  intro d
  induction d with
  | zero =>
    intro i acc hi ha
    refine Ev.step (fun k => by rw [api_Cand_47_51.l0]) ?_
    exact Ev.neg (by omega) (Ev.const (by simp [idxFrom]))
  | succ d ih =>
    intro i acc hi' ha
    refine Ev.step (fun k => by rw [api_Cand_47_51.l0]) ?_
    refine Ev.pos (by omega) (Ev.pos (by omega) (Ev.pos (by omega) ?_))
    simp only [rd37]
    have e : choose_Falsetickers_1.f (l.getD i z37).f0 (l.getD i z37).f1 (l.getD i z37).f2 (l.getD i z37).f3 (l.getD i z37).f4 lo hi = some (pOut lo hi (l.getD i z37)) := by
      unfold choose_Falsetickers_1.f pOut pIn
      by_cases h : (l.getD i z37).f1 < lo
      · rw [if_pos h, decide_eq_false (by omega : ¬ lo ≤ (l.getD i z37).f1)]; rfl
      · rw [if_neg h, decide_eq_true (by omega : lo ≤ (l.getD i z37).f1)]
        by_cases h2 : (l.getD i z37).f1 ≤ hi
        · rw [decide_eq_true h2, decide_eq_false (by omega : ¬ (l.getD i z37).f1 > hi)]; rfl
        · rw [decide_eq_false h2, decide_eq_true (by omega : (l.getD i z37).f1 > hi)]; rfl
    rw [e]
    refine Ev.some_bind ?_
    unfold idxFrom
    rw [wrap_nat (by omega)]
    by_cases h : pOut lo hi (l.getD i z37) = true
    · rw [if_pos h]
      refine Ev.pos h (Ev.pos (by omega) ?_)
      have := ih (i + 1) (acc ++ [(i : Int)]) (by omega) (by simp; omega)
      simpa using this
    · rw [if_neg h]
      exact Ev.neg h (ih (i + 1) acc (by omega) (by omega))
theorem impl_out (l : List S37) (hn : l.length ≤ 100) (lo hi : Int) : Ev (fun k => api_Cand_47_51.f k l lo hi) (idx l (pOut lo hi)) := where51 l hn lo hi l.length 0 [] (by omega) (by simp)

/-- The elements of a list of candidates, by index, are within the limits. -/
theorem okAt {l : List S37} (h : ∀ c ∈ l, OkC c) {i : Nat} (hi : i < l.length) : OkC (l.getD i z37) := by
  have : l.getD i z37 ∈ l := by simp [List.getD, hi]
  exact h _ this

theorem where52 (l : List S37) (hn : l.length ≤ 100) (hok : ∀ c ∈ l, OkC c) (lo hi : Int) : ∀ d i (acc : List Int), i + d = l.length → acc.length ≤ i → Ev (fun k => api_Cand_47_52.l0 k acc l l.length i lo hi) (acc ++ idxFrom l (pMeet lo hi) d i) := by
  intro d
  induction d with
  | zero =>
    intro i acc hi ha
    refine Ev.step (fun k => by rw [api_Cand_47_52.l0]) ?_
    exact Ev.neg (by omega) (Ev.const (by simp [idxFrom]))
  | succ d ih =>
    intro i acc hi' ha
    have ho := okAt hok (show i < l.length by omega)
    refine Ev.step (fun k => by rw [api_Cand_47_52.l0]) ?_
    refine Ev.pos (by omega) (Ev.pos (by omega) (Ev.pos (by omega) ?_))
    simp only [rd37]
    have e : choose_Majority_1.f (l.getD i z37).f0 (l.getD i z37).f1 (l.getD i z37).f2 (l.getD i z37).f3 (l.getD i z37).f4 lo hi = some (pMeet lo hi (l.getD i z37)) := by
      obtain ⟨_, _, h3, h4, h5, h6, _⟩ := ho
      unfold choose_Majority_1.f choose_span.f pMeet
      rw [wrap_id (by omega) (by omega), wrap_id (by omega) (by omega)]
      simp only [Option.bind_some]
      by_cases h : (l.getD i z37).f1 - (l.getD i z37).f2 ≤ hi
      · rw [if_pos h, decide_eq_true h, Bool.true_and]
      · rw [if_neg h, decide_eq_false h, Bool.false_and]
    rw [e]
    refine Ev.some_bind ?_
    unfold idxFrom
    rw [wrap_nat (by omega)]
    by_cases h : pMeet lo hi (l.getD i z37) = true
    · rw [if_pos h]
      refine Ev.pos h (Ev.pos (by omega) ?_)
      have := ih (i + 1) (acc ++ [(i : Int)]) (by omega) (by simp; omega)
      simpa using this
    · rw [if_neg h]
      exact Ev.neg h (ih (i + 1) acc (by omega) (by omega))
theorem impl_meet (l : List S37) (hn : l.length ≤ 100) (hok : ∀ c ∈ l, OkC c) (lo hi : Int) : Ev (fun k => api_Cand_47_52.f k l lo hi) (idx l (pMeet lo hi)) := where52 l hn hok lo hi l.length 0 [] (by omega) (by simp)

/-! ### Counts -/
def holds (s : S29) (t : Int) : Bool := decide (s.f0 ≤ t) && decide (t ≤ s.f1)
def cnt (v : List S29) (t : Int) : Nat := v.countP (fun s => holds s t)
def span (c : S37) : S29 := ⟨c.f1 - c.f2, c.f1 + c.f2⟩
def spans (l : List S37) : List S29 := l.map span
/-- What a hull is: the first and the last instant with at least 'need' intervals; none if there is no such instant. -/
def HullSpec (v : List S29) (need : Int) (lo hi : Int) (ok : Bool) : Prop :=
  (ok = true ∧ 1 ≤ need ∧ need ≤ cnt v lo ∧ need ≤ cnt v hi ∧ ∀ t, need ≤ cnt v t → lo ≤ t ∧ t ≤ hi) ∨ (ok = false ∧ lo = 0 ∧ hi = 0 ∧ (need < 1 ∨ ∀ t, (cnt v t : Int) < need))
theorem HullSpec.uniq {v : List S29} {need a b a' b' : Int} {o o' : Bool} (h : HullSpec v need a b o) (h' : HullSpec v need a' b' o') : a = a' ∧ b = b' ∧ o = o' := by
  rcases h with ⟨rfl, h1, h2, h3, h4⟩ | ⟨rfl, rfl, rfl, h1⟩ <;> rcases h' with ⟨rfl, g1, g2, g3, g4⟩ | ⟨rfl, rfl, rfl, g1⟩
  · have x1 := h4 _ g2; have x2 := h4 _ g3; have x3 := g4 _ h2; have x4 := g4 _ h3
    exact ⟨by omega, by omega, rfl⟩
  · rcases g1 with g1 | g1
    · omega
    · have := g1 a; omega
  · rcases h1 with h1 | h1
    · omega
    · have := h1 a'; omega
  · exact ⟨rfl, rfl, rfl⟩

theorem holds_iff {s : S29} {t : Int} : holds s t = true ↔ s.f0 ≤ t ∧ t ≤ s.f1 := by simp [holds]
theorem span_at {l : List S37} {s : S29} (h : s ∈ spans l) : ∃ i, i < l.length ∧ span (l.getD i z37) = s := by
  obtain ⟨c, hc, rfl⟩ := List.mem_map.1 h
  obtain ⟨i, hi, rfl⟩ := List.getElem_of_mem hc
  exact ⟨i, hi, by simp [List.getD, hi]⟩

end Go.Proofs.Ytlfilhplklifjaa.PA

/- The program's runs and its hull. -/
namespace Go.Proofs.Ytlfilhplklifjaa.PA
open Go.RowKit Go.Proofs.Ytlfilhplklifjaa.X Go.Proofs.YtlfilhplklifjaaW.PrintWords Go.Proofs.YtlfilhplklifjaaW.PrintLast

/-! ### Valid intervals -/
def OkI (s : S29) : Prop := s.f0 ≤ s.f1 ∧ -8000000000000000000 ≤ s.f0 ∧ s.f1 ≤ 8000000000000000000
instance (s : S29) : Decidable (OkI s) := by unfold OkI; infer_instance
def valid (v : List S29) : List S29 := if (v.length : Int) > 48 then [] else v.filter (fun s => decide (OkI s))
theorem drift_check (s : S29) : drift_Check.f s.f0 s.f1 = some (if OkI s then 0 else 3) := by
  unfold drift_Check.f
  have nk : ∀ {p : Prop}, p → (OkI s → ¬ p) → ¬ OkI s := fun h h2 h3 => h2 h3 h
  by_cases h1 : s.f0 > s.f1
  · rw [if_pos h1, if_neg (nk h1 fun h => by unfold OkI at h; omega)]
  · rw [if_neg h1]
    by_cases h2 : s.f0 < -8000000000000000000
    · rw [if_pos h2, if_neg (nk h2 fun h => by unfold OkI at h; omega)]
    · rw [if_neg h2]
      by_cases h3 : s.f1 > 8000000000000000000
      · rw [if_pos h3, if_neg (nk h3 fun h => by unfold OkI at h; omega)]
      · rw [if_neg h3, if_pos (show OkI s by unfold OkI; omega)]
theorem valid_from (v : List S29) (hn : v.length ≤ 48) : ∀ d i (acc : List S29), i + d = v.length → acc.length ≤ i → Ev (fun k => interval_valid.l0 k acc v v.length i) (acc ++ (v.drop i).filter (fun s => decide (OkI s))) := by
  intro d
  induction d with
  | zero =>
    intro i acc hi ha
    refine Ev.step (fun k => by rw [interval_valid.l0]) ?_
    refine Ev.neg (by omega) (Ev.const ?_)
    rw [List.drop_eq_nil_of_le (by omega)]
    simp
  | succ d ih =>
    intro i acc hi ha
    have hlt : i < v.length := by omega
    have hg : v.getD i z29 = v[i] := by simp [List.getD, hlt]
    refine Ev.step (fun k => by rw [interval_valid.l0]) ?_
    refine Ev.pos (by omega) (Ev.pos (by omega) (Ev.pos (by omega) ?_))
    simp only [rd29]
    rw [drift_check, hg]
    refine Ev.some_bind ?_
    have ew : wrap64 ((i : Int) + 1) = ((i + 1 : Nat) : Int) := wrap_nat (by omega)
    rw [ew, List.drop_eq_getElem_cons hlt]
    by_cases h : OkI v[i]
    · rw [if_pos h, List.filter_cons_of_pos (by simpa using h)]
      refine Ev.pos rfl (Ev.pos (by omega) ?_)
      have := ih (i + 1) (acc ++ [v[i]]) (by omega) (by simp; omega)
      simpa using this
    · rw [if_neg h, List.filter_cons_of_neg (by simpa using h)]
      exact Ev.neg (by omega) (ih (i + 1) acc (by omega) (by omega))
theorem impl_valid (v : List S29) : Ev (fun k => interval_valid.f k v) (valid v) := by
  unfold interval_valid.f valid
  by_cases h : (v.length : Int) > 48
  · rw [if_pos h]; exact Ev.pos h (Ev.const rfl)
  · rw [if_neg h]
    refine Ev.neg h ?_
    have := valid_from v (by omega) v.length 0 [] (by omega) (by simp)
    simpa using this
theorem valid_len (v : List S29) : (valid v).length ≤ 48 := by
  unfold valid
  split
  · simp
  · exact Nat.le_trans (List.length_filter_le _ _) (by omega)
theorem valid_ok {v : List S29} {s : S29} (h : s ∈ valid v) : OkI s := by
  unfold valid at h
  split at h
  · simp at h
  · simpa using (List.mem_filter.1 h).2

/-! ### Changes -/
def changes (v : List S29) : List S110 := v.flatMap (fun s => [⟨s.f0, 1⟩, ⟨s.f1 + 1, -1⟩])
theorem changes_len (v : List S29) : (changes v).length = 2 * v.length := by
  unfold changes
  induction v with
  | nil => rfl
  | cons a r ih => simp only [List.flatMap_cons, List.length_append, List.length_cons, List.length_nil, ih]; omega
/-- What the changes up to an instant make together. -/
def sumLe (cs : List S110) (t : Int) : Int := (cs.map (fun x => if x.f0 ≤ t then x.f1 else 0)).sum
def total (cs : List S110) : Int := (cs.map (fun x => x.f1)).sum
theorem sumLe_changes (v : List S29) (h : ∀ s ∈ v, s.f0 ≤ s.f1) (t : Int) : sumLe (changes v) t = cnt v t := by
  induction v with
  | nil => rfl
  | cons a r ih =>
    have ih := ih (fun s hs => h s (List.mem_cons_of_mem _ hs))
    have ha := h a (by simp)
    have e1 : sumLe (changes (a :: r)) t = (if a.f0 ≤ t then 1 else 0) + ((if a.f1 + 1 ≤ t then -1 else 0) + sumLe (changes r) t) := by
      simp [sumLe, changes]
    have e2 : cnt (a :: r) t = cnt r t + (if holds a t = true then 1 else 0) := by simp [cnt, List.countP_cons]
    rw [e1, e2, ih]
    by_cases h1 : a.f0 ≤ t <;> by_cases h2 : a.f1 + 1 ≤ t
    · have : ¬ holds a t = true := fun hh => by have := holds_iff.1 hh; omega
      simp [h1, h2, this]; omega
    · have : holds a t = true := holds_iff.2 (by omega)
      simp [h1, h2, this]; omega
    · omega
    · have : ¬ holds a t = true := fun hh => by have := holds_iff.1 hh; omega
      simp [h1, h2, this]
theorem total_changes (v : List S29) : total (changes v) = 0 := by
  induction v with
  | nil => rfl
  | cons a r ih =>
    have : total (changes (a :: r)) = 1 + (-1 + total (changes r)) := by simp [total, changes]
    omega
theorem sum_perm {l l' : List Int} (h : l.Perm l') : l.sum = l'.sum := by
  induction h with
  | nil => rfl
  | cons x _ ih => simp [ih]
  | swap x y l => simp only [List.sum_cons]; omega
  | trans _ _ ih1 ih2 => exact ih1.trans ih2
theorem sumLe_perm {cs cs' : List S110} (h : cs.Perm cs') (t : Int) : sumLe cs t = sumLe cs' t := sum_perm (h.map _)
theorem total_perm {cs cs' : List S110} (h : cs.Perm cs') : total cs = total cs' := sum_perm (h.map _)

theorem runs_from (v : List S29) (hn : v.length ≤ 48) (hok : ∀ s ∈ v, OkI s) (r : List S88)
    (hr : Ev (fun k => (interval_change_82_83.f (changes v)).bind fun t => interval_runs.l1 k t [] 0 t ((changes v).length : Int) 0) r) :
    ∀ d i (acc : List S110), i + d = v.length → acc = changes (v.take i) → Ev (fun k => interval_runs.l0 k acc v v.length i) r := by
  intro d
  induction d with
  | zero =>
    intro i acc hi ha
    refine Ev.step (fun k => by rw [interval_runs.l0]) ?_
    refine Ev.neg (by omega) ?_
    rw [List.take_of_length_le (by omega)] at ha
    subst ha
    exact hr
  | succ d ih =>
    intro i acc hi ha
    have hlt : i < v.length := by omega
    have hg : v.getD i z29 = v[i] := by simp [List.getD, hlt]
    obtain ⟨_, h2, h3⟩ := hok v[i] (List.getElem_mem hlt)
    refine Ev.step (fun k => by rw [interval_runs.l0]) ?_
    refine Ev.pos (by omega) (Ev.pos (by omega) (Ev.pos (by omega) (Ev.some_bind ?_)))
    simp only [rd29]
    have ew : wrap64 ((i : Int) + 1) = ((i + 1 : Nat) : Int) := wrap_nat (by omega)
    have el : acc.length = 2 * i := by rw [ha, changes_len, List.length_take]; omega
    rw [hg, ew, wrap_id (x := v[i].f1 + 1) (by have := hok v[i] (List.getElem_mem hlt); unfold OkI at this; omega) (by omega)]
    refine Ev.pos (by simp [el]; omega) ?_
    refine ih (i + 1) _ (by omega) ?_
    rw [ha, List.take_succ_eq_append_getElem hlt]
    unfold changes
    rw [List.flatMap_append]
    rfl

/-! ### Runs -/
def runsOf : Int → List S110 → List S88
  | _, [] => []
  | _, [_] => []
  | c, x :: y :: rest => if y.f0 > x.f0 then ⟨x.f0, y.f0 - 1, c + x.f1⟩ :: runsOf (c + x.f1) (y :: rest) else runsOf (c + x.f1) (y :: rest)
theorem runsOf_len : ∀ (cs : List S110) (c : Int), (runsOf c cs).length ≤ cs.length
  | [], _ => by simp [runsOf]
  | [_], _ => by simp [runsOf]
  | x :: y :: rest, c => by
    have := runsOf_len (y :: rest) (c + x.f1)
    unfold runsOf
    split
    · simp only [List.length_cons] at this ⊢; omega
    · simp only [List.length_cons] at this ⊢; omega
/-- Small changes at small instants. -/
def Small (cs : List S110) : Prop := ∀ x ∈ cs, -1 ≤ x.f1 ∧ x.f1 ≤ 1 ∧ -8000000000000000000 ≤ x.f0 ∧ x.f0 ≤ 8000000000000000001
theorem runs_l1 (cs : List S110) (hn : cs.length ≤ 96) (hs : Small cs) : ∀ d i (acc : List S88) (c : Int), i + d = cs.length → acc.length ≤ i → -(i : Int) ≤ c → c ≤ i →
    Ev (fun k => interval_runs.l1 k cs acc c cs cs.length i) (acc ++ runsOf c (cs.drop i)) := by
  intro d
  induction d with
  | zero =>
    intro i acc c hi ha _ _
    refine Ev.step (fun k => by rw [interval_runs.l1]) ?_
    refine Ev.neg (by omega) (Ev.const ?_)
    rw [List.drop_eq_nil_of_le (by omega)]
    simp [runsOf]
  | succ d ih =>
    intro i acc c hi ha hc1 hc2
    have hlt : i < cs.length := by omega
    have hg : cs.getD i z110 = cs[i] := by simp [List.getD, hlt]
    obtain ⟨s1, s2, s3, s4⟩ := hs cs[i] (List.getElem_mem hlt)
    refine Ev.step (fun k => by rw [interval_runs.l1]) ?_
    have ew : wrap64 ((i : Int) + 1) = ((i + 1 : Nat) : Int) := wrap_nat (by omega)
    have ec : wrap64 (c + cs[i].f1) = c + cs[i].f1 := wrap_id (by omega) (by omega)
    refine Ev.pos (by omega) (Ev.pos (by omega) (Ev.pos (by omega) ?_))
    rw [ew]
    simp only [rd110]
    rw [hg, ec]
    rcases Nat.lt_or_ge (i + 1) cs.length with h1 | h1
    · have hg1 : cs.getD (i + 1) z110 = cs[i + 1] := by simp [List.getD, h1]
      obtain ⟨t1, t2, t3, t4⟩ := hs cs[i + 1] (List.getElem_mem h1)
      rw [hg1]
      refine Ev.pos (by omega) (Ev.pos (by omega) ?_)
      rw [List.drop_eq_getElem_cons hlt, List.drop_eq_getElem_cons h1]
      unfold runsOf
      by_cases hgt : cs[i + 1].f0 > cs[i].f0
      · rw [if_pos hgt]
        refine Ev.pos hgt (Ev.pos (by omega) ?_)
        rw [wrap_id (x := cs[i + 1].f0 - 1) (by omega) (by omega)]
        have := ih (i + 1) (acc ++ [⟨cs[i].f0, cs[i + 1].f0 - 1, c + cs[i].f1⟩]) (c + cs[i].f1) (by omega) (by simp; omega) (by omega) (by omega)
        rw [List.drop_eq_getElem_cons h1] at this
        simpa using this
      · rw [if_neg hgt]
        refine Ev.neg hgt ?_
        have := ih (i + 1) acc (c + cs[i].f1) (by omega) (by omega) (by omega) (by omega)
        rw [List.drop_eq_getElem_cons h1] at this
        exact this
    · refine Ev.neg (by omega) ?_
      have := ih (i + 1) acc (c + cs[i].f1) (by omega) (by omega) (by omega) (by omega)
      rw [List.drop_eq_getElem_cons hlt, List.drop_eq_nil_of_le (by omega)]
      rw [List.drop_eq_nil_of_le (by omega)] at this
      simpa [runsOf] using this

def sorted (v : List S29) : List S110 := sortChange (changes v)
theorem small_changes {v : List S29} (hok : ∀ s ∈ v, OkI s) : Small (changes v) := by
  intro x hx
  obtain ⟨s, hs, hx⟩ := List.mem_flatMap.1 hx
  obtain ⟨h1, h2, h3⟩ := hok s hs
  simp only [List.mem_cons, List.not_mem_nil, or_false] at hx
  rcases hx with rfl | rfl
  · exact ⟨by show (-1 : Int) ≤ 1; omega, by show (1 : Int) ≤ 1; omega, h2, by show s.f0 ≤ _; omega⟩
  · exact ⟨by show (-1 : Int) ≤ -1; omega, by show (-1 : Int) ≤ 1; omega, by show _ ≤ s.f1 + 1; omega, by show s.f1 + 1 ≤ _; omega⟩
theorem sorted_perm (v : List S29) : (sorted v).Perm (changes v) := (sortChange_spec _).2.1
theorem sorted_sorted (v : List S29) : (sorted v).Pairwise (fun x y => x.f0 ≤ y.f0) := by
  have h := (sortChange_spec (changes v)).2.2
  have hsz := (sortChange_spec (changes v)).1
  rw [List.pairwise_iff_getElem]
  intro i j hi hj hij
  have hj' : j < (pdqChange (changes v)).size := by simpa [sorted, sortChange] using hj
  have hi' : i < (pdqChange (changes v)).size := by omega
  have := h i j (Nat.zero_le _) hij (by omega)
  rw [lt110] at this
  have e1 : (pdqChange (changes v))[i]! = (sorted v)[i] := by
    rw [getElem!_pos _ i hi']; simp [sorted, sortChange]
  have e2 : (pdqChange (changes v))[j]! = (sorted v)[j] := by
    rw [getElem!_pos _ j hj']; simp [sorted, sortChange]
  rw [e1, e2] at this
  simp at this
  exact this
def runs (v : List S29) : List S88 := runsOf 0 (sorted (valid v))
theorem impl_runs (v : List S29) : Ev (fun k => interval_runs.f k v) (runs v) := by
  unfold interval_runs.f
  refine Ev.bind' _ (impl_valid v) ?_
  have hl := valid_len v
  have hs := sorted_perm (valid v)
  have hsm : Small (sorted (valid v)) := fun x hx => small_changes (fun s hs => valid_ok hs) x (hs.mem_iff.1 hx)
  have hlen : (sorted (valid v)).length = (changes (valid v)).length := hs.length_eq
  have hl2 : (sorted (valid v)).length ≤ 96 := by rw [hlen, changes_len]; omega
  refine runs_from (valid v) hl (fun s hs => valid_ok hs) _ ?_ (valid v).length 0 [] (by omega) (by simp [changes])
  have ef : interval_change_82_83.f (changes (valid v)) = some (sorted (valid v)) := by
    unfold interval_change_82_83.f
    rw [if_pos (by rw [← hlen]; omega)]
    rfl
  rw [ef]
  refine Ev.some_bind ?_
  rw [← hlen]
  have := runs_l1 (sorted (valid v)) hl2 hsm (sorted (valid v)).length 0 [] 0 (by omega) (by simp) (by simp) (by simp)
  simpa [runs] using this

/-! ### What the runs tell -/
theorem sumLe_cons (x : S110) (cs : List S110) (t : Int) : sumLe (x :: cs) t = (if x.f0 ≤ t then x.f1 else 0) + sumLe cs t := by simp [sumLe]
theorem sumLe_none {cs : List S110} {t : Int} (h : ∀ x ∈ cs, t < x.f0) : sumLe cs t = 0 := by
  induction cs with
  | nil => rfl
  | cons a r ih =>
    rw [sumLe_cons, ih (fun x hx => h x (List.mem_cons_of_mem _ hx)), if_neg (by have := h a (by simp); omega)]
    rfl
theorem sumLe_all {cs : List S110} {t : Int} (h : ∀ x ∈ cs, x.f0 ≤ t) : sumLe cs t = total cs := by
  induction cs with
  | nil => rfl
  | cons a r ih =>
    rw [sumLe_cons, ih (fun x hx => h x (List.mem_cons_of_mem _ hx)), if_pos (h a (by simp))]
    simp [total]
/-- Within a run the count stands; the runs follow one another; what is between the first change and the last one lies in one. -/
theorem runsOf_spec : ∀ (cs : List S110) (c : Int), cs.Pairwise (fun x y => x.f0 ≤ y.f0) →
    (∀ r ∈ runsOf c cs, r.f0 ≤ r.f1 ∧ (∀ t, r.f0 ≤ t → t ≤ r.f1 → c + sumLe cs t = r.f2) ∧ (∀ x ∈ cs.head?, x.f0 ≤ r.f0)) ∧
    (runsOf c cs).Pairwise (fun r q => r.f1 < q.f0) ∧
    (∀ t, (∃ x ∈ cs, x.f0 ≤ t) → (∃ x ∈ cs, t < x.f0) → ∃ r ∈ runsOf c cs, r.f0 ≤ t ∧ t ≤ r.f1)
  | [], c, _ => ⟨by simp [runsOf], by simp [runsOf], by simp⟩
  | [x], c, _ => ⟨by simp [runsOf], by simp [runsOf], fun t ⟨a, ha, h1⟩ ⟨b, hb, h2⟩ => by
      simp only [List.mem_cons, List.not_mem_nil, or_false] at ha hb
      subst ha; subst hb; omega⟩
  | x :: y :: rest, c, hp => by
    obtain ⟨hx, hp'⟩ := List.pairwise_cons.1 hp
    obtain ⟨i1, i2, i3⟩ := runsOf_spec (y :: rest) (c + x.f1) hp'
    have hxy := hx y (by simp)
    have later : ∀ t, x.f0 ≤ t → c + sumLe (x :: y :: rest) t = c + x.f1 + sumLe (y :: rest) t := fun t ht => by
      rw [sumLe_cons, if_pos ht]; omega
    have hy : ∀ z ∈ y :: rest, y.f0 ≤ z.f0 := fun z hz => by
      rcases List.mem_cons.1 hz with rfl | hz
      · exact Int.le_refl _
      · exact (List.pairwise_cons.1 hp').1 z hz
    have tail : ∀ r ∈ runsOf (c + x.f1) (y :: rest), r.f0 ≤ r.f1 ∧ (∀ t, r.f0 ≤ t → t ≤ r.f1 → c + sumLe (x :: y :: rest) t = r.f2) ∧ y.f0 ≤ r.f0 := fun r hr => by
      obtain ⟨a, b, d⟩ := i1 r hr
      have d' := d y rfl
      exact ⟨a, fun t h1 h2 => by rw [later t (by omega)]; exact b t h1 h2, d'⟩
    have cover : ∀ t, y.f0 ≤ t → (∃ z ∈ x :: y :: rest, t < z.f0) → ∃ r ∈ runsOf (c + x.f1) (y :: rest), r.f0 ≤ t ∧ t ≤ r.f1 := fun t ht ⟨z, hz, h2⟩ => by
      refine i3 t ⟨y, by simp, ht⟩ ⟨z, ?_, h2⟩
      rcases List.mem_cons.1 hz with rfl | hz
      · omega
      · exact hz
    unfold runsOf
    by_cases hgt : y.f0 > x.f0
    · rw [if_pos hgt]
      refine ⟨fun r hr => ?_, ?_, fun t ⟨a, ha, h1⟩ h2 => ?_⟩
      · rcases List.mem_cons.1 hr with rfl | hr
        · refine ⟨by show x.f0 ≤ y.f0 - 1; omega, fun t h1 h2 => ?_, fun z hz => by simp at hz; subst hz; exact Int.le_refl _⟩
          have h2' : t ≤ y.f0 - 1 := h2
          rw [later t h1, sumLe_none (fun z hz => by have := hy z hz; omega)]
          show c + x.f1 + 0 = c + x.f1
          omega
        · obtain ⟨a, b, d⟩ := tail r hr
          exact ⟨a, b, fun z hz => by simp at hz; subst hz; omega⟩
      · refine List.pairwise_cons.2 ⟨fun r hr => ?_, i2⟩
        have := (tail r hr).2.2
        show y.f0 - 1 < r.f0
        omega
      · by_cases hy2 : y.f0 ≤ t
        · obtain ⟨r, hr, h⟩ := cover t hy2 h2
          exact ⟨r, List.mem_cons_of_mem _ hr, h⟩
        · refine ⟨_, List.mem_cons_self, ?_, by show t ≤ y.f0 - 1; omega⟩
          show x.f0 ≤ t
          rcases List.mem_cons.1 ha with rfl | ha
          · exact h1
          · have := hx a ha; omega
    · rw [if_neg hgt]
      refine ⟨fun r hr => ?_, i2, fun t ⟨a, ha, h1⟩ h2 => ?_⟩
      · obtain ⟨a, b, d⟩ := tail r hr
        exact ⟨a, b, fun z hz => by simp at hz; subst hz; omega⟩
      · refine cover t ?_ h2
        rcases List.mem_cons.1 ha with rfl | ha
        · omega
        · exact Int.le_trans (hy a ha) h1

/-- The runs of a list of intervals: pieces in which the count stands, one behind the other; every instant that an interval holds lies in one. -/
theorem runs_spec (v : List S29) :
    (∀ r ∈ runs v, r.f0 ≤ r.f1 ∧ ∀ t, r.f0 ≤ t → t ≤ r.f1 → (cnt (valid v) t : Int) = r.f2) ∧ (runs v).Pairwise (fun r q => r.f1 < q.f0) ∧ ∀ t, 1 ≤ cnt (valid v) t → ∃ r ∈ runs v, r.f0 ≤ t ∧ t ≤ r.f1 := by
  have hs : ∀ t, sumLe (sorted (valid v)) t = cnt (valid v) t := fun t => by
    rw [sumLe_perm (sorted_perm _), sumLe_changes _ (fun s hs => (valid_ok hs).1)]
  obtain ⟨h1, h2, h3⟩ := runsOf_spec (sorted (valid v)) 0 (sorted_sorted _)
  refine ⟨fun r hr => ⟨(h1 r hr).1, fun t ha hb => ?_⟩, h2, fun t ht => h3 t ?_ ?_⟩
  · rw [← hs t]
    have := (h1 r hr).2.1 t ha hb
    omega
  · refine Classical.byContradiction fun hc => ?_
    have : sumLe (sorted (valid v)) t = 0 := sumLe_none fun x hx => Int.not_le.1 fun hle => hc ⟨x, hx, hle⟩
    rw [hs] at this
    omega
  · refine Classical.byContradiction fun hc => ?_
    have : sumLe (sorted (valid v)) t = total (sorted (valid v)) := sumLe_all fun x hx => Int.not_lt.1 fun hlt => hc ⟨x, hx, hlt⟩
    rw [hs, total_perm (sorted_perm _), total_changes] at this
    omega
theorem runs_len (v : List S29) : (runs v).length ≤ 96 := by
  have h := runsOf_len (sorted (valid v)) 0
  rw [(sorted_perm _).length_eq, changes_len] at h
  have := valid_len v
  unfold runs
  omega

/-! ### The hull -/
theorem index_from (R : List S88) (hn : R.length ≤ 96) (need : Int) : ∀ d i, i + d = R.length → (∀ j, j < i → (R.getD j z88).f2 < need) →
    (∃ j : Nat, j < R.length ∧ Ev (fun k => interval_run_64_63.l0 k R R.length i need) (j : Int) ∧ need ≤ (R.getD j z88).f2 ∧ ∀ q, q < j → (R.getD q z88).f2 < need) ∨
    (Ev (fun k => interval_run_64_63.l0 k R R.length i need) (-1) ∧ ∀ q, q < R.length → (R.getD q z88).f2 < need) := by
  intro d
  induction d with
  | zero =>
    intro i hi hm
    refine .inr ⟨?_, fun q hq => hm q (by omega)⟩
    refine Ev.step (fun k => by rw [interval_run_64_63.l0]) ?_
    exact Ev.neg (by omega) (Ev.const rfl)
  | succ d ih =>
    intro i hi hm
    have st : ∀ r, Ev (fun k => if decide ((R.getD i z88).f2 ≥ need) = true then some (i : Int) else interval_run_64_63.l0 k R R.length ((i + 1 : Nat) : Int) need) r → Ev (fun k => interval_run_64_63.l0 k R R.length i need) r := by
      intro r hr
      refine Ev.step (fun k => by rw [interval_run_64_63.l0]) ?_
      refine Ev.pos (by omega) (Ev.pos (by omega) (Ev.pos (by omega) ?_))
      simp only [rd88, interval_Hull_1.f]
      refine Ev.some_bind ?_
      rw [wrap_nat (by omega)]
      exact hr
    by_cases h : (R.getD i z88).f2 ≥ need
    · exact .inl ⟨i, by omega, st _ (Ev.pos (by simpa using h) (Ev.const rfl)), h, hm⟩
    · have hm' : ∀ j, j < i + 1 → (R.getD j z88).f2 < need := fun j hj => by
        rcases Nat.lt_or_ge j i with hji | hji
        · exact hm j hji
        · have e : j = i := by omega
          subst e
          exact Int.not_le.1 h
      rcases ih (i + 1) (by omega) hm' with ⟨j, h1, h2, h3, h4⟩ | ⟨h1, h2⟩
      · exact .inl ⟨j, h1, st _ (Ev.neg (by simpa using h) h2), h3, h4⟩
      · exact .inr ⟨st _ (Ev.neg (by simpa using h) h1), h2⟩
theorem impl_index (R : List S88) (hn : R.length ≤ 96) (need : Int) :
    (∃ j : Nat, j < R.length ∧ Ev (fun k => interval_run_64_63.f k R need) (j : Int) ∧ need ≤ (R.getD j z88).f2 ∧ ∀ q, q < j → (R.getD q z88).f2 < need) ∨
    (Ev (fun k => interval_run_64_63.f k R need) (-1) ∧ ∀ q, q < R.length → (R.getD q z88).f2 < need) :=
  index_from R hn need R.length 0 (by omega) (fun j hj => by omega)
theorem getD_mem {R : List S88} {j : Nat} (h : j < R.length) : R.getD j z88 ∈ R := by simp [List.getD, h]
theorem mem_getD {R : List S88} {r : S88} (h : r ∈ R) : ∃ j, j < R.length ∧ R.getD j z88 = r := by
  obtain ⟨j, hj, rfl⟩ := List.getElem_of_mem h
  exact ⟨j, hj, by simp [List.getD, hj]⟩

theorem impl_hull (v : List S29) (need : Int) : ∃ lo hi ok, Ev (fun k => interval_Hull.f k v need) (lo, hi, ok) ∧ HullSpec (valid v) need lo hi ok := by
  obtain ⟨s1, s2, s3⟩ := runs_spec v
  have hl := runs_len v
  have ix := impl_index (runs v) hl need
  have st : ∀ (i : Int) r, Ev (fun k => interval_run_64_63.f k (runs v) need) i → Ev (fun k => if need < 1 then (interval_Hull.j0 k (runs v) i true need) else (interval_Hull.j0 k (runs v) i (decide (i < 0)) need)) r → Ev (fun k => interval_Hull.f k v need) r := fun i r h1 h2 => by
    unfold interval_Hull.f
    exact Ev.bind' _ (impl_runs v) (Ev.bind' _ h1 h2)
  by_cases hneed : need < 1
  · have e0 : ∀ i : Int, Ev (fun k => interval_Hull.j0 k (runs v) i true need) (0, 0, false) := fun i => by
      refine Ev.step (fun k => by rw [interval_Hull.j0]) ?_
      exact Ev.pos rfl (Ev.const rfl)
    refine ⟨0, 0, false, ?_, .inr ⟨rfl, rfl, rfl, .inl hneed⟩⟩
    rcases ix with ⟨j, _, h2, _⟩ | ⟨h1, _⟩
    · exact st _ _ h2 (Ev.pos hneed (e0 _))
    · exact st _ _ h1 (Ev.pos hneed (e0 _))
  · rcases ix with ⟨j, hj, h2, h3, h4⟩ | ⟨h1, h2⟩
    · have ir := impl_index (runs v).reverse (by simpa using hl) need
      have er : interval_run_65.f (runs v) = some (runs v).reverse := by
        unfold interval_run_65.f
        rw [if_pos (by omega)]
      have rev : ∀ q, q < (runs v).length → (runs v).reverse.getD q z88 = (runs v).getD ((runs v).length - 1 - q) z88 := fun q hq => by
        simp [List.getD, List.getElem?_reverse hq]
      rcases ir with ⟨q, hq, g2, g3, g4⟩ | ⟨g1, g2⟩
      · have hq' : q < (runs v).length := by simpa using hq
        have hp : (runs v).length - 1 - q < (runs v).length := by omega
        rw [rev q hq'] at g3
        have ord : ∀ a b, a < b → b < (runs v).length → ((runs v).getD a z88).f1 < ((runs v).getD b z88).f0 := fun a b hab hb => by
          have ha : a < (runs v).length := by omega
          have := (List.pairwise_iff_getElem.1 s2) a b ha hb hab
          simpa [List.getD, ha, hb] using this
        refine ⟨((runs v).getD j z88).f0, ((runs v).getD ((runs v).length - 1 - q) z88).f1, true, ?_, .inl ⟨rfl, by omega, ?_, ?_, fun t ht => ?_⟩⟩
        · refine st _ _ h2 (Ev.neg hneed ?_)
          rw [decide_eq_false (by omega : ¬ (j : Int) < 0)]
          refine Ev.step (fun k => by rw [interval_Hull.j0]) ?_
          refine Ev.neg (by simp) (Ev.pos (by omega) (Ev.pos (by omega) ?_))
          rw [er]
          refine Ev.some_bind (Ev.bind' _ g2 (Ev.pos (by omega) (Ev.pos (by omega) (Ev.const ?_))))
          rw [rd88, rd88, rev q hq']
        · obtain ⟨a, b⟩ := s1 _ (getD_mem hj)
          rw [b _ (Int.le_refl _) a]; exact h3
        · obtain ⟨a, b⟩ := s1 _ (getD_mem hp)
          rw [b _ a (Int.le_refl _)]; exact g3
        · obtain ⟨r, hr, h5, h6⟩ := s3 t (by omega)
          have h7 := (s1 r hr).2 t h5 h6
          obtain ⟨m, hm, rfl⟩ := mem_getD hr
          constructor
          · rcases Nat.lt_or_ge m j with hmj | hmj
            · have := h4 m hmj; omega
            · rcases Nat.eq_or_lt_of_le hmj with e | hmj
              · rw [e]; exact h5
              · have := ord j m hmj hm
                have := (s1 _ (getD_mem hj)).1
                omega
          · rcases Nat.lt_or_ge ((runs v).length - 1 - q) m with hmq | hmq
            · have hx : (runs v).length - 1 - m < q := by omega
              have := g4 _ hx
              rw [rev _ (by omega), show (runs v).length - 1 - ((runs v).length - 1 - m) = m by omega] at this
              omega
            · rcases Nat.eq_or_lt_of_le hmq with e | hmq
              · rw [← e]; exact h6
              · have := ord m _ hmq hp
                have := (s1 _ (getD_mem hp)).1
                omega
      · exfalso
        have := g2 ((runs v).length - 1 - j) (by rw [List.length_reverse]; omega)
        rw [rev _ (by omega), show (runs v).length - 1 - ((runs v).length - 1 - j) = j by omega] at this
        omega
    · refine ⟨0, 0, false, ?_, .inr ⟨rfl, rfl, rfl, .inr fun t => ?_⟩⟩
      · refine st _ _ h1 (Ev.neg hneed ?_)
        rw [show decide ((-1 : Int) < 0) = true from rfl]
        refine Ev.step (fun k => by rw [interval_Hull.j0]) ?_
        exact Ev.pos rfl (Ev.const rfl)
      · rcases Nat.eq_zero_or_pos (cnt (valid v) t) with h0 | h0
        · omega
        · obtain ⟨r, hr, h5, h6⟩ := s3 t h0
          obtain ⟨q, hq, rfl⟩ := mem_getD hr
          have := h2 q hq
          rw [(s1 _ hr).2 t h5 h6]
          exact this
end Go.Proofs.Ytlfilhplklifjaa.PA

/- The selection, the falsetickers, the majority: both texts tell the same. -/
namespace Go.Proofs.Ytlfilhplklifjaa.PA
open Go.RowKit Go.Proofs.Ytlfilhplklifjaa.X Go.Proofs.YtlfilhplklifjaaW.PrintWords Go.Proofs.YtlfilhplklifjaaW.PrintLast

theorem idxFrom_parts (l : List S37) (p : S37 → Bool) : ∀ d i, (idxFrom l p d i).length + (idxFrom l (fun c => !p c) d i).length = d
  | 0, _ => rfl
  | d + 1, i => by
    have := idxFrom_parts l p d (i + 1)
    unfold idxFrom
    cases p (l.getD i z37) <;> simp <;> omega
theorem idx_parts (l : List S37) (lo hi : Int) : (idx l (pIn lo hi)).length + (idx l (pOut lo hi)).length = l.length := idxFrom_parts l (pIn lo hi) l.length 0
theorem idxFrom_le (l : List S37) (p : S37 → Bool) : ∀ d i, (idxFrom l p d i).length ≤ d
  | 0, _ => by simp [idxFrom]
  | d + 1, i => by
    have := idxFrom_le l p d (i + 1)
    unfold idxFrom
    split
    · simp; omega
    · omega
theorem idx_le (l : List S37) (p : S37 → Bool) : (idx l p).length ≤ l.length := idxFrom_le l p l.length 0

theorem spans_ok {l : List S37} (h : ∀ c ∈ l, OkC c) : ∀ s ∈ spans l, OkI s := by
  intro s hs
  obtain ⟨c, hc, rfl⟩ := List.mem_map.1 hs
  obtain ⟨_, _, h3, h4, h5, h6, _⟩ := h c hc
  unfold OkI span
  refine ⟨?_, ?_, ?_⟩ <;> simp only <;> omega
theorem valid_spans {l : List S37} (h : ∀ c ∈ l, OkC c) (hn : l.length ≤ 12) : valid (spans l) = spans l := by
  unfold valid
  rw [if_neg (by simp [spans]; omega), List.filter_eq_self.2 fun s hs => by simpa using spans_ok h s hs]

theorem hull_ex (v : List S29) (need : Int) : ∃ r : Int × Int × Bool, Ev (fun k => interval_Hull.f k v need) r ∧ HullSpec (valid v) need r.1 r.2.1 r.2.2 := by
  obtain ⟨a, b, o, h1, h2⟩ := impl_hull v need
  exact ⟨(a, b, o), h1, h2⟩
noncomputable def hullR (v : List S29) (need : Int) : Int × Int × Bool := Classical.choose (hull_ex v need)
theorem hullR_ev (v : List S29) (need : Int) : Ev (fun k => interval_Hull.f k v need) (hullR v need) := (Classical.choose_spec (hull_ex v need)).1
theorem hullR_spec (v : List S29) (need : Int) : HullSpec (valid v) need (hullR v need).1 (hullR v need).2.1 (hullR v need).2.2 := (Classical.choose_spec (hull_ex v need)).2
/-- The selection from 'a' wrong ones on. -/
noncomputable def selFrom (l : List S37) : Nat → Nat → List Int × Int × Int × Int
  | 0, _ => ([], 0, 0, 11)
  | d + 1, a => if 2 * a < l.length then (if (hullR (spans l) ((l.length : Int) - a)).2.2 = true then
      (if (l.length : Int) - ((idx l (pIn (hullR (spans l) ((l.length : Int) - a)).1 (hullR (spans l) ((l.length : Int) - a)).2.1)).length : Int) ≤ a then (idx l (pIn (hullR (spans l) ((l.length : Int) - a)).1 (hullR (spans l) ((l.length : Int) - a)).2.1), (hullR (spans l) ((l.length : Int) - a)).1, (hullR (spans l) ((l.length : Int) - a)).2.1, 0)
       else selFrom l d (a + 1)) else selFrom l d (a + 1)) else ([], 0, 0, 11)
noncomputable def sel (l : List S37) : List Int × Int × Int × Int := if chk l = 0 then selFrom l (l.length + 1) 0 else ([], 0, 0, chk l)

theorem impl_spans (l : List S37) (hn : l.length ≤ 12) (hok : ∀ c ∈ l, OkC c) (r : List Int × Int × Int × Int) (hr : Ev (fun k => choose_Select.l1 k l (spans l) 0) r) :
    ∀ d i (acc : List S29), i + d = l.length → acc = spans (l.take i) → Ev (fun k => choose_Select.l0 k l acc l l.length i) r := by
  intro d
  induction d with
  | zero =>
    intro i acc hi ha
    refine Ev.step (fun k => by rw [choose_Select.l0]) ?_
    refine Ev.neg (by omega) ?_
    rw [List.take_of_length_le (by omega)] at ha
    subst ha
    exact hr
  | succ d ih =>
    intro i acc hi ha
    have hlt : i < l.length := by omega
    have hg : l.getD i z37 = l[i] := by simp [List.getD, hlt]
    have ho := hok l[i] (List.getElem_mem hlt)
    refine Ev.step (fun k => by rw [choose_Select.l0]) ?_
    refine Ev.pos (by omega) (Ev.pos (by omega) (Ev.pos (by omega) ?_))
    simp only [rd37, choose_span.f]
    refine Ev.some_bind ?_
    have el : acc.length = i := by rw [ha]; simp [spans]; omega
    refine Ev.pos (by omega) ?_
    obtain ⟨_, _, h3, h4, h5, h6, _⟩ := ho
    rw [hg, wrap_id (x := l[i].f1 - l[i].f2) (by omega) (by omega), wrap_id (x := l[i].f1 + l[i].f2) (by omega) (by omega), wrap_nat (by omega)]
    refine ih (i + 1) _ (by omega) ?_
    rw [ha, List.take_succ_eq_append_getElem hlt]
    unfold spans
    rw [List.map_append]
    rfl

theorem impl_sel_from (l : List S37) (hn : l.length ≤ 12) : ∀ d a, a + d = l.length + 1 → Ev (fun k => choose_Select.l1 k l (spans l) a) (selFrom l d a) := by
  intro d
  induction d with
  | zero =>
    intro a ha
    refine Ev.step (fun k => by rw [choose_Select.l1]) ?_
    refine Ev.neg ?_ (Ev.const rfl)
    rw [wrap_id (by omega) (by omega)]; omega
  | succ d ih =>
    intro a ha
    refine Ev.step (fun k => by rw [choose_Select.l1]) ?_
    rw [wrap_id (x := 2 * (a : Int)) (by omega) (by omega)]
    unfold selFrom
    by_cases h2 : 2 * a < l.length
    · rw [if_pos h2]
      refine Ev.pos (by omega) ?_
      rw [wrap_id (x := (l.length : Int) - a) (by omega) (by omega), wrap_nat (by omega)]
      refine Ev.bind' _ (hullR_ev (spans l) _) ?_
      by_cases h3 : (hullR (spans l) ((l.length : Int) - a)).2.2 = true
      · rw [if_pos h3]
        refine Ev.pos h3 (Ev.bind' _ (impl_in l (by omega) _ _) ?_)
        have hle := idx_le l (pIn (hullR (spans l) ((l.length : Int) - a)).1 (hullR (spans l) ((l.length : Int) - a)).2.1)
        rw [wrap_id (x := (l.length : Int) - _) (by omega) (by omega)]
        by_cases h4 : (l.length : Int) - ((idx l (pIn (hullR (spans l) ((l.length : Int) - a)).1 (hullR (spans l) ((l.length : Int) - a)).2.1)).length : Int) ≤ a
        · rw [if_pos h4]; exact Ev.pos h4 (Ev.const rfl)
        · rw [if_neg h4]; exact Ev.neg h4 (ih (a + 1) (by omega))
      · rw [if_neg h3]; exact Ev.neg h3 (ih (a + 1) (by omega))
    · rw [if_neg h2]
      exact Ev.neg (by omega) (Ev.const rfl)
theorem impl_select (l : List S37) : Ev (fun k => choose_Select.f k l) (sel l) := by
  unfold choose_Select.f sel
  refine Ev.bind' _ (impl_check l) ?_
  by_cases h : chk l = 0
  · rw [if_pos h]
    obtain ⟨hn, hok⟩ := chk_ok h
    exact Ev.pos h (impl_spans l hn hok _ (impl_sel_from l hn (l.length + 1) 0 (by omega)) l.length 0 [] (by omega) (by simp [spans]))
  · rw [if_neg h]; exact Ev.neg h (Ev.const rfl)
/-- What a selection is. -/
structure SelOk (l : List S37) (p : List Int) (lo hi : Int) : Prop where
  chk0 : chk l = 0
  wit : ∃ a : Nat, 2 * a < l.length ∧ HullSpec (spans l) ((l.length : Int) - a) lo hi true ∧ (l.length : Int) - (p.length : Int) ≤ a ∧ ∀ b : Nat, b < a → ∀ lo' hi', HullSpec (spans l) ((l.length : Int) - b) lo' hi' true → (b : Int) < (l.length : Int) - ((idx l (pIn lo' hi')).length : Int)
  pos : p = idx l (pIn lo hi)
def SelNone (l : List S37) : Prop := ∀ a : Nat, 2 * a < l.length → ∀ lo hi, HullSpec (spans l) ((l.length : Int) - a) lo hi true → (a : Int) < (l.length : Int) - ((idx l (pIn lo hi)).length : Int)
theorem selFrom_spec {l : List S37} (h0 : chk l = 0) : ∀ d a, a + d = l.length + 1 → (∀ b : Nat, b < a → 2 * b < l.length → ∀ lo' hi', HullSpec (spans l) ((l.length : Int) - b) lo' hi' true → (b : Int) < (l.length : Int) - ((idx l (pIn lo' hi')).length : Int)) →
    (selFrom l d a = ([], 0, 0, 11) ∧ SelNone l) ∨ ∃ p lo hi, selFrom l d a = (p, lo, hi, 0) ∧ SelOk l p lo hi := by
  obtain ⟨hn, hok⟩ := chk_ok h0
  intro d
  induction d with
  | zero => exact fun a ha hb => .inl ⟨rfl, fun b h2 => hb b (by omega) h2⟩
  | succ d ih =>
    intro a ha hb
    have hs := hullR_spec (spans l) ((l.length : Int) - a)
    rw [valid_spans hok hn] at hs
    have next : (∀ lo' hi', HullSpec (spans l) ((l.length : Int) - a) lo' hi' true → (a : Int) < (l.length : Int) - ((idx l (pIn lo' hi')).length : Int)) → ∀ b : Nat, b < a + 1 → 2 * b < l.length → ∀ lo' hi', HullSpec (spans l) ((l.length : Int) - b) lo' hi' true → (b : Int) < (l.length : Int) - ((idx l (pIn lo' hi')).length : Int) := fun hx b hba h2 => by
      rcases Nat.lt_or_ge b a with h3 | h3
      · exact hb b h3 h2
      · have e : b = a := by omega
        subst e; exact hx
    unfold selFrom
    by_cases h2 : 2 * a < l.length
    · rw [if_pos h2]
      by_cases h3 : (hullR (spans l) ((l.length : Int) - a)).2.2 = true
      · rw [if_pos h3]
        rw [h3] at hs
        by_cases h4 : (l.length : Int) - ((idx l (pIn (hullR (spans l) ((l.length : Int) - a)).1 (hullR (spans l) ((l.length : Int) - a)).2.1)).length : Int) ≤ a
        · rw [if_pos h4]
          exact .inr ⟨_, _, _, rfl, h0, ⟨a, h2, hs, h4, fun b hba => hb b hba (by omega)⟩, rfl⟩
        · rw [if_neg h4]
          refine ih (a + 1) (by omega) (next fun lo' hi' hh => ?_)
          obtain ⟨e1, e2, _⟩ := hh.uniq hs
          rw [e1, e2]; omega
      · rw [if_neg h3]
        refine ih (a + 1) (by omega) (next fun lo' hi' hh => ?_)
        exact absurd (hh.uniq hs).2.2.symm h3
    · rw [if_neg h2]
      exact .inl ⟨rfl, fun b hb2 => hb b (by omega) hb2⟩
/-- The three ends of a selection. -/
theorem sel_cases (l : List S37) : (chk l ≠ 0 ∧ sel l = ([], 0, 0, chk l)) ∨ (chk l = 0 ∧ sel l = ([], 0, 0, 11) ∧ SelNone l) ∨ ∃ p lo hi, sel l = (p, lo, hi, 0) ∧ SelOk l p lo hi := by
  unfold sel
  by_cases h : chk l = 0
  · rw [if_pos h]
    rcases selFrom_spec h (l.length + 1) 0 (by omega) (fun b hb => by omega) with ⟨h1, h2⟩ | ⟨p, lo, hi, h1, h2⟩
    · exact .inr (.inl ⟨h, h1, h2⟩)
    · exact .inr (.inr ⟨p, lo, hi, h1, h2⟩)
  · rw [if_neg h]; exact .inl ⟨h, rfl⟩

noncomputable def fals (l : List S37) : List Int × Int := if (sel l).2.2.2 = 0 then (idx l (pOut (sel l).2.1 (sel l).2.2.1), 0) else ([], (sel l).2.2.2)
theorem sel_len (l : List S37) (h : (sel l).2.2.2 = 0) : l.length ≤ 12 ∧ ∀ c ∈ l, OkC c := by
  by_cases h0 : chk l = 0
  · exact chk_ok h0
  · unfold sel at h
    rw [if_neg h0] at h
    exact absurd h h0
theorem impl_fals (l : List S37) : Ev (fun k => choose_Falsetickers.f k l) (fals l) := by
  unfold choose_Falsetickers.f fals
  refine Ev.bind' _ (impl_select l) ?_
  by_cases h : (sel l).2.2.2 = 0
  · rw [if_pos h]
    exact Ev.pos h (Ev.bind' _ (impl_out l (by have := (sel_len l h).1; omega) _ _) (Ev.const rfl))
  · rw [if_neg h]; exact Ev.neg h (Ev.const rfl)
/-! ### Majority -/
def maj (l : List S37) (lo hi : Int) : Bool := if chk l = 0 then (if lo > hi then false else decide (2 * (idx l (pMeet lo hi)).length > l.length)) else false
theorem impl_maj (l : List S37) (lo hi : Int) : Ev (fun k => choose_Majority.f k l lo hi) (maj l lo hi) := by
  unfold choose_Majority.f maj
  refine Ev.bind' _ (impl_check l) ?_
  by_cases h : chk l = 0
  · obtain ⟨hn, hok⟩ := chk_ok h
    rw [if_pos h]
    refine Ev.pos h ?_
    by_cases h2 : lo > hi
    · rw [if_pos h2]; exact Ev.pos h2 (Ev.const rfl)
    · rw [if_neg h2]
      refine Ev.neg h2 (Ev.bind' _ (impl_meet l (by omega) hok _ _) (Ev.const ?_))
      have := idx_le l (pMeet lo hi)
      rw [wrap_id (by omega) (by omega)]
      congr 1
      by_cases h3 : 2 * (idx l (pMeet lo hi)).length > l.length
      · rw [decide_eq_true h3, decide_eq_true (by omega)]
      · rw [decide_eq_false h3, decide_eq_false (by omega)]
  · rw [if_neg h]; exact Ev.neg h (Ev.const rfl)
end Go.Proofs.Ytlfilhplklifjaa.PA

/- More on positions, and on a check that says 0. -/
namespace Go.Proofs.Ytlfilhplklifjaa.PA
open Go.RowKit Go.Proofs.Ytlfilhplklifjaa.X Go.Proofs.YtlfilhplklifjaaW.PrintWords Go.Proofs.YtlfilhplklifjaaW.PrintLast

theorem mem_idxFrom (l : List S37) (p : S37 → Bool) (x : Int) : ∀ d i, x ∈ idxFrom l p d i ↔ ∃ j : Nat, i ≤ j ∧ j < i + d ∧ x = j ∧ p (l.getD j z37) = true
  | 0, i => by simp [idxFrom]; intro j h1 h2; omega
  | d + 1, i => by
    have ih := mem_idxFrom l p x d (i + 1)
    unfold idxFrom
    by_cases h : p (l.getD i z37) = true
    · rw [if_pos h, List.mem_cons, ih]
      constructor
      · rintro (rfl | ⟨j, h1, h2, h3, h4⟩)
        · exact ⟨i, by omega, by omega, rfl, h⟩
        · exact ⟨j, by omega, by omega, h3, h4⟩
      · rintro ⟨j, h1, h2, h3, h4⟩
        by_cases e : j = i
        · subst e; exact .inl h3
        · exact .inr ⟨j, by omega, by omega, h3, h4⟩
    · rw [if_neg h, ih]
      constructor
      · rintro ⟨j, h1, h2, h3, h4⟩
        exact ⟨j, by omega, by omega, h3, h4⟩
      · rintro ⟨j, h1, h2, h3, h4⟩
        by_cases e : j = i
        · subst e; exact absurd h4 h
        · exact ⟨j, by omega, by omega, h3, h4⟩
theorem mem_idx (l : List S37) (p : S37 → Bool) (i : Nat) (hi : i < l.length) : (i : Int) ∈ idx l p ↔ p (l.getD i z37) = true := by
  unfold idx
  rw [mem_idxFrom]
  constructor
  · rintro ⟨j, _, _, h3, h4⟩
    rw [show i = j by omega]; exact h4
  · intro h
    exact ⟨i, by omega, by omega, rfl, h⟩
theorem idxFrom_sorted (l : List S37) (p : S37 → Bool) : ∀ d i, (idxFrom l p d i).Pairwise (· < ·)
  | 0, _ => by simp [idxFrom]
  | d + 1, i => by
    have ih := idxFrom_sorted l p d (i + 1)
    unfold idxFrom
    by_cases h : p (l.getD i z37) = true
    · rw [if_pos h]
      refine List.pairwise_cons.2 ⟨fun x hx => ?_, ih⟩
      obtain ⟨j, h1, _, rfl, _⟩ := (mem_idxFrom l p x d (i + 1)).1 hx
      omega
    · rw [if_neg h]; exact ih
theorem idx_sorted (l : List S37) (p : S37 → Bool) : (idx l p).Pairwise (· < ·) := idxFrom_sorted l p l.length 0
/-- All of them. -/
theorem idxFrom_all (l : List S37) (p : S37 → Bool) : ∀ d i, (∀ j, i ≤ j → j < i + d → p (l.getD j z37) = true) → (idxFrom l p d i).length = d
  | 0, _, _ => rfl
  | d + 1, i, h => by
    have ih := idxFrom_all l p d (i + 1) (fun j h1 h2 => h j (by omega) (by omega))
    unfold idxFrom
    rw [if_pos (h i (by omega) (by omega)), List.length_cons, ih]
theorem idx_all {l : List S37} {p : S37 → Bool} (h : ∀ c ∈ l, p c = true) : (idx l p).length = l.length :=
  idxFrom_all l p l.length 0 fun j _ hj => h _ (by simp [List.getD, show j < l.length by omega])
theorem index_ints_from (x : List Int) (v : Int) (hx : x.length < 1000000) : ∀ d i, i + d = x.length → ∃ r : Int, Ev (fun k => slices_Index_int_int.l0 k x v x.length i) r ∧ (0 ≤ r ↔ v ∈ x.drop i) := by
  intro d
  induction d with
  | zero =>
    intro i hi
    refine ⟨-1, ?_, ?_⟩
    · refine Ev.step (fun k => by rw [slices_Index_int_int.l0]) ?_
      exact Ev.neg (by omega) (Ev.const rfl)
    · rw [List.drop_eq_nil_of_le (by omega)]; simp
  | succ d ih =>
    intro i hi
    have hlt : i < x.length := by omega
    have e1 : x.getD i 0 = x[i] := by simp [List.getD, hlt]
    obtain ⟨r, h1, h2⟩ := ih (i + 1) (by omega)
    by_cases h : v = x[i]
    · refine ⟨i, ?_, ?_⟩
      · refine Ev.step (fun k => by rw [slices_Index_int_int.l0]) ?_
        refine Ev.pos (by omega) (Ev.pos (by omega) (Ev.pos (by omega) ?_))
        rw [rdI, e1]
        exact Ev.pos h (Ev.const rfl)
      · rw [List.drop_eq_getElem_cons hlt]
        exact ⟨fun _ => by rw [h]; exact List.mem_cons_self, fun _ => by omega⟩
    · refine ⟨r, ?_, ?_⟩
      · refine Ev.step (fun k => by rw [slices_Index_int_int.l0]) ?_
        refine Ev.pos (by omega) (Ev.pos (by omega) (Ev.pos (by omega) ?_))
        rw [rdI, e1, wrap_nat (by omega)]
        exact Ev.neg h h1
      · rw [List.drop_eq_getElem_cons hlt, h2, List.mem_cons]
        exact ⟨.inr, fun hh => hh.resolve_left h⟩
theorem contains_ints (x : List Int) (v : Int) (hx : x.length < 1000000) : Ev (fun k => slices_Contains_int_int.f k x v) (decide (v ∈ x)) := by
  obtain ⟨r, h1, h2⟩ := index_ints_from x v hx x.length 0 (by omega)
  unfold slices_Contains_int_int.f slices_Index_int_int.f
  refine Ev.bind' _ h1 (Ev.const ?_)
  rw [List.drop_zero] at h2
  congr 1
  exact decide_eq_decide.2 h2
theorem sorted_from (x : List Int) (hs : x.Pairwise (· < ·)) (hx : x.length < 1000000) : ∀ i : Nat, i < x.length ∨ i = 0 → Ev (fun k => slices_IsSorted_int_int.l0 k x i) true := by
  intro i
  induction i with
  | zero =>
    intro _
    refine Ev.step (fun k => by rw [slices_IsSorted_int_int.l0]) ?_
    exact Ev.neg (by omega) (Ev.const rfl)
  | succ i ih =>
    intro hi
    have hlt : i + 1 < x.length := by omega
    refine Ev.step (fun k => by rw [slices_IsSorted_int_int.l0]) ?_
    have ew : wrap64 (((i + 1 : Nat) : Int) - 1) = (i : Int) := by rw [wrap_id (by omega) (by omega)]; omega
    rw [ew, rdI, rdI]
    refine Ev.pos (by omega) (Ev.pos (by omega) (Ev.pos (by omega) (Ev.pos (by omega) (Ev.pos (by omega) ?_))))
    have e1 : x.getD (i + 1) 0 = x[i + 1] := by simp [List.getD, hlt]
    have e2 : x.getD i 0 = x[i] := by simp [List.getD, show i < x.length by omega]
    have h := (List.pairwise_iff_getElem.1 hs) i (i + 1) (by omega) hlt (by omega)
    rw [e1, e2]
    refine Ev.bind' false ?_ (Ev.neg (by simp) (ih (by omega)))
    unfold cmp_Less_int.f cmp_isNaN_int.f
    refine Ev.const ?_
    simp
    omega
theorem is_sorted {x : List Int} (hs : x.Pairwise (· < ·)) (hx : x.length < 1000000) : Ev (fun k => slices_IsSorted_int_int.f k x) true := by
  unfold slices_IsSorted_int_int.f
  rcases Nat.eq_zero_or_pos x.length with h | h
  · rw [wrap_id (by omega) (by omega)]
    refine Ev.step (fun k => by rw [slices_IsSorted_int_int.l0]) ?_
    exact Ev.neg (by omega) (Ev.const rfl)
  · have := sorted_from x hs hx (x.length - 1) (by omega)
    rw [wrap_id (by omega) (by omega)]
    have e : ((x.length - 1 : Nat) : Int) = (x.length : Int) - 1 := by omega
    rw [e] at this
    exact this

/-! ### A check that says 0 -/
theorem dupFrom_false (l : List S37) (i : Nat) : ∀ d j, dupFrom l i d j = false ↔ ∀ q, j ≤ q → q < j + d → (l.getD q z37).f0 ≠ (l.getD i z37).f0
  | 0, j => by simp [dupFrom]; intro q h1 h2; omega
  | d + 1, j => by
    have ih := dupFrom_false l i d (j + 1)
    unfold dupFrom
    by_cases h : (l.getD j z37).f0 = (l.getD i z37).f0
    · rw [if_pos h]
      constructor
      · intro hh; cases hh
      · intro hh; exact absurd h (hh j (by omega) (by omega))
    · rw [if_neg h, ih]
      constructor
      · intro hh q h1 h2
        by_cases e : q = j
        · subst e; exact h
        · exact hh q (by omega) (by omega)
      · intro hh q h1 h2
        exact hh q (by omega) (by omega)
theorem chkFrom_zero (l : List S37) : ∀ d i, i + d = l.length → (chkFrom l d i = 0 ↔ ∀ j, i ≤ j → j < l.length → OkC (l.getD j z37) ∧ ∀ q, q < j → (l.getD q z37).f0 ≠ (l.getD j z37).f0)
  | 0, i, hi => by simp [chkFrom]; intro j h1 h2; omega
  | d + 1, i, hi => by
    have ih := chkFrom_zero l d (i + 1) (by omega)
    have hd := dupFrom_false l i i 0
    unfold chkFrom
    by_cases h : OkC (l.getD i z37)
    · rw [if_pos h]
      by_cases h2 : dupFrom l i i 0 = true
      · rw [if_pos h2]
        constructor
        · intro hh; omega
        · intro hh
          have h3 := (hh i (by omega) (by omega)).2
          have h4 := hd.2 (fun q _ hq => h3 q (by omega))
          rw [h4] at h2; cases h2
      · rw [if_neg h2, ih]
        have h3 := hd.1 (by simpa using h2)
        constructor
        · intro hh j h4 h5
          by_cases e : j = i
          · subst e; exact ⟨h, fun q hq => h3 q (by omega) (by omega)⟩
          · exact hh j (by omega) h5
        · intro hh j h4 h5
          exact hh j (by omega) h5
    · rw [if_neg h]
      constructor
      · intro hh; omega
      · intro hh; exact absurd (hh i (by omega) (by omega)).1 h
/-- The check says 0 of at most twelve candidates within the limits, of different numbers. -/
theorem chk_iff (l : List S37) : chk l = 0 ↔ l.length ≤ 12 ∧ (∀ c ∈ l, OkC c) ∧ l.Pairwise (fun a b => a.f0 ≠ b.f0) := by
  unfold chk
  by_cases h : (l.length : Int) > 12
  · rw [if_pos h]
    constructor
    · intro hh; omega
    · intro hh; omega
  · rw [if_neg h, chkFrom_zero l l.length 0 (by omega)]
    have g : ∀ i (hi : i < l.length), l.getD i z37 = l[i] := fun i hi => by simp [List.getD, hi]
    constructor
    · intro hh
      refine ⟨by omega, fun c hc => ?_, List.pairwise_iff_getElem.2 fun i j hi hj hij => ?_⟩
      · obtain ⟨j, hj, rfl⟩ := List.getElem_of_mem hc
        have := (hh j (by omega) hj).1
        rwa [g j hj] at this
      · have := (hh j (by omega) hj).2 i hij
        rwa [g i hi, g j hj] at this
    · rintro ⟨_, h1, h2⟩ j _ hj
      refine ⟨by rw [g j hj]; exact h1 _ (List.getElem_mem hj), fun q hq => ?_⟩
      rw [g j hj, g q (by omega)]
      exact List.pairwise_iff_getElem.1 h2 q j (by omega) hj hq
end Go.Proofs.Ytlfilhplklifjaa.PA
