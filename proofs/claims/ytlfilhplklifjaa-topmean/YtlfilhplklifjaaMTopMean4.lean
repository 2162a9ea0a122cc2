/- Ytlfilhplklifjaa: part 4 of 5 of the proof that the law TopMean returns true for every input, its arguments reading as before. No condition. -/
import Derived.Test.YtlfilhplklifjaaMTopMean1
import Derived.Test.YtlfilhplklifjaaMTopMean3
import Derived.Laws.BitsLemmas
import Derived.Test.YtlfilhplklifjaaMTopMean2
namespace Go.Proofs.Ytlfilhplklifjaa.X
open Go.RowKit Go.Proofs.YtlfilhplklifjaaW.PrintWords Go.Proofs.YtlfilhplklifjaaW.PrintLast Go.Proofs.YtlfilhplklifjaaW.PrintMore
attribute [local go_sem] max2_int min2_int max_two min_two max_three min_three max_four min_four   -- for this text's walks alone
set_option linter.unusedVariables false
set_option linter.unusedSimpArgs false

/-! ### fixed_MulDiv: function 80 -/
def fixed_MulDiv.j0 : Nat → Int → Bool → Bool → Option (Int × Bool)
 | 0, _, _, _ => none
 | k + 1, x10, x12, x45 => if x45 = true then (if (IntKind.u64.wrap (x10 + 1)) = 0 then (some (0, false)) else ((fixed_signed.f (IntKind.u64.wrap (x10 + 1)) x12).bind fun bt395 => (some (bt395.1, bt395.2)))) else ((fixed_signed.f x10 x12).bind fun bt397 => (some (bt397.1, bt397.2)))
def fixed_MulDiv.f (k : Nat) (a0 : Int) (a1 : Int) (a2 : Int) : Option (Int × Bool) := (fixed_size.f a0).bind fun t387 => ((fixed_size.f a1).bind fun t388 => ((bits_Mul64.f t387 t388).bind fun bt389 => ((fixed_size.f a2).bind fun t391 => (if bt389.1 ≥ t391 then (some (0, false)) else ((fixed_size.f a2).bind fun t392 => ((bits_Div64.f k bt389.1 bt389.2 t392).bind fun bt393 => (if (((decide (a0 < 0)) != (decide (a1 < 0))) != (decide (a2 < 0))) = true then (fixed_MulDiv.j0 k bt393.1 (((decide (a0 < 0)) != (decide (a1 < 0))) != (decide (a2 < 0))) (bt393.2 != 0)) else (fixed_MulDiv.j0 k bt393.1 (((decide (a0 < 0)) != (decide (a1 < 0))) != (decide (a2 < 0))) false))))))))
set_option maxHeartbeats 8000000 in
set_option maxRecDepth 100000 in
theorem fixed_MulDiv.calls (k : Nat) (a0 : Int) (a1 : Int) (a2 : Int) (r1 : Int) (r2 : Bool) (w : World) (h : fixed_MulDiv.f k a0 a1 a2 = some (r1, r2)) :
  Calls Try.prog 80 #[.int .i64 a0, .int .i64 a1, .int .i64 a2] w fun e w' => e = .returned (.tuple #[.int .i64 r1, .bool r2]) ∧ Drawn0 w w' := by
 have H : ((fixed_size.f a0).bind fun t387 => ((fixed_size.f a1).bind fun t388 => ((bits_Mul64.f t387 t388).bind fun bt389 => ((fixed_size.f a2).bind fun t391 => (if bt389.1 ≥ t391 then (some (0, false)) else ((fixed_size.f a2).bind fun t392 => ((bits_Div64.f k bt389.1 bt389.2 t392).bind fun bt393 => (if (((decide (a0 < 0)) != (decide (a1 < 0))) != (decide (a2 < 0))) = true then (fixed_MulDiv.j0 k bt393.1 (((decide (a0 < 0)) != (decide (a1 < 0))) != (decide (a2 < 0))) (bt393.2 != 0)) else (fixed_MulDiv.j0 k bt393.1 (((decide (a0 < 0)) != (decide (a1 < 0))) != (decide (a2 < 0))) false))))))))) = some (r1, r2) := h
 clear h
 replace H := Option.bind_eq_some_iff.mp H
 obtain ⟨t387, A40, H⟩ := H
 replace H : ((fixed_size.f a1).bind fun t388 => ((bits_Mul64.f t387 t388).bind fun bt389 => ((fixed_size.f a2).bind fun t391 => (if bt389.1 ≥ t391 then (some (0, false)) else ((fixed_size.f a2).bind fun t392 => ((bits_Div64.f k bt389.1 bt389.2 t392).bind fun bt393 => (if (((decide (a0 < 0)) != (decide (a1 < 0))) != (decide (a2 < 0))) = true then (fixed_MulDiv.j0 k bt393.1 (((decide (a0 < 0)) != (decide (a1 < 0))) != (decide (a2 < 0))) (bt393.2 != 0)) else (fixed_MulDiv.j0 k bt393.1 (((decide (a0 < 0)) != (decide (a1 < 0))) != (decide (a2 < 0))) false)))))))) = some (r1, r2) := H
 have A4 := Aside0.mk A40
 clear A40
 replace H := Option.bind_eq_some_iff.mp H
 obtain ⟨t388, A50, H⟩ := H
 replace H : ((bits_Mul64.f t387 t388).bind fun bt389 => ((fixed_size.f a2).bind fun t391 => (if bt389.1 ≥ t391 then (some (0, false)) else ((fixed_size.f a2).bind fun t392 => ((bits_Div64.f k bt389.1 bt389.2 t392).bind fun bt393 => (if (((decide (a0 < 0)) != (decide (a1 < 0))) != (decide (a2 < 0))) = true then (fixed_MulDiv.j0 k bt393.1 (((decide (a0 < 0)) != (decide (a1 < 0))) != (decide (a2 < 0))) (bt393.2 != 0)) else (fixed_MulDiv.j0 k bt393.1 (((decide (a0 < 0)) != (decide (a1 < 0))) != (decide (a2 < 0))) false))))))) = some (r1, r2) := H
 have A5 := Aside0.mk A50
 clear A50
 replace H := Option.bind_eq_some_iff.mp H
 obtain ⟨⟨t389, t390⟩, A60, H⟩ := H
 replace H : ((fixed_size.f a2).bind fun t391 => (if t389 ≥ t391 then (some (0, false)) else ((fixed_size.f a2).bind fun t392 => ((bits_Div64.f k t389 t390 t392).bind fun bt393 => (if (((decide (a0 < 0)) != (decide (a1 < 0))) != (decide (a2 < 0))) = true then (fixed_MulDiv.j0 k bt393.1 (((decide (a0 < 0)) != (decide (a1 < 0))) != (decide (a2 < 0))) (bt393.2 != 0)) else (fixed_MulDiv.j0 k bt393.1 (((decide (a0 < 0)) != (decide (a1 < 0))) != (decide (a2 < 0))) false)))))) = some (r1, r2) := H
 have A6 := Aside0.mk A60
 clear A60
 replace H := Option.bind_eq_some_iff.mp H
 obtain ⟨t391, A70, H⟩ := H
 replace H : (if t389 ≥ t391 then (some (0, false)) else ((fixed_size.f a2).bind fun t392 => ((bits_Div64.f k t389 t390 t392).bind fun bt393 => (if (((decide (a0 < 0)) != (decide (a1 < 0))) != (decide (a2 < 0))) = true then (fixed_MulDiv.j0 k bt393.1 (((decide (a0 < 0)) != (decide (a1 < 0))) != (decide (a2 < 0))) (bt393.2 != 0)) else (fixed_MulDiv.j0 k bt393.1 (((decide (a0 < 0)) != (decide (a1 < 0))) != (decide (a2 < 0))) false))))) = some (r1, r2) := H
 have A7 := Aside0.mk A70
 clear A70
 by_cases c8 : t389 ≥ t391
 ·rw [if_pos c8] at H
  have c8b0 : decide (t391 ≤ t389) = true := decide_eq_true c8
  clear c8
  simp only [Option.some.injEq, Prod.mk.injEq] at H
  obtain ⟨rfl, rfl⟩ := H
  go_enter Try.func80, Try.ntmps80
  go_wp2_with (first | ((with_reducible refine gate_callee (f := 89) rfl ?_); refine goesL_ (some 15) rfl rfl Try.func89 (by kernel_rfl) rfl #[.int .i64 a0] rfl (by (try simp only [List.map_toArray, List.map_cons, List.map_nil]); first | done | rfl | (simp only [List.length_drop, List.length_take]; rfl)) ?_; (with_reducible refine (fixed_size.calls a0 t387 _ A4.out).mono ?_); rintro e w' ⟨rfl, ⟨nd, rfl⟩⟩; refine ⟨_, rfl, ?_⟩) | ((with_reducible refine gate_callee (f := 89) rfl ?_); refine goesL_ (some 17) rfl rfl Try.func89 (by kernel_rfl) rfl #[.int .i64 a1] rfl (by (try simp only [List.map_toArray, List.map_cons, List.map_nil]); first | done | rfl | (simp only [List.length_drop, List.length_take]; rfl)) ?_; (with_reducible refine (fixed_size.calls a1 t388 _ A5.out).mono ?_); rintro e w' ⟨rfl, ⟨nd, rfl⟩⟩; refine ⟨_, rfl, ?_⟩) | ((with_reducible refine gate_callee (f := 88) rfl ?_); refine goesL_ (some 18) rfl rfl Try.func88 (by kernel_rfl) rfl #[.int .u64 t387, .int .u64 t388] rfl (by (try simp only [List.map_toArray, List.map_cons, List.map_nil]); first | done | rfl | (simp only [List.length_drop, List.length_take]; rfl)) ?_; (with_reducible refine (bits_Mul64.calls t387 t388 t389 t390 _ A6.out).mono ?_); rintro e w' ⟨rfl, ⟨nd, rfl⟩⟩; refine ⟨_, rfl, ?_⟩) | ((with_reducible refine gate_callee (f := 89) rfl ?_); refine goesL_ (some 23) rfl rfl Try.func89 (by kernel_rfl) rfl #[.int .i64 a2] rfl (by (try simp only [List.map_toArray, List.map_cons, List.map_nil]); first | done | rfl | (simp only [List.length_drop, List.length_take]; rfl)) ?_; (with_reducible refine (fixed_size.calls a2 t391 _ A7.out).mono ?_); rintro e w' ⟨rfl, ⟨nd, rfl⟩⟩; refine ⟨_, rfl, ?_⟩))
  go_ret2
  exact ⟨by first | rfl | (simp; done) | (simp [*]; done), by repeat (first | exact Drawn0.refl _ | apply Drawn0.step)⟩
 ·rw [if_neg c8] at H
  have c8b0 : decide (t391 ≤ t389) = false := decide_eq_false c8
  clear c8
  replace H := Option.bind_eq_some_iff.mp H
  obtain ⟨t392, A90, H⟩ := H
  replace H : ((bits_Div64.f k t389 t390 t392).bind fun bt393 => (if (((decide (a0 < 0)) != (decide (a1 < 0))) != (decide (a2 < 0))) = true then (fixed_MulDiv.j0 k bt393.1 (((decide (a0 < 0)) != (decide (a1 < 0))) != (decide (a2 < 0))) (bt393.2 != 0)) else (fixed_MulDiv.j0 k bt393.1 (((decide (a0 < 0)) != (decide (a1 < 0))) != (decide (a2 < 0))) false))) = some (r1, r2) := H
  have A9 := Aside0.mk A90
  clear A90
  replace H := Option.bind_eq_some_iff.mp H
  obtain ⟨⟨t393, t394⟩, A100, H⟩ := H
  replace H : (if (((decide (a0 < 0)) != (decide (a1 < 0))) != (decide (a2 < 0))) = true then (fixed_MulDiv.j0 k t393 (((decide (a0 < 0)) != (decide (a1 < 0))) != (decide (a2 < 0))) (t394 != 0)) else (fixed_MulDiv.j0 k t393 (((decide (a0 < 0)) != (decide (a1 < 0))) != (decide (a2 < 0))) false)) = some (r1, r2) := H
  have A10 := Aside0.mk A100
  clear A100
  obtain ⟨ng, hng⟩ : ∃ b_ : Bool, (((decide (a0 < 0)) != (decide (a1 < 0))) != (decide (a2 < 0))) = b_ := ⟨_, rfl⟩
  rw [hng] at H
  cases ng with
  | true =>
   replace H : fixed_MulDiv.j0 k t393 true (t394 != 0) = some (r1, r2) := by rw [if_pos rfl] at H; exact H
   have c12b0 : (((decide (a0 < 0)) != (decide (a1 < 0))) != (decide (a2 < 0))) = true := hng
   (try (have c12b1 : decide (((decide (a0 < 0)) != (decide (a1 < 0))) = (decide (a2 < 0))) = false := by simpa using c12b0))
   (try (have c12b2 : (((decide (a0 < 0)) != (decide (a1 < 0))) == (decide (a2 < 0))) = false := by simpa using c12b0))
   have c12b4 : (!((!((decide (a0 < 0)) == (decide (a1 < 0)))) == (decide (a2 < 0)))) = true := hng
   have c12b5 : ((!((decide (a0 < 0)) == (decide (a1 < 0)))) == (decide (a2 < 0))) = false := by rw [← Bool.not_not ((!((decide (a0 < 0)) == (decide (a1 < 0)))) == (decide (a2 < 0)))]; rw [c12b4]; rfl
   have HC11 := Aside0.mk H
   clear H
   go_enter Try.func80, Try.ntmps80
   go_upto_region 6 with (first | ((with_reducible refine gate_callee (f := 89) rfl ?_); refine goesL_ (some 15) rfl rfl Try.func89 (by kernel_rfl) rfl #[.int .i64 a0] rfl (by (try simp only [List.map_toArray, List.map_cons, List.map_nil]); first | done | rfl | (simp only [List.length_drop, List.length_take]; rfl)) ?_; (with_reducible refine (fixed_size.calls a0 t387 _ A4.out).mono ?_); rintro e w' ⟨rfl, ⟨nd, rfl⟩⟩; refine ⟨_, rfl, ?_⟩) | ((with_reducible refine gate_callee (f := 89) rfl ?_); refine goesL_ (some 17) rfl rfl Try.func89 (by kernel_rfl) rfl #[.int .i64 a1] rfl (by (try simp only [List.map_toArray, List.map_cons, List.map_nil]); first | done | rfl | (simp only [List.length_drop, List.length_take]; rfl)) ?_; (with_reducible refine (fixed_size.calls a1 t388 _ A5.out).mono ?_); rintro e w' ⟨rfl, ⟨nd, rfl⟩⟩; refine ⟨_, rfl, ?_⟩) | ((with_reducible refine gate_callee (f := 88) rfl ?_); refine goesL_ (some 18) rfl rfl Try.func88 (by kernel_rfl) rfl #[.int .u64 t387, .int .u64 t388] rfl (by (try simp only [List.map_toArray, List.map_cons, List.map_nil]); first | done | rfl | (simp only [List.length_drop, List.length_take]; rfl)) ?_; (with_reducible refine (bits_Mul64.calls t387 t388 t389 t390 _ A6.out).mono ?_); rintro e w' ⟨rfl, ⟨nd, rfl⟩⟩; refine ⟨_, rfl, ?_⟩) | ((with_reducible refine gate_callee (f := 89) rfl ?_); refine goesL_ (some 23) rfl rfl Try.func89 (by kernel_rfl) rfl #[.int .i64 a2] rfl (by (try simp only [List.map_toArray, List.map_cons, List.map_nil]); first | done | rfl | (simp only [List.length_drop, List.length_take]; rfl)) ?_; (with_reducible refine (fixed_size.calls a2 t391 _ A7.out).mono ?_); rintro e w' ⟨rfl, ⟨nd, rfl⟩⟩; refine ⟨_, rfl, ?_⟩) | ((with_reducible refine gate_callee (f := 89) rfl ?_); refine goesL_ (some 29) rfl rfl Try.func89 (by kernel_rfl) rfl #[.int .i64 a2] rfl (by (try simp only [List.map_toArray, List.map_cons, List.map_nil]); first | done | rfl | (simp only [List.length_drop, List.length_take]; rfl)) ?_; (with_reducible refine (fixed_size.calls a2 t392 _ A9.out).mono ?_); rintro e w' ⟨rfl, ⟨nd, rfl⟩⟩; refine ⟨_, rfl, ?_⟩) | ((with_reducible refine gate_callee (f := 77) rfl ?_); refine goesL_ (some 30) rfl rfl Try.func77 (by kernel_rfl) rfl #[.int .u64 t389, .int .u64 t390, .int .u64 t392] rfl (by (try simp only [List.map_toArray, List.map_cons, List.map_nil]); first | done | rfl | (simp only [List.length_drop, List.length_take]; rfl)) ?_; (with_reducible refine (bits_Div64.calls k t389 t390 t392 t393 t394 _ A10.out).mono ?_); rintro e w' ⟨rfl, ⟨nd, rfl⟩⟩; refine ⟨_, rfl, ?_⟩))
   (try simp only [Act.put, List.setIfInBounds_toArray, List.set_cons_zero, List.set_cons_succ])
   go_cut [45] (fun v45 wc => ∃ (kq : Nat) (x45_10 : Bool), v45 = .bool x45_10 ∧ Aside0 (fixed_MulDiv.j0 kq t393 true x45_10 = some (r1, r2)) ∧ Aside0 (kq ≤ k) ∧ Drawn0 w wc)
   case first =>
    have H := HC11.out
    clear HC11
    have H' := Aside0.mk H
    clear H
    go_wp2
    go_meet
    case rel => exact ⟨_, ((t394 != 0)), (by first | rfl | (simp; done) | (simp [*]; done)), H', ⟨by first | omega | exact Nat.le_refl _⟩, by repeat (first | exact Drawn0.refl _ | apply Drawn0.step)⟩
   case rest =>
    clear HC11
    try clear c1
    try clear p2
    try clear c7
    try clear c8
    try clear c8b0
    obtain ⟨kq, x45_10, rfl, HA, HJ10, ⟨mc10, rfl⟩⟩ := hcut
    cases kq with
    | zero => exact absurd HA.out (by simp [fixed_MulDiv.j0])
    | succ kj10 =>
     have H := HA.out
     clear HA
     simp only [fixed_MulDiv.j0] at H
     by_cases c13 : x45_10 = true
     ·subst c13
      have H1 : (if (IntKind.u64.wrap (t393 + 1)) = 0 then (some (0, false)) else ((fixed_signed.f (IntKind.u64.wrap (t393 + 1)) true).bind fun bt395 => (some (bt395.1, bt395.2)))) = some (r1, r2) := by rw [if_pos rfl] at H; exact H
      clear H
      have H := H1
      clear H1
      by_cases c14 : (IntKind.u64.wrap (t393 + 1)) = 0
      ·rw [if_pos c14] at H
       have c14b0 : ((IntKind.u64.wrap (t393 + 1)) == 0) = true := beq_iff_eq.mpr c14
       have c14b1 : ((IntKind.u64.wrap (t393 + 1)) != 0) = false := bne_eq_false_iff_eq.mpr c14
       clear c14
       simp only [Option.some.injEq, Prod.mk.injEq] at H
       obtain ⟨rfl, rfl⟩ := H
       go_wp2
       go_ret2
       exact ⟨by first | rfl | (simp; done) | (simp [*]; done), by repeat (first | exact Drawn0.refl _ | apply Drawn0.step)⟩
      ·rw [if_neg c14] at H
       have c14b0 : ((IntKind.u64.wrap (t393 + 1)) == 0) = false := beq_eq_false_iff_ne.mpr c14
       have c14b1 : ((IntKind.u64.wrap (t393 + 1)) != 0) = true := bne_iff_ne.mpr c14
       replace H := Option.bind_eq_some_iff.mp H
       obtain ⟨⟨t395, t396⟩, A150, H⟩ := H
       replace H : (some (t395, t396)) = some (r1, r2) := H
       have A15 := Aside0.mk A150
       clear A150
       simp only [Option.some.injEq, Prod.mk.injEq] at H
       obtain ⟨rfl, rfl⟩ := H
       go_wp2_with (first | ((with_reducible refine gate_callee (f := 90) rfl ?_); refine goesL_ (some 52) rfl rfl Try.func90 (by kernel_rfl) rfl #[.int .u64 (IntKind.u64.wrap (t393 + 1)), .bool true] rfl (by (try simp only [List.map_toArray, List.map_cons, List.map_nil]); first | done | rfl | (simp only [List.length_drop, List.length_take]; rfl)) ?_; (with_reducible refine (fixed_signed.calls (IntKind.u64.wrap (t393 + 1)) true t395 t396 _ A15.out).mono ?_); rintro e w' ⟨rfl, ⟨nd, rfl⟩⟩; refine ⟨_, rfl, ?_⟩))
       go_ret2
       exact ⟨by first | rfl | (simp; done) | (simp [*]; done), by repeat (first | exact Drawn0.refl _ | apply Drawn0.step)⟩
     ·replace c13 := Bool.eq_false_iff.mpr c13
      subst c13
      have H1 : ((fixed_signed.f t393 true).bind fun bt397 => (some (bt397.1, bt397.2))) = some (r1, r2) := by rw [if_neg (show ¬ (false = true) by decide)] at H; exact H
      clear H
      have H := H1
      clear H1
      replace H := Option.bind_eq_some_iff.mp H
      obtain ⟨⟨t397, t398⟩, A160, H⟩ := H
      replace H : (some (t397, t398)) = some (r1, r2) := H
      have A16 := Aside0.mk A160
      clear A160
      simp only [Option.some.injEq, Prod.mk.injEq] at H
      obtain ⟨rfl, rfl⟩ := H
      go_wp2_with (first | ((with_reducible refine gate_callee (f := 90) rfl ?_); refine goesL_ (some 52) rfl rfl Try.func90 (by kernel_rfl) rfl #[.int .u64 t393, .bool true] rfl (by (try simp only [List.map_toArray, List.map_cons, List.map_nil]); first | done | rfl | (simp only [List.length_drop, List.length_take]; rfl)) ?_; (with_reducible refine (fixed_signed.calls t393 true t397 t398 _ A16.out).mono ?_); rintro e w' ⟨rfl, ⟨nd, rfl⟩⟩; refine ⟨_, rfl, ?_⟩))
      go_ret2
      exact ⟨by first | rfl | (simp; done) | (simp [*]; done), by repeat (first | exact Drawn0.refl _ | apply Drawn0.step)⟩
  | false =>
   replace H : fixed_MulDiv.j0 k t393 false false = some (r1, r2) := by rw [if_neg (by decide)] at H; exact H
   have c12b0 : (((decide (a0 < 0)) != (decide (a1 < 0))) != (decide (a2 < 0))) = false := hng
   (try (have c12b1 : decide (((decide (a0 < 0)) != (decide (a1 < 0))) = (decide (a2 < 0))) = true := by simpa using c12b0))
   (try (have c12b2 : (((decide (a0 < 0)) != (decide (a1 < 0))) == (decide (a2 < 0))) = true := by simpa using c12b0))
   have c12b4 : (!((!((decide (a0 < 0)) == (decide (a1 < 0)))) == (decide (a2 < 0)))) = false := hng
   have c12b5 : ((!((decide (a0 < 0)) == (decide (a1 < 0)))) == (decide (a2 < 0))) = true := by rw [← Bool.not_not ((!((decide (a0 < 0)) == (decide (a1 < 0)))) == (decide (a2 < 0)))]; rw [c12b4]; rfl
   have HC11 := Aside0.mk H
   clear H
   go_enter Try.func80, Try.ntmps80
   go_upto_region 6 with (first | ((with_reducible refine gate_callee (f := 89) rfl ?_); refine goesL_ (some 15) rfl rfl Try.func89 (by kernel_rfl) rfl #[.int .i64 a0] rfl (by (try simp only [List.map_toArray, List.map_cons, List.map_nil]); first | done | rfl | (simp only [List.length_drop, List.length_take]; rfl)) ?_; (with_reducible refine (fixed_size.calls a0 t387 _ A4.out).mono ?_); rintro e w' ⟨rfl, ⟨nd, rfl⟩⟩; refine ⟨_, rfl, ?_⟩) | ((with_reducible refine gate_callee (f := 89) rfl ?_); refine goesL_ (some 17) rfl rfl Try.func89 (by kernel_rfl) rfl #[.int .i64 a1] rfl (by (try simp only [List.map_toArray, List.map_cons, List.map_nil]); first | done | rfl | (simp only [List.length_drop, List.length_take]; rfl)) ?_; (with_reducible refine (fixed_size.calls a1 t388 _ A5.out).mono ?_); rintro e w' ⟨rfl, ⟨nd, rfl⟩⟩; refine ⟨_, rfl, ?_⟩) | ((with_reducible refine gate_callee (f := 88) rfl ?_); refine goesL_ (some 18) rfl rfl Try.func88 (by kernel_rfl) rfl #[.int .u64 t387, .int .u64 t388] rfl (by (try simp only [List.map_toArray, List.map_cons, List.map_nil]); first | done | rfl | (simp only [List.length_drop, List.length_take]; rfl)) ?_; (with_reducible refine (bits_Mul64.calls t387 t388 t389 t390 _ A6.out).mono ?_); rintro e w' ⟨rfl, ⟨nd, rfl⟩⟩; refine ⟨_, rfl, ?_⟩) | ((with_reducible refine gate_callee (f := 89) rfl ?_); refine goesL_ (some 23) rfl rfl Try.func89 (by kernel_rfl) rfl #[.int .i64 a2] rfl (by (try simp only [List.map_toArray, List.map_cons, List.map_nil]); first | done | rfl | (simp only [List.length_drop, List.length_take]; rfl)) ?_; (with_reducible refine (fixed_size.calls a2 t391 _ A7.out).mono ?_); rintro e w' ⟨rfl, ⟨nd, rfl⟩⟩; refine ⟨_, rfl, ?_⟩) | ((with_reducible refine gate_callee (f := 89) rfl ?_); refine goesL_ (some 29) rfl rfl Try.func89 (by kernel_rfl) rfl #[.int .i64 a2] rfl (by (try simp only [List.map_toArray, List.map_cons, List.map_nil]); first | done | rfl | (simp only [List.length_drop, List.length_take]; rfl)) ?_; (with_reducible refine (fixed_size.calls a2 t392 _ A9.out).mono ?_); rintro e w' ⟨rfl, ⟨nd, rfl⟩⟩; refine ⟨_, rfl, ?_⟩) | ((with_reducible refine gate_callee (f := 77) rfl ?_); refine goesL_ (some 30) rfl rfl Try.func77 (by kernel_rfl) rfl #[.int .u64 t389, .int .u64 t390, .int .u64 t392] rfl (by (try simp only [List.map_toArray, List.map_cons, List.map_nil]); first | done | rfl | (simp only [List.length_drop, List.length_take]; rfl)) ?_; (with_reducible refine (bits_Div64.calls k t389 t390 t392 t393 t394 _ A10.out).mono ?_); rintro e w' ⟨rfl, ⟨nd, rfl⟩⟩; refine ⟨_, rfl, ?_⟩))
   (try simp only [Act.put, List.setIfInBounds_toArray, List.set_cons_zero, List.set_cons_succ])
   go_cut [45] (fun v45 wc => ∃ (kq : Nat) (x45_10 : Bool), v45 = .bool x45_10 ∧ Aside0 (fixed_MulDiv.j0 kq t393 false x45_10 = some (r1, r2)) ∧ Aside0 (kq ≤ k) ∧ Drawn0 w wc)
   case first =>
    have H := HC11.out
    clear HC11
    have H' := Aside0.mk H
    clear H
    go_wp2
    go_meet
    case rel => exact ⟨_, (false), (by first | rfl | (simp; done) | (simp [*]; done)), H', ⟨by first | omega | exact Nat.le_refl _⟩, by repeat (first | exact Drawn0.refl _ | apply Drawn0.step)⟩
   case rest =>
    clear HC11
    try clear c1
    try clear p2
    try clear c7
    try clear c8
    try clear c8b0
    obtain ⟨kq, x45_10, rfl, HA, HJ10, ⟨mc10, rfl⟩⟩ := hcut
    cases kq with
    | zero => exact absurd HA.out (by simp [fixed_MulDiv.j0])
    | succ kj10 =>
     have H := HA.out
     clear HA
     simp only [fixed_MulDiv.j0] at H
     by_cases c13 : x45_10 = true
     ·subst c13
      have H1 : (if (IntKind.u64.wrap (t393 + 1)) = 0 then (some (0, false)) else ((fixed_signed.f (IntKind.u64.wrap (t393 + 1)) false).bind fun bt395 => (some (bt395.1, bt395.2)))) = some (r1, r2) := by rw [if_pos rfl] at H; exact H
      clear H
      have H := H1
      clear H1
      by_cases c14 : (IntKind.u64.wrap (t393 + 1)) = 0
      ·rw [if_pos c14] at H
       have c14b0 : ((IntKind.u64.wrap (t393 + 1)) == 0) = true := beq_iff_eq.mpr c14
       have c14b1 : ((IntKind.u64.wrap (t393 + 1)) != 0) = false := bne_eq_false_iff_eq.mpr c14
       clear c14
       simp only [Option.some.injEq, Prod.mk.injEq] at H
       obtain ⟨rfl, rfl⟩ := H
       go_wp2
       go_ret2
       exact ⟨by first | rfl | (simp; done) | (simp [*]; done), by repeat (first | exact Drawn0.refl _ | apply Drawn0.step)⟩
      ·rw [if_neg c14] at H
       have c14b0 : ((IntKind.u64.wrap (t393 + 1)) == 0) = false := beq_eq_false_iff_ne.mpr c14
       have c14b1 : ((IntKind.u64.wrap (t393 + 1)) != 0) = true := bne_iff_ne.mpr c14
       replace H := Option.bind_eq_some_iff.mp H
       obtain ⟨⟨t395, t396⟩, A150, H⟩ := H
       replace H : (some (t395, t396)) = some (r1, r2) := H
       have A15 := Aside0.mk A150
       clear A150
       simp only [Option.some.injEq, Prod.mk.injEq] at H
       obtain ⟨rfl, rfl⟩ := H
       go_wp2_with (first | ((with_reducible refine gate_callee (f := 90) rfl ?_); refine goesL_ (some 52) rfl rfl Try.func90 (by kernel_rfl) rfl #[.int .u64 (IntKind.u64.wrap (t393 + 1)), .bool false] rfl (by (try simp only [List.map_toArray, List.map_cons, List.map_nil]); first | done | rfl | (simp only [List.length_drop, List.length_take]; rfl)) ?_; (with_reducible refine (fixed_signed.calls (IntKind.u64.wrap (t393 + 1)) false t395 t396 _ A15.out).mono ?_); rintro e w' ⟨rfl, ⟨nd, rfl⟩⟩; refine ⟨_, rfl, ?_⟩))
       go_ret2
       exact ⟨by first | rfl | (simp; done) | (simp [*]; done), by repeat (first | exact Drawn0.refl _ | apply Drawn0.step)⟩
     ·replace c13 := Bool.eq_false_iff.mpr c13
      subst c13
      have H1 : ((fixed_signed.f t393 false).bind fun bt397 => (some (bt397.1, bt397.2))) = some (r1, r2) := by rw [if_neg (show ¬ (false = true) by decide)] at H; exact H
      clear H
      have H := H1
      clear H1
      replace H := Option.bind_eq_some_iff.mp H
      obtain ⟨⟨t397, t398⟩, A160, H⟩ := H
      replace H : (some (t397, t398)) = some (r1, r2) := H
      have A16 := Aside0.mk A160
      clear A160
      simp only [Option.some.injEq, Prod.mk.injEq] at H
      obtain ⟨rfl, rfl⟩ := H
      go_wp2_with (first | ((with_reducible refine gate_callee (f := 90) rfl ?_); refine goesL_ (some 52) rfl rfl Try.func90 (by kernel_rfl) rfl #[.int .u64 t393, .bool false] rfl (by (try simp only [List.map_toArray, List.map_cons, List.map_nil]); first | done | rfl | (simp only [List.length_drop, List.length_take]; rfl)) ?_; (with_reducible refine (fixed_signed.calls t393 false t397 t398 _ A16.out).mono ?_); rintro e w' ⟨rfl, ⟨nd, rfl⟩⟩; refine ⟨_, rfl, ?_⟩))
      go_ret2
      exact ⟨by first | rfl | (simp; done) | (simp [*]; done), by repeat (first | exact Drawn0.refl _ | apply Drawn0.step)⟩

end Go.Proofs.Ytlfilhplklifjaa.X

namespace Go.Proofs.Ytlfilhplklifjaa.X
open Go.RowKit Go.Proofs.YtlfilhplklifjaaW.PrintWords Go.Proofs.YtlfilhplklifjaaW.PrintLast Go.Proofs.YtlfilhplklifjaaW.PrintMore
attribute [local go_sem] max2_int min2_int max_two min_two max_three min_three max_four min_four   -- for this text's walks alone
set_option linter.unusedVariables false
set_option linter.unusedSimpArgs false

/-! ### combine_sum_57: function 56 -/
mutual
def combine_sum_57.l0 : Nat → List (S37) → Int → Int → List (S37) → Int → Int → Int → Option (Int)
 | 0, _, _, _, _, _, _, _ => none
 | k + 1, x0, x5, x6, x13, x14, x15, x2000 => if x15 < x14 then (if 0 ≤ x15 then (if x15 < (x13.length : Int) then ((combine_weight.f ((rd_T37 x13 x15).f0) ((rd_T37 x13 x15).f1) ((rd_T37 x13 x15).f2) ((rd_T37 x13 x15).f3) ((rd_T37 x13 x15).f4)).bind fun t402 => (combine_sum_57.l0 k x0 (wrap64 (x5 + t402)) x6 x13 x14 (wrap64 (x15 + 1)) x2000)) else (none)) else (none)) else (combine_sum_57.l1 k x5 x6 x0 (x0.length : Int) 0 x2000)
def combine_sum_57.l1 : Nat → Int → Int → List (S37) → Int → Int → Int → Option (Int)
 | 0, _, _, _, _, _, _ => none
 | k + 1, x5, x6, x24, x25, x26, x2000 => if x26 < x25 then (if 0 ≤ x26 then (if x26 < (x24.length : Int) then ((combine_weight.f ((rd_T37 x24 x26).f0) ((rd_T37 x24 x26).f1) ((rd_T37 x24 x26).f2) ((rd_T37 x24 x26).f3) ((rd_T37 x24 x26).f4)).bind fun t405 => ((combine_Mean_1.f ((rd_T37 x24 x26).f0) ((rd_T37 x24 x26).f1) ((rd_T37 x24 x26).f2) ((rd_T37 x24 x26).f3) ((rd_T37 x24 x26).f4) x2000).bind fun t406 => ((fixed_MulDiv.f k t405 t406 x5).bind fun bt407 => (combine_sum_57.l1 k x5 (wrap64 (x6 + bt407.1)) x24 x25 (wrap64 (x26 + 1)) x2000)))) else (none)) else (none)) else (some x6)
end
def combine_sum_57.f (k : Nat) (l0 : List (S37)) (a1_0 : Int) : Option (Int) := combine_sum_57.l0 k l0 0 0 l0 (l0.length : Int) 0 a1_0
def combine_sum_57.T10 : Bool × List (List Nat × List Nat) := (true, [([], []), ([0], [0]), ([], []), ([], []), ([2, 3, 1], [2, 3]), ([], []), ([1, 4, 5, 4], [1, 4, 5]), ([6], [6]), ([7], [7]), ([7], [7]), ([8, 6, 0, 1, 2, 3, 4, 5, 6, 7, 8], [8]), ([9, 10, 0, 1, 2, 3, 4, 5, 6, 7, 8, 9, 10], [9])])
def combine_sum_57.B10 : List Nat := [0, 1, 0, 0, 15, 0, 63, 127, 255, 255, 511, 2047]
theorem combine_sum_57.tab10 : rtab .any (opsOf Try.f56 10) = combine_sum_57.T10 := by kernel_rfl
theorem combine_sum_57.bits10 : waitsOk combine_sum_57.T10.2 combine_sum_57.B10 = true := by kernel_rfl
set_option maxHeartbeats 8000000 in
set_option maxRecDepth 100000 in
theorem combine_sum_57.calls (k : Nat) (A0 : Option Addr) (c0 : Nat) (l0 : List (S37)) (g1_ : Nat) (a1_0 : Int) (r : Int) (w : World) (hr0 : Kd.C k37 w A0 l0.length l0) (hc0 : l0.length ≤ c0) (hbx1_ : w.heap[g1_]? = some (.cells #[.int .i64 a1_0] 3 (0, 0))) (h : combine_sum_57.f k l0 a1_0 = some r) :
  Calls Try.prog 56 #[.slice A0 l0.length c0, .func (.func 57) #[] #[.pointer (some ⟨g1_, 0, none⟩)]] w fun e w' => e = .returned (.int .i64 r) ∧ Below w.heap.size w w' := by
 have hu37 := Try.underlying37
 have HR0 := Aside0.mk hr0
 have HC0 := Aside0.mk hc0
 clear hr0 hc0
 have BK1 := Aside0.mk hbx1_
 clear hbx1_
 have HB := Aside0.mk (Below.refl w.heap.size w)
 have H : (combine_sum_57.l0 k l0 0 0 l0 (l0.length : Int) 0 a1_0) = some r := h
 clear h
 have H' := Aside0.mk H
 clear H
 go_enter Try.func56, Try.ntmps56
 go_wp2
 go_loopg [5, 15] k (fun kq v5 v15 w' => ∃ (x5_1 : Int) (x15_1 : Int), v5 = .int .i64 x5_1 ∧ v15 = .int .i64 x15_1 ∧ Aside0 (combine_sum_57.l0 kq l0 x5_1 0 l0 (l0.length : Int) x15_1 a1_0 = some r) ∧ Aside0 (kq ≤ k) ∧ Aside0 (w'.heap[g1_]? = some (.cells #[.int .i64 a1_0] 3 (0, 0))) ∧ Aside0 (Below w.heap.size w w'))
 case atStart => exact ⟨(0), (0), (by first | rfl | (simp; done) | (simp [*]; done)), (by first | rfl | (simp; done) | (simp [*]; done)), H', ⟨Nat.le_refl _⟩, ⟨by (with_reducible repeat (first | refine blk_drewN ?_ _ | refine blk_drew ?_ | refine blk_alloc ?_ _)); exact BK1.out⟩, ⟨by repeat (first | (with_reducible first | exact HB.out | apply below_alloc | apply pw_below_drewN | apply below_drew1 | refine below_set ?_ GE1.out) | exact HB.out)⟩⟩
 case round =>
  clear H'
  try clear p2
  obtain ⟨x5_1, x15_1, rfl, rfl, HA, HK1, BK1, HB⟩ := hrel
  cases gk with
  | zero => exact absurd HA.out (by simp [combine_sum_57.l0])
  | succ k1 =>
   have H := HA.out
   clear HA
   simp only [combine_sum_57.l0] at H
   by_cases c3 : x15_1 < (l0.length : Int)
   ·rw [if_pos c3] at H
    have c3b0 : decide (x15_1 < (l0.length : Int)) = true := decide_eq_true c3
    clear c3
    by_cases c4 : 0 ≤ x15_1
    ·rw [if_pos c4] at H
     have c4b0 : decide (0 ≤ x15_1) = true := decide_eq_true c4
     clear c4
     by_cases c5 : x15_1 < (l0.length : Int)
     ·rw [if_pos c5] at H
      have c5b0 : decide (x15_1 < (l0.length : Int)) = true := decide_eq_true c5
      clear c5
      replace H := Option.bind_eq_some_iff.mp H
      obtain ⟨t402, A60, H⟩ := H
      replace H : (combine_sum_57.l0 k1 l0 (wrap64 (x5_1 + t402)) 0 l0 (l0.length : Int) (wrap64 (x15_1 + 1)) a1_0) = some r := H
      have A6 := Aside0.mk A60
      clear A60
      have H' := Aside0.mk H
      clear H
      have p400 : 0 ≤ (x15_1 : Int) := of_decide_eq_true (by first | (with_reducible assumption) | assumption)
      have q400 : x15_1 < (l0.length : Int) := of_decide_eq_true (by first | (with_reducible assumption) | assumption)
      obtain ⟨ad400, e400, hx400_0, hx400_1, hx400_2, hx400_3, hx400_4⟩ := at_T37 HR0.out x15_1 p400 q400
      cases e400
      try replace hx400_0 := (HB.out.cell (World.block_lt_of_cell? w _ hx400_0)).trans hx400_0
      try replace hx400_1 := (HB.out.cell (World.block_lt_of_cell? w _ hx400_1)).trans hx400_1
      try replace hx400_2 := (HB.out.cell (World.block_lt_of_cell? w _ hx400_2)).trans hx400_2
      try replace hx400_3 := (HB.out.cell (World.block_lt_of_cell? w _ hx400_3)).trans hx400_3
      try replace hx400_4 := (HB.out.cell (World.block_lt_of_cell? w _ hx400_4)).trans hx400_4
      replace p400 := eq_true p400
      replace q400 := eq_true q400
      go_wp2_with (first | ((with_reducible refine gate_dst (N := 8) rfl ?_); refine box_event ?hg (N := 8) ?hd (cs := #[.int .i64 0, .int .i64 0, .int .i64 0, .int .i64 0, .int .i64 0]) (t := 37) ?hr ?_; (case hd => rfl); (case hg => rfl); (case hr => first | (go_simp; done) | (go_simp; rfl)); intro gb401 hg w7 hbox hb; have n0_ := Aside0.mk (blk_below (g := g1_) (o := .cells #[.int .i64 a1_0] 3 (0, 0)) (by (with_reducible repeat (first | refine blk_drewN ?_ _ | refine blk_drew ?_ | refine blk_alloc ?_ _)); exact BK1.out) hb); have n1_ := Aside0.mk (below_step (by repeat (first | (with_reducible first | exact HB.out | apply below_alloc | apply pw_below_drewN | apply below_drew1 | refine below_set ?_ GE1.out) | exact HB.out)) hb); have n2_ := Aside0.mk (hbox); have n3_ := Aside0.mk ((by rw [hg]; exact (below_size (by repeat (first | (with_reducible first | exact HB.out | apply below_alloc | apply pw_below_drewN | apply below_drew1 | refine below_set ?_ GE1.out) | exact HB.out))) : w.heap.size ≤ gb401)); have n4_ := Aside0.mk ((by rw [hg]; exact (below_size (by repeat (first | (with_reducible first | exact HB.out | apply below_alloc | apply pw_below_drewN | apply below_drew1 | refine below_set ?_ GE1.out) | exact HB.out))) : w.heap.size ≤ gb401)); have n5_ := Aside0.mk ((by rw [hg]; exact Nat.ne_of_lt (blk_lt (g := g1_) (o := .cells #[.int .i64 a1_0] 3 (0, 0)) (by (with_reducible repeat (first | refine blk_drewN ?_ _ | refine blk_drew ?_ | refine blk_alloc ?_ _)); exact BK1.out)) : g1_ ≠ gb401)); have n6_ := Aside0.mk ((by rw [hg]; exact Nat.ne_of_gt (blk_lt (g := g1_) (o := .cells #[.int .i64 a1_0] 3 (0, 0)) (by (with_reducible repeat (first | refine blk_drewN ?_ _ | refine blk_drew ?_ | refine blk_alloc ?_ _)); exact BK1.out)) : gb401 ≠ g1_)); clear BK1; clear HB; have BK1 := n0_; have HB := n1_; have BK401 := n2_; have GW401 := n3_; have GE401 := n4_; have NB1_401 := n5_; have NB401_1 := n6_; clear n0_ n1_ n2_ n3_ n4_ n5_ n6_; clear hb hbox hg; have hnb8 := NB401_1.out; have hnc8 := NB1_401.out; have hcz9_0 : w7.cell? ⟨gb401, 0, none⟩ = some (.int .i64 0) := (blk_cell BK401.out 0).trans rfl; have hcz9_1 : w7.cell? ⟨gb401, 1, none⟩ = some (.int .i64 0) := (blk_cell BK401.out 1).trans rfl; have hcz9_2 : w7.cell? ⟨gb401, 2, none⟩ = some (.int .i64 0) := (blk_cell BK401.out 2).trans rfl; have hcz9_3 : w7.cell? ⟨gb401, 3, none⟩ = some (.int .i64 0) := (blk_cell BK401.out 3).trans rfl; have hcz9_4 : w7.cell? ⟨gb401, 4, none⟩ = some (.int .i64 0) := (blk_cell BK401.out 4).trans rfl; have hfz9_0 := blk_frozen BK401.out 0; have hfz9_1 := blk_frozen BK401.out 1; have hfz9_2 := blk_frozen BK401.out 2; have hfz9_3 := blk_frozen BK401.out 3; have hfz9_4 := blk_frozen BK401.out 4) | ((with_reducible refine gate_callee (f := 79) rfl ?_); refine goesL_ (some 21) rfl rfl Try.func79 (by kernel_rfl) rfl #[.agg #[.int .i64 ((rd_T37 l0 x15_1).f0), .int .i64 ((rd_T37 l0 x15_1).f1), .int .i64 ((rd_T37 l0 x15_1).f2), .int .i64 ((rd_T37 l0 x15_1).f3), .int .i64 ((rd_T37 l0 x15_1).f4)]] rfl (by (try simp only [List.map_toArray, List.map_cons, List.map_nil]); first | done | rfl | (simp only [List.length_drop, List.length_take]; rfl)) ?_; (with_reducible refine (combine_weight.calls ((rd_T37 l0 x15_1).f0) ((rd_T37 l0 x15_1).f1) ((rd_T37 l0 x15_1).f2) ((rd_T37 l0 x15_1).f3) ((rd_T37 l0 x15_1).f4) t402 _ A6.out).mono ?_); rintro e w10 ⟨rfl, hb⟩; refine ⟨_, rfl, ?_⟩; have n0_ := Aside0.mk (blk_below (g := g1_) (o := .cells #[.int .i64 a1_0] 3 (0, 0)) (by (with_reducible repeat (first | refine blk_drewN ?_ _ | refine blk_drew ?_ | refine blk_alloc ?_ _)); refine blk_far ?_ NB1_401.out _; (with_reducible repeat (first | refine blk_drewN ?_ _ | refine blk_drew ?_ | refine blk_alloc ?_ _)); refine blk_far ?_ NB1_401.out _; (with_reducible repeat (first | refine blk_drewN ?_ _ | refine blk_drew ?_ | refine blk_alloc ?_ _)); refine blk_far ?_ NB1_401.out _; (with_reducible repeat (first | refine blk_drewN ?_ _ | refine blk_drew ?_ | refine blk_alloc ?_ _)); refine blk_far ?_ NB1_401.out _; (with_reducible repeat (first | refine blk_drewN ?_ _ | refine blk_drew ?_ | refine blk_alloc ?_ _)); refine blk_far ?_ NB1_401.out _; (with_reducible repeat (first | refine blk_drewN ?_ _ | refine blk_drew ?_ | refine blk_alloc ?_ _)); exact BK1.out) hb); have n1_ := Aside0.mk (blk_below (g := gb401) (o := .cells #[.int .i64 ((rd_T37 l0 x15_1).f0), .int .i64 ((rd_T37 l0 x15_1).f1), .int .i64 ((rd_T37 l0 x15_1).f2), .int .i64 ((rd_T37 l0 x15_1).f3), .int .i64 ((rd_T37 l0 x15_1).f4)] 37 (0, 0)) (by (with_reducible repeat (first | refine blk_drewN ?_ _ | refine blk_drew ?_ | refine blk_alloc ?_ _)); refine blk_put (cs := #[.int .i64 ((rd_T37 l0 x15_1).f0), .int .i64 ((rd_T37 l0 x15_1).f1), .int .i64 ((rd_T37 l0 x15_1).f2), .int .i64 ((rd_T37 l0 x15_1).f3), .int .i64 0]) ?_ 4 _ rfl; (with_reducible repeat (first | refine blk_drewN ?_ _ | refine blk_drew ?_ | refine blk_alloc ?_ _)); refine blk_put (cs := #[.int .i64 ((rd_T37 l0 x15_1).f0), .int .i64 ((rd_T37 l0 x15_1).f1), .int .i64 ((rd_T37 l0 x15_1).f2), .int .i64 0, .int .i64 0]) ?_ 3 _ rfl; (with_reducible repeat (first | refine blk_drewN ?_ _ | refine blk_drew ?_ | refine blk_alloc ?_ _)); refine blk_put (cs := #[.int .i64 ((rd_T37 l0 x15_1).f0), .int .i64 ((rd_T37 l0 x15_1).f1), .int .i64 0, .int .i64 0, .int .i64 0]) ?_ 2 _ rfl; (with_reducible repeat (first | refine blk_drewN ?_ _ | refine blk_drew ?_ | refine blk_alloc ?_ _)); refine blk_put (cs := #[.int .i64 ((rd_T37 l0 x15_1).f0), .int .i64 0, .int .i64 0, .int .i64 0, .int .i64 0]) ?_ 1 _ rfl; (with_reducible repeat (first | refine blk_drewN ?_ _ | refine blk_drew ?_ | refine blk_alloc ?_ _)); refine blk_put (cs := #[.int .i64 0, .int .i64 0, .int .i64 0, .int .i64 0, .int .i64 0]) ?_ 0 _ rfl; (with_reducible repeat (first | refine blk_drewN ?_ _ | refine blk_drew ?_ | refine blk_alloc ?_ _)); exact BK401.out) hb); have n2_ := Aside0.mk (below_step (by repeat (first | (with_reducible first | exact HB.out | apply below_alloc | apply pw_below_drewN | apply below_drew1 | refine below_set ?_ GE1.out | refine below_set ?_ GE401.out) | exact HB.out)) hb); clear BK1; clear BK401; clear HB; have BK1 := n0_; have BK401 := n1_; have HB := n2_; clear n0_ n1_ n2_; (try clear hb); (try clear hb2); (try clear hk); (try clear hi)))
      go_roundg k1
      case measure => have := HK1.out; omega
      case rel => exact ⟨(wrap64 (x5_1 + t402)), (wrap64 (x15_1 + 1)), (by first | rfl | (simp; done) | (simp [*]; done)), (by first | rfl | (simp; done) | (simp [*]; done)), H', ⟨by have := HK1.out; omega⟩, ⟨by (with_reducible repeat (first | refine blk_drewN ?_ _ | refine blk_drew ?_ | refine blk_alloc ?_ _)); exact BK1.out⟩, ⟨by repeat (first | (with_reducible first | exact HB.out | apply below_alloc | apply pw_below_drewN | apply below_drew1 | refine below_set ?_ GE1.out | refine below_set ?_ GE401.out) | exact HB.out)⟩⟩
     ·rw [if_neg c5] at H
      exact absurd H (by simp)
    ·rw [if_neg c4] at H
     exact absurd H (by simp)
   ·rw [if_neg c3] at H
    have c3b0 : decide (x15_1 < (l0.length : Int)) = false := decide_eq_false c3
    clear c3
    have H' := Aside0.mk H
    clear H
    go_wp2
    go_loopg [6, 26] k1 (fun kq v6 v26 w' => ∃ (x6_2 : Int) (x26_2 : Int), v6 = .int .i64 x6_2 ∧ v26 = .int .i64 x26_2 ∧ Aside0 (combine_sum_57.l1 kq x5_1 x6_2 l0 (l0.length : Int) x26_2 a1_0 = some r) ∧ Aside0 (kq ≤ k1) ∧ Aside0 (w'.heap[g1_]? = some (.cells #[.int .i64 a1_0] 3 (0, 0))) ∧ Aside0 (Below w.heap.size w w'))
    case atStart => exact ⟨(0), (0), (by first | rfl | (simp; done) | (simp [*]; done)), (by first | rfl | (simp; done) | (simp [*]; done)), H', ⟨Nat.le_refl _⟩, ⟨by (with_reducible repeat (first | refine blk_drewN ?_ _ | refine blk_drew ?_ | refine blk_alloc ?_ _)); exact BK1.out⟩, ⟨by repeat (first | (with_reducible first | exact HB.out | apply below_alloc | apply pw_below_drewN | apply below_drew1 | refine below_set ?_ GE1.out) | exact HB.out)⟩⟩
    case round =>
     clear H'
     try clear p2
     try clear c3
     try clear c3b0
     try clear c4
     try clear c4b0
     try clear p4
     try clear q4
     try clear hx4
     try clear c5
     try clear c5b0
     try clear p6
     try clear c7
     try clear c8
     try clear c9
     try clear hcz9_0
     try clear hcz9_1
     try clear hcz9_2
     try clear hcz9_3
     try clear hcz9_4
     try clear hfz9_0
     try clear hfz9_1
     try clear hfz9_2
     try clear hfz9_3
     try clear hfz9_4
     try clear hx400_0
     try clear hx400_1
     try clear hx400_2
     try clear hx400_3
     try clear hx400_4
     try clear p2
     try clear p400
     try clear q400
     obtain ⟨x6_2, x26_2, rfl, rfl, HA, HK2, BK1, HB⟩ := hrel
     cases gk with
     | zero => exact absurd HA.out (by simp [combine_sum_57.l1])
     | succ k2 =>
      have H := HA.out
      clear HA
      simp only [combine_sum_57.l1] at H
      by_cases c11 : x26_2 < (l0.length : Int)
      ·rw [if_pos c11] at H
       have c11b0 : decide (x26_2 < (l0.length : Int)) = true := decide_eq_true c11
       clear c11
       by_cases c12 : 0 ≤ x26_2
       ·rw [if_pos c12] at H
        have c12b0 : decide (0 ≤ x26_2) = true := decide_eq_true c12
        clear c12
        by_cases c13 : x26_2 < (l0.length : Int)
        ·rw [if_pos c13] at H
         have c13b0 : decide (x26_2 < (l0.length : Int)) = true := decide_eq_true c13
         clear c13
         replace H := Option.bind_eq_some_iff.mp H
         obtain ⟨t405, A140, H⟩ := H
         replace H : ((combine_Mean_1.f ((rd_T37 l0 x26_2).f0) ((rd_T37 l0 x26_2).f1) ((rd_T37 l0 x26_2).f2) ((rd_T37 l0 x26_2).f3) ((rd_T37 l0 x26_2).f4) a1_0).bind fun t406 => ((fixed_MulDiv.f k2 t405 t406 x5_1).bind fun bt407 => (combine_sum_57.l1 k2 x5_1 (wrap64 (x6_2 + bt407.1)) l0 (l0.length : Int) (wrap64 (x26_2 + 1)) a1_0))) = some r := H
         have A14 := Aside0.mk A140
         clear A140
         replace H := Option.bind_eq_some_iff.mp H
         obtain ⟨t406, A150, H⟩ := H
         replace H : ((fixed_MulDiv.f k2 t405 t406 x5_1).bind fun bt407 => (combine_sum_57.l1 k2 x5_1 (wrap64 (x6_2 + bt407.1)) l0 (l0.length : Int) (wrap64 (x26_2 + 1)) a1_0)) = some r := H
         have A15 := Aside0.mk A150
         clear A150
         replace H := Option.bind_eq_some_iff.mp H
         obtain ⟨⟨t407, t408⟩, A160, H⟩ := H
         replace H : (combine_sum_57.l1 k2 x5_1 (wrap64 (x6_2 + t407)) l0 (l0.length : Int) (wrap64 (x26_2 + 1)) a1_0) = some r := H
         have A16 := Aside0.mk A160
         clear A160
         have H' := Aside0.mk H
         clear H
         have p403 : 0 ≤ (x26_2 : Int) := of_decide_eq_true (by first | (with_reducible assumption) | assumption)
         have q403 : x26_2 < (l0.length : Int) := of_decide_eq_true (by first | (with_reducible assumption) | assumption)
         obtain ⟨ad403, e403, hx403_0, hx403_1, hx403_2, hx403_3, hx403_4⟩ := at_T37 HR0.out x26_2 p403 q403
         cases e403
         try replace hx403_0 := (HB.out.cell (World.block_lt_of_cell? w _ hx403_0)).trans hx403_0
         try replace hx403_1 := (HB.out.cell (World.block_lt_of_cell? w _ hx403_1)).trans hx403_1
         try replace hx403_2 := (HB.out.cell (World.block_lt_of_cell? w _ hx403_2)).trans hx403_2
         try replace hx403_3 := (HB.out.cell (World.block_lt_of_cell? w _ hx403_3)).trans hx403_3
         try replace hx403_4 := (HB.out.cell (World.block_lt_of_cell? w _ hx403_4)).trans hx403_4
         replace p403 := eq_true p403
         replace q403 := eq_true q403
         try go_wp2_with (first | ((with_reducible refine gate_dst (N := 10) rfl ?_); refine box_event ?hg (N := 10) ?hd (cs := #[.int .i64 0, .int .i64 0, .int .i64 0, .int .i64 0, .int .i64 0]) (t := 37) ?hr ?_; (case hd => rfl); (case hg => rfl); (case hr => first | (go_simp; done) | (go_simp; rfl)); intro gb404 hg w17 hbox hb; have n0_ := Aside0.mk (blk_below (g := g1_) (o := .cells #[.int .i64 a1_0] 3 (0, 0)) (by (with_reducible repeat (first | refine blk_drewN ?_ _ | refine blk_drew ?_ | refine blk_alloc ?_ _)); exact BK1.out) hb); have n1_ := Aside0.mk (below_step (by repeat (first | (with_reducible first | exact HB.out | apply below_alloc | apply pw_below_drewN | apply below_drew1 | refine below_set ?_ GE1.out) | exact HB.out)) hb); have n2_ := Aside0.mk (hbox); have n3_ := Aside0.mk ((by rw [hg]; exact (below_size (by repeat (first | (with_reducible first | exact HB.out | apply below_alloc | apply pw_below_drewN | apply below_drew1 | refine below_set ?_ GE1.out) | exact HB.out))) : w.heap.size ≤ gb404)); have n4_ := Aside0.mk ((by rw [hg]; exact (below_size (by repeat (first | (with_reducible first | exact HB.out | apply below_alloc | apply pw_below_drewN | apply below_drew1 | refine below_set ?_ GE1.out) | exact HB.out))) : w.heap.size ≤ gb404)); have n5_ := Aside0.mk ((by rw [hg]; exact Nat.ne_of_lt (blk_lt (g := g1_) (o := .cells #[.int .i64 a1_0] 3 (0, 0)) (by (with_reducible repeat (first | refine blk_drewN ?_ _ | refine blk_drew ?_ | refine blk_alloc ?_ _)); exact BK1.out)) : g1_ ≠ gb404)); have n6_ := Aside0.mk ((by rw [hg]; exact Nat.ne_of_gt (blk_lt (g := g1_) (o := .cells #[.int .i64 a1_0] 3 (0, 0)) (by (with_reducible repeat (first | refine blk_drewN ?_ _ | refine blk_drew ?_ | refine blk_alloc ?_ _)); exact BK1.out)) : gb404 ≠ g1_)); clear BK1; clear HB; have BK1 := n0_; have HB := n1_; have BK404 := n2_; have GW404 := n3_; have GE404 := n4_; have NB1_404 := n5_; have NB404_1 := n6_; clear n0_ n1_ n2_ n3_ n4_ n5_ n6_; clear hb hbox hg; have hnb18 := NB404_1.out; have hnc18 := NB1_404.out; have hcz19_0 : w17.cell? ⟨gb404, 0, none⟩ = some (.int .i64 0) := (blk_cell BK404.out 0).trans rfl; have hcz19_1 : w17.cell? ⟨gb404, 1, none⟩ = some (.int .i64 0) := (blk_cell BK404.out 1).trans rfl; have hcz19_2 : w17.cell? ⟨gb404, 2, none⟩ = some (.int .i64 0) := (blk_cell BK404.out 2).trans rfl; have hcz19_3 : w17.cell? ⟨gb404, 3, none⟩ = some (.int .i64 0) := (blk_cell BK404.out 3).trans rfl; have hcz19_4 : w17.cell? ⟨gb404, 4, none⟩ = some (.int .i64 0) := (blk_cell BK404.out 4).trans rfl; have hfz19_0 := blk_frozen BK404.out 0; have hfz19_1 := blk_frozen BK404.out 1; have hfz19_2 := blk_frozen BK404.out 2; have hfz19_3 := blk_frozen BK404.out 3; have hfz19_4 := blk_frozen BK404.out 4))
         have n0_ : Aside0 ((((((w17.setCell ⟨gb404, 0, none⟩ (.int .i64 ((rd_T37 l0 x26_2).f0))).setCell ⟨gb404, 1, none⟩ (.int .i64 ((rd_T37 l0 x26_2).f1))).setCell ⟨gb404, 2, none⟩ (.int .i64 ((rd_T37 l0 x26_2).f2))).setCell ⟨gb404, 3, none⟩ (.int .i64 ((rd_T37 l0 x26_2).f3))).setCell ⟨gb404, 4, none⟩ (.int .i64 ((rd_T37 l0 x26_2).f4))).heap[g1_]? = some (.cells #[.int .i64 a1_0] 3 (0, 0))) := ⟨by (with_reducible repeat (first | refine blk_drewN ?_ _ | refine blk_drew ?_ | refine blk_alloc ?_ _)); refine blk_far ?_ NB1_404.out _; (with_reducible repeat (first | refine blk_drewN ?_ _ | refine blk_drew ?_ | refine blk_alloc ?_ _)); refine blk_far ?_ NB1_404.out _; (with_reducible repeat (first | refine blk_drewN ?_ _ | refine blk_drew ?_ | refine blk_alloc ?_ _)); refine blk_far ?_ NB1_404.out _; (with_reducible repeat (first | refine blk_drewN ?_ _ | refine blk_drew ?_ | refine blk_alloc ?_ _)); refine blk_far ?_ NB1_404.out _; (with_reducible repeat (first | refine blk_drewN ?_ _ | refine blk_drew ?_ | refine blk_alloc ?_ _)); refine blk_far ?_ NB1_404.out _; (with_reducible repeat (first | refine blk_drewN ?_ _ | refine blk_drew ?_ | refine blk_alloc ?_ _)); exact BK1.out⟩
         have n1_ : Aside0 ((((((w17.setCell ⟨gb404, 0, none⟩ (.int .i64 ((rd_T37 l0 x26_2).f0))).setCell ⟨gb404, 1, none⟩ (.int .i64 ((rd_T37 l0 x26_2).f1))).setCell ⟨gb404, 2, none⟩ (.int .i64 ((rd_T37 l0 x26_2).f2))).setCell ⟨gb404, 3, none⟩ (.int .i64 ((rd_T37 l0 x26_2).f3))).setCell ⟨gb404, 4, none⟩ (.int .i64 ((rd_T37 l0 x26_2).f4))).heap[gb404]? = some (.cells #[.int .i64 ((rd_T37 l0 x26_2).f0), .int .i64 ((rd_T37 l0 x26_2).f1), .int .i64 ((rd_T37 l0 x26_2).f2), .int .i64 ((rd_T37 l0 x26_2).f3), .int .i64 ((rd_T37 l0 x26_2).f4)] 37 (0, 0))) := ⟨by (with_reducible repeat (first | refine blk_drewN ?_ _ | refine blk_drew ?_ | refine blk_alloc ?_ _)); refine blk_put (cs := #[.int .i64 ((rd_T37 l0 x26_2).f0), .int .i64 ((rd_T37 l0 x26_2).f1), .int .i64 ((rd_T37 l0 x26_2).f2), .int .i64 ((rd_T37 l0 x26_2).f3), .int .i64 0]) ?_ 4 _ rfl; (with_reducible repeat (first | refine blk_drewN ?_ _ | refine blk_drew ?_ | refine blk_alloc ?_ _)); refine blk_put (cs := #[.int .i64 ((rd_T37 l0 x26_2).f0), .int .i64 ((rd_T37 l0 x26_2).f1), .int .i64 ((rd_T37 l0 x26_2).f2), .int .i64 0, .int .i64 0]) ?_ 3 _ rfl; (with_reducible repeat (first | refine blk_drewN ?_ _ | refine blk_drew ?_ | refine blk_alloc ?_ _)); refine blk_put (cs := #[.int .i64 ((rd_T37 l0 x26_2).f0), .int .i64 ((rd_T37 l0 x26_2).f1), .int .i64 0, .int .i64 0, .int .i64 0]) ?_ 2 _ rfl; (with_reducible repeat (first | refine blk_drewN ?_ _ | refine blk_drew ?_ | refine blk_alloc ?_ _)); refine blk_put (cs := #[.int .i64 ((rd_T37 l0 x26_2).f0), .int .i64 0, .int .i64 0, .int .i64 0, .int .i64 0]) ?_ 1 _ rfl; (with_reducible repeat (first | refine blk_drewN ?_ _ | refine blk_drew ?_ | refine blk_alloc ?_ _)); refine blk_put (cs := #[.int .i64 0, .int .i64 0, .int .i64 0, .int .i64 0, .int .i64 0]) ?_ 0 _ rfl; (with_reducible repeat (first | refine blk_drewN ?_ _ | refine blk_drew ?_ | refine blk_alloc ?_ _)); exact BK404.out⟩
         have n2_ : Aside0 (Below w.heap.size w (((((w17.setCell ⟨gb404, 0, none⟩ (.int .i64 ((rd_T37 l0 x26_2).f0))).setCell ⟨gb404, 1, none⟩ (.int .i64 ((rd_T37 l0 x26_2).f1))).setCell ⟨gb404, 2, none⟩ (.int .i64 ((rd_T37 l0 x26_2).f2))).setCell ⟨gb404, 3, none⟩ (.int .i64 ((rd_T37 l0 x26_2).f3))).setCell ⟨gb404, 4, none⟩ (.int .i64 ((rd_T37 l0 x26_2).f4)))) := ⟨by repeat (first | (with_reducible first | exact HB.out | apply below_alloc | apply pw_below_drewN | apply below_drew1 | refine below_set ?_ GE1.out | refine below_set ?_ GE404.out) | exact HB.out)⟩
         (try clear BK1)
         (try clear BK404)
         (try clear HB)
         generalize (((((w17.setCell ⟨gb404, 0, none⟩ (.int .i64 ((rd_T37 l0 x26_2).f0))).setCell ⟨gb404, 1, none⟩ (.int .i64 ((rd_T37 l0 x26_2).f1))).setCell ⟨gb404, 2, none⟩ (.int .i64 ((rd_T37 l0 x26_2).f2))).setCell ⟨gb404, 3, none⟩ (.int .i64 ((rd_T37 l0 x26_2).f3))).setCell ⟨gb404, 4, none⟩ (.int .i64 ((rd_T37 l0 x26_2).f4))) = w20 at n0_ n1_ n2_ ⊢
         have BK1 := n0_
         have BK404 := n1_
         have HB := n2_
         clear n0_ n1_ n2_
         have n0_ := Aside0.mk (blk_drew BK1.out)
         have n1_ := Aside0.mk (blk_drew BK404.out)
         have n2_ := Aside0.mk (below_drew1 HB.out)
         clear BK1
         clear BK404
         clear HB
         have BK1 := n0_
         have BK404 := n1_
         have HB := n2_
         clear n0_ n1_ n2_
         refine start_ (n := 12) (S := fun w' => w'.cell? ⟨gb404, 0, none⟩ = some (.int .i64 ((rd_T37 l0 x26_2).f0)) ∧ w'.cell? ⟨gb404, 1, none⟩ = some (.int .i64 ((rd_T37 l0 x26_2).f1)) ∧ w'.cell? ⟨gb404, 2, none⟩ = some (.int .i64 ((rd_T37 l0 x26_2).f2)) ∧ w'.cell? ⟨gb404, 3, none⟩ = some (.int .i64 ((rd_T37 l0 x26_2).f3)) ∧ w'.cell? ⟨gb404, 4, none⟩ = some (.int .i64 ((rd_T37 l0 x26_2).f4))) (ds := []) #[false, false, false, false, false, false, false, false, false, false, false, false] (by kernel_rfl) rfl rfl ⟨(blk_cell BK404.out 0).trans rfl, (blk_cell BK404.out 1).trans rfl, (blk_cell BK404.out 2).trans rfl, (blk_cell BK404.out 3).trans rfl, (blk_cell BK404.out 4).trans rfl⟩ (fun hHeld => ?_); refine with_tabW combine_sum_57.tab10 combine_sum_57.bits10 (fun HT_ HW_ => ?_)
         generalize w20.drew = w21 at BK1 BK404 HB hHeld ⊢
         refine pure_ (i := 2) (N := some 33) (v := ?_) (a' := ?_) #[false, false, true, false, false, false, false, false, false, false, false, false] rfl rfl (any_of HT_.out (by kernel_rfl)) (fun _ _ _ h => h) (Or.inl ⟨by rfl, ?_⟩) ?_ ?_
         rotate_left
         ·intro w'
          go_simp
          with_reducible rfl
         rotate_left
         ·simp only [Act.put, List.setIfInBounds_toArray, List.set_cons_zero, List.set_cons_succ, i64_w, i32_w]
          rfl
         refine pure_ (i := 5) (N := some 36) (v := ?_) (a' := ?_) #[false, false, true, false, false, true, false, false, false, false, false, false] rfl rfl (any_of HT_.out (by kernel_rfl)) (fun _ _ _ h => h) (Or.inl ⟨by rfl, ?_⟩) ?_ ?_
         rotate_left
         ·intro w'
          go_simp
          with_reducible rfl
         rotate_left
         ·simp only [Act.put, List.setIfInBounds_toArray, List.set_cons_zero, List.set_cons_succ, i64_w, i32_w]
          rfl
         refine take_ (i := 0) (N := some 31) (v := ?_) (a' := ?_) #[true, false, true, false, false, true, false, false, false, false, false, false] rfl rfl (take_ofW HT_.out HW_.out (by kernel_rfl)) (fun _ _ _ h => h) (Or.inl ⟨by rfl, ?_⟩) hHeld ?_ ?_
         rotate_left
         ·rintro w' ⟨s0, s1, s2, s3, s4⟩
          go_simp
          with_reducible rfl
         rotate_left
         ·simp only [Act.put, List.setIfInBounds_toArray, List.set_cons_zero, List.set_cons_succ, i64_w, i32_w]
          rfl
         refine take_ (i := 3) (N := some 34) (v := ?_) (a' := ?_) #[true, false, true, true, false, true, false, false, false, false, false, false] rfl rfl (take_ofW HT_.out HW_.out (by kernel_rfl)) (fun _ _ _ h => h) (Or.inl ⟨by rfl, ?_⟩) hHeld ?_ ?_
         rotate_left
         ·rintro w' ⟨s0, s1, s2, s3, s4⟩
          go_simp
          with_reducible rfl
         rotate_left
         ·simp only [Act.put, List.setIfInBounds_toArray, List.set_cons_zero, List.set_cons_succ, i64_w, i32_w]
          rfl
         refine one_ (i := 1) (N := some 32) #[true, true, true, true, false, true, false, false, false, false, false, false] rfl rfl (one_of HT_.out (by kernel_rfl)) (by decide) (fun K hK => ?_)
         refine goes_ Try.func79 (by kernel_rfl) rfl #[.agg #[.int .i64 ((rd_T37 l0 x26_2).f0), .int .i64 ((rd_T37 l0 x26_2).f1), .int .i64 ((rd_T37 l0 x26_2).f2), .int .i64 ((rd_T37 l0 x26_2).f3), .int .i64 ((rd_T37 l0 x26_2).f4)]] (by rfl) rfl rfl (by (try simp only [List.map_toArray, List.map_cons, List.map_nil]); first | done | rfl | (simp only [List.length_drop, List.length_take]; rfl)) ?_
         with_reducible refine (combine_weight.calls ((rd_T37 l0 x26_2).f0) ((rd_T37 l0 x26_2).f1) ((rd_T37 l0 x26_2).f2) ((rd_T37 l0 x26_2).f3) ((rd_T37 l0 x26_2).f4) t405 _ A14.out).mono ?_
         rintro e w22 ⟨rfl, hb⟩
         refine ⟨_, rfl, ?_⟩
         have n0_ := Aside0.mk (blk_below (g := g1_) (o := .cells #[.int .i64 a1_0] 3 (0, 0)) (by (with_reducible repeat (first | refine blk_drewN ?_ _ | refine blk_drew ?_ | refine blk_alloc ?_ _)); exact BK1.out) hb)
         have n1_ := Aside0.mk (blk_below (g := gb404) (o := .cells #[.int .i64 ((rd_T37 l0 x26_2).f0), .int .i64 ((rd_T37 l0 x26_2).f1), .int .i64 ((rd_T37 l0 x26_2).f2), .int .i64 ((rd_T37 l0 x26_2).f3), .int .i64 ((rd_T37 l0 x26_2).f4)] 37 (0, 0)) (by (with_reducible repeat (first | refine blk_drewN ?_ _ | refine blk_drew ?_ | refine blk_alloc ?_ _)); exact BK404.out) hb)
         have n2_ := Aside0.mk (below_step (by repeat (first | (with_reducible first | exact HB.out | apply below_alloc | apply pw_below_drewN | apply below_drew1 | refine below_set ?_ GE1.out | refine below_set ?_ GE404.out) | exact HB.out)) hb)
         clear BK1
         clear BK404
         clear HB
         have BK1 := n0_
         have BK404 := n1_
         have HB := n2_
         clear n0_ n1_ n2_
         (try clear hb)
         (try clear hb2)
         (try clear hk)
         (try clear hi)
         refine hK.out _ _ ⟨(blk_cell BK404.out 0).trans rfl, (blk_cell BK404.out 1).trans rfl, (blk_cell BK404.out 2).trans rfl, (blk_cell BK404.out 3).trans rfl, (blk_cell BK404.out 4).trans rfl⟩ (fun hHeld => ?_)
         clear hK K
         refine norm_ (a' := ?_) ?_ ?_
         rotate_left
         ·show Act.put _ (some 32) _ = _
          simp only [Act.put, List.setIfInBounds_toArray, List.set_cons_zero, List.set_cons_succ, i64_w, i32_w]
          rfl
         refine one_ (i := 4) (N := some 35) #[true, true, true, true, true, true, false, false, false, false, false, false] rfl rfl (one_of HT_.out (by kernel_rfl)) (by decide) (fun K hK => ?_)
         refine Go.Proofs.Ytlfilhplklifjaa.HG.goesC_ #[.pointer (some ⟨g1_, 0, none⟩)] Try.func57 (by kernel_rfl) rfl #[.agg #[.int .i64 ((rd_T37 l0 x26_2).f0), .int .i64 ((rd_T37 l0 x26_2).f1), .int .i64 ((rd_T37 l0 x26_2).f2), .int .i64 ((rd_T37 l0 x26_2).f3), .int .i64 ((rd_T37 l0 x26_2).f4)], .pointer (some ⟨g1_, 0, none⟩)] (by rfl) rfl rfl rfl (by first | rfl | (simp only [List.map_toArray, List.map_cons, List.map_nil]; rfl)) ?_
         with_reducible refine (combine_Mean_1.calls ((rd_T37 l0 x26_2).f0) ((rd_T37 l0 x26_2).f1) ((rd_T37 l0 x26_2).f2) ((rd_T37 l0 x26_2).f3) ((rd_T37 l0 x26_2).f4) g1_ a1_0 t406 _ ?side1 A15.out).mono ?_
         (case side1 => exact (by (with_reducible repeat (first | refine blk_drewN ?_ _ | refine blk_drew ?_ | refine blk_alloc ?_ _)); exact BK1.out))
         rintro e w23 ⟨rfl, hb⟩
         refine ⟨_, rfl, ?_⟩
         have n0_ := Aside0.mk (blk_below (g := g1_) (o := .cells #[.int .i64 a1_0] 3 (0, 0)) (by (with_reducible repeat (first | refine blk_drewN ?_ _ | refine blk_drew ?_ | refine blk_alloc ?_ _)); exact BK1.out) hb)
         have n1_ := Aside0.mk (blk_below (g := gb404) (o := .cells #[.int .i64 ((rd_T37 l0 x26_2).f0), .int .i64 ((rd_T37 l0 x26_2).f1), .int .i64 ((rd_T37 l0 x26_2).f2), .int .i64 ((rd_T37 l0 x26_2).f3), .int .i64 ((rd_T37 l0 x26_2).f4)] 37 (0, 0)) (by (with_reducible repeat (first | refine blk_drewN ?_ _ | refine blk_drew ?_ | refine blk_alloc ?_ _)); exact BK404.out) hb)
         have n2_ := Aside0.mk (below_step (by repeat (first | (with_reducible first | exact HB.out | apply below_alloc | apply pw_below_drewN | apply below_drew1 | refine below_set ?_ GE1.out | refine below_set ?_ GE404.out) | exact HB.out)) hb)
         clear BK1
         clear BK404
         clear HB
         have BK1 := n0_
         have BK404 := n1_
         have HB := n2_
         clear n0_ n1_ n2_
         (try clear hb)
         (try clear hb2)
         (try clear hk)
         (try clear hi)
         refine hK.out _ _ ⟨(blk_cell BK404.out 0).trans rfl, (blk_cell BK404.out 1).trans rfl, (blk_cell BK404.out 2).trans rfl, (blk_cell BK404.out 3).trans rfl, (blk_cell BK404.out 4).trans rfl⟩ (fun hHeld => ?_)
         clear hK K
         refine norm_ (a' := ?_) ?_ ?_
         rotate_left
         ·show Act.put _ (some 35) _ = _
          simp only [Act.put, List.setIfInBounds_toArray, List.set_cons_zero, List.set_cons_succ, i64_w, i32_w]
          rfl
         refine one_ (i := 6) (N := some 37) #[true, true, true, true, true, true, true, false, false, false, false, false] rfl rfl (one_of HT_.out (by kernel_rfl)) (by decide) (fun K hK => ?_)
         refine goes_ Try.func80 (by kernel_rfl) rfl #[.int .i64 t405, .int .i64 t406, .int .i64 x5_1] (by rfl) rfl rfl (by (try simp only [List.map_toArray, List.map_cons, List.map_nil]); first | done | rfl | (simp only [List.length_drop, List.length_take]; rfl)) ?_
         with_reducible refine (fixed_MulDiv.calls k2 t405 t406 x5_1 t407 t408 _ A16.out).mono ?_
         rintro e w' ⟨rfl, ⟨nd, rfl⟩⟩
         refine ⟨_, rfl, ?_⟩
         refine hK.out _ _ ⟨(blk_cell BK404.out 0).trans rfl, (blk_cell BK404.out 1).trans rfl, (blk_cell BK404.out 2).trans rfl, (blk_cell BK404.out 3).trans rfl, (blk_cell BK404.out 4).trans rfl⟩ (fun hHeld => ?_)
         clear hK K
         refine norm_ (a' := ?_) ?_ ?_
         rotate_left
         ·show Act.put _ (some 37) _ = _
          simp only [Act.put, List.setIfInBounds_toArray, List.set_cons_zero, List.set_cons_succ, i64_w, i32_w]
          rfl
         refine pure_ (i := 7) (N := some 30) (v := ?_) (a' := ?_) #[true, true, true, true, true, true, true, true, false, false, false, false] rfl rfl (any_of HT_.out (by kernel_rfl)) (fun _ _ _ h => h) (Or.inl ⟨by rfl, ?_⟩) ?_ ?_
         rotate_left
         ·intro w'
          go_simp
          with_reducible rfl
         rotate_left
         ·simp only [Act.put, List.setIfInBounds_toArray, List.set_cons_zero, List.set_cons_succ, i64_w, i32_w]
          rfl
         refine pure_ (i := 8) (N := some 38) (v := ?_) (a' := ?_) #[true, true, true, true, true, true, true, true, true, false, false, false] rfl rfl (any_of HT_.out (by kernel_rfl)) (fun _ _ _ h => h) (Or.inl ⟨by rfl, ?_⟩) ?_ ?_
         rotate_left
         ·intro w'
          go_simp
          with_reducible rfl
         rotate_left
         ·simp only [Act.put, List.setIfInBounds_toArray, List.set_cons_zero, List.set_cons_succ, i64_w, i32_w]
          rfl
         refine pure_ (i := 9) (N := some 39) (v := ?_) (a' := ?_) #[true, true, true, true, true, true, true, true, true, true, false, false] rfl rfl (any_of HT_.out (by kernel_rfl)) (fun _ _ _ h => h) (Or.inl ⟨by rfl, ?_⟩) ?_ ?_
         rotate_left
         ·intro w'
          go_simp
          with_reducible rfl
         rotate_left
         ·simp only [Act.put, List.setIfInBounds_toArray, List.set_cons_zero, List.set_cons_succ, i64_w, i32_w]
          rfl
         refine pure_ (i := 10) (N := some 11) (v := ?_) (a' := ?_) #[true, true, true, true, true, true, true, true, true, true, true, false] rfl rfl (any_of HT_.out (by kernel_rfl)) (fun _ _ _ h => h) (Or.inl ⟨by rfl, ?_⟩) ?_ ?_
         rotate_left
         ·intro w'
          go_simp
          with_reducible rfl
         rotate_left
         ·simp only [Act.put, List.setIfInBounds_toArray, List.set_cons_zero, List.set_cons_succ, i64_w, i32_w]
          rfl
         refine pure_ (i := 11) (N := some 12) (v := ?_) (a' := ?_) #[true, true, true, true, true, true, true, true, true, true, true, true] rfl rfl (any_of HT_.out (by kernel_rfl)) (fun _ _ _ h => h) (Or.inl ⟨by rfl, ?_⟩) ?_ ?_
         rotate_left
         ·intro w'
          go_simp
          with_reducible rfl
         rotate_left
         ·simp only [Act.put, List.setIfInBounds_toArray, List.set_cons_zero, List.set_cons_succ, i64_w, i32_w]
          rfl
         refine done_ (done_of HT_.out (by kernel_rfl)) ?_
         try go_wp2
         go_roundg k2
         case measure => have := HK1.out; have := HK2.out; omega
         case rel => exact ⟨(wrap64 (x6_2 + t407)), (wrap64 (x26_2 + 1)), (by first | rfl | (simp; done) | (simp [*]; done)), (by first | rfl | (simp; done) | (simp [*]; done)), H', ⟨by have := HK1.out; have := HK2.out; omega⟩, ⟨by (with_reducible repeat (first | refine blk_drewN ?_ _ | refine blk_drew ?_ | refine blk_alloc ?_ _)); exact BK1.out⟩, ⟨by repeat (first | (with_reducible first | exact HB.out | apply below_alloc | apply pw_below_drewN | apply below_drew1 | refine below_set ?_ GE1.out | refine below_set ?_ GE404.out) | exact HB.out)⟩⟩
        ·rw [if_neg c13] at H
         exact absurd H (by simp)
       ·rw [if_neg c12] at H
        exact absurd H (by simp)
      ·rw [if_neg c11] at H
       have c11b0 : decide (x26_2 < (l0.length : Int)) = false := decide_eq_false c11
       clear c11
       obtain rfl := Option.some.inj H
       go_wp2
       go_ret
       exact ⟨by first | rfl | (simp [errW_none, errW_some] <;> rfl) | (simp [*, errW_none, errW_some] <;> rfl), by repeat (first | (with_reducible first | exact HB.out | apply below_alloc | apply pw_below_drewN | apply below_drew1 | refine below_set ?_ GE1.out) | exact HB.out)⟩

end Go.Proofs.Ytlfilhplklifjaa.X

namespace Go.Proofs.Ytlfilhplklifjaa.X
open Go.RowKit Go.Proofs.YtlfilhplklifjaaW.PrintWords Go.Proofs.YtlfilhplklifjaaW.PrintLast Go.Proofs.YtlfilhplklifjaaW.PrintMore
attribute [local go_sem] max2_int min2_int max_two min_two max_three min_three max_four min_four   -- for this text's walks alone
set_option linter.unusedVariables false
set_option linter.unusedSimpArgs false

/-! ### combine_Mean: function 26 -/
def combine_Mean.f (k : Nat) (l0 : List (S37)) : Option (Int × Int) := (choose_Check.f k l0).bind fun t409 => (if t409 = 0 then (if (l0.length : Int) = 0 then (some (0, 14)) else (if 0 < (l0.length : Int) then ((combine_sum_57.f k l0 ((rd_T37 l0 0).f1)).bind fun t412 => (some (wrap64 (((rd_T37 l0 0).f1) + t412), 0))) else (none))) else (some (0, t409)))
set_option maxHeartbeats 8000000 in
set_option maxRecDepth 100000 in
theorem combine_Mean.calls (k : Nat) (A0 : Option Addr) (c0 : Nat) (l0 : List (S37)) (r1 : Int) (r2 : Int) (w : World) (hr0 : Kd.C k37 w A0 l0.length l0) (hc0 : l0.length ≤ c0) (h : combine_Mean.f k l0 = some (r1, r2)) :
  Calls Try.prog 26 #[.slice A0 l0.length c0] w fun e w' => e = .returned (.tuple #[.int .i64 r1, .int .i64 r2]) ∧ Below w.heap.size w w' := by
 have HR0 := Aside0.mk hr0
 have HC0 := Aside0.mk hc0
 clear hr0 hc0
 have HB := Aside0.mk (Below.refl w.heap.size w)
 have H : ((choose_Check.f k l0).bind fun t409 => (if t409 = 0 then (if (l0.length : Int) = 0 then (some (0, 14)) else (if 0 < (l0.length : Int) then ((combine_sum_57.f k l0 ((rd_T37 l0 0).f1)).bind fun t412 => (some (wrap64 (((rd_T37 l0 0).f1) + t412), 0))) else (none))) else (some (0, t409)))) = some (r1, r2) := h
 clear h
 replace H := Option.bind_eq_some_iff.mp H
 obtain ⟨t409, A20, H⟩ := H
 replace H : (if t409 = 0 then (if (l0.length : Int) = 0 then (some (0, 14)) else (if 0 < (l0.length : Int) then ((combine_sum_57.f k l0 ((rd_T37 l0 0).f1)).bind fun t412 => (some (wrap64 (((rd_T37 l0 0).f1) + t412), 0))) else (none))) else (some (0, t409))) = some (r1, r2) := H
 have A2 := Aside0.mk A20
 clear A20
 by_cases c3 : t409 = 0
 ·rw [if_pos c3] at H
  have c3b0 : (t409 == 0) = true := beq_iff_eq.mpr c3
  have c3b1 : (t409 != 0) = false := bne_eq_false_iff_eq.mpr c3
  clear c3
  by_cases c4 : (l0.length : Int) = 0
  ·rw [if_pos c4] at H
   have c4b0 : ((l0.length : Int) == 0) = true := beq_iff_eq.mpr c4
   have c4b1 : ((l0.length : Int) != 0) = false := bne_eq_false_iff_eq.mpr c4
   clear c4
   simp only [Option.some.injEq, Prod.mk.injEq] at H
   obtain ⟨rfl, rfl⟩ := H
   go_enter Try.func26, Try.ntmps26
   go_wp2_with (first | ((with_reducible refine gate_callee (f := 15) rfl ?_); refine goesL_ (some 7) rfl rfl Try.func15 (by kernel_rfl) rfl #[.slice A0 l0.length c0] rfl (by (try simp only [List.map_toArray, List.map_cons, List.map_nil]); first | done | rfl | (simp only [List.length_drop, List.length_take]; rfl)) ?_; (with_reducible refine (choose_Check.calls k _ _ l0 t409 _ ?side1 ?side2 A2.out).mono ?_); (case side1 => repeat (first | exact HR0.out | (with_reducible refine Kd.C_alloc ?_ _) | (with_reducible refine Kd.C_drewN ?_ _) | (with_reducible refine Kd.C_drew ?_))); (case side2 => exact HC0.out); rintro e w5 ⟨rfl, hb⟩; refine ⟨_, rfl, ?_⟩; have n0_ := Aside0.mk (below_step (by repeat (first | (with_reducible first | exact HB.out | apply below_alloc | apply pw_below_drewN | apply below_drew1) | exact HB.out)) hb); clear HB; have HB := n0_; clear n0_; (try clear hb); (try clear hb2); (try clear hk); (try clear hi)))
   go_ret2
   exact ⟨by first | rfl | (simp [errW_none, errW_some] <;> rfl) | (simp [*, errW_none, errW_some] <;> rfl), by repeat (first | (with_reducible first | exact HB.out | apply below_alloc | apply pw_below_drewN | apply below_drew1) | exact HB.out)⟩
  ·rw [if_neg c4] at H
   have c4b0 : ((l0.length : Int) == 0) = false := beq_eq_false_iff_ne.mpr c4
   have c4b1 : ((l0.length : Int) != 0) = true := bne_iff_ne.mpr c4
   have c4b2 : ¬ (l0 = []) := fun h_ => c4 (by rw [h_]; rfl)
   by_cases c6 : 0 < (l0.length : Int)
   ·rw [if_pos c6] at H
    have c6b0 : decide (0 < (l0.length : Int)) = true := decide_eq_true c6
    have c6b1 : decide (0 < l0.length) = true := decide_eq_true (by omega)
    clear c6
    replace H := Option.bind_eq_some_iff.mp H
    obtain ⟨t412, A70, H⟩ := H
    replace H : (some (wrap64 (((rd_T37 l0 0).f1) + t412), 0)) = some (r1, r2) := H
    have A7 := Aside0.mk A70
    clear A70
    simp only [Option.some.injEq, Prod.mk.injEq] at H
    obtain ⟨rfl, rfl⟩ := H
    go_enter Try.func26, Try.ntmps26
    try go_wp2_with (first | ((with_reducible refine gate_callee (f := 15) rfl ?_); refine goesL_ (some 7) rfl rfl Try.func15 (by kernel_rfl) rfl #[.slice A0 l0.length c0] rfl (by (try simp only [List.map_toArray, List.map_cons, List.map_nil]); first | done | rfl | (simp only [List.length_drop, List.length_take]; rfl)) ?_; (with_reducible refine (choose_Check.calls k _ _ l0 t409 _ ?side1 ?side2 A2.out).mono ?_); (case side1 => repeat (first | exact HR0.out | (with_reducible refine Kd.C_alloc ?_ _) | (with_reducible refine Kd.C_drewN ?_ _) | (with_reducible refine Kd.C_drew ?_))); (case side2 => exact HC0.out); rintro e w8 ⟨rfl, hb⟩; refine ⟨_, rfl, ?_⟩; have n0_ := Aside0.mk (below_step (by repeat (first | (with_reducible first | exact HB.out | apply below_alloc | apply pw_below_drewN | apply below_drew1) | exact HB.out)) hb); clear HB; have HB := n0_; clear n0_; (try clear hb); (try clear hb2); (try clear hk); (try clear hi); have p410 : 0 ≤ (0 : Int) := (by omega); have q410 : 0 < (l0.length : Int) := of_decide_eq_true (by first | (with_reducible assumption) | assumption); obtain ⟨ad410, e410, hx410_0, hx410_1, hx410_2, hx410_3, hx410_4⟩ := at_T37 HR0.out 0 p410 q410; cases e410; have qi410 : (0 < l0.length) = True := eq_true (by omega); (try rw [show ((0 : Int)).toNat = 0 from rfl] at hx410_0); (try rw [show 0 * 5 = 0 from rfl] at hx410_0); (try rw [Addr.add_zero'] at hx410_0); (try rw [show ((0 : Int)).toNat = 0 from rfl] at hx410_1); (try rw [show 0 * 5 = 0 from rfl] at hx410_1); (try rw [Addr.add_zero'] at hx410_1); (try rw [show ((0 : Int)).toNat = 0 from rfl] at hx410_2); (try rw [show 0 * 5 = 0 from rfl] at hx410_2); (try rw [Addr.add_zero'] at hx410_2); (try rw [show ((0 : Int)).toNat = 0 from rfl] at hx410_3); (try rw [show 0 * 5 = 0 from rfl] at hx410_3); (try rw [Addr.add_zero'] at hx410_3); (try rw [show ((0 : Int)).toNat = 0 from rfl] at hx410_4); (try rw [show 0 * 5 = 0 from rfl] at hx410_4); (try rw [Addr.add_zero'] at hx410_4); replace hx410_0 := (HB.out.cell (World.block_lt_of_cell? w _ hx410_0)).trans hx410_0; replace hx410_1 := (HB.out.cell (World.block_lt_of_cell? w _ hx410_1)).trans hx410_1; replace hx410_2 := (HB.out.cell (World.block_lt_of_cell? w _ hx410_2)).trans hx410_2; replace hx410_3 := (HB.out.cell (World.block_lt_of_cell? w _ hx410_3)).trans hx410_3; replace hx410_4 := (HB.out.cell (World.block_lt_of_cell? w _ hx410_4)).trans hx410_4; replace p410 := eq_true p410; replace q410 := eq_true q410) | ((with_reducible refine gate_dst (N := 5) rfl ?_); refine box_event ?hg (N := 5) ?hd (cs := #[.int .i64 0]) (t := 3) ?hr ?_; (case hd => rfl); (case hg => rfl); (case hr => first | (go_simp; done) | (go_simp; rfl)); intro gb411 hg w9 hbox hb; have n0_ := Aside0.mk (below_step (by repeat (first | (with_reducible first | exact HB.out | apply below_alloc | apply pw_below_drewN | apply below_drew1) | exact HB.out)) hb); have n1_ := Aside0.mk (hbox); have n2_ := Aside0.mk ((by rw [hg]; exact (below_size (by repeat (first | (with_reducible first | exact HB.out | apply below_alloc | apply pw_below_drewN | apply below_drew1) | exact HB.out))) : w.heap.size ≤ gb411)); have n3_ := Aside0.mk ((by rw [hg]; exact (below_size (by repeat (first | (with_reducible first | exact HB.out | apply below_alloc | apply pw_below_drewN | apply below_drew1) | exact HB.out))) : w.heap.size ≤ gb411)); clear HB; have HB := n0_; have BK411 := n1_; have GW411 := n2_; have GE411 := n3_; clear n0_ n1_ n2_ n3_; clear hb hbox hg; have hcz10_0 : w9.cell? ⟨gb411, 0, none⟩ = some (.int .i64 0) := (blk_cell BK411.out 0).trans rfl; have hfz10_0 := blk_frozen BK411.out 0))
    have n0_ : Aside0 ((w9.setCell ⟨gb411, 0, none⟩ (.int .i64 ((rd_T37 l0 0).f1))).heap[gb411]? = some (.cells #[.int .i64 ((rd_T37 l0 0).f1)] 3 (0, 0))) := ⟨by (with_reducible repeat (first | refine blk_drewN ?_ _ | refine blk_drew ?_ | refine blk_alloc ?_ _)); refine blk_put (cs := #[.int .i64 0]) ?_ 0 _ rfl; (with_reducible repeat (first | refine blk_drewN ?_ _ | refine blk_drew ?_ | refine blk_alloc ?_ _)); exact BK411.out⟩
    have n1_ : Aside0 (Below w.heap.size w (w9.setCell ⟨gb411, 0, none⟩ (.int .i64 ((rd_T37 l0 0).f1)))) := ⟨by repeat (first | (with_reducible first | exact HB.out | apply below_alloc | apply pw_below_drewN | apply below_drew1 | refine below_set ?_ GE411.out) | exact HB.out)⟩
    (try clear BK411)
    (try clear HB)
    generalize (w9.setCell ⟨gb411, 0, none⟩ (.int .i64 ((rd_T37 l0 0).f1))) = w11 at n0_ n1_ ⊢
    have BK411 := n0_
    have HB := n1_
    clear n0_ n1_
    have n0_ := Aside0.mk (blk_drew BK411.out)
    have n1_ := Aside0.mk (below_drew1 HB.out)
    clear BK411
    clear HB
    have BK411 := n0_
    have HB := n1_
    clear n0_ n1_
    refine start_ (n := 7) (S := fun w' => w'.cell? ⟨gb411, 0, none⟩ = some (.int .i64 ((rd_T37 l0 0).f1))) (ds := []) #[false, false, false, false, false, false, false] (by kernel_rfl) rfl rfl ((blk_cell BK411.out 0).trans rfl) (fun hHeld => ?_)
    generalize w11.drew = w12 at BK411 HB hHeld ⊢
    refine pure_ (i := 1) (N := some 19) (v := ?_) (a' := ?_) #[false, true, false, false, false, false, false] rfl rfl (by kernel_rfl) (fun _ _ _ h => h) (Or.inl ⟨by rfl, ?_⟩) ?_ ?_
    rotate_left
    ·intro w'
     go_simp
     with_reducible rfl
    rotate_left
    ·simp only [Act.put, List.setIfInBounds_toArray, List.set_cons_zero, List.set_cons_succ, i64_w, i32_w]
     rfl
    refine pure_ (i := 2) (N := some 20) (v := ?_) (a' := ?_) #[false, true, true, false, false, false, false] rfl rfl (by kernel_rfl) (fun _ _ _ h => h) (Or.inl ⟨by rfl, ?_⟩) ?_ ?_
    rotate_left
    ·intro w'
     go_simp
     with_reducible rfl
    rotate_left
    ·simp only [Act.put, List.setIfInBounds_toArray, List.set_cons_zero, List.set_cons_succ, i64_w, i32_w]
     rfl
    refine take_ (i := 0) (N := some 18) (v := ?_) (a' := ?_) #[true, true, true, false, false, false, false] rfl rfl (by kernel_rfl) (fun _ _ _ h => h) (Or.inl ⟨by rfl, ?_⟩) hHeld ?_ ?_
    rotate_left
    ·intro w' s0
     go_simp
     with_reducible rfl
    rotate_left
    ·simp only [Act.put, List.setIfInBounds_toArray, List.set_cons_zero, List.set_cons_succ, i64_w, i32_w]
     rfl
    refine one_ (i := 3) (N := some 21) #[true, true, true, true, false, false, false] rfl rfl (by kernel_rfl) (by decide) (fun K hK => ?_)
    refine goes_ Try.func56 (by kernel_rfl) rfl #[.slice (some ad410) l0.length c0, .func (.func 57) #[] #[.pointer (some ⟨gb411, 0, none⟩)]] (by rfl) rfl rfl (by (try simp only [List.map_toArray, List.map_cons, List.map_nil]); first | done | rfl | (simp only [List.length_drop, List.length_take]; rfl)) ?_
    with_reducible refine (combine_sum_57.calls k _ _ l0 gb411 ((rd_T37 l0 0).f1) t412 _ ?side1 ?side2 ?side3 A7.out).mono ?_
    (case side1 => repeat (first | exact (Kd.C_below HR0.out HB.out) | (with_reducible refine Kd.C_alloc ?_ _) | (with_reducible refine Kd.C_drewN ?_ _) | (with_reducible refine Kd.C_drew ?_)))
    (case side2 => exact HC0.out)
    (case side3 => exact (by (with_reducible repeat (first | refine blk_drewN ?_ _ | refine blk_drew ?_ | refine blk_alloc ?_ _)); exact BK411.out))
    rintro e w13 ⟨rfl, hb⟩
    refine ⟨_, rfl, ?_⟩
    have n0_ := Aside0.mk (blk_below (g := gb411) (o := .cells #[.int .i64 ((rd_T37 l0 0).f1)] 3 (0, 0)) (by (with_reducible repeat (first | refine blk_drewN ?_ _ | refine blk_drew ?_ | refine blk_alloc ?_ _)); exact BK411.out) hb)
    have n1_ := Aside0.mk (below_step (by repeat (first | (with_reducible first | exact HB.out | apply below_alloc | apply pw_below_drewN | apply below_drew1 | refine below_set ?_ GE411.out) | exact HB.out)) hb)
    clear BK411
    clear HB
    have BK411 := n0_
    have HB := n1_
    clear n0_ n1_
    (try clear hb)
    (try clear hb2)
    (try clear hk)
    (try clear hi)
    refine hK.out _ _ ((blk_cell BK411.out 0).trans rfl) (fun hHeld => ?_)
    clear hK K
    refine norm_ (a' := ?_) ?_ ?_
    rotate_left
    ·show Act.put _ (some 21) _ = _
     simp only [Act.put, List.setIfInBounds_toArray, List.set_cons_zero, List.set_cons_succ, i64_w, i32_w]
     rfl
    refine pure_ (i := 4) (N := some 22) (v := ?_) (a' := ?_) #[true, true, true, true, true, false, false] rfl rfl (by kernel_rfl) (fun _ _ _ h => h) (Or.inl ⟨by rfl, ?_⟩) ?_ ?_
    rotate_left
    ·intro w'
     go_simp
     with_reducible rfl
    rotate_left
    ·simp only [Act.put, List.setIfInBounds_toArray, List.set_cons_zero, List.set_cons_succ, i64_w, i32_w]
     rfl
    refine pure_ (i := 5) (N := some 2) (v := ?_) (a' := ?_) #[true, true, true, true, true, true, false] rfl rfl (by kernel_rfl) (fun _ _ _ h => h) (Or.inl ⟨by rfl, ?_⟩) ?_ ?_
    rotate_left
    ·intro w'
     go_simp
     with_reducible rfl
    rotate_left
    ·simp only [Act.put, List.setIfInBounds_toArray, List.set_cons_zero, List.set_cons_succ, i64_w, i32_w]
     rfl
    refine pure_ (i := 6) (N := some 3) (v := ?_) (a' := ?_) #[true, true, true, true, true, true, true] rfl rfl (by kernel_rfl) (fun _ _ _ h => h) (Or.inl ⟨by rfl, ?_⟩) ?_ ?_
    rotate_left
    ·intro w'
     go_simp
     with_reducible rfl
    rotate_left
    ·simp only [Act.put, List.setIfInBounds_toArray, List.set_cons_zero, List.set_cons_succ, i64_w, i32_w]
     rfl
    refine done_ (by kernel_rfl) ?_
    try go_wp2
    go_ret2
    exact ⟨by first | rfl | (simp [errW_none, errW_some] <;> rfl) | (simp [*, errW_none, errW_some] <;> rfl), by repeat (first | (with_reducible first | exact HB.out | apply below_alloc | apply pw_below_drewN | apply below_drew1 | refine below_set ?_ GE411.out) | exact HB.out)⟩
   ·rw [if_neg c6] at H
    exact absurd H (by simp)
 ·rw [if_neg c3] at H
  have c3b0 : (t409 == 0) = false := beq_eq_false_iff_ne.mpr c3
  have c3b1 : (t409 != 0) = true := bne_iff_ne.mpr c3
  simp only [Option.some.injEq, Prod.mk.injEq] at H
  obtain ⟨rfl, rfl⟩ := H
  go_enter Try.func26, Try.ntmps26
  go_wp2_with (first | ((with_reducible refine gate_callee (f := 15) rfl ?_); refine goesL_ (some 7) rfl rfl Try.func15 (by kernel_rfl) rfl #[.slice A0 l0.length c0] rfl (by (try simp only [List.map_toArray, List.map_cons, List.map_nil]); first | done | rfl | (simp only [List.length_drop, List.length_take]; rfl)) ?_; (with_reducible refine (choose_Check.calls k _ _ l0 t409 _ ?side1 ?side2 A2.out).mono ?_); (case side1 => repeat (first | exact HR0.out | (with_reducible refine Kd.C_alloc ?_ _) | (with_reducible refine Kd.C_drewN ?_ _) | (with_reducible refine Kd.C_drew ?_))); (case side2 => exact HC0.out); rintro e w14 ⟨rfl, hb⟩; refine ⟨_, rfl, ?_⟩; have n0_ := Aside0.mk (below_step (by repeat (first | (with_reducible first | exact HB.out | apply below_alloc | apply pw_below_drewN | apply below_drew1) | exact HB.out)) hb); clear HB; have HB := n0_; clear n0_; (try clear hb); (try clear hb2); (try clear hk); (try clear hi)))
  go_ret2
  exact ⟨by first | rfl | (simp [errW_none, errW_some] <;> rfl) | (simp [*, errW_none, errW_some] <;> rfl), by repeat (first | (with_reducible first | exact HB.out | apply below_alloc | apply pw_below_drewN | apply below_drew1) | exact HB.out)⟩

end Go.Proofs.Ytlfilhplklifjaa.X

namespace Go.Proofs.Ytlfilhplklifjaa.X
open Go.RowKit Go.Proofs.YtlfilhplklifjaaW.PrintWords Go.Proofs.YtlfilhplklifjaaW.PrintLast Go.Proofs.YtlfilhplklifjaaW.PrintMore
attribute [local go_sem] max2_int min2_int max_two min_two max_three min_three max_four min_four   -- for this text's walks alone
set_option linter.unusedVariables false
set_option linter.unusedSimpArgs false

/-! ### combine_away: function 58 -/
def combine_away.f (a0 : Int) (a1 : Int) : Option (Int) := some (mx (wrap64 (a0 - a1)) (wrap64 (a1 - a0)))
set_option maxHeartbeats 8000000 in
set_option maxRecDepth 100000 in
theorem combine_away.calls (a0 : Int) (a1 : Int) (r : Int) (w : World) (h : combine_away.f a0 a1 = some r) :
  Calls Try.prog 58 #[.int .i64 a0, .int .i64 a1] w fun e w' => e = .returned (.int .i64 r) ∧ Below w.heap.size w w' := by
 have HB := Aside0.mk (Below.refl w.heap.size w)
 have H : (some (mx (wrap64 (a0 - a1)) (wrap64 (a1 - a0)))) = some r := h
 clear h
 obtain ⟨ji3, hji3⟩ : ∃ j_ : Int, (mx (wrap64 (a0 - a1)) (wrap64 (a1 - a0))) = j_ := ⟨_, rfl⟩
 replace H : (some ji3) = some r := by first | (rw [hji3] at H; exact H) | (simp only [hji3] at H ⊢; exact H)
 have hji3_ : (if (wrap64 (a0 - a1)) < (wrap64 (a1 - a0)) then (wrap64 (a1 - a0)) else (wrap64 (a0 - a1))) = ji3 := hji3
 obtain rfl := Option.some.inj H
 go_enter Try.func58, Try.ntmps58
 go_wp2
 go_ret
 exact ⟨by first | rfl | (simp [errW_none, errW_some] <;> rfl) | (simp only [← hji3]; first | rfl | (simp [errW_none, errW_some] <;> rfl)) | (simp [*, errW_none, errW_some] <;> rfl), by repeat (first | (with_reducible first | exact HB.out | apply below_alloc | apply pw_below_drewN | apply below_drew1) | exact HB.out)⟩

end Go.Proofs.Ytlfilhplklifjaa.X

namespace Go.Proofs.Ytlfilhplklifjaa.X
open Go.RowKit Go.Proofs.YtlfilhplklifjaaW.PrintWords Go.Proofs.YtlfilhplklifjaaW.PrintLast Go.Proofs.YtlfilhplklifjaaW.PrintMore
attribute [local go_sem] max2_int min2_int max_two min_two max_three min_three max_four min_four   -- for this text's walks alone
set_option linter.unusedVariables false
set_option linter.unusedSimpArgs false

/-! ### combine_Dist: function 27 -/
def combine_Dist.l0 : Nat → Int → Int → List (S37) → Int → Int → Option (Int)
 | 0, _, _, _, _, _ => none
 | k + 1, x3, x5, x26, x27, x28 => if x28 < x27 then (if 0 ≤ x28 then (if x28 < (x26.length : Int) then ((combine_away.f ((rd_T37 x26 x28).f1) x3).bind fun t420 => (combine_Dist.l0 k x3 (mn x5 (wrap64 (((rd_T37 x26 x28).f2) + t420))) x26 x27 (wrap64 (x28 + 1)))) else (none)) else (none)) else (some x5)
def combine_Dist.f (k : Nat) (l0 : List (S37)) : Option (Int) := (combine_Mean.f k l0).bind fun bt413 => (if bt413.2 = 0 then (if 0 < (l0.length : Int) then ((combine_away.f ((rd_T37 l0 0).f1) bt413.1).bind fun t417 => (combine_Dist.l0 k bt413.1 (wrap64 (((rd_T37 l0 0).f2) + t417)) l0 (l0.length : Int) 0)) else (none)) else (some 0))
def combine_Dist.T4 : Bool × List (List Nat × List Nat) := (true, [([], []), ([0], [0]), ([1], [1]), ([2], [2]), ([], []), ([4], [4]), ([5], [5]), ([6], [6]), ([], []), ([7, 8], [7, 8]), ([3, 9], [3, 9]), ([10, 9, 0, 1, 2, 3, 4, 5, 6, 7, 8, 9, 10], [10])])
def combine_Dist.B4 : List Nat := [0, 1, 3, 7, 0, 16, 48, 112, 0, 496, 1023, 2047]
theorem combine_Dist.tab4 : rtab .any (opsOf Try.f27 4) = combine_Dist.T4 := by kernel_rfl
theorem combine_Dist.bits4 : waitsOk combine_Dist.T4.2 combine_Dist.B4 = true := by kernel_rfl
def combine_Dist.T8 : Bool × List (List Nat × List Nat) := (true, [([], []), ([], []), ([1], [1]), ([], []), ([3], [3]), ([], []), ([4, 5], [4, 5]), ([2, 6], [2, 6]), ([0, 7], [0, 7]), ([8, 6, 0, 1, 2, 3, 4, 5, 6, 7, 8], [0, 8])])
def combine_Dist.B8 : List Nat := [0, 0, 2, 0, 8, 0, 56, 126, 255, 511]
theorem combine_Dist.tab8 : rtab .any (opsOf Try.f27 8) = combine_Dist.T8 := by kernel_rfl
theorem combine_Dist.bits8 : waitsOk combine_Dist.T8.2 combine_Dist.B8 = true := by kernel_rfl
set_option maxHeartbeats 8000000 in
set_option maxRecDepth 100000 in
theorem combine_Dist.calls (k : Nat) (A0 : Option Addr) (c0 : Nat) (l0 : List (S37)) (r : Int) (w : World) (hr0 : Kd.C k37 w A0 l0.length l0) (hc0 : l0.length ≤ c0) (h : combine_Dist.f k l0 = some r) :
  Calls Try.prog 27 #[.slice A0 l0.length c0] w fun e w' => e = .returned (.int .i64 r) ∧ Below w.heap.size w w' := by
 have hu37 := Try.underlying37
 have HR0 := Aside0.mk hr0
 have HC0 := Aside0.mk hc0
 clear hr0 hc0
 have HB := Aside0.mk (Below.refl w.heap.size w)
 have H : ((combine_Mean.f k l0).bind fun bt413 => (if bt413.2 = 0 then (if 0 < (l0.length : Int) then ((combine_away.f ((rd_T37 l0 0).f1) bt413.1).bind fun t417 => (combine_Dist.l0 k bt413.1 (wrap64 (((rd_T37 l0 0).f2) + t417)) l0 (l0.length : Int) 0)) else (none)) else (some 0))) = some r := h
 clear h
 replace H := Option.bind_eq_some_iff.mp H
 obtain ⟨⟨t413, t414⟩, A20, H⟩ := H
 replace H : (if t414 = 0 then (if 0 < (l0.length : Int) then ((combine_away.f ((rd_T37 l0 0).f1) t413).bind fun t417 => (combine_Dist.l0 k t413 (wrap64 (((rd_T37 l0 0).f2) + t417)) l0 (l0.length : Int) 0)) else (none)) else (some 0)) = some r := H
 have A2 := Aside0.mk A20
 clear A20
 by_cases c3 : t414 = 0
 ·rw [if_pos c3] at H
  have c3b0 : (t414 == 0) = true := beq_iff_eq.mpr c3
  have c3b1 : (t414 != 0) = false := bne_eq_false_iff_eq.mpr c3
  clear c3
  by_cases c4 : 0 < (l0.length : Int)
  ·rw [if_pos c4] at H
   have c4b0 : decide (0 < (l0.length : Int)) = true := decide_eq_true c4
   have c4b1 : decide (0 < l0.length) = true := decide_eq_true (by omega)
   clear c4
   replace H := Option.bind_eq_some_iff.mp H
   obtain ⟨t417, A50, H⟩ := H
   replace H : (combine_Dist.l0 k t413 (wrap64 (((rd_T37 l0 0).f2) + t417)) l0 (l0.length : Int) 0) = some r := H
   have A5 := Aside0.mk A50
   clear A50
   have H' := Aside0.mk H
   clear H
   go_enter Try.func27, Try.ntmps27
   try go_wp2_with (first | ((with_reducible refine gate_callee (f := 26) rfl ?_); refine goesL_ (some 10) rfl rfl Try.func26 (by kernel_rfl) rfl #[.slice A0 l0.length c0] rfl (by (try simp only [List.map_toArray, List.map_cons, List.map_nil]); first | done | rfl | (simp only [List.length_drop, List.length_take]; rfl)) ?_; (with_reducible refine (combine_Mean.calls k _ _ l0 t413 t414 _ ?side1 ?side2 A2.out).mono ?_); (case side1 => repeat (first | exact HR0.out | (with_reducible refine Kd.C_alloc ?_ _) | (with_reducible refine Kd.C_drewN ?_ _) | (with_reducible refine Kd.C_drew ?_))); (case side2 => exact HC0.out); rintro e w6 ⟨rfl, hb⟩; refine ⟨_, rfl, ?_⟩; have n0_ := Aside0.mk (below_step (by repeat (first | (with_reducible first | exact HB.out | apply below_alloc | apply pw_below_drewN | apply below_drew1) | exact HB.out)) hb); clear HB; have HB := n0_; clear n0_; (try clear hb); (try clear hb2); (try clear hk); (try clear hi)))
   have n0_ := Aside0.mk (below_drew1 HB.out)
   clear HB
   have HB := n0_
   clear n0_
   have p415 : 0 ≤ (0 : Int) := (by omega)
   have q415 : 0 < (l0.length : Int) := of_decide_eq_true (by first | (with_reducible assumption) | assumption)
   obtain ⟨ad415, e415, hx415_0, hx415_1, hx415_2, hx415_3, hx415_4⟩ := at_T37 HR0.out 0 p415 q415
   have hw415_4 := hx415_4
   (try rw [show ((0 : Int)).toNat = 0 from rfl] at hw415_4)
   (try rw [show 0 * 5 = 0 from rfl] at hw415_4)
   (try rw [Addr.add_zero'] at hw415_4)
   have hw415_3 := hx415_3
   (try rw [show ((0 : Int)).toNat = 0 from rfl] at hw415_3)
   (try rw [show 0 * 5 = 0 from rfl] at hw415_3)
   (try rw [Addr.add_zero'] at hw415_3)
   have hw415_2 := hx415_2
   (try rw [show ((0 : Int)).toNat = 0 from rfl] at hw415_2)
   (try rw [show 0 * 5 = 0 from rfl] at hw415_2)
   (try rw [Addr.add_zero'] at hw415_2)
   have hw415_1 := hx415_1
   (try rw [show ((0 : Int)).toNat = 0 from rfl] at hw415_1)
   (try rw [show 0 * 5 = 0 from rfl] at hw415_1)
   (try rw [Addr.add_zero'] at hw415_1)
   have hw415_0 := hx415_0
   (try rw [show ((0 : Int)).toNat = 0 from rfl] at hw415_0)
   (try rw [show 0 * 5 = 0 from rfl] at hw415_0)
   (try rw [Addr.add_zero'] at hw415_0)
   cases e415
   have qi415 : (0 < l0.length) = True := eq_true (by omega)
   (try rw [show ((0 : Int)).toNat = 0 from rfl] at hx415_0)
   (try rw [show 0 * 5 = 0 from rfl] at hx415_0)
   (try rw [Addr.add_zero'] at hx415_0)
   (try rw [show ((0 : Int)).toNat = 0 from rfl] at hx415_1)
   (try rw [show 0 * 5 = 0 from rfl] at hx415_1)
   (try rw [Addr.add_zero'] at hx415_1)
   (try rw [show ((0 : Int)).toNat = 0 from rfl] at hx415_2)
   (try rw [show 0 * 5 = 0 from rfl] at hx415_2)
   (try rw [Addr.add_zero'] at hx415_2)
   (try rw [show ((0 : Int)).toNat = 0 from rfl] at hx415_3)
   (try rw [show 0 * 5 = 0 from rfl] at hx415_3)
   (try rw [Addr.add_zero'] at hx415_3)
   (try rw [show ((0 : Int)).toNat = 0 from rfl] at hx415_4)
   (try rw [show 0 * 5 = 0 from rfl] at hx415_4)
   (try rw [Addr.add_zero'] at hx415_4)
   try replace hx415_0 := (HB.out.cell (World.block_lt_of_cell? w _ hx415_0)).trans hx415_0
   try replace hx415_1 := (HB.out.cell (World.block_lt_of_cell? w _ hx415_1)).trans hx415_1
   try replace hx415_2 := (HB.out.cell (World.block_lt_of_cell? w _ hx415_2)).trans hx415_2
   try replace hx415_3 := (HB.out.cell (World.block_lt_of_cell? w _ hx415_3)).trans hx415_3
   try replace hx415_4 := (HB.out.cell (World.block_lt_of_cell? w _ hx415_4)).trans hx415_4
   replace p415 := eq_true p415
   replace q415 := eq_true q415
   have p416 : 0 ≤ (0 : Int) := (by omega)
   have q416 : 0 < (l0.length : Int) := of_decide_eq_true (by first | (with_reducible assumption) | assumption)
   obtain ⟨ad416, e416, hx416_0, hx416_1, hx416_2, hx416_3, hx416_4⟩ := at_T37 HR0.out 0 p416 q416
   have hw416_4 := hx416_4
   (try rw [show ((0 : Int)).toNat = 0 from rfl] at hw416_4)
   (try rw [show 0 * 5 = 0 from rfl] at hw416_4)
   (try rw [Addr.add_zero'] at hw416_4)
   have hw416_3 := hx416_3
   (try rw [show ((0 : Int)).toNat = 0 from rfl] at hw416_3)
   (try rw [show 0 * 5 = 0 from rfl] at hw416_3)
   (try rw [Addr.add_zero'] at hw416_3)
   have hw416_2 := hx416_2
   (try rw [show ((0 : Int)).toNat = 0 from rfl] at hw416_2)
   (try rw [show 0 * 5 = 0 from rfl] at hw416_2)
   (try rw [Addr.add_zero'] at hw416_2)
   have hw416_1 := hx416_1
   (try rw [show ((0 : Int)).toNat = 0 from rfl] at hw416_1)
   (try rw [show 0 * 5 = 0 from rfl] at hw416_1)
   (try rw [Addr.add_zero'] at hw416_1)
   have hw416_0 := hx416_0
   (try rw [show ((0 : Int)).toNat = 0 from rfl] at hw416_0)
   (try rw [show 0 * 5 = 0 from rfl] at hw416_0)
   (try rw [Addr.add_zero'] at hw416_0)
   obtain rfl : ad415 = ad416 := (by injection e416)
   have qi416 : (0 < l0.length) = True := eq_true (by omega)
   (try rw [show ((0 : Int)).toNat = 0 from rfl] at hx416_0)
   (try rw [show 0 * 5 = 0 from rfl] at hx416_0)
   (try rw [Addr.add_zero'] at hx416_0)
   (try rw [show ((0 : Int)).toNat = 0 from rfl] at hx416_1)
   (try rw [show 0 * 5 = 0 from rfl] at hx416_1)
   (try rw [Addr.add_zero'] at hx416_1)
   (try rw [show ((0 : Int)).toNat = 0 from rfl] at hx416_2)
   (try rw [show 0 * 5 = 0 from rfl] at hx416_2)
   (try rw [Addr.add_zero'] at hx416_2)
   (try rw [show ((0 : Int)).toNat = 0 from rfl] at hx416_3)
   (try rw [show 0 * 5 = 0 from rfl] at hx416_3)
   (try rw [Addr.add_zero'] at hx416_3)
   (try rw [show ((0 : Int)).toNat = 0 from rfl] at hx416_4)
   (try rw [show 0 * 5 = 0 from rfl] at hx416_4)
   (try rw [Addr.add_zero'] at hx416_4)
   try replace hx416_0 := (HB.out.cell (World.block_lt_of_cell? w _ hx416_0)).trans hx416_0
   try replace hx416_1 := (HB.out.cell (World.block_lt_of_cell? w _ hx416_1)).trans hx416_1
   try replace hx416_2 := (HB.out.cell (World.block_lt_of_cell? w _ hx416_2)).trans hx416_2
   try replace hx416_3 := (HB.out.cell (World.block_lt_of_cell? w _ hx416_3)).trans hx416_3
   try replace hx416_4 := (HB.out.cell (World.block_lt_of_cell? w _ hx416_4)).trans hx416_4
   replace p416 := eq_true p416
   replace q416 := eq_true q416
   refine start_ (n := 12) (S := fun w' => w'.cell? ad415 = some (.int .i64 ((rd_T37 l0 0).f0)) ∧ w'.cell? ⟨ad415.block, ad415.off + 1, none⟩ = some (.int .i64 ((rd_T37 l0 0).f1)) ∧ w'.cell? ⟨ad415.block, ad415.off + 2, none⟩ = some (.int .i64 ((rd_T37 l0 0).f2)) ∧ w'.cell? ⟨ad415.block, ad415.off + 3, none⟩ = some (.int .i64 ((rd_T37 l0 0).f3)) ∧ w'.cell? ⟨ad415.block, ad415.off + 4, none⟩ = some (.int .i64 ((rd_T37 l0 0).f4)) ∧ w'.cell? ad415 = some (.int .i64 ((rd_T37 l0 0).f0)) ∧ w'.cell? ⟨ad415.block, ad415.off + 1, none⟩ = some (.int .i64 ((rd_T37 l0 0).f1)) ∧ w'.cell? ⟨ad415.block, ad415.off + 2, none⟩ = some (.int .i64 ((rd_T37 l0 0).f2)) ∧ w'.cell? ⟨ad415.block, ad415.off + 3, none⟩ = some (.int .i64 ((rd_T37 l0 0).f3)) ∧ w'.cell? ⟨ad415.block, ad415.off + 4, none⟩ = some (.int .i64 ((rd_T37 l0 0).f4))) (ds := []) #[false, false, false, false, false, false, false, false, false, false, false, false] (by kernel_rfl) rfl rfl ⟨((HB.out.cell (World.block_lt_of_cell? w _ hw415_0)).trans hw415_0), ((HB.out.cell (World.block_lt_of_cell? w _ hw415_1)).trans hw415_1), ((HB.out.cell (World.block_lt_of_cell? w _ hw415_2)).trans hw415_2), ((HB.out.cell (World.block_lt_of_cell? w _ hw415_3)).trans hw415_3), ((HB.out.cell (World.block_lt_of_cell? w _ hw415_4)).trans hw415_4), ((HB.out.cell (World.block_lt_of_cell? w _ hw416_0)).trans hw416_0), ((HB.out.cell (World.block_lt_of_cell? w _ hw416_1)).trans hw416_1), ((HB.out.cell (World.block_lt_of_cell? w _ hw416_2)).trans hw416_2), ((HB.out.cell (World.block_lt_of_cell? w _ hw416_3)).trans hw416_3), ((HB.out.cell (World.block_lt_of_cell? w _ hw416_4)).trans hw416_4)⟩ (fun hHeld => ?_); refine with_tabW combine_Dist.tab4 combine_Dist.bits4 (fun HT_ HW_ => ?_)
   generalize w6.drew = w7 at HB hx415_0 hx415_1 hx415_2 hx415_3 hx415_4 hx416_0 hx416_1 hx416_2 hx416_3 hx416_4 hHeld ⊢
   refine pure_ (i := 0) (N := some 15) (v := ?_) (a' := ?_) #[true, false, false, false, false, false, false, false, false, false, false, false] rfl rfl (any_of HT_.out (by kernel_rfl)) (fun _ _ _ h => h) (Or.inl ⟨by rfl, ?_⟩) ?_ ?_
   rotate_left
   ·intro w'
    go_simp
    with_reducible rfl
   rotate_left
   ·simp only [Act.put, List.setIfInBounds_toArray, List.set_cons_zero, List.set_cons_succ, i64_w, i32_w]
    rfl
   refine pure_ (i := 1) (N := some 16) (v := ?_) (a' := ?_) #[true, true, false, false, false, false, false, false, false, false, false, false] rfl rfl (any_of HT_.out (by kernel_rfl)) (fun _ _ _ h => h) (Or.inl ⟨by rfl, ?_⟩) ?_ ?_
   rotate_left
   ·intro w'
    go_simp
    with_reducible rfl
   rotate_left
   ·simp only [Act.put, List.setIfInBounds_toArray, List.set_cons_zero, List.set_cons_succ, i64_w, i32_w]
    rfl
   refine pure_ (i := 2) (N := some 17) (v := ?_) (a' := ?_) #[true, true, true, false, false, false, false, false, false, false, false, false] rfl rfl (any_of HT_.out (by kernel_rfl)) (fun _ _ _ h => h) (Or.inl ⟨by rfl, ?_⟩) ?_ ?_
   rotate_left
   ·intro w'
    go_simp
    with_reducible rfl
   rotate_left
   ·simp only [Act.put, List.setIfInBounds_toArray, List.set_cons_zero, List.set_cons_succ, i64_w, i32_w]
    rfl
   refine pure_ (i := 4) (N := some 19) (v := ?_) (a' := ?_) #[true, true, true, false, true, false, false, false, false, false, false, false] rfl rfl (any_of HT_.out (by kernel_rfl)) (fun _ _ _ h => h) (Or.inl ⟨by rfl, ?_⟩) ?_ ?_
   rotate_left
   ·intro w'
    go_simp
    with_reducible rfl
   rotate_left
   ·simp only [Act.put, List.setIfInBounds_toArray, List.set_cons_zero, List.set_cons_succ, i64_w, i32_w]
    rfl
   refine pure_ (i := 5) (N := some 20) (v := ?_) (a' := ?_) #[true, true, true, false, true, true, false, false, false, false, false, false] rfl rfl (any_of HT_.out (by kernel_rfl)) (fun _ _ _ h => h) (Or.inl ⟨by rfl, ?_⟩) ?_ ?_
   rotate_left
   ·intro w'
    go_simp
    with_reducible rfl
   rotate_left
   ·simp only [Act.put, List.setIfInBounds_toArray, List.set_cons_zero, List.set_cons_succ, i64_w, i32_w]
    rfl
   refine pure_ (i := 6) (N := some 21) (v := ?_) (a' := ?_) #[true, true, true, false, true, true, true, false, false, false, false, false] rfl rfl (any_of HT_.out (by kernel_rfl)) (fun _ _ _ h => h) (Or.inl ⟨by rfl, ?_⟩) ?_ ?_
   rotate_left
   ·intro w'
    go_simp
    with_reducible rfl
   rotate_left
   ·simp only [Act.put, List.setIfInBounds_toArray, List.set_cons_zero, List.set_cons_succ, i64_w, i32_w]
    rfl
   refine pure_ (i := 8) (N := some 23) (v := ?_) (a' := ?_) #[true, true, true, false, true, true, true, false, true, false, false, false] rfl rfl (any_of HT_.out (by kernel_rfl)) (fun _ _ _ h => h) (Or.inl ⟨by rfl, ?_⟩) ?_ ?_
   rotate_left
   ·intro w'
    go_simp
    with_reducible rfl
   rotate_left
   ·simp only [Act.put, List.setIfInBounds_toArray, List.set_cons_zero, List.set_cons_succ, i64_w, i32_w]
    rfl
   refine take_ (i := 3) (N := some 18) (v := ?_) (a' := ?_) #[true, true, true, true, true, true, true, false, true, false, false, false] rfl rfl (take_ofW HT_.out HW_.out (by kernel_rfl)) (fun _ _ _ h => h) (Or.inl ⟨by rfl, ?_⟩) hHeld ?_ ?_
   rotate_left
   ·rintro w' ⟨s0, s1, s2, s3, s4, s5, s6, s7, s8, s9⟩
    go_simp
    with_reducible rfl
   rotate_left
   ·simp only [Act.put, List.setIfInBounds_toArray, List.set_cons_zero, List.set_cons_succ, i64_w, i32_w]
    rfl
   refine take_ (i := 7) (N := some 22) (v := ?_) (a' := ?_) #[true, true, true, true, true, true, true, true, true, false, false, false] rfl rfl (take_ofW HT_.out HW_.out (by kernel_rfl)) (fun _ _ _ h => h) (Or.inl ⟨by rfl, ?_⟩) hHeld ?_ ?_
   rotate_left
   ·rintro w' ⟨s0, s1, s2, s3, s4, s5, s6, s7, s8, s9⟩
    go_simp
    with_reducible rfl
   rotate_left
   ·simp only [Act.put, List.setIfInBounds_toArray, List.set_cons_zero, List.set_cons_succ, i64_w, i32_w]
    rfl
   refine one_ (i := 9) (N := some 24) #[true, true, true, true, true, true, true, true, true, true, false, false] rfl rfl (one_of HT_.out (by kernel_rfl)) (by decide) (fun K hK => ?_)
   refine goes_ Try.func58 (by kernel_rfl) rfl #[.int .i64 ((rd_T37 l0 0).f1), .int .i64 t413] (by rfl) rfl rfl (by (try simp only [List.map_toArray, List.map_cons, List.map_nil]); first | done | rfl | (simp only [List.length_drop, List.length_take]; rfl)) ?_
   with_reducible refine (combine_away.calls ((rd_T37 l0 0).f1) t413 t417 _ A5.out).mono ?_
   rintro e w8 ⟨rfl, hb⟩
   refine ⟨_, rfl, ?_⟩
   have n0_ := Aside0.mk (below_step (by repeat (first | (with_reducible first | exact HB.out | apply below_alloc | apply pw_below_drewN | apply below_drew1) | exact HB.out)) hb)
   clear HB
   have HB := n0_
   clear n0_
   (try clear hb)
   (try clear hb2)
   (try clear hk)
   (try clear hi)
   refine hK.out _ _ ⟨((HB.out.cell (World.block_lt_of_cell? w _ hw415_0)).trans hw415_0), ((HB.out.cell (World.block_lt_of_cell? w _ hw415_1)).trans hw415_1), ((HB.out.cell (World.block_lt_of_cell? w _ hw415_2)).trans hw415_2), ((HB.out.cell (World.block_lt_of_cell? w _ hw415_3)).trans hw415_3), ((HB.out.cell (World.block_lt_of_cell? w _ hw415_4)).trans hw415_4), ((HB.out.cell (World.block_lt_of_cell? w _ hw416_0)).trans hw416_0), ((HB.out.cell (World.block_lt_of_cell? w _ hw416_1)).trans hw416_1), ((HB.out.cell (World.block_lt_of_cell? w _ hw416_2)).trans hw416_2), ((HB.out.cell (World.block_lt_of_cell? w _ hw416_3)).trans hw416_3), ((HB.out.cell (World.block_lt_of_cell? w _ hw416_4)).trans hw416_4)⟩ (fun hHeld => ?_)
   clear hK K
   refine norm_ (a' := ?_) ?_ ?_
   rotate_left
   ·show Act.put _ (some 24) _ = _
    simp only [Act.put, List.setIfInBounds_toArray, List.set_cons_zero, List.set_cons_succ, i64_w, i32_w]
    rfl
   refine pure_ (i := 10) (N := some 25) (v := ?_) (a' := ?_) #[true, true, true, true, true, true, true, true, true, true, true, false] rfl rfl (any_of HT_.out (by kernel_rfl)) (fun _ _ _ h => h) (Or.inl ⟨by rfl, ?_⟩) ?_ ?_
   rotate_left
   ·intro w'
    go_simp
    with_reducible rfl
   rotate_left
   ·simp only [Act.put, List.setIfInBounds_toArray, List.set_cons_zero, List.set_cons_succ, i64_w, i32_w]
    rfl
   refine pure_ (i := 11) (N := some 5) (v := ?_) (a' := ?_) #[true, true, true, true, true, true, true, true, true, true, true, true] rfl rfl (any_of HT_.out (by kernel_rfl)) (fun _ _ _ h => h) (Or.inl ⟨by rfl, ?_⟩) ?_ ?_
   rotate_left
   ·intro w'
    go_simp
    with_reducible rfl
   rotate_left
   ·simp only [Act.put, List.setIfInBounds_toArray, List.set_cons_zero, List.set_cons_succ, i64_w, i32_w]
    rfl
   refine done_ (done_of HT_.out (by kernel_rfl)) ?_
   try go_wp2
   go_loopg [5, 28] k (fun kq v5 v28 w' => ∃ (x5_1 : Int) (x28_1 : Int), v5 = .int .i64 x5_1 ∧ v28 = .int .i64 x28_1 ∧ Aside0 (combine_Dist.l0 kq t413 x5_1 l0 (l0.length : Int) x28_1 = some r) ∧ Aside0 (kq ≤ k) ∧ Aside0 (Below w.heap.size w w'))
   case atStart => exact ⟨(wrap64 (((rd_T37 l0 0).f2) + t417)), (0), (by first | rfl | (simp; done) | (simp [*]; done)), (by first | rfl | (simp; done) | (simp [*]; done)), H', ⟨Nat.le_refl _⟩, ⟨by repeat (first | (with_reducible first | exact HB.out | apply below_alloc | apply pw_below_drewN | apply below_drew1) | exact HB.out)⟩⟩
   case round =>
    clear H'
    try clear c2
    try clear p2
    try clear c3
    try clear c3b0
    try clear c3b1
    try clear c4
    try clear c4b0
    try clear c4b1
    try clear p4
    try clear q4
    try clear hx4
    try clear qi4
    try clear c5
    try clear p6
    try clear hx415_0
    try clear hx415_1
    try clear hx415_2
    try clear hx415_3
    try clear hx415_4
    try clear hx416_0
    try clear hx416_1
    try clear hx416_2
    try clear hx416_3
    try clear hx416_4
    try clear p415
    try clear p416
    try clear q415
    try clear q416
    obtain ⟨x5_1, x28_1, rfl, rfl, HA, HK1, HB⟩ := hrel
    cases gk with
    | zero => exact absurd HA.out (by simp [combine_Dist.l0])
    | succ k1 =>
     have H := HA.out
     clear HA
     simp only [combine_Dist.l0] at H
     by_cases c9 : x28_1 < (l0.length : Int)
     ·rw [if_pos c9] at H
      have c9b0 : decide (x28_1 < (l0.length : Int)) = true := decide_eq_true c9
      clear c9
      by_cases c10 : 0 ≤ x28_1
      ·rw [if_pos c10] at H
       have c10b0 : decide (0 ≤ x28_1) = true := decide_eq_true c10
       clear c10
       by_cases c11 : x28_1 < (l0.length : Int)
       ·rw [if_pos c11] at H
        have c11b0 : decide (x28_1 < (l0.length : Int)) = true := decide_eq_true c11
        clear c11
        replace H := Option.bind_eq_some_iff.mp H
        obtain ⟨t420, A120, H⟩ := H
        replace H : (combine_Dist.l0 k1 t413 (mn x5_1 (wrap64 (((rd_T37 l0 x28_1).f2) + t420))) l0 (l0.length : Int) (wrap64 (x28_1 + 1))) = some r := H
        have A12 := Aside0.mk A120
        clear A120
        obtain ⟨ji13, hji13⟩ : ∃ j_ : Int, (mn x5_1 (wrap64 (((rd_T37 l0 x28_1).f2) + t420))) = j_ := ⟨_, rfl⟩
        replace H : (combine_Dist.l0 k1 t413 ji13 l0 (l0.length : Int) (wrap64 (x28_1 + 1))) = some r := by first | (rw [hji13] at H; exact H) | (simp only [hji13] at H ⊢; exact H)
        (try rw [hji13] at A12)
        have hji13_ : (if (wrap64 (((rd_T37 l0 x28_1).f2) + t420)) < x5_1 then (wrap64 (((rd_T37 l0 x28_1).f2) + t420)) else x5_1) = ji13 := hji13
        have H' := Aside0.mk H
        clear H
        have p418 : 0 ≤ (x28_1 : Int) := of_decide_eq_true (by first | (with_reducible assumption) | assumption)
        have q418 : x28_1 < (l0.length : Int) := of_decide_eq_true (by first | (with_reducible assumption) | assumption)
        obtain ⟨ad418, e418, hx418_0, hx418_1, hx418_2, hx418_3, hx418_4⟩ := at_T37 HR0.out x28_1 p418 q418
        obtain rfl : ad415 = ad418 := (by injection e418)
        try replace hx418_0 := (HB.out.cell (World.block_lt_of_cell? w _ hx418_0)).trans hx418_0
        try replace hx418_1 := (HB.out.cell (World.block_lt_of_cell? w _ hx418_1)).trans hx418_1
        try replace hx418_2 := (HB.out.cell (World.block_lt_of_cell? w _ hx418_2)).trans hx418_2
        try replace hx418_3 := (HB.out.cell (World.block_lt_of_cell? w _ hx418_3)).trans hx418_3
        try replace hx418_4 := (HB.out.cell (World.block_lt_of_cell? w _ hx418_4)).trans hx418_4
        replace p418 := eq_true p418
        replace q418 := eq_true q418
        try go_wp2_with (first | ((with_reducible refine gate_dst (N := 7) rfl ?_); refine box_event ?hg (N := 7) ?hd (cs := #[.int .i64 0, .int .i64 0, .int .i64 0, .int .i64 0, .int .i64 0]) (t := 37) ?hr ?_; (case hd => rfl); (case hg => rfl); (case hr => first | (go_simp; done) | (go_simp; rfl)); intro gb419 hg w14 hbox hb; have n0_ := Aside0.mk (below_step (by repeat (first | (with_reducible first | exact HB.out | apply below_alloc | apply pw_below_drewN | apply below_drew1) | exact HB.out)) hb); have n1_ := Aside0.mk (hbox); have n2_ := Aside0.mk ((by rw [hg]; exact (below_size (by repeat (first | (with_reducible first | exact HB.out | apply below_alloc | apply pw_below_drewN | apply below_drew1) | exact HB.out))) : w.heap.size ≤ gb419)); have n3_ := Aside0.mk ((by rw [hg]; exact (below_size (by repeat (first | (with_reducible first | exact HB.out | apply below_alloc | apply pw_below_drewN | apply below_drew1) | exact HB.out))) : w.heap.size ≤ gb419)); clear HB; have HB := n0_; have BK419 := n1_; have GW419 := n2_; have GE419 := n3_; clear n0_ n1_ n2_ n3_; clear hb hbox hg; have hcz15_0 : w14.cell? ⟨gb419, 0, none⟩ = some (.int .i64 0) := (blk_cell BK419.out 0).trans rfl; have hcz15_1 : w14.cell? ⟨gb419, 1, none⟩ = some (.int .i64 0) := (blk_cell BK419.out 1).trans rfl; have hcz15_2 : w14.cell? ⟨gb419, 2, none⟩ = some (.int .i64 0) := (blk_cell BK419.out 2).trans rfl; have hcz15_3 : w14.cell? ⟨gb419, 3, none⟩ = some (.int .i64 0) := (blk_cell BK419.out 3).trans rfl; have hcz15_4 : w14.cell? ⟨gb419, 4, none⟩ = some (.int .i64 0) := (blk_cell BK419.out 4).trans rfl; have hfz15_0 := blk_frozen BK419.out 0; have hfz15_1 := blk_frozen BK419.out 1; have hfz15_2 := blk_frozen BK419.out 2; have hfz15_3 := blk_frozen BK419.out 3; have hfz15_4 := blk_frozen BK419.out 4))
        have n0_ : Aside0 ((((((w14.setCell ⟨gb419, 0, none⟩ (.int .i64 ((rd_T37 l0 x28_1).f0))).setCell ⟨gb419, 1, none⟩ (.int .i64 ((rd_T37 l0 x28_1).f1))).setCell ⟨gb419, 2, none⟩ (.int .i64 ((rd_T37 l0 x28_1).f2))).setCell ⟨gb419, 3, none⟩ (.int .i64 ((rd_T37 l0 x28_1).f3))).setCell ⟨gb419, 4, none⟩ (.int .i64 ((rd_T37 l0 x28_1).f4))).heap[gb419]? = some (.cells #[.int .i64 ((rd_T37 l0 x28_1).f0), .int .i64 ((rd_T37 l0 x28_1).f1), .int .i64 ((rd_T37 l0 x28_1).f2), .int .i64 ((rd_T37 l0 x28_1).f3), .int .i64 ((rd_T37 l0 x28_1).f4)] 37 (0, 0))) := ⟨by (with_reducible repeat (first | refine blk_drewN ?_ _ | refine blk_drew ?_ | refine blk_alloc ?_ _)); refine blk_put (cs := #[.int .i64 ((rd_T37 l0 x28_1).f0), .int .i64 ((rd_T37 l0 x28_1).f1), .int .i64 ((rd_T37 l0 x28_1).f2), .int .i64 ((rd_T37 l0 x28_1).f3), .int .i64 0]) ?_ 4 _ rfl; (with_reducible repeat (first | refine blk_drewN ?_ _ | refine blk_drew ?_ | refine blk_alloc ?_ _)); refine blk_put (cs := #[.int .i64 ((rd_T37 l0 x28_1).f0), .int .i64 ((rd_T37 l0 x28_1).f1), .int .i64 ((rd_T37 l0 x28_1).f2), .int .i64 0, .int .i64 0]) ?_ 3 _ rfl; (with_reducible repeat (first | refine blk_drewN ?_ _ | refine blk_drew ?_ | refine blk_alloc ?_ _)); refine blk_put (cs := #[.int .i64 ((rd_T37 l0 x28_1).f0), .int .i64 ((rd_T37 l0 x28_1).f1), .int .i64 0, .int .i64 0, .int .i64 0]) ?_ 2 _ rfl; (with_reducible repeat (first | refine blk_drewN ?_ _ | refine blk_drew ?_ | refine blk_alloc ?_ _)); refine blk_put (cs := #[.int .i64 ((rd_T37 l0 x28_1).f0), .int .i64 0, .int .i64 0, .int .i64 0, .int .i64 0]) ?_ 1 _ rfl; (with_reducible repeat (first | refine blk_drewN ?_ _ | refine blk_drew ?_ | refine blk_alloc ?_ _)); refine blk_put (cs := #[.int .i64 0, .int .i64 0, .int .i64 0, .int .i64 0, .int .i64 0]) ?_ 0 _ rfl; (with_reducible repeat (first | refine blk_drewN ?_ _ | refine blk_drew ?_ | refine blk_alloc ?_ _)); exact BK419.out⟩
        have n1_ : Aside0 (Below w.heap.size w (((((w14.setCell ⟨gb419, 0, none⟩ (.int .i64 ((rd_T37 l0 x28_1).f0))).setCell ⟨gb419, 1, none⟩ (.int .i64 ((rd_T37 l0 x28_1).f1))).setCell ⟨gb419, 2, none⟩ (.int .i64 ((rd_T37 l0 x28_1).f2))).setCell ⟨gb419, 3, none⟩ (.int .i64 ((rd_T37 l0 x28_1).f3))).setCell ⟨gb419, 4, none⟩ (.int .i64 ((rd_T37 l0 x28_1).f4)))) := ⟨by repeat (first | (with_reducible first | exact HB.out | apply below_alloc | apply pw_below_drewN | apply below_drew1 | refine below_set ?_ GE419.out) | exact HB.out)⟩
        (try clear BK419)
        (try clear HB)
        generalize (((((w14.setCell ⟨gb419, 0, none⟩ (.int .i64 ((rd_T37 l0 x28_1).f0))).setCell ⟨gb419, 1, none⟩ (.int .i64 ((rd_T37 l0 x28_1).f1))).setCell ⟨gb419, 2, none⟩ (.int .i64 ((rd_T37 l0 x28_1).f2))).setCell ⟨gb419, 3, none⟩ (.int .i64 ((rd_T37 l0 x28_1).f3))).setCell ⟨gb419, 4, none⟩ (.int .i64 ((rd_T37 l0 x28_1).f4))) = w16 at n0_ n1_ ⊢
        have BK419 := n0_
        have HB := n1_
        clear n0_ n1_
        have n0_ := Aside0.mk (blk_drew BK419.out)
        have n1_ := Aside0.mk (below_drew1 HB.out)
        clear BK419
        clear HB
        have BK419 := n0_
        have HB := n1_
        clear n0_ n1_
        refine start_ (n := 10) (S := fun w' => w'.cell? ⟨gb419, 0, none⟩ = some (.int .i64 ((rd_T37 l0 x28_1).f0)) ∧ w'.cell? ⟨gb419, 1, none⟩ = some (.int .i64 ((rd_T37 l0 x28_1).f1)) ∧ w'.cell? ⟨gb419, 2, none⟩ = some (.int .i64 ((rd_T37 l0 x28_1).f2)) ∧ w'.cell? ⟨gb419, 3, none⟩ = some (.int .i64 ((rd_T37 l0 x28_1).f3)) ∧ w'.cell? ⟨gb419, 4, none⟩ = some (.int .i64 ((rd_T37 l0 x28_1).f4))) (ds := []) #[false, false, false, false, false, false, false, false, false, false] (by kernel_rfl) rfl rfl ⟨(blk_cell BK419.out 0).trans rfl, (blk_cell BK419.out 1).trans rfl, (blk_cell BK419.out 2).trans rfl, (blk_cell BK419.out 3).trans rfl, (blk_cell BK419.out 4).trans rfl⟩ (fun hHeld => ?_); refine with_tabW combine_Dist.tab8 combine_Dist.bits8 (fun HT_ HW_ => ?_)
        generalize w16.drew = w17 at BK419 HB hHeld ⊢
        refine pure_ (i := 0) (N := some 32) (v := ?_) (a' := ?_) #[true, false, false, false, false, false, false, false, false, false] rfl rfl (any_of HT_.out (by kernel_rfl)) (fun _ _ _ h => h) (Or.inl ⟨by rfl, ?_⟩) ?_ ?_
        rotate_left
        ·intro w'
         go_simp
         with_reducible rfl
        rotate_left
        ·simp only [Act.put, List.setIfInBounds_toArray, List.set_cons_zero, List.set_cons_succ, i64_w, i32_w]
         rfl
        refine pure_ (i := 1) (N := some 33) (v := ?_) (a' := ?_) #[true, true, false, false, false, false, false, false, false, false] rfl rfl (any_of HT_.out (by kernel_rfl)) (fun _ _ _ h => h) (Or.inl ⟨by rfl, ?_⟩) ?_ ?_
        rotate_left
        ·intro w'
         go_simp
         with_reducible rfl
        rotate_left
        ·simp only [Act.put, List.setIfInBounds_toArray, List.set_cons_zero, List.set_cons_succ, i64_w, i32_w]
         rfl
        refine pure_ (i := 3) (N := some 35) (v := ?_) (a' := ?_) #[true, true, false, true, false, false, false, false, false, false] rfl rfl (any_of HT_.out (by kernel_rfl)) (fun _ _ _ h => h) (Or.inl ⟨by rfl, ?_⟩) ?_ ?_
        rotate_left
        ·intro w'
         go_simp
         with_reducible rfl
        rotate_left
        ·simp only [Act.put, List.setIfInBounds_toArray, List.set_cons_zero, List.set_cons_succ, i64_w, i32_w]
         rfl
        refine pure_ (i := 5) (N := some 37) (v := ?_) (a' := ?_) #[true, true, false, true, false, true, false, false, false, false] rfl rfl (any_of HT_.out (by kernel_rfl)) (fun _ _ _ h => h) (Or.inl ⟨by rfl, ?_⟩) ?_ ?_
        rotate_left
        ·intro w'
         go_simp
         with_reducible rfl
        rotate_left
        ·simp only [Act.put, List.setIfInBounds_toArray, List.set_cons_zero, List.set_cons_succ, i64_w, i32_w]
         rfl
        refine take_ (i := 2) (N := some 34) (v := ?_) (a' := ?_) #[true, true, true, true, false, true, false, false, false, false] rfl rfl (take_ofW HT_.out HW_.out (by kernel_rfl)) (fun _ _ _ h => h) (Or.inl ⟨by rfl, ?_⟩) hHeld ?_ ?_
        rotate_left
        ·rintro w' ⟨s0, s1, s2, s3, s4⟩
         go_simp
         with_reducible rfl
        rotate_left
        ·simp only [Act.put, List.setIfInBounds_toArray, List.set_cons_zero, List.set_cons_succ, i64_w, i32_w]
         rfl
        refine take_ (i := 4) (N := some 36) (v := ?_) (a' := ?_) #[true, true, true, true, true, true, false, false, false, false] rfl rfl (take_ofW HT_.out HW_.out (by kernel_rfl)) (fun _ _ _ h => h) (Or.inl ⟨by rfl, ?_⟩) hHeld ?_ ?_
        rotate_left
        ·rintro w' ⟨s0, s1, s2, s3, s4⟩
         go_simp
         with_reducible rfl
        rotate_left
        ·simp only [Act.put, List.setIfInBounds_toArray, List.set_cons_zero, List.set_cons_succ, i64_w, i32_w]
         rfl
        refine one_ (i := 6) (N := some 38) #[true, true, true, true, true, true, true, false, false, false] rfl rfl (one_of HT_.out (by kernel_rfl)) (by decide) (fun K hK => ?_)
        refine goes_ Try.func58 (by kernel_rfl) rfl #[.int .i64 ((rd_T37 l0 x28_1).f1), .int .i64 t413] (by rfl) rfl rfl (by (try simp only [List.map_toArray, List.map_cons, List.map_nil]); first | done | rfl | (simp only [List.length_drop, List.length_take]; rfl)) ?_
        with_reducible refine (combine_away.calls ((rd_T37 l0 x28_1).f1) t413 t420 _ A12.out).mono ?_
        rintro e w18 ⟨rfl, hb⟩
        refine ⟨_, rfl, ?_⟩
        have n0_ := Aside0.mk (blk_below (g := gb419) (o := .cells #[.int .i64 ((rd_T37 l0 x28_1).f0), .int .i64 ((rd_T37 l0 x28_1).f1), .int .i64 ((rd_T37 l0 x28_1).f2), .int .i64 ((rd_T37 l0 x28_1).f3), .int .i64 ((rd_T37 l0 x28_1).f4)] 37 (0, 0)) (by (with_reducible repeat (first | refine blk_drewN ?_ _ | refine blk_drew ?_ | refine blk_alloc ?_ _)); exact BK419.out) hb)
        have n1_ := Aside0.mk (below_step (by repeat (first | (with_reducible first | exact HB.out | apply below_alloc | apply pw_below_drewN | apply below_drew1 | refine below_set ?_ GE419.out) | exact HB.out)) hb)
        clear BK419
        clear HB
        have BK419 := n0_
        have HB := n1_
        clear n0_ n1_
        (try clear hb)
        (try clear hb2)
        (try clear hk)
        (try clear hi)
        refine hK.out _ _ ⟨(blk_cell BK419.out 0).trans rfl, (blk_cell BK419.out 1).trans rfl, (blk_cell BK419.out 2).trans rfl, (blk_cell BK419.out 3).trans rfl, (blk_cell BK419.out 4).trans rfl⟩ (fun hHeld => ?_)
        clear hK K
        refine norm_ (a' := ?_) ?_ ?_
        rotate_left
        ·show Act.put _ (some 38) _ = _
         simp only [Act.put, List.setIfInBounds_toArray, List.set_cons_zero, List.set_cons_succ, i64_w, i32_w]
         rfl
        refine pure_ (i := 7) (N := some 39) (v := ?_) (a' := ?_) #[true, true, true, true, true, true, true, true, false, false] rfl rfl (any_of HT_.out (by kernel_rfl)) (fun _ _ _ h => h) (Or.inl ⟨by rfl, ?_⟩) ?_ ?_
        rotate_left
        ·intro w'
         go_simp
         with_reducible rfl
        rotate_left
        ·simp only [Act.put, List.setIfInBounds_toArray, List.set_cons_zero, List.set_cons_succ, i64_w, i32_w]
         rfl
        refine pure_ (i := 8) (N := some 40) (v := ?_) (a' := ?_) #[true, true, true, true, true, true, true, true, true, false] rfl rfl (any_of HT_.out (by kernel_rfl)) (fun _ _ _ h => h) (Or.inl ⟨by rfl, ?_⟩) ?_ ?_
        rotate_left
        ·intro w'
         go_simp
         with_reducible rfl
        rotate_left
        ·simp only [Act.put, List.setIfInBounds_toArray, List.set_cons_zero, List.set_cons_succ, i64_w, i32_w]
         rfl
        refine pure_ (i := 9) (N := some 5) (v := ?_) (a' := ?_) #[true, true, true, true, true, true, true, true, true, true] rfl rfl (any_of HT_.out (by kernel_rfl)) (fun _ _ _ h => h) (Or.inl ⟨by rfl, ?_⟩) ?_ ?_
        rotate_left
        ·intro w'
         go_simp
         with_reducible rfl
        rotate_left
        ·simp only [Act.put, List.setIfInBounds_toArray, List.set_cons_zero, List.set_cons_succ, i64_w, i32_w]
         rfl
        refine done_ (done_of HT_.out (by kernel_rfl)) ?_
        try go_wp2
        go_roundg k1
        case measure => have := HK1.out; omega
        case rel => exact ⟨(ji13), (wrap64 (x28_1 + 1)), (by first | rfl | (simp; done) | (simp only [← hji13] <;> (first | rfl | simp)) | (simp [*]; done)), (by first | rfl | (simp; done) | (simp [*]; done)), H', ⟨by have := HK1.out; omega⟩, ⟨by repeat (first | (with_reducible first | exact HB.out | apply below_alloc | apply pw_below_drewN | apply below_drew1 | refine below_set ?_ GE419.out) | exact HB.out)⟩⟩
       ·rw [if_neg c11] at H
        exact absurd H (by simp)
      ·rw [if_neg c10] at H
       exact absurd H (by simp)
     ·rw [if_neg c9] at H
      have c9b0 : decide (x28_1 < (l0.length : Int)) = false := decide_eq_false c9
      clear c9
      obtain rfl := Option.some.inj H
      go_wp2
      go_ret
      exact ⟨by first | rfl | (simp [errW_none, errW_some] <;> rfl) | (simp [*, errW_none, errW_some] <;> rfl), by repeat (first | (with_reducible first | exact HB.out | apply below_alloc | apply pw_below_drewN | apply below_drew1) | exact HB.out)⟩
  ·rw [if_neg c4] at H
   exact absurd H (by simp)
 ·rw [if_neg c3] at H
  have c3b0 : (t414 == 0) = false := beq_eq_false_iff_ne.mpr c3
  have c3b1 : (t414 != 0) = true := bne_iff_ne.mpr c3
  obtain rfl := Option.some.inj H
  go_enter Try.func27, Try.ntmps27
  go_wp2_with (first | ((with_reducible refine gate_callee (f := 26) rfl ?_); refine goesL_ (some 10) rfl rfl Try.func26 (by kernel_rfl) rfl #[.slice A0 l0.length c0] rfl (by (try simp only [List.map_toArray, List.map_cons, List.map_nil]); first | done | rfl | (simp only [List.length_drop, List.length_take]; rfl)) ?_; (with_reducible refine (combine_Mean.calls k _ _ l0 t413 t414 _ ?side1 ?side2 A2.out).mono ?_); (case side1 => repeat (first | exact HR0.out | (with_reducible refine Kd.C_alloc ?_ _) | (with_reducible refine Kd.C_drewN ?_ _) | (with_reducible refine Kd.C_drew ?_))); (case side2 => exact HC0.out); rintro e w19 ⟨rfl, hb⟩; refine ⟨_, rfl, ?_⟩; have n0_ := Aside0.mk (below_step (by repeat (first | (with_reducible first | exact HB.out | apply below_alloc | apply pw_below_drewN | apply below_drew1) | exact HB.out)) hb); clear HB; have HB := n0_; clear n0_; (try clear hb); (try clear hb2); (try clear hk); (try clear hi)))
  go_ret
  exact ⟨by first | rfl | (simp [errW_none, errW_some] <;> rfl) | (simp [*, errW_none, errW_some] <;> rfl), by repeat (first | (with_reducible first | exact HB.out | apply below_alloc | apply pw_below_drewN | apply below_drew1) | exact HB.out)⟩

end Go.Proofs.Ytlfilhplklifjaa.X

namespace Go.Proofs.Ytlfilhplklifjaa.X
open Go.RowKit Go.Proofs.YtlfilhplklifjaaW.PrintWords Go.Proofs.YtlfilhplklifjaaW.PrintLast Go.Proofs.YtlfilhplklifjaaW.PrintMore
attribute [local go_sem] max2_int min2_int max_two min_two max_three min_three max_four min_four   -- for this text's walks alone
set_option linter.unusedVariables false
set_option linter.unusedSimpArgs false

/-! ### timesynctop_TopMean: function 7 -/
mutual
def timesynctop_TopMean.j0 : Nat → List (S37) → Int → Int → Bool → Option (Bool)
 | 0, _, _, _, _ => none
 | k + 1, x0, x1, x2, x27 => if x27 = true then (some true) else ((choose_Select.f k x0).bind fun bt421 => (if bt421.2.2.2 = 0 then (timesynctop_TopMean.l0 k x0 x1 x2 ([] : List (S37)) bt421.1 (bt421.1.length : Int) 0) else ((timesynctop_awake10.f k).bind fun t428 => (some t428))))
def timesynctop_TopMean.l0 : Nat → List (S37) → Int → Int → List (S37) → List Int → Int → Int → Option (Bool)
 | 0, _, _, _, _, _, _, _ => none
 | k + 1, x0, x1, x2, x10, x37, x38, x39 => if x39 < x38 then (if 0 ≤ x39 then (if x39 < (x37.length : Int) then (if (rd x37 x39) < 0 then (none) else (if (rd x37 x39) ≥ (x0.length : Int) then (none) else (if 0 ≤ (rd x37 x39) then (if (rd x37 x39) < (x0.length : Int) then (if x10.length < 3518437208883 then (timesynctop_TopMean.l0 k x0 x1 x2 (x10 ++ [(⟨(rd_T37 x0 (rd x37 x39)).f0, (rd_T37 x0 (rd x37 x39)).f1, (rd_T37 x0 (rd x37 x39)).f2, (rd_T37 x0 (rd x37 x39)).f3, (rd_T37 x0 (rd x37 x39)).f4⟩ : S37)]) x37 x38 (wrap64 (x39 + 1))) else (none)) else (none)) else (none)))) else (none)) else (none)) else ((cluster_Prune.f k x10 x2).bind fun bt434 => (if bt434.2 = 0 then (timesynctop_TopMean.l1 k x1 bt434.1 bt434.1 (bt434.1.length : Int) 0) else (some (decide (x2 < 1)))))
def timesynctop_TopMean.l1 : Nat → Int → List (S37) → List (S37) → Int → Int → Option (Bool)
 | 0, _, _, _, _, _ => none
 | k + 1, x1, x10, x69, x70, x71 => if x71 < x70 then (if 0 ≤ x71 then (if x71 < (x69.length : Int) then (if x1 < (wrap64 (((rd_T37 x69 x71).f1) - ((rd_T37 x69 x71).f2))) then (some true) else (if x1 > (wrap64 (((rd_T37 x69 x71).f1) + ((rd_T37 x69 x71).f2))) then (some true) else (timesynctop_TopMean.l1 k x1 x10 x69 x70 (wrap64 (x71 + 1))))) else (none)) else (none)) else ((combine_Mean.f k x10).bind fun bt440 => ((combine_Dist.f k x10).bind fun t442 => (if bt440.2 = 0 then (if (x10.length : Int) > 0 then (if (wrap64 (bt440.1 - x1)) ≤ t442 then (some (decide ((wrap64 (x1 - bt440.1)) ≤ t442))) else (none)) else (none)) else (none))))
end
def timesynctop_TopMean.f (k : Nat) (l0 : List (S37)) (a1 : Int) (a2 : Int) : Option (Bool) := if (l0.length : Int) > 100 then (timesynctop_TopMean.j0 k l0 a1 a2 true) else (if a1 < (-4503599627370496) then (timesynctop_TopMean.j0 k l0 a1 a2 true) else (timesynctop_TopMean.j0 k l0 a1 a2 (decide (a1 > 4503599627370496))))
set_option maxHeartbeats 8000000 in
set_option maxRecDepth 100000 in
theorem timesynctop_TopMean.calls (k : Nat) (A0 : Option Addr) (c0 : Nat) (l0 : List (S37)) (a1 : Int) (a2 : Int) (r : Bool) (w : World) (hr0 : Kd.C k37 w A0 l0.length l0) (hc0 : l0.length ≤ c0) (h : timesynctop_TopMean.f k l0 a1 a2 = some r) :
  Calls Try.prog 7 #[.slice A0 l0.length c0, .int .i64 a1, .int .i64 a2] w fun e w' => e = .returned (.bool r) ∧ Below w.heap.size w w' := by
 have hu29 := Try.underlying29
 have hu37 := Try.underlying37
 have HR0 := Aside0.mk hr0
 have HC0 := Aside0.mk hc0
 clear hr0 hc0
 have HB := Aside0.mk (Below.refl w.heap.size w)
 have H : (if (l0.length : Int) > 100 then (timesynctop_TopMean.j0 k l0 a1 a2 true) else (if a1 < (-4503599627370496) then (timesynctop_TopMean.j0 k l0 a1 a2 true) else (timesynctop_TopMean.j0 k l0 a1 a2 (decide (a1 > 4503599627370496))))) = some r := h
 clear h
 have HC4 := Aside0.mk H
 clear H
 go_enter Try.func7, Try.ntmps7
 go_upto_region 1 with (fail)
 go_cut [27] (fun v27 wc => ∃ (kq : Nat) (x27_3 : Bool), v27 = .bool x27_3 ∧ Aside0 (timesynctop_TopMean.j0 kq l0 a1 a2 x27_3 = some r) ∧ Aside0 (kq ≤ k) ∧ Aside0 (Below w.heap.size w wc))
 case first =>
  have H := HC4.out
  clear HC4
  by_cases c5 : (l0.length : Int) > 100
  ·rw [if_pos c5] at H
   have c5b0 : decide (100 < (l0.length : Int)) = true := decide_eq_true c5
   have c5b1 : decide (100 < l0.length) = true := decide_eq_true (by omega)
   clear c5
   (first | rw [c5b0] | (simp only [i64_w, i32_w]; rw [c5b0]) | skip)
   have H' := Aside0.mk H
   clear H
   go_wp2
   go_meet
   case rel => exact ⟨_, (true), (by first | rfl | (simp; done) | (simp [*]; done)), H', ⟨by first | omega | exact Nat.le_refl _⟩, ⟨by repeat (first | (with_reducible first | exact HB.out | apply below_alloc | apply pw_below_drewN | apply below_drew1) | exact HB.out)⟩⟩
  ·rw [if_neg c5] at H
   have c5b0 : decide (100 < (l0.length : Int)) = false := decide_eq_false c5
   have c5b1 : decide (100 < l0.length) = false := decide_eq_false (by omega)
   clear c5
   (first | rw [c5b0] | (simp only [i64_w, i32_w]; rw [c5b0]) | skip)
   by_cases c6 : a1 < (-4503599627370496)
   ·rw [if_pos c6] at H
    have c6b0 : decide (a1 < (-4503599627370496)) = true := decide_eq_true c6
    clear c6
    have H' := Aside0.mk H
    clear H
    go_wp2
    go_meet
    case rel => exact ⟨_, (true), (by first | rfl | (simp; done) | (simp [*]; done)), H', ⟨by first | omega | exact Nat.le_refl _⟩, ⟨by repeat (first | (with_reducible first | exact HB.out | apply below_alloc | apply pw_below_drewN | apply below_drew1) | exact HB.out)⟩⟩
   ·rw [if_neg c6] at H
    have c6b0 : decide (a1 < (-4503599627370496)) = false := decide_eq_false c6
    clear c6
    have H' := Aside0.mk H
    clear H
    go_wp2
    go_meet
    case rel => exact ⟨_, (decide (a1 > 4503599627370496)), (by first | rfl | (simp; done) | (simp [*]; done)), H', ⟨by first | omega | exact Nat.le_refl _⟩, ⟨by repeat (first | (with_reducible first | exact HB.out | apply below_alloc | apply pw_below_drewN | apply below_drew1) | exact HB.out)⟩⟩
 case rest =>
  clear HC4
  try clear p2
  try clear c5
  try clear c5b0
  try clear c5b1
  try clear c6
  try clear c6b0
  obtain ⟨kq, x27_3, rfl, HA, HJ3, HB⟩ := hcut
  cases kq with
  | zero => exact absurd HA.out (by simp [timesynctop_TopMean.j0])
  | succ kj3 =>
   have H := HA.out
   clear HA
   simp only [timesynctop_TopMean.j0] at H
   by_cases c7 : x27_3 = true
   ·subst c7
    have H1 : (some true) = some r := by rw [if_pos rfl] at H; exact H
    clear H
    have H := H1
    clear H1
    obtain rfl := Option.some.inj H
    go_wp2
    go_ret
    exact ⟨by first | rfl | (simp [errW_none, errW_some] <;> rfl) | (simp [*, errW_none, errW_some] <;> rfl), by repeat (first | (with_reducible first | exact HB.out | apply below_alloc | apply pw_below_drewN | apply below_drew1) | exact HB.out)⟩
   ·replace c7 := Bool.eq_false_iff.mpr c7
    subst c7
    have H1 : ((choose_Select.f kj3 l0).bind fun bt421 => (if bt421.2.2.2 = 0 then (timesynctop_TopMean.l0 kj3 l0 a1 a2 ([] : List (S37)) bt421.1 (bt421.1.length : Int) 0) else ((timesynctop_awake10.f kj3).bind fun t428 => (some t428)))) = some r := by rw [if_neg (show ¬ (false = true) by decide)] at H; exact H
    clear H
    have H := H1
    clear H1
    replace H := Option.bind_eq_some_iff.mp H
    obtain ⟨⟨t421, t424, t425, t426⟩, A80, H⟩ := H
    replace H : (if t426 = 0 then (timesynctop_TopMean.l0 kj3 l0 a1 a2 ([] : List (S37)) t421 (t421.length : Int) 0) else ((timesynctop_awake10.f kj3).bind fun t428 => (some t428))) = some r := H
    have A8 := Aside0.mk A80
    clear A80
    by_cases c9 : t426 = 0
    ·rw [if_pos c9] at H
     have c9b0 : (t426 == 0) = true := beq_iff_eq.mpr c9
     have c9b1 : (t426 != 0) = false := bne_eq_false_iff_eq.mpr c9
     clear c9
     have H' := Aside0.mk H
     clear H
     go_wp2_with (first | ((with_reducible refine gate_callee (f := 17) rfl ?_); refine goesL_ (some 30) rfl rfl Try.func17 (by kernel_rfl) rfl #[.slice A0 l0.length c0] rfl (by (try simp only [List.map_toArray, List.map_cons, List.map_nil]); first | done | rfl | (simp only [List.length_drop, List.length_take]; rfl)) ?_; (with_reducible refine (choose_Select.calls kj3 _ _ l0 t421 t424 t425 t426 _ ?side1 ?side2 A8.out).mono ?_); (case side1 => repeat (first | exact (Kd.C_below HR0.out HB.out) | (with_reducible refine Kd.C_alloc ?_ _) | (with_reducible refine Kd.C_drewN ?_ _) | (with_reducible refine Kd.C_drew ?_))); (case side2 => exact HC0.out); rintro e w10 ⟨v422, rfl, ho0, hb⟩; refine ⟨_, rfl, ?_⟩; have n0_ := Aside0.mk (Kd.R_lower ho0 (below_size (by repeat (first | (with_reducible first | exact HB.out | apply below_alloc | apply pw_below_drewN | apply below_drew1) | exact HB.out)))); have n1_ := Aside0.mk (below_step (by repeat (first | (with_reducible first | exact HB.out | apply below_alloc | apply pw_below_drewN | apply below_drew1) | exact HB.out)) hb); clear HB; have HO423 := n0_; have HB := n1_; clear n0_ n1_; (try clear hb); (try clear hb2); (try clear hk); (try clear hi); (try clear ho0)) | ((with_reducible refine gate_dst (N := 8) rfl ?_); (try (refine gate_guard (by rfl) ?_; dsimp only)); refine box_event ?hg (N := 8) ?hd (cs := #[.int .i64 0, .int .i64 0]) (t := 29) ?hr ?_; (case hd => rfl); (case hg => rfl); (case hr => first | (go_simp; done) | (go_simp; rfl)); intro gb427 hg w11 hbox hb; have n0_ := Aside0.mk (Kd.R_below (by (with_reducible repeat (first | apply Kd.R_alloc | apply Kd.R_drewN | apply Kd.R_drew)); exact HO423.out) hb); have n1_ := Aside0.mk (below_step (by repeat (first | (with_reducible first | exact HB.out | apply below_alloc | apply pw_below_drewN | apply below_drew1) | exact HB.out)) hb); have n2_ := Aside0.mk (hbox); have n3_ := Aside0.mk ((by rw [hg]; exact (below_size (by repeat (first | (with_reducible first | exact HB.out | apply below_alloc | apply pw_below_drewN | apply below_drew1) | exact HB.out))) : w.heap.size ≤ gb427)); have n4_ := Aside0.mk ((by rw [hg]; exact (below_size (by repeat (first | (with_reducible first | exact HB.out | apply below_alloc | apply pw_below_drewN | apply below_drew1) | exact HB.out))) : w.heap.size ≤ gb427)); clear HO423; clear HB; have HO423 := n0_; have HB := n1_; have BK427 := n2_; have GW427 := n3_; have GE427 := n4_; clear n0_ n1_ n2_ n3_ n4_; clear hb hbox hg; have hcz12_0 : w11.cell? ⟨gb427, 0, none⟩ = some (.int .i64 0) := (blk_cell BK427.out 0).trans rfl; have hcz12_1 : w11.cell? ⟨gb427, 1, none⟩ = some (.int .i64 0) := (blk_cell BK427.out 1).trans rfl; have hfz12_0 := blk_frozen BK427.out 0; have hfz12_1 := blk_frozen BK427.out 1; obtain ⟨Ao13, co13, eo13⟩ := Kd.R_slice HO423.out; subst eo13))
     go_loopg [10, 39] kj3 (fun kq v10 v39 w' => ∃ (x10_2 : List (S37)) (x39_2 : Int), v39 = .int .i64 x39_2 ∧ Aside0 (timesynctop_TopMean.l0 kq l0 a1 a2 x10_2 t421 (t421.length : Int) x39_2 = some r) ∧ Aside0 (kq ≤ kj3) ∧ Aside0 (Kd.R k37 37 w' w.heap.size (fun _ => True) v10 x10_2) ∧ Aside0 (Kd.R (Kd.int .i64) 3 w' w.heap.size (fun _ => True) (.slice Ao13 t421.length co13) t421) ∧ Aside0 (w'.heap[gb427]? = some (.cells #[.int .i64 t424, .int .i64 t425] 29 (0, 0))) ∧ Aside0 (Below w.heap.size w w'))
     case atStart => exact ⟨(([] : List (S37))), (0), (by first | rfl | (simp; done) | (simp [*]; done)), H', ⟨Nat.le_refl _⟩, ⟨by first | exact Kd.R_nil _ _ _ _ _ | exact Kd.N_nil _ _ _ _ _ | exact Kd.V_nil _ _ _ _ _ | exact Kd.Q_nil _ _ _ _ _ | exact Kd.S_nil _ _ _ _ _⟩, ⟨by (with_reducible repeat (first | apply Kd.R_alloc | apply Kd.R_drewN | apply Kd.R_drew)); exact Kd.R_mono (Kd.R_far (p := ⟨gb427, 1, none⟩) (Kd.R_far (p := ⟨gb427, 0, none⟩) (Kd.R_types HO423.out BK427.out (by decide)) (fun _ hk => hk.2) (.int .i64 t424)) (fun _ hk => hk.2) (.int .i64 t425)) (fun _ hk => trivial)⟩, ⟨by (with_reducible repeat (first | refine blk_drewN ?_ _ | refine blk_drew ?_ | refine blk_alloc ?_ _)); refine blk_put (cs := #[.int .i64 t424, .int .i64 0]) ?_ 1 _ rfl; (with_reducible repeat (first | refine blk_drewN ?_ _ | refine blk_drew ?_ | refine blk_alloc ?_ _)); refine blk_put (cs := #[.int .i64 0, .int .i64 0]) ?_ 0 _ rfl; (with_reducible repeat (first | refine blk_drewN ?_ _ | refine blk_drew ?_ | refine blk_alloc ?_ _)); exact BK427.out⟩, ⟨by repeat (first | (with_reducible first | exact HB.out | apply below_alloc | apply pw_below_drewN | apply below_drew1 | refine below_set ?_ GE427.out) | exact HB.out)⟩⟩
     case round =>
      clear H'
      try clear c1
      try clear p2
      try clear c5
      try clear c5b0
      try clear c5b1
      try clear c6
      try clear c6b0
      try clear c7
      try clear c9
      try clear c9b0
      try clear c9b1
      try clear hcz12_0
      try clear hcz12_1
      try clear hfz12_0
      try clear hfz12_1
      try clear p2
      obtain ⟨x10_2, x39_2, rfl, HA, HK2, HO_10, HO_37, BK427, HB⟩ := hrel
      cases gk with
      | zero => exact absurd HA.out (by simp [timesynctop_TopMean.l0])
      | succ k2 =>
       have H := HA.out
       clear HA
       simp only [timesynctop_TopMean.l0] at H
       by_cases c14 : x39_2 < (t421.length : Int)
       ·rw [if_pos c14] at H
        have c14b0 : decide (x39_2 < (t421.length : Int)) = true := decide_eq_true c14
        clear c14
        by_cases c15 : 0 ≤ x39_2
        ·rw [if_pos c15] at H
         have c15b0 : decide (0 ≤ x39_2) = true := decide_eq_true c15
         clear c15
         by_cases c16 : x39_2 < (t421.length : Int)
         ·rw [if_pos c16] at H
          have c16b0 : decide (x39_2 < (t421.length : Int)) = true := decide_eq_true c16
          clear c16
          by_cases c17 : (rd t421 x39_2) < 0
          ·rw [if_pos c17] at H
           exact absurd H (by simp)
          ·rw [if_neg c17] at H
           have c17b0 : decide ((rd t421 x39_2) < 0) = false := decide_eq_false c17
           clear c17
           by_cases c18 : (rd t421 x39_2) ≥ (l0.length : Int)
           ·rw [if_pos c18] at H
            exact absurd H (by simp)
           ·rw [if_neg c18] at H
            have c18b0 : decide ((l0.length : Int) ≤ (rd t421 x39_2)) = false := decide_eq_false c18
            clear c18
            by_cases c19 : 0 ≤ (rd t421 x39_2)
            ·rw [if_pos c19] at H
             have c19b0 : decide (0 ≤ (rd t421 x39_2)) = true := decide_eq_true c19
             clear c19
             by_cases c20 : (rd t421 x39_2) < (l0.length : Int)
             ·rw [if_pos c20] at H
              have c20b0 : decide ((rd t421 x39_2) < (l0.length : Int)) = true := decide_eq_true c20
              clear c20
              by_cases c21 : x10_2.length < 3518437208883
              ·rw [if_pos c21] at H
               have LMc21 := Aside0.mk c21
               clear c21
               obtain ⟨y431, hy431⟩ : ∃ y_ : List (S37), y_ = (x10_2 ++ [(⟨(rd_T37 l0 (rd t421 x39_2)).f0, (rd_T37 l0 (rd t421 x39_2)).f1, (rd_T37 l0 (rd t421 x39_2)).f2, (rd_T37 l0 (rd t421 x39_2)).f3, (rd_T37 l0 (rd t421 x39_2)).f4⟩ : S37)]) := ⟨_, rfl⟩
               replace H : (timesynctop_TopMean.l0 k2 l0 a1 a2 y431 t421 (t421.length : Int) (wrap64 (x39_2 + 1))) = some r := by first | (rw [hy431]; with_reducible exact H) | (have H2_ := (Option.bind_some _ _).symm.trans H; rw [hy431]; with_reducible exact H2_) | (have H2_ := (Option.bind_some _ _).symm.trans H; with_reducible exact H2_) | with_reducible exact H | (rw [hy431]; exact H) | exact H
               have Ny431 := Aside0.mk hy431
               clear hy431
               have H' := Aside0.mk H
               clear H
               have p429 : 0 ≤ (x39_2 : Int) := of_decide_eq_true (by first | (with_reducible assumption) | assumption)
               have q429 : x39_2 < (t421.length : Int) := of_decide_eq_true (by first | (with_reducible assumption) | assumption)
               obtain ⟨ad429, e429, hx429_0⟩ := Kd.at_int (Kd.R_reads' HO_37.out).2.2 x39_2 p429 q429
               cases e429
               replace p429 := eq_true p429
               replace q429 := eq_true q429
               have p430 : 0 ≤ ((rd t421 x39_2) : Int) := of_decide_eq_true (by first | (with_reducible assumption) | assumption)
               have q430 : (rd t421 x39_2) < (l0.length : Int) := of_decide_eq_true (by first | (with_reducible assumption) | assumption)
               obtain ⟨ad430, e430, hx430_0, hx430_1, hx430_2, hx430_3, hx430_4⟩ := at_T37 HR0.out (rd t421 x39_2) p430 q430
               cases e430
               try replace hx430_0 := (HB.out.cell (World.block_lt_of_cell? w _ hx430_0)).trans hx430_0
               try replace hx430_1 := (HB.out.cell (World.block_lt_of_cell? w _ hx430_1)).trans hx430_1
               try replace hx430_2 := (HB.out.cell (World.block_lt_of_cell? w _ hx430_2)).trans hx430_2
               try replace hx430_3 := (HB.out.cell (World.block_lt_of_cell? w _ hx430_3)).trans hx430_3
               try replace hx430_4 := (HB.out.cell (World.block_lt_of_cell? w _ hx430_4)).trans hx430_4
               replace p430 := eq_true p430
               replace q430 := eq_true q430
               go_wp2_with (first | ((with_reducible refine gate_builtin (b := .append) (xs := #[.tmp 51, .tmp 56]) rfl ?_); (try (refine gate_guard (by rfl) ?_; dsimp only)); at_builtin; refine Kd.R_append k37 (w0 := w) w.heap.size rfl (.tmp 51) (.tmp 56) 22 37 (.agg #[(.int .i64 0), (.int .i64 0), (.int .i64 0), (.int .i64 0), (.int .i64 0)]) 40 rfl Try.underlying22 info37 rfl (by decide) (by omega) u10 x10_2 (⟨(rd_T37 l0 (rd t421 x39_2)).f0, (rd_T37 l0 (rd t421 x39_2)).f1, (rd_T37 l0 (rd t421 x39_2)).f2, (rd_T37 l0 (rd t421 x39_2)).f3, (rd_T37 l0 (rd t421 x39_2)).f4⟩ : S37) [.int .i64 ((rd_T37 l0 (rd t421 x39_2)).f0), .int .i64 ((rd_T37 l0 (rd t421 x39_2)).f1), .int .i64 ((rd_T37 l0 (rd t421 x39_2)).f2), .int .i64 ((rd_T37 l0 (rd t421 x39_2)).f3), .int .i64 ((rd_T37 l0 (rd t421 x39_2)).f4)] (fun _ => True) (fun _ => False) rfl rfl ?aP (fun _ hk => hk.elim) ?aF ?aO ?aB ?aS ?aL ?_; (case aP => exact k37_mkM _ _ _ (⟨(rd_T37 l0 (rd t421 x39_2)).f0, (rd_T37 l0 (rd t421 x39_2)).f1, (rd_T37 l0 (rd t421 x39_2)).f2, (rd_T37 l0 (rd t421 x39_2)).f3, (rd_T37 l0 (rd t421 x39_2)).f4⟩ : S37)); (case aB => exact (by repeat (first | (with_reducible first | exact HB.out | apply below_alloc | apply pw_below_drewN | apply below_drew1 | refine below_set ?_ GE427.out) | exact HB.out))); (case aF => exact (fun _ _ => trivial)); (case aO => exact (by (with_reducible repeat (first | apply Kd.R_alloc | apply Kd.R_drewN | apply Kd.R_drew)); exact HO_10.out)); (case aS => exact (below_size (by repeat (first | (with_reducible first | exact HB.out | apply below_alloc | apply pw_below_drewN | apply below_drew1 | refine below_set ?_ GE427.out) | exact HB.out)))); (case aL => have := LMc21.out; omega); intro v432 w22 ho hb hg hat; rw [← Ny431.out] at ho; have n0_ := Aside0.mk (Kd.R_over' (by (with_reducible repeat (first | apply Kd.R_alloc | apply Kd.R_drewN | apply Kd.R_drew)); exact HO_37.out) (Kd.R_typed (by (with_reducible repeat (first | apply Kd.R_alloc | apply Kd.R_drewN | apply Kd.R_drew)); exact HO_10.out)) (by decide) hg); have n1_ := Aside0.mk (blk_grown (g := gb427) (o := .cells #[.int .i64 t424, .int .i64 t425] 29 (0, 0)) (by (with_reducible repeat (first | refine blk_drewN ?_ _ | refine blk_drew ?_ | refine blk_alloc ?_ _)); exact BK427.out) hg (Kd.R_ne HO_10.out BK427.out (by decide))); have n2_ := Aside0.mk (hb); have n3_ := Aside0.mk (ho); clear HO_37; clear BK427; clear HB; clear HO_10; have HO_37 := n0_; have BK427 := n1_; have HB := n2_; have HO433 := n3_; clear n0_ n1_ n2_ n3_; clear ho hb hg hat))
               go_roundg k2
               case measure => have := HJ3.out; have := HK2.out; omega
               case rel => exact ⟨(y431), (wrap64 (x39_2 + 1)), (by first | rfl | (simp; done) | (simp [*]; done)), H', ⟨by have := HJ3.out; have := HK2.out; omega⟩, ⟨by (with_reducible repeat (first | apply Kd.R_alloc | apply Kd.R_drewN | apply Kd.R_drew)); exact HO433.out⟩, ⟨by (with_reducible repeat (first | apply Kd.R_alloc | apply Kd.R_drewN | apply Kd.R_drew)); exact HO_37.out⟩, ⟨by (with_reducible repeat (first | refine blk_drewN ?_ _ | refine blk_drew ?_ | refine blk_alloc ?_ _)); exact BK427.out⟩, ⟨by repeat (first | (with_reducible first | exact HB.out | apply below_alloc | apply pw_below_drewN | apply below_drew1 | refine below_set ?_ GE427.out) | exact HB.out)⟩⟩
              ·rw [if_neg c21] at H
               exact absurd H (by simp)
             ·rw [if_neg c20] at H
              exact absurd H (by simp)
            ·rw [if_neg c19] at H
             exact absurd H (by simp)
         ·rw [if_neg c16] at H
          exact absurd H (by simp)
        ·rw [if_neg c15] at H
         exact absurd H (by simp)
       ·rw [if_neg c14] at H
        have c14b0 : decide (x39_2 < (t421.length : Int)) = false := decide_eq_false c14
        clear c14
        replace H := Option.bind_eq_some_iff.mp H
        obtain ⟨⟨t434, t435⟩, A230, H⟩ := H
        replace H : (if t435 = 0 then (timesynctop_TopMean.l1 k2 a1 t434 t434 (t434.length : Int) 0) else (some (decide (a2 < 1)))) = some r := H
        have A23 := Aside0.mk A230
        clear A230
        by_cases c24 : t435 = 0
        ·rw [if_pos c24] at H
         have c24b0 : (t435 == 0) = true := beq_iff_eq.mpr c24
         have c24b1 : (t435 != 0) = false := bne_eq_false_iff_eq.mpr c24
         clear c24
         have H' := Aside0.mk H
         clear H
         obtain ⟨Ao25, co25, eo25⟩ := Kd.R_slice HO_10.out
         subst eo25
         go_wp2_with (first | ((with_reducible refine gate_callee (f := 25) rfl ?_); refine goesL_ (some 62) rfl rfl Try.func25 (by kernel_rfl) rfl #[.slice Ao25 x10_2.length co25, .int .i64 a2] rfl (by (try simp only [List.map_toArray, List.map_cons, List.map_nil]); first | done | rfl | (simp only [List.length_drop, List.length_take]; rfl)) ?_; (with_reducible refine (cluster_Prune.calls k2 _ _ x10_2 a2 t434 t435 _ ?side1 ?side2 A23.out).mono ?_); (case side1 => repeat (first | exact (Kd.R_reads' HO_10.out).2.2 | (with_reducible refine Kd.C_alloc ?_ _) | (with_reducible refine Kd.C_drewN ?_ _) | (with_reducible refine Kd.C_drew ?_))); (case side2 => exact (Kd.R_reads' HO_10.out).2.1); rintro e w26 ⟨v436, rfl, ho0, hb⟩; refine ⟨_, rfl, ?_⟩; have n0_ := Aside0.mk (Kd.R_elder' (by (with_reducible repeat (first | apply Kd.R_alloc | apply Kd.R_drewN | apply Kd.R_drew)); exact HO_10.out) (Kd.R_base ho0) hb); have n1_ := Aside0.mk (Kd.R_below (by (with_reducible repeat (first | apply Kd.R_alloc | apply Kd.R_drewN | apply Kd.R_drew)); exact HO_37.out) hb); have n2_ := Aside0.mk (Kd.R_lower (Kd.R_new' ho0 (Kd.R_lt (by (with_reducible repeat (first | apply Kd.R_alloc | apply Kd.R_drewN | apply Kd.R_drew)); exact HO_10.out))) (below_size (by repeat (first | (with_reducible first | exact HB.out | apply below_alloc | apply pw_below_drewN | apply below_drew1 | refine below_set ?_ GE427.out) | exact HB.out)))); have n3_ := Aside0.mk (blk_below (g := gb427) (o := .cells #[.int .i64 t424, .int .i64 t425] 29 (0, 0)) (by (with_reducible repeat (first | refine blk_drewN ?_ _ | refine blk_drew ?_ | refine blk_alloc ?_ _)); exact BK427.out) hb); have n4_ := Aside0.mk (below_step (by repeat (first | (with_reducible first | exact HB.out | apply below_alloc | apply pw_below_drewN | apply below_drew1 | refine below_set ?_ GE427.out) | exact HB.out)) hb); clear HO_10; clear HO_37; clear BK427; clear HB; have HO_10 := n0_; have HO_37 := n1_; have HO437 := n2_; have BK427 := n3_; have HB := n4_; clear n0_ n1_ n2_ n3_ n4_; (try clear hb); (try clear hb2); (try clear hk); (try clear hi); (try clear ho0); obtain ⟨Ao27, co27, eo27⟩ := Kd.R_slice HO437.out; subst eo27))
         go_loopg [71] k2 (fun kq v71 w' => ∃ (x71_3 : Int), v71 = .int .i64 x71_3 ∧ Aside0 (timesynctop_TopMean.l1 kq a1 t434 t434 (t434.length : Int) x71_3 = some r) ∧ Aside0 (kq ≤ k2) ∧ Aside0 (Kd.R k37 37 w' w.heap.size (fun _ => True) (.slice Ao27 t434.length co27) t434) ∧ Aside0 (Kd.R k37 37 w' w.heap.size (fun _ => True) (.slice Ao27 t434.length co27) t434) ∧ Aside0 (w'.heap[gb427]? = some (.cells #[.int .i64 t424, .int .i64 t425] 29 (0, 0))) ∧ Aside0 (Below w.heap.size w w'))
         case atStart => exact ⟨(0), (by first | rfl | (simp; done) | (simp [*]; done)), H', ⟨Nat.le_refl _⟩, ⟨by (with_reducible repeat (first | apply Kd.R_alloc | apply Kd.R_drewN | apply Kd.R_drew)); exact Kd.R_mono HO437.out (fun _ hk => trivial)⟩, ⟨by (with_reducible repeat (first | apply Kd.R_alloc | apply Kd.R_drewN | apply Kd.R_drew)); exact Kd.R_mono HO437.out (fun _ hk => trivial)⟩, ⟨by (with_reducible repeat (first | refine blk_drewN ?_ _ | refine blk_drew ?_ | refine blk_alloc ?_ _)); exact BK427.out⟩, ⟨by repeat (first | (with_reducible first | exact HB.out | apply below_alloc | apply pw_below_drewN | apply below_drew1 | refine below_set ?_ GE427.out) | exact HB.out)⟩⟩
         case round =>
          clear H'
          try clear c1
          try clear c2
          try clear p2
          try clear p4
          try clear q4
          try clear hx4
          try clear c5
          try clear c5b0
          try clear c5b1
          try clear c6
          try clear c6b0
          try clear p6
          try clear c7
          try clear c9
          try clear c9b0
          try clear c9b1
          try clear c14
          try clear c14b0
          try clear c15
          try clear c15b0
          try clear c16
          try clear c16b0
          try clear c17
          try clear c17b0
          try clear c18
          try clear c18b0
          try clear c19
          try clear c19b0
          try clear c20
          try clear c20b0
          try clear c21
          try clear c24
          try clear c24b0
          try clear c24b1
          try clear c25
          try clear hcz12_0
          try clear hcz12_1
          try clear hfz12_0
          try clear hfz12_1
          try clear hx429_0
          try clear hx430_0
          try clear hx430_1
          try clear hx430_2
          try clear hx430_3
          try clear hx430_4
          try clear p2
          try clear p429
          try clear p430
          try clear q429
          try clear q430
          obtain ⟨x71_3, rfl, HA, HK3, HO_10, HO_69, BK427, HB⟩ := hrel
          cases gk with
          | zero => exact absurd HA.out (by simp [timesynctop_TopMean.l1])
          | succ k3 =>
           have H := HA.out
           clear HA
           simp only [timesynctop_TopMean.l1] at H
           by_cases c28 : x71_3 < (t434.length : Int)
           ·rw [if_pos c28] at H
            have c28b0 : decide (x71_3 < (t434.length : Int)) = true := decide_eq_true c28
            clear c28
            by_cases c29 : 0 ≤ x71_3
            ·rw [if_pos c29] at H
             have c29b0 : decide (0 ≤ x71_3) = true := decide_eq_true c29
             clear c29
             by_cases c30 : x71_3 < (t434.length : Int)
             ·rw [if_pos c30] at H
              have c30b0 : decide (x71_3 < (t434.length : Int)) = true := decide_eq_true c30
              clear c30
              by_cases c31 : a1 < (wrap64 (((rd_T37 t434 x71_3).f1) - ((rd_T37 t434 x71_3).f2)))
              ·rw [if_pos c31] at H
               have c31b0 : decide (a1 < (wrap64 (((rd_T37 t434 x71_3).f1) - ((rd_T37 t434 x71_3).f2)))) = true := decide_eq_true c31
               clear c31
               obtain rfl := Option.some.inj H
               have p438 : 0 ≤ (x71_3 : Int) := of_decide_eq_true (by first | (with_reducible assumption) | assumption)
               have q438 : x71_3 < (t434.length : Int) := of_decide_eq_true (by first | (with_reducible assumption) | assumption)
               obtain ⟨ad438, e438, hx438_0, hx438_1, hx438_2, hx438_3, hx438_4⟩ := at_T37 (Kd.R_reads' HO_69.out).2.2 x71_3 p438 q438
               cases e438
               replace p438 := eq_true p438
               replace q438 := eq_true q438
               go_wp2_with (first | ((with_reducible refine gate_dst (N := 14) rfl ?_); (try (refine gate_guard (by rfl) ?_; dsimp only)); refine box_event ?hg (N := 14) ?hd (cs := #[.int .i64 0, .int .i64 0, .int .i64 0, .int .i64 0, .int .i64 0]) (t := 37) ?hr ?_; (case hd => rfl); (case hg => rfl); (case hr => first | (go_simp; done) | (go_simp; rfl)); intro gb439 hg w32 hbox hb; have n0_ := Aside0.mk (Kd.R_below (Kd.R_elderB (by (with_reducible repeat (first | apply Kd.R_alloc | apply Kd.R_drewN | apply Kd.R_drew)); exact HO_10.out) gb439 (Nat.le_of_eq hg.symm)) hb); have n1_ := Aside0.mk (Kd.R_below (Kd.R_elderB (by (with_reducible repeat (first | apply Kd.R_alloc | apply Kd.R_drewN | apply Kd.R_drew)); exact HO_69.out) gb439 (Nat.le_of_eq hg.symm)) hb); have n2_ := Aside0.mk (blk_below (g := gb427) (o := .cells #[.int .i64 t424, .int .i64 t425] 29 (0, 0)) (by (with_reducible repeat (first | refine blk_drewN ?_ _ | refine blk_drew ?_ | refine blk_alloc ?_ _)); exact BK427.out) hb); have n3_ := Aside0.mk (below_step (by repeat (first | (with_reducible first | exact HB.out | apply below_alloc | apply pw_below_drewN | apply below_drew1 | refine below_set ?_ GE427.out) | exact HB.out)) hb); have n4_ := Aside0.mk (hbox); have n5_ := Aside0.mk ((by rw [hg]; exact (below_size (by repeat (first | (with_reducible first | exact HB.out | apply below_alloc | apply pw_below_drewN | apply below_drew1 | refine below_set ?_ GE427.out) | exact HB.out))) : w.heap.size ≤ gb439)); have n6_ := Aside0.mk ((by rw [hg]; exact (below_size (by repeat (first | (with_reducible first | exact HB.out | apply below_alloc | apply pw_below_drewN | apply below_drew1 | refine below_set ?_ GE427.out) | exact HB.out))) : w.heap.size ≤ gb439)); have n7_ := Aside0.mk ((by rw [hg]; exact Nat.ne_of_lt (blk_lt (g := gb427) (o := .cells #[.int .i64 t424, .int .i64 t425] 29 (0, 0)) (by (with_reducible repeat (first | refine blk_drewN ?_ _ | refine blk_drew ?_ | refine blk_alloc ?_ _)); exact BK427.out)) : gb427 ≠ gb439)); have n8_ := Aside0.mk ((by rw [hg]; exact Nat.ne_of_gt (blk_lt (g := gb427) (o := .cells #[.int .i64 t424, .int .i64 t425] 29 (0, 0)) (by (with_reducible repeat (first | refine blk_drewN ?_ _ | refine blk_drew ?_ | refine blk_alloc ?_ _)); exact BK427.out)) : gb439 ≠ gb427)); clear HO_10; clear HO_69; clear BK427; clear HB; have HO_10 := n0_; have HO_69 := n1_; have BK427 := n2_; have HB := n3_; have BK439 := n4_; have GW439 := n5_; have GE439 := n6_; have NB427_439 := n7_; have NB439_427 := n8_; clear n0_ n1_ n2_ n3_ n4_ n5_ n6_ n7_ n8_; clear hb hbox hg; have hnb33 := NB439_427.out; have hnc33 := NB427_439.out; have hcz34_0 : w32.cell? ⟨gb439, 0, none⟩ = some (.int .i64 0) := (blk_cell BK439.out 0).trans rfl; have hcz34_1 : w32.cell? ⟨gb439, 1, none⟩ = some (.int .i64 0) := (blk_cell BK439.out 1).trans rfl; have hcz34_2 : w32.cell? ⟨gb439, 2, none⟩ = some (.int .i64 0) := (blk_cell BK439.out 2).trans rfl; have hcz34_3 : w32.cell? ⟨gb439, 3, none⟩ = some (.int .i64 0) := (blk_cell BK439.out 3).trans rfl; have hcz34_4 : w32.cell? ⟨gb439, 4, none⟩ = some (.int .i64 0) := (blk_cell BK439.out 4).trans rfl; have hfz34_0 := blk_frozen BK439.out 0; have hfz34_1 := blk_frozen BK439.out 1; have hfz34_2 := blk_frozen BK439.out 2; have hfz34_3 := blk_frozen BK439.out 3; have hfz34_4 := blk_frozen BK439.out 4))
               go_ret
               exact ⟨by first | rfl | (simp [errW_none, errW_some] <;> rfl) | (simp [*, errW_none, errW_some] <;> rfl), by repeat (first | (with_reducible first | exact HB.out | apply below_alloc | apply pw_below_drewN | apply below_drew1 | refine below_set ?_ GE427.out | refine below_set ?_ GE439.out) | exact HB.out)⟩
              ·rw [if_neg c31] at H
               have c31b0 : decide (a1 < (wrap64 (((rd_T37 t434 x71_3).f1) - ((rd_T37 t434 x71_3).f2)))) = false := decide_eq_false c31
               clear c31
               by_cases c35 : a1 > (wrap64 (((rd_T37 t434 x71_3).f1) + ((rd_T37 t434 x71_3).f2)))
               ·rw [if_pos c35] at H
                have c35b0 : decide ((wrap64 (((rd_T37 t434 x71_3).f1) + ((rd_T37 t434 x71_3).f2))) < a1) = true := decide_eq_true c35
                clear c35
                obtain rfl := Option.some.inj H
                have p438 : 0 ≤ (x71_3 : Int) := of_decide_eq_true (by first | (with_reducible assumption) | assumption)
                have q438 : x71_3 < (t434.length : Int) := of_decide_eq_true (by first | (with_reducible assumption) | assumption)
                obtain ⟨ad438, e438, hx438_0, hx438_1, hx438_2, hx438_3, hx438_4⟩ := at_T37 (Kd.R_reads' HO_69.out).2.2 x71_3 p438 q438
                cases e438
                replace p438 := eq_true p438
                replace q438 := eq_true q438
                go_wp2_with (first | ((with_reducible refine gate_dst (N := 14) rfl ?_); (try (refine gate_guard (by rfl) ?_; dsimp only)); refine box_event ?hg (N := 14) ?hd (cs := #[.int .i64 0, .int .i64 0, .int .i64 0, .int .i64 0, .int .i64 0]) (t := 37) ?hr ?_; (case hd => rfl); (case hg => rfl); (case hr => first | (go_simp; done) | (go_simp; rfl)); intro gb439 hg w36 hbox hb; have n0_ := Aside0.mk (Kd.R_below (Kd.R_elderB (by (with_reducible repeat (first | apply Kd.R_alloc | apply Kd.R_drewN | apply Kd.R_drew)); exact HO_10.out) gb439 (Nat.le_of_eq hg.symm)) hb); have n1_ := Aside0.mk (Kd.R_below (Kd.R_elderB (by (with_reducible repeat (first | apply Kd.R_alloc | apply Kd.R_drewN | apply Kd.R_drew)); exact HO_69.out) gb439 (Nat.le_of_eq hg.symm)) hb); have n2_ := Aside0.mk (blk_below (g := gb427) (o := .cells #[.int .i64 t424, .int .i64 t425] 29 (0, 0)) (by (with_reducible repeat (first | refine blk_drewN ?_ _ | refine blk_drew ?_ | refine blk_alloc ?_ _)); exact BK427.out) hb); have n3_ := Aside0.mk (below_step (by repeat (first | (with_reducible first | exact HB.out | apply below_alloc | apply pw_below_drewN | apply below_drew1 | refine below_set ?_ GE427.out) | exact HB.out)) hb); have n4_ := Aside0.mk (hbox); have n5_ := Aside0.mk ((by rw [hg]; exact (below_size (by repeat (first | (with_reducible first | exact HB.out | apply below_alloc | apply pw_below_drewN | apply below_drew1 | refine below_set ?_ GE427.out) | exact HB.out))) : w.heap.size ≤ gb439)); have n6_ := Aside0.mk ((by rw [hg]; exact (below_size (by repeat (first | (with_reducible first | exact HB.out | apply below_alloc | apply pw_below_drewN | apply below_drew1 | refine below_set ?_ GE427.out) | exact HB.out))) : w.heap.size ≤ gb439)); have n7_ := Aside0.mk ((by rw [hg]; exact Nat.ne_of_lt (blk_lt (g := gb427) (o := .cells #[.int .i64 t424, .int .i64 t425] 29 (0, 0)) (by (with_reducible repeat (first | refine blk_drewN ?_ _ | refine blk_drew ?_ | refine blk_alloc ?_ _)); exact BK427.out)) : gb427 ≠ gb439)); have n8_ := Aside0.mk ((by rw [hg]; exact Nat.ne_of_gt (blk_lt (g := gb427) (o := .cells #[.int .i64 t424, .int .i64 t425] 29 (0, 0)) (by (with_reducible repeat (first | refine blk_drewN ?_ _ | refine blk_drew ?_ | refine blk_alloc ?_ _)); exact BK427.out)) : gb439 ≠ gb427)); clear HO_10; clear HO_69; clear BK427; clear HB; have HO_10 := n0_; have HO_69 := n1_; have BK427 := n2_; have HB := n3_; have BK439 := n4_; have GW439 := n5_; have GE439 := n6_; have NB427_439 := n7_; have NB439_427 := n8_; clear n0_ n1_ n2_ n3_ n4_ n5_ n6_ n7_ n8_; clear hb hbox hg; have hnb37 := NB439_427.out; have hnc37 := NB427_439.out; have hcz38_0 : w36.cell? ⟨gb439, 0, none⟩ = some (.int .i64 0) := (blk_cell BK439.out 0).trans rfl; have hcz38_1 : w36.cell? ⟨gb439, 1, none⟩ = some (.int .i64 0) := (blk_cell BK439.out 1).trans rfl; have hcz38_2 : w36.cell? ⟨gb439, 2, none⟩ = some (.int .i64 0) := (blk_cell BK439.out 2).trans rfl; have hcz38_3 : w36.cell? ⟨gb439, 3, none⟩ = some (.int .i64 0) := (blk_cell BK439.out 3).trans rfl; have hcz38_4 : w36.cell? ⟨gb439, 4, none⟩ = some (.int .i64 0) := (blk_cell BK439.out 4).trans rfl; have hfz38_0 := blk_frozen BK439.out 0; have hfz38_1 := blk_frozen BK439.out 1; have hfz38_2 := blk_frozen BK439.out 2; have hfz38_3 := blk_frozen BK439.out 3; have hfz38_4 := blk_frozen BK439.out 4))
                go_ret
                exact ⟨by first | rfl | (simp [errW_none, errW_some] <;> rfl) | (simp [*, errW_none, errW_some] <;> rfl), by repeat (first | (with_reducible first | exact HB.out | apply below_alloc | apply pw_below_drewN | apply below_drew1 | refine below_set ?_ GE427.out | refine below_set ?_ GE439.out) | exact HB.out)⟩
               ·rw [if_neg c35] at H
                have c35b0 : decide ((wrap64 (((rd_T37 t434 x71_3).f1) + ((rd_T37 t434 x71_3).f2))) < a1) = false := decide_eq_false c35
                clear c35
                have H' := Aside0.mk H
                clear H
                have p438 : 0 ≤ (x71_3 : Int) := of_decide_eq_true (by first | (with_reducible assumption) | assumption)
                have q438 : x71_3 < (t434.length : Int) := of_decide_eq_true (by first | (with_reducible assumption) | assumption)
                obtain ⟨ad438, e438, hx438_0, hx438_1, hx438_2, hx438_3, hx438_4⟩ := at_T37 (Kd.R_reads' HO_69.out).2.2 x71_3 p438 q438
                cases e438
                replace p438 := eq_true p438
                replace q438 := eq_true q438
                go_wp2_with (first | ((with_reducible refine gate_dst (N := 14) rfl ?_); (try (refine gate_guard (by rfl) ?_; dsimp only)); refine box_event ?hg (N := 14) ?hd (cs := #[.int .i64 0, .int .i64 0, .int .i64 0, .int .i64 0, .int .i64 0]) (t := 37) ?hr ?_; (case hd => rfl); (case hg => rfl); (case hr => first | (go_simp; done) | (go_simp; rfl)); intro gb439 hg w39 hbox hb; have n0_ := Aside0.mk (Kd.R_below (Kd.R_elderB (by (with_reducible repeat (first | apply Kd.R_alloc | apply Kd.R_drewN | apply Kd.R_drew)); exact HO_10.out) gb439 (Nat.le_of_eq hg.symm)) hb); have n1_ := Aside0.mk (Kd.R_below (Kd.R_elderB (by (with_reducible repeat (first | apply Kd.R_alloc | apply Kd.R_drewN | apply Kd.R_drew)); exact HO_69.out) gb439 (Nat.le_of_eq hg.symm)) hb); have n2_ := Aside0.mk (blk_below (g := gb427) (o := .cells #[.int .i64 t424, .int .i64 t425] 29 (0, 0)) (by (with_reducible repeat (first | refine blk_drewN ?_ _ | refine blk_drew ?_ | refine blk_alloc ?_ _)); exact BK427.out) hb); have n3_ := Aside0.mk (below_step (by repeat (first | (with_reducible first | exact HB.out | apply below_alloc | apply pw_below_drewN | apply below_drew1 | refine below_set ?_ GE427.out) | exact HB.out)) hb); have n4_ := Aside0.mk (hbox); have n5_ := Aside0.mk ((by rw [hg]; exact (below_size (by repeat (first | (with_reducible first | exact HB.out | apply below_alloc | apply pw_below_drewN | apply below_drew1 | refine below_set ?_ GE427.out) | exact HB.out))) : w.heap.size ≤ gb439)); have n6_ := Aside0.mk ((by rw [hg]; exact (below_size (by repeat (first | (with_reducible first | exact HB.out | apply below_alloc | apply pw_below_drewN | apply below_drew1 | refine below_set ?_ GE427.out) | exact HB.out))) : w.heap.size ≤ gb439)); have n7_ := Aside0.mk ((by rw [hg]; exact Nat.ne_of_lt (blk_lt (g := gb427) (o := .cells #[.int .i64 t424, .int .i64 t425] 29 (0, 0)) (by (with_reducible repeat (first | refine blk_drewN ?_ _ | refine blk_drew ?_ | refine blk_alloc ?_ _)); exact BK427.out)) : gb427 ≠ gb439)); have n8_ := Aside0.mk ((by rw [hg]; exact Nat.ne_of_gt (blk_lt (g := gb427) (o := .cells #[.int .i64 t424, .int .i64 t425] 29 (0, 0)) (by (with_reducible repeat (first | refine blk_drewN ?_ _ | refine blk_drew ?_ | refine blk_alloc ?_ _)); exact BK427.out)) : gb439 ≠ gb427)); clear HO_10; clear HO_69; clear BK427; clear HB; have HO_10 := n0_; have HO_69 := n1_; have BK427 := n2_; have HB := n3_; have BK439 := n4_; have GW439 := n5_; have GE439 := n6_; have NB427_439 := n7_; have NB439_427 := n8_; clear n0_ n1_ n2_ n3_ n4_ n5_ n6_ n7_ n8_; clear hb hbox hg; have hnb40 := NB439_427.out; have hnc40 := NB427_439.out; have hcz41_0 : w39.cell? ⟨gb439, 0, none⟩ = some (.int .i64 0) := (blk_cell BK439.out 0).trans rfl; have hcz41_1 : w39.cell? ⟨gb439, 1, none⟩ = some (.int .i64 0) := (blk_cell BK439.out 1).trans rfl; have hcz41_2 : w39.cell? ⟨gb439, 2, none⟩ = some (.int .i64 0) := (blk_cell BK439.out 2).trans rfl; have hcz41_3 : w39.cell? ⟨gb439, 3, none⟩ = some (.int .i64 0) := (blk_cell BK439.out 3).trans rfl; have hcz41_4 : w39.cell? ⟨gb439, 4, none⟩ = some (.int .i64 0) := (blk_cell BK439.out 4).trans rfl; have hfz41_0 := blk_frozen BK439.out 0; have hfz41_1 := blk_frozen BK439.out 1; have hfz41_2 := blk_frozen BK439.out 2; have hfz41_3 := blk_frozen BK439.out 3; have hfz41_4 := blk_frozen BK439.out 4))
                go_roundg k3
                case measure => have := HJ3.out; have := HK2.out; have := HK3.out; omega
                case rel => exact ⟨(wrap64 (x71_3 + 1)), (by first | rfl | (simp; done) | (simp [*]; done)), H', ⟨by have := HJ3.out; have := HK2.out; have := HK3.out; omega⟩, ⟨by (with_reducible repeat (first | apply Kd.R_alloc | apply Kd.R_drewN | apply Kd.R_drew)); exact Kd.R_mono (Kd.R_far (p := ⟨gb439, 4, none⟩) (Kd.R_far (p := ⟨gb439, 3, none⟩) (Kd.R_far (p := ⟨gb439, 2, none⟩) (Kd.R_far (p := ⟨gb439, 1, none⟩) (Kd.R_far (p := ⟨gb439, 0, none⟩) (Kd.R_mono HO_10.out (fun k_ hk => (⟨hk, hk.2⟩ : _ ∧ k_ ≠ gb439))) (fun _ hk => hk.2) (.int .i64 ((rd_T37 t434 x71_3).f0))) (fun _ hk => hk.2) (.int .i64 ((rd_T37 t434 x71_3).f1))) (fun _ hk => hk.2) (.int .i64 ((rd_T37 t434 x71_3).f2))) (fun _ hk => hk.2) (.int .i64 ((rd_T37 t434 x71_3).f3))) (fun _ hk => hk.2) (.int .i64 ((rd_T37 t434 x71_3).f4))) (fun _ hk => trivial)⟩, ⟨by (with_reducible repeat (first | apply Kd.R_alloc | apply Kd.R_drewN | apply Kd.R_drew)); exact Kd.R_mono (Kd.R_far (p := ⟨gb439, 4, none⟩) (Kd.R_far (p := ⟨gb439, 3, none⟩) (Kd.R_far (p := ⟨gb439, 2, none⟩) (Kd.R_far (p := ⟨gb439, 1, none⟩) (Kd.R_far (p := ⟨gb439, 0, none⟩) (Kd.R_mono HO_69.out (fun k_ hk => (⟨hk, hk.2⟩ : _ ∧ k_ ≠ gb439))) (fun _ hk => hk.2) (.int .i64 ((rd_T37 t434 x71_3).f0))) (fun _ hk => hk.2) (.int .i64 ((rd_T37 t434 x71_3).f1))) (fun _ hk => hk.2) (.int .i64 ((rd_T37 t434 x71_3).f2))) (fun _ hk => hk.2) (.int .i64 ((rd_T37 t434 x71_3).f3))) (fun _ hk => hk.2) (.int .i64 ((rd_T37 t434 x71_3).f4))) (fun _ hk => trivial)⟩, ⟨by (with_reducible repeat (first | refine blk_drewN ?_ _ | refine blk_drew ?_ | refine blk_alloc ?_ _)); refine blk_far ?_ NB427_439.out _; (with_reducible repeat (first | refine blk_drewN ?_ _ | refine blk_drew ?_ | refine blk_alloc ?_ _)); refine blk_far ?_ NB427_439.out _; (with_reducible repeat (first | refine blk_drewN ?_ _ | refine blk_drew ?_ | refine blk_alloc ?_ _)); refine blk_far ?_ NB427_439.out _; (with_reducible repeat (first | refine blk_drewN ?_ _ | refine blk_drew ?_ | refine blk_alloc ?_ _)); refine blk_far ?_ NB427_439.out _; (with_reducible repeat (first | refine blk_drewN ?_ _ | refine blk_drew ?_ | refine blk_alloc ?_ _)); refine blk_far ?_ NB427_439.out _; (with_reducible repeat (first | refine blk_drewN ?_ _ | refine blk_drew ?_ | refine blk_alloc ?_ _)); exact BK427.out⟩, ⟨by repeat (first | (with_reducible first | exact HB.out | apply below_alloc | apply pw_below_drewN | apply below_drew1 | refine below_set ?_ GE427.out | refine below_set ?_ GE439.out) | exact HB.out)⟩⟩
             ·rw [if_neg c30] at H
              exact absurd H (by simp)
            ·rw [if_neg c29] at H
             exact absurd H (by simp)
           ·rw [if_neg c28] at H
            have c28b0 : decide (x71_3 < (t434.length : Int)) = false := decide_eq_false c28
            clear c28
            replace H := Option.bind_eq_some_iff.mp H
            obtain ⟨⟨t440, t441⟩, A420, H⟩ := H
            replace H : ((combine_Dist.f k3 t434).bind fun t442 => (if t441 = 0 then (if (t434.length : Int) > 0 then (if (wrap64 (t440 - a1)) ≤ t442 then (some (decide ((wrap64 (a1 - t440)) ≤ t442))) else (none)) else (none)) else (none))) = some r := H
            have A42 := Aside0.mk A420
            clear A420
            replace H := Option.bind_eq_some_iff.mp H
            obtain ⟨t442, A430, H⟩ := H
            replace H : (if t441 = 0 then (if (t434.length : Int) > 0 then (if (wrap64 (t440 - a1)) ≤ t442 then (some (decide ((wrap64 (a1 - t440)) ≤ t442))) else (none)) else (none)) else (none)) = some r := H
            have A43 := Aside0.mk A430
            clear A430
            by_cases c44 : t441 = 0
            ·rw [if_pos c44] at H
             have c44b0 : (t441 == 0) = true := beq_iff_eq.mpr c44
             have c44b1 : (t441 != 0) = false := bne_eq_false_iff_eq.mpr c44
             clear c44
             by_cases c45 : (t434.length : Int) > 0
             ·rw [if_pos c45] at H
              have c45b0 : decide (0 < (t434.length : Int)) = true := decide_eq_true c45
              have c45b1 : decide (0 < t434.length) = true := decide_eq_true (by omega)
              clear c45
              by_cases c46 : (wrap64 (t440 - a1)) ≤ t442
              ·rw [if_pos c46] at H
               have c46b0 : decide ((wrap64 (t440 - a1)) ≤ t442) = true := decide_eq_true c46
               clear c46
               obtain rfl := Option.some.inj H
               go_wp2_with (first | ((with_reducible refine gate_callee (f := 26) rfl ?_); refine goesL_ (some 94) rfl rfl Try.func26 (by kernel_rfl) rfl #[.slice Ao27 t434.length co27] rfl (by (try simp only [List.map_toArray, List.map_cons, List.map_nil]); first | done | rfl | (simp only [List.length_drop, List.length_take]; rfl)) ?_; (with_reducible refine (combine_Mean.calls k3 _ _ t434 t440 t441 _ ?side1 ?side2 A42.out).mono ?_); (case side1 => repeat (first | exact (Kd.R_reads' HO_10.out).2.2 | (with_reducible refine Kd.C_alloc ?_ _) | (with_reducible refine Kd.C_drewN ?_ _) | (with_reducible refine Kd.C_drew ?_))); (case side2 => exact (Kd.R_reads' HO_10.out).2.1); rintro e w47 ⟨rfl, hb⟩; refine ⟨_, rfl, ?_⟩; have n0_ := Aside0.mk (Kd.R_below (by (with_reducible repeat (first | apply Kd.R_alloc | apply Kd.R_drewN | apply Kd.R_drew)); exact HO_10.out) hb); have n1_ := Aside0.mk (Kd.R_below (by (with_reducible repeat (first | apply Kd.R_alloc | apply Kd.R_drewN | apply Kd.R_drew)); exact HO_69.out) hb); have n2_ := Aside0.mk (blk_below (g := gb427) (o := .cells #[.int .i64 t424, .int .i64 t425] 29 (0, 0)) (by (with_reducible repeat (first | refine blk_drewN ?_ _ | refine blk_drew ?_ | refine blk_alloc ?_ _)); exact BK427.out) hb); have n3_ := Aside0.mk (below_step (by repeat (first | (with_reducible first | exact HB.out | apply below_alloc | apply pw_below_drewN | apply below_drew1 | refine below_set ?_ GE427.out) | exact HB.out)) hb); clear HO_10; clear HO_69; clear BK427; clear HB; have HO_10 := n0_; have HO_69 := n1_; have BK427 := n2_; have HB := n3_; clear n0_ n1_ n2_ n3_; (try clear hb); (try clear hb2); (try clear hk); (try clear hi)) | ((with_reducible refine gate_callee (f := 27) rfl ?_); refine goesL_ (some 98) rfl rfl Try.func27 (by kernel_rfl) rfl #[.slice Ao27 t434.length co27] rfl (by (try simp only [List.map_toArray, List.map_cons, List.map_nil]); first | done | rfl | (simp only [List.length_drop, List.length_take]; rfl)) ?_; (with_reducible refine (combine_Dist.calls k3 _ _ t434 t442 _ ?side1 ?side2 A43.out).mono ?_); (case side1 => repeat (first | exact (Kd.R_reads' HO_10.out).2.2 | (with_reducible refine Kd.C_alloc ?_ _) | (with_reducible refine Kd.C_drewN ?_ _) | (with_reducible refine Kd.C_drew ?_))); (case side2 => exact (Kd.R_reads' HO_10.out).2.1); rintro e w48 ⟨rfl, hb⟩; refine ⟨_, rfl, ?_⟩; have n0_ := Aside0.mk (Kd.R_below (by (with_reducible repeat (first | apply Kd.R_alloc | apply Kd.R_drewN | apply Kd.R_drew)); exact HO_10.out) hb); have n1_ := Aside0.mk (Kd.R_below (by (with_reducible repeat (first | apply Kd.R_alloc | apply Kd.R_drewN | apply Kd.R_drew)); exact HO_69.out) hb); have n2_ := Aside0.mk (blk_below (g := gb427) (o := .cells #[.int .i64 t424, .int .i64 t425] 29 (0, 0)) (by (with_reducible repeat (first | refine blk_drewN ?_ _ | refine blk_drew ?_ | refine blk_alloc ?_ _)); exact BK427.out) hb); have n3_ := Aside0.mk (below_step (by repeat (first | (with_reducible first | exact HB.out | apply below_alloc | apply pw_below_drewN | apply below_drew1 | refine below_set ?_ GE427.out) | exact HB.out)) hb); clear HO_10; clear HO_69; clear BK427; clear HB; have HO_10 := n0_; have HO_69 := n1_; have BK427 := n2_; have HB := n3_; clear n0_ n1_ n2_ n3_; (try clear hb); (try clear hb2); (try clear hk); (try clear hi)))
               go_ret
               exact ⟨by first | rfl | (simp [errW_none, errW_some] <;> rfl) | (simp [*, errW_none, errW_some] <;> rfl), by repeat (first | (with_reducible first | exact HB.out | apply below_alloc | apply pw_below_drewN | apply below_drew1 | refine below_set ?_ GE427.out) | exact HB.out)⟩
              ·rw [if_neg c46] at H
               exact absurd H (by simp)
             ·rw [if_neg c45] at H
              exact absurd H (by simp)
            ·rw [if_neg c44] at H
             exact absurd H (by simp)
        ·rw [if_neg c24] at H
         have c24b0 : (t435 == 0) = false := beq_eq_false_iff_ne.mpr c24
         have c24b1 : (t435 != 0) = true := bne_iff_ne.mpr c24
         obtain rfl := Option.some.inj H
         obtain ⟨Ao49, co49, eo49⟩ := Kd.R_slice HO_10.out
         subst eo49
         go_wp2_with (first | ((with_reducible refine gate_callee (f := 25) rfl ?_); refine goesL_ (some 62) rfl rfl Try.func25 (by kernel_rfl) rfl #[.slice Ao49 x10_2.length co49, .int .i64 a2] rfl (by (try simp only [List.map_toArray, List.map_cons, List.map_nil]); first | done | rfl | (simp only [List.length_drop, List.length_take]; rfl)) ?_; (with_reducible refine (cluster_Prune.calls k2 _ _ x10_2 a2 t434 t435 _ ?side1 ?side2 A23.out).mono ?_); (case side1 => repeat (first | exact (Kd.R_reads' HO_10.out).2.2 | (with_reducible refine Kd.C_alloc ?_ _) | (with_reducible refine Kd.C_drewN ?_ _) | (with_reducible refine Kd.C_drew ?_))); (case side2 => exact (Kd.R_reads' HO_10.out).2.1); rintro e w50 ⟨v436, rfl, ho0, hb⟩; refine ⟨_, rfl, ?_⟩; have n0_ := Aside0.mk (Kd.R_elder' (by (with_reducible repeat (first | apply Kd.R_alloc | apply Kd.R_drewN | apply Kd.R_drew)); exact HO_10.out) (Kd.R_base ho0) hb); have n1_ := Aside0.mk (Kd.R_below (by (with_reducible repeat (first | apply Kd.R_alloc | apply Kd.R_drewN | apply Kd.R_drew)); exact HO_37.out) hb); have n2_ := Aside0.mk (Kd.R_lower (Kd.R_new' ho0 (Kd.R_lt (by (with_reducible repeat (first | apply Kd.R_alloc | apply Kd.R_drewN | apply Kd.R_drew)); exact HO_10.out))) (below_size (by repeat (first | (with_reducible first | exact HB.out | apply below_alloc | apply pw_below_drewN | apply below_drew1 | refine below_set ?_ GE427.out) | exact HB.out)))); have n3_ := Aside0.mk (blk_below (g := gb427) (o := .cells #[.int .i64 t424, .int .i64 t425] 29 (0, 0)) (by (with_reducible repeat (first | refine blk_drewN ?_ _ | refine blk_drew ?_ | refine blk_alloc ?_ _)); exact BK427.out) hb); have n4_ := Aside0.mk (below_step (by repeat (first | (with_reducible first | exact HB.out | apply below_alloc | apply pw_below_drewN | apply below_drew1 | refine below_set ?_ GE427.out) | exact HB.out)) hb); clear HO_10; clear HO_37; clear BK427; clear HB; have HO_10 := n0_; have HO_37 := n1_; have HO437 := n2_; have BK427 := n3_; have HB := n4_; clear n0_ n1_ n2_ n3_ n4_; (try clear hb); (try clear hb2); (try clear hk); (try clear hi); (try clear ho0)))
         go_ret
         exact ⟨by first | rfl | (simp [errW_none, errW_some] <;> rfl) | (simp [*, errW_none, errW_some] <;> rfl), by repeat (first | (with_reducible first | exact HB.out | apply below_alloc | apply pw_below_drewN | apply below_drew1 | refine below_set ?_ GE427.out) | exact HB.out)⟩
    ·rw [if_neg c9] at H
     have c9b0 : (t426 == 0) = false := beq_eq_false_iff_ne.mpr c9
     have c9b1 : (t426 != 0) = true := bne_iff_ne.mpr c9
     replace H := Option.bind_eq_some_iff.mp H
     obtain ⟨t428, A510, H⟩ := H
     replace H : (some t428) = some r := H
     have A51 := Aside0.mk A510
     clear A510
     obtain rfl := Option.some.inj H
     go_wp2_with (first | ((with_reducible refine gate_callee (f := 17) rfl ?_); refine goesL_ (some 30) rfl rfl Try.func17 (by kernel_rfl) rfl #[.slice A0 l0.length c0] rfl (by (try simp only [List.map_toArray, List.map_cons, List.map_nil]); first | done | rfl | (simp only [List.length_drop, List.length_take]; rfl)) ?_; (with_reducible refine (choose_Select.calls kj3 _ _ l0 t421 t424 t425 t426 _ ?side1 ?side2 A8.out).mono ?_); (case side1 => repeat (first | exact (Kd.C_below HR0.out HB.out) | (with_reducible refine Kd.C_alloc ?_ _) | (with_reducible refine Kd.C_drewN ?_ _) | (with_reducible refine Kd.C_drew ?_))); (case side2 => exact HC0.out); rintro e w52 ⟨v422, rfl, ho0, hb⟩; refine ⟨_, rfl, ?_⟩; have n0_ := Aside0.mk (Kd.R_lower ho0 (below_size (by repeat (first | (with_reducible first | exact HB.out | apply below_alloc | apply pw_below_drewN | apply below_drew1) | exact HB.out)))); have n1_ := Aside0.mk (below_step (by repeat (first | (with_reducible first | exact HB.out | apply below_alloc | apply pw_below_drewN | apply below_drew1) | exact HB.out)) hb); clear HB; have HO423 := n0_; have HB := n1_; clear n0_ n1_; (try clear hb); (try clear hb2); (try clear hk); (try clear hi); (try clear ho0)) | ((with_reducible refine gate_dst (N := 8) rfl ?_); (try (refine gate_guard (by rfl) ?_; dsimp only)); refine box_event ?hg (N := 8) ?hd (cs := #[.int .i64 0, .int .i64 0]) (t := 29) ?hr ?_; (case hd => rfl); (case hg => rfl); (case hr => first | (go_simp; done) | (go_simp; rfl)); intro gb427 hg w53 hbox hb; have n0_ := Aside0.mk (Kd.R_below (by (with_reducible repeat (first | apply Kd.R_alloc | apply Kd.R_drewN | apply Kd.R_drew)); exact HO423.out) hb); have n1_ := Aside0.mk (below_step (by repeat (first | (with_reducible first | exact HB.out | apply below_alloc | apply pw_below_drewN | apply below_drew1) | exact HB.out)) hb); have n2_ := Aside0.mk (hbox); have n3_ := Aside0.mk ((by rw [hg]; exact (below_size (by repeat (first | (with_reducible first | exact HB.out | apply below_alloc | apply pw_below_drewN | apply below_drew1) | exact HB.out))) : w.heap.size ≤ gb427)); have n4_ := Aside0.mk ((by rw [hg]; exact (below_size (by repeat (first | (with_reducible first | exact HB.out | apply below_alloc | apply pw_below_drewN | apply below_drew1) | exact HB.out))) : w.heap.size ≤ gb427)); clear HO423; clear HB; have HO423 := n0_; have HB := n1_; have BK427 := n2_; have GW427 := n3_; have GE427 := n4_; clear n0_ n1_ n2_ n3_ n4_; clear hb hbox hg; have hcz54_0 : w53.cell? ⟨gb427, 0, none⟩ = some (.int .i64 0) := (blk_cell BK427.out 0).trans rfl; have hcz54_1 : w53.cell? ⟨gb427, 1, none⟩ = some (.int .i64 0) := (blk_cell BK427.out 1).trans rfl; have hfz54_0 := blk_frozen BK427.out 0; have hfz54_1 := blk_frozen BK427.out 1) | ((with_reducible refine gate_callee (f := 24) rfl ?_); refine goesL_ (some 36) rfl rfl Try.func24 (by kernel_rfl) rfl #[] rfl (by (try simp only [List.map_toArray, List.map_cons, List.map_nil]); first | done | rfl | (simp only [List.length_drop, List.length_take]; rfl)) ?_; (with_reducible refine (timesynctop_awake10.calls kj3  t428 _ A51.out).mono ?_); rintro e w55 ⟨rfl, hb⟩; refine ⟨_, rfl, ?_⟩; have n0_ := Aside0.mk (Kd.R_below (by (with_reducible repeat (first | apply Kd.R_alloc | apply Kd.R_drewN | apply Kd.R_drew)); exact (Kd.R_mono (Kd.R_far (p := ⟨gb427, 1, none⟩) (Kd.R_far (p := ⟨gb427, 0, none⟩) (Kd.R_types HO423.out BK427.out (by decide)) (fun _ hk => hk.2) (.int .i64 t424)) (fun _ hk => hk.2) (.int .i64 t425)) (fun _ h_ => h_.1))) hb); have n1_ := Aside0.mk (blk_below (g := gb427) (o := .cells #[.int .i64 t424, .int .i64 t425] 29 (0, 0)) (by (with_reducible repeat (first | refine blk_drewN ?_ _ | refine blk_drew ?_ | refine blk_alloc ?_ _)); refine blk_put (cs := #[.int .i64 t424, .int .i64 0]) ?_ 1 _ rfl; (with_reducible repeat (first | refine blk_drewN ?_ _ | refine blk_drew ?_ | refine blk_alloc ?_ _)); refine blk_put (cs := #[.int .i64 0, .int .i64 0]) ?_ 0 _ rfl; (with_reducible repeat (first | refine blk_drewN ?_ _ | refine blk_drew ?_ | refine blk_alloc ?_ _)); exact BK427.out) hb); have n2_ := Aside0.mk (below_step (by repeat (first | (with_reducible first | exact HB.out | apply below_alloc | apply pw_below_drewN | apply below_drew1 | refine below_set ?_ GE427.out) | exact HB.out)) hb); clear HO423; clear BK427; clear HB; have HO423 := n0_; have BK427 := n1_; have HB := n2_; clear n0_ n1_ n2_; (try clear hb); (try clear hb2); (try clear hk); (try clear hi)))
     go_ret
     exact ⟨by first | rfl | (simp [errW_none, errW_some] <;> rfl) | (simp [*, errW_none, errW_some] <;> rfl), by repeat (first | (with_reducible first | exact HB.out | apply below_alloc | apply pw_below_drewN | apply below_drew1 | refine below_set ?_ GE427.out) | exact HB.out)⟩

end Go.Proofs.Ytlfilhplklifjaa.X

/- Knuth's step: the quotient of two words and a half by a normalized word, from the guess by the divisor's upper half. Plain numbers. -/
namespace Knuth
theorem q_gt {q Q y T : Int} (hy : 0 < y) (h1 : Q * y ≤ T) (h2 : T < q * y) : Q < q :=
  Int.lt_of_mul_lt_mul_right (show Q * y < q * y by omega) (Int.le_of_lt hy)
theorem q_le {q Q y T : Int} (hy : 0 < y) (h1 : q * y ≤ T) (h2 : T < (Q + 1) * y) : q ≤ Q := by
  have := q_gt hy h1 h2
  omega
/-- A normalized divisor y = y1 * 2^32 + y0, a part u below it, a half word v. -/
structure Norm (y y1 y0 u v : Int) : Prop where
  hy : y = y1 * 4294967296 + y0
  y0l : 0 ≤ y0
  y0h : y0 < 4294967296
  y1l : 2147483648 ≤ y1
  y1h : y1 < 4294967296
  ul : 0 ≤ u
  uh : u < y
  vl : 0 ≤ v
  vh : v < 4294967296
section
variable {y y1 y0 u v : Int} (N : Norm y y1 y0 u v)
include N
theorem Norm.ypos : 0 < y := by have := N.hy; have := N.y0l; have := N.y1l; omega
theorem Norm.Q_le : (u * 4294967296 + v) / y * y ≤ u * 4294967296 + v := Int.ediv_mul_le _ (by have := N.ypos; omega)
theorem Norm.Q_lt : u * 4294967296 + v < ((u * 4294967296 + v) / y + 1) * y := Int.lt_ediv_add_one_mul_self _ N.ypos
theorem Norm.Q_nonneg : 0 ≤ (u * 4294967296 + v) / y := Int.ediv_nonneg (by have := N.ul; have := N.vl; omega) (by have := N.ypos; omega)
theorem Norm.Q_small : (u * 4294967296 + v) / y < 4294967296 := by
  refine q_gt N.ypos N.Q_le ?_
  have := N.uh; have := N.vh
  omega
theorem Norm.mul (q : Int) : q * y = (q * y1) * 4294967296 + q * y0 := by rw [N.hy, Int.mul_add, Int.mul_assoc]
/-- A guess and its rest. -/
def Guess (y y1 u v q r : Int) : Prop := (u * 4294967296 + v) / y ≤ q ∧ q ≤ 4294967297 ∧ r = u - q * y1 ∧ 0 ≤ r ∧ r < 4294967296
theorem Norm.first : Guess y y1 u v (u / y1) (u - u / y1 * y1) := by
  have hy1 : 0 < y1 := by have := N.y1l; omega
  have d1 := Int.ediv_mul_le u (b := y1) (by omega)
  have d2 := Int.lt_ediv_add_one_mul_self u hy1
  have d3 : (u / y1 + 1) * y1 = u / y1 * y1 + y1 := by rw [Int.add_mul, Int.one_mul]
  refine ⟨?_, ?_, rfl, by omega, by have := N.y1h; omega⟩
  · refine q_le hy1 ?_ d2 (T := u)
    have h1 := N.Q_le
    have h2 := N.mul ((u * 4294967296 + v) / y)
    have h3 : 0 ≤ (u * 4294967296 + v) / y * y0 := Int.mul_nonneg N.Q_nonneg N.y0l
    have := N.vh
    omega
  · have h1 : u < (4294967297 + 1) * y1 := by
      have := N.uh; have := N.hy; have := N.y0h; have := N.y1l
      omega
    have := q_gt hy1 d1 h1
    omega
theorem Norm.miss {q r : Int} (g : Guess y y1 u v q r) (h : q ≥ 4294967296 ∨ q * y0 > 4294967296 * r + v) : (u * 4294967296 + v) / y ≤ q - 1 ∧ (r + y1 ≥ 4294967296 → q - 1 = (u * 4294967296 + v) / y) := by
  obtain ⟨g1, g2, g3, g4, g5⟩ := g
  have hlt : (u * 4294967296 + v) / y < q := by
    rcases h with h | h
    · have := N.Q_small; omega
    · refine q_gt N.ypos N.Q_le ?_
      have := N.mul q
      omega
  refine ⟨by omega, fun hr => ?_⟩
  have hle : q - 1 ≤ (u * 4294967296 + v) / y := by
    refine q_le N.ypos ?_ N.Q_lt
    have h1 := N.mul (q - 1)
    have h2 : (q - 1) * y1 = q * y1 - y1 := by rw [Int.sub_mul, Int.one_mul]
    have h3 : (q - 1) * y0 ≤ 4294967296 * y0 := Int.mul_le_mul_of_nonneg_right (by omega) N.y0l
    have := N.y0h; have := N.vl
    omega
  omega
theorem Norm.hit {q r : Int} (g : Guess y y1 u v q r) (h1 : q < 4294967296) (h2 : q * y0 ≤ 4294967296 * r + v) : q = (u * 4294967296 + v) / y := by
  obtain ⟨g1, g2, g3, g4, g5⟩ := g
  have : q ≤ (u * 4294967296 + v) / y := by
    refine q_le N.ypos ?_ N.Q_lt
    have := N.mul q
    omega
  omega
theorem Norm.next {q r : Int} (g : Guess y y1 u v q r) (h : q ≥ 4294967296 ∨ q * y0 > 4294967296 * r + v) (hr : r + y1 < 4294967296) : Guess y y1 u v (q - 1) (r + y1) := by
  have m := N.miss g h
  obtain ⟨g1, g2, g3, g4, g5⟩ := g
  have h2 : (q - 1) * y1 = q * y1 - y1 := by rw [Int.sub_mul, Int.one_mul]
  have := N.y1l
  exact ⟨m.1, by omega, by omega, by omega, hr⟩
/-- The rest after the step. -/
theorem Norm.rest : u * 4294967296 + v - (u * 4294967296 + v) / y * y = (u * 4294967296 + v) % y ∧ 0 ≤ (u * 4294967296 + v) % y ∧ (u * 4294967296 + v) % y < y := by
  have h1 := Int.emod_def (u * 4294967296 + v) y
  rw [Int.mul_comm y] at h1
  exact ⟨h1.symm, Int.emod_nonneg _ (by have := N.ypos; omega), Int.emod_lt_of_pos _ N.ypos⟩
end
/-- Two steps make the whole. -/
theorem two {y u v w : Int} (hy : 0 < y) : ((u * 4294967296 + v) * 4294967296 + w) / y = (u * 4294967296 + v) / y * 4294967296 + ((u * 4294967296 + v) % y * 4294967296 + w) / y := by
  have h1 := Int.emod_add_mul_ediv (u * 4294967296 + v) y
  generalize hT : u * 4294967296 + v = T at *
  generalize hQ : T / y = Q at *
  generalize hR : T % y = R at *
  have e : T * 4294967296 + w = (R * 4294967296 + w) + y * (Q * 4294967296) := by
    rw [← h1, Int.add_mul, Int.mul_assoc]; omega
  rw [e, Int.add_mul_ediv_left _ _ (by omega)]
  omega
end Knuth

/- Div64: the quotient of two words by a word is exact. -/
namespace Go.Proofs.Ytlfilhplklifjaa.PM
open Go.RowKit Go.Proofs.Ytlfilhplklifjaa.X Go.Proofs.YtlfilhplklifjaaW.PrintWords Go.Proofs.YtlfilhplklifjaaW.PrintLast Go.Proofs.YtlfilhplklifjaaW.PrintMore
section
variable {α β : Type} {f g h : Nat → Option α} {r : α} {c : Prop} [Decidable c]
theorem Ev.pos (hc : c) (h : Ev f r) : Ev (fun n => if c then f n else g n) r := Ev.congr (fun _ => if_pos hc) h
theorem Ev.neg (hc : ¬ c) (h : Ev g r) : Ev (fun n => if c then f n else g n) r := Ev.congr (fun _ => if_neg hc) h
theorem Ev.ite_ (h1 : c → Ev f r) (h2 : ¬ c → Ev g r) : Ev (fun n => if c then f n else g n) r := by
  by_cases hc : c
  · exact Ev.pos hc (h1 hc)
  · exact Ev.neg hc (h2 hc)
theorem Ev.bind' {g : Nat → Option α} {f : Nat → α → Option β} {r : β} (a : α) (h : Ev g a) (k : Ev (fun n => f n a) r) : Ev (fun n => (g n).bind (f n)) r := Ev.bind h k
theorem Ev.some_bind {f : Nat → α → Option β} {a : α} {r : β} (k : Ev (fun n => f n a) r) : Ev (fun n => (some a).bind (f n)) r := k
theorem Ev.const {x : Option α} (h : x = some r) : Ev (fun _ => x) r := ⟨0, fun _ _ => h⟩
end
theorem u64_wrap (n : Int) : IntKind.u64.wrap n = n % 18446744073709551616 := by simp [IntKind.wrap, IntKind.bits, IntKind.signed]
theorem u64_id {n : Int} (h0 : 0 ≤ n) (h1 : n < 18446744073709551616) : IntKind.u64.wrap n = n := by rw [u64_wrap]; omega
open Knuth
section
variable {y y1 y0 u v : Int} (N : Norm y y1 y0 u v)
include N
theorem l0_ok {s w : Int} {res : Int × Int} (hk : Ev (fun k => bits_Div64.j2 k y s y1 y0 u v w ((u * 4294967296 + v) / y)) res) :
    ∀ (n : Nat) (q r : Int), (q - (u * 4294967296 + v) / y).toNat ≤ n → Guess y y1 u v q r → Ev (fun k => bits_Div64.l0 k y s y1 y0 u v w q r) res := by
  have Q0 := N.Q_nonneg
  have Q1 := N.Q_small
  have hy1 := N.y1l; have hy1h := N.y1h; have hy0 := N.y0l; have hy0h := N.y0h; have hv := N.vl; have hvh := N.vh
  intro n
  induction n with
  | zero =>
    intro q r hn g
    have hq : q = (u * 4294967296 + v) / y := by have := g.1; omega
    have c1 : ¬ q ≥ 4294967296 := by omega
    have c2 : ¬ q * y0 > 4294967296 * r + v := fun c => by have := (N.miss g (.inr c)).1; omega
    have m1 : 0 ≤ q * y0 := Int.mul_nonneg (by omega) hy0
    have m2 : q * y0 ≤ 4294967295 * y0 := Int.mul_le_mul_of_nonneg_right (by omega) hy0
    have g4 := g.2.2.2.1; have g5 := g.2.2.2.2
    refine Ev.step (fun k => by rw [bits_Div64.l0]) ?_
    refine Ev.neg c1 ?_
    rw [u64_id (n := q * y0) m1 (by omega), u64_id (n := 4294967296 * r) (by omega) (by omega), u64_id (n := 4294967296 * r + v) (by omega) (by omega)]
    refine Ev.step (fun k => by rw [bits_Div64.j1]) ?_
    refine Ev.neg (by simpa using c2) ?_
    rw [hq]; exact hk
  | succ n ih =>
    intro q r hn g
    have g4 := g.2.2.2.1; have g5 := g.2.2.2.2; have gq := g.2.1; have gQ := g.1
    have miss : (q ≥ 4294967296 ∨ q * y0 > 4294967296 * r + v) → Ev (fun k => bits_Div64.j1 k y s y1 y0 u v w q r true) res := fun c => by
      have m := N.miss g c
      refine Ev.step (fun k => by rw [bits_Div64.j1]) ?_
      refine Ev.pos rfl ?_
      rw [u64_id (n := r + y1) (by omega) (by omega), u64_id (n := q - 1) (by omega) (by omega)]
      refine Ev.ite_ (fun e => ?_) (fun e => ?_)
      · rw [m.2 e]; exact hk
      · exact ih (q - 1) (r + y1) (by omega) (N.next g c (by omega))
    refine Ev.step (fun k => by rw [bits_Div64.l0]) ?_
    refine Ev.ite_ (fun c1 => miss (.inl c1)) (fun c1 => ?_)
    have m1 : 0 ≤ q * y0 := Int.mul_nonneg (by omega) hy0
    have m2 : q * y0 ≤ 4294967295 * y0 := Int.mul_le_mul_of_nonneg_right (by omega) hy0
    rw [u64_id (n := q * y0) m1 (by omega), u64_id (n := 4294967296 * r) (by omega) (by omega), u64_id (n := 4294967296 * r + v) (by omega) (by omega)]
    by_cases c2 : q * y0 > 4294967296 * r + v
    · rw [decide_eq_true c2]; exact miss (.inr c2)
    · rw [decide_eq_false c2]
      refine Ev.step (fun k => by rw [bits_Div64.j1]) ?_
      refine Ev.neg (by simp) ?_
      rw [N.hit g (by omega) (by omega)]; exact hk
theorem l1_ok {s Q t : Int} (hs : 0 ≤ s) (hQ : 0 ≤ Q ∧ Q < 4294967296) :
    ∀ (n : Nat) (q r : Int), (q - (u * 4294967296 + v) / y).toNat ≤ n → Guess y y1 u v q r → ∃ rem, Ev (fun k => bits_Div64.l1 k y s y1 y0 v Q r t q) (Q * 4294967296 + (u * 4294967296 + v) / y, rem) := by
  have Q0 := N.Q_nonneg
  have Q1 := N.Q_small
  have hy1 := N.y1l; have hy1h := N.y1h; have hy0 := N.y0l; have hy0h := N.y0h; have hv := N.vl; have hvh := N.vh
  have fin : ∀ q : Int, q = (u * 4294967296 + v) / y → IntKind.u64.wrap (IntKind.u64.wrap (Q * 4294967296) + q) = Q * 4294967296 + (u * 4294967296 + v) / y := fun q hq => by
    rw [u64_id (n := Q * 4294967296) (by omega) (by omega), u64_id (by omega) (by omega), hq]
  intro n
  induction n with
  | zero =>
    intro q r hn g
    have hq : q = (u * 4294967296 + v) / y := by have := g.1; omega
    have c1 : ¬ q ≥ 4294967296 := by omega
    have c2 : ¬ q * y0 > 4294967296 * r + v := fun c => by have := (N.miss g (.inr c)).1; omega
    have m1 : 0 ≤ q * y0 := Int.mul_nonneg (by omega) hy0
    have m2 : q * y0 ≤ 4294967295 * y0 := Int.mul_le_mul_of_nonneg_right (by omega) hy0
    have g4 := g.2.2.2.1; have g5 := g.2.2.2.2
    refine ⟨shr .u64 (IntKind.u64.wrap (IntKind.u64.wrap (IntKind.u64.wrap (t * 4294967296) + v) - IntKind.u64.wrap (q * y))) s, ?_⟩
    refine Ev.step (fun k => by rw [bits_Div64.l1]) ?_
    refine Ev.neg c1 ?_
    rw [u64_id (n := q * y0) m1 (by omega), u64_id (n := 4294967296 * r) (by omega) (by omega), u64_id (n := 4294967296 * r + v) (by omega) (by omega)]
    refine Ev.step (fun k => by rw [bits_Div64.j4]) ?_
    refine Ev.neg (by simpa using c2) (Ev.pos hs (Ev.const ?_))
    rw [fin q hq]
  | succ n ih =>
    intro q r hn g
    have g4 := g.2.2.2.1; have g5 := g.2.2.2.2; have gq := g.2.1; have gQ := g.1
    have miss : (q ≥ 4294967296 ∨ q * y0 > 4294967296 * r + v) → ∃ rem, Ev (fun k => bits_Div64.j4 k y s y1 y0 v Q r t q true) (Q * 4294967296 + (u * 4294967296 + v) / y, rem) := fun c => by
      have m := N.miss g c
      by_cases e : r + y1 ≥ 4294967296
      · refine ⟨shr .u64 (IntKind.u64.wrap (IntKind.u64.wrap (IntKind.u64.wrap (t * 4294967296) + v) - IntKind.u64.wrap ((q - 1) * y))) s, ?_⟩
        refine Ev.step (fun k => by rw [bits_Div64.j4]) ?_
        refine Ev.pos rfl ?_
        rw [u64_id (n := r + y1) (by omega) (by omega), u64_id (n := q - 1) (by omega) (by omega)]
        refine Ev.pos e (Ev.pos hs (Ev.const ?_))
        rw [fin (q - 1) (m.2 e)]
      · obtain ⟨rem, hr⟩ := ih (q - 1) (r + y1) (by omega) (N.next g c (by omega))
        refine ⟨rem, ?_⟩
        refine Ev.step (fun k => by rw [bits_Div64.j4]) ?_
        refine Ev.pos rfl ?_
        rw [u64_id (n := r + y1) (by omega) (by omega), u64_id (n := q - 1) (by omega) (by omega)]
        exact Ev.neg e hr
    by_cases c1 : q ≥ 4294967296
    · obtain ⟨rem, hr⟩ := miss (.inl c1)
      refine ⟨rem, ?_⟩
      refine Ev.step (fun k => by rw [bits_Div64.l1]) ?_
      exact Ev.pos c1 hr
    · have m1 : 0 ≤ q * y0 := Int.mul_nonneg (by omega) hy0
      have m2 : q * y0 ≤ 4294967295 * y0 := Int.mul_le_mul_of_nonneg_right (by omega) hy0
      by_cases c2 : q * y0 > 4294967296 * r + v
      · obtain ⟨rem, hr⟩ := miss (.inr c2)
        refine ⟨rem, ?_⟩
        refine Ev.step (fun k => by rw [bits_Div64.l1]) ?_
        refine Ev.neg c1 ?_
        rw [u64_id (n := q * y0) m1 (by omega), u64_id (n := 4294967296 * r) (by omega) (by omega), u64_id (n := 4294967296 * r + v) (by omega) (by omega), decide_eq_true c2]
        exact hr
      · refine ⟨shr .u64 (IntKind.u64.wrap (IntKind.u64.wrap (IntKind.u64.wrap (t * 4294967296) + v) - IntKind.u64.wrap (q * y))) s, ?_⟩
        refine Ev.step (fun k => by rw [bits_Div64.l1]) ?_
        refine Ev.neg c1 ?_
        rw [u64_id (n := q * y0) m1 (by omega), u64_id (n := 4294967296 * r) (by omega) (by omega), u64_id (n := 4294967296 * r + v) (by omega) (by omega), decide_eq_false c2]
        refine Ev.step (fun k => by rw [bits_Div64.j4]) ?_
        refine Ev.neg (by simp) (Ev.pos hs (Ev.const ?_))
        rw [fin q (N.hit g (by omega) (by omega))]
end
theorem tdiv_pos {x y : Int} (hx : 0 ≤ x) : Int.tdiv x y = x / y := Int.tdiv_eq_ediv_of_nonneg hx
/-- From the normalized numbers on. -/
theorem core_ok {y y1 y0 u v w s : Int} (N : Norm y y1 y0 u v) (hy : y < 18446744073709551616) (hs : 0 ≤ s) (hw : 0 ≤ w ∧ w < 4294967296) :
    ∃ rem, Ev (fun k => bits_Div64.l0 k y s y1 y0 u v w (IntKind.u64.wrap (Int.tdiv u y1)) (IntKind.u64.wrap (u - IntKind.u64.wrap (IntKind.u64.wrap (Int.tdiv u y1) * y1)))) (((u * 4294967296 + v) * 4294967296 + w) / y, rem) := by
  have hyp := N.ypos
  have hR := N.rest
  have hul := N.ul; have huh := N.uh; have hvl := N.vl; have hvh := N.vh; have hy1 := N.y1l; have hy1h := N.y1h
  have N2 : Norm y y1 y0 ((u * 4294967296 + v) % y) w := ⟨N.hy, N.y0l, N.y0h, N.y1l, N.y1h, hR.2.1, hR.2.2, hw.1, hw.2⟩
  have norm1 : ∀ z : Int, 0 ≤ z → z < y → IntKind.u64.wrap (Int.tdiv z y1) = z / y1 ∧ IntKind.u64.wrap (z - IntKind.u64.wrap (z / y1 * y1)) = z - z / y1 * y1 := fun z h1 h2 => by
    have d1 := Int.ediv_mul_le z (b := y1) (by omega)
    have d0 : 0 ≤ z / y1 := Int.ediv_nonneg h1 (by omega)
    have d2 : z / y1 ≤ z := Int.ediv_le_self _ h1
    have d3 : 0 ≤ z / y1 * y1 := Int.mul_nonneg d0 (by omega)
    rw [tdiv_pos h1, u64_id d0 (by omega), u64_id d3 (by omega), u64_id (by omega) (by omega)]
    exact ⟨rfl, rfl⟩
  obtain ⟨rem, hrem⟩ := l1_ok N2 hs (Q := (u * 4294967296 + v) / y) (t := (u * 4294967296 + v) % y) ⟨N.Q_nonneg, N.Q_small⟩ _ _ _ (Nat.le_refl _) N2.first
  refine ⟨rem, ?_⟩
  have e1 := norm1 u hul huh
  rw [e1.1, e1.2, two hyp]
  refine l0_ok N ?_ _ _ _ (Nat.le_refl _) N.first
  refine Ev.step (fun k => by rw [bits_Div64.j2]) ?_
  have eu : IntKind.u64.wrap (IntKind.u64.wrap (IntKind.u64.wrap (u * 4294967296) + v) - IntKind.u64.wrap ((u * 4294967296 + v) / y * y)) = (u * 4294967296 + v) % y := by
    rw [u64_wrap, u64_wrap, u64_wrap, u64_wrap]
    have := hR.1
    omega
  have e2 := norm1 _ hR.2.1 hR.2.2
  rw [eu, e2.1, e2.2]
  exact Ev.neg (by omega) hrem
/-! ### From the numbers to the normalized ones -/
theorem len_ok : ∀ (n x : Nat), x < 2 ^ n → x ≠ 0 → n ≤ 64 → 1 ≤ Lib.bitLen x ∧ Lib.bitLen x ≤ n ∧ 2 ^ (Lib.bitLen x - 1) ≤ x ∧ x < 2 ^ Lib.bitLen x
  | 0, x, h, h0, _ => by simp at h; omega
  | n + 1, x, h, h0, hn => by
    have h64 : x < 2 ^ 64 := Nat.lt_of_lt_of_le h (Nat.pow_le_pow_right (by decide) hn)
    rw [Lib.bitLen_half x h0 h64]
    by_cases q : x / 2 = 0
    · have h1 : x = 1 := by omega
      subst h1
      have : Lib.bitLen (1 / 2) = 0 := by decide
      rw [this]
      exact ⟨by omega, by omega, by decide, by decide⟩
    · have ih := len_ok n (x / 2) (by rw [Nat.pow_succ] at h; omega) q (by omega)
      obtain ⟨i1, i2, i3, i4⟩ := ih
      refine ⟨by omega, by omega, ?_, ?_⟩
      · have : 2 ^ (1 + Lib.bitLen (x / 2) - 1) = 2 ^ (Lib.bitLen (x / 2) - 1) * 2 := by rw [← Nat.pow_succ]; congr 1; omega
        rw [this]; omega
      · rw [Nat.add_comm, Nat.pow_succ]; omega
theorem mask32 {x : Int} (h0 : 0 ≤ x) (h1 : x < 18446744073709551616) : Go.bits .and .u64 x 4294967295 = x % 4294967296 :=
  Go.bits_mask .u64 64 (by decide) (fun n a b => u64_id a (by simpa using b)) 32 (by decide) x h0 (by simpa using h1)
theorem join64 (i : Nat) {x y : Int} (hx₀ : 0 ≤ x) (hx : x % 2 ^ i = 0) (hx₁ : x < 18446744073709551616) (hy₀ : 0 ≤ y) (hy : y < 2 ^ i) (hy₁ : y < 18446744073709551616) : Go.bits .or .u64 x y = x + y :=
  Go.bits_join .u64 64 (by decide) (fun n a b => u64_id a (by simpa using b)) i x y hx₀ hx (by simpa using hx₁) hy₀ hy (by simpa using hy₁)
theorem div64_ok (a0 a1 a2 : Nat) (h1 : a1 < 18446744073709551616) (h2 : a2 < 18446744073709551616) (h : a0 < a2) :
    ∃ rem, Ev (fun k => bits_Div64.f k a0 a1 a2) ((((a0 * 18446744073709551616 + a1) / a2 : Nat) : Int), rem) := by
  unfold bits_Div64.f
  by_cases q0 : a0 = 0
  · subst q0
    refine ⟨Int.tmod a1 a2, Ev.neg (by omega) (Ev.neg (by omega) (Ev.pos rfl (Ev.const ?_)))⟩
    rw [tdiv_pos (by omega)]
    have hle : a1 / a2 ≤ a1 := Nat.div_le_self _ _
    rw [Nat.zero_mul, Nat.zero_add, ← Int.natCast_ediv, u64_id (n := ((a1 / a2 : Nat) : Int)) (Int.natCast_nonneg _) (by omega)]
  obtain ⟨L1, L2, L3, L4⟩ := len_ok 64 a2 (by simpa using h2) (by omega) (Nat.le_refl _)
  obtain ⟨s, hs, hsl⟩ : ∃ s : Nat, s + Lib.bitLen a2 = 64 ∧ s ≤ 63 := ⟨64 - Lib.bitLen a2, by omega, by omega⟩
  have hlz : bits_LeadingZeros64.f (a2 : Int) = some (s : Int) := by
    unfold bits_LeadingZeros64.f
    rw [if_pos ⟨by omega, by omega⟩, Int.toNat_natCast]
    congr 1; omega
  have p64 : (2 : Nat) ^ s * 2 ^ Lib.bitLen a2 = 18446744073709551616 := by rw [← Nat.pow_add, hs]
  have p63 : (2 : Nat) ^ s * 2 ^ (Lib.bitLen a2 - 1) = 9223372036854775808 := by rw [← Nat.pow_add, show s + (Lib.bitLen a2 - 1) = 63 by omega]
  have ps : 0 < (2 : Nat) ^ s := Nat.two_pow_pos s
  have p64s : (2 : Nat) ^ (64 - s) * 2 ^ s = 18446744073709551616 := by rw [← Nat.pow_add, show 64 - s + s = 64 by omega]
  have ypos : a2 * 2 ^ s < 18446744073709551616 := by rw [← p64, Nat.mul_comm]; exact Nat.mul_lt_mul_of_pos_left L4 ps
  have ybig : 9223372036854775808 ≤ a2 * 2 ^ s := by rw [← p63, Nat.mul_comm]; exact Nat.mul_le_mul_right _ L3
  have usm : a0 * 2 ^ s < a2 * 2 ^ s := Nat.mul_lt_mul_of_pos_right h ps
  -- the upper part's filling
  have fill : a1 / 2 ^ (64 - s) < 2 ^ s := by
    rw [Nat.div_lt_iff_lt_mul (Nat.two_pow_pos _), Nat.mul_comm, p64s]; exact h1
  have hsplit : a1 * 2 ^ s = a1 / 2 ^ (64 - s) * 18446744073709551616 + a1 * 2 ^ s % 18446744073709551616 := by
    have e := Nat.div_add_mod (a1 * 2 ^ s) 18446744073709551616
    have e2 : a1 * 2 ^ s / 18446744073709551616 = a1 / 2 ^ (64 - s) := by
      rw [← p64s, Nat.mul_div_mul_right _ _ ps]
    rw [e2] at e
    omega
  have ule : a0 * 2 ^ s + a1 / 2 ^ (64 - s) < a2 * 2 ^ s := by
    have : (a0 + 1) * 2 ^ s ≤ a2 * 2 ^ s := Nat.mul_le_mul_right _ h
    rw [Nat.add_mul, Nat.one_mul] at this
    omega
  have shl_ : ∀ x : Nat, shl .u64 (x : Int) (s : Int) = ((x * 2 ^ s % 18446744073709551616 : Nat) : Int) := fun x => by
    unfold shl
    rw [u64_wrap, Int.toNat_natCast, show min s IntKind.u64.bits = s from Nat.min_eq_left (by have : IntKind.u64.bits = 64 := rfl; omega)]
    simp
  have shr_ : shr .u64 (a1 : Int) (((64 - s : Nat)) : Int) = ((a1 / 2 ^ (64 - s) : Nat) : Int) := by
    unfold shr
    rw [Int.toNat_natCast, show min (64 - s) IntKind.u64.bits = 64 - s from Nat.min_eq_left (by have : IntKind.u64.bits = 64 := rfl; omega)]
    simp
  have ws : IntKind.u64.wrap (s : Int) = s := u64_id (by omega) (by omega)
  have ws2 : IntKind.u64.wrap (64 - (s : Int)) = ((64 - s : Nat) : Int) := by rw [u64_id (by omega) (by omega)]; omega
  have join : Go.bits .or .u64 ((a0 * 2 ^ s % 18446744073709551616 : Nat) : Int) ((a1 / 2 ^ (64 - s) : Nat) : Int) = ((a0 * 2 ^ s + a1 / 2 ^ (64 - s) : Nat) : Int) := by
    rw [Nat.mod_eq_of_lt (by omega)]
    rw [join64 s (by omega) ?_ (by omega) (by omega) ?_ (by omega)]
    · omega
    · have : a0 * 2 ^ s % 2 ^ s = 0 := Nat.mul_mod_left _ _
      exact_mod_cast this
    · exact_mod_cast fill
  generalize hY : a2 * 2 ^ s = Y at *
  generalize hU : a0 * 2 ^ s + a1 / 2 ^ (64 - s) = U at *
  generalize hLo : a1 * 2 ^ s % 18446744073709551616 = Lo at *
  have hLol : Lo < 18446744073709551616 := by rw [← hLo]; exact Nat.mod_lt _ (by decide)
  have N : Norm (Y : Int) ((Y : Int) / 4294967296) ((Y : Int) % 4294967296) (U : Int) ((Lo : Int) / 4294967296) := ⟨by omega, by omega, by omega, by omega, by omega, by omega, by omega, by omega, by omega⟩
  obtain ⟨rem, hrem⟩ := core_ok N (by omega) (s := (s : Int)) (w := (Lo : Int) % 4294967296) (by omega) ⟨by omega, by omega⟩
  refine ⟨rem, Ev.neg (by omega) (Ev.neg (by omega) (Ev.neg (by omega) ?_))⟩
  rw [hlz]
  refine Ev.some_bind ?_
  simp only [ws, ws2, shl_, shr_, hY, hLo, join, Nat.mod_eq_of_lt ypos]
  rw [mask32 (by omega) (by omega), mask32 (by omega) (by omega)]
  refine Ev.pos (by omega) (Ev.pos (by omega) (Ev.neg (by omega) ?_))
  have e : (((a0 * 18446744073709551616 + a1) / a2 : Nat) : Int) = (((U : Int) * 4294967296 + (Lo : Int) / 4294967296) * 4294967296 + (Lo : Int) % 4294967296) / (Y : Int) := by
    have e1 : ((U : Int) * 4294967296 + (Lo : Int) / 4294967296) * 4294967296 + (Lo : Int) % 4294967296 = (((a0 * 18446744073709551616 + a1) * 2 ^ s : Nat) : Int) := by
      have : (a0 * 18446744073709551616 + a1) * 2 ^ s = U * 18446744073709551616 + Lo := by
        rw [Nat.add_mul, Nat.mul_right_comm, hsplit, ← hU, Nat.add_mul]; omega
      rw [this]; omega
    rw [e1, ← hY, ← Int.natCast_ediv, Nat.mul_div_mul_right _ _ ps]
  rw [e]
  exact hrem
end Go.Proofs.Ytlfilhplklifjaa.PM

namespace Go.Proofs.Ytlfilhplklifjaa.X
open Go.RowKit Go.Proofs.YtlfilhplklifjaaW.PrintWords Go.Proofs.YtlfilhplklifjaaW.PrintLast Go.Proofs.YtlfilhplklifjaaW.PrintMore
attribute [local go_sem] max2_int min2_int max_two min_two max_three min_three max_four min_four   -- for this text's walks alone
set_option linter.unusedVariables false
set_option linter.unusedSimpArgs false

def WFi64 (x : Int) : Prop := (Lit.int .i64 x).wf = true
def WF37 (x : S37) : Prop := WFi64 x.f0 ∧ WFi64 x.f1 ∧ WFi64 x.f2 ∧ WFi64 x.f3 ∧ WFi64 x.f4
def WFL37 (x : List (S37)) : Prop := x.length ≤ 9223372036854775807 ∧ ∀ y ∈ x, WF37 y
end Go.Proofs.Ytlfilhplklifjaa.X

/- Plain words of this seat: rounds, wrapped numbers, lists by index; the check of candidates. -/
namespace Go.Proofs.Ytlfilhplklifjaa.PA
open Go.RowKit Go.Proofs.Ytlfilhplklifjaa.X Go.Proofs.YtlfilhplklifjaaW.PrintWords Go.Proofs.YtlfilhplklifjaaW.PrintLast

section
variable {α β : Type} {f g h : Nat → Option α} {r : α} {c : Prop} [Decidable c]
theorem Ev.pos (hc : c) (h : Ev f r) : Ev (fun n => if c then f n else g n) r := Ev.congr (fun _ => if_pos hc) h
theorem Ev.neg (hc : ¬ c) (h : Ev g r) : Ev (fun n => if c then f n else g n) r := Ev.congr (fun _ => if_neg hc) h
theorem Ev.ite_ (h1 : c → Ev f r) (h2 : ¬ c → Ev g r) : Ev (fun n => if c then f n else g n) r := by
  by_cases hc : c
  · exact Ev.pos hc (h1 hc)
  · exact Ev.neg hc (h2 hc)
theorem Ev.bind' {g : Nat → Option α} {f : Nat → α → Option β} {r : β} (a : α) (h : Ev g a) (k : Ev (fun n => f n a) r) : Ev (fun n => (g n).bind (f n)) r := Ev.bind h k
theorem Ev.some_bind {f : Nat → α → Option β} {a : α} {r : β} (k : Ev (fun n => f n a) r) : Ev (fun n => (some a).bind (f n)) r := k
theorem Ev.const {x : Option α} (h : x = some r) : Ev (fun _ => x) r := ⟨0, fun _ _ => h⟩
theorem Ev.uniq {r r' : α} (h : Ev f r) (h' : Ev f r') : r = r' := by
  obtain ⟨K, h⟩ := h
  obtain ⟨K', h'⟩ := h'
  have h1 := h (max K K') (by omega)
  have h2 := h' (max K K') (by omega)
  rw [h1] at h2
  exact Option.some.inj h2
end

theorem wrap_id {x : Int} (h0 : -9223372036854775808 ≤ x) (h1 : x < 9223372036854775808) : wrap64 x = x := by
  unfold wrap64; omega
theorem wrap_nat {i : Nat} (h : i < 9223372036854775807) : wrap64 ((i : Int) + 1) = ((i + 1 : Nat) : Int) := by
  rw [wrap_id (by omega) (by omega)]; rfl
theorem rd37 (l : List S37) (i : Nat) : rd_T37 l (i : Int) = l.getD i z37 := by simp [rd_T37]
theorem rd29 (l : List S29) (i : Nat) : rd_T29 l (i : Int) = l.getD i z29 := by simp [rd_T29]
theorem rd88 (l : List S88) (i : Nat) : rd_T88 l (i : Int) = l.getD i z88 := by simp [rd_T88]
theorem rd110 (l : List S110) (i : Nat) : rd_T110 l (i : Int) = l.getD i z110 := by simp [rd_T110]
/-! ### Check -/
/-- A candidate within the limits. -/
def OkC (c : S37) : Prop := 0 ≤ c.f0 ∧ c.f0 ≤ 2147483647 ∧ -4503599627370496 ≤ c.f1 ∧ c.f1 ≤ 4503599627370496 ∧ 0 ≤ c.f2 ∧ c.f2 ≤ 9007199254740992 ∧ 0 ≤ c.f3 ∧ c.f3 ≤ 9007199254740992 ∧ 1 ≤ c.f4 ∧ c.f4 ≤ 16
instance (c : S37) : Decidable (OkC c) := by unfold OkC; infer_instance
/-- One of the candidates from j on, ahead of i, has i's number. -/
def dupFrom (l : List S37) (i : Nat) : Nat → Nat → Bool
  | 0, _ => false
  | d + 1, j => if (l.getD j z37).f0 = (l.getD i z37).f0 then true else dupFrom l i d (j + 1)
def chkFrom (l : List S37) : Nat → Nat → Int
  | 0, _ => 0
  | d + 1, i => if OkC (l.getD i z37) then (if dupFrom l i i 0 = true then 10 else chkFrom l d (i + 1)) else 3
def chk (l : List S37) : Int := if (l.length : Int) > 12 then 6 else chkFrom l l.length 0

theorem impl_dup (l : List S37) (hn : l.length ≤ 12) (i : Nat) (hi : i < l.length) (r : Int) (hnext : Ev (fun k => choose_Check.l0 k l l l.length ((i + 1 : Nat) : Int)) r) (a b c e : Int) :
    ∀ d j, j + d = i → Ev (fun k => choose_Check.l1 k l l l.length i (l.take i) i j (l.getD i z37).f0 a b c e) (if dupFrom l i d j = true then 10 else r) := by
  intro d
  induction d with
  | zero =>
    intro j hj
    refine Ev.step (fun k => by rw [choose_Check.l1]) ?_
    refine Ev.neg (by omega) ?_
    rw [wrap_nat (by omega)]
    simpa [dupFrom] using hnext
  | succ d ih =>
    intro j hj
    refine Ev.step (fun k => by rw [choose_Check.l1]) ?_
    refine Ev.pos (by omega) (Ev.pos (by omega) (Ev.pos (by rw [List.length_take]; omega) ?_))
    rw [rd37]
    unfold dupFrom
    have e1 : (l.take i).getD j z37 = l.getD j z37 := by
      simp [List.getD, show j < i by omega]
    rw [e1]
    by_cases h : (l.getD j z37).f0 = (l.getD i z37).f0
    · rw [if_pos h]
      exact Ev.pos h (Ev.const rfl)
    · rw [if_neg h]
      refine Ev.neg h ?_
      rw [wrap_nat (by omega)]
      exact ih (j + 1) (by omega)

theorem impl_j1 (l : List S37) (hn : l.length ≤ 12) (i : Nat) (hi : i < l.length) (r : Int) (hnext : Ev (fun k => choose_Check.l0 k l l l.length ((i + 1 : Nat) : Int)) r) (bad : Bool) (a b c e : Int) :
    Ev (fun k => choose_Check.j1 k l i l l.length i bad (l.getD i z37).f0 a b c e) (if bad = true then 3 else if dupFrom l i i 0 = true then 10 else r) := by
  refine Ev.step (fun k => by rw [choose_Check.j1]) ?_
  cases bad with
  | true => exact Ev.pos rfl (Ev.const rfl)
  | false =>
    refine Ev.neg (by simp) (Ev.pos (by omega) (Ev.pos (by omega) (Ev.some_bind ?_)))
    have h1 : ((l.take ((i : Int)).toNat).length : Int) = i := by rw [List.length_take]; simp; omega
    simp only [h1]
    simp only [Int.toNat_natCast, Bool.false_eq_true, if_false]
    exact impl_dup l hn i hi r hnext a b c e i 0 (by omega)

theorem impl_chk_from (l : List S37) (hn : l.length ≤ 12) : ∀ d i, i + d = l.length → Ev (fun k => choose_Check.l0 k l l l.length i) (chkFrom l d i) := by
  intro d
  induction d with
  | zero =>
    intro i hi
    refine Ev.step (fun k => by rw [choose_Check.l0]) ?_
    exact Ev.neg (by omega) (Ev.const rfl)
  | succ d ih =>
    intro i hi
    have J := fun bad a b c e => impl_j1 l hn i (by omega) _ (ih (i + 1) (by omega)) bad a b c e
    refine Ev.step (fun k => by rw [choose_Check.l0]) ?_
    refine Ev.pos (by omega) (Ev.pos (by omega) (Ev.pos (by omega) ?_))
    simp only [rd37]
    unfold chkFrom
    generalize l.getD i z37 = c at J ⊢
    by_cases h : OkC c
    · rw [if_pos h]
      obtain ⟨h1, h2, h3, h4, h5, h6, h7, h8, h9, h10⟩ := h
      refine Ev.neg (by omega) (Ev.neg (by omega) (Ev.neg (by omega) (Ev.neg (by omega) (Ev.neg (by omega) (Ev.neg (by omega) (Ev.neg (by omega) (Ev.neg (by omega) (Ev.neg (by omega) ?_))))))))
      have e1 : decide (c.f4 > 16) = false := by simp; omega
      rw [e1]
      simpa using J false c.f1 c.f2 c.f3 c.f4
    · rw [if_neg h]
      have J3 := J true c.f1 c.f2 c.f3 c.f4
      simp only [if_true] at J3
      refine Ev.ite_ (fun _ => J3) (fun h1 => Ev.ite_ (fun _ => J3) (fun h2 => Ev.ite_ (fun _ => J3) (fun h3 => Ev.ite_ (fun _ => J3) (fun h4 => Ev.ite_ (fun _ => J3) (fun h5 => Ev.ite_ (fun _ => J3) (fun h6 => Ev.ite_ (fun _ => J3) (fun h7 => Ev.ite_ (fun _ => J3) (fun h8 => Ev.ite_ (fun _ => J3) (fun h9 => ?_)))))))))
      have e1 : decide (c.f4 > 16) = true := by
        simp only [decide_eq_true_eq]
        by_cases h10 : c.f4 > 16
        · exact h10
        · exact absurd ⟨by omega, by omega, by omega, by omega, by omega, by omega, by omega, by omega, by omega, by omega⟩ h
      rw [e1]
      exact J3

theorem impl_check (l : List S37) : Ev (fun k => choose_Check.f k l) (chk l) := by
  unfold choose_Check.f chk
  by_cases h : (l.length : Int) > 12
  · rw [if_pos h]; exact Ev.pos h (Ev.const rfl)
  · rw [if_neg h]; exact Ev.neg h (impl_chk_from l (by omega) l.length 0 (by omega))

/-- What a check that says 0 tells. -/
theorem chkFrom_ok {l : List S37} : ∀ {d i}, i + d = l.length → chkFrom l d i = 0 → ∀ j, i ≤ j → j < l.length → OkC (l.getD j z37) := by
  intro d
  induction d with
  | zero => intro i hi _ j hj hl; omega
  | succ d ih =>
    intro i hi h j hj hl
    unfold chkFrom at h
    by_cases hok : OkC (l.getD i z37)
    · rw [if_pos hok] at h
      by_cases hd : dupFrom l i i 0 = true
      · rw [if_pos hd] at h; omega
      · rw [if_neg hd] at h
        rcases Nat.lt_or_ge i j with h1 | h1
        · exact ih (by omega) h j (by omega) hl
        · rw [show j = i by omega]; exact hok
    · rw [if_neg hok] at h; omega
theorem chk_ok {l : List S37} (h : chk l = 0) : l.length ≤ 12 ∧ ∀ c ∈ l, OkC c := by
  unfold chk at h
  by_cases h12 : (l.length : Int) > 12
  · rw [if_pos h12] at h; omega
  · rw [if_neg h12] at h
    refine ⟨by omega, fun c hc => ?_⟩
    obtain ⟨j, hj, rfl⟩ := List.getElem_of_mem hc
    have := chkFrom_ok (by omega) h j (by omega) hj
    simpa [List.getD, hj] using this
end Go.Proofs.Ytlfilhplklifjaa.PA

/- Positions by a test; how many intervals hold an instant; the reference's hull. -/
namespace Go.Proofs.Ytlfilhplklifjaa.PA
open Go.RowKit Go.Proofs.Ytlfilhplklifjaa.X Go.Proofs.YtlfilhplklifjaaW.PrintWords Go.Proofs.YtlfilhplklifjaaW.PrintLast

/-! ### Positions -/
def idxFrom (l : List S37) (p : S37 → Bool) : Nat → Nat → List Int
  | 0, _ => []
  | d + 1, i => if p (l.getD i z37) = true then (i : Int) :: idxFrom l p d (i + 1) else idxFrom l p d (i + 1)
def idx (l : List S37) (p : S37 → Bool) : List Int := idxFrom l p l.length 0
def pIn (lo hi : Int) (c : S37) : Bool := decide (lo ≤ c.f1) && decide (c.f1 ≤ hi)
theorem where48 (l : List S37) (hn : l.length ≤ 100) (lo hi : Int) : ∀ d i (acc : List Int), i + d = l.length → acc.length ≤ i → Ev (fun k => api_Cand_47_48.l0 k acc l l.length i lo hi) (acc ++ idxFrom l (pIn lo hi) d i) := by
  intro d
  induction d with
  | zero =>
    intro i acc hi ha
    refine Ev.step (fun k => by rw [api_Cand_47_48.l0]) ?_
    exact Ev.neg (by omega) (Ev.const (by simp [idxFrom]))
  | succ d ih =>
    intro i acc hi' ha
    refine Ev.step (fun k => by rw [api_Cand_47_48.l0]) ?_
    refine Ev.pos (by omega) (Ev.pos (by omega) (Ev.pos (by omega) ?_))
    simp only [rd37]
    have e : choose_Select_1.f (l.getD i z37).f0 (l.getD i z37).f1 (l.getD i z37).f2 (l.getD i z37).f3 (l.getD i z37).f4 lo hi = some (pIn lo hi (l.getD i z37)) := by
      unfold choose_Select_1.f pIn
      by_cases h : (l.getD i z37).f1 ≥ lo
      · rw [if_pos h, decide_eq_true h, Bool.true_and]
      · rw [if_neg h, decide_eq_false h, Bool.false_and]
    rw [e]
    refine Ev.some_bind ?_
    unfold idxFrom
    rw [wrap_nat (by omega)]
    by_cases h : pIn lo hi (l.getD i z37) = true
    · rw [if_pos h]
      refine Ev.pos h (Ev.pos (by omega) ?_)
      have := ih (i + 1) (acc ++ [(i : Int)]) (by omega) (by simp; omega)
      simpa using this
    · rw [if_neg h]
      exact Ev.neg h (ih (i + 1) acc (by omega) (by omega))
theorem impl_in (l : List S37) (hn : l.length ≤ 100) (lo hi : Int) : Ev (fun k => api_Cand_47_48.f k l lo hi) (idx l (pIn lo hi)) := where48 l hn lo hi l.length 0 [] (by omega) (by simp)

/-- The elements of a list of candidates, by index, are within the limits. -/
theorem okAt {l : List S37} (h : ∀ c ∈ l, OkC c) {i : Nat} (hi : i < l.length) : OkC (l.getD i z37) := by
  have : l.getD i z37 ∈ l := by simp [List.getD, hi]
  exact h _ this

/-! ### Counts -/
def holds (s : S29) (t : Int) : Bool := decide (s.f0 ≤ t) && decide (t ≤ s.f1)
def cnt (v : List S29) (t : Int) : Nat := v.countP (fun s => holds s t)
def span (c : S37) : S29 := ⟨c.f1 - c.f2, c.f1 + c.f2⟩
def spans (l : List S37) : List S29 := l.map span
/-- What a hull is: the first and the last instant with at least 'need' intervals; none if there is no such instant. -/
def HullSpec (v : List S29) (need : Int) (lo hi : Int) (ok : Bool) : Prop :=
  (ok = true ∧ 1 ≤ need ∧ need ≤ cnt v lo ∧ need ≤ cnt v hi ∧ ∀ t, need ≤ cnt v t → lo ≤ t ∧ t ≤ hi) ∨ (ok = false ∧ lo = 0 ∧ hi = 0 ∧ (need < 1 ∨ ∀ t, (cnt v t : Int) < need))
theorem HullSpec.uniq {v : List S29} {need a b a' b' : Int} {o o' : Bool} (h : HullSpec v need a b o) (h' : HullSpec v need a' b' o') : a = a' ∧ b = b' ∧ o = o' := by
  rcases h with ⟨rfl, h1, h2, h3, h4⟩ | ⟨rfl, rfl, rfl, h1⟩ <;> rcases h' with ⟨rfl, g1, g2, g3, g4⟩ | ⟨rfl, rfl, rfl, g1⟩
  · have x1 := h4 _ g2; have x2 := h4 _ g3; have x3 := g4 _ h2; have x4 := g4 _ h3
    exact ⟨by omega, by omega, rfl⟩
  · rcases g1 with g1 | g1
    · omega
    · have := g1 a; omega
  · rcases h1 with h1 | h1
    · omega
    · have := h1 a'; omega
  · exact ⟨rfl, rfl, rfl⟩

theorem holds_iff {s : S29} {t : Int} : holds s t = true ↔ s.f0 ≤ t ∧ t ≤ s.f1 := by simp [holds]
end Go.Proofs.Ytlfilhplklifjaa.PA

/- The program's runs and its hull. -/
namespace Go.Proofs.Ytlfilhplklifjaa.PA
open Go.RowKit Go.Proofs.Ytlfilhplklifjaa.X Go.Proofs.YtlfilhplklifjaaW.PrintWords Go.Proofs.YtlfilhplklifjaaW.PrintLast

/-! ### Valid intervals -/
def OkI (s : S29) : Prop := s.f0 ≤ s.f1 ∧ -8000000000000000000 ≤ s.f0 ∧ s.f1 ≤ 8000000000000000000
instance (s : S29) : Decidable (OkI s) := by unfold OkI; infer_instance
def valid (v : List S29) : List S29 := if (v.length : Int) > 48 then [] else v.filter (fun s => decide (OkI s))
theorem drift_check (s : S29) : drift_Check.f s.f0 s.f1 = some (if OkI s then 0 else 3) := by
  unfold drift_Check.f
  have nk : ∀ {p : Prop}, p → (OkI s → ¬ p) → ¬ OkI s := fun h h2 h3 => h2 h3 h
  by_cases h1 : s.f0 > s.f1
  · rw [if_pos h1, if_neg (nk h1 fun h => by unfold OkI at h; omega)]
  · rw [if_neg h1]
    by_cases h2 : s.f0 < -8000000000000000000
    · rw [if_pos h2, if_neg (nk h2 fun h => by unfold OkI at h; omega)]
    · rw [if_neg h2]
      by_cases h3 : s.f1 > 8000000000000000000
      · rw [if_pos h3, if_neg (nk h3 fun h => by unfold OkI at h; omega)]
      · rw [if_neg h3, if_pos (show OkI s by unfold OkI; omega)]
theorem valid_from (v : List S29) (hn : v.length ≤ 48) : ∀ d i (acc : List S29), i + d = v.length → acc.length ≤ i → Ev (fun k => interval_valid.l0 k acc v v.length i) (acc ++ (v.drop i).filter (fun s => decide (OkI s))) := by
  intro d
  induction d with
  | zero =>
    intro i acc hi ha
    refine Ev.step (fun k => by rw [interval_valid.l0]) ?_
    refine Ev.neg (by omega) (Ev.const ?_)
    rw [List.drop_eq_nil_of_le (by omega)]
    simp
  | succ d ih =>
    intro i acc hi ha
    have hlt : i < v.length := by omega
    have hg : v.getD i z29 = v[i] := by simp [List.getD, hlt]
    refine Ev.step (fun k => by rw [interval_valid.l0]) ?_
    refine Ev.pos (by omega) (Ev.pos (by omega) (Ev.pos (by omega) ?_))
    simp only [rd29]
    rw [drift_check, hg]
    refine Ev.some_bind ?_
    have ew : wrap64 ((i : Int) + 1) = ((i + 1 : Nat) : Int) := wrap_nat (by omega)
    rw [ew, List.drop_eq_getElem_cons hlt]
    by_cases h : OkI v[i]
    · rw [if_pos h, List.filter_cons_of_pos (by simpa using h)]
      refine Ev.pos rfl (Ev.pos (by omega) ?_)
      have := ih (i + 1) (acc ++ [v[i]]) (by omega) (by simp; omega)
      simpa using this
    · rw [if_neg h, List.filter_cons_of_neg (by simpa using h)]
      exact Ev.neg (by omega) (ih (i + 1) acc (by omega) (by omega))
theorem impl_valid (v : List S29) : Ev (fun k => interval_valid.f k v) (valid v) := by
  unfold interval_valid.f valid
  by_cases h : (v.length : Int) > 48
  · rw [if_pos h]; exact Ev.pos h (Ev.const rfl)
  · rw [if_neg h]
    refine Ev.neg h ?_
    have := valid_from v (by omega) v.length 0 [] (by omega) (by simp)
    simpa using this
theorem valid_len (v : List S29) : (valid v).length ≤ 48 := by
  unfold valid
  split
  · simp
  · exact Nat.le_trans (List.length_filter_le _ _) (by omega)
theorem valid_ok {v : List S29} {s : S29} (h : s ∈ valid v) : OkI s := by
  unfold valid at h
  split at h
  · simp at h
  · simpa using (List.mem_filter.1 h).2

/-! ### Changes -/
def changes (v : List S29) : List S110 := v.flatMap (fun s => [⟨s.f0, 1⟩, ⟨s.f1 + 1, -1⟩])
theorem changes_len (v : List S29) : (changes v).length = 2 * v.length := by
  unfold changes
  induction v with
  | nil => rfl
  | cons a r ih => simp only [List.flatMap_cons, List.length_append, List.length_cons, List.length_nil, ih]; omega
/-- What the changes up to an instant make together. -/
def sumLe (cs : List S110) (t : Int) : Int := (cs.map (fun x => if x.f0 ≤ t then x.f1 else 0)).sum
def total (cs : List S110) : Int := (cs.map (fun x => x.f1)).sum
theorem sumLe_changes (v : List S29) (h : ∀ s ∈ v, s.f0 ≤ s.f1) (t : Int) : sumLe (changes v) t = cnt v t := by
  induction v with
  | nil => rfl
  | cons a r ih =>
    have ih := ih (fun s hs => h s (List.mem_cons_of_mem _ hs))
    have ha := h a (by simp)
    have e1 : sumLe (changes (a :: r)) t = (if a.f0 ≤ t then 1 else 0) + ((if a.f1 + 1 ≤ t then -1 else 0) + sumLe (changes r) t) := by
      simp [sumLe, changes]
    have e2 : cnt (a :: r) t = cnt r t + (if holds a t = true then 1 else 0) := by simp [cnt, List.countP_cons]
    rw [e1, e2, ih]
    by_cases h1 : a.f0 ≤ t <;> by_cases h2 : a.f1 + 1 ≤ t
    · have : ¬ holds a t = true := fun hh => by have := holds_iff.1 hh; omega
      simp [h1, h2, this]; omega
    · have : holds a t = true := holds_iff.2 (by omega)
      simp [h1, h2, this]; omega
    · omega
    · have : ¬ holds a t = true := fun hh => by have := holds_iff.1 hh; omega
      simp [h1, h2, this]
theorem total_changes (v : List S29) : total (changes v) = 0 := by
  induction v with
  | nil => rfl
  | cons a r ih =>
    have : total (changes (a :: r)) = 1 + (-1 + total (changes r)) := by simp [total, changes]
    omega
theorem sum_perm {l l' : List Int} (h : l.Perm l') : l.sum = l'.sum := by
  induction h with
  | nil => rfl
  | cons x _ ih => simp [ih]
  | swap x y l => simp only [List.sum_cons]; omega
  | trans _ _ ih1 ih2 => exact ih1.trans ih2
theorem sumLe_perm {cs cs' : List S110} (h : cs.Perm cs') (t : Int) : sumLe cs t = sumLe cs' t := sum_perm (h.map _)
theorem total_perm {cs cs' : List S110} (h : cs.Perm cs') : total cs = total cs' := sum_perm (h.map _)

theorem runs_from (v : List S29) (hn : v.length ≤ 48) (hok : ∀ s ∈ v, OkI s) (r : List S88)
    (hr : Ev (fun k => (interval_change_82_83.f (changes v)).bind fun t => interval_runs.l1 k t [] 0 t ((changes v).length : Int) 0) r) :
    ∀ d i (acc : List S110), i + d = v.length → acc = changes (v.take i) → Ev (fun k => interval_runs.l0 k acc v v.length i) r := by
  intro d
  induction d with
  | zero =>
    intro i acc hi ha
    refine Ev.step (fun k => by rw [interval_runs.l0]) ?_
    refine Ev.neg (by omega) ?_
    rw [List.take_of_length_le (by omega)] at ha
    subst ha
    exact hr
  | succ d ih =>
    intro i acc hi ha
    have hlt : i < v.length := by omega
    have hg : v.getD i z29 = v[i] := by simp [List.getD, hlt]
    obtain ⟨_, h2, h3⟩ := hok v[i] (List.getElem_mem hlt)
    refine Ev.step (fun k => by rw [interval_runs.l0]) ?_
    refine Ev.pos (by omega) (Ev.pos (by omega) (Ev.pos (by omega) (Ev.some_bind ?_)))
    simp only [rd29]
    have ew : wrap64 ((i : Int) + 1) = ((i + 1 : Nat) : Int) := wrap_nat (by omega)
    have el : acc.length = 2 * i := by rw [ha, changes_len, List.length_take]; omega
    rw [hg, ew, wrap_id (x := v[i].f1 + 1) (by have := hok v[i] (List.getElem_mem hlt); unfold OkI at this; omega) (by omega)]
    refine Ev.pos (by simp [el]; omega) ?_
    refine ih (i + 1) _ (by omega) ?_
    rw [ha, List.take_succ_eq_append_getElem hlt]
    unfold changes
    rw [List.flatMap_append]
    rfl

/-! ### Runs -/
def runsOf : Int → List S110 → List S88
  | _, [] => []
  | _, [_] => []
  | c, x :: y :: rest => if y.f0 > x.f0 then ⟨x.f0, y.f0 - 1, c + x.f1⟩ :: runsOf (c + x.f1) (y :: rest) else runsOf (c + x.f1) (y :: rest)
theorem runsOf_len : ∀ (cs : List S110) (c : Int), (runsOf c cs).length ≤ cs.length
  | [], _ => by simp [runsOf]
  | [_], _ => by simp [runsOf]
  | x :: y :: rest, c => by
    have := runsOf_len (y :: rest) (c + x.f1)
    unfold runsOf
    split
    · simp only [List.length_cons] at this ⊢; omega
    · simp only [List.length_cons] at this ⊢; omega
/-- Small changes at small instants. -/
def Small (cs : List S110) : Prop := ∀ x ∈ cs, -1 ≤ x.f1 ∧ x.f1 ≤ 1 ∧ -8000000000000000000 ≤ x.f0 ∧ x.f0 ≤ 8000000000000000001
theorem runs_l1 (cs : List S110) (hn : cs.length ≤ 96) (hs : Small cs) : ∀ d i (acc : List S88) (c : Int), i + d = cs.length → acc.length ≤ i → -(i : Int) ≤ c → c ≤ i →
    Ev (fun k => interval_runs.l1 k cs acc c cs cs.length i) (acc ++ runsOf c (cs.drop i)) := by
  intro d
  induction d with
  | zero =>
    intro i acc c hi ha _ _
    refine Ev.step (fun k => by rw [interval_runs.l1]) ?_
    refine Ev.neg (by omega) (Ev.const ?_)
    rw [List.drop_eq_nil_of_le (by omega)]
    simp [runsOf]
  | succ d ih =>
    intro i acc c hi ha hc1 hc2
    have hlt : i < cs.length := by omega
    have hg : cs.getD i z110 = cs[i] := by simp [List.getD, hlt]
    obtain ⟨s1, s2, s3, s4⟩ := hs cs[i] (List.getElem_mem hlt)
    refine Ev.step (fun k => by rw [interval_runs.l1]) ?_
    have ew : wrap64 ((i : Int) + 1) = ((i + 1 : Nat) : Int) := wrap_nat (by omega)
    have ec : wrap64 (c + cs[i].f1) = c + cs[i].f1 := wrap_id (by omega) (by omega)
    refine Ev.pos (by omega) (Ev.pos (by omega) (Ev.pos (by omega) ?_))
    rw [ew]
    simp only [rd110]
    rw [hg, ec]
    rcases Nat.lt_or_ge (i + 1) cs.length with h1 | h1
    · have hg1 : cs.getD (i + 1) z110 = cs[i + 1] := by simp [List.getD, h1]
      obtain ⟨t1, t2, t3, t4⟩ := hs cs[i + 1] (List.getElem_mem h1)
      rw [hg1]
      refine Ev.pos (by omega) (Ev.pos (by omega) ?_)
      rw [List.drop_eq_getElem_cons hlt, List.drop_eq_getElem_cons h1]
      unfold runsOf
      by_cases hgt : cs[i + 1].f0 > cs[i].f0
      · rw [if_pos hgt]
        refine Ev.pos hgt (Ev.pos (by omega) ?_)
        rw [wrap_id (x := cs[i + 1].f0 - 1) (by omega) (by omega)]
        have := ih (i + 1) (acc ++ [⟨cs[i].f0, cs[i + 1].f0 - 1, c + cs[i].f1⟩]) (c + cs[i].f1) (by omega) (by simp; omega) (by omega) (by omega)
        rw [List.drop_eq_getElem_cons h1] at this
        simpa using this
      · rw [if_neg hgt]
        refine Ev.neg hgt ?_
        have := ih (i + 1) acc (c + cs[i].f1) (by omega) (by omega) (by omega) (by omega)
        rw [List.drop_eq_getElem_cons h1] at this
        exact this
    · refine Ev.neg (by omega) ?_
      have := ih (i + 1) acc (c + cs[i].f1) (by omega) (by omega) (by omega) (by omega)
      rw [List.drop_eq_getElem_cons hlt, List.drop_eq_nil_of_le (by omega)]
      rw [List.drop_eq_nil_of_le (by omega)] at this
      simpa [runsOf] using this

def sorted (v : List S29) : List S110 := sortChange (changes v)
theorem small_changes {v : List S29} (hok : ∀ s ∈ v, OkI s) : Small (changes v) := by
  intro x hx
  obtain ⟨s, hs, hx⟩ := List.mem_flatMap.1 hx
  obtain ⟨h1, h2, h3⟩ := hok s hs
  simp only [List.mem_cons, List.not_mem_nil, or_false] at hx
  rcases hx with rfl | rfl
  · exact ⟨by show (-1 : Int) ≤ 1; omega, by show (1 : Int) ≤ 1; omega, h2, by show s.f0 ≤ _; omega⟩
  · exact ⟨by show (-1 : Int) ≤ -1; omega, by show (-1 : Int) ≤ 1; omega, by show _ ≤ s.f1 + 1; omega, by show s.f1 + 1 ≤ _; omega⟩
theorem sorted_perm (v : List S29) : (sorted v).Perm (changes v) := (sortChange_spec _).2.1
theorem sorted_sorted (v : List S29) : (sorted v).Pairwise (fun x y => x.f0 ≤ y.f0) := by
  have h := (sortChange_spec (changes v)).2.2
  have hsz := (sortChange_spec (changes v)).1
  rw [List.pairwise_iff_getElem]
  intro i j hi hj hij
  have hj' : j < (pdqChange (changes v)).size := by simpa [sorted, sortChange] using hj
  have hi' : i < (pdqChange (changes v)).size := by omega
  have := h i j (Nat.zero_le _) hij (by omega)
  rw [lt110] at this
  have e1 : (pdqChange (changes v))[i]! = (sorted v)[i] := by
    rw [getElem!_pos _ i hi']; simp [sorted, sortChange]
  have e2 : (pdqChange (changes v))[j]! = (sorted v)[j] := by
    rw [getElem!_pos _ j hj']; simp [sorted, sortChange]
  rw [e1, e2] at this
  simp at this
  exact this
def runs (v : List S29) : List S88 := runsOf 0 (sorted (valid v))
theorem impl_runs (v : List S29) : Ev (fun k => interval_runs.f k v) (runs v) := by
  unfold interval_runs.f
  refine Ev.bind' _ (impl_valid v) ?_
  have hl := valid_len v
  have hs := sorted_perm (valid v)
  have hsm : Small (sorted (valid v)) := fun x hx => small_changes (fun s hs => valid_ok hs) x (hs.mem_iff.1 hx)
  have hlen : (sorted (valid v)).length = (changes (valid v)).length := hs.length_eq
  have hl2 : (sorted (valid v)).length ≤ 96 := by rw [hlen, changes_len]; omega
  refine runs_from (valid v) hl (fun s hs => valid_ok hs) _ ?_ (valid v).length 0 [] (by omega) (by simp [changes])
  have ef : interval_change_82_83.f (changes (valid v)) = some (sorted (valid v)) := by
    unfold interval_change_82_83.f
    rw [if_pos (by rw [← hlen]; omega)]
    rfl
  rw [ef]
  refine Ev.some_bind ?_
  rw [← hlen]
  have := runs_l1 (sorted (valid v)) hl2 hsm (sorted (valid v)).length 0 [] 0 (by omega) (by simp) (by simp) (by simp)
  simpa [runs] using this

/-! ### What the runs tell -/
theorem sumLe_cons (x : S110) (cs : List S110) (t : Int) : sumLe (x :: cs) t = (if x.f0 ≤ t then x.f1 else 0) + sumLe cs t := by simp [sumLe]
theorem sumLe_none {cs : List S110} {t : Int} (h : ∀ x ∈ cs, t < x.f0) : sumLe cs t = 0 := by
  induction cs with
  | nil => rfl
  | cons a r ih =>
    rw [sumLe_cons, ih (fun x hx => h x (List.mem_cons_of_mem _ hx)), if_neg (by have := h a (by simp); omega)]
    rfl
theorem sumLe_all {cs : List S110} {t : Int} (h : ∀ x ∈ cs, x.f0 ≤ t) : sumLe cs t = total cs := by
  induction cs with
  | nil => rfl
  | cons a r ih =>
    rw [sumLe_cons, ih (fun x hx => h x (List.mem_cons_of_mem _ hx)), if_pos (h a (by simp))]
    simp [total]
/-- Within a run the count stands; the runs follow one another; what is between the first change and the last one lies in one. -/
theorem runsOf_spec : ∀ (cs : List S110) (c : Int), cs.Pairwise (fun x y => x.f0 ≤ y.f0) →
    (∀ r ∈ runsOf c cs, r.f0 ≤ r.f1 ∧ (∀ t, r.f0 ≤ t → t ≤ r.f1 → c + sumLe cs t = r.f2) ∧ (∀ x ∈ cs.head?, x.f0 ≤ r.f0)) ∧
    (runsOf c cs).Pairwise (fun r q => r.f1 < q.f0) ∧
    (∀ t, (∃ x ∈ cs, x.f0 ≤ t) → (∃ x ∈ cs, t < x.f0) → ∃ r ∈ runsOf c cs, r.f0 ≤ t ∧ t ≤ r.f1)
  | [], c, _ => ⟨by simp [runsOf], by simp [runsOf], by simp⟩
  | [x], c, _ => ⟨by simp [runsOf], by simp [runsOf], fun t ⟨a, ha, h1⟩ ⟨b, hb, h2⟩ => by
      simp only [List.mem_cons, List.not_mem_nil, or_false] at ha hb
      subst ha; subst hb; omega⟩
  | x :: y :: rest, c, hp => by
    obtain ⟨hx, hp'⟩ := List.pairwise_cons.1 hp
    obtain ⟨i1, i2, i3⟩ := runsOf_spec (y :: rest) (c + x.f1) hp'
    have hxy := hx y (by simp)
    have later : ∀ t, x.f0 ≤ t → c + sumLe (x :: y :: rest) t = c + x.f1 + sumLe (y :: rest) t := fun t ht => by
      rw [sumLe_cons, if_pos ht]; omega
    have hy : ∀ z ∈ y :: rest, y.f0 ≤ z.f0 := fun z hz => by
      rcases List.mem_cons.1 hz with rfl | hz
      · exact Int.le_refl _
      · exact (List.pairwise_cons.1 hp').1 z hz
    have tail : ∀ r ∈ runsOf (c + x.f1) (y :: rest), r.f0 ≤ r.f1 ∧ (∀ t, r.f0 ≤ t → t ≤ r.f1 → c + sumLe (x :: y :: rest) t = r.f2) ∧ y.f0 ≤ r.f0 := fun r hr => by
      obtain ⟨a, b, d⟩ := i1 r hr
      have d' := d y rfl
      exact ⟨a, fun t h1 h2 => by rw [later t (by omega)]; exact b t h1 h2, d'⟩
    have cover : ∀ t, y.f0 ≤ t → (∃ z ∈ x :: y :: rest, t < z.f0) → ∃ r ∈ runsOf (c + x.f1) (y :: rest), r.f0 ≤ t ∧ t ≤ r.f1 := fun t ht ⟨z, hz, h2⟩ => by
      refine i3 t ⟨y, by simp, ht⟩ ⟨z, ?_, h2⟩
      rcases List.mem_cons.1 hz with rfl | hz
      · omega
      · exact hz
    unfold runsOf
    by_cases hgt : y.f0 > x.f0
    · rw [if_pos hgt]
      refine ⟨fun r hr => ?_, ?_, fun t ⟨a, ha, h1⟩ h2 => ?_⟩
      · rcases List.mem_cons.1 hr with rfl | hr
        · refine ⟨by show x.f0 ≤ y.f0 - 1; omega, fun t h1 h2 => ?_, fun z hz => by simp at hz; subst hz; exact Int.le_refl _⟩
          have h2' : t ≤ y.f0 - 1 := h2
          rw [later t h1, sumLe_none (fun z hz => by have := hy z hz; omega)]
          show c + x.f1 + 0 = c + x.f1
          omega
        · obtain ⟨a, b, d⟩ := tail r hr
          exact ⟨a, b, fun z hz => by simp at hz; subst hz; omega⟩
      · refine List.pairwise_cons.2 ⟨fun r hr => ?_, i2⟩
        have := (tail r hr).2.2
        show y.f0 - 1 < r.f0
        omega
      · by_cases hy2 : y.f0 ≤ t
        · obtain ⟨r, hr, h⟩ := cover t hy2 h2
          exact ⟨r, List.mem_cons_of_mem _ hr, h⟩
        · refine ⟨_, List.mem_cons_self, ?_, by show t ≤ y.f0 - 1; omega⟩
          show x.f0 ≤ t
          rcases List.mem_cons.1 ha with rfl | ha
          · exact h1
          · have := hx a ha; omega
    · rw [if_neg hgt]
      refine ⟨fun r hr => ?_, i2, fun t ⟨a, ha, h1⟩ h2 => ?_⟩
      · obtain ⟨a, b, d⟩ := tail r hr
        exact ⟨a, b, fun z hz => by simp at hz; subst hz; omega⟩
      · refine cover t ?_ h2
        rcases List.mem_cons.1 ha with rfl | ha
        · omega
        · exact Int.le_trans (hy a ha) h1

/-- The runs of a list of intervals: pieces in which the count stands, one behind the other; every instant that an interval holds lies in one. -/
theorem runs_spec (v : List S29) :
    (∀ r ∈ runs v, r.f0 ≤ r.f1 ∧ ∀ t, r.f0 ≤ t → t ≤ r.f1 → (cnt (valid v) t : Int) = r.f2) ∧ (runs v).Pairwise (fun r q => r.f1 < q.f0) ∧ ∀ t, 1 ≤ cnt (valid v) t → ∃ r ∈ runs v, r.f0 ≤ t ∧ t ≤ r.f1 := by
  have hs : ∀ t, sumLe (sorted (valid v)) t = cnt (valid v) t := fun t => by
    rw [sumLe_perm (sorted_perm _), sumLe_changes _ (fun s hs => (valid_ok hs).1)]
  obtain ⟨h1, h2, h3⟩ := runsOf_spec (sorted (valid v)) 0 (sorted_sorted _)
  refine ⟨fun r hr => ⟨(h1 r hr).1, fun t ha hb => ?_⟩, h2, fun t ht => h3 t ?_ ?_⟩
  · rw [← hs t]
    have := (h1 r hr).2.1 t ha hb
    omega
  · refine Classical.byContradiction fun hc => ?_
    have : sumLe (sorted (valid v)) t = 0 := sumLe_none fun x hx => Int.not_le.1 fun hle => hc ⟨x, hx, hle⟩
    rw [hs] at this
    omega
  · refine Classical.byContradiction fun hc => ?_
    have : sumLe (sorted (valid v)) t = total (sorted (valid v)) := sumLe_all fun x hx => Int.not_lt.1 fun hlt => hc ⟨x, hx, hlt⟩
    rw [hs, total_perm (sorted_perm _), total_changes] at this
    omega
theorem runs_len (v : List S29) : (runs v).length ≤ 96 := by
  have h := runsOf_len (sorted (valid v)) 0
  rw [(sorted_perm _).length_eq, changes_len] at h
  have := valid_len v
  unfold runs
  omega

/-! ### The hull -/
theorem index_from (R : List S88) (hn : R.length ≤ 96) (need : Int) : ∀ d i, i + d = R.length → (∀ j, j < i → (R.getD j z88).f2 < need) →
    (∃ j : Nat, j < R.length ∧ Ev (fun k => interval_run_64_63.l0 k R R.length i need) (j : Int) ∧ need ≤ (R.getD j z88).f2 ∧ ∀ q, q < j → (R.getD q z88).f2 < need) ∨
    (Ev (fun k => interval_run_64_63.l0 k R R.length i need) (-1) ∧ ∀ q, q < R.length → (R.getD q z88).f2 < need) := by
  intro d
  induction d with
  | zero =>
    intro i hi hm
    refine .inr ⟨?_, fun q hq => hm q (by omega)⟩
    refine Ev.step (fun k => by rw [interval_run_64_63.l0]) ?_
    exact Ev.neg (by omega) (Ev.const rfl)
  | succ d ih =>
    intro i hi hm
    have st : ∀ r, Ev (fun k => if decide ((R.getD i z88).f2 ≥ need) = true then some (i : Int) else interval_run_64_63.l0 k R R.length ((i + 1 : Nat) : Int) need) r → Ev (fun k => interval_run_64_63.l0 k R R.length i need) r := by
      intro r hr
      refine Ev.step (fun k => by rw [interval_run_64_63.l0]) ?_
      refine Ev.pos (by omega) (Ev.pos (by omega) (Ev.pos (by omega) ?_))
      simp only [rd88, interval_Hull_1.f]
      refine Ev.some_bind ?_
      rw [wrap_nat (by omega)]
      exact hr
    by_cases h : (R.getD i z88).f2 ≥ need
    · exact .inl ⟨i, by omega, st _ (Ev.pos (by simpa using h) (Ev.const rfl)), h, hm⟩
    · have hm' : ∀ j, j < i + 1 → (R.getD j z88).f2 < need := fun j hj => by
        rcases Nat.lt_or_ge j i with hji | hji
        · exact hm j hji
        · have e : j = i := by omega
          subst e
          exact Int.not_le.1 h
      rcases ih (i + 1) (by omega) hm' with ⟨j, h1, h2, h3, h4⟩ | ⟨h1, h2⟩
      · exact .inl ⟨j, h1, st _ (Ev.neg (by simpa using h) h2), h3, h4⟩
      · exact .inr ⟨st _ (Ev.neg (by simpa using h) h1), h2⟩
theorem impl_index (R : List S88) (hn : R.length ≤ 96) (need : Int) :
    (∃ j : Nat, j < R.length ∧ Ev (fun k => interval_run_64_63.f k R need) (j : Int) ∧ need ≤ (R.getD j z88).f2 ∧ ∀ q, q < j → (R.getD q z88).f2 < need) ∨
    (Ev (fun k => interval_run_64_63.f k R need) (-1) ∧ ∀ q, q < R.length → (R.getD q z88).f2 < need) :=
  index_from R hn need R.length 0 (by omega) (fun j hj => by omega)
theorem getD_mem {R : List S88} {j : Nat} (h : j < R.length) : R.getD j z88 ∈ R := by simp [List.getD, h]
theorem mem_getD {R : List S88} {r : S88} (h : r ∈ R) : ∃ j, j < R.length ∧ R.getD j z88 = r := by
  obtain ⟨j, hj, rfl⟩ := List.getElem_of_mem h
  exact ⟨j, hj, by simp [List.getD, hj]⟩

theorem impl_hull (v : List S29) (need : Int) : ∃ lo hi ok, Ev (fun k => interval_Hull.f k v need) (lo, hi, ok) ∧ HullSpec (valid v) need lo hi ok := by
  obtain ⟨s1, s2, s3⟩ := runs_spec v
  have hl := runs_len v
  have ix := impl_index (runs v) hl need
  have st : ∀ (i : Int) r, Ev (fun k => interval_run_64_63.f k (runs v) need) i → Ev (fun k => if need < 1 then (interval_Hull.j0 k (runs v) i true need) else (interval_Hull.j0 k (runs v) i (decide (i < 0)) need)) r → Ev (fun k => interval_Hull.f k v need) r := fun i r h1 h2 => by
    unfold interval_Hull.f
    exact Ev.bind' _ (impl_runs v) (Ev.bind' _ h1 h2)
  by_cases hneed : need < 1
  · have e0 : ∀ i : Int, Ev (fun k => interval_Hull.j0 k (runs v) i true need) (0, 0, false) := fun i => by
      refine Ev.step (fun k => by rw [interval_Hull.j0]) ?_
      exact Ev.pos rfl (Ev.const rfl)
    refine ⟨0, 0, false, ?_, .inr ⟨rfl, rfl, rfl, .inl hneed⟩⟩
    rcases ix with ⟨j, _, h2, _⟩ | ⟨h1, _⟩
    · exact st _ _ h2 (Ev.pos hneed (e0 _))
    · exact st _ _ h1 (Ev.pos hneed (e0 _))
  · rcases ix with ⟨j, hj, h2, h3, h4⟩ | ⟨h1, h2⟩
    · have ir := impl_index (runs v).reverse (by simpa using hl) need
      have er : interval_run_65.f (runs v) = some (runs v).reverse := by
        unfold interval_run_65.f
        rw [if_pos (by omega)]
      have rev : ∀ q, q < (runs v).length → (runs v).reverse.getD q z88 = (runs v).getD ((runs v).length - 1 - q) z88 := fun q hq => by
        simp [List.getD, List.getElem?_reverse hq]
      rcases ir with ⟨q, hq, g2, g3, g4⟩ | ⟨g1, g2⟩
      · have hq' : q < (runs v).length := by simpa using hq
        have hp : (runs v).length - 1 - q < (runs v).length := by omega
        rw [rev q hq'] at g3
        have ord : ∀ a b, a < b → b < (runs v).length → ((runs v).getD a z88).f1 < ((runs v).getD b z88).f0 := fun a b hab hb => by
          have ha : a < (runs v).length := by omega
          have := (List.pairwise_iff_getElem.1 s2) a b ha hb hab
          simpa [List.getD, ha, hb] using this
        refine ⟨((runs v).getD j z88).f0, ((runs v).getD ((runs v).length - 1 - q) z88).f1, true, ?_, .inl ⟨rfl, by omega, ?_, ?_, fun t ht => ?_⟩⟩
        · refine st _ _ h2 (Ev.neg hneed ?_)
          rw [decide_eq_false (by omega : ¬ (j : Int) < 0)]
          refine Ev.step (fun k => by rw [interval_Hull.j0]) ?_
          refine Ev.neg (by simp) (Ev.pos (by omega) (Ev.pos (by omega) ?_))
          rw [er]
          refine Ev.some_bind (Ev.bind' _ g2 (Ev.pos (by omega) (Ev.pos (by omega) (Ev.const ?_))))
          rw [rd88, rd88, rev q hq']
        · obtain ⟨a, b⟩ := s1 _ (getD_mem hj)
          rw [b _ (Int.le_refl _) a]; exact h3
        · obtain ⟨a, b⟩ := s1 _ (getD_mem hp)
          rw [b _ a (Int.le_refl _)]; exact g3
        · obtain ⟨r, hr, h5, h6⟩ := s3 t (by omega)
          have h7 := (s1 r hr).2 t h5 h6
          obtain ⟨m, hm, rfl⟩ := mem_getD hr
          constructor
          · rcases Nat.lt_or_ge m j with hmj | hmj
            · have := h4 m hmj; omega
            · rcases Nat.eq_or_lt_of_le hmj with e | hmj
              · rw [e]; exact h5
              · have := ord j m hmj hm
                have := (s1 _ (getD_mem hj)).1
                omega
          · rcases Nat.lt_or_ge ((runs v).length - 1 - q) m with hmq | hmq
            · have hx : (runs v).length - 1 - m < q := by omega
              have := g4 _ hx
              rw [rev _ (by omega), show (runs v).length - 1 - ((runs v).length - 1 - m) = m by omega] at this
              omega
            · rcases Nat.eq_or_lt_of_le hmq with e | hmq
              · rw [← e]; exact h6
              · have := ord m _ hmq hp
                have := (s1 _ (getD_mem hp)).1
                omega
      · exfalso
        have := g2 ((runs v).length - 1 - j) (by rw [List.length_reverse]; omega)
        rw [rev _ (by omega), show (runs v).length - 1 - ((runs v).length - 1 - j) = j by omega] at this
        omega
    · refine ⟨0, 0, false, ?_, .inr ⟨rfl, rfl, rfl, .inr fun t => ?_⟩⟩
      · refine st _ _ h1 (Ev.neg hneed ?_)
        rw [show decide ((-1 : Int) < 0) = true from rfl]
        refine Ev.step (fun k => by rw [interval_Hull.j0]) ?_
        exact Ev.pos rfl (Ev.const rfl)
      · rcases Nat.eq_zero_or_pos (cnt (valid v) t) with h0 | h0
        · omega
        · obtain ⟨r, hr, h5, h6⟩ := s3 t h0
          obtain ⟨q, hq, rfl⟩ := mem_getD hr
          have := h2 q hq
          rw [(s1 _ hr).2 t h5 h6]
          exact this
end Go.Proofs.Ytlfilhplklifjaa.PA

/- The selection, the falsetickers, the majority: both texts tell the same. -/
namespace Go.Proofs.Ytlfilhplklifjaa.PA
open Go.RowKit Go.Proofs.Ytlfilhplklifjaa.X Go.Proofs.YtlfilhplklifjaaW.PrintWords Go.Proofs.YtlfilhplklifjaaW.PrintLast

theorem idxFrom_le (l : List S37) (p : S37 → Bool) : ∀ d i, (idxFrom l p d i).length ≤ d
  | 0, _ => by simp [idxFrom]
  | d + 1, i => by
    have := idxFrom_le l p d (i + 1)
    unfold idxFrom
    split
    · simp; omega
    · omega
theorem idx_le (l : List S37) (p : S37 → Bool) : (idx l p).length ≤ l.length := idxFrom_le l p l.length 0

theorem spans_ok {l : List S37} (h : ∀ c ∈ l, OkC c) : ∀ s ∈ spans l, OkI s := by
  intro s hs
  obtain ⟨c, hc, rfl⟩ := List.mem_map.1 hs
  obtain ⟨_, _, h3, h4, h5, h6, _⟩ := h c hc
  unfold OkI span
  refine ⟨?_, ?_, ?_⟩ <;> simp only <;> omega
theorem valid_spans {l : List S37} (h : ∀ c ∈ l, OkC c) (hn : l.length ≤ 12) : valid (spans l) = spans l := by
  unfold valid
  rw [if_neg (by simp [spans]; omega), List.filter_eq_self.2 fun s hs => by simpa using spans_ok h s hs]

theorem hull_ex (v : List S29) (need : Int) : ∃ r : Int × Int × Bool, Ev (fun k => interval_Hull.f k v need) r ∧ HullSpec (valid v) need r.1 r.2.1 r.2.2 := by
  obtain ⟨a, b, o, h1, h2⟩ := impl_hull v need
  exact ⟨(a, b, o), h1, h2⟩
noncomputable def hullR (v : List S29) (need : Int) : Int × Int × Bool := Classical.choose (hull_ex v need)
theorem hullR_ev (v : List S29) (need : Int) : Ev (fun k => interval_Hull.f k v need) (hullR v need) := (Classical.choose_spec (hull_ex v need)).1
theorem hullR_spec (v : List S29) (need : Int) : HullSpec (valid v) need (hullR v need).1 (hullR v need).2.1 (hullR v need).2.2 := (Classical.choose_spec (hull_ex v need)).2
/-- The selection from 'a' wrong ones on. -/
noncomputable def selFrom (l : List S37) : Nat → Nat → List Int × Int × Int × Int
  | 0, _ => ([], 0, 0, 11)
  | d + 1, a => if 2 * a < l.length then (if (hullR (spans l) ((l.length : Int) - a)).2.2 = true then
      (if (l.length : Int) - ((idx l (pIn (hullR (spans l) ((l.length : Int) - a)).1 (hullR (spans l) ((l.length : Int) - a)).2.1)).length : Int) ≤ a then (idx l (pIn (hullR (spans l) ((l.length : Int) - a)).1 (hullR (spans l) ((l.length : Int) - a)).2.1), (hullR (spans l) ((l.length : Int) - a)).1, (hullR (spans l) ((l.length : Int) - a)).2.1, 0)
       else selFrom l d (a + 1)) else selFrom l d (a + 1)) else ([], 0, 0, 11)
noncomputable def sel (l : List S37) : List Int × Int × Int × Int := if chk l = 0 then selFrom l (l.length + 1) 0 else ([], 0, 0, chk l)

theorem impl_spans (l : List S37) (hn : l.length ≤ 12) (hok : ∀ c ∈ l, OkC c) (r : List Int × Int × Int × Int) (hr : Ev (fun k => choose_Select.l1 k l (spans l) 0) r) :
    ∀ d i (acc : List S29), i + d = l.length → acc = spans (l.take i) → Ev (fun k => choose_Select.l0 k l acc l l.length i) r := by
  intro d
  induction d with
  | zero =>
    intro i acc hi ha
    refine Ev.step (fun k => by rw [choose_Select.l0]) ?_
    refine Ev.neg (by omega) ?_
    rw [List.take_of_length_le (by omega)] at ha
    subst ha
    exact hr
  | succ d ih =>
    intro i acc hi ha
    have hlt : i < l.length := by omega
    have hg : l.getD i z37 = l[i] := by simp [List.getD, hlt]
    have ho := hok l[i] (List.getElem_mem hlt)
    refine Ev.step (fun k => by rw [choose_Select.l0]) ?_
    refine Ev.pos (by omega) (Ev.pos (by omega) (Ev.pos (by omega) ?_))
    simp only [rd37, choose_span.f]
    refine Ev.some_bind ?_
    have el : acc.length = i := by rw [ha]; simp [spans]; omega
    refine Ev.pos (by omega) ?_
    obtain ⟨_, _, h3, h4, h5, h6, _⟩ := ho
    rw [hg, wrap_id (x := l[i].f1 - l[i].f2) (by omega) (by omega), wrap_id (x := l[i].f1 + l[i].f2) (by omega) (by omega), wrap_nat (by omega)]
    refine ih (i + 1) _ (by omega) ?_
    rw [ha, List.take_succ_eq_append_getElem hlt]
    unfold spans
    rw [List.map_append]
    rfl

theorem impl_sel_from (l : List S37) (hn : l.length ≤ 12) : ∀ d a, a + d = l.length + 1 → Ev (fun k => choose_Select.l1 k l (spans l) a) (selFrom l d a) := by
  intro d
  induction d with
  | zero =>
    intro a ha
    refine Ev.step (fun k => by rw [choose_Select.l1]) ?_
    refine Ev.neg ?_ (Ev.const rfl)
    rw [wrap_id (by omega) (by omega)]; omega
  | succ d ih =>
    intro a ha
    refine Ev.step (fun k => by rw [choose_Select.l1]) ?_
    rw [wrap_id (x := 2 * (a : Int)) (by omega) (by omega)]
    unfold selFrom
    by_cases h2 : 2 * a < l.length
    · rw [if_pos h2]
      refine Ev.pos (by omega) ?_
      rw [wrap_id (x := (l.length : Int) - a) (by omega) (by omega), wrap_nat (by omega)]
      refine Ev.bind' _ (hullR_ev (spans l) _) ?_
      by_cases h3 : (hullR (spans l) ((l.length : Int) - a)).2.2 = true
      · rw [if_pos h3]
        refine Ev.pos h3 (Ev.bind' _ (impl_in l (by omega) _ _) ?_)
        have hle := idx_le l (pIn (hullR (spans l) ((l.length : Int) - a)).1 (hullR (spans l) ((l.length : Int) - a)).2.1)
        rw [wrap_id (x := (l.length : Int) - _) (by omega) (by omega)]
        by_cases h4 : (l.length : Int) - ((idx l (pIn (hullR (spans l) ((l.length : Int) - a)).1 (hullR (spans l) ((l.length : Int) - a)).2.1)).length : Int) ≤ a
        · rw [if_pos h4]; exact Ev.pos h4 (Ev.const rfl)
        · rw [if_neg h4]; exact Ev.neg h4 (ih (a + 1) (by omega))
      · rw [if_neg h3]; exact Ev.neg h3 (ih (a + 1) (by omega))
    · rw [if_neg h2]
      exact Ev.neg (by omega) (Ev.const rfl)
theorem impl_select (l : List S37) : Ev (fun k => choose_Select.f k l) (sel l) := by
  unfold choose_Select.f sel
  refine Ev.bind' _ (impl_check l) ?_
  by_cases h : chk l = 0
  · rw [if_pos h]
    obtain ⟨hn, hok⟩ := chk_ok h
    exact Ev.pos h (impl_spans l hn hok _ (impl_sel_from l hn (l.length + 1) 0 (by omega)) l.length 0 [] (by omega) (by simp [spans]))
  · rw [if_neg h]; exact Ev.neg h (Ev.const rfl)
/-- What a selection is. -/
structure SelOk (l : List S37) (p : List Int) (lo hi : Int) : Prop where
  chk0 : chk l = 0
  wit : ∃ a : Nat, 2 * a < l.length ∧ HullSpec (spans l) ((l.length : Int) - a) lo hi true ∧ (l.length : Int) - (p.length : Int) ≤ a ∧ ∀ b : Nat, b < a → ∀ lo' hi', HullSpec (spans l) ((l.length : Int) - b) lo' hi' true → (b : Int) < (l.length : Int) - ((idx l (pIn lo' hi')).length : Int)
  pos : p = idx l (pIn lo hi)
def SelNone (l : List S37) : Prop := ∀ a : Nat, 2 * a < l.length → ∀ lo hi, HullSpec (spans l) ((l.length : Int) - a) lo hi true → (a : Int) < (l.length : Int) - ((idx l (pIn lo hi)).length : Int)
theorem selFrom_spec {l : List S37} (h0 : chk l = 0) : ∀ d a, a + d = l.length + 1 → (∀ b : Nat, b < a → 2 * b < l.length → ∀ lo' hi', HullSpec (spans l) ((l.length : Int) - b) lo' hi' true → (b : Int) < (l.length : Int) - ((idx l (pIn lo' hi')).length : Int)) →
    (selFrom l d a = ([], 0, 0, 11) ∧ SelNone l) ∨ ∃ p lo hi, selFrom l d a = (p, lo, hi, 0) ∧ SelOk l p lo hi := by
  obtain ⟨hn, hok⟩ := chk_ok h0
  intro d
  induction d with
  | zero => exact fun a ha hb => .inl ⟨rfl, fun b h2 => hb b (by omega) h2⟩
  | succ d ih =>
    intro a ha hb
    have hs := hullR_spec (spans l) ((l.length : Int) - a)
    rw [valid_spans hok hn] at hs
    have next : (∀ lo' hi', HullSpec (spans l) ((l.length : Int) - a) lo' hi' true → (a : Int) < (l.length : Int) - ((idx l (pIn lo' hi')).length : Int)) → ∀ b : Nat, b < a + 1 → 2 * b < l.length → ∀ lo' hi', HullSpec (spans l) ((l.length : Int) - b) lo' hi' true → (b : Int) < (l.length : Int) - ((idx l (pIn lo' hi')).length : Int) := fun hx b hba h2 => by
      rcases Nat.lt_or_ge b a with h3 | h3
      · exact hb b h3 h2
      · have e : b = a := by omega
        subst e; exact hx
    unfold selFrom
    by_cases h2 : 2 * a < l.length
    · rw [if_pos h2]
      by_cases h3 : (hullR (spans l) ((l.length : Int) - a)).2.2 = true
      · rw [if_pos h3]
        rw [h3] at hs
        by_cases h4 : (l.length : Int) - ((idx l (pIn (hullR (spans l) ((l.length : Int) - a)).1 (hullR (spans l) ((l.length : Int) - a)).2.1)).length : Int) ≤ a
        · rw [if_pos h4]
          exact .inr ⟨_, _, _, rfl, h0, ⟨a, h2, hs, h4, fun b hba => hb b hba (by omega)⟩, rfl⟩
        · rw [if_neg h4]
          refine ih (a + 1) (by omega) (next fun lo' hi' hh => ?_)
          obtain ⟨e1, e2, _⟩ := hh.uniq hs
          rw [e1, e2]; omega
      · rw [if_neg h3]
        refine ih (a + 1) (by omega) (next fun lo' hi' hh => ?_)
        exact absurd (hh.uniq hs).2.2.symm h3
    · rw [if_neg h2]
      exact .inl ⟨rfl, fun b hb2 => hb b (by omega) hb2⟩
/-- The three ends of a selection. -/
theorem sel_cases (l : List S37) : (chk l ≠ 0 ∧ sel l = ([], 0, 0, chk l)) ∨ (chk l = 0 ∧ sel l = ([], 0, 0, 11) ∧ SelNone l) ∨ ∃ p lo hi, sel l = (p, lo, hi, 0) ∧ SelOk l p lo hi := by
  unfold sel
  by_cases h : chk l = 0
  · rw [if_pos h]
    rcases selFrom_spec h (l.length + 1) 0 (by omega) (fun b hb => by omega) with ⟨h1, h2⟩ | ⟨p, lo, hi, h1, h2⟩
    · exact .inr (.inl ⟨h, h1, h2⟩)
    · exact .inr (.inr ⟨p, lo, hi, h1, h2⟩)
  · rw [if_neg h]; exact .inl ⟨h, rfl⟩

/-! ### Majority -/
end Go.Proofs.Ytlfilhplklifjaa.PA

/- More on positions, and on a check that says 0. -/
namespace Go.Proofs.Ytlfilhplklifjaa.PA
open Go.RowKit Go.Proofs.Ytlfilhplklifjaa.X Go.Proofs.YtlfilhplklifjaaW.PrintWords Go.Proofs.YtlfilhplklifjaaW.PrintLast

theorem mem_idxFrom (l : List S37) (p : S37 → Bool) (x : Int) : ∀ d i, x ∈ idxFrom l p d i ↔ ∃ j : Nat, i ≤ j ∧ j < i + d ∧ x = j ∧ p (l.getD j z37) = true
  | 0, i => by simp [idxFrom]; intro j h1 h2; omega
  | d + 1, i => by
    have ih := mem_idxFrom l p x d (i + 1)
    unfold idxFrom
    by_cases h : p (l.getD i z37) = true
    · rw [if_pos h, List.mem_cons, ih]
      constructor
      · rintro (rfl | ⟨j, h1, h2, h3, h4⟩)
        · exact ⟨i, by omega, by omega, rfl, h⟩
        · exact ⟨j, by omega, by omega, h3, h4⟩
      · rintro ⟨j, h1, h2, h3, h4⟩
        by_cases e : j = i
        · subst e; exact .inl h3
        · exact .inr ⟨j, by omega, by omega, h3, h4⟩
    · rw [if_neg h, ih]
      constructor
      · rintro ⟨j, h1, h2, h3, h4⟩
        exact ⟨j, by omega, by omega, h3, h4⟩
      · rintro ⟨j, h1, h2, h3, h4⟩
        by_cases e : j = i
        · subst e; exact absurd h4 h
        · exact ⟨j, by omega, by omega, h3, h4⟩
/-! ### A check that says 0 -/
theorem dupFrom_false (l : List S37) (i : Nat) : ∀ d j, dupFrom l i d j = false ↔ ∀ q, j ≤ q → q < j + d → (l.getD q z37).f0 ≠ (l.getD i z37).f0
  | 0, j => by simp [dupFrom]; intro q h1 h2; omega
  | d + 1, j => by
    have ih := dupFrom_false l i d (j + 1)
    unfold dupFrom
    by_cases h : (l.getD j z37).f0 = (l.getD i z37).f0
    · rw [if_pos h]
      constructor
      · intro hh; cases hh
      · intro hh; exact absurd h (hh j (by omega) (by omega))
    · rw [if_neg h, ih]
      constructor
      · intro hh q h1 h2
        by_cases e : q = j
        · subst e; exact h
        · exact hh q (by omega) (by omega)
      · intro hh q h1 h2
        exact hh q (by omega) (by omega)
theorem chkFrom_zero (l : List S37) : ∀ d i, i + d = l.length → (chkFrom l d i = 0 ↔ ∀ j, i ≤ j → j < l.length → OkC (l.getD j z37) ∧ ∀ q, q < j → (l.getD q z37).f0 ≠ (l.getD j z37).f0)
  | 0, i, hi => by simp [chkFrom]; intro j h1 h2; omega
  | d + 1, i, hi => by
    have ih := chkFrom_zero l d (i + 1) (by omega)
    have hd := dupFrom_false l i i 0
    unfold chkFrom
    by_cases h : OkC (l.getD i z37)
    · rw [if_pos h]
      by_cases h2 : dupFrom l i i 0 = true
      · rw [if_pos h2]
        constructor
        · intro hh; omega
        · intro hh
          have h3 := (hh i (by omega) (by omega)).2
          have h4 := hd.2 (fun q _ hq => h3 q (by omega))
          rw [h4] at h2; cases h2
      · rw [if_neg h2, ih]
        have h3 := hd.1 (by simpa using h2)
        constructor
        · intro hh j h4 h5
          by_cases e : j = i
          · subst e; exact ⟨h, fun q hq => h3 q (by omega) (by omega)⟩
          · exact hh j (by omega) h5
        · intro hh j h4 h5
          exact hh j (by omega) h5
    · rw [if_neg h]
      constructor
      · intro hh; omega
      · intro hh; exact absurd (hh i (by omega) (by omega)).1 h
/-- The check says 0 of at most twelve candidates within the limits, of different numbers. -/
theorem chk_iff (l : List S37) : chk l = 0 ↔ l.length ≤ 12 ∧ (∀ c ∈ l, OkC c) ∧ l.Pairwise (fun a b => a.f0 ≠ b.f0) := by
  unfold chk
  by_cases h : (l.length : Int) > 12
  · rw [if_pos h]
    constructor
    · intro hh; omega
    · intro hh; omega
  · rw [if_neg h, chkFrom_zero l l.length 0 (by omega)]
    have g : ∀ i (hi : i < l.length), l.getD i z37 = l[i] := fun i hi => by simp [List.getD, hi]
    constructor
    · intro hh
      refine ⟨by omega, fun c hc => ?_, List.pairwise_iff_getElem.2 fun i j hi hj hij => ?_⟩
      · obtain ⟨j, hj, rfl⟩ := List.getElem_of_mem hc
        have := (hh j (by omega) hj).1
        rwa [g j hj] at this
      · have := (hh j (by omega) hj).2 i hij
        rwa [g i hi, g j hj] at this
    · rintro ⟨_, h1, h2⟩ j _ hj
      refine ⟨by rw [g j hj]; exact h1 _ (List.getElem_mem hj), fun q hq => ?_⟩
      rw [g j hj, g q (by omega)]
      exact List.pairwise_iff_getElem.1 h2 q j (by omega) hj hq
end Go.Proofs.Ytlfilhplklifjaa.PA

/- Prune: what is left is some of the candidates, at least one, with their numbers. -/
namespace Go.Proofs.Ytlfilhplklifjaa.PM
open Go.RowKit Go.Proofs.Ytlfilhplklifjaa.X Go.Proofs.Ytlfilhplklifjaa.PA Go.Proofs.YtlfilhplklifjaaW.PrintWords Go.Proofs.YtlfilhplklifjaaW.PrintLast Go.Proofs.YtlfilhplklifjaaW.PrintMore
/-- The root of any number: some number. -/
theorem sqrt_from (n : Int) : ∀ d i (x : Int), i + d = 32 → ∃ r, Ev (fun k => fixed_Sqrt.l0 k n x (i : Nat)) r := by
  intro d
  induction d with
  | zero =>
    intro i x hi
    exact ⟨_, Ev.step (fun k => by rw [fixed_Sqrt.l0]) (PM.Ev.neg (by omega) (Ev.now _))⟩
  | succ d ih =>
    intro i x hi
    have hw : wrap64 (31 - (i : Int)) = 31 - (i : Int) := wrap_id (by omega) (by omega)
    by_cases hc : (IntKind.u64.wrap ((Go.bits .or .u64 x (shl .u64 1 (wrap64 (31 - (i : Int))))) * (Go.bits .or .u64 x (shl .u64 1 (wrap64 (31 - (i : Int))))))) ≤ (IntKind.u64.wrap n)
    · obtain ⟨r, hr⟩ := ih (i + 1) (Go.bits .or .u64 x (shl .u64 1 (wrap64 (31 - (i : Int))))) (by omega)
      refine ⟨r, Ev.step (fun k => by rw [fixed_Sqrt.l0]) (PM.Ev.pos (by omega) (PM.Ev.pos (by omega) (PM.Ev.pos hc ?_)))⟩
      rw [wrap_nat (by omega)]
      exact hr
    · obtain ⟨r, hr⟩ := ih (i + 1) x (by omega)
      refine ⟨r, Ev.step (fun k => by rw [fixed_Sqrt.l0]) (PM.Ev.pos (by omega) (PM.Ev.pos (by omega) (PM.Ev.neg hc ?_)))⟩
      rw [wrap_nat (by omega)]
      exact hr
theorem sqrt_ev (n : Int) : ∃ r, Ev (fun k => fixed_Sqrt.f k n) r := by
  unfold fixed_Sqrt.f
  by_cases h : n < 0
  · exact ⟨_, PM.Ev.pos h (Ev.now _)⟩
  · obtain ⟨r, hr⟩ := sqrt_from n 32 0 0 (by omega)
    exact ⟨r, PM.Ev.neg h hr⟩
/-- The spread of a candidate among two or more: some number. -/
theorem spread_from (l : List S37) (hn : 2 ≤ l.length) (hn2 : l.length ≤ 12) (a : Nat) (ha : a < l.length) : ∀ d i (hi lo : Int), i + d = l.length → 0 ≤ hi → hi < 18446744073709551616 → 0 ≤ lo → lo < 18446744073709551616 → ∃ r, Ev (fun k => cluster_spread.l0 k l a hi lo l l.length (i : Nat)) r := by
  intro d
  induction d with
  | zero =>
    intro i hi lo hd h0 h1 h2 h3
    have hw : IntKind.u64.wrap (wrap64 ((l.length : Int) - 1)) = ((l.length - 1 : Nat) : Int) := by
      rw [wrap_id (by omega) (by omega), u64_id (by omega) (by omega)]; omega
    obtain ⟨h, rfl⟩ : ∃ h : Nat, hi = (h : Int) := ⟨hi.toNat, by omega⟩
    obtain ⟨m, rfl⟩ : ∃ m : Nat, lo = (m : Int) := ⟨lo.toNat, by omega⟩
    have hm : Int.tmod (h : Int) ((l.length - 1 : Nat) : Int) = ((h % (l.length - 1) : Nat) : Int) := by
      rw [Int.tmod_eq_emod_of_nonneg (by omega)]; rfl
    obtain ⟨rem, hr⟩ := div64_ok (h % (l.length - 1)) m (l.length - 1) (by omega) (by omega) (Nat.mod_lt _ (by omega))
    obtain ⟨q, hq⟩ := sqrt_ev (wrap64 ((((h % (l.length - 1)) * 18446744073709551616 + m) / (l.length - 1) : Nat) : Int))
    refine ⟨q.1, Ev.step (fun k => by rw [cluster_spread.l0]) (PM.Ev.neg (by omega) ?_)⟩
    rw [hw]
    refine PM.Ev.neg (by omega) ?_
    rw [hm]
    exact PM.Ev.bind' _ hr (PM.Ev.bind' _ hq (Ev.now _))
  | succ d ih =>
    intro i hi lo hd h0 h1 h2 h3
    have h64 : ∀ x : Int, 0 ≤ IntKind.u64.wrap x ∧ IntKind.u64.wrap x < 18446744073709551616 := fun x => by rw [u64_wrap]; omega
    obtain ⟨D, hD⟩ : ∃ D, (IntKind.u64.wrap ((IntKind.u64.wrap (mn (mx (wrap64 (((rd_T37 l i).f1) - ((rd_T37 l a).f1))) (wrap64 (((rd_T37 l a).f1) - ((rd_T37 l i).f1)))) 1073741824)) * (IntKind.u64.wrap (mn (mx (wrap64 (((rd_T37 l i).f1) - ((rd_T37 l a).f1))) (wrap64 (((rd_T37 l a).f1) - ((rd_T37 l i).f1)))) 1073741824)))) = D := ⟨_, rfl⟩
    have hD0 : 0 ≤ D ∧ D < 18446744073709551616 := by rw [← hD]; exact h64 _
    have hadd : bits_Add64.f lo D 0 = some ((lo + D + 0) % 18446744073709551616, (lo + D + 0) / 18446744073709551616) := by
      unfold bits_Add64.f
      rw [if_pos ⟨⟨by omega, by omega⟩, ⟨by omega, by omega⟩, by omega, by omega⟩]
    obtain ⟨r, hr⟩ := ih (i + 1) (IntKind.u64.wrap (hi + (lo + D + 0) / 18446744073709551616)) ((lo + D + 0) % 18446744073709551616) (by omega) (h64 _).1 (h64 _).2 (by omega) (by omega)
    refine ⟨r, Ev.step (fun k => by rw [cluster_spread.l0]) (PM.Ev.pos (by omega) (PM.Ev.pos (by omega) (PM.Ev.pos (by omega) (PM.Ev.pos (by omega) (PM.Ev.pos (by omega) ?_)))))⟩
    rw [hD, hadd]
    refine PM.Ev.some_bind ?_
    rw [wrap_nat (by omega)]
    exact hr
theorem spread_ev (l : List S37) (hn : 2 ≤ l.length) (hn2 : l.length ≤ 12) (a : Nat) (ha : a < l.length) : ∃ r, Ev (fun k => cluster_spread.f k l a) r :=
  spread_from l hn hn2 a ha l.length 0 0 0 (by omega) (by omega) (by omega) (by omega) (by omega)
/-- What Prune hands back: some candidates of a list, each at most once. -/
structure Left (l r : List S37) : Prop where
  some_ : 0 < r.length
  sub : ∃ s : List S37, s.Perm l ∧ r.Sublist s
theorem prune_rounds (keep : Int) (hk : 1 ≤ keep) (o : List S37) (hn2 : o.length ≤ 12) (h0 : keep < (o.length : Int)) (P : (List S37) × Int → Prop) (hstop : P (o, 0))
    (hnext : ∀ w : Nat, w < o.length → ∃ r, P r ∧ Ev (fun k => cluster_Prune.l0 k keep (o.eraseIdx w)) r) :
    ∀ d i (w : Nat) (most least : Int), i + d = o.length → w < o.length → ∃ r, P r ∧ Ev (fun k => cluster_Prune.l1 k keep o w most least o o.length (i : Nat)) r := by
  intro d
  induction d with
  | zero =>
    intro i w most least hd hw
    by_cases hs : most ≤ least
    · exact ⟨_, hstop, Ev.step (fun k => by rw [cluster_Prune.l1]) (PM.Ev.neg (by omega) (PM.Ev.pos hs (Ev.now _)))⟩
    · obtain ⟨r, hP, hr⟩ := hnext w hw
      refine ⟨r, hP, Ev.step (fun k => by rw [cluster_Prune.l1]) (PM.Ev.neg (by omega) (PM.Ev.neg hs ?_))⟩
      have hd' : api_Cand_55.f o (w : Int) (wrap64 ((w : Int) + 1)) = some (o.eraseIdx w) := by
        unfold api_Cand_55.f
        rw [wrap_id (by omega) (by omega), if_pos ⟨by omega, by omega, rfl⟩, Int.toNat_natCast]
      rw [hd']
      exact PM.Ev.some_bind hr
  | succ d ih =>
    intro i w most least hd hw
    obtain ⟨s, hs⟩ := spread_ev o (by omega) hn2 i (by omega)
    by_cases hc : s ≥ most
    · obtain ⟨r, hP, hr⟩ := ih (i + 1) i s (mn least ((rd_T37 o i).f3)) (by omega) (by omega)
      refine ⟨r, hP, Ev.step (fun k => by rw [cluster_Prune.l1]) (PM.Ev.pos (by omega) (PM.Ev.pos (by omega) (PM.Ev.pos (by omega) (PM.Ev.bind' s hs (PM.Ev.pos hc ?_)))))⟩
      rw [wrap_nat (by omega)]
      exact hr
    · obtain ⟨r, hP, hr⟩ := ih (i + 1) w most (mn least ((rd_T37 o i).f3)) (by omega) hw
      refine ⟨r, hP, Ev.step (fun k => by rw [cluster_Prune.l1]) (PM.Ev.pos (by omega) (PM.Ev.pos (by omega) (PM.Ev.pos (by omega) (PM.Ev.bind' s hs (PM.Ev.neg hc ?_)))))⟩
      rw [wrap_nat (by omega)]
      exact hr
theorem prune_from (keep : Int) (hk : 1 ≤ keep) : ∀ (n : Nat) (o : List S37), o.length = n → 0 < n → n ≤ 12 → ∃ r, (r.2 = 0 ∧ 0 < r.1.length ∧ r.1.Sublist o) ∧ Ev (fun k => cluster_Prune.l0 k keep o) r := by
  intro n
  induction n with
  | zero => intro o _ h; omega
  | succ n ih =>
    intro o ho _ h12
    by_cases h0 : (o.length : Int) > keep
    · obtain ⟨r, hP, hr⟩ := prune_rounds keep hk o (by omega) (by omega) (fun r => r.2 = 0 ∧ 0 < r.1.length ∧ r.1.Sublist o) ⟨rfl, (by show 0 < o.length; omega), List.Sublist.refl _⟩
        (fun w hw => by
          obtain ⟨r, ⟨h1, h2, h3⟩, h4⟩ := ih (o.eraseIdx w) (by rw [List.length_eraseIdx_of_lt hw]; omega) (by omega) (by omega)
          exact ⟨r, ⟨h1, h2, h3.trans (List.eraseIdx_sublist o w)⟩, h4⟩)
        o.length 0 0 (-1) ((rd_T37 o 0).f3) (by omega) (by omega)
      have hr' : Ev (fun k => cluster_Prune.l1 k keep o 0 (-1) ((rd_T37 o 0).f3) o (o.length : Int) 0) r := hr
      exact ⟨r, hP, Ev.step (fun k => by rw [cluster_Prune.l0]) (PM.Ev.pos h0 (PM.Ev.pos (by omega) hr'))⟩
    · exact ⟨(o, 0), ⟨rfl, (by show 0 < o.length; omega), List.Sublist.refl _⟩, Ev.step (fun k => by rw [cluster_Prune.l0]) (PM.Ev.neg h0 (Ev.now _))⟩
theorem ordered_is (l : List S37) (hn : l.length ≤ 12) : cluster_ordered.f l = some (sortCand l) := by
  unfold cluster_ordered.f api_Cand_28.f api_Cand_72_73.f
  rw [if_pos (by omega), Option.bind_some, if_pos (by omega)]
  rfl
/-- Prune of valid candidates. -/
theorem prune_ev (l : List S37) (h0 : chk l = 0) (hne : 0 < l.length) (keep : Int) :
    (keep < 1 ∧ Ev (fun k => cluster_Prune.f k l keep) ([], 3)) ∨ ∃ r, chk r = 0 ∧ 0 < r.length ∧ Ev (fun k => cluster_Prune.f k l keep) (r, 0) := by
  obtain ⟨hn, hok, hid⟩ := (chk_iff l).1 h0
  unfold cluster_Prune.f
  by_cases hk : keep < 1
  · exact .inl ⟨hk, PM.Ev.bind' _ (impl_check l) (PM.Ev.pos h0 (PM.Ev.pos hk (Ev.now _)))⟩
  · right
    have hp := (sortCand_spec l).2
    have hlen := hp.length_eq
    obtain ⟨⟨r, e⟩, ⟨rfl, h2, h3⟩, h4⟩ := prune_from keep (by omega) l.length (sortCand l) hlen hne hn
    refine ⟨r, ?_, h2, PM.Ev.bind' _ (impl_check l) (PM.Ev.pos h0 (PM.Ev.neg hk ?_))⟩
    · have hle : r.length ≤ (sortCand l).length := h3.length_le
      have hps : (sortCand l).Pairwise (fun a b => a.f0 ≠ b.f0) := (hp.symm.pairwise_iff (fun h => Ne.symm h)).1 hid
      exact (chk_iff r).2 ⟨by omega, fun c hc => hok c (hp.mem_iff.1 (h3.subset hc)), hps.sublist h3⟩
    · rw [ordered_is l hn]
      exact PM.Ev.some_bind h4
end Go.Proofs.Ytlfilhplklifjaa.PM

/- Mean and Dist: the mean of few candidates is some small number, and Dist is the least distance from it. -/
namespace Go.Proofs.Ytlfilhplklifjaa.PM
open Go.RowKit Go.Proofs.Ytlfilhplklifjaa.X Go.Proofs.Ytlfilhplklifjaa.PA Go.Proofs.YtlfilhplklifjaaW.PrintWords Go.Proofs.YtlfilhplklifjaaW.PrintLast Go.Proofs.YtlfilhplklifjaaW.PrintMore
theorem mul_small {x y : Int} (hx : 0 ≤ x ∧ x ≤ 4294967295) (hy : 0 ≤ y ∧ y ≤ 4294967295) : 0 ≤ x * y ∧ x * y ≤ 18446744065119617025 := by
  refine ⟨Int.mul_nonneg hx.1 hy.1, ?_⟩
  calc x * y ≤ 4294967295 * y := Int.mul_le_mul_of_nonneg_right hx.2 hy.1
    _ ≤ 4294967295 * 4294967295 := Int.mul_le_mul_of_nonneg_left hy.2 (by decide)
    _ = 18446744065119617025 := by decide
/-- Mul64 is exact. -/
theorem mul64_ok (a b : Int) (ha : 0 ≤ a ∧ a < 18446744073709551616) (hb : 0 ≤ b ∧ b < 18446744073709551616) : bits_Mul64.f a b = some (a * b / 18446744073709551616, a * b % 18446744073709551616) := by
  unfold bits_Mul64.f
  rw [mask32 ha.1 ha.2, mask32 hb.1 hb.2]
  obtain ⟨x1, hx1⟩ : ∃ x, x = a / 4294967296 := ⟨_, rfl⟩
  obtain ⟨x0, hx0⟩ : ∃ x, x = a % 4294967296 := ⟨_, rfl⟩
  obtain ⟨y1, hy1⟩ : ∃ x, x = b / 4294967296 := ⟨_, rfl⟩
  obtain ⟨y0, hy0⟩ : ∃ x, x = b % 4294967296 := ⟨_, rfl⟩
  have e : a * b = x1 * y1 * 18446744073709551616 + (x1 * y0 + x0 * y1) * 4294967296 + x0 * y0 := by
    have ea : a = x1 * 4294967296 + x0 := by omega
    have eb : b = y1 * 4294967296 + y0 := by omega
    rw [ea, eb]
    have : ∀ p q r s : Int, (p * 4294967296 + q) * (r * 4294967296 + s) = p * r * 18446744073709551616 + (p * s + q * r) * 4294967296 + q * s := by
      intro p q r s
      rw [Int.add_mul, Int.mul_add, Int.mul_add, show p * 4294967296 * (r * 4294967296) = p * r * 18446744073709551616 by rw [← Int.mul_assoc, Int.mul_right_comm p 4294967296 r, Int.mul_assoc (p * r)]; rfl, show p * 4294967296 * s = p * s * 4294967296 by rw [Int.mul_right_comm], show q * (r * 4294967296) = q * r * 4294967296 by rw [Int.mul_assoc]]
      omega
    exact this x1 x0 y1 y0
  rw [← hx1, ← hx0, ← hy1, ← hy0, e]
  have h11 := mul_small (x := x1) (y := y1) (by omega) (by omega)
  have h10 := mul_small (x := x1) (y := y0) (by omega) (by omega)
  have h01 := mul_small (x := x0) (y := y1) (by omega) (by omega)
  have h00 := mul_small (x := x0) (y := y0) (by omega) (by omega)
  have hb1 : 0 ≤ a * b := Int.mul_nonneg ha.1 hb.1
  have hb2 : a * b ≤ 340282366920938463426481119284349108225 := by
    calc a * b ≤ 18446744073709551615 * b := Int.mul_le_mul_of_nonneg_right (by omega) hb.1
      _ ≤ 18446744073709551615 * 18446744073709551615 := Int.mul_le_mul_of_nonneg_left (by omega) (by decide)
      _ = 340282366920938463426481119284349108225 := by decide
  rw [e] at hb1 hb2
  generalize x1 * y1 = p at *
  generalize x1 * y0 = q at *
  generalize x0 * y1 = r at *
  generalize x0 * y0 = z at *
  rw [u64_id (n := p) (by omega) (by omega), u64_id (n := q) (by omega) (by omega), u64_id (n := z) (by omega) (by omega), u64_id (n := r) (by omega) (by omega), u64_id (n := q + z / 4294967296) (by omega) (by omega), mask32 (x := q + z / 4294967296) (by omega) (by omega), u64_id (n := (q + z / 4294967296) % 4294967296 + r) (by omega) (by omega), u64_id (n := p + (q + z / 4294967296) / 4294967296) (by omega) (by omega), u64_id (by omega) (by omega), u64_wrap]
  congr 2
  omega
theorem size_ok (n : Int) (h0 : -9223372036854775808 < n) (h1 : n < 9223372036854775808) : fixed_size.f n = some (if n < 0 then -n else n) := by
  unfold fixed_size.f
  by_cases h : n < 0
  · rw [if_pos h, if_pos h, u64_wrap, u64_wrap]; congr 1; omega
  · rw [if_neg h, if_neg h, u64_wrap]; congr 1; omega
theorem signed_ok (q : Int) (ng : Bool) (h0 : 0 ≤ q) (h1 : q < 9223372036854775808) : fixed_signed.f q ng = some (if ng = true then -q else q, true) := by
  unfold fixed_signed.f
  cases ng with
  | true =>
    rw [if_pos rfl, if_neg (by omega), if_pos rfl, u64_wrap]
    congr 2
    unfold wrap64; omega
  | false =>
    rw [if_neg (by decide), if_neg (by omega), if_neg (by decide), wrap_id (by omega) (by omega)]
/-- MulDiv by no less than the first factor: a number no further from 0 than the second one, but for its rounding. -/
theorem muldiv_ev (w v c : Int) (hw : 0 ≤ w) (hwc : w ≤ c) (hc0 : 0 < c) (hc : c < 9223372036854775808) (hv : -9223372036854775800 < v ∧ v < 9223372036854775800) :
    ∃ r : Int × Bool, Ev (fun k => fixed_MulDiv.f k w v c) r ∧ (r.1 ≤ (if v < 0 then -v else v) + 1) ∧ -((if v < 0 then -v else v) + 1) ≤ r.1 := by
  unfold fixed_MulDiv.f
  rw [size_ok w (by omega) (by omega), size_ok v (by omega) (by omega), size_ok c (by omega) (by omega), if_neg (show ¬ w < 0 by omega), if_neg (show ¬ c < 0 by omega)]
  obtain ⟨m, hm⟩ : ∃ m, (if v < 0 then -v else v) = m := ⟨_, rfl⟩
  have hm0 : 0 ≤ m ∧ m < 9223372036854775800 := by
    by_cases h : v < 0
    · rw [if_pos h] at hm; omega
    · rw [if_neg h] at hm; omega
  rw [hm]
  simp only [Option.bind_some]
  rw [mul64_ok w m (by omega) (by omega)]
  simp only [Option.bind_some]
  have hwm : 0 ≤ w * m := Int.mul_nonneg hw hm0.1
  by_cases hhi : w * m / 18446744073709551616 ≥ c
  · exact ⟨(0, false), PM.Ev.pos hhi (Ev.now _), by show (0 : Int) ≤ _; omega, by show _ ≤ (0 : Int); omega⟩
  · obtain ⟨P, hP⟩ : ∃ P : Nat, w * m = (P : Int) := ⟨(w * m).toNat, by omega⟩
    obtain ⟨C, rfl⟩ : ∃ C : Nat, c = (C : Int) := ⟨c.toNat, by omega⟩
    rw [hP] at hhi ⊢
    have e1 : (P : Int) / 18446744073709551616 = ((P / 18446744073709551616 : Nat) : Int) := by omega
    have e2 : (P : Int) % 18446744073709551616 = ((P % 18446744073709551616 : Nat) : Int) := by omega
    obtain ⟨rem, hd⟩ := div64_ok (P / 18446744073709551616) (P % 18446744073709551616) C (by omega) (by omega) (by omega)
    rw [show P / 18446744073709551616 * 18446744073709551616 + P % 18446744073709551616 = P by omega] at hd
    rw [← e1, ← e2] at hd
    have hq : ((P / C : Nat) : Int) ≤ m := by
      have h1 : P / C ≤ m.toNat := by
        apply Nat.div_le_of_le_mul
        have h2 : w * m ≤ (C : Int) * m := Int.mul_le_mul_of_nonneg_right hwc hm0.1
        rw [hP, show m = ((m.toNat : Nat) : Int) by omega] at h2
        exact_mod_cast h2
      omega
    obtain ⟨q, hq'⟩ : ∃ q : Nat, P / C = q := ⟨_, rfl⟩
    rw [hq'] at hd hq
    have hj : ∀ (ng : Bool) (b : Bool), ∃ r : Int × Bool, Ev (fun k => fixed_MulDiv.j0 k (q : Int) ng b) r ∧ r.1 ≤ m + 1 ∧ -(m + 1) ≤ r.1 := by
      intro ng b
      cases b with
      | true =>
        have hs := signed_ok ((q : Int) + 1) ng (by omega) (by omega)
        refine ⟨(if ng = true then -((q : Int) + 1) else (q : Int) + 1, true), Ev.step (fun k => by rw [fixed_MulDiv.j0]) (PM.Ev.pos rfl ?_), ?_⟩
        · rw [u64_id (by omega) (by omega)]
          exact PM.Ev.neg (by omega) (PM.Ev.bind' _ (PM.Ev.const hs) (Ev.now _))
        · cases ng with
          | true => constructor <;> simp <;> omega
          | false => constructor <;> simp <;> omega
      | false =>
        have hs := signed_ok (q : Int) ng (by omega) (by omega)
        refine ⟨(if ng = true then -(q : Int) else (q : Int), true), Ev.step (fun k => by rw [fixed_MulDiv.j0]) (PM.Ev.neg (by decide) (PM.Ev.bind' _ (PM.Ev.const hs) (Ev.now _))), ?_⟩
        cases ng with
        | true => constructor <;> simp <;> omega
        | false => constructor <;> simp <;> omega
    generalize (((decide (w < 0)) != (decide (v < 0))) != (decide ((C : Int) < 0))) = ng
    cases ng with
    | true =>
      obtain ⟨r, h1, h2, h3⟩ := hj true (rem != 0)
      exact ⟨r, PM.Ev.neg hhi (PM.Ev.bind' _ hd (PM.Ev.pos rfl h1)), h2, h3⟩
    | false =>
      obtain ⟨r, h1, h2, h3⟩ := hj false false
      exact ⟨r, PM.Ev.neg hhi (PM.Ev.bind' _ hd (PM.Ev.neg (by decide) h1)), h2, h3⟩
/-- A candidate's weight. -/
def Wt (c : S37) : Int := mx 1 (1073741824 / (c.f2 / 1000 + 1))
theorem mx_eq (a b : Int) : mx a b = if a < b then b else a := rfl
theorem mn_eq (a b : Int) : mn a b = if b < a then b else a := rfl
theorem wt_bounds {c : S37} (h : OkC c) : 1 ≤ Wt c ∧ Wt c ≤ 1073741824 := by
  unfold Wt
  rw [mx_eq]
  have h0 : 0 ≤ c.f2 / 1000 := by have := h.2.2.2.2.1; omega
  have : 1073741824 / (c.f2 / 1000 + 1) ≤ 1073741824 := Int.ediv_le_self _ (by decide)
  split <;> omega
theorem weight_ok {c : S37} (h : OkC c) : combine_weight.f c.f0 c.f1 c.f2 c.f3 c.f4 = some (Wt c) := by
  have h0 : 0 ≤ c.f2 ∧ c.f2 ≤ 9007199254740992 := by have := h.2.2.2.2; omega
  have e1 : Int.tdiv c.f2 1000 = c.f2 / 1000 := Int.tdiv_eq_ediv_of_nonneg h0.1
  have e2 : wrap64 (wrap64 (Int.tdiv c.f2 1000) + 1) = c.f2 / 1000 + 1 := by
    rw [e1, wrap_id (x := c.f2 / 1000) (by omega) (by omega), wrap_id (by omega) (by omega)]
  have e3 : Int.tdiv 1073741824 (c.f2 / 1000 + 1) = 1073741824 / (c.f2 / 1000 + 1) := Int.tdiv_eq_ediv_of_nonneg (by decide)
  have h4 : 1073741824 / (c.f2 / 1000 + 1) ≤ 1073741824 := Int.ediv_le_self _ (by decide)
  have h5 : 0 ≤ 1073741824 / (c.f2 / 1000 + 1) := Int.ediv_nonneg (by decide) (by omega)
  unfold combine_weight.f Wt
  rw [e2, if_neg (by omega), e3, wrap_id (by omega) (by omega)]
end Go.Proofs.Ytlfilhplklifjaa.PM
