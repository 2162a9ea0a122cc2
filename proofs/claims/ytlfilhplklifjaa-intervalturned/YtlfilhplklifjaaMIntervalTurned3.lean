/- Ytlfilhplklifjaa: part 3 of 3 of the proof that the law IntervalTurned returns true for every input, its arguments reading as before. No condition. -/
import Derived.Test.YtlfilhplklifjaaMIntervalTurned2
import Derived.Test.YtlfilhplklifjaaMIntervalTurned1
import Derived.KernelRfl
import Derived.Test.YtlfilhplklifjaaWMore
import Derived.Deep.Slices
import Derived.DataReads
import Derived.Test.YtlfilhplklifjaaRows
import Derived.WalkKit
import Derived.ProofKit
import Derived.OpenShut
import Derived.ShutString
import Derived.ChangeOld
import Derived.Below
import Derived.SizedLaws
import Derived.WideShapes
/- Best, Count, Has, Honest, Edges. -/
namespace Go.Proofs.Ytlfilhplklifjaa.PA
open Go.RowKit Go.Proofs.Ytlfilhplklifjaa.X Go.Proofs.YtlfilhplklifjaaW.PrintWords Go.Proofs.YtlfilhplklifjaaW.PrintLast

theorem runsOf_bound : ∀ (cs : List S110) (c : Int), Small cs → ∀ r ∈ runsOf c cs, -8000000000000000000 ≤ r.f0 ∧ r.f1 ≤ 8000000000000000000
  | [], _, _ => by simp [runsOf]
  | [_], _, _ => by simp [runsOf]
  | x :: y :: rest, c, h => by
    have ih := runsOf_bound (y :: rest) (c + x.f1) (fun z hz => h z (List.mem_cons_of_mem _ hz))
    have hx := h x (by simp)
    have hy := h y (by simp)
    unfold runsOf
    split
    · intro r hr
      rcases List.mem_cons.1 hr with rfl | hr
      · exact ⟨hx.2.2.1, by show y.f0 - 1 ≤ _; omega⟩
      · exact ih r hr
    · exact ih
theorem runs_bound (v : List S29) : ∀ r ∈ runs v, -8000000000000000000 ≤ r.f0 ∧ r.f1 ≤ 8000000000000000000 :=
  runsOf_bound _ _ fun x hx => small_changes (fun _ hs => valid_ok hs) x ((sorted_perm (valid v)).mem_iff.1 hx)

/-! ### Best -/
def BestSpec (v : List S29) (lo hi n : Int) : Prop :=
  (n = 0 ∧ lo = 0 ∧ hi = 0 ∧ ∀ t, cnt v t = 0) ∨ (1 ≤ n ∧ lo ≤ hi ∧ (∀ t, (cnt v t : Int) ≤ n) ∧ (∀ t, lo ≤ t → t ≤ hi → (cnt v t : Int) = n) ∧ (∀ t, t < lo → (cnt v t : Int) < n) ∧ (cnt v (hi + 1) : Int) < n)
theorem BestSpec.uniq {v : List S29} {a b c a' b' c' : Int} (h : BestSpec v a b c) (h' : BestSpec v a' b' c') : a = a' ∧ b = b' ∧ c = c' := by
  rcases h with ⟨rfl, rfl, rfl, h4⟩ | ⟨h1, h2, h3, h4, h5, h6⟩ <;> rcases h' with ⟨rfl, rfl, rfl, g4⟩ | ⟨g1, g2, g3, g4, g5, g6⟩
  · exact ⟨rfl, rfl, rfl⟩
  · have := g4 a' (Int.le_refl _) g2
    rw [h4] at this; omega
  · have := h4 a (Int.le_refl _) h2
    rw [g4] at this; omega
  · have x1 := h4 a (Int.le_refl _) h2
    have x2 := g4 a' (Int.le_refl _) g2
    have x3 := h3 a'
    have x4 := g3 a
    have e : c = c' := by omega
    subst e
    have ea : a = a' := by
      rcases Int.lt_trichotomy a a' with q | q | q
      · have := g5 a q; omega
      · exact q
      · have := h5 a' q; omega
    subst ea
    refine ⟨rfl, ?_, rfl⟩
    rcases Int.lt_trichotomy b b' with q | q | q
    · have := g4 (b + 1) (by omega) (by omega); omega
    · exact q
    · have := h4 (b' + 1) (by omega) (by omega); omega
/-- The best one of the runs ahead of the i-th. -/
structure BestInv (v : List S29) (R : List S88) (i : Nat) (lo hi n : Int) : Prop where
  nn : 0 ≤ n
  bd : -8000000000000000000 ≤ hi ∧ hi ≤ 8000000000000000000
  le : ∀ t, (∀ r ∈ R.drop i, t < r.f0) → (cnt v t : Int) ≤ n
  br : n = 0 ∨ (1 ≤ n ∧ lo ≤ hi ∧ (∀ t, lo ≤ t → t ≤ hi → (cnt v t : Int) = n) ∧ (∀ t, t < lo → (cnt v t : Int) < n) ∧ (∀ r ∈ R.drop i, hi < r.f0) ∧ ((∀ r ∈ R.drop i, hi + 1 < r.f0) → (cnt v (hi + 1) : Int) < n))
theorem best_from (v : List S29) (R : List S88) (hn : R.length ≤ 96)
    (h1 : ∀ r ∈ R, r.f0 ≤ r.f1 ∧ ∀ t, r.f0 ≤ t → t ≤ r.f1 → (cnt v t : Int) = r.f2) (h2 : R.Pairwise (fun r q => r.f1 < q.f0)) (h3 : ∀ t, 1 ≤ cnt v t → ∃ r ∈ R, r.f0 ≤ t ∧ t ≤ r.f1)
    (hb : ∀ r ∈ R, -8000000000000000000 ≤ r.f0 ∧ r.f1 ≤ 8000000000000000000) :
    ∀ d i lo hi n, i + d = R.length → BestInv v R i lo hi n → ∃ a b c, Ev (fun k => interval_Best.l0 k R R.length i lo hi n) (a, b, c) ∧ BestSpec v a b c := by
  intro d
  induction d with
  | zero =>
    intro i lo hi n hi' hv
    have hd : R.drop i = [] := List.drop_eq_nil_of_le (by omega)
    rcases hv.br with h0 | ⟨q1, q2, q3, q4, q5, q6⟩
    · refine ⟨0, 0, 0, ?_, .inl ⟨rfl, rfl, rfl, fun t => ?_⟩⟩
      · refine Ev.step (fun k => by rw [interval_Best.l0]) ?_
        exact Ev.neg (by omega) (Ev.pos h0 (Ev.const rfl))
      · have := hv.le t (by rw [hd]; simp)
        omega
    · refine ⟨lo, hi, n, ?_, .inr ⟨q1, q2, fun t => hv.le t (by rw [hd]; simp), q3, q4, q6 (by rw [hd]; simp)⟩⟩
      refine Ev.step (fun k => by rw [interval_Best.l0]) ?_
      exact Ev.neg (by omega) (Ev.neg (by omega) (Ev.const rfl))
  | succ d ih =>
    intro i lo hi n hi' hv
    have hlt : i < R.length := by omega
    have eg : R.getD i z88 = R[i] := by simp [List.getD, hlt]
    have ed : R.drop i = R[i] :: R.drop (i + 1) := List.drop_eq_getElem_cons hlt
    obtain ⟨x1, x2⟩ := h1 R[i] (List.getElem_mem hlt)
    have xb := hb R[i] (List.getElem_mem hlt)
    have hp : ∀ r ∈ R.drop (i + 1), R[i].f1 < r.f0 := by
      have := h2.sublist (List.drop_sublist i R)
      rw [ed] at this
      exact (List.pairwise_cons.1 this).1
    have hq : ∀ r ∈ R.take i, r.f1 < R[i].f0 := fun r hr => by
      obtain ⟨j, hj, rfl⟩ := List.getElem_of_mem hr
      have hj2 : j < i := by have := hj; simp at this; omega
      rw [List.getElem_take]
      exact (List.pairwise_iff_getElem.1 h2) j i (by omega) hlt hj2
    -- an instant behind this run, ahead of the next one, lies in none
    have gap : ∀ t, R[i].f1 < t → (∀ r ∈ R.drop (i + 1), t < r.f0) → (cnt v t : Int) = 0 := fun t ht hr => by
      rcases Nat.eq_zero_or_pos (cnt v t) with q | q
      · omega
      · obtain ⟨r, hrm, hr1, hr2⟩ := h3 t q
        rw [← List.take_append_drop i R, ed] at hrm
        rcases List.mem_append.1 hrm with hrm | hrm
        · have := hq r hrm; omega
        · rcases List.mem_cons.1 hrm with rfl | hrm
          · omega
          · have := hr r hrm; omega
    have ahead : ∀ t, t < R[i].f0 → ∀ r ∈ R.drop i, t < r.f0 := fun t ht r hr => by
      rw [ed] at hr
      rcases List.mem_cons.1 hr with rfl | hr
      · exact ht
      · have := hp r hr; omega
    have upto : ∀ m, n ≤ m → R[i].f2 ≤ m → ∀ t, (∀ r ∈ R.drop (i + 1), t < r.f0) → (cnt v t : Int) ≤ m := fun m hm1 hm2 t ht => by
      rcases Int.lt_or_le t R[i].f0 with q | q
      · have := hv.le t (ahead t q); omega
      · rcases Int.lt_or_le R[i].f1 t with u | u
        · have := gap t u ht; have := hv.nn; omega
        · have := x2 t q u; omega
    have ew : wrap64 ((i : Int) + 1) = ((i + 1 : Nat) : Int) := wrap_nat (by omega)
    by_cases c1 : R[i].f2 > n
    · obtain ⟨a, b, c, e1, e2⟩ := ih (i + 1) R[i].f0 R[i].f1 R[i].f2 (by omega) ⟨by have := hv.nn; omega, ⟨by omega, by omega⟩, upto _ (by omega) (Int.le_refl _), .inr ⟨by have := hv.nn; omega, x1, x2, fun t ht => by have := hv.le t (ahead t ht); omega, hp, fun hr => by
        have := gap (R[i].f1 + 1) (by omega) hr
        have := hv.nn; omega⟩⟩
      refine ⟨a, b, c, ?_, e2⟩
      refine Ev.step (fun k => by rw [interval_Best.l0]) ?_
      refine Ev.pos (by omega) (Ev.pos (by omega) (Ev.pos (by omega) ?_))
      simp only [rd88]
      rw [eg, ew]
      exact Ev.pos c1 e1
    · by_cases c2 : R[i].f2 = n ∧ R[i].f0 = hi + 1
      · obtain ⟨c2, c3⟩ := c2
        obtain ⟨a, b, c, e1, e2⟩ := ih (i + 1) lo R[i].f1 n (by omega) ⟨hv.nn, ⟨by omega, by omega⟩, upto _ (Int.le_refl _) (by omega), hv.br.imp id fun ⟨q1, q2, q3, q4, q5, q6⟩ => ⟨q1, by omega, fun t h5 h6 => by
          rcases Int.lt_or_le hi t with u | u
          · rw [x2 t (by omega) h6]; exact c2
          · exact q3 t h5 u, q4, hp, fun hr => by
          have := gap (R[i].f1 + 1) (by omega) hr
          omega⟩⟩
        refine ⟨a, b, c, ?_, e2⟩
        refine Ev.step (fun k => by rw [interval_Best.l0]) ?_
        refine Ev.pos (by omega) (Ev.pos (by omega) (Ev.pos (by omega) ?_))
        simp only [rd88]
        have hbd := hv.bd
        rw [eg, ew, wrap_id (x := hi + 1) (by omega) (by omega)]
        exact Ev.neg c1 (Ev.pos c2 (Ev.pos c3 e1))
      · obtain ⟨a, b, c, e1, e2⟩ := ih (i + 1) lo hi n (by omega) ⟨hv.nn, hv.bd, upto _ (Int.le_refl _) (by omega), hv.br.imp id fun ⟨q1, q2, q3, q4, q5, q6⟩ => ⟨q1, q2, q3, q4, fun r hr => q5 r (by rw [ed]; exact List.mem_cons_of_mem _ hr), fun hr => by
          rcases Int.lt_or_le (hi + 1) R[i].f0 with u | u
          · exact q6 (ahead _ u)
          · have u2 := q5 R[i] (by rw [ed]; exact List.mem_cons_self)
            have u3 := x2 (hi + 1) (by omega) (by omega)
            have : R[i].f2 ≠ n := fun e => c2 ⟨e, by omega⟩
            omega⟩⟩
        refine ⟨a, b, c, ?_, e2⟩
        refine Ev.step (fun k => by rw [interval_Best.l0]) ?_
        refine Ev.pos (by omega) (Ev.pos (by omega) (Ev.pos (by omega) ?_))
        simp only [rd88]
        have hbd := hv.bd
        rw [eg, ew, wrap_id (x := hi + 1) (by omega) (by omega)]
        refine Ev.neg c1 (Ev.ite_ (fun c3 => Ev.ite_ (fun c4 => absurd ⟨c3, c4⟩ c2) (fun _ => e1)) (fun _ => e1))
theorem impl_best (v : List S29) : ∃ a b c, Ev (fun k => interval_Best.f k v) (a, b, c) ∧ BestSpec (valid v) a b c := by
  obtain ⟨h1, h2, h3⟩ := runs_spec v
  have hn := runs_len v
  obtain ⟨a, b, c, e1, e2⟩ := best_from (valid v) (runs v) hn h1 h2 h3 (runs_bound v) (runs v).length 0 0 0 0 (by omega) ⟨Int.le_refl _, by omega, fun t ht => by
    rcases Nat.eq_zero_or_pos (cnt (valid v) t) with q | q
    · omega
    · obtain ⟨r, hr, h4, _⟩ := h3 t q
      have := ht r (by simpa using hr)
      omega, .inl rfl⟩
  refine ⟨a, b, c, ?_, e2⟩
  unfold interval_Best.f
  exact Ev.bind' _ (impl_runs v) e1

/-! ### Count -/
/-! ### Honest -/
/-! ### Edges -/
def ends (v : List S29) : List Int := v.flatMap (fun s => [s.f0, s.f1])
theorem ends_len (v : List S29) : (ends v).length = 2 * v.length := by
  unfold ends
  induction v with
  | nil => rfl
  | cons a r ih => simp only [List.flatMap_cons, List.length_append, List.length_cons, List.length_nil, ih]; omega
def sortI (l : List Int) : List Int := l.mergeSort fun x y => decide (x ≤ y)
theorem sortI_sorted (z : List Int) : (sortI z).Pairwise (fun a b => a ≤ b) := by
  have := List.pairwise_mergeSort (le := fun a b : Int => decide (a ≤ b)) (fun a b c h1 h2 => by simp at *; omega) (fun a b => by simp; omega) z
  exact this.imp fun h => by simpa using h
theorem sortI_is {x y : List Int} (h : x.Perm y) (hs : y.Pairwise (fun a b => a ≤ b)) : sortI x = y :=
  List.Perm.eq_of_pairwise (fun _ _ _ _ h1 h2 => Int.le_antisymm h1 h2) (sortI_sorted x) hs ((List.mergeSort_perm x _).trans h)
theorem sortI_perm {x y : List Int} (h : x.Perm y) : sortI x = sortI y := sortI_is (h.trans (List.mergeSort_perm y _).symm) (sortI_sorted y)
theorem sortI_len (l : List Int) : (sortI l).length = l.length := (List.mergeSort_perm l _).length_eq
def edges (v : List S29) : List Int := Lib.compact (sortI (ends (valid v)))
theorem edges_len (v : List S29) : (edges v).length ≤ 96 := by
  have h1 := valid_len v
  have h2 := compact_le (sortI (ends (valid v)))
  rw [sortI_len, ends_len] at h2
  unfold edges
  omega
theorem edges_from (u : List S29) (hn : u.length ≤ 48) : ∀ d i (acc : List Int), i + d = u.length → acc = ends (u.take i) → Ev (fun k => interval_Edges.l0 k acc u u.length i) (Lib.compact (sortI (ends u))) := by
  intro d
  induction d with
  | zero =>
    intro i acc hi ha
    rw [List.take_of_length_le (by omega)] at ha
    subst ha
    have hl := ends_len u
    refine Ev.step (fun k => by rw [interval_Edges.l0]) ?_
    have e1 : slices_Sort_int_int.f (ends u) = some (sortI (ends u)) := by
      unfold slices_Sort_int_int.f; rw [if_pos (by omega)]; rfl
    have e2 : slices_Compact_int_int.f (sortI (ends u)) = some (Lib.compact (sortI (ends u))) := by
      unfold slices_Compact_int_int.f; rw [if_pos (by rw [sortI_len]; omega)]
    rw [e1]
    refine Ev.neg (by omega) (Ev.some_bind ?_)
    rw [e2]
    exact Ev.some_bind (Ev.const rfl)
  | succ d ih =>
    intro i acc hi ha
    have hlt : i < u.length := by omega
    have eg : u.getD i z29 = u[i] := by simp [List.getD, hlt]
    have ew : wrap64 ((i : Int) + 1) = ((i + 1 : Nat) : Int) := wrap_nat (by omega)
    have hl := ends_len (u.take i)
    rw [List.length_take] at hl
    refine Ev.step (fun k => by rw [interval_Edges.l0]) ?_
    refine Ev.pos (by omega) (Ev.pos (by omega) (Ev.pos (by omega) (Ev.some_bind (Ev.pos ?_ ?_))))
    · rw [ha]; simp only [List.length_cons, List.length_nil]; omega
    · simp only [rd29]
      rw [eg, ew]
      refine ih (i + 1) _ (by omega) ?_
      rw [ha, List.take_succ_eq_append_getElem hlt]
      unfold ends
      rw [List.flatMap_append]
      rfl
theorem impl_edges (v : List S29) : Ev (fun k => interval_Edges.f k v) (edges v) := by
  unfold interval_Edges.f edges
  exact Ev.bind' _ (impl_valid v) (edges_from (valid v) (valid_len v) _ 0 [] (Nat.zero_add _) rfl)
end Go.Proofs.Ytlfilhplklifjaa.PA

/- The examples of the intervals' chapter, reckoned. -/
namespace Go.Proofs.Ytlfilhplklifjaa.PA
open Go.RowKit Go.Proofs.Ytlfilhplklifjaa.X Go.Proofs.YtlfilhplklifjaaW.PrintWords
theorem ex_edges : edges [⟨1, 5⟩, ⟨4, 9⟩, ⟨4, 6⟩] = [1, 4, 5, 6, 9] := by
  have h1 : valid [⟨1, 5⟩, ⟨4, 9⟩, ⟨4, 6⟩] = [⟨1, 5⟩, ⟨4, 9⟩, ⟨4, 6⟩] := by kernel_rfl
  have h2 : sortI (ends [⟨1, 5⟩, ⟨4, 9⟩, ⟨4, 6⟩]) = [1, 4, 4, 5, 6, 9] := sortI_is (by decide) (by decide)
  unfold edges
  rw [h1, h2]
  decide
theorem ex_best1 : Ev (fun k => interval_Best.f k [⟨1, 5⟩, ⟨4, 9⟩, ⟨4, 6⟩]) (4, 5, 3) :=
  Ev.of (fun k => interval_Best.mono _ k) (show interval_Best.f 30 [⟨1, 5⟩, ⟨4, 9⟩, ⟨4, 6⟩] = some (4, 5, 3) by kernel_rfl)
theorem ex_hull : Ev (fun k => interval_Hull.f k [⟨1, 5⟩, ⟨4, 9⟩, ⟨4, 6⟩] 2) (4, 6, true) :=
  Ev.of (fun k => interval_Hull.mono _ _ k) (show interval_Hull.f 30 [⟨1, 5⟩, ⟨4, 9⟩, ⟨4, 6⟩] 2 = some (4, 6, true) by kernel_rfl)
theorem ex_best2 : Ev (fun k => interval_Best.f k [⟨1, 5⟩, ⟨6, 9⟩]) (1, 9, 1) :=
  Ev.of (fun k => interval_Best.mono _ k) (show interval_Best.f 30 [⟨1, 5⟩, ⟨6, 9⟩] = some (1, 9, 1) by kernel_rfl)
theorem ex_honest : Ev (fun k => interval_Honest.f k [⟨1, 2⟩, ⟨1, 3⟩, ⟨7, 8⟩] 1) (1, 2, true) :=
  Ev.of (fun k => interval_Honest.mono _ _ k) (show interval_Honest.f 30 [⟨1, 2⟩, ⟨1, 3⟩, ⟨7, 8⟩] 1 = some (1, 2, true) by kernel_rfl)
theorem ex_faulty : Ev (fun k => interval_Faulty.f k [⟨1, 2⟩, ⟨1, 3⟩, ⟨7, 8⟩]) 1 :=
  Ev.of (fun k => interval_Faulty.mono _ k) (show interval_Faulty.f 30 [⟨1, 2⟩, ⟨1, 3⟩, ⟨7, 8⟩] = some 1 by kernel_rfl)
theorem awake23 : Ev (fun k => timesynclaw23_awake.f k) true := by
  unfold timesynclaw23_awake.f
  refine Ev.some_bind (Ev.bind' _ ex_best1 (Ev.bind' _ ex_hull (Ev.bind' _ ex_best2 (Ev.some_bind (Ev.bind' _ ex_honest (Ev.pos rfl (Ev.pos rfl (Ev.pos rfl (Ev.pos rfl (Ev.bind' _ (impl_edges _) ?_))))))))))
  rw [ex_edges]
  exact Ev.bind' _ (eq_ints _ _ (by decide)) (Ev.pos (by decide) (Ev.pos rfl (Ev.pos rfl (Ev.bind' _ ex_faulty (Ev.pos rfl (Ev.pos rfl (Ev.const rfl)))))))
theorem awake23' : Ev (fun k => (timesynclaw23_awake.f k).bind fun t => some t) true := Ev.bind' true awake23 (Ev.const rfl)
end Go.Proofs.Ytlfilhplklifjaa.PA

/- The pure statement of IntervalTurned: the order of the list does not matter; a greater need gives a hull within the other one. -/
namespace Go.Proofs.Ytlfilhplklifjaa.PureIntervalTurned
open Go.RowKit Go.Proofs.Ytlfilhplklifjaa.X Go.Proofs.Ytlfilhplklifjaa.PA Go.Proofs.YtlfilhplklifjaaW.PrintWords Go.Proofs.YtlfilhplklifjaaW.PrintLast Go.Proofs.YtlfilhplklifjaaW.PrintMore
theorem valid_rev (l : List S29) : valid l.reverse = (valid l).reverse := by
  unfold valid
  rw [List.length_reverse]
  split
  · rfl
  · rw [List.filter_reverse]
theorem cnt_rev (v : List S29) (t : Int) : cnt v.reverse t = cnt v t := by unfold cnt; rw [List.countP_reverse]
theorem best_congr {v v' : List S29} (h : ∀ t, cnt v t = cnt v' t) {a b c : Int} (hs : BestSpec v a b c) : BestSpec v' a b c := by
  unfold BestSpec at hs ⊢
  simpa only [h] using hs
theorem hull_congr {v v' : List S29} (h : ∀ t, cnt v t = cnt v' t) {need lo hi : Int} {ok : Bool} (hs : HullSpec v need lo hi ok) : HullSpec v' need lo hi ok := by
  rcases hs with ⟨h0, h1, h2, h3, h4⟩ | ⟨h0, h1, h2, h3⟩
  · exact .inl ⟨h0, h1, by rw [← h]; exact h2, by rw [← h]; exact h3, fun t ht => h4 t (by rw [h]; exact ht)⟩
  · exact .inr ⟨h0, h1, h2, h3.imp id fun h4 t => by rw [← h]; exact h4 t⟩
theorem ends_perm {u v : List S29} (h : u.Perm v) : (ends u).Perm (ends v) := by
  induction h with
  | nil => exact List.Perm.refl _
  | cons x _ ih => exact List.Perm.append_left _ ih
  | swap x y l =>
    show (([y.f0, y.f1] ++ ([x.f0, x.f1] ++ ends l)) : List Int).Perm ([x.f0, x.f1] ++ ([y.f0, y.f1] ++ ends l))
    rw [← List.append_assoc, ← List.append_assoc]
    exact List.Perm.append_right _ List.perm_append_comm
  | trans _ _ ih1 ih2 => exact ih1.trans ih2
theorem edges_rev (l : List S29) : edges l.reverse = edges l := by
  unfold edges
  rw [valid_rev, sortI_perm (ends_perm (List.reverse_perm _))]

theorem IntervalTurned : ∀ (x0 : List (S29)) (a1 : Int), WFL29 x0 → WFi64 a1 → ∃ k, timesynclaw23_IntervalTurned.f k x0 a1 = some true := by
  intro l need _ _
  refine Ev.rounds ?_
  have j0t : Ev (fun k => timesynclaw23_IntervalTurned.j0 k l need true) true := by
    refine Ev.step (fun k => by rw [timesynclaw23_IntervalTurned.j0]) ?_
    exact Ev.pos rfl awake23'
  unfold timesynclaw23_IntervalTurned.f
  refine Ev.ite_ (fun _ => j0t) (fun hn => Ev.ite_ (fun _ => j0t) (fun h1 => ?_))
  by_cases h2 : need > 100
  · rw [decide_eq_true h2]; exact j0t
  · rw [decide_eq_false h2]
    refine Ev.step (fun k => by rw [timesynclaw23_IntervalTurned.j0]) ?_
    have e36 : api_Interval_36.f l = some l := by unfold api_Interval_36.f; rw [if_pos (by omega)]
    have e37 : api_Interval_37.f l = some l.reverse := by unfold api_Interval_37.f; rw [if_pos (by omega)]
    rw [e36]
    refine Ev.neg (by simp) (Ev.some_bind ?_)
    rw [e37]
    have hc : ∀ t, cnt (valid l.reverse) t = cnt (valid l) t := fun t => by rw [valid_rev, cnt_rev]
    obtain ⟨a, b, c, b1, b2⟩ := impl_best l
    obtain ⟨a', b', c', b3, b4⟩ := impl_best l.reverse
    obtain ⟨rfl, rfl, rfl⟩ := b2.uniq (best_congr hc b4)
    obtain ⟨lo, hi, ok, u1, u2⟩ := impl_hull l need
    obtain ⟨lo', hi', ok', u3, u4⟩ := impl_hull l.reverse need
    obtain ⟨rfl, rfl, rfl⟩ := u2.uniq (hull_congr hc u4)
    obtain ⟨g0, g1, r, u5, u6⟩ := impl_hull l (need + 1)
    refine Ev.some_bind (Ev.bind' _ b1 (Ev.bind' _ b3 (Ev.bind' _ u1 (Ev.bind' _ u3 ?_))))
    have he := edges_len l
    refine Ev.neg (by simp) (Ev.pos rfl (Ev.neg (by simp) (Ev.neg (by simp) (Ev.bind' _ (impl_edges l) (Ev.bind' _ (impl_edges l.reverse) (Ev.bind' _ (eq_ints _ _ (by omega)) ?_))))))
    rw [edges_rev, decide_eq_true rfl]
    refine Ev.step (fun k => by rw [timesynclaw23_IntervalTurned.j1]) ?_
    rw [wrap_id (x := need + 1) (by omega) (by omega)]
    refine Ev.neg (by simp) (Ev.bind' _ u5 (Ev.ite_ (fun hr => Ev.ite_ (fun _ => awake23') (fun h3 => ?_)) (fun _ => awake23')))
    rcases u6 with ⟨_, q1, q2, q3, q4⟩ | ⟨q, _⟩
    · rcases u2 with ⟨p0, p1, p2, p3, p4⟩ | ⟨p0, _, _, p | p⟩
      · have x1 := p4 g0 (by omega)
        have x2 := p4 g1 (by omega)
        exact Ev.pos p0 (Ev.pos x1.1 (Ev.pos x2.2 awake23'))
      · omega
      · have := p g0; omega
    · rw [q] at hr; cases hr
end Go.Proofs.Ytlfilhplklifjaa.PureIntervalTurned

/- What an argument reads as, in the printed words: a type's reading gives cells of its kind, and bounds on the numbers. -/
namespace Go.Proofs.Ytlfilhplklifjaa.HO
open Go.RowKit Go.Proofs.YtlfilhplklifjaaW.PrintWords Go.Deep

structure Opens {α : Type} (P : Program) (t : TypeId) (d : Kd α) (B : α → Prop) : Prop where
  out : ∀ {H : Type} (enc : TypeId × Value → H) (w : World) (base : Nat) (spare : Nat → Bool) (held : Bool) (fuel : Nat) (cs : List Value) (x : DataW H × List MemPlace),
    DataW.trod enc P w base spare held fuel t cs = some x → ∃ a : α, d.K w a cs ∧ B a

theorem opens_int {P : Program} {t : TypeId} {k : IntKind} (ht : P.underlying t = some (.int k)) : Opens P t (Kd.int k) (fun n => (Lit.int k n).wf = true) := by
  constructor
  intro H enc w base spare held fuel cs x h
  obtain ⟨n, rfl, _, hw⟩ := DataW.trod_int ht h
  exact ⟨n, rfl, hw⟩
theorem opens_slice {α : Type} [Inhabited α] {P : Program} {t e : TypeId} {d : Kd α} {B : α → Prop} (he : Opens P e d B) (ht : P.underlying t = some (.slice e)) (hs : P.cellsOf e = d.sz) :
    Opens P t (Kd.slice e d) (fun xs => xs.length ≤ 9223372036854775807 ∧ ∀ x ∈ xs, B x) := by
  constructor
  intro H enc w base spare held fuel cs x h
  rcases open_slice ht h with ⟨rfl, _⟩ | ⟨a, len, cap, m, n, D, Pl, rfl, _, hl, hm, hmm, _, hx⟩
  · exact ⟨[], ⟨none, 0, rfl, Nat.le_refl _, rfl, by simp, fun h => by simp at h⟩, by simp, by simp⟩
  · have hlm : len ≤ m := by rw [hmm]; split <;> omega
    obtain ⟨X, hX⟩ := choose_lt (α := α) (n := len) (p := fun i x => B x ∧ ∃ c, c.length = d.sz ∧ d.K w x c ∧ ∀ j u, c[j]? = some u → w.cell? (a.add (i * d.sz + j)) = some u) (fun i hi => by
      obtain ⟨cs', h1, h2⟩ := hx i (Nat.lt_of_lt_of_le hi hlm)
      obtain ⟨x, hK, hB⟩ := he.out enc w base spare held n cs' _ h2
      refine ⟨x, hB, cs', d.K_len hK, hK, fun j u hj => ?_⟩
      obtain ⟨_, h4, h5⟩ := World.cells?_some h1
      have hj' : j < cs'.length := (List.getElem?_eq_some_iff.1 hj).1
      have h6 := h5 j (by rw [h4] at hj'; exact hj')
      rw [Go.Deep.add_add, hs] at h6
      rw [h6, hj])
    refine ⟨(List.range len).map X, ⟨some a, cap, by simp, by simpa using hl, by simp, ?_, fun h0 => ⟨a, rfl, fun j p hp => ?_⟩⟩, ?_, ?_⟩
    · have : cap ≤ 9223372036854775807 := by simpa [maxLen] using hm
      simp only [List.length_map, List.length_range]; omega
    · have hj : j < len := by
        have := (List.getElem?_eq_some_iff.1 hp).1
        simpa using this
      have : X j = p := by simpa [hj] using hp
      subst this
      obtain ⟨_, c, h1, h2, h3⟩ := hX j hj
      exact ⟨c, h1, h2, h3⟩
    · have : cap ≤ 9223372036854775807 := by simpa [maxLen] using hm
      simp only [List.length_map, List.length_range]; omega
    · intro x hx
      obtain ⟨j, hj, rfl⟩ := List.mem_map.1 hx
      exact (hX j (List.mem_range.1 hj)).1

/-- The fields from cell 'off' on. -/
structure OpF {α : Type} (P : Program) (off : Nat) (fs : List Field) (d : Kd α) (B : α → Prop) : Prop where
  out : ∀ {H : Type} (enc : TypeId × Value → H) (w : World) (base : Nat) (spare : Nat → Bool) (held : Bool) (n : Nat) (cs : List Value), cs.length = off + d.sz →
    (∀ f ∈ fs, ∃ y, DataW.trod enc P w base spare held n f.type ((cs.drop f.offset).take (P.cellsOf f.type)) = some y) → ∃ a : α, d.K w a (cs.drop off) ∧ B a
theorem opF_one {α : Type} {P : Program} {off : Nat} {f : Field} {d : Kd α} {B : α → Prop} (h : Opens P f.type d B) (ho : f.offset = off) (hs : P.cellsOf f.type = d.sz) : OpF P off [f] d B := by
  constructor
  intro H enc w base spare held n cs hl hf
  obtain ⟨y, hy⟩ := hf f (by simp)
  rw [ho, hs, List.take_of_length_le (by rw [List.length_drop]; omega)] at hy
  exact h.out enc w base spare held n _ _ hy
theorem opF_cons {α β : Type} {P : Program} {off : Nat} {f : Field} {fs : List Field} {d : Kd α} {d' : Kd β} {B : α → Prop} {B' : β → Prop} (h : Opens P f.type d B) (ho : f.offset = off) (hs : P.cellsOf f.type = d.sz) (hr : OpF P (off + d.sz) fs d' B') :
    OpF P off (f :: fs) (Kd.pair d d') (fun p => B p.1 ∧ B' p.2) := by
  constructor
  intro H enc w base spare held n cs hl hf
  obtain ⟨y, hy⟩ := hf f (by simp)
  rw [ho, hs] at hy
  have hl' : cs.length = off + (d.sz + d'.sz) := hl
  obtain ⟨a, hK, hB⟩ := h.out enc w base spare held n _ _ hy
  obtain ⟨b, hK', hB'⟩ := hr.out enc w base spare held n cs (by omega) (fun g hg => hf g (by simp [hg]))
  refine ⟨(a, b), ⟨(cs.drop off).take d.sz, cs.drop (off + d.sz), ?_, hK, hK'⟩, hB, hB'⟩
  rw [← List.drop_drop]
  exact (List.take_append_drop _ _).symm
theorem opens_struct {α β : Type} {P : Program} {t : TypeId} {fs : Array Field} {d : Kd α} {B : α → Prop} (f : β → α) (g : α → β) (hfg : ∀ a, f (g a) = a) (h : OpF P 0 fs.toList d B) (ht : P.underlying t = some (.struct fs)) (hs : P.cellsOf t = d.sz) :
    Opens P t (Kd.iso d f) (fun x => B (f x)) := by
  constructor
  intro H enc w base spare held fuel cs x hx
  obtain ⟨xs, n, _, _, hl, hlen, hf⟩ := DataW.trod_struct ht hx
  obtain ⟨a, hK, hB⟩ := h.out enc w base spare held n cs (by omega) (fun q hq => by
    obtain ⟨i, hi⟩ := List.mem_iff_getElem?.1 hq
    have hi' : fs[i]? = some q := by simpa using hi
    have hlt : i < xs.length := by
      have := (Array.getElem?_eq_some_iff.1 hi').1
      omega
    exact ⟨xs[i], by rw [hf i q hi', List.getElem?_eq_getElem hlt]⟩)
  refine ⟨g a, ?_, by show B (f (g a)); rw [hfg]; exact hB⟩
  show d.K w (f (g a)) cs
  rw [hfg]
  exact hK
end Go.Proofs.Ytlfilhplklifjaa.HO

/- The row of IntervalTurned: for every input the law returns true, and each argument reads as it read before: out of its pure statement (YtlfilhplklifjaaPureIntervalTurned) and the printed walk. No condition. -/
namespace Go.Proofs.Ytlfilhplklifjaa.intervalTurned
open Go.ChangeShapes Go.WideShapes Go.ChangeAt Go.RowKit Go.Proofs.Ytlfilhplklifjaa.X Go.Proofs.YtlfilhplklifjaaW.PrintWords
open Go.ChangeMaps (open_string shut_string)
set_option linter.unusedVariables false
theorem own : ownKnob Try.prog.godebug = none := by kernel_rfl
theorem laidOut : laidOutB Try.prog = true := by kernel_rfl
theorem opens3 : HO.Opens Try.prog 3 (Kd.int .i64) WFi64 := HO.opens_int Try.underlying3
theorem opens29 : HO.Opens Try.prog 29 k29 WF29 := HO.opens_struct (d := (Kd.pair (Kd.int .i64) (Kd.int .i64))) (B := fun p => WFi64 p.1 ∧ WFi64 p.2) (fun x : S29 => (x.f0, x.f1)) (fun p => (⟨p.1, p.2⟩ : S29)) (fun _ => rfl) (HO.opF_cons (B := WFi64) (B' := WFi64) opens3 rfl (by kernel_rfl) (HO.opF_one opens3 rfl (by kernel_rfl))) Try.underlying29 (by kernel_rfl)
theorem opens58 : HO.Opens Try.prog 58 (Kd.slice 29 k29) WFL29 := haveI : Inhabited S29 := ⟨z29⟩; HO.opens_slice opens29 Try.underlying58 (by kernel_rfl)
set_option maxRecDepth 100000 in
theorem lifted (os : Os) (started : os.Started) (H : Type) (enc : TypeId × Value → H) :
    ReturnsInHanded {} Try.checked os 11 .any (Rows.intervalTurnedSpec.pre6 enc Try.prog Try.f11 Rows.intervalTurnedRow.domain false) (Rows.intervalTurnedSpec.post enc Try.prog Try.f11 false true false false) := by
  refine returnsInHanded_of_change_sized (C := Try.checked) own started (by kernel_rfl) Try.func11
    (ChangeSpec.witness6 (enc := enc) (C := Try.checked) false ⟨#[], #[.slice none 0 0, .int .i64 0], []⟩ 8 (by kernel_rfl) (by kernel_rfl) (by kernel_rfl) (by kernel_rfl)) ?_
  intro W base args ds gs before hval0 hW hcnd hsz0 _
  have hval : ∀ (j : Nat) t v, Try.f11.params[j]? = some t → args[j]? = some v → Value.okWide Try.prog W .any base t v := hval0
  have hW' := hW
  obtain ⟨p, q, hA0, hV, rfl, hfz, hnd⟩ := hW
  have hA : DataW.TrodAll enc Try.prog W 0 (fun _ => true) true Try.f11.params.toList args.toList ds p := hA0
  rw [Try.params11] at hA hval
  obtain ⟨v0, vs0, d0, ds0, p0, q0, hargs, rfl, rfl, h0, r0⟩ := trodAll_cons hA
  obtain ⟨v1, vs1, d1, ds1, p1, q1, rfl, rfl, rfl, h1, r1⟩ := trodAll_cons r0
  obtain ⟨rfl, rfl, rfl⟩ := trodAll_nil r1
  obtain rfl : args = #[v0, v1] := by cases args; simp_all
  obtain ⟨rfl, rfl⟩ := trodVars_none hV
  have k0 := h0
  have lt0 : ∀ x ∈ p0, x.block < W.heap.size := by obtain ⟨m, hm⟩ := k0; exact DataW.trod_lt m _ _ _ hm
  obtain ⟨fuel0, hf0⟩ := h0
  obtain ⟨x0, K0, B0⟩ := opens58.out enc W 0 _ true fuel0 _ _ hf0
  obtain ⟨a0, len0, cap0, rfl⟩ := okWide_slice Try.underlying58 (hval 0 58 v0 rfl rfl)
  obtain ⟨A0, c0, e0, hc0, hr0⟩ := K0
  simp only [Value.cells, List.cons.injEq, Value.slice.injEq, and_true] at e0
  obtain ⟨rfl, rfl, rfl⟩ := e0
  obtain ⟨a1, rfl, rfl, rfl, w1⟩ := open_int Try.underlying3 (hval 1 3 v1 rfl rfl) h1
  clear hA0 hval0 hsz0
  obtain ⟨k, hp⟩ := PureIntervalTurned.IntervalTurned x0 a1 B0 w1
  refine (timesynclaw23_IntervalTurned.calls k _ _ x0 a1 true W hr0 hc0 hp).mono fun e W' ⟨he, bel0⟩ => ?_
  have bel := bel0
  subst he
  exact ⟨_, rfl, _, _, _, [], _, [], hW', trodAll_mk1 (shut_bool Try.underlying4 _), (trodAll_cons_mk (Below.trod laidOut (by kernel_rfl) (of_decide_eq_true (by kernel_rfl)) k0 bel lt0) (trodAll_cons_mk (shut_int Try.underlying3 w1) trodAll_mk0)), rfl, bel.frame _, fun h => by cases h⟩
theorem over : Rows.intervalTurnedRow.holds Try.pinned (OpenSpec.ofChange Rows.intervalTurnedSpec) :=
  OpenClaim.holds_of_wide 11 Try.f11 rfl rfl rfl rfl rfl rfl rfl ⟨rfl, rfl, rfl, rfl, rfl⟩ rfl rfl rfl rfl rfl (by kernel_rfl) Try.func11 (by kernel_rfl)
    (of_decide_eq_true (by kernel_rfl)) (by unfold Func.isWrapper; first | (rw [if_pos (by decide +kernel)]; kernel_rfl) | (rw [if_neg (by decide +kernel)]; exact ⟨rfl, rfl⟩))
    (fun os started H enc _ => lifted os started H enc)
#print axioms over
end Go.Proofs.Ytlfilhplklifjaa.intervalTurned
namespace Go.Proofs.Ytlfilhplklifjaa
/-- The row of IntervalTurned. -/
theorem intervalTurned_holds : Rows.IntervalTurnedSaid := intervalTurned.over
end Go.Proofs.Ytlfilhplklifjaa
