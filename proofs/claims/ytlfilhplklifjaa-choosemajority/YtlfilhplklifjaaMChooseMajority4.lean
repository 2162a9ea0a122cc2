/- Ytlfilhplklifjaa: part 4 of 4 of the proof that the law ChooseMajority returns true for every input, its arguments reading as before. No condition. -/
import Derived.Test.YtlfilhplklifjaaMChooseMajority3
import Derived.Test.YtlfilhplklifjaaMChooseMajority2
import Derived.Test.YtlfilhplklifjaaMChooseMajority1
import Derived.Test.YtlfilhplklifjaaWMore
import Derived.Deep.Slices
import Derived.DataReads
import Derived.Test.YtlfilhplklifjaaRows
import Derived.WalkKit
import Derived.ProofKit
import Derived.OpenShut
import Derived.ShutString
import Derived.ChangeOld
import Derived.Below
import Derived.SizedLaws
import Derived.WideShapes
/- Positions by a test; how many intervals hold an instant; the reference's hull. -/
namespace Go.Proofs.Ytlfilhplklifjaa.PA
open Go.RowKit Go.Proofs.Ytlfilhplklifjaa.X Go.Proofs.YtlfilhplklifjaaW.PrintWords Go.Proofs.YtlfilhplklifjaaW.PrintLast

/-! ### Positions -/
def idxFrom (l : List S37) (p : S37 → Bool) : Nat → Nat → List Int
  | 0, _ => []
  | d + 1, i => if p (l.getD i z37) = true then (i : Int) :: idxFrom l p d (i + 1) else idxFrom l p d (i + 1)
def idx (l : List S37) (p : S37 → Bool) : List Int := idxFrom l p l.length 0
def pIn (lo hi : Int) (c : S37) : Bool := decide (lo ≤ c.f1) && decide (c.f1 ≤ hi)
def pOut (lo hi : Int) (c : S37) : Bool := !pIn lo hi c
def pMeet (lo hi : Int) (c : S37) : Bool := decide (c.f1 - c.f2 ≤ hi) && decide (lo ≤ c.f1 + c.f2)

theorem where48 (l : List S37) (hn : l.length ≤ 100) (lo hi : Int) : ∀ d i (acc : List Int), i + d = l.length → acc.length ≤ i → Ev (fun k => api_Cand_47_48.l0 k acc l l.length i lo hi) (acc ++ idxFrom l (pIn lo hi) d i) := by
  intro d
  induction d with
  | zero =>
    intro i acc hi ha
    refine Ev.step (fun k => by rw [api_Cand_47_48.l0]) ?_
    exact Ev.neg (by omega) (Ev.const (by simp [idxFrom]))
  | succ d ih =>
    intro i acc hi' ha
    refine Ev.step (fun k => by rw [api_Cand_47_48.l0]) ?_
    refine Ev.pos (by omega) (Ev.pos (by omega) (Ev.pos (by omega) ?_))
    simp only [rd37]
    have e : choose_Select_1.f (l.getD i z37).f0 (l.getD i z37).f1 (l.getD i z37).f2 (l.getD i z37).f3 (l.getD i z37).f4 lo hi = some (pIn lo hi (l.getD i z37)) := by
      unfold choose_Select_1.f pIn
      by_cases h : (l.getD i z37).f1 ≥ lo
      · rw [if_pos h, decide_eq_true h, Bool.true_and]
      · rw [if_neg h, decide_eq_false h, Bool.false_and]
    rw [e]
    refine Ev.some_bind ?_
    unfold idxFrom
    rw [wrap_nat (by omega)]
    by_cases h : pIn lo hi (l.getD i z37) = true
    · rw [if_pos h]
      refine Ev.pos h (Ev.pos (by omega) ?_)
      have := ih (i + 1) (acc ++ [(i : Int)]) (by omega) (by simp; omega)
      simpa using this
    · rw [if_neg h]
      exact Ev.neg h (ih (i + 1) acc (by omega) (by omega))
theorem impl_in (l : List S37) (hn : l.length ≤ 100) (lo hi : Int) : Ev (fun k => api_Cand_47_48.f k l lo hi) (idx l (pIn lo hi)) := where48 l hn lo hi l.length 0 [] (by omega) (by simp)

theorem where51 (l : List S37) (hn : l.length ≤ 100) (lo hi : Int) : ∀ d i (acc : List Int), i + d = l.length → acc.length ≤ i → Ev (fun k => api_Cand_47_51.l0 k acc l l.length i lo hi) (acc ++ idxFrom l (pOut lo hi) d i) := by
  intro d
  induction d with
  | zero =>
    intro i acc hi ha
    refine Ev.step (fun k => by rw [api_Cand_47_51.l0]) ?_
    exact Ev.neg (by omega) (Ev.const (by simp [idxFrom]))
  | succ d ih =>
    intro i acc hi' ha
    refine Ev.step (fun k => by rw [api_Cand_47_51.l0]) ?_
    refine Ev.pos (by omega) (Ev.pos (by omega) (Ev.pos (by omega) ?_))
    simp only [rd37]
    have e : choose_Falsetickers_1.f (l.getD i z37).f0 (l.getD i z37).f1 (l.getD i z37).f2 (l.getD i z37).f3 (l.getD i z37).f4 lo hi = some (pOut lo hi (l.getD i z37)) := by
      unfold choose_Falsetickers_1.f pOut pIn
      by_cases h : (l.getD i z37).f1 < lo
      · rw [if_pos h, decide_eq_false (by omega : ¬ lo ≤ (l.getD i z37).f1)]; rfl
      · rw [if_neg h, decide_eq_true (by omega : lo ≤ (l.getD i z37).f1)]
        by_cases h2 : (l.getD i z37).f1 ≤ hi
        · rw [decide_eq_true h2, decide_eq_false (by omega : ¬ (l.getD i z37).f1 > hi)]; rfl
        · rw [decide_eq_false h2, decide_eq_true (by omega : (l.getD i z37).f1 > hi)]; rfl
    rw [e]
    refine Ev.some_bind ?_
    unfold idxFrom
    rw [wrap_nat (by omega)]
    by_cases h : pOut lo hi (l.getD i z37) = true
    · rw [if_pos h]
      refine Ev.pos h (Ev.pos (by omega) ?_)
      have := ih (i + 1) (acc ++ [(i : Int)]) (by omega) (by simp; omega)
      simpa using this
    · rw [if_neg h]
      exact Ev.neg h (ih (i + 1) acc (by omega) (by omega))
theorem impl_out (l : List S37) (hn : l.length ≤ 100) (lo hi : Int) : Ev (fun k => api_Cand_47_51.f k l lo hi) (idx l (pOut lo hi)) := where51 l hn lo hi l.length 0 [] (by omega) (by simp)

/-- The elements of a list of candidates, by index, are within the limits. -/
theorem okAt {l : List S37} (h : ∀ c ∈ l, OkC c) {i : Nat} (hi : i < l.length) : OkC (l.getD i z37) := by
  have : l.getD i z37 ∈ l := by simp [List.getD, hi]
  exact h _ this

theorem where52 (l : List S37) (hn : l.length ≤ 100) (hok : ∀ c ∈ l, OkC c) (lo hi : Int) : ∀ d i (acc : List Int), i + d = l.length → acc.length ≤ i → Ev (fun k => api_Cand_47_52.l0 k acc l l.length i lo hi) (acc ++ idxFrom l (pMeet lo hi) d i) := by
  intro d
  induction d with
  | zero =>
    intro i acc hi ha
    refine Ev.step (fun k => by rw [api_Cand_47_52.l0]) ?_
    exact Ev.neg (by omega) (Ev.const (by simp [idxFrom]))
  | succ d ih =>
    intro i acc hi' ha
    have ho := okAt hok (show i < l.length by omega)
    refine Ev.step (fun k => by rw [api_Cand_47_52.l0]) ?_
    refine Ev.pos (by omega) (Ev.pos (by omega) (Ev.pos (by omega) ?_))
    simp only [rd37]
    have e : choose_Majority_1.f (l.getD i z37).f0 (l.getD i z37).f1 (l.getD i z37).f2 (l.getD i z37).f3 (l.getD i z37).f4 lo hi = some (pMeet lo hi (l.getD i z37)) := by
      obtain ⟨_, _, h3, h4, h5, h6, _⟩ := ho
      unfold choose_Majority_1.f choose_span.f pMeet
      rw [wrap_id (by omega) (by omega), wrap_id (by omega) (by omega)]
      simp only [Option.bind_some]
      by_cases h : (l.getD i z37).f1 - (l.getD i z37).f2 ≤ hi
      · rw [if_pos h, decide_eq_true h, Bool.true_and]
      · rw [if_neg h, decide_eq_false h, Bool.false_and]
    rw [e]
    refine Ev.some_bind ?_
    unfold idxFrom
    rw [wrap_nat (by omega)]
    by_cases h : pMeet lo hi (l.getD i z37) = true
    · rw [if_pos h]
      refine Ev.pos h (Ev.pos (by omega) ?_)
      have := ih (i + 1) (acc ++ [(i : Int)]) (by omega) (by simp; omega)
      simpa using this
    · rw [if_neg h]
      exact Ev.neg h (ih (i + 1) acc (by omega) (by omega))
theorem impl_meet (l : List S37) (hn : l.length ≤ 100) (hok : ∀ c ∈ l, OkC c) (lo hi : Int) : Ev (fun k => api_Cand_47_52.f k l lo hi) (idx l (pMeet lo hi)) := where52 l hn hok lo hi l.length 0 [] (by omega) (by simp)

theorem ref_within (n lo hi : Int) : timesyncref24_within.f n lo hi = some (decide (lo ≤ n) && decide (n ≤ hi)) := by
  unfold timesyncref24_within.f
  by_cases h : lo ≤ n
  · rw [if_pos h, decide_eq_true h, Bool.true_and]
  · rw [if_neg h, decide_eq_false h, Bool.false_and]

theorem inside_from (l : List S37) (hn : l.length ≤ 100) (lo hi : Int) (is : Bool) : ∀ d i (acc : List Int), i + d = l.length → acc.length ≤ i → Ev (fun k => timesyncref24_inside.l0 k l is acc i lo hi) (acc ++ idxFrom l (fun c => pIn lo hi c == is) d i) := by
  intro d
  induction d with
  | zero =>
    intro i acc hi ha
    refine Ev.step (fun k => by rw [timesyncref24_inside.l0]) ?_
    exact Ev.neg (by omega) (Ev.const (by simp [idxFrom]))
  | succ d ih =>
    intro i acc hi' ha
    refine Ev.step (fun k => by rw [timesyncref24_inside.l0]) ?_
    refine Ev.pos (by omega) (Ev.pos (by omega) ?_)
    rw [rd37, ref_within]
    refine Ev.some_bind ?_
    unfold idxFrom
    rw [wrap_nat (by omega)]
    by_cases h : (pIn lo hi (l.getD i z37) == is) = true
    · rw [if_pos h]
      refine Ev.pos h (Ev.pos (by omega) ?_)
      have := ih (i + 1) (acc ++ [(i : Int)]) (by omega) (by simp; omega)
      simpa using this
    · rw [if_neg h]
      exact Ev.neg h (ih (i + 1) acc (by omega) (by omega))
theorem ref_in (l : List S37) (hn : l.length ≤ 100) (lo hi : Int) : Ev (fun k => timesyncref24_inside.f k l lo hi true) (idx l (pIn lo hi)) := by
  have := inside_from l hn lo hi true l.length 0 [] (by omega) (by simp)
  have e : (fun c => pIn lo hi c == true) = pIn lo hi := by funext c; cases pIn lo hi c <;> rfl
  rw [e] at this
  exact this
theorem ref_out (l : List S37) (hn : l.length ≤ 100) (lo hi : Int) : Ev (fun k => timesyncref24_inside.f k l lo hi false) (idx l (pOut lo hi)) := by
  have := inside_from l hn lo hi false l.length 0 [] (by omega) (by simp)
  have e : (fun c => pIn lo hi c == false) = pOut lo hi := by funext c; unfold pOut; cases pIn lo hi c <;> rfl
  rw [e] at this
  exact this

/-! ### Counts -/
def holds (s : S29) (t : Int) : Bool := decide (s.f0 ≤ t) && decide (t ≤ s.f1)
def cnt (v : List S29) (t : Int) : Nat := v.countP (fun s => holds s t)
def span (c : S37) : S29 := ⟨c.f1 - c.f2, c.f1 + c.f2⟩
def spans (l : List S37) : List S29 := l.map span
/-- What a hull is: the first and the last instant with at least 'need' intervals; none if there is no such instant. -/
def HullSpec (v : List S29) (need : Int) (lo hi : Int) (ok : Bool) : Prop :=
  (ok = true ∧ 1 ≤ need ∧ need ≤ cnt v lo ∧ need ≤ cnt v hi ∧ ∀ t, need ≤ cnt v t → lo ≤ t ∧ t ≤ hi) ∨ (ok = false ∧ lo = 0 ∧ hi = 0 ∧ (need < 1 ∨ ∀ t, (cnt v t : Int) < need))
theorem HullSpec.uniq {v : List S29} {need a b a' b' : Int} {o o' : Bool} (h : HullSpec v need a b o) (h' : HullSpec v need a' b' o') : a = a' ∧ b = b' ∧ o = o' := by
  rcases h with ⟨rfl, h1, h2, h3, h4⟩ | ⟨rfl, rfl, rfl, h1⟩ <;> rcases h' with ⟨rfl, g1, g2, g3, g4⟩ | ⟨rfl, rfl, rfl, g1⟩
  · have x1 := h4 _ g2; have x2 := h4 _ g3; have x3 := g4 _ h2; have x4 := g4 _ h3
    exact ⟨by omega, by omega, rfl⟩
  · rcases g1 with g1 | g1
    · omega
    · have := g1 a; omega
  · rcases h1 with h1 | h1
    · omega
    · have := h1 a'; omega
  · exact ⟨rfl, rfl, rfl⟩

theorem cnt_mono {v : List S29} {t u : Int} (h : ∀ s ∈ v, holds s t = true → holds s u = true) : cnt v t ≤ cnt v u := List.countP_mono_left h
theorem max_f0 : ∀ (v : List S29), v ≠ [] → ∃ s ∈ v, ∀ x ∈ v, x.f0 ≤ s.f0
  | [], h => absurd rfl h
  | [a], _ => ⟨a, by simp, by simp⟩
  | a :: b :: r, _ => by
    obtain ⟨s, hs, hm⟩ := max_f0 (b :: r) (by simp)
    by_cases h : s.f0 ≤ a.f0
    · exact ⟨a, by simp, fun x hx => by
        rcases List.mem_cons.1 hx with rfl | hx
        · exact Int.le_refl _
        · exact Int.le_trans (hm x hx) h⟩
    · exact ⟨s, List.mem_cons_of_mem _ hs, fun x hx => by
        rcases List.mem_cons.1 hx with rfl | hx
        · omega
        · exact hm x hx⟩
theorem min_f1 : ∀ (v : List S29), v ≠ [] → ∃ s ∈ v, ∀ x ∈ v, s.f1 ≤ x.f1
  | [], h => absurd rfl h
  | [a], _ => ⟨a, by simp, by simp⟩
  | a :: b :: r, _ => by
    obtain ⟨s, hs, hm⟩ := min_f1 (b :: r) (by simp)
    by_cases h : a.f1 ≤ s.f1
    · exact ⟨a, by simp, fun x hx => by
        rcases List.mem_cons.1 hx with rfl | hx
        · exact Int.le_refl _
        · exact Int.le_trans h (hm x hx)⟩
    · exact ⟨s, List.mem_cons_of_mem _ hs, fun x hx => by
        rcases List.mem_cons.1 hx with rfl | hx
        · omega
        · exact hm x hx⟩
theorem holds_iff {s : S29} {t : Int} : holds s t = true ↔ s.f0 ≤ t ∧ t ≤ s.f1 := by simp [holds]
/-- The last begin at or ahead of an instant has at least its count; the first end behind it, too. -/
theorem cnt_begin {v : List S29} {t : Int} (h : 1 ≤ cnt v t) : ∃ s ∈ v, s.f0 ≤ t ∧ cnt v t ≤ cnt v s.f0 := by
  have hne : v.filter (fun s => holds s t) ≠ [] := by
    intro e
    rw [cnt, List.countP_eq_length_filter, e] at h
    simp at h
  obtain ⟨s, hs, hm⟩ := max_f0 _ hne
  rw [List.mem_filter] at hs
  refine ⟨s, hs.1, (holds_iff.1 hs.2).1, cnt_mono fun x hx hx2 => ?_⟩
  have := hm x (List.mem_filter.2 ⟨hx, hx2⟩)
  have h1 := holds_iff.1 hx2
  have h2 := holds_iff.1 hs.2
  exact holds_iff.2 ⟨this, by omega⟩
theorem cnt_end {v : List S29} {t : Int} (h : 1 ≤ cnt v t) : ∃ s ∈ v, t ≤ s.f1 ∧ cnt v t ≤ cnt v s.f1 := by
  have hne : v.filter (fun s => holds s t) ≠ [] := by
    intro e
    rw [cnt, List.countP_eq_length_filter, e] at h
    simp at h
  obtain ⟨s, hs, hm⟩ := min_f1 _ hne
  rw [List.mem_filter] at hs
  refine ⟨s, hs.1, (holds_iff.1 hs.2).2, cnt_mono fun x hx hx2 => ?_⟩
  have := hm x (List.mem_filter.2 ⟨hx, hx2⟩)
  have h1 := holds_iff.1 hx2
  have h2 := holds_iff.1 hs.2
  exact holds_iff.2 ⟨by omega, this⟩

theorem count_from (l : List S37) (hn : l.length ≤ 100) (hok : ∀ c ∈ l, OkC c) (t : Int) : ∀ d i (n : Nat), i + d = l.length → n ≤ i → Ev (fun k => timesyncref24_count.l0 k l t n i) ((n + cnt (spans (l.drop i)) t : Nat) : Int) := by
  intro d
  induction d with
  | zero =>
    intro i n hi ha
    refine Ev.step (fun k => by rw [timesyncref24_count.l0]) ?_
    refine Ev.neg (by omega) (Ev.const ?_)
    rw [List.drop_eq_nil_of_le (by omega)]
    simp [spans, cnt]
  | succ d ih =>
    intro i n hi ha
    have hlt : i < l.length := by omega
    have ho := okAt hok hlt
    have hg : l.getD i z37 = l[i] := by simp [List.getD, hlt]
    refine Ev.step (fun k => by rw [timesyncref24_count.l0]) ?_
    refine Ev.pos (by omega) (Ev.pos (by omega) ?_)
    simp only [rd37]
    obtain ⟨_, _, h3, h4, h5, h6, _⟩ := ho
    rw [wrap_id (by omega) (by omega), wrap_id (by omega) (by omega), ref_within]
    refine Ev.some_bind ?_
    have e : spans (l.drop i) = span l[i] :: spans (l.drop (i + 1)) := by rw [List.drop_eq_getElem_cons hlt]; rfl
    rw [e, hg]
    have ew : wrap64 ((i : Int) + 1) = ((i + 1 : Nat) : Int) := wrap_nat (by omega)
    rw [ew]
    have eh : (decide (l[i].f1 - l[i].f2 ≤ t) && decide (t ≤ l[i].f1 + l[i].f2)) = holds (span l[i]) t := rfl
    rw [eh]
    by_cases h : holds (span l[i]) t = true
    · refine Ev.pos h ?_
      have := ih (i + 1) (n + 1) (by omega) (by omega)
      rw [wrap_nat (by omega)]
      have ec : n + cnt (span l[i] :: spans (l.drop (i + 1))) t = n + 1 + cnt (spans (l.drop (i + 1))) t := by
        unfold cnt; rw [List.countP_cons, if_pos h]; omega
      rw [ec]
      exact this
    · refine Ev.neg h ?_
      have ec : cnt (span l[i] :: spans (l.drop (i + 1))) t = cnt (spans (l.drop (i + 1))) t := by
        unfold cnt; rw [List.countP_cons, if_neg h]; rfl
      rw [ec]
      exact ih (i + 1) n (by omega) (by omega)
theorem ref_count (l : List S37) (hn : l.length ≤ 100) (hok : ∀ c ∈ l, OkC c) (t : Int) : Ev (fun k => timesyncref24_count.f k l t) (cnt (spans l) t : Int) := by
  have := count_from l hn hok t l.length 0 0 (by omega) (by omega)
  simpa [timesyncref24_count.f] using this

theorem spanAt {l : List S37} {i : Nat} (hi : i < l.length) : span (l.getD i z37) ∈ spans l := by
  have : l.getD i z37 ∈ l := by simp [List.getD, hi]
  exact List.mem_map.2 ⟨_, this, rfl⟩
theorem span_at {l : List S37} {s : S29} (h : s ∈ spans l) : ∃ i, i < l.length ∧ span (l.getD i z37) = s := by
  obtain ⟨c, hc, rfl⟩ := List.mem_map.1 h
  obtain ⟨i, hi, rfl⟩ := List.getElem_of_mem hc
  exact ⟨i, hi, by simp [List.getD, hi]⟩

theorem hull_hi (l : List S37) (hn : l.length ≤ 100) (hok : ∀ c ∈ l, OkC c) (need : Int) (h1 : 1 ≤ need) (lo : Int) (hlo : need ≤ cnt (spans l) lo) (hmin : ∀ t, need ≤ cnt (spans l) t → lo ≤ t) :
    ∀ d i hi, i + d = l.length → need ≤ cnt (spans l) hi → (∀ j, j < i → need ≤ cnt (spans l) (span (l.getD j z37)).f1 → (span (l.getD j z37)).f1 ≤ hi) →
      ∃ hi', Ev (fun k => timesyncref24_hull.l1 k l need i lo hi) (lo, hi', true) ∧ HullSpec (spans l) need lo hi' true := by
  intro d
  induction d with
  | zero =>
    intro i hi hi' hc hm
    refine ⟨hi, ?_, .inl ⟨rfl, h1, hlo, hc, fun t ht => ⟨hmin t ht, ?_⟩⟩⟩
    · refine Ev.step (fun k => by rw [timesyncref24_hull.l1]) ?_
      exact Ev.neg (by omega) (Ev.const rfl)
    · obtain ⟨s, hs, h2, h3⟩ := cnt_end (v := spans l) (t := t) (by omega)
      obtain ⟨j, hj, rfl⟩ := span_at hs
      have := hm j (by omega) (by omega)
      omega
  | succ d ih =>
    intro i hi hi' hc hm
    have hlt : i < l.length := by omega
    obtain ⟨_, _, g3, g4, g5, g6, _⟩ := okAt hok hlt
    have rc := ref_count l hn hok ((l.getD i z37).f1 + (l.getD i z37).f2)
    have key : ∃ hi2, need ≤ cnt (spans l) hi2 ∧ (∀ j, j < i + 1 → need ≤ cnt (spans l) (span (l.getD j z37)).f1 → (span (l.getD j z37)).f1 ≤ hi2) ∧
        ∀ r, Ev (fun k => timesyncref24_hull.l1 k l need ((i + 1 : Nat) : Int) lo hi2) r → Ev (fun k => timesyncref24_hull.l1 k l need i lo hi) r := by
      have st : ∀ r, Ev (fun k => (timesyncref24_count.f k l ((l.getD i z37).f1 + (l.getD i z37).f2)).bind fun t267 => (if t267 ≥ need then (if (l.getD i z37).f1 + (l.getD i z37).f2 > hi then (timesyncref24_hull.l1 k l need ((i + 1 : Nat) : Int) lo ((l.getD i z37).f1 + (l.getD i z37).f2)) else (timesyncref24_hull.l1 k l need ((i + 1 : Nat) : Int) lo hi)) else (timesyncref24_hull.l1 k l need ((i + 1 : Nat) : Int) lo hi))) r → Ev (fun k => timesyncref24_hull.l1 k l need i lo hi) r := by
        intro r hr
        refine Ev.step (fun k => by rw [timesyncref24_hull.l1]) ?_
        refine Ev.pos (by omega) (Ev.pos (by omega) ?_)
        simp only [rd37]
        rw [wrap_id (x := (l.getD i z37).f1 + (l.getD i z37).f2) (by omega) (by omega), wrap_nat (by omega)]
        exact hr
      by_cases hcn : (cnt (spans l) ((l.getD i z37).f1 + (l.getD i z37).f2) : Int) ≥ need
      · by_cases hgt : (l.getD i z37).f1 + (l.getD i z37).f2 > hi
        · refine ⟨(l.getD i z37).f1 + (l.getD i z37).f2, hcn, fun j hj hjn => ?_, fun r hr => st r (Ev.bind' _ rc (Ev.pos hcn (Ev.pos hgt hr)))⟩
          rcases Nat.lt_or_ge j i with hji | hji
          · have := hm j hji hjn; omega
          · rw [show j = i by omega]; exact Int.le_refl _
        · refine ⟨hi, hc, fun j hj hjn => ?_, fun r hr => st r (Ev.bind' _ rc (Ev.pos hcn (Ev.neg hgt hr)))⟩
          rcases Nat.lt_or_ge j i with hji | hji
          · exact hm j hji hjn
          · rw [show j = i by omega]; show (l.getD i z37).f1 + (l.getD i z37).f2 ≤ hi; omega
      · refine ⟨hi, hc, fun j hj hjn => ?_, fun r hr => st r (Ev.bind' _ rc (Ev.neg hcn hr))⟩
        rcases Nat.lt_or_ge j i with hji | hji
        · exact hm j hji hjn
        · have e : j = i := by omega
          subst e
          exact absurd hjn hcn
    obtain ⟨hi2, c1, c2, c3⟩ := key
    obtain ⟨hi3, e1, e2⟩ := ih (i + 1) hi2 (by omega) c1 c2
    exact ⟨hi3, c3 _ e1, e2⟩

theorem hull_lo (l : List S37) (hn : l.length ≤ 100) (hok : ∀ c ∈ l, OkC c) (need : Int) (h1 : 1 ≤ need) :
    ∀ d i (ok : Bool) lo, i + d = l.length → (ok = false ∧ lo = 0 ∧ (∀ j, j < i → (cnt (spans l) (span (l.getD j z37)).f0 : Int) < need) ∨ ok = true ∧ need ≤ cnt (spans l) lo ∧ ∀ j, j < i → need ≤ cnt (spans l) (span (l.getD j z37)).f0 → lo ≤ (span (l.getD j z37)).f0) →
      ∃ lo' hi' ok', Ev (fun k => timesyncref24_hull.l0 k l need ok i lo 0) (lo', hi', ok') ∧ HullSpec (spans l) need lo' hi' ok' := by
  intro d
  induction d with
  | zero =>
    intro i ok lo hi' hinv
    rcases hinv with ⟨rfl, rfl, hm⟩ | ⟨rfl, hc, hm⟩
    · refine ⟨0, 0, false, ?_, .inr ⟨rfl, rfl, rfl, .inr fun t => ?_⟩⟩
      · refine Ev.step (fun k => by rw [timesyncref24_hull.l0]) ?_
        exact Ev.neg (by omega) (Ev.neg (by simp) (Ev.const rfl))
      · rcases Nat.eq_zero_or_pos (cnt (spans l) t) with h0 | h0
        · omega
        · obtain ⟨s, hs, h2, h3⟩ := cnt_begin h0
          obtain ⟨j, hj, rfl⟩ := span_at hs
          have := hm j (by omega)
          omega
    · have hmin : ∀ t, need ≤ cnt (spans l) t → lo ≤ t := fun t ht => by
        obtain ⟨s, hs, h2, h3⟩ := cnt_begin (v := spans l) (t := t) (by omega)
        obtain ⟨j, hj, rfl⟩ := span_at hs
        have := hm j (by omega) (by omega)
        omega
      obtain ⟨hi2, e1, e2⟩ := hull_hi l hn hok need h1 lo hc hmin l.length 0 lo (by omega) hc (fun j hj => by omega)
      refine ⟨lo, hi2, true, ?_, e2⟩
      refine Ev.step (fun k => by rw [timesyncref24_hull.l0]) ?_
      exact Ev.neg (by omega) (Ev.pos rfl e1)
  | succ d ih =>
    intro i ok lo hi' hinv
    have hlt : i < l.length := by omega
    obtain ⟨_, _, g3, g4, g5, g6, _⟩ := okAt hok hlt
    have rc := ref_count l hn hok ((l.getD i z37).f1 - (l.getD i z37).f2)
    have st : ∀ r, Ev (fun k => (timesyncref24_count.f k l ((l.getD i z37).f1 - (l.getD i z37).f2)).bind fun t264 => (if t264 ≥ need then (if ok = true then (if ((l.getD i z37).f1 - (l.getD i z37).f2) < lo then (timesyncref24_hull.l0 k l need true ((i + 1 : Nat) : Int) ((l.getD i z37).f1 - (l.getD i z37).f2) 0) else (timesyncref24_hull.l0 k l need ok ((i + 1 : Nat) : Int) lo 0)) else (timesyncref24_hull.l0 k l need true ((i + 1 : Nat) : Int) ((l.getD i z37).f1 - (l.getD i z37).f2) 0)) else (timesyncref24_hull.l0 k l need ok ((i + 1 : Nat) : Int) lo 0))) r → Ev (fun k => timesyncref24_hull.l0 k l need ok i lo 0) r := by
      intro r hr
      refine Ev.step (fun k => by rw [timesyncref24_hull.l0]) ?_
      refine Ev.pos (by omega) (Ev.pos (by omega) ?_)
      simp only [rd37]
      rw [wrap_id (x := (l.getD i z37).f1 - (l.getD i z37).f2) (by omega) (by omega), wrap_nat (by omega)]
      exact hr
    by_cases hcn : (cnt (spans l) ((l.getD i z37).f1 - (l.getD i z37).f2) : Int) ≥ need
    · rcases hinv with ⟨rfl, rfl, hm⟩ | ⟨rfl, hc, hm⟩
      · obtain ⟨a, b, o, e1, e2⟩ := ih (i + 1) true ((l.getD i z37).f1 - (l.getD i z37).f2) (by omega) (.inr ⟨rfl, hcn, fun j hj hjn => by
          rcases Nat.lt_or_ge j i with hji | hji
          · have := hm j hji; omega
          · rw [show j = i by omega]; exact Int.le_refl _⟩)
        exact ⟨a, b, o, st _ (Ev.bind' _ rc (Ev.pos hcn (Ev.neg (by simp) e1))), e2⟩
      · by_cases hltlo : (l.getD i z37).f1 - (l.getD i z37).f2 < lo
        · obtain ⟨a, b, o, e1, e2⟩ := ih (i + 1) true ((l.getD i z37).f1 - (l.getD i z37).f2) (by omega) (.inr ⟨rfl, hcn, fun j hj hjn => by
            rcases Nat.lt_or_ge j i with hji | hji
            · have := hm j hji hjn; omega
            · rw [show j = i by omega]; exact Int.le_refl _⟩)
          exact ⟨a, b, o, st _ (Ev.bind' _ rc (Ev.pos hcn (Ev.pos rfl (Ev.pos hltlo e1)))), e2⟩
        · obtain ⟨a, b, o, e1, e2⟩ := ih (i + 1) true lo (by omega) (.inr ⟨rfl, hc, fun j hj hjn => by
            rcases Nat.lt_or_ge j i with hji | hji
            · exact hm j hji hjn
            · rw [show j = i by omega]; show lo ≤ (l.getD i z37).f1 - (l.getD i z37).f2; omega⟩)
          exact ⟨a, b, o, st _ (Ev.bind' _ rc (Ev.pos hcn (Ev.pos rfl (Ev.neg hltlo e1)))), e2⟩
    · have inv2 : (ok = false ∧ lo = 0 ∧ (∀ j, j < i + 1 → (cnt (spans l) (span (l.getD j z37)).f0 : Int) < need) ∨ ok = true ∧ need ≤ cnt (spans l) lo ∧ ∀ j, j < i + 1 → need ≤ cnt (spans l) (span (l.getD j z37)).f0 → lo ≤ (span (l.getD j z37)).f0) := by
        rcases hinv with ⟨h2, h3, hm⟩ | ⟨h2, hc, hm⟩
        · refine .inl ⟨h2, h3, fun j hj => ?_⟩
          rcases Nat.lt_or_ge j i with hji | hji
          · exact hm j hji
          · have e : j = i := by omega
            subst e
            exact Int.not_le.1 hcn
        · refine .inr ⟨h2, hc, fun j hj hjn => ?_⟩
          rcases Nat.lt_or_ge j i with hji | hji
          · exact hm j hji hjn
          · have e : j = i := by omega
            subst e
            exact absurd hjn hcn
      obtain ⟨a, b, o, e1, e2⟩ := ih (i + 1) ok lo (by omega) inv2
      exact ⟨a, b, o, st _ (Ev.bind' _ rc (Ev.neg hcn e1)), e2⟩
theorem ref_hull (l : List S37) (hn : l.length ≤ 100) (hok : ∀ c ∈ l, OkC c) (need : Int) (h1 : 1 ≤ need) :
    ∃ lo hi ok, Ev (fun k => timesyncref24_hull.f k l need) (lo, hi, ok) ∧ HullSpec (spans l) need lo hi ok :=
  hull_lo l hn hok need h1 l.length 0 false 0 (by omega) (.inl ⟨rfl, rfl, fun j hj => by omega⟩)
end Go.Proofs.Ytlfilhplklifjaa.PA

/- The program's runs and its hull. -/
namespace Go.Proofs.Ytlfilhplklifjaa.PA
open Go.RowKit Go.Proofs.Ytlfilhplklifjaa.X Go.Proofs.YtlfilhplklifjaaW.PrintWords Go.Proofs.YtlfilhplklifjaaW.PrintLast

/-! ### Valid intervals -/
def OkI (s : S29) : Prop := s.f0 ≤ s.f1 ∧ -8000000000000000000 ≤ s.f0 ∧ s.f1 ≤ 8000000000000000000
instance (s : S29) : Decidable (OkI s) := by unfold OkI; infer_instance
def valid (v : List S29) : List S29 := if (v.length : Int) > 48 then [] else v.filter (fun s => decide (OkI s))
theorem drift_check (s : S29) : drift_Check.f s.f0 s.f1 = some (if OkI s then 0 else 3) := by
  unfold drift_Check.f
  have nk : ∀ {p : Prop}, p → (OkI s → ¬ p) → ¬ OkI s := fun h h2 h3 => h2 h3 h
  by_cases h1 : s.f0 > s.f1
  · rw [if_pos h1, if_neg (nk h1 fun h => by unfold OkI at h; omega)]
  · rw [if_neg h1]
    by_cases h2 : s.f0 < -8000000000000000000
    · rw [if_pos h2, if_neg (nk h2 fun h => by unfold OkI at h; omega)]
    · rw [if_neg h2]
      by_cases h3 : s.f1 > 8000000000000000000
      · rw [if_pos h3, if_neg (nk h3 fun h => by unfold OkI at h; omega)]
      · rw [if_neg h3, if_pos (show OkI s by unfold OkI; omega)]
theorem valid_from (v : List S29) (hn : v.length ≤ 48) : ∀ d i (acc : List S29), i + d = v.length → acc.length ≤ i → Ev (fun k => interval_valid.l0 k acc v v.length i) (acc ++ (v.drop i).filter (fun s => decide (OkI s))) := by
  intro d
  induction d with
  | zero =>
    intro i acc hi ha
    refine Ev.step (fun k => by rw [interval_valid.l0]) ?_
    refine Ev.neg (by omega) (Ev.const ?_)
    rw [List.drop_eq_nil_of_le (by omega)]
    simp
  | succ d ih =>
    intro i acc hi ha
    have hlt : i < v.length := by omega
    have hg : v.getD i z29 = v[i] := by simp [List.getD, hlt]
    refine Ev.step (fun k => by rw [interval_valid.l0]) ?_
    refine Ev.pos (by omega) (Ev.pos (by omega) (Ev.pos (by omega) ?_))
    simp only [rd29]
    rw [drift_check, hg]
    refine Ev.some_bind ?_
    have ew : wrap64 ((i : Int) + 1) = ((i + 1 : Nat) : Int) := wrap_nat (by omega)
    rw [ew, List.drop_eq_getElem_cons hlt]
    by_cases h : OkI v[i]
    · rw [if_pos h, List.filter_cons_of_pos (by simpa using h)]
      refine Ev.pos rfl (Ev.pos (by omega) ?_)
      have := ih (i + 1) (acc ++ [v[i]]) (by omega) (by simp; omega)
      simpa using this
    · rw [if_neg h, List.filter_cons_of_neg (by simpa using h)]
      exact Ev.neg (by omega) (ih (i + 1) acc (by omega) (by omega))
theorem impl_valid (v : List S29) : Ev (fun k => interval_valid.f k v) (valid v) := by
  unfold interval_valid.f valid
  by_cases h : (v.length : Int) > 48
  · rw [if_pos h]; exact Ev.pos h (Ev.const rfl)
  · rw [if_neg h]
    refine Ev.neg h ?_
    have := valid_from v (by omega) v.length 0 [] (by omega) (by simp)
    simpa using this
theorem valid_len (v : List S29) : (valid v).length ≤ 48 := by
  unfold valid
  split
  · simp
  · exact Nat.le_trans (List.length_filter_le _ _) (by omega)
theorem valid_ok {v : List S29} {s : S29} (h : s ∈ valid v) : OkI s := by
  unfold valid at h
  split at h
  · simp at h
  · simpa using (List.mem_filter.1 h).2

/-! ### Changes -/
def changes (v : List S29) : List S110 := v.flatMap (fun s => [⟨s.f0, 1⟩, ⟨s.f1 + 1, -1⟩])
theorem changes_len (v : List S29) : (changes v).length = 2 * v.length := by
  unfold changes
  induction v with
  | nil => rfl
  | cons a r ih => simp only [List.flatMap_cons, List.length_append, List.length_cons, List.length_nil, ih]; omega
/-- What the changes up to an instant make together. -/
def sumLe (cs : List S110) (t : Int) : Int := (cs.map (fun x => if x.f0 ≤ t then x.f1 else 0)).sum
def total (cs : List S110) : Int := (cs.map (fun x => x.f1)).sum
theorem sumLe_changes (v : List S29) (h : ∀ s ∈ v, s.f0 ≤ s.f1) (t : Int) : sumLe (changes v) t = cnt v t := by
  induction v with
  | nil => rfl
  | cons a r ih =>
    have ih := ih (fun s hs => h s (List.mem_cons_of_mem _ hs))
    have ha := h a (by simp)
    have e1 : sumLe (changes (a :: r)) t = (if a.f0 ≤ t then 1 else 0) + ((if a.f1 + 1 ≤ t then -1 else 0) + sumLe (changes r) t) := by
      simp [sumLe, changes]
    have e2 : cnt (a :: r) t = cnt r t + (if holds a t = true then 1 else 0) := by simp [cnt, List.countP_cons]
    rw [e1, e2, ih]
    by_cases h1 : a.f0 ≤ t <;> by_cases h2 : a.f1 + 1 ≤ t
    · have : ¬ holds a t = true := fun hh => by have := holds_iff.1 hh; omega
      simp [h1, h2, this]; omega
    · have : holds a t = true := holds_iff.2 (by omega)
      simp [h1, h2, this]; omega
    · omega
    · have : ¬ holds a t = true := fun hh => by have := holds_iff.1 hh; omega
      simp [h1, h2, this]
theorem total_changes (v : List S29) : total (changes v) = 0 := by
  induction v with
  | nil => rfl
  | cons a r ih =>
    have : total (changes (a :: r)) = 1 + (-1 + total (changes r)) := by simp [total, changes]
    omega
theorem sum_perm {l l' : List Int} (h : l.Perm l') : l.sum = l'.sum := by
  induction h with
  | nil => rfl
  | cons x _ ih => simp [ih]
  | swap x y l => simp only [List.sum_cons]; omega
  | trans _ _ ih1 ih2 => exact ih1.trans ih2
theorem sumLe_perm {cs cs' : List S110} (h : cs.Perm cs') (t : Int) : sumLe cs t = sumLe cs' t := sum_perm (h.map _)
theorem total_perm {cs cs' : List S110} (h : cs.Perm cs') : total cs = total cs' := sum_perm (h.map _)

theorem runs_from (v : List S29) (hn : v.length ≤ 48) (hok : ∀ s ∈ v, OkI s) (r : List S88)
    (hr : Ev (fun k => (interval_change_82_83.f (changes v)).bind fun t => interval_runs.l1 k t [] 0 t ((changes v).length : Int) 0) r) :
    ∀ d i (acc : List S110), i + d = v.length → acc = changes (v.take i) → Ev (fun k => interval_runs.l0 k acc v v.length i) r := by
  intro d
  induction d with
  | zero =>
    intro i acc hi ha
    refine Ev.step (fun k => by rw [interval_runs.l0]) ?_
    refine Ev.neg (by omega) ?_
    rw [List.take_of_length_le (by omega)] at ha
    subst ha
    exact hr
  | succ d ih =>
    intro i acc hi ha
    have hlt : i < v.length := by omega
    have hg : v.getD i z29 = v[i] := by simp [List.getD, hlt]
    obtain ⟨_, h2, h3⟩ := hok v[i] (List.getElem_mem hlt)
    refine Ev.step (fun k => by rw [interval_runs.l0]) ?_
    refine Ev.pos (by omega) (Ev.pos (by omega) (Ev.pos (by omega) (Ev.some_bind ?_)))
    simp only [rd29]
    have ew : wrap64 ((i : Int) + 1) = ((i + 1 : Nat) : Int) := wrap_nat (by omega)
    have el : acc.length = 2 * i := by rw [ha, changes_len, List.length_take]; omega
    rw [hg, ew, wrap_id (x := v[i].f1 + 1) (by have := hok v[i] (List.getElem_mem hlt); unfold OkI at this; omega) (by omega)]
    refine Ev.pos (by simp [el]; omega) ?_
    refine ih (i + 1) _ (by omega) ?_
    rw [ha, List.take_succ_eq_append_getElem hlt]
    unfold changes
    rw [List.flatMap_append]
    rfl

/-! ### Runs -/
def runsOf : Int → List S110 → List S88
  | _, [] => []
  | _, [_] => []
  | c, x :: y :: rest => if y.f0 > x.f0 then ⟨x.f0, y.f0 - 1, c + x.f1⟩ :: runsOf (c + x.f1) (y :: rest) else runsOf (c + x.f1) (y :: rest)
theorem runsOf_len : ∀ (cs : List S110) (c : Int), (runsOf c cs).length ≤ cs.length
  | [], _ => by simp [runsOf]
  | [_], _ => by simp [runsOf]
  | x :: y :: rest, c => by
    have := runsOf_len (y :: rest) (c + x.f1)
    unfold runsOf
    split
    · simp only [List.length_cons] at this ⊢; omega
    · simp only [List.length_cons] at this ⊢; omega
/-- Small changes at small instants. -/
def Small (cs : List S110) : Prop := ∀ x ∈ cs, -1 ≤ x.f1 ∧ x.f1 ≤ 1 ∧ -8000000000000000000 ≤ x.f0 ∧ x.f0 ≤ 8000000000000000001
theorem runs_l1 (cs : List S110) (hn : cs.length ≤ 96) (hs : Small cs) : ∀ d i (acc : List S88) (c : Int), i + d = cs.length → acc.length ≤ i → -(i : Int) ≤ c → c ≤ i →
    Ev (fun k => interval_runs.l1 k cs acc c cs cs.length i) (acc ++ runsOf c (cs.drop i)) := by
  intro d
  induction d with
  | zero =>
    intro i acc c hi ha _ _
    refine Ev.step (fun k => by rw [interval_runs.l1]) ?_
    refine Ev.neg (by omega) (Ev.const ?_)
    rw [List.drop_eq_nil_of_le (by omega)]
    simp [runsOf]
  | succ d ih =>
    intro i acc c hi ha hc1 hc2
    have hlt : i < cs.length := by omega
    have hg : cs.getD i z110 = cs[i] := by simp [List.getD, hlt]
    obtain ⟨s1, s2, s3, s4⟩ := hs cs[i] (List.getElem_mem hlt)
    refine Ev.step (fun k => by rw [interval_runs.l1]) ?_
    have ew : wrap64 ((i : Int) + 1) = ((i + 1 : Nat) : Int) := wrap_nat (by omega)
    have ec : wrap64 (c + cs[i].f1) = c + cs[i].f1 := wrap_id (by omega) (by omega)
    refine Ev.pos (by omega) (Ev.pos (by omega) (Ev.pos (by omega) ?_))
    rw [ew]
    simp only [rd110]
    rw [hg, ec]
    rcases Nat.lt_or_ge (i + 1) cs.length with h1 | h1
    · have hg1 : cs.getD (i + 1) z110 = cs[i + 1] := by simp [List.getD, h1]
      obtain ⟨t1, t2, t3, t4⟩ := hs cs[i + 1] (List.getElem_mem h1)
      rw [hg1]
      refine Ev.pos (by omega) (Ev.pos (by omega) ?_)
      rw [List.drop_eq_getElem_cons hlt, List.drop_eq_getElem_cons h1]
      unfold runsOf
      by_cases hgt : cs[i + 1].f0 > cs[i].f0
      · rw [if_pos hgt]
        refine Ev.pos hgt (Ev.pos (by omega) ?_)
        rw [wrap_id (x := cs[i + 1].f0 - 1) (by omega) (by omega)]
        have := ih (i + 1) (acc ++ [⟨cs[i].f0, cs[i + 1].f0 - 1, c + cs[i].f1⟩]) (c + cs[i].f1) (by omega) (by simp; omega) (by omega) (by omega)
        rw [List.drop_eq_getElem_cons h1] at this
        simpa using this
      · rw [if_neg hgt]
        refine Ev.neg hgt ?_
        have := ih (i + 1) acc (c + cs[i].f1) (by omega) (by omega) (by omega) (by omega)
        rw [List.drop_eq_getElem_cons h1] at this
        exact this
    · refine Ev.neg (by omega) ?_
      have := ih (i + 1) acc (c + cs[i].f1) (by omega) (by omega) (by omega) (by omega)
      rw [List.drop_eq_getElem_cons hlt, List.drop_eq_nil_of_le (by omega)]
      rw [List.drop_eq_nil_of_le (by omega)] at this
      simpa [runsOf] using this

def sorted (v : List S29) : List S110 := sortChange (changes v)
theorem small_changes {v : List S29} (hok : ∀ s ∈ v, OkI s) : Small (changes v) := by
  intro x hx
  obtain ⟨s, hs, hx⟩ := List.mem_flatMap.1 hx
  obtain ⟨h1, h2, h3⟩ := hok s hs
  simp only [List.mem_cons, List.not_mem_nil, or_false] at hx
  rcases hx with rfl | rfl
  · exact ⟨by show (-1 : Int) ≤ 1; omega, by show (1 : Int) ≤ 1; omega, h2, by show s.f0 ≤ _; omega⟩
  · exact ⟨by show (-1 : Int) ≤ -1; omega, by show (-1 : Int) ≤ 1; omega, by show _ ≤ s.f1 + 1; omega, by show s.f1 + 1 ≤ _; omega⟩
theorem sorted_perm (v : List S29) : (sorted v).Perm (changes v) := (sortChange_spec _).2.1
theorem sorted_sorted (v : List S29) : (sorted v).Pairwise (fun x y => x.f0 ≤ y.f0) := by
  have h := (sortChange_spec (changes v)).2.2
  have hsz := (sortChange_spec (changes v)).1
  rw [List.pairwise_iff_getElem]
  intro i j hi hj hij
  have hj' : j < (pdqChange (changes v)).size := by simpa [sorted, sortChange] using hj
  have hi' : i < (pdqChange (changes v)).size := by omega
  have := h i j (Nat.zero_le _) hij (by omega)
  rw [lt110] at this
  have e1 : (pdqChange (changes v))[i]! = (sorted v)[i] := by
    rw [getElem!_pos _ i hi']; simp [sorted, sortChange]
  have e2 : (pdqChange (changes v))[j]! = (sorted v)[j] := by
    rw [getElem!_pos _ j hj']; simp [sorted, sortChange]
  rw [e1, e2] at this
  simp at this
  exact this
def runs (v : List S29) : List S88 := runsOf 0 (sorted (valid v))
theorem impl_runs (v : List S29) : Ev (fun k => interval_runs.f k v) (runs v) := by
  unfold interval_runs.f
  refine Ev.bind' _ (impl_valid v) ?_
  have hl := valid_len v
  have hs := sorted_perm (valid v)
  have hsm : Small (sorted (valid v)) := fun x hx => small_changes (fun s hs => valid_ok hs) x (hs.mem_iff.1 hx)
  have hlen : (sorted (valid v)).length = (changes (valid v)).length := hs.length_eq
  have hl2 : (sorted (valid v)).length ≤ 96 := by rw [hlen, changes_len]; omega
  refine runs_from (valid v) hl (fun s hs => valid_ok hs) _ ?_ (valid v).length 0 [] (by omega) (by simp [changes])
  have ef : interval_change_82_83.f (changes (valid v)) = some (sorted (valid v)) := by
    unfold interval_change_82_83.f
    rw [if_pos (by rw [← hlen]; omega)]
    rfl
  rw [ef]
  refine Ev.some_bind ?_
  rw [← hlen]
  have := runs_l1 (sorted (valid v)) hl2 hsm (sorted (valid v)).length 0 [] 0 (by omega) (by simp) (by simp) (by simp)
  simpa [runs] using this

/-! ### What the runs tell -/
theorem sumLe_cons (x : S110) (cs : List S110) (t : Int) : sumLe (x :: cs) t = (if x.f0 ≤ t then x.f1 else 0) + sumLe cs t := by simp [sumLe]
theorem sumLe_none {cs : List S110} {t : Int} (h : ∀ x ∈ cs, t < x.f0) : sumLe cs t = 0 := by
  induction cs with
  | nil => rfl
  | cons a r ih =>
    rw [sumLe_cons, ih (fun x hx => h x (List.mem_cons_of_mem _ hx)), if_neg (by have := h a (by simp); omega)]
    rfl
theorem sumLe_all {cs : List S110} {t : Int} (h : ∀ x ∈ cs, x.f0 ≤ t) : sumLe cs t = total cs := by
  induction cs with
  | nil => rfl
  | cons a r ih =>
    rw [sumLe_cons, ih (fun x hx => h x (List.mem_cons_of_mem _ hx)), if_pos (h a (by simp))]
    simp [total]
/-- Within a run the count stands; the runs follow one another; what is between the first change and the last one lies in one. -/
theorem runsOf_spec : ∀ (cs : List S110) (c : Int), cs.Pairwise (fun x y => x.f0 ≤ y.f0) →
    (∀ r ∈ runsOf c cs, r.f0 ≤ r.f1 ∧ (∀ t, r.f0 ≤ t → t ≤ r.f1 → c + sumLe cs t = r.f2) ∧ (∀ x ∈ cs.head?, x.f0 ≤ r.f0)) ∧
    (runsOf c cs).Pairwise (fun r q => r.f1 < q.f0) ∧
    (∀ t, (∃ x ∈ cs, x.f0 ≤ t) → (∃ x ∈ cs, t < x.f0) → ∃ r ∈ runsOf c cs, r.f0 ≤ t ∧ t ≤ r.f1)
  | [], c, _ => ⟨by simp [runsOf], by simp [runsOf], by simp⟩
  | [x], c, _ => ⟨by simp [runsOf], by simp [runsOf], fun t ⟨a, ha, h1⟩ ⟨b, hb, h2⟩ => by
      simp only [List.mem_cons, List.not_mem_nil, or_false] at ha hb
      subst ha; subst hb; omega⟩
  | x :: y :: rest, c, hp => by
    obtain ⟨hx, hp'⟩ := List.pairwise_cons.1 hp
    obtain ⟨i1, i2, i3⟩ := runsOf_spec (y :: rest) (c + x.f1) hp'
    have hxy := hx y (by simp)
    have later : ∀ t, x.f0 ≤ t → c + sumLe (x :: y :: rest) t = c + x.f1 + sumLe (y :: rest) t := fun t ht => by
      rw [sumLe_cons, if_pos ht]; omega
    have hy : ∀ z ∈ y :: rest, y.f0 ≤ z.f0 := fun z hz => by
      rcases List.mem_cons.1 hz with rfl | hz
      · exact Int.le_refl _
      · exact (List.pairwise_cons.1 hp').1 z hz
    have tail : ∀ r ∈ runsOf (c + x.f1) (y :: rest), r.f0 ≤ r.f1 ∧ (∀ t, r.f0 ≤ t → t ≤ r.f1 → c + sumLe (x :: y :: rest) t = r.f2) ∧ y.f0 ≤ r.f0 := fun r hr => by
      obtain ⟨a, b, d⟩ := i1 r hr
      have d' := d y rfl
      exact ⟨a, fun t h1 h2 => by rw [later t (by omega)]; exact b t h1 h2, d'⟩
    have cover : ∀ t, y.f0 ≤ t → (∃ z ∈ x :: y :: rest, t < z.f0) → ∃ r ∈ runsOf (c + x.f1) (y :: rest), r.f0 ≤ t ∧ t ≤ r.f1 := fun t ht ⟨z, hz, h2⟩ => by
      refine i3 t ⟨y, by simp, ht⟩ ⟨z, ?_, h2⟩
      rcases List.mem_cons.1 hz with rfl | hz
      · omega
      · exact hz
    unfold runsOf
    by_cases hgt : y.f0 > x.f0
    · rw [if_pos hgt]
      refine ⟨fun r hr => ?_, ?_, fun t ⟨a, ha, h1⟩ h2 => ?_⟩
      · rcases List.mem_cons.1 hr with rfl | hr
        · refine ⟨by show x.f0 ≤ y.f0 - 1; omega, fun t h1 h2 => ?_, fun z hz => by simp at hz; subst hz; exact Int.le_refl _⟩
          have h2' : t ≤ y.f0 - 1 := h2
          rw [later t h1, sumLe_none (fun z hz => by have := hy z hz; omega)]
          show c + x.f1 + 0 = c + x.f1
          omega
        · obtain ⟨a, b, d⟩ := tail r hr
          exact ⟨a, b, fun z hz => by simp at hz; subst hz; omega⟩
      · refine List.pairwise_cons.2 ⟨fun r hr => ?_, i2⟩
        have := (tail r hr).2.2
        show y.f0 - 1 < r.f0
        omega
      · by_cases hy2 : y.f0 ≤ t
        · obtain ⟨r, hr, h⟩ := cover t hy2 h2
          exact ⟨r, List.mem_cons_of_mem _ hr, h⟩
        · refine ⟨_, List.mem_cons_self, ?_, by show t ≤ y.f0 - 1; omega⟩
          show x.f0 ≤ t
          rcases List.mem_cons.1 ha with rfl | ha
          · exact h1
          · have := hx a ha; omega
    · rw [if_neg hgt]
      refine ⟨fun r hr => ?_, i2, fun t ⟨a, ha, h1⟩ h2 => ?_⟩
      · obtain ⟨a, b, d⟩ := tail r hr
        exact ⟨a, b, fun z hz => by simp at hz; subst hz; omega⟩
      · refine cover t ?_ h2
        rcases List.mem_cons.1 ha with rfl | ha
        · omega
        · exact Int.le_trans (hy a ha) h1

/-- The runs of a list of intervals: pieces in which the count stands, one behind the other; every instant that an interval holds lies in one. -/
theorem runs_spec (v : List S29) :
    (∀ r ∈ runs v, r.f0 ≤ r.f1 ∧ ∀ t, r.f0 ≤ t → t ≤ r.f1 → (cnt (valid v) t : Int) = r.f2) ∧ (runs v).Pairwise (fun r q => r.f1 < q.f0) ∧ ∀ t, 1 ≤ cnt (valid v) t → ∃ r ∈ runs v, r.f0 ≤ t ∧ t ≤ r.f1 := by
  have hs : ∀ t, sumLe (sorted (valid v)) t = cnt (valid v) t := fun t => by
    rw [sumLe_perm (sorted_perm _), sumLe_changes _ (fun s hs => (valid_ok hs).1)]
  obtain ⟨h1, h2, h3⟩ := runsOf_spec (sorted (valid v)) 0 (sorted_sorted _)
  refine ⟨fun r hr => ⟨(h1 r hr).1, fun t ha hb => ?_⟩, h2, fun t ht => h3 t ?_ ?_⟩
  · rw [← hs t]
    have := (h1 r hr).2.1 t ha hb
    omega
  · refine Classical.byContradiction fun hc => ?_
    have : sumLe (sorted (valid v)) t = 0 := sumLe_none fun x hx => Int.not_le.1 fun hle => hc ⟨x, hx, hle⟩
    rw [hs] at this
    omega
  · refine Classical.byContradiction fun hc => ?_
    have : sumLe (sorted (valid v)) t = total (sorted (valid v)) := sumLe_all fun x hx => Int.not_lt.1 fun hlt => hc ⟨x, hx, hlt⟩
    rw [hs, total_perm (sorted_perm _), total_changes] at this
    omega
theorem runs_len (v : List S29) : (runs v).length ≤ 96 := by
  have h := runsOf_len (sorted (valid v)) 0
  rw [(sorted_perm _).length_eq, changes_len] at h
  have := valid_len v
  unfold runs
  omega

/-! ### The hull -/
theorem index_from (R : List S88) (hn : R.length ≤ 96) (need : Int) : ∀ d i, i + d = R.length → (∀ j, j < i → (R.getD j z88).f2 < need) →
    (∃ j : Nat, j < R.length ∧ Ev (fun k => interval_run_64_63.l0 k R R.length i need) (j : Int) ∧ need ≤ (R.getD j z88).f2 ∧ ∀ q, q < j → (R.getD q z88).f2 < need) ∨
    (Ev (fun k => interval_run_64_63.l0 k R R.length i need) (-1) ∧ ∀ q, q < R.length → (R.getD q z88).f2 < need) := by
  intro d
  induction d with
  | zero =>
    intro i hi hm
    refine .inr ⟨?_, fun q hq => hm q (by omega)⟩
    refine Ev.step (fun k => by rw [interval_run_64_63.l0]) ?_
    exact Ev.neg (by omega) (Ev.const rfl)
  | succ d ih =>
    intro i hi hm
    have st : ∀ r, Ev (fun k => if decide ((R.getD i z88).f2 ≥ need) = true then some (i : Int) else interval_run_64_63.l0 k R R.length ((i + 1 : Nat) : Int) need) r → Ev (fun k => interval_run_64_63.l0 k R R.length i need) r := by
      intro r hr
      refine Ev.step (fun k => by rw [interval_run_64_63.l0]) ?_
      refine Ev.pos (by omega) (Ev.pos (by omega) (Ev.pos (by omega) ?_))
      simp only [rd88, interval_Hull_1.f]
      refine Ev.some_bind ?_
      rw [wrap_nat (by omega)]
      exact hr
    by_cases h : (R.getD i z88).f2 ≥ need
    · exact .inl ⟨i, by omega, st _ (Ev.pos (by simpa using h) (Ev.const rfl)), h, hm⟩
    · have hm' : ∀ j, j < i + 1 → (R.getD j z88).f2 < need := fun j hj => by
        rcases Nat.lt_or_ge j i with hji | hji
        · exact hm j hji
        · have e : j = i := by omega
          subst e
          exact Int.not_le.1 h
      rcases ih (i + 1) (by omega) hm' with ⟨j, h1, h2, h3, h4⟩ | ⟨h1, h2⟩
      · exact .inl ⟨j, h1, st _ (Ev.neg (by simpa using h) h2), h3, h4⟩
      · exact .inr ⟨st _ (Ev.neg (by simpa using h) h1), h2⟩
theorem impl_index (R : List S88) (hn : R.length ≤ 96) (need : Int) :
    (∃ j : Nat, j < R.length ∧ Ev (fun k => interval_run_64_63.f k R need) (j : Int) ∧ need ≤ (R.getD j z88).f2 ∧ ∀ q, q < j → (R.getD q z88).f2 < need) ∨
    (Ev (fun k => interval_run_64_63.f k R need) (-1) ∧ ∀ q, q < R.length → (R.getD q z88).f2 < need) :=
  index_from R hn need R.length 0 (by omega) (fun j hj => by omega)
theorem getD_mem {R : List S88} {j : Nat} (h : j < R.length) : R.getD j z88 ∈ R := by simp [List.getD, h]
theorem mem_getD {R : List S88} {r : S88} (h : r ∈ R) : ∃ j, j < R.length ∧ R.getD j z88 = r := by
  obtain ⟨j, hj, rfl⟩ := List.getElem_of_mem h
  exact ⟨j, hj, by simp [List.getD, hj]⟩

theorem impl_hull (v : List S29) (need : Int) : ∃ lo hi ok, Ev (fun k => interval_Hull.f k v need) (lo, hi, ok) ∧ HullSpec (valid v) need lo hi ok := by
  obtain ⟨s1, s2, s3⟩ := runs_spec v
  have hl := runs_len v
  have ix := impl_index (runs v) hl need
  have st : ∀ (i : Int) r, Ev (fun k => interval_run_64_63.f k (runs v) need) i → Ev (fun k => if need < 1 then (interval_Hull.j0 k (runs v) i true need) else (interval_Hull.j0 k (runs v) i (decide (i < 0)) need)) r → Ev (fun k => interval_Hull.f k v need) r := fun i r h1 h2 => by
    unfold interval_Hull.f
    exact Ev.bind' _ (impl_runs v) (Ev.bind' _ h1 h2)
  by_cases hneed : need < 1
  · have e0 : ∀ i : Int, Ev (fun k => interval_Hull.j0 k (runs v) i true need) (0, 0, false) := fun i => by
      refine Ev.step (fun k => by rw [interval_Hull.j0]) ?_
      exact Ev.pos rfl (Ev.const rfl)
    refine ⟨0, 0, false, ?_, .inr ⟨rfl, rfl, rfl, .inl hneed⟩⟩
    rcases ix with ⟨j, _, h2, _⟩ | ⟨h1, _⟩
    · exact st _ _ h2 (Ev.pos hneed (e0 _))
    · exact st _ _ h1 (Ev.pos hneed (e0 _))
  · rcases ix with ⟨j, hj, h2, h3, h4⟩ | ⟨h1, h2⟩
    · have ir := impl_index (runs v).reverse (by simpa using hl) need
      have er : interval_run_65.f (runs v) = some (runs v).reverse := by
        unfold interval_run_65.f
        rw [if_pos (by omega)]
      have rev : ∀ q, q < (runs v).length → (runs v).reverse.getD q z88 = (runs v).getD ((runs v).length - 1 - q) z88 := fun q hq => by
        simp [List.getD, List.getElem?_reverse hq]
      rcases ir with ⟨q, hq, g2, g3, g4⟩ | ⟨g1, g2⟩
      · have hq' : q < (runs v).length := by simpa using hq
        have hp : (runs v).length - 1 - q < (runs v).length := by omega
        rw [rev q hq'] at g3
        have ord : ∀ a b, a < b → b < (runs v).length → ((runs v).getD a z88).f1 < ((runs v).getD b z88).f0 := fun a b hab hb => by
          have ha : a < (runs v).length := by omega
          have := (List.pairwise_iff_getElem.1 s2) a b ha hb hab
          simpa [List.getD, ha, hb] using this
        refine ⟨((runs v).getD j z88).f0, ((runs v).getD ((runs v).length - 1 - q) z88).f1, true, ?_, .inl ⟨rfl, by omega, ?_, ?_, fun t ht => ?_⟩⟩
        · refine st _ _ h2 (Ev.neg hneed ?_)
          rw [decide_eq_false (by omega : ¬ (j : Int) < 0)]
          refine Ev.step (fun k => by rw [interval_Hull.j0]) ?_
          refine Ev.neg (by simp) (Ev.pos (by omega) (Ev.pos (by omega) ?_))
          rw [er]
          refine Ev.some_bind (Ev.bind' _ g2 (Ev.pos (by omega) (Ev.pos (by omega) (Ev.const ?_))))
          rw [rd88, rd88, rev q hq']
        · obtain ⟨a, b⟩ := s1 _ (getD_mem hj)
          rw [b _ (Int.le_refl _) a]; exact h3
        · obtain ⟨a, b⟩ := s1 _ (getD_mem hp)
          rw [b _ a (Int.le_refl _)]; exact g3
        · obtain ⟨r, hr, h5, h6⟩ := s3 t (by omega)
          have h7 := (s1 r hr).2 t h5 h6
          obtain ⟨m, hm, rfl⟩ := mem_getD hr
          constructor
          · rcases Nat.lt_or_ge m j with hmj | hmj
            · have := h4 m hmj; omega
            · rcases Nat.eq_or_lt_of_le hmj with e | hmj
              · rw [e]; exact h5
              · have := ord j m hmj hm
                have := (s1 _ (getD_mem hj)).1
                omega
          · rcases Nat.lt_or_ge ((runs v).length - 1 - q) m with hmq | hmq
            · have hx : (runs v).length - 1 - m < q := by omega
              have := g4 _ hx
              rw [rev _ (by omega), show (runs v).length - 1 - ((runs v).length - 1 - m) = m by omega] at this
              omega
            · rcases Nat.eq_or_lt_of_le hmq with e | hmq
              · rw [← e]; exact h6
              · have := ord m _ hmq hp
                have := (s1 _ (getD_mem hp)).1
                omega
      · exfalso
        have := g2 ((runs v).length - 1 - j) (by rw [List.length_reverse]; omega)
        rw [rev _ (by omega), show (runs v).length - 1 - ((runs v).length - 1 - j) = j by omega] at this
        omega
    · refine ⟨0, 0, false, ?_, .inr ⟨rfl, rfl, rfl, .inr fun t => ?_⟩⟩
      · refine st _ _ h1 (Ev.neg hneed ?_)
        rw [show decide ((-1 : Int) < 0) = true from rfl]
        refine Ev.step (fun k => by rw [interval_Hull.j0]) ?_
        exact Ev.pos rfl (Ev.const rfl)
      · rcases Nat.eq_zero_or_pos (cnt (valid v) t) with h0 | h0
        · omega
        · obtain ⟨r, hr, h5, h6⟩ := s3 t h0
          obtain ⟨q, hq, rfl⟩ := mem_getD hr
          have := h2 q hq
          rw [(s1 _ hr).2 t h5 h6]
          exact this
end Go.Proofs.Ytlfilhplklifjaa.PA

namespace Go.Proofs.Ytlfilhplklifjaa.X
open Go.RowKit Go.Proofs.YtlfilhplklifjaaW.PrintWords Go.Proofs.YtlfilhplklifjaaW.PrintLast Go.Proofs.YtlfilhplklifjaaW.PrintMore
attribute [local go_sem] max2_int min2_int max_two min_two max_three min_three max_four min_four   -- for this text's walks alone
set_option linter.unusedVariables false
set_option linter.unusedSimpArgs false

/-! ### timesyncref24_Select: function 18 -/
def timesyncref24_Select.l0 : Nat → List (S37) → Int → Option (List Int × Int × Int × Int)
 | 0, _, _ => none
 | k + 1, x0, x6 => if (wrap64 (2 * x6)) < (x0.length : Int) then ((timesyncref24_hull.f k x0 (wrap64 ((x0.length : Int) - x6))).bind fun bt276 => (if bt276.2.2 = true then ((timesyncref24_inside.f k x0 bt276.1 bt276.2.1 false).bind fun t280 => (if (t280.length : Int) ≤ x6 then ((timesyncref24_inside.f k x0 bt276.1 bt276.2.1 true).bind fun t283 => (some (t283, bt276.1, bt276.2.1, 0))) else (timesyncref24_Select.l0 k x0 (wrap64 (x6 + 1))))) else (timesyncref24_Select.l0 k x0 (wrap64 (x6 + 1))))) else (some (([] : List Int), 0, 0, 11))
def timesyncref24_Select.f (k : Nat) (l0 : List (S37)) : Option (List Int × Int × Int × Int) := (timesyncref24_Check.f k l0).bind fun t275 => (if t275 = 0 then (timesyncref24_Select.l0 k l0 0) else (some (([] : List Int), 0, 0, t275)))
theorem timesyncref24_Select.mono_l : ∀ k, (∀ y0 y1, LeO (timesyncref24_Select.l0 k y0 y1) (timesyncref24_Select.l0 (k + 1) y0 y1))
 | 0 => fun _ _ r h => by simp [timesyncref24_Select.l0] at h
 | k + 1 => by
  have ih0 := timesyncref24_Select.mono_l k
  ·intro y0 y1
   unfold timesyncref24_Select.l0
   repeat' first
   | (with_reducible exact ih0 _ _)
   | (with_reducible exact timesyncref24_Check.mono _ _)
   | (with_reducible exact timesyncref24_hull.mono _ _ _)
   | (with_reducible exact timesyncref24_inside.mono _ _ _ _ _)
   | (with_reducible exact LeO.refl _)
   | (with_reducible exact LeO.none _)
   | (with_reducible refine LeO.ite ?_ ?_)
   | (with_reducible refine LeO.bind ?_ (fun _ => ?_))
   | exact ih0 _ _
   | exact timesyncref24_Check.mono _ _
   | exact timesyncref24_hull.mono _ _ _
   | exact timesyncref24_inside.mono _ _ _ _ _
   | exact LeO.none _
   | refine LeO.ite ?_ ?_
   | refine LeO.bind ?_ (fun _ => ?_)
theorem timesyncref24_Select.mono : ∀ a0 k, LeO (timesyncref24_Select.f k a0) (timesyncref24_Select.f (k + 1) a0) := by
 intro a0 k
 have ih0 := timesyncref24_Select.mono_l k
 unfold timesyncref24_Select.f
 repeat' first
   | (with_reducible exact ih0 _ _)
   | (with_reducible exact timesyncref24_Check.mono _ _)
   | (with_reducible exact timesyncref24_hull.mono _ _ _)
   | (with_reducible exact timesyncref24_inside.mono _ _ _ _ _)
   | (with_reducible exact LeO.refl _)
   | (with_reducible exact LeO.none _)
   | (with_reducible refine LeO.ite ?_ ?_)
   | (with_reducible refine LeO.bind ?_ (fun _ => ?_))
   | exact ih0 _ _
   | exact timesyncref24_Check.mono _ _
   | exact timesyncref24_hull.mono _ _ _
   | exact timesyncref24_inside.mono _ _ _ _ _
   | exact LeO.none _
   | refine LeO.ite ?_ ?_
   | refine LeO.bind ?_ (fun _ => ?_)
set_option maxHeartbeats 8000000 in
set_option maxRecDepth 100000 in
theorem timesyncref24_Select.calls (k : Nat) (A0 : Option Addr) (c0 : Nat) (l0 : List (S37)) (r1 : List Int) (r2 : Int) (r3 : Int) (r4 : Int) (w : World) (hr0 : Kd.C k37 w A0 l0.length l0) (hc0 : l0.length ≤ c0) (h : timesyncref24_Select.f k l0 = some (r1, r2, r3, r4)) :
  Calls Try.prog 18 #[.slice A0 l0.length c0] w fun e w' => ∃ v0_ : Value, e = .returned (.tuple #[v0_, .agg #[.int .i64 r2, .int .i64 r3], .int .i64 r4]) ∧ Kd.R (Kd.int .i64) 3 w' w.heap.size (fun _ => True) v0_ r1 ∧ Below w.heap.size w w' := by
 have hu29 := Try.underlying29
 have HR0 := Aside0.mk hr0
 have HC0 := Aside0.mk hc0
 clear hr0 hc0
 have HB := Aside0.mk (Below.refl w.heap.size w)
 have H : ((timesyncref24_Check.f k l0).bind fun t275 => (if t275 = 0 then (timesyncref24_Select.l0 k l0 0) else (some (([] : List Int), 0, 0, t275)))) = some (r1, r2, r3, r4) := h
 clear h
 replace H := Option.bind_eq_some_iff.mp H
 obtain ⟨t275, A20, H⟩ := H
 replace H : (if t275 = 0 then (timesyncref24_Select.l0 k l0 0) else (some (([] : List Int), 0, 0, t275))) = some (r1, r2, r3, r4) := H
 have A2 := Aside0.mk A20
 clear A20
 by_cases c3 : t275 = 0
 ·rw [if_pos c3] at H
  have c3b0 : (t275 == 0) = true := beq_iff_eq.mpr c3
  have c3b1 : (t275 != 0) = false := bne_eq_false_iff_eq.mpr c3
  clear c3
  have H' := Aside0.mk H
  clear H
  go_enter Try.func18, Try.ntmps18
  go_wp2_with (first | ((with_reducible refine gate_dst (N := 3) rfl ?_); (try (refine gate_guard (by rfl) ?_; dsimp only)); refine box_event ?hg (N := 3) ?hd (cs := #[.int .i64 0, .int .i64 0]) (t := 29) ?hr ?_; (case hd => rfl); (case hg => rfl); (case hr => first | (go_simp; done) | (go_simp; rfl)); intro gb274 hg w4 hbox hb; have n0_ := Aside0.mk (below_step (by repeat (first | (with_reducible first | exact HB.out | apply below_alloc | apply pw_below_drewN | apply below_drew1) | exact HB.out)) hb); have n1_ := Aside0.mk (hbox); have n2_ := Aside0.mk ((by rw [hg]; exact (below_size (by repeat (first | (with_reducible first | exact HB.out | apply below_alloc | apply pw_below_drewN | apply below_drew1) | exact HB.out))) : w.heap.size ≤ gb274)); have n3_ := Aside0.mk ((by rw [hg]; exact (below_size (by repeat (first | (with_reducible first | exact HB.out | apply below_alloc | apply pw_below_drewN | apply below_drew1) | exact HB.out))) : w.heap.size ≤ gb274)); clear HB; have HB := n0_; have BK274 := n1_; have GW274 := n2_; have GE274 := n3_; clear n0_ n1_ n2_ n3_; clear hb hbox hg) | ((with_reducible refine gate_callee (f := 16) rfl ?_); refine goesL_ (some 10) rfl rfl Try.func16 (by kernel_rfl) rfl #[.slice A0 l0.length c0] rfl (by (try simp only [List.map_toArray, List.map_cons, List.map_nil]); first | done | rfl | (simp only [List.length_drop, List.length_take]; rfl)) ?_; (with_reducible refine (timesyncref24_Check.calls k _ _ l0 t275 _ ?side1 ?side2 A2.out).mono ?_); (case side1 => repeat (first | exact (Kd.C_below HR0.out HB.out) | (with_reducible refine Kd.C_alloc ?_ _) | (with_reducible refine Kd.C_drewN ?_ _) | (with_reducible refine Kd.C_drew ?_))); (case side2 => exact HC0.out); rintro e w5 ⟨rfl, hb⟩; refine ⟨_, rfl, ?_⟩; have n0_ := Aside0.mk (blk_below (g := gb274) (o := .cells #[.int .i64 0, .int .i64 0] 29 (0, 0)) (by (with_reducible repeat (first | refine blk_drewN ?_ _ | refine blk_drew ?_ | refine blk_alloc ?_ _)); exact BK274.out) hb); have n1_ := Aside0.mk (below_step (by repeat (first | (with_reducible first | exact HB.out | apply below_alloc | apply pw_below_drewN | apply below_drew1 | refine below_set ?_ GE274.out) | exact HB.out)) hb); clear BK274; clear HB; have BK274 := n0_; have HB := n1_; clear n0_ n1_; (try clear hb); (try clear hb2); (try clear hk); (try clear hi)))
  go_loopg [6] k (fun kq v6 w' => ∃ (x6_1 : Int) (x275000_1 : Int) (x275001_1 : Int), v6 = .int .i64 x6_1 ∧ Aside0 (timesyncref24_Select.l0 kq l0 x6_1 = some (r1, r2, r3, r4)) ∧ Aside0 (kq ≤ k) ∧ Aside0 (w'.heap[gb274]? = some (.cells #[.int .i64 x275000_1, .int .i64 x275001_1] 29 (0, 0))) ∧ Aside0 (Below w.heap.size w w'))
  case atStart => exact ⟨(0), (0), (0), (by first | rfl | (simp; done) | (simp [*]; done)), H', ⟨Nat.le_refl _⟩, ⟨by (with_reducible repeat (first | refine blk_drewN ?_ _ | refine blk_drew ?_ | refine blk_alloc ?_ _)); exact BK274.out⟩, ⟨by repeat (first | (with_reducible first | exact HB.out | apply below_alloc | apply pw_below_drewN | apply below_drew1 | refine below_set ?_ GE274.out) | exact HB.out)⟩⟩
  case round =>
   clear H'
   try clear c1
   try clear p2
   try clear c3
   try clear c3b0
   try clear c3b1
   obtain ⟨x6_1, x275000_1, x275001_1, rfl, HA, HK1, BK274, HB⟩ := hrel
   cases gk with
   | zero => exact absurd HA.out (by simp [timesyncref24_Select.l0])
   | succ k1 =>
    have H := HA.out
    clear HA
    simp only [timesyncref24_Select.l0] at H
    by_cases c6 : (wrap64 (2 * x6_1)) < (l0.length : Int)
    ·rw [if_pos c6] at H
     have c6b0 : decide ((wrap64 (2 * x6_1)) < (l0.length : Int)) = true := decide_eq_true c6
     clear c6
     replace H := Option.bind_eq_some_iff.mp H
     obtain ⟨⟨t276, t277, t278⟩, A70, H⟩ := H
     replace H : (if t278 = true then ((timesyncref24_inside.f k1 l0 t276 t277 false).bind fun t280 => (if (t280.length : Int) ≤ x6_1 then ((timesyncref24_inside.f k1 l0 t276 t277 true).bind fun t283 => (some (t283, t276, t277, 0))) else (timesyncref24_Select.l0 k1 l0 (wrap64 (x6_1 + 1))))) else (timesyncref24_Select.l0 k1 l0 (wrap64 (x6_1 + 1)))) = some (r1, r2, r3, r4) := H
     have A7 := Aside0.mk A70
     clear A70
     by_cases c8 : t278 = true
     ·subst c8
      have H1 : ((timesyncref24_inside.f k1 l0 t276 t277 false).bind fun t280 => (if (t280.length : Int) ≤ x6_1 then ((timesyncref24_inside.f k1 l0 t276 t277 true).bind fun t283 => (some (t283, t276, t277, 0))) else (timesyncref24_Select.l0 k1 l0 (wrap64 (x6_1 + 1))))) = some (r1, r2, r3, r4) := by rw [if_pos rfl] at H; exact H
      clear H
      have H := H1
      clear H1
      replace H := Option.bind_eq_some_iff.mp H
      obtain ⟨t280, A90, H⟩ := H
      replace H : (if (t280.length : Int) ≤ x6_1 then ((timesyncref24_inside.f k1 l0 t276 t277 true).bind fun t283 => (some (t283, t276, t277, 0))) else (timesyncref24_Select.l0 k1 l0 (wrap64 (x6_1 + 1)))) = some (r1, r2, r3, r4) := H
      have A9 := Aside0.mk A90
      clear A90
      by_cases c10 : (t280.length : Int) ≤ x6_1
      ·rw [if_pos c10] at H
       have c10b0 : decide ((t280.length : Int) ≤ x6_1) = true := decide_eq_true c10
       clear c10
       replace H := Option.bind_eq_some_iff.mp H
       obtain ⟨t283, A110, H⟩ := H
       replace H : (some (t283, t276, t277, 0)) = some (r1, r2, r3, r4) := H
       have A11 := Aside0.mk A110
       clear A110
       simp only [Option.some.injEq, Prod.mk.injEq] at H
       obtain ⟨rfl, rfl, rfl, rfl⟩ := H
       try go_wp2_with (first | ((with_reducible refine gate_callee (f := 49) rfl ?_); refine goesL_ (some 28) rfl rfl Try.func49 (by kernel_rfl) rfl #[.slice A0 l0.length c0, .int .i64 (wrap64 ((l0.length : Int) - x6_1))] rfl (by (try simp only [List.map_toArray, List.map_cons, List.map_nil]); first | done | rfl | (simp only [List.length_drop, List.length_take]; rfl)) ?_; (with_reducible refine (timesyncref24_hull.calls k1 _ _ l0 (wrap64 ((l0.length : Int) - x6_1)) t276 t277 true _ ?side1 ?side2 A7.out).mono ?_); (case side1 => repeat (first | exact (Kd.C_below HR0.out HB.out) | (with_reducible refine Kd.C_alloc ?_ _) | (with_reducible refine Kd.C_drewN ?_ _) | (with_reducible refine Kd.C_drew ?_))); (case side2 => exact HC0.out); rintro e w12 ⟨rfl, hb⟩; refine ⟨_, rfl, ?_⟩; have n0_ := Aside0.mk (blk_below (g := gb274) (o := .cells #[.int .i64 x275000_1, .int .i64 x275001_1] 29 (0, 0)) (by (with_reducible repeat (first | refine blk_drewN ?_ _ | refine blk_drew ?_ | refine blk_alloc ?_ _)); exact BK274.out) hb); have n1_ := Aside0.mk (below_step (by repeat (first | (with_reducible first | exact HB.out | apply below_alloc | apply pw_below_drewN | apply below_drew1 | refine below_set ?_ GE274.out) | exact HB.out)) hb); clear BK274; clear HB; have BK274 := n0_; have HB := n1_; clear n0_ n1_; (try clear hb); (try clear hb2); (try clear hk); (try clear hi)) | ((with_reducible refine gate_dst (N := 7) rfl ?_); (try (refine gate_guard (by rfl) ?_; dsimp only)); refine box_event ?hg (N := 7) ?hd (cs := #[.int .i64 0, .int .i64 0]) (t := 29) ?hr ?_; (case hd => rfl); (case hg => rfl); (case hr => first | (go_simp; done) | (go_simp; rfl)); intro gb279 hg w13 hbox hb; have n0_ := Aside0.mk (blk_below (g := gb274) (o := .cells #[.int .i64 x275000_1, .int .i64 x275001_1] 29 (0, 0)) (by (with_reducible repeat (first | refine blk_drewN ?_ _ | refine blk_drew ?_ | refine blk_alloc ?_ _)); exact BK274.out) hb); have n1_ := Aside0.mk (below_step (by repeat (first | (with_reducible first | exact HB.out | apply below_alloc | apply pw_below_drewN | apply below_drew1 | refine below_set ?_ GE274.out) | exact HB.out)) hb); have n2_ := Aside0.mk (hbox); have n3_ := Aside0.mk ((by rw [hg]; exact (below_size (by repeat (first | (with_reducible first | exact HB.out | apply below_alloc | apply pw_below_drewN | apply below_drew1 | refine below_set ?_ GE274.out) | exact HB.out))) : w.heap.size ≤ gb279)); have n4_ := Aside0.mk ((by rw [hg]; exact (below_size (by repeat (first | (with_reducible first | exact HB.out | apply below_alloc | apply pw_below_drewN | apply below_drew1 | refine below_set ?_ GE274.out) | exact HB.out))) : w.heap.size ≤ gb279)); have n5_ := Aside0.mk ((by rw [hg]; exact Nat.ne_of_lt (blk_lt (g := gb274) (o := .cells #[.int .i64 x275000_1, .int .i64 x275001_1] 29 (0, 0)) (by (with_reducible repeat (first | refine blk_drewN ?_ _ | refine blk_drew ?_ | refine blk_alloc ?_ _)); exact BK274.out)) : gb274 ≠ gb279)); have n6_ := Aside0.mk ((by rw [hg]; exact Nat.ne_of_gt (blk_lt (g := gb274) (o := .cells #[.int .i64 x275000_1, .int .i64 x275001_1] 29 (0, 0)) (by (with_reducible repeat (first | refine blk_drewN ?_ _ | refine blk_drew ?_ | refine blk_alloc ?_ _)); exact BK274.out)) : gb279 ≠ gb274)); clear BK274; clear HB; have BK274 := n0_; have HB := n1_; have BK279 := n2_; have GW279 := n3_; have GE279 := n4_; have NB274_279 := n5_; have NB279_274 := n6_; clear n0_ n1_ n2_ n3_ n4_ n5_ n6_; clear hb hbox hg; have hnb14 := NB279_274.out; have hnc14 := NB274_279.out; have hcz15_0 : w13.cell? ⟨gb279, 0, none⟩ = some (.int .i64 0) := (blk_cell BK279.out 0).trans rfl; have hcz15_1 : w13.cell? ⟨gb279, 1, none⟩ = some (.int .i64 0) := (blk_cell BK279.out 1).trans rfl; have hfz15_0 := blk_frozen BK279.out 0; have hfz15_1 := blk_frozen BK279.out 1) | (go_at_call 50; (with_reducible refine (timesyncref24_inside.calls k1 _ _ l0 t276 t277 false t280 _ ?side1 ?side2 A9.out).mono ?_); (case side1 => exact Kd.C_below HR0.out (by repeat (first | (with_reducible first | exact HB.out | apply below_alloc | apply pw_below_drewN | apply below_drew1 | refine below_set ?_ GE274.out | refine below_set ?_ GE279.out) | exact HB.out))); (case side2 => exact HC0.out); rintro e w16 ⟨v281, rfl, ho0, hb⟩; have n0_ := Aside0.mk (Kd.R_lower ho0 (below_size (by repeat (first | (with_reducible first | exact HB.out | apply below_alloc | apply pw_below_drewN | apply below_drew1 | refine below_set ?_ GE274.out | refine below_set ?_ GE279.out) | exact HB.out)))); have n1_ := Aside0.mk (blk_below (g := gb274) (o := .cells #[.int .i64 x275000_1, .int .i64 x275001_1] 29 (0, 0)) (by (with_reducible repeat (first | refine blk_drewN ?_ _ | refine blk_drew ?_ | refine blk_alloc ?_ _)); refine blk_far ?_ NB274_279.out _; (with_reducible repeat (first | refine blk_drewN ?_ _ | refine blk_drew ?_ | refine blk_alloc ?_ _)); refine blk_far ?_ NB274_279.out _; (with_reducible repeat (first | refine blk_drewN ?_ _ | refine blk_drew ?_ | refine blk_alloc ?_ _)); exact BK274.out) hb); have n2_ := Aside0.mk (blk_below (g := gb279) (o := .cells #[.int .i64 t276, .int .i64 t277] 29 (0, 0)) (by (with_reducible repeat (first | refine blk_drewN ?_ _ | refine blk_drew ?_ | refine blk_alloc ?_ _)); refine blk_put (cs := #[.int .i64 t276, .int .i64 0]) ?_ 1 _ rfl; (with_reducible repeat (first | refine blk_drewN ?_ _ | refine blk_drew ?_ | refine blk_alloc ?_ _)); refine blk_put (cs := #[.int .i64 0, .int .i64 0]) ?_ 0 _ rfl; (with_reducible repeat (first | refine blk_drewN ?_ _ | refine blk_drew ?_ | refine blk_alloc ?_ _)); exact BK279.out) hb); have n3_ := Aside0.mk (below_step (by repeat (first | (with_reducible first | exact HB.out | apply below_alloc | apply pw_below_drewN | apply below_drew1 | refine below_set ?_ GE274.out | refine below_set ?_ GE279.out) | exact HB.out)) hb); clear BK274; clear BK279; clear HB; have HO282 := n0_; have BK274 := n1_; have BK279 := n2_; have HB := n3_; clear n0_ n1_ n2_ n3_; (try clear hb); (try clear hb2); (try clear hk); (try clear hi); (try clear ho0); obtain ⟨Ao17, co17, eo17⟩ := Kd.R_slice HO282.out; subst eo17))
       have n0_ := Aside0.mk (Kd.R_drew HO282.out)
       have n1_ := Aside0.mk (blk_drew BK274.out)
       have n2_ := Aside0.mk (blk_drew BK279.out)
       have n3_ := Aside0.mk (below_drew1 HB.out)
       clear HO282
       clear BK274
       clear BK279
       clear HB
       have HO282 := n0_
       have BK274 := n1_
       have BK279 := n2_
       have HB := n3_
       clear n0_ n1_ n2_ n3_
       refine start_ (n := 7) (S := fun w' => w'.cell? ⟨gb279, 0, none⟩ = some (.int .i64 t276) ∧ w'.cell? ⟨gb279, 1, none⟩ = some (.int .i64 t277)) (ds := []) #[false, false, false, false, false, false, false] (by kernel_rfl) rfl rfl ⟨(blk_cell BK279.out 0).trans rfl, (blk_cell BK279.out 1).trans rfl⟩ (fun hHeld => ?_)
       generalize w16.drew = w18 at HO282 BK274 BK279 HB hHeld ⊢
       refine pure_ (i := 0) (N := some 40) (v := ?_) (a' := ?_) #[true, false, false, false, false, false, false] rfl rfl (by kernel_rfl) (fun _ _ _ h => h) (Or.inl ⟨by rfl, ?_⟩) ?_ ?_
       rotate_left
       ·intro w'
        go_simp
        with_reducible rfl
       rotate_left
       ·simp only [Act.put, List.setIfInBounds_toArray, List.set_cons_zero, List.set_cons_succ, i64_w, i32_w]
        rfl
       refine take_ (i := 1) (N := some 41) (v := ?_) (a' := ?_) #[true, true, false, false, false, false, false] rfl rfl (by kernel_rfl) (fun _ _ _ h => h) (Or.inl ⟨by rfl, ?_⟩) hHeld ?_ ?_
       rotate_left
       ·rintro w' ⟨s0, s1⟩
        go_simp
        with_reducible rfl
       rotate_left
       ·simp only [Act.put, List.setIfInBounds_toArray, List.set_cons_zero, List.set_cons_succ, i64_w, i32_w]
        rfl
       refine take_ (i := 3) (N := some 43) (v := ?_) (a' := ?_) #[true, true, false, true, false, false, false] rfl rfl (by kernel_rfl) (fun _ _ _ h => h) (Or.inl ⟨by rfl, ?_⟩) hHeld ?_ ?_
       rotate_left
       ·rintro w' ⟨s0, s1⟩
        go_simp
        with_reducible rfl
       rotate_left
       ·simp only [Act.put, List.setIfInBounds_toArray, List.set_cons_zero, List.set_cons_succ, i64_w, i32_w]
        rfl
       refine one_ (i := 2) (N := some 42) #[true, true, true, true, false, false, false] rfl rfl (by kernel_rfl) (by decide) (fun K hK => ?_)
       refine goes_ Try.func50 (by kernel_rfl) rfl #[.slice A0 l0.length c0, .agg #[.int .i64 t276, .int .i64 t277], .bool true] (by rfl) rfl rfl (by (try simp only [List.map_toArray, List.map_cons, List.map_nil]); first | done | rfl | (simp only [List.length_drop, List.length_take]; rfl)) ?_
       with_reducible refine (timesyncref24_inside.calls k1 _ _ l0 t276 t277 true t283 _ ?side1 ?side2 A11.out).mono ?_
       (case side1 => repeat (first | exact (Kd.C_below HR0.out HB.out) | (with_reducible refine Kd.C_alloc ?_ _) | (with_reducible refine Kd.C_drewN ?_ _) | (with_reducible refine Kd.C_drew ?_)))
       (case side2 => exact HC0.out)
       rintro e w19 ⟨v284, rfl, ho0, hb⟩
       refine ⟨_, rfl, ?_⟩
       have n0_ := Aside0.mk (Kd.R_elder' (by (with_reducible repeat (first | apply Kd.R_alloc | apply Kd.R_drewN | apply Kd.R_drew)); exact HO282.out) (Kd.R_base ho0) hb)
       have n1_ := Aside0.mk (Kd.R_lower (Kd.R_new' ho0 (Kd.R_lt (by (with_reducible repeat (first | apply Kd.R_alloc | apply Kd.R_drewN | apply Kd.R_drew)); exact HO282.out))) (below_size (by repeat (first | (with_reducible first | exact HB.out | apply below_alloc | apply pw_below_drewN | apply below_drew1 | refine below_set ?_ GE274.out | refine below_set ?_ GE279.out) | exact HB.out))))
       have n2_ := Aside0.mk (blk_below (g := gb274) (o := .cells #[.int .i64 x275000_1, .int .i64 x275001_1] 29 (0, 0)) (by (with_reducible repeat (first | refine blk_drewN ?_ _ | refine blk_drew ?_ | refine blk_alloc ?_ _)); exact BK274.out) hb)
       have n3_ := Aside0.mk (blk_below (g := gb279) (o := .cells #[.int .i64 t276, .int .i64 t277] 29 (0, 0)) (by (with_reducible repeat (first | refine blk_drewN ?_ _ | refine blk_drew ?_ | refine blk_alloc ?_ _)); exact BK279.out) hb)
       have n4_ := Aside0.mk (below_step (by repeat (first | (with_reducible first | exact HB.out | apply below_alloc | apply pw_below_drewN | apply below_drew1 | refine below_set ?_ GE274.out | refine below_set ?_ GE279.out) | exact HB.out)) hb)
       clear HO282
       clear BK274
       clear BK279
       clear HB
       have HO282 := n0_
       have HO285 := n1_
       have BK274 := n2_
       have BK279 := n3_
       have HB := n4_
       clear n0_ n1_ n2_ n3_ n4_
       (try clear hb)
       (try clear hb2)
       (try clear hk)
       (try clear hi)
       (try clear ho0)
       refine hK.out _ _ ⟨(blk_cell BK279.out 0).trans rfl, (blk_cell BK279.out 1).trans rfl⟩ (fun hHeld => ?_)
       clear hK K
       refine norm_ (a' := ?_) ?_ ?_
       rotate_left
       ·show Act.put _ (some 42) _ = _
        simp only [Act.put, List.setIfInBounds_toArray, List.set_cons_zero, List.set_cons_succ, i64_w, i32_w]
        rfl
       refine pure_ (i := 4) (N := some 2) (v := ?_) (a' := ?_) #[true, true, true, true, true, false, false] rfl rfl (by kernel_rfl) (fun _ _ _ h => h) (Or.inl ⟨by rfl, ?_⟩) ?_ ?_
       rotate_left
       ·intro w'
        go_simp
        with_reducible rfl
       rotate_left
       ·simp only [Act.put, List.setIfInBounds_toArray, List.set_cons_zero, List.set_cons_succ, i64_w, i32_w]
        rfl
       refine one_ (i := 5) (N := none) #[true, true, true, true, true, true, false] rfl rfl (by kernel_rfl) (by decide) (fun K hK => ?_)
       have hs20 : w19.cell? ⟨gb274, 0, none⟩ = some (.int .i64 x275000_1) := (blk_cell BK274.out 0).trans rfl
       have hfs20 := blk_frozen BK274.out 0
       have hns20_1 := NB279_274.out
       have hms20_1 := NB274_279.out
       have hs21 : w19.cell? ⟨gb274, 1, none⟩ = some (.int .i64 x275001_1) := (blk_cell BK274.out 1).trans rfl
       have hfs21 := blk_frozen BK274.out 1
       have hns21_1 := NB279_274.out
       have hms21_1 := NB274_279.out
       refine skip_ (w1 := ?_) (by rfl) rfl ?_ ?_
       rotate_left
       ·go_simp
        rfl
       refine hK.out _ _ ⟨((cell_far (p := ⟨gb274, _, none⟩) NB279_274.out _).trans (((cell_far (p := ⟨gb274, _, none⟩) NB279_274.out _).trans (hHeld.1)))), ((cell_far (p := ⟨gb274, _, none⟩) NB279_274.out _).trans (((cell_far (p := ⟨gb274, _, none⟩) NB279_274.out _).trans (hHeld.2))))⟩ (fun hHeld => ?_)
       clear hK K
       refine pure_ (i := 6) (N := some 4) (v := ?_) (a' := ?_) #[true, true, true, true, true, true, true] rfl rfl (by kernel_rfl) (fun _ _ _ h => h) (Or.inl ⟨by rfl, ?_⟩) ?_ ?_
       rotate_left
       ·intro w'
        go_simp
        with_reducible rfl
       rotate_left
       ·simp only [Act.put, List.setIfInBounds_toArray, List.set_cons_zero, List.set_cons_succ, i64_w, i32_w]
        rfl
       refine done_ (by kernel_rfl) ?_
       try go_wp2
       refine bodyPost_ret (results_list (rs := [.tmp 2, .cell 3 29, .tmp 4]) rfl (by simp) (.tmp (.cell gb274 29 #[.int .i64 t276, .int .i64 t277] (0, 0) _ rfl (by (with_reducible repeat (first | refine blk_drewN ?_ _ | refine blk_drew ?_ | refine blk_alloc ?_ _)); refine blk_put (cs := #[.int .i64 t276, .int .i64 x275001_1]) ?_ 1 _ rfl; (with_reducible repeat (first | refine blk_drewN ?_ _ | refine blk_drew ?_ | refine blk_alloc ?_ _)); refine blk_put (cs := #[.int .i64 x275000_1, .int .i64 x275001_1]) ?_ 0 _ rfl; (with_reducible repeat (first | refine blk_drewN ?_ _ | refine blk_drew ?_ | refine blk_alloc ?_ _)); exact BK274.out) Try.underlying29 rfl (by kernel_rfl) (.tmp .nil)))) rfl ?_
       exact ⟨_, by first | rfl | (simp [errW_none, errW_some] <;> rfl) | (simp [*, errW_none, errW_some] <;> rfl), by (with_reducible repeat (first | apply Kd.R_alloc | apply Kd.R_drewN | apply Kd.R_drew)); exact Kd.R_mono (Kd.R_far (p := ⟨gb274, 1, none⟩) (Kd.R_far (p := ⟨gb274, 0, none⟩) (Kd.R_types HO285.out BK274.out (by decide)) (fun _ hk => hk.2) (.int .i64 t276)) (fun _ hk => hk.2) (.int .i64 t277)) (fun _ hk => trivial), by repeat (first | (with_reducible first | exact HB.out | apply below_alloc | apply pw_below_drewN | apply below_drew1 | refine below_set ?_ GE274.out | refine below_set ?_ GE279.out) | exact HB.out)⟩
      ·rw [if_neg c10] at H
       have c10b0 : decide ((t280.length : Int) ≤ x6_1) = false := decide_eq_false c10
       clear c10
       have H' := Aside0.mk H
       clear H
       go_wp2_with (first | ((with_reducible refine gate_callee (f := 49) rfl ?_); refine goesL_ (some 28) rfl rfl Try.func49 (by kernel_rfl) rfl #[.slice A0 l0.length c0, .int .i64 (wrap64 ((l0.length : Int) - x6_1))] rfl (by (try simp only [List.map_toArray, List.map_cons, List.map_nil]); first | done | rfl | (simp only [List.length_drop, List.length_take]; rfl)) ?_; (with_reducible refine (timesyncref24_hull.calls k1 _ _ l0 (wrap64 ((l0.length : Int) - x6_1)) t276 t277 true _ ?side1 ?side2 A7.out).mono ?_); (case side1 => repeat (first | exact (Kd.C_below HR0.out HB.out) | (with_reducible refine Kd.C_alloc ?_ _) | (with_reducible refine Kd.C_drewN ?_ _) | (with_reducible refine Kd.C_drew ?_))); (case side2 => exact HC0.out); rintro e w22 ⟨rfl, hb⟩; refine ⟨_, rfl, ?_⟩; have n0_ := Aside0.mk (blk_below (g := gb274) (o := .cells #[.int .i64 x275000_1, .int .i64 x275001_1] 29 (0, 0)) (by (with_reducible repeat (first | refine blk_drewN ?_ _ | refine blk_drew ?_ | refine blk_alloc ?_ _)); exact BK274.out) hb); have n1_ := Aside0.mk (below_step (by repeat (first | (with_reducible first | exact HB.out | apply below_alloc | apply pw_below_drewN | apply below_drew1 | refine below_set ?_ GE274.out) | exact HB.out)) hb); clear BK274; clear HB; have BK274 := n0_; have HB := n1_; clear n0_ n1_; (try clear hb); (try clear hb2); (try clear hk); (try clear hi)) | ((with_reducible refine gate_dst (N := 7) rfl ?_); (try (refine gate_guard (by rfl) ?_; dsimp only)); refine box_event ?hg (N := 7) ?hd (cs := #[.int .i64 0, .int .i64 0]) (t := 29) ?hr ?_; (case hd => rfl); (case hg => rfl); (case hr => first | (go_simp; done) | (go_simp; rfl)); intro gb279 hg w23 hbox hb; have n0_ := Aside0.mk (blk_below (g := gb274) (o := .cells #[.int .i64 x275000_1, .int .i64 x275001_1] 29 (0, 0)) (by (with_reducible repeat (first | refine blk_drewN ?_ _ | refine blk_drew ?_ | refine blk_alloc ?_ _)); exact BK274.out) hb); have n1_ := Aside0.mk (below_step (by repeat (first | (with_reducible first | exact HB.out | apply below_alloc | apply pw_below_drewN | apply below_drew1 | refine below_set ?_ GE274.out) | exact HB.out)) hb); have n2_ := Aside0.mk (hbox); have n3_ := Aside0.mk ((by rw [hg]; exact (below_size (by repeat (first | (with_reducible first | exact HB.out | apply below_alloc | apply pw_below_drewN | apply below_drew1 | refine below_set ?_ GE274.out) | exact HB.out))) : w.heap.size ≤ gb279)); have n4_ := Aside0.mk ((by rw [hg]; exact (below_size (by repeat (first | (with_reducible first | exact HB.out | apply below_alloc | apply pw_below_drewN | apply below_drew1 | refine below_set ?_ GE274.out) | exact HB.out))) : w.heap.size ≤ gb279)); have n5_ := Aside0.mk ((by rw [hg]; exact Nat.ne_of_lt (blk_lt (g := gb274) (o := .cells #[.int .i64 x275000_1, .int .i64 x275001_1] 29 (0, 0)) (by (with_reducible repeat (first | refine blk_drewN ?_ _ | refine blk_drew ?_ | refine blk_alloc ?_ _)); exact BK274.out)) : gb274 ≠ gb279)); have n6_ := Aside0.mk ((by rw [hg]; exact Nat.ne_of_gt (blk_lt (g := gb274) (o := .cells #[.int .i64 x275000_1, .int .i64 x275001_1] 29 (0, 0)) (by (with_reducible repeat (first | refine blk_drewN ?_ _ | refine blk_drew ?_ | refine blk_alloc ?_ _)); exact BK274.out)) : gb279 ≠ gb274)); clear BK274; clear HB; have BK274 := n0_; have HB := n1_; have BK279 := n2_; have GW279 := n3_; have GE279 := n4_; have NB274_279 := n5_; have NB279_274 := n6_; clear n0_ n1_ n2_ n3_ n4_ n5_ n6_; clear hb hbox hg; have hnb24 := NB279_274.out; have hnc24 := NB274_279.out; have hcz25_0 : w23.cell? ⟨gb279, 0, none⟩ = some (.int .i64 0) := (blk_cell BK279.out 0).trans rfl; have hcz25_1 : w23.cell? ⟨gb279, 1, none⟩ = some (.int .i64 0) := (blk_cell BK279.out 1).trans rfl; have hfz25_0 := blk_frozen BK279.out 0; have hfz25_1 := blk_frozen BK279.out 1) | (go_at_call 50; (with_reducible refine (timesyncref24_inside.calls k1 _ _ l0 t276 t277 false t280 _ ?side1 ?side2 A9.out).mono ?_); (case side1 => exact Kd.C_below HR0.out (by repeat (first | (with_reducible first | exact HB.out | apply below_alloc | apply pw_below_drewN | apply below_drew1 | refine below_set ?_ GE274.out | refine below_set ?_ GE279.out) | exact HB.out))); (case side2 => exact HC0.out); rintro e w26 ⟨v281, rfl, ho0, hb⟩; have n0_ := Aside0.mk (Kd.R_lower ho0 (below_size (by repeat (first | (with_reducible first | exact HB.out | apply below_alloc | apply pw_below_drewN | apply below_drew1 | refine below_set ?_ GE274.out | refine below_set ?_ GE279.out) | exact HB.out)))); have n1_ := Aside0.mk (blk_below (g := gb274) (o := .cells #[.int .i64 x275000_1, .int .i64 x275001_1] 29 (0, 0)) (by (with_reducible repeat (first | refine blk_drewN ?_ _ | refine blk_drew ?_ | refine blk_alloc ?_ _)); refine blk_far ?_ NB274_279.out _; (with_reducible repeat (first | refine blk_drewN ?_ _ | refine blk_drew ?_ | refine blk_alloc ?_ _)); refine blk_far ?_ NB274_279.out _; (with_reducible repeat (first | refine blk_drewN ?_ _ | refine blk_drew ?_ | refine blk_alloc ?_ _)); exact BK274.out) hb); have n2_ := Aside0.mk (blk_below (g := gb279) (o := .cells #[.int .i64 t276, .int .i64 t277] 29 (0, 0)) (by (with_reducible repeat (first | refine blk_drewN ?_ _ | refine blk_drew ?_ | refine blk_alloc ?_ _)); refine blk_put (cs := #[.int .i64 t276, .int .i64 0]) ?_ 1 _ rfl; (with_reducible repeat (first | refine blk_drewN ?_ _ | refine blk_drew ?_ | refine blk_alloc ?_ _)); refine blk_put (cs := #[.int .i64 0, .int .i64 0]) ?_ 0 _ rfl; (with_reducible repeat (first | refine blk_drewN ?_ _ | refine blk_drew ?_ | refine blk_alloc ?_ _)); exact BK279.out) hb); have n3_ := Aside0.mk (below_step (by repeat (first | (with_reducible first | exact HB.out | apply below_alloc | apply pw_below_drewN | apply below_drew1 | refine below_set ?_ GE274.out | refine below_set ?_ GE279.out) | exact HB.out)) hb); clear BK274; clear BK279; clear HB; have HO282 := n0_; have BK274 := n1_; have BK279 := n2_; have HB := n3_; clear n0_ n1_ n2_ n3_; (try clear hb); (try clear hb2); (try clear hk); (try clear hi); (try clear ho0); obtain ⟨Ao27, co27, eo27⟩ := Kd.R_slice HO282.out; subst eo27))
       go_roundg k1
       case measure => have := HK1.out; omega
       case rel => exact ⟨(wrap64 (x6_1 + 1)), (x275000_1), (x275001_1), (by first | rfl | (simp; done) | (simp [*]; done)), H', ⟨by have := HK1.out; omega⟩, ⟨by (with_reducible repeat (first | refine blk_drewN ?_ _ | refine blk_drew ?_ | refine blk_alloc ?_ _)); exact BK274.out⟩, ⟨by repeat (first | (with_reducible first | exact HB.out | apply below_alloc | apply pw_below_drewN | apply below_drew1 | refine below_set ?_ GE274.out | refine below_set ?_ GE279.out) | exact HB.out)⟩⟩
     ·replace c8 := Bool.eq_false_iff.mpr c8
      subst c8
      have H1 : (timesyncref24_Select.l0 k1 l0 (wrap64 (x6_1 + 1))) = some (r1, r2, r3, r4) := by rw [if_neg (show ¬ (false = true) by decide)] at H; exact H
      clear H
      have H := H1
      clear H1
      have H' := Aside0.mk H
      clear H
      go_wp2_with (first | ((with_reducible refine gate_callee (f := 49) rfl ?_); refine goesL_ (some 28) rfl rfl Try.func49 (by kernel_rfl) rfl #[.slice A0 l0.length c0, .int .i64 (wrap64 ((l0.length : Int) - x6_1))] rfl (by (try simp only [List.map_toArray, List.map_cons, List.map_nil]); first | done | rfl | (simp only [List.length_drop, List.length_take]; rfl)) ?_; (with_reducible refine (timesyncref24_hull.calls k1 _ _ l0 (wrap64 ((l0.length : Int) - x6_1)) t276 t277 false _ ?side1 ?side2 A7.out).mono ?_); (case side1 => repeat (first | exact (Kd.C_below HR0.out HB.out) | (with_reducible refine Kd.C_alloc ?_ _) | (with_reducible refine Kd.C_drewN ?_ _) | (with_reducible refine Kd.C_drew ?_))); (case side2 => exact HC0.out); rintro e w28 ⟨rfl, hb⟩; refine ⟨_, rfl, ?_⟩; have n0_ := Aside0.mk (blk_below (g := gb274) (o := .cells #[.int .i64 x275000_1, .int .i64 x275001_1] 29 (0, 0)) (by (with_reducible repeat (first | refine blk_drewN ?_ _ | refine blk_drew ?_ | refine blk_alloc ?_ _)); exact BK274.out) hb); have n1_ := Aside0.mk (below_step (by repeat (first | (with_reducible first | exact HB.out | apply below_alloc | apply pw_below_drewN | apply below_drew1 | refine below_set ?_ GE274.out) | exact HB.out)) hb); clear BK274; clear HB; have BK274 := n0_; have HB := n1_; clear n0_ n1_; (try clear hb); (try clear hb2); (try clear hk); (try clear hi)) | ((with_reducible refine gate_dst (N := 7) rfl ?_); (try (refine gate_guard (by rfl) ?_; dsimp only)); refine box_event ?hg (N := 7) ?hd (cs := #[.int .i64 0, .int .i64 0]) (t := 29) ?hr ?_; (case hd => rfl); (case hg => rfl); (case hr => first | (go_simp; done) | (go_simp; rfl)); intro gb279 hg w29 hbox hb; have n0_ := Aside0.mk (blk_below (g := gb274) (o := .cells #[.int .i64 x275000_1, .int .i64 x275001_1] 29 (0, 0)) (by (with_reducible repeat (first | refine blk_drewN ?_ _ | refine blk_drew ?_ | refine blk_alloc ?_ _)); exact BK274.out) hb); have n1_ := Aside0.mk (below_step (by repeat (first | (with_reducible first | exact HB.out | apply below_alloc | apply pw_below_drewN | apply below_drew1 | refine below_set ?_ GE274.out) | exact HB.out)) hb); have n2_ := Aside0.mk (hbox); have n3_ := Aside0.mk ((by rw [hg]; exact (below_size (by repeat (first | (with_reducible first | exact HB.out | apply below_alloc | apply pw_below_drewN | apply below_drew1 | refine below_set ?_ GE274.out) | exact HB.out))) : w.heap.size ≤ gb279)); have n4_ := Aside0.mk ((by rw [hg]; exact (below_size (by repeat (first | (with_reducible first | exact HB.out | apply below_alloc | apply pw_below_drewN | apply below_drew1 | refine below_set ?_ GE274.out) | exact HB.out))) : w.heap.size ≤ gb279)); have n5_ := Aside0.mk ((by rw [hg]; exact Nat.ne_of_lt (blk_lt (g := gb274) (o := .cells #[.int .i64 x275000_1, .int .i64 x275001_1] 29 (0, 0)) (by (with_reducible repeat (first | refine blk_drewN ?_ _ | refine blk_drew ?_ | refine blk_alloc ?_ _)); exact BK274.out)) : gb274 ≠ gb279)); have n6_ := Aside0.mk ((by rw [hg]; exact Nat.ne_of_gt (blk_lt (g := gb274) (o := .cells #[.int .i64 x275000_1, .int .i64 x275001_1] 29 (0, 0)) (by (with_reducible repeat (first | refine blk_drewN ?_ _ | refine blk_drew ?_ | refine blk_alloc ?_ _)); exact BK274.out)) : gb279 ≠ gb274)); clear BK274; clear HB; have BK274 := n0_; have HB := n1_; have BK279 := n2_; have GW279 := n3_; have GE279 := n4_; have NB274_279 := n5_; have NB279_274 := n6_; clear n0_ n1_ n2_ n3_ n4_ n5_ n6_; clear hb hbox hg; have hnb30 := NB279_274.out; have hnc30 := NB274_279.out; have hcz31_0 : w29.cell? ⟨gb279, 0, none⟩ = some (.int .i64 0) := (blk_cell BK279.out 0).trans rfl; have hcz31_1 : w29.cell? ⟨gb279, 1, none⟩ = some (.int .i64 0) := (blk_cell BK279.out 1).trans rfl; have hfz31_0 := blk_frozen BK279.out 0; have hfz31_1 := blk_frozen BK279.out 1))
      go_roundg k1
      case measure => have := HK1.out; omega
      case rel => exact ⟨(wrap64 (x6_1 + 1)), (x275000_1), (x275001_1), (by first | rfl | (simp; done) | (simp [*]; done)), H', ⟨by have := HK1.out; omega⟩, ⟨by (with_reducible repeat (first | refine blk_drewN ?_ _ | refine blk_drew ?_ | refine blk_alloc ?_ _)); refine blk_far ?_ NB274_279.out _; (with_reducible repeat (first | refine blk_drewN ?_ _ | refine blk_drew ?_ | refine blk_alloc ?_ _)); refine blk_far ?_ NB274_279.out _; (with_reducible repeat (first | refine blk_drewN ?_ _ | refine blk_drew ?_ | refine blk_alloc ?_ _)); exact BK274.out⟩, ⟨by repeat (first | (with_reducible first | exact HB.out | apply below_alloc | apply pw_below_drewN | apply below_drew1 | refine below_set ?_ GE274.out | refine below_set ?_ GE279.out) | exact HB.out)⟩⟩
    ·rw [if_neg c6] at H
     have c6b0 : decide ((wrap64 (2 * x6_1)) < (l0.length : Int)) = false := decide_eq_false c6
     clear c6
     simp only [Option.some.injEq, Prod.mk.injEq] at H
     obtain ⟨rfl, rfl, rfl, rfl⟩ := H
     have hcz32_0 : wr.cell? ⟨gb274, 0, none⟩ = some (.int .i64 x275000_1) := (blk_cell BK274.out 0).trans rfl
     have hcz32_1 : wr.cell? ⟨gb274, 1, none⟩ = some (.int .i64 x275001_1) := (blk_cell BK274.out 1).trans rfl
     have hfz32_0 := blk_frozen BK274.out 0
     have hfz32_1 := blk_frozen BK274.out 1
     go_wp2
     refine bodyPost_ret (results_list (rs := [.tmp 2, .cell 3 29, .tmp 4]) rfl (by simp) (.tmp (.cell gb274 29 #[.int .i64 0, .int .i64 0] (0, 0) _ rfl (by (with_reducible repeat (first | refine blk_drewN ?_ _ | refine blk_drew ?_ | refine blk_alloc ?_ _)); refine blk_put (cs := #[.int .i64 0, .int .i64 x275001_1]) ?_ 1 _ rfl; (with_reducible repeat (first | refine blk_drewN ?_ _ | refine blk_drew ?_ | refine blk_alloc ?_ _)); refine blk_put (cs := #[.int .i64 x275000_1, .int .i64 x275001_1]) ?_ 0 _ rfl; (with_reducible repeat (first | refine blk_drewN ?_ _ | refine blk_drew ?_ | refine blk_alloc ?_ _)); exact BK274.out) Try.underlying29 rfl (by kernel_rfl) (.tmp .nil)))) rfl ?_
     exact ⟨_, by first | rfl | (simp [errW_none, errW_some] <;> rfl) | (simp [*, errW_none, errW_some] <;> rfl), by first | exact Kd.R_nil _ _ _ _ _ | exact Kd.N_nil _ _ _ _ _ | exact Kd.V_nil _ _ _ _ _ | exact Kd.Q_nil _ _ _ _ _ | exact Kd.S_nil _ _ _ _ _, by repeat (first | (with_reducible first | exact HB.out | apply below_alloc | apply pw_below_drewN | apply below_drew1 | refine below_set ?_ GE274.out) | exact HB.out)⟩
 ·rw [if_neg c3] at H
  have c3b0 : (t275 == 0) = false := beq_eq_false_iff_ne.mpr c3
  have c3b1 : (t275 != 0) = true := bne_iff_ne.mpr c3
  simp only [Option.some.injEq, Prod.mk.injEq] at H
  obtain ⟨rfl, rfl, rfl, rfl⟩ := H
  go_enter Try.func18, Try.ntmps18
  go_wp2_with (first | ((with_reducible refine gate_dst (N := 3) rfl ?_); (try (refine gate_guard (by rfl) ?_; dsimp only)); refine box_event ?hg (N := 3) ?hd (cs := #[.int .i64 0, .int .i64 0]) (t := 29) ?hr ?_; (case hd => rfl); (case hg => rfl); (case hr => first | (go_simp; done) | (go_simp; rfl)); intro gb274 hg w33 hbox hb; have n0_ := Aside0.mk (below_step (by repeat (first | (with_reducible first | exact HB.out | apply below_alloc | apply pw_below_drewN | apply below_drew1) | exact HB.out)) hb); have n1_ := Aside0.mk (hbox); have n2_ := Aside0.mk ((by rw [hg]; exact (below_size (by repeat (first | (with_reducible first | exact HB.out | apply below_alloc | apply pw_below_drewN | apply below_drew1) | exact HB.out))) : w.heap.size ≤ gb274)); have n3_ := Aside0.mk ((by rw [hg]; exact (below_size (by repeat (first | (with_reducible first | exact HB.out | apply below_alloc | apply pw_below_drewN | apply below_drew1) | exact HB.out))) : w.heap.size ≤ gb274)); clear HB; have HB := n0_; have BK274 := n1_; have GW274 := n2_; have GE274 := n3_; clear n0_ n1_ n2_ n3_; clear hb hbox hg) | ((with_reducible refine gate_callee (f := 16) rfl ?_); refine goesL_ (some 10) rfl rfl Try.func16 (by kernel_rfl) rfl #[.slice A0 l0.length c0] rfl (by (try simp only [List.map_toArray, List.map_cons, List.map_nil]); first | done | rfl | (simp only [List.length_drop, List.length_take]; rfl)) ?_; (with_reducible refine (timesyncref24_Check.calls k _ _ l0 t275 _ ?side1 ?side2 A2.out).mono ?_); (case side1 => repeat (first | exact (Kd.C_below HR0.out HB.out) | (with_reducible refine Kd.C_alloc ?_ _) | (with_reducible refine Kd.C_drewN ?_ _) | (with_reducible refine Kd.C_drew ?_))); (case side2 => exact HC0.out); rintro e w34 ⟨rfl, hb⟩; refine ⟨_, rfl, ?_⟩; have n0_ := Aside0.mk (blk_below (g := gb274) (o := .cells #[.int .i64 0, .int .i64 0] 29 (0, 0)) (by (with_reducible repeat (first | refine blk_drewN ?_ _ | refine blk_drew ?_ | refine blk_alloc ?_ _)); exact BK274.out) hb); have n1_ := Aside0.mk (below_step (by repeat (first | (with_reducible first | exact HB.out | apply below_alloc | apply pw_below_drewN | apply below_drew1 | refine below_set ?_ GE274.out) | exact HB.out)) hb); clear BK274; clear HB; have BK274 := n0_; have HB := n1_; clear n0_ n1_; (try clear hb); (try clear hb2); (try clear hk); (try clear hi); have hcz35_0 : w34.cell? ⟨gb274, 0, none⟩ = some (.int .i64 0) := (blk_cell BK274.out 0).trans rfl; have hcz35_1 : w34.cell? ⟨gb274, 1, none⟩ = some (.int .i64 0) := (blk_cell BK274.out 1).trans rfl; have hfz35_0 := blk_frozen BK274.out 0; have hfz35_1 := blk_frozen BK274.out 1))
  refine bodyPost_ret (results_list (rs := [.tmp 2, .cell 3 29, .tmp 4]) rfl (by simp) (.tmp (.cell gb274 29 #[.int .i64 0, .int .i64 0] (0, 0) _ rfl (by (with_reducible repeat (first | refine blk_drewN ?_ _ | refine blk_drew ?_ | refine blk_alloc ?_ _)); refine blk_put (cs := #[.int .i64 0, .int .i64 0]) ?_ 1 _ rfl; (with_reducible repeat (first | refine blk_drewN ?_ _ | refine blk_drew ?_ | refine blk_alloc ?_ _)); refine blk_put (cs := #[.int .i64 0, .int .i64 0]) ?_ 0 _ rfl; (with_reducible repeat (first | refine blk_drewN ?_ _ | refine blk_drew ?_ | refine blk_alloc ?_ _)); exact BK274.out) Try.underlying29 rfl (by kernel_rfl) (.tmp .nil)))) rfl ?_
  exact ⟨_, by first | rfl | (simp [errW_none, errW_some] <;> rfl) | (simp [*, errW_none, errW_some] <;> rfl), by first | exact Kd.R_nil _ _ _ _ _ | exact Kd.N_nil _ _ _ _ _ | exact Kd.V_nil _ _ _ _ _ | exact Kd.Q_nil _ _ _ _ _ | exact Kd.S_nil _ _ _ _ _, by repeat (first | (with_reducible first | exact HB.out | apply below_alloc | apply pw_below_drewN | apply below_drew1 | refine below_set ?_ GE274.out) | exact HB.out)⟩

end Go.Proofs.Ytlfilhplklifjaa.X

namespace Go.Proofs.Ytlfilhplklifjaa.X
open Go.RowKit Go.Proofs.YtlfilhplklifjaaW.PrintWords Go.Proofs.YtlfilhplklifjaaW.PrintLast Go.Proofs.YtlfilhplklifjaaW.PrintMore
attribute [local go_sem] max2_int min2_int max_two min_two max_three min_three max_four min_four   -- for this text's walks alone
set_option linter.unusedVariables false
set_option linter.unusedSimpArgs false

/-! ### timesyncref24_Falsetickers: function 20 -/
def timesyncref24_Falsetickers.f (k : Nat) (l0 : List (S37)) : Option (List Int × Int) := (timesyncref24_Select.f k l0).bind fun bt286 => (if bt286.2.2.2 = 0 then ((timesyncref24_inside.f k l0 bt286.2.1 bt286.2.2.1 false).bind fun t293 => (some (t293, 0))) else (some (([] : List Int), bt286.2.2.2)))
theorem timesyncref24_Falsetickers.mono : ∀ a0 k, LeO (timesyncref24_Falsetickers.f k a0) (timesyncref24_Falsetickers.f (k + 1) a0) := by
 intro a0 k
 unfold timesyncref24_Falsetickers.f
 repeat' first
   | (with_reducible exact timesyncref24_Select.mono _ _)
   | (with_reducible exact timesyncref24_inside.mono _ _ _ _ _)
   | (with_reducible exact LeO.refl _)
   | (with_reducible exact LeO.none _)
   | (with_reducible refine LeO.ite ?_ ?_)
   | (with_reducible refine LeO.bind ?_ (fun _ => ?_))
   | exact timesyncref24_Select.mono _ _
   | exact timesyncref24_inside.mono _ _ _ _ _
   | exact LeO.none _
   | refine LeO.ite ?_ ?_
   | refine LeO.bind ?_ (fun _ => ?_)
set_option maxHeartbeats 8000000 in
set_option maxRecDepth 100000 in
theorem timesyncref24_Falsetickers.calls (k : Nat) (A0 : Option Addr) (c0 : Nat) (l0 : List (S37)) (r1 : List Int) (r2 : Int) (w : World) (hr0 : Kd.C k37 w A0 l0.length l0) (hc0 : l0.length ≤ c0) (h : timesyncref24_Falsetickers.f k l0 = some (r1, r2)) :
  Calls Try.prog 20 #[.slice A0 l0.length c0] w fun e w' => ∃ v0_ : Value, e = .returned (.tuple #[v0_, .int .i64 r2]) ∧ Kd.R (Kd.int .i64) 3 w' w.heap.size (fun _ => True) v0_ r1 ∧ Below w.heap.size w w' := by
 have hu29 := Try.underlying29
 have HR0 := Aside0.mk hr0
 have HC0 := Aside0.mk hc0
 clear hr0 hc0
 have HB := Aside0.mk (Below.refl w.heap.size w)
 have H : ((timesyncref24_Select.f k l0).bind fun bt286 => (if bt286.2.2.2 = 0 then ((timesyncref24_inside.f k l0 bt286.2.1 bt286.2.2.1 false).bind fun t293 => (some (t293, 0))) else (some (([] : List Int), bt286.2.2.2)))) = some (r1, r2) := h
 clear h
 replace H := Option.bind_eq_some_iff.mp H
 obtain ⟨⟨t286, t289, t290, t291⟩, A20, H⟩ := H
 replace H : (if t291 = 0 then ((timesyncref24_inside.f k l0 t289 t290 false).bind fun t293 => (some (t293, 0))) else (some (([] : List Int), t291))) = some (r1, r2) := H
 have A2 := Aside0.mk A20
 clear A20
 by_cases c3 : t291 = 0
 ·rw [if_pos c3] at H
  have c3b0 : (t291 == 0) = true := beq_iff_eq.mpr c3
  have c3b1 : (t291 != 0) = false := bne_eq_false_iff_eq.mpr c3
  clear c3
  replace H := Option.bind_eq_some_iff.mp H
  obtain ⟨t293, A40, H⟩ := H
  replace H : (some (t293, 0)) = some (r1, r2) := H
  have A4 := Aside0.mk A40
  clear A40
  simp only [Option.some.injEq, Prod.mk.injEq] at H
  obtain ⟨rfl, rfl⟩ := H
  go_enter Try.func20, Try.ntmps20
  go_wp2_with (first | ((with_reducible refine gate_callee (f := 18) rfl ?_); refine goesL_ (some 9) rfl rfl Try.func18 (by kernel_rfl) rfl #[.slice A0 l0.length c0] rfl (by (try simp only [List.map_toArray, List.map_cons, List.map_nil]); first | done | rfl | (simp only [List.length_drop, List.length_take]; rfl)) ?_; (with_reducible refine (timesyncref24_Select.calls k _ _ l0 t286 t289 t290 t291 _ ?side1 ?side2 A2.out).mono ?_); (case side1 => repeat (first | exact HR0.out | (with_reducible refine Kd.C_alloc ?_ _) | (with_reducible refine Kd.C_drewN ?_ _) | (with_reducible refine Kd.C_drew ?_))); (case side2 => exact HC0.out); rintro e w5 ⟨v287, rfl, ho0, hb⟩; refine ⟨_, rfl, ?_⟩; have n0_ := Aside0.mk (Kd.R_lower ho0 (below_size (by repeat (first | (with_reducible first | exact HB.out | apply below_alloc | apply pw_below_drewN | apply below_drew1) | exact HB.out)))); have n1_ := Aside0.mk (below_step (by repeat (first | (with_reducible first | exact HB.out | apply below_alloc | apply pw_below_drewN | apply below_drew1) | exact HB.out)) hb); clear HB; have HO288 := n0_; have HB := n1_; clear n0_ n1_; (try clear hb); (try clear hb2); (try clear hk); (try clear hi); (try clear ho0)) | ((with_reducible refine gate_dst (N := 5) rfl ?_); refine box_event ?hg (N := 5) ?hd (cs := #[.int .i64 0, .int .i64 0]) (t := 29) ?hr ?_; (case hd => rfl); (case hg => rfl); (case hr => first | (go_simp; done) | (go_simp; rfl)); intro gb292 hg w6 hbox hb; have n0_ := Aside0.mk (Kd.R_below (by (with_reducible repeat (first | apply Kd.R_alloc | apply Kd.R_drewN | apply Kd.R_drew)); exact HO288.out) hb); have n1_ := Aside0.mk (below_step (by repeat (first | (with_reducible first | exact HB.out | apply below_alloc | apply pw_below_drewN | apply below_drew1) | exact HB.out)) hb); have n2_ := Aside0.mk (hbox); have n3_ := Aside0.mk ((by rw [hg]; exact (below_size (by repeat (first | (with_reducible first | exact HB.out | apply below_alloc | apply pw_below_drewN | apply below_drew1) | exact HB.out))) : w.heap.size ≤ gb292)); have n4_ := Aside0.mk ((by rw [hg]; exact (below_size (by repeat (first | (with_reducible first | exact HB.out | apply below_alloc | apply pw_below_drewN | apply below_drew1) | exact HB.out))) : w.heap.size ≤ gb292)); clear HO288; clear HB; have HO288 := n0_; have HB := n1_; have BK292 := n2_; have GW292 := n3_; have GE292 := n4_; clear n0_ n1_ n2_ n3_ n4_; clear hb hbox hg; have hcz7_0 : w6.cell? ⟨gb292, 0, none⟩ = some (.int .i64 0) := (blk_cell BK292.out 0).trans rfl; have hcz7_1 : w6.cell? ⟨gb292, 1, none⟩ = some (.int .i64 0) := (blk_cell BK292.out 1).trans rfl; have hfz7_0 := blk_frozen BK292.out 0; have hfz7_1 := blk_frozen BK292.out 1) | ((with_reducible refine gate_callee (f := 50) rfl ?_); refine goesL_ (some 18) rfl rfl Try.func50 (by kernel_rfl) rfl #[.slice A0 l0.length c0, .agg #[.int .i64 t289, .int .i64 t290], .bool false] rfl (by (try simp only [List.map_toArray, List.map_cons, List.map_nil]); first | done | rfl | (simp only [List.length_drop, List.length_take]; rfl)) ?_; (with_reducible refine (timesyncref24_inside.calls k _ _ l0 t289 t290 false t293 _ ?side1 ?side2 A4.out).mono ?_); (case side1 => exact Kd.C_below HR0.out (by repeat (first | (with_reducible first | exact HB.out | apply below_alloc | apply pw_below_drewN | apply below_drew1 | refine below_set ?_ GE292.out) | exact HB.out))); (case side2 => exact HC0.out); rintro e w8 ⟨v294, rfl, ho0, hb⟩; refine ⟨_, rfl, ?_⟩; have n0_ := Aside0.mk (Kd.R_elder' (by (with_reducible repeat (first | apply Kd.R_alloc | apply Kd.R_drewN | apply Kd.R_drew)); exact (Kd.R_mono (Kd.R_far (p := ⟨gb292, 1, none⟩) (Kd.R_far (p := ⟨gb292, 0, none⟩) (Kd.R_types HO288.out BK292.out (by decide)) (fun _ hk => hk.2) (.int .i64 t289)) (fun _ hk => hk.2) (.int .i64 t290)) (fun _ h_ => h_.1))) (Kd.R_base ho0) hb); have n1_ := Aside0.mk (Kd.R_lower (Kd.R_new' ho0 (Kd.R_lt (by (with_reducible repeat (first | apply Kd.R_alloc | apply Kd.R_drewN | apply Kd.R_drew)); exact (Kd.R_mono (Kd.R_far (p := ⟨gb292, 1, none⟩) (Kd.R_far (p := ⟨gb292, 0, none⟩) (Kd.R_types HO288.out BK292.out (by decide)) (fun _ hk => hk.2) (.int .i64 t289)) (fun _ hk => hk.2) (.int .i64 t290)) (fun _ h_ => h_.1))))) (below_size (by repeat (first | (with_reducible first | exact HB.out | apply below_alloc | apply pw_below_drewN | apply below_drew1 | refine below_set ?_ GE292.out) | exact HB.out)))); have n2_ := Aside0.mk (blk_below (g := gb292) (o := .cells #[.int .i64 t289, .int .i64 t290] 29 (0, 0)) (by (with_reducible repeat (first | refine blk_drewN ?_ _ | refine blk_drew ?_ | refine blk_alloc ?_ _)); refine blk_put (cs := #[.int .i64 t289, .int .i64 0]) ?_ 1 _ rfl; (with_reducible repeat (first | refine blk_drewN ?_ _ | refine blk_drew ?_ | refine blk_alloc ?_ _)); refine blk_put (cs := #[.int .i64 0, .int .i64 0]) ?_ 0 _ rfl; (with_reducible repeat (first | refine blk_drewN ?_ _ | refine blk_drew ?_ | refine blk_alloc ?_ _)); exact BK292.out) hb); have n3_ := Aside0.mk (below_step (by repeat (first | (with_reducible first | exact HB.out | apply below_alloc | apply pw_below_drewN | apply below_drew1 | refine below_set ?_ GE292.out) | exact HB.out)) hb); clear HO288; clear BK292; clear HB; have HO288 := n0_; have HO295 := n1_; have BK292 := n2_; have HB := n3_; clear n0_ n1_ n2_ n3_; (try clear hb); (try clear hb2); (try clear hk); (try clear hi); (try clear ho0)))
  go_ret2
  exact ⟨_, by first | rfl | (simp [errW_none, errW_some] <;> rfl) | (simp [*, errW_none, errW_some] <;> rfl), by (with_reducible repeat (first | apply Kd.R_alloc | apply Kd.R_drewN | apply Kd.R_drew)); exact Kd.R_mono HO295.out (fun _ hk => trivial), by repeat (first | (with_reducible first | exact HB.out | apply below_alloc | apply pw_below_drewN | apply below_drew1 | refine below_set ?_ GE292.out) | exact HB.out)⟩
 ·rw [if_neg c3] at H
  have c3b0 : (t291 == 0) = false := beq_eq_false_iff_ne.mpr c3
  have c3b1 : (t291 != 0) = true := bne_iff_ne.mpr c3
  simp only [Option.some.injEq, Prod.mk.injEq] at H
  obtain ⟨rfl, rfl⟩ := H
  go_enter Try.func20, Try.ntmps20
  go_wp2_with (first | ((with_reducible refine gate_callee (f := 18) rfl ?_); refine goesL_ (some 9) rfl rfl Try.func18 (by kernel_rfl) rfl #[.slice A0 l0.length c0] rfl (by (try simp only [List.map_toArray, List.map_cons, List.map_nil]); first | done | rfl | (simp only [List.length_drop, List.length_take]; rfl)) ?_; (with_reducible refine (timesyncref24_Select.calls k _ _ l0 t286 t289 t290 t291 _ ?side1 ?side2 A2.out).mono ?_); (case side1 => repeat (first | exact HR0.out | (with_reducible refine Kd.C_alloc ?_ _) | (with_reducible refine Kd.C_drewN ?_ _) | (with_reducible refine Kd.C_drew ?_))); (case side2 => exact HC0.out); rintro e w9 ⟨v287, rfl, ho0, hb⟩; refine ⟨_, rfl, ?_⟩; have n0_ := Aside0.mk (Kd.R_lower ho0 (below_size (by repeat (first | (with_reducible first | exact HB.out | apply below_alloc | apply pw_below_drewN | apply below_drew1) | exact HB.out)))); have n1_ := Aside0.mk (below_step (by repeat (first | (with_reducible first | exact HB.out | apply below_alloc | apply pw_below_drewN | apply below_drew1) | exact HB.out)) hb); clear HB; have HO288 := n0_; have HB := n1_; clear n0_ n1_; (try clear hb); (try clear hb2); (try clear hk); (try clear hi); (try clear ho0)) | ((with_reducible refine gate_dst (N := 5) rfl ?_); refine box_event ?hg (N := 5) ?hd (cs := #[.int .i64 0, .int .i64 0]) (t := 29) ?hr ?_; (case hd => rfl); (case hg => rfl); (case hr => first | (go_simp; done) | (go_simp; rfl)); intro gb292 hg w10 hbox hb; have n0_ := Aside0.mk (Kd.R_below (by (with_reducible repeat (first | apply Kd.R_alloc | apply Kd.R_drewN | apply Kd.R_drew)); exact HO288.out) hb); have n1_ := Aside0.mk (below_step (by repeat (first | (with_reducible first | exact HB.out | apply below_alloc | apply pw_below_drewN | apply below_drew1) | exact HB.out)) hb); have n2_ := Aside0.mk (hbox); have n3_ := Aside0.mk ((by rw [hg]; exact (below_size (by repeat (first | (with_reducible first | exact HB.out | apply below_alloc | apply pw_below_drewN | apply below_drew1) | exact HB.out))) : w.heap.size ≤ gb292)); have n4_ := Aside0.mk ((by rw [hg]; exact (below_size (by repeat (first | (with_reducible first | exact HB.out | apply below_alloc | apply pw_below_drewN | apply below_drew1) | exact HB.out))) : w.heap.size ≤ gb292)); clear HO288; clear HB; have HO288 := n0_; have HB := n1_; have BK292 := n2_; have GW292 := n3_; have GE292 := n4_; clear n0_ n1_ n2_ n3_ n4_; clear hb hbox hg; have hcz11_0 : w10.cell? ⟨gb292, 0, none⟩ = some (.int .i64 0) := (blk_cell BK292.out 0).trans rfl; have hcz11_1 : w10.cell? ⟨gb292, 1, none⟩ = some (.int .i64 0) := (blk_cell BK292.out 1).trans rfl; have hfz11_0 := blk_frozen BK292.out 0; have hfz11_1 := blk_frozen BK292.out 1))
  go_ret2
  exact ⟨_, by first | rfl | (simp [errW_none, errW_some] <;> rfl) | (simp [*, errW_none, errW_some] <;> rfl), by first | exact Kd.R_nil _ _ _ _ _ | exact Kd.N_nil _ _ _ _ _ | exact Kd.V_nil _ _ _ _ _ | exact Kd.Q_nil _ _ _ _ _ | exact Kd.S_nil _ _ _ _ _, by repeat (first | (with_reducible first | exact HB.out | apply below_alloc | apply pw_below_drewN | apply below_drew1 | refine below_set ?_ GE292.out) | exact HB.out)⟩

end Go.Proofs.Ytlfilhplklifjaa.X

/- The selection, the falsetickers, the majority: both texts tell the same. -/
namespace Go.Proofs.Ytlfilhplklifjaa.PA
open Go.RowKit Go.Proofs.Ytlfilhplklifjaa.X Go.Proofs.YtlfilhplklifjaaW.PrintWords Go.Proofs.YtlfilhplklifjaaW.PrintLast

theorem eq_from (x y : List Int) (hx : x.length < 9223372036854775807) (he : x.length = y.length) : ∀ d i, i + d = x.length → Ev (fun k => slices_Equal_int_int.l0 k x y x.length i) (decide (x.drop i = y.drop i)) := by
  intro d
  induction d with
  | zero =>
    intro i hi
    refine Ev.step (fun k => by rw [slices_Equal_int_int.l0]) ?_
    refine Ev.neg (by omega) (Ev.const ?_)
    rw [List.drop_eq_nil_of_le (by omega), List.drop_eq_nil_of_le (by omega)]
    simp
  | succ d ih =>
    intro i hi
    have h1 : i < x.length := by omega
    have h2 : i < y.length := by omega
    refine Ev.step (fun k => by rw [slices_Equal_int_int.l0]) ?_
    refine Ev.pos (by omega) (Ev.pos (by omega) (Ev.pos (by omega) (Ev.pos (by omega) ?_)))
    rw [rdI, rdI, wrap_nat (by omega)]
    rw [List.drop_eq_getElem_cons h1, List.drop_eq_getElem_cons h2]
    have e1 : x.getD i 0 = x[i] := by simp [List.getD, h1]
    have e2 : y.getD i 0 = y[i] := by simp [List.getD, h2]
    rw [e1, e2]
    by_cases h : x[i] = y[i]
    · refine Ev.pos h ?_
      have e : decide (x[i] :: x.drop (i + 1) = y[i] :: y.drop (i + 1)) = decide (x.drop (i + 1) = y.drop (i + 1)) := by
        refine decide_eq_decide.2 ?_
        simp only [List.cons.injEq, h, true_and]
      rw [e]
      exact ih (i + 1) (by omega)
    · refine Ev.neg h (Ev.const ?_)
      rw [decide_eq_false fun he => h (List.cons.inj he).1]
theorem eq_ints (x y : List Int) (hx : x.length < 9223372036854775807) : Ev (fun k => slices_Equal_int_int.f k x y) (decide (x = y)) := by
  unfold slices_Equal_int_int.f
  by_cases h : (x.length : Int) = (y.length : Int)
  · refine Ev.pos h ?_
    have := eq_from x y hx (by omega) x.length 0 (by omega)
    simpa using this
  · refine Ev.neg h (Ev.const ?_)
    have : x ≠ y := fun e => h (by rw [e])
    simp [this]

theorem idxFrom_parts (l : List S37) (p : S37 → Bool) : ∀ d i, (idxFrom l p d i).length + (idxFrom l (fun c => !p c) d i).length = d
  | 0, _ => rfl
  | d + 1, i => by
    have := idxFrom_parts l p d (i + 1)
    unfold idxFrom
    cases p (l.getD i z37) <;> simp <;> omega
theorem idx_parts (l : List S37) (lo hi : Int) : (idx l (pIn lo hi)).length + (idx l (pOut lo hi)).length = l.length := idxFrom_parts l (pIn lo hi) l.length 0
theorem idxFrom_le (l : List S37) (p : S37 → Bool) : ∀ d i, (idxFrom l p d i).length ≤ d
  | 0, _ => by simp [idxFrom]
  | d + 1, i => by
    have := idxFrom_le l p d (i + 1)
    unfold idxFrom
    split
    · simp; omega
    · omega
theorem idx_le (l : List S37) (p : S37 → Bool) : (idx l p).length ≤ l.length := idxFrom_le l p l.length 0

theorem spans_ok {l : List S37} (h : ∀ c ∈ l, OkC c) : ∀ s ∈ spans l, OkI s := by
  intro s hs
  obtain ⟨c, hc, rfl⟩ := List.mem_map.1 hs
  obtain ⟨_, _, h3, h4, h5, h6, _⟩ := h c hc
  unfold OkI span
  refine ⟨?_, ?_, ?_⟩ <;> simp only <;> omega
theorem valid_spans {l : List S37} (h : ∀ c ∈ l, OkC c) (hn : l.length ≤ 12) : valid (spans l) = spans l := by
  unfold valid
  rw [if_neg (by simp [spans]; omega), List.filter_eq_self.2 fun s hs => by simpa using spans_ok h s hs]

theorem hull_ex (v : List S29) (need : Int) : ∃ r : Int × Int × Bool, Ev (fun k => interval_Hull.f k v need) r ∧ HullSpec (valid v) need r.1 r.2.1 r.2.2 := by
  obtain ⟨a, b, o, h1, h2⟩ := impl_hull v need
  exact ⟨(a, b, o), h1, h2⟩
noncomputable def hullR (v : List S29) (need : Int) : Int × Int × Bool := Classical.choose (hull_ex v need)
theorem hullR_ev (v : List S29) (need : Int) : Ev (fun k => interval_Hull.f k v need) (hullR v need) := (Classical.choose_spec (hull_ex v need)).1
theorem hullR_spec (v : List S29) (need : Int) : HullSpec (valid v) need (hullR v need).1 (hullR v need).2.1 (hullR v need).2.2 := (Classical.choose_spec (hull_ex v need)).2
theorem ref_hullR {l : List S37} (hok : ∀ c ∈ l, OkC c) (hn : l.length ≤ 12) (need : Int) (h1 : 1 ≤ need) : Ev (fun k => timesyncref24_hull.f k l need) (hullR (spans l) need) := by
  obtain ⟨a, b, o, e1, e2⟩ := ref_hull l (by omega) hok need h1
  have h3 := hullR_spec (spans l) need
  rw [valid_spans hok hn] at h3
  obtain ⟨h4, h5, h6⟩ := e2.uniq h3
  have : (a, b, o) = hullR (spans l) need := by rw [h4, h5, h6]
  rw [← this]
  exact e1

/-- The selection from 'a' wrong ones on. -/
noncomputable def selFrom (l : List S37) : Nat → Nat → List Int × Int × Int × Int
  | 0, _ => ([], 0, 0, 11)
  | d + 1, a => if 2 * a < l.length then (if (hullR (spans l) ((l.length : Int) - a)).2.2 = true then
      (if (l.length : Int) - ((idx l (pIn (hullR (spans l) ((l.length : Int) - a)).1 (hullR (spans l) ((l.length : Int) - a)).2.1)).length : Int) ≤ a then (idx l (pIn (hullR (spans l) ((l.length : Int) - a)).1 (hullR (spans l) ((l.length : Int) - a)).2.1), (hullR (spans l) ((l.length : Int) - a)).1, (hullR (spans l) ((l.length : Int) - a)).2.1, 0)
       else selFrom l d (a + 1)) else selFrom l d (a + 1)) else ([], 0, 0, 11)
noncomputable def sel (l : List S37) : List Int × Int × Int × Int := if chk l = 0 then selFrom l (l.length + 1) 0 else ([], 0, 0, chk l)

theorem impl_spans (l : List S37) (hn : l.length ≤ 12) (hok : ∀ c ∈ l, OkC c) (r : List Int × Int × Int × Int) (hr : Ev (fun k => choose_Select.l1 k l (spans l) 0) r) :
    ∀ d i (acc : List S29), i + d = l.length → acc = spans (l.take i) → Ev (fun k => choose_Select.l0 k l acc l l.length i) r := by
  intro d
  induction d with
  | zero =>
    intro i acc hi ha
    refine Ev.step (fun k => by rw [choose_Select.l0]) ?_
    refine Ev.neg (by omega) ?_
    rw [List.take_of_length_le (by omega)] at ha
    subst ha
    exact hr
  | succ d ih =>
    intro i acc hi ha
    have hlt : i < l.length := by omega
    have hg : l.getD i z37 = l[i] := by simp [List.getD, hlt]
    have ho := hok l[i] (List.getElem_mem hlt)
    refine Ev.step (fun k => by rw [choose_Select.l0]) ?_
    refine Ev.pos (by omega) (Ev.pos (by omega) (Ev.pos (by omega) ?_))
    simp only [rd37, choose_span.f]
    refine Ev.some_bind ?_
    have el : acc.length = i := by rw [ha]; simp [spans]; omega
    refine Ev.pos (by omega) ?_
    obtain ⟨_, _, h3, h4, h5, h6, _⟩ := ho
    rw [hg, wrap_id (x := l[i].f1 - l[i].f2) (by omega) (by omega), wrap_id (x := l[i].f1 + l[i].f2) (by omega) (by omega), wrap_nat (by omega)]
    refine ih (i + 1) _ (by omega) ?_
    rw [ha, List.take_succ_eq_append_getElem hlt]
    unfold spans
    rw [List.map_append]
    rfl

theorem impl_sel_from (l : List S37) (hn : l.length ≤ 12) : ∀ d a, a + d = l.length + 1 → Ev (fun k => choose_Select.l1 k l (spans l) a) (selFrom l d a) := by
  intro d
  induction d with
  | zero =>
    intro a ha
    refine Ev.step (fun k => by rw [choose_Select.l1]) ?_
    refine Ev.neg ?_ (Ev.const rfl)
    rw [wrap_id (by omega) (by omega)]; omega
  | succ d ih =>
    intro a ha
    refine Ev.step (fun k => by rw [choose_Select.l1]) ?_
    rw [wrap_id (x := 2 * (a : Int)) (by omega) (by omega)]
    unfold selFrom
    by_cases h2 : 2 * a < l.length
    · rw [if_pos h2]
      refine Ev.pos (by omega) ?_
      rw [wrap_id (x := (l.length : Int) - a) (by omega) (by omega), wrap_nat (by omega)]
      refine Ev.bind' _ (hullR_ev (spans l) _) ?_
      by_cases h3 : (hullR (spans l) ((l.length : Int) - a)).2.2 = true
      · rw [if_pos h3]
        refine Ev.pos h3 (Ev.bind' _ (impl_in l (by omega) _ _) ?_)
        have hle := idx_le l (pIn (hullR (spans l) ((l.length : Int) - a)).1 (hullR (spans l) ((l.length : Int) - a)).2.1)
        rw [wrap_id (x := (l.length : Int) - _) (by omega) (by omega)]
        by_cases h4 : (l.length : Int) - ((idx l (pIn (hullR (spans l) ((l.length : Int) - a)).1 (hullR (spans l) ((l.length : Int) - a)).2.1)).length : Int) ≤ a
        · rw [if_pos h4]; exact Ev.pos h4 (Ev.const rfl)
        · rw [if_neg h4]; exact Ev.neg h4 (ih (a + 1) (by omega))
      · rw [if_neg h3]; exact Ev.neg h3 (ih (a + 1) (by omega))
    · rw [if_neg h2]
      exact Ev.neg (by omega) (Ev.const rfl)
theorem ref_sel_from (l : List S37) (hn : l.length ≤ 12) (hok : ∀ c ∈ l, OkC c) : ∀ d a, a + d = l.length + 1 → Ev (fun k => timesyncref24_Select.l0 k l a) (selFrom l d a) := by
  intro d
  induction d with
  | zero =>
    intro a ha
    refine Ev.step (fun k => by rw [timesyncref24_Select.l0]) ?_
    refine Ev.neg ?_ (Ev.const rfl)
    rw [wrap_id (by omega) (by omega)]; omega
  | succ d ih =>
    intro a ha
    refine Ev.step (fun k => by rw [timesyncref24_Select.l0]) ?_
    rw [wrap_id (x := 2 * (a : Int)) (by omega) (by omega)]
    unfold selFrom
    by_cases h2 : 2 * a < l.length
    · rw [if_pos h2]
      refine Ev.pos (by omega) ?_
      rw [wrap_id (x := (l.length : Int) - a) (by omega) (by omega), wrap_nat (by omega)]
      refine Ev.bind' _ (ref_hullR hok hn _ (by omega)) ?_
      by_cases h3 : (hullR (spans l) ((l.length : Int) - a)).2.2 = true
      · rw [if_pos h3]
        refine Ev.pos h3 (Ev.bind' _ (ref_out l (by omega) _ _) ?_)
        have hp := idx_parts l (hullR (spans l) ((l.length : Int) - a)).1 (hullR (spans l) ((l.length : Int) - a)).2.1
        by_cases h4 : (l.length : Int) - ((idx l (pIn (hullR (spans l) ((l.length : Int) - a)).1 (hullR (spans l) ((l.length : Int) - a)).2.1)).length : Int) ≤ a
        · rw [if_pos h4]; exact Ev.pos (by omega) (Ev.bind' _ (ref_in l (by omega) _ _) (Ev.const rfl))
        · rw [if_neg h4]; exact Ev.neg (by omega) (ih (a + 1) (by omega))
      · rw [if_neg h3]; exact Ev.neg h3 (ih (a + 1) (by omega))
    · rw [if_neg h2]
      exact Ev.neg (by omega) (Ev.const rfl)
theorem impl_select (l : List S37) : Ev (fun k => choose_Select.f k l) (sel l) := by
  unfold choose_Select.f sel
  refine Ev.bind' _ (impl_check l) ?_
  by_cases h : chk l = 0
  · rw [if_pos h]
    obtain ⟨hn, hok⟩ := chk_ok h
    exact Ev.pos h (impl_spans l hn hok _ (impl_sel_from l hn (l.length + 1) 0 (by omega)) l.length 0 [] (by omega) (by simp [spans]))
  · rw [if_neg h]; exact Ev.neg h (Ev.const rfl)
theorem ref_select (l : List S37) : Ev (fun k => timesyncref24_Select.f k l) (sel l) := by
  unfold timesyncref24_Select.f sel
  refine Ev.bind' _ (ref_check l) ?_
  by_cases h : chk l = 0
  · rw [if_pos h]
    obtain ⟨hn, hok⟩ := chk_ok h
    exact Ev.pos h (ref_sel_from l hn hok (l.length + 1) 0 (by omega))
  · rw [if_neg h]; exact Ev.neg h (Ev.const rfl)

/-- What a selection is. -/
structure SelOk (l : List S37) (p : List Int) (lo hi : Int) : Prop where
  chk0 : chk l = 0
  wit : ∃ a : Nat, 2 * a < l.length ∧ HullSpec (spans l) ((l.length : Int) - a) lo hi true ∧ (l.length : Int) - (p.length : Int) ≤ a ∧ ∀ b : Nat, b < a → ∀ lo' hi', HullSpec (spans l) ((l.length : Int) - b) lo' hi' true → (b : Int) < (l.length : Int) - ((idx l (pIn lo' hi')).length : Int)
  pos : p = idx l (pIn lo hi)
def SelNone (l : List S37) : Prop := ∀ a : Nat, 2 * a < l.length → ∀ lo hi, HullSpec (spans l) ((l.length : Int) - a) lo hi true → (a : Int) < (l.length : Int) - ((idx l (pIn lo hi)).length : Int)
theorem selFrom_spec {l : List S37} (h0 : chk l = 0) : ∀ d a, a + d = l.length + 1 → (∀ b : Nat, b < a → 2 * b < l.length → ∀ lo' hi', HullSpec (spans l) ((l.length : Int) - b) lo' hi' true → (b : Int) < (l.length : Int) - ((idx l (pIn lo' hi')).length : Int)) →
    (selFrom l d a = ([], 0, 0, 11) ∧ SelNone l) ∨ ∃ p lo hi, selFrom l d a = (p, lo, hi, 0) ∧ SelOk l p lo hi := by
  obtain ⟨hn, hok⟩ := chk_ok h0
  intro d
  induction d with
  | zero => exact fun a ha hb => .inl ⟨rfl, fun b h2 => hb b (by omega) h2⟩
  | succ d ih =>
    intro a ha hb
    have hs := hullR_spec (spans l) ((l.length : Int) - a)
    rw [valid_spans hok hn] at hs
    have next : (∀ lo' hi', HullSpec (spans l) ((l.length : Int) - a) lo' hi' true → (a : Int) < (l.length : Int) - ((idx l (pIn lo' hi')).length : Int)) → ∀ b : Nat, b < a + 1 → 2 * b < l.length → ∀ lo' hi', HullSpec (spans l) ((l.length : Int) - b) lo' hi' true → (b : Int) < (l.length : Int) - ((idx l (pIn lo' hi')).length : Int) := fun hx b hba h2 => by
      rcases Nat.lt_or_ge b a with h3 | h3
      · exact hb b h3 h2
      · have e : b = a := by omega
        subst e; exact hx
    unfold selFrom
    by_cases h2 : 2 * a < l.length
    · rw [if_pos h2]
      by_cases h3 : (hullR (spans l) ((l.length : Int) - a)).2.2 = true
      · rw [if_pos h3]
        rw [h3] at hs
        by_cases h4 : (l.length : Int) - ((idx l (pIn (hullR (spans l) ((l.length : Int) - a)).1 (hullR (spans l) ((l.length : Int) - a)).2.1)).length : Int) ≤ a
        · rw [if_pos h4]
          exact .inr ⟨_, _, _, rfl, h0, ⟨a, h2, hs, h4, fun b hba => hb b hba (by omega)⟩, rfl⟩
        · rw [if_neg h4]
          refine ih (a + 1) (by omega) (next fun lo' hi' hh => ?_)
          obtain ⟨e1, e2, _⟩ := hh.uniq hs
          rw [e1, e2]; omega
      · rw [if_neg h3]
        refine ih (a + 1) (by omega) (next fun lo' hi' hh => ?_)
        exact absurd (hh.uniq hs).2.2.symm h3
    · rw [if_neg h2]
      exact .inl ⟨rfl, fun b hb2 => hb b (by omega) hb2⟩
/-- The three ends of a selection. -/
theorem sel_cases (l : List S37) : (chk l ≠ 0 ∧ sel l = ([], 0, 0, chk l)) ∨ (chk l = 0 ∧ sel l = ([], 0, 0, 11) ∧ SelNone l) ∨ ∃ p lo hi, sel l = (p, lo, hi, 0) ∧ SelOk l p lo hi := by
  unfold sel
  by_cases h : chk l = 0
  · rw [if_pos h]
    rcases selFrom_spec h (l.length + 1) 0 (by omega) (fun b hb => by omega) with ⟨h1, h2⟩ | ⟨p, lo, hi, h1, h2⟩
    · exact .inr (.inl ⟨h, h1, h2⟩)
    · exact .inr (.inr ⟨p, lo, hi, h1, h2⟩)
  · rw [if_neg h]; exact .inl ⟨h, rfl⟩

noncomputable def fals (l : List S37) : List Int × Int := if (sel l).2.2.2 = 0 then (idx l (pOut (sel l).2.1 (sel l).2.2.1), 0) else ([], (sel l).2.2.2)
theorem sel_len (l : List S37) (h : (sel l).2.2.2 = 0) : l.length ≤ 12 ∧ ∀ c ∈ l, OkC c := by
  by_cases h0 : chk l = 0
  · exact chk_ok h0
  · unfold sel at h
    rw [if_neg h0] at h
    exact absurd h h0
theorem impl_fals (l : List S37) : Ev (fun k => choose_Falsetickers.f k l) (fals l) := by
  unfold choose_Falsetickers.f fals
  refine Ev.bind' _ (impl_select l) ?_
  by_cases h : (sel l).2.2.2 = 0
  · rw [if_pos h]
    exact Ev.pos h (Ev.bind' _ (impl_out l (by have := (sel_len l h).1; omega) _ _) (Ev.const rfl))
  · rw [if_neg h]; exact Ev.neg h (Ev.const rfl)
theorem ref_fals (l : List S37) : Ev (fun k => timesyncref24_Falsetickers.f k l) (fals l) := by
  unfold timesyncref24_Falsetickers.f fals
  refine Ev.bind' _ (ref_select l) ?_
  by_cases h : (sel l).2.2.2 = 0
  · rw [if_pos h]
    exact Ev.pos h (Ev.bind' _ (ref_out l (by have := (sel_len l h).1; omega) _ _) (Ev.const rfl))
  · rw [if_neg h]; exact Ev.neg h (Ev.const rfl)

/-! ### Majority -/
def maj (l : List S37) (lo hi : Int) : Bool := if chk l = 0 then (if lo > hi then false else decide (2 * (idx l (pMeet lo hi)).length > l.length)) else false
theorem impl_maj (l : List S37) (lo hi : Int) : Ev (fun k => choose_Majority.f k l lo hi) (maj l lo hi) := by
  unfold choose_Majority.f maj
  refine Ev.bind' _ (impl_check l) ?_
  by_cases h : chk l = 0
  · obtain ⟨hn, hok⟩ := chk_ok h
    rw [if_pos h]
    refine Ev.pos h ?_
    by_cases h2 : lo > hi
    · rw [if_pos h2]; exact Ev.pos h2 (Ev.const rfl)
    · rw [if_neg h2]
      refine Ev.neg h2 (Ev.bind' _ (impl_meet l (by omega) hok _ _) (Ev.const ?_))
      have := idx_le l (pMeet lo hi)
      rw [wrap_id (by omega) (by omega)]
      congr 1
      by_cases h3 : 2 * (idx l (pMeet lo hi)).length > l.length
      · rw [decide_eq_true h3, decide_eq_true (by omega)]
      · rw [decide_eq_false h3, decide_eq_false (by omega)]
  · rw [if_neg h]; exact Ev.neg h (Ev.const rfl)
theorem ref_maj_from (l : List S37) (hn : l.length ≤ 100) (hok : ∀ c ∈ l, OkC c) (lo hi : Int) : ∀ d i (n : Nat), i + d = l.length → n ≤ i →
    Ev (fun k => timesyncref24_Majority.l0 k l n i lo hi) (decide (2 * (n + (idxFrom l (pMeet lo hi) d i).length) > l.length)) := by
  intro d
  induction d with
  | zero =>
    intro i n hi' ha
    refine Ev.step (fun k => by rw [timesyncref24_Majority.l0]) ?_
    refine Ev.neg (by omega) (Ev.const ?_)
    rw [wrap_id (by omega) (by omega)]
    congr 1
    refine decide_eq_decide.2 ?_
    simp only [idxFrom, List.length_nil, Nat.add_zero]
    omega
  | succ d ih =>
    intro i n hi' ha
    have ho := okAt hok (show i < l.length by omega)
    obtain ⟨_, _, h3, h4, h5, h6, _⟩ := ho
    refine Ev.step (fun k => by rw [timesyncref24_Majority.l0]) ?_
    refine Ev.pos (by omega) (Ev.pos (by omega) ?_)
    simp only [rd37]
    rw [wrap_id (x := (l.getD i z37).f1 - (l.getD i z37).f2) (by omega) (by omega), wrap_id (x := (l.getD i z37).f1 + (l.getD i z37).f2) (by omega) (by omega), wrap_nat (i := i) (by omega), wrap_nat (i := n) (by omega)]
    unfold idxFrom
    by_cases g1 : (l.getD i z37).f1 - (l.getD i z37).f2 ≤ hi
    · by_cases g2 : (l.getD i z37).f1 + (l.getD i z37).f2 ≥ lo
      · have hp : pMeet lo hi (l.getD i z37) = true := by unfold pMeet; rw [decide_eq_true g1, decide_eq_true g2]; rfl
        rw [if_pos hp]
        refine Ev.pos g1 (Ev.pos g2 ?_)
        have := ih (i + 1) (n + 1) (by omega) (by omega)
        rw [show n + 1 + (idxFrom l (pMeet lo hi) d (i + 1)).length = n + ((i : Int) :: idxFrom l (pMeet lo hi) d (i + 1)).length by simp; omega] at this
        exact this
      · have hp : ¬ pMeet lo hi (l.getD i z37) = true := by unfold pMeet; rw [decide_eq_true g1, decide_eq_false g2]; simp
        rw [if_neg hp]
        exact Ev.pos g1 (Ev.neg g2 (ih (i + 1) n (by omega) (by omega)))
    · have hp : ¬ pMeet lo hi (l.getD i z37) = true := by unfold pMeet; rw [decide_eq_false g1]; simp
      rw [if_neg hp]
      exact Ev.neg g1 (ih (i + 1) n (by omega) (by omega))
theorem ref_maj (l : List S37) (lo hi : Int) : Ev (fun k => timesyncref24_Majority.f k l lo hi) (maj l lo hi) := by
  unfold timesyncref24_Majority.f maj
  refine Ev.bind' _ (ref_check l) ?_
  by_cases h : chk l = 0
  · obtain ⟨hn, hok⟩ := chk_ok h
    rw [if_pos h]
    refine Ev.pos h ?_
    refine Ev.step (fun k => by rw [timesyncref24_Majority.j0]) ?_
    by_cases h2 : lo > hi
    · rw [if_pos h2]; exact Ev.pos (by simpa using h2) (Ev.const rfl)
    · rw [if_neg h2]
      refine Ev.neg (by simpa using h2) ?_
      have := ref_maj_from l (by omega) hok lo hi l.length 0 0 (by omega) (by omega)
      simpa [idx] using this
  · rw [if_neg h]
    refine Ev.neg h (Ev.step (fun k => by rw [timesyncref24_Majority.j0]) ?_)
    exact Ev.pos rfl (Ev.const rfl)
end Go.Proofs.Ytlfilhplklifjaa.PA

/- The pure statement of ChooseMajority: both texts give the same answer. -/
namespace Go.Proofs.Ytlfilhplklifjaa.PureChooseMajority
open Go.RowKit Go.Proofs.Ytlfilhplklifjaa.X Go.Proofs.Ytlfilhplklifjaa.PA Go.Proofs.YtlfilhplklifjaaW.PrintWords
theorem ChooseMajority : ∀ (x0 : List (S37)) (x1 : S29), WFL37 x0 → WF29 x1 → ∃ k, timesynclaw24_ChooseMajority.f k x0 x1.f0 x1.f1 = some true := by
  intro l iv _ _
  refine Ev.rounds ?_
  unfold timesynclaw24_ChooseMajority.f
  exact Ev.ite_ (fun _ => awake24') (fun _ => Ev.bind' _ (impl_maj l iv.f0 iv.f1) (Ev.bind' _ (ref_maj l iv.f0 iv.f1) (Ev.pos (by simp) awake24')))
end Go.Proofs.Ytlfilhplklifjaa.PureChooseMajority

/- What an argument reads as, in the printed words: a type's reading gives cells of its kind, and bounds on the numbers. -/
namespace Go.Proofs.Ytlfilhplklifjaa.HO
open Go.RowKit Go.Proofs.YtlfilhplklifjaaW.PrintWords Go.Deep

structure Opens {α : Type} (P : Program) (t : TypeId) (d : Kd α) (B : α → Prop) : Prop where
  out : ∀ {H : Type} (enc : TypeId × Value → H) (w : World) (base : Nat) (spare : Nat → Bool) (held : Bool) (fuel : Nat) (cs : List Value) (x : DataW H × List MemPlace),
    DataW.trod enc P w base spare held fuel t cs = some x → ∃ a : α, d.K w a cs ∧ B a

theorem opens_int {P : Program} {t : TypeId} {k : IntKind} (ht : P.underlying t = some (.int k)) : Opens P t (Kd.int k) (fun n => (Lit.int k n).wf = true) := by
  constructor
  intro H enc w base spare held fuel cs x h
  obtain ⟨n, rfl, _, hw⟩ := DataW.trod_int ht h
  exact ⟨n, rfl, hw⟩
theorem opens_bool {P : Program} {t : TypeId} (ht : P.underlying t = some .bool) : Opens P t Kd.bool (fun _ => True) := by
  constructor
  intro H enc w base spare held fuel cs x h
  obtain ⟨b, rfl, _⟩ := DataW.trod_bool ht h
  exact ⟨b, rfl, trivial⟩

theorem opens_slice {α : Type} [Inhabited α] {P : Program} {t e : TypeId} {d : Kd α} {B : α → Prop} (he : Opens P e d B) (ht : P.underlying t = some (.slice e)) (hs : P.cellsOf e = d.sz) :
    Opens P t (Kd.slice e d) (fun xs => xs.length ≤ 9223372036854775807 ∧ ∀ x ∈ xs, B x) := by
  constructor
  intro H enc w base spare held fuel cs x h
  rcases open_slice ht h with ⟨rfl, _⟩ | ⟨a, len, cap, m, n, D, Pl, rfl, _, hl, hm, hmm, _, hx⟩
  · exact ⟨[], ⟨none, 0, rfl, Nat.le_refl _, rfl, by simp, fun h => by simp at h⟩, by simp, by simp⟩
  · have hlm : len ≤ m := by rw [hmm]; split <;> omega
    obtain ⟨X, hX⟩ := choose_lt (α := α) (n := len) (p := fun i x => B x ∧ ∃ c, c.length = d.sz ∧ d.K w x c ∧ ∀ j u, c[j]? = some u → w.cell? (a.add (i * d.sz + j)) = some u) (fun i hi => by
      obtain ⟨cs', h1, h2⟩ := hx i (Nat.lt_of_lt_of_le hi hlm)
      obtain ⟨x, hK, hB⟩ := he.out enc w base spare held n cs' _ h2
      refine ⟨x, hB, cs', d.K_len hK, hK, fun j u hj => ?_⟩
      obtain ⟨_, h4, h5⟩ := World.cells?_some h1
      have hj' : j < cs'.length := (List.getElem?_eq_some_iff.1 hj).1
      have h6 := h5 j (by rw [h4] at hj'; exact hj')
      rw [Go.Deep.add_add, hs] at h6
      rw [h6, hj])
    refine ⟨(List.range len).map X, ⟨some a, cap, by simp, by simpa using hl, by simp, ?_, fun h0 => ⟨a, rfl, fun j p hp => ?_⟩⟩, ?_, ?_⟩
    · have : cap ≤ 9223372036854775807 := by simpa [maxLen] using hm
      simp only [List.length_map, List.length_range]; omega
    · have hj : j < len := by
        have := (List.getElem?_eq_some_iff.1 hp).1
        simpa using this
      have : X j = p := by simpa [hj] using hp
      subst this
      obtain ⟨_, c, h1, h2, h3⟩ := hX j hj
      exact ⟨c, h1, h2, h3⟩
    · have : cap ≤ 9223372036854775807 := by simpa [maxLen] using hm
      simp only [List.length_map, List.length_range]; omega
    · intro x hx
      obtain ⟨j, hj, rfl⟩ := List.mem_map.1 hx
      exact (hX j (List.mem_range.1 hj)).1

/-- The fields from cell 'off' on. -/
structure OpF {α : Type} (P : Program) (off : Nat) (fs : List Field) (d : Kd α) (B : α → Prop) : Prop where
  out : ∀ {H : Type} (enc : TypeId × Value → H) (w : World) (base : Nat) (spare : Nat → Bool) (held : Bool) (n : Nat) (cs : List Value), cs.length = off + d.sz →
    (∀ f ∈ fs, ∃ y, DataW.trod enc P w base spare held n f.type ((cs.drop f.offset).take (P.cellsOf f.type)) = some y) → ∃ a : α, d.K w a (cs.drop off) ∧ B a
theorem opF_one {α : Type} {P : Program} {off : Nat} {f : Field} {d : Kd α} {B : α → Prop} (h : Opens P f.type d B) (ho : f.offset = off) (hs : P.cellsOf f.type = d.sz) : OpF P off [f] d B := by
  constructor
  intro H enc w base spare held n cs hl hf
  obtain ⟨y, hy⟩ := hf f (by simp)
  rw [ho, hs, List.take_of_length_le (by rw [List.length_drop]; omega)] at hy
  exact h.out enc w base spare held n _ _ hy
theorem opF_cons {α β : Type} {P : Program} {off : Nat} {f : Field} {fs : List Field} {d : Kd α} {d' : Kd β} {B : α → Prop} {B' : β → Prop} (h : Opens P f.type d B) (ho : f.offset = off) (hs : P.cellsOf f.type = d.sz) (hr : OpF P (off + d.sz) fs d' B') :
    OpF P off (f :: fs) (Kd.pair d d') (fun p => B p.1 ∧ B' p.2) := by
  constructor
  intro H enc w base spare held n cs hl hf
  obtain ⟨y, hy⟩ := hf f (by simp)
  rw [ho, hs] at hy
  have hl' : cs.length = off + (d.sz + d'.sz) := hl
  obtain ⟨a, hK, hB⟩ := h.out enc w base spare held n _ _ hy
  obtain ⟨b, hK', hB'⟩ := hr.out enc w base spare held n cs (by omega) (fun g hg => hf g (by simp [hg]))
  refine ⟨(a, b), ⟨(cs.drop off).take d.sz, cs.drop (off + d.sz), ?_, hK, hK'⟩, hB, hB'⟩
  rw [← List.drop_drop]
  exact (List.take_append_drop _ _).symm
theorem opens_struct {α β : Type} {P : Program} {t : TypeId} {fs : Array Field} {d : Kd α} {B : α → Prop} (f : β → α) (g : α → β) (hfg : ∀ a, f (g a) = a) (h : OpF P 0 fs.toList d B) (ht : P.underlying t = some (.struct fs)) (hs : P.cellsOf t = d.sz) :
    Opens P t (Kd.iso d f) (fun x => B (f x)) := by
  constructor
  intro H enc w base spare held fuel cs x hx
  obtain ⟨xs, n, _, _, hl, hlen, hf⟩ := DataW.trod_struct ht hx
  obtain ⟨a, hK, hB⟩ := h.out enc w base spare held n cs (by omega) (fun q hq => by
    obtain ⟨i, hi⟩ := List.mem_iff_getElem?.1 hq
    have hi' : fs[i]? = some q := by simpa using hi
    have hlt : i < xs.length := by
      have := (Array.getElem?_eq_some_iff.1 hi').1
      omega
    exact ⟨xs[i], by rw [hf i q hi', List.getElem?_eq_getElem hlt]⟩)
  refine ⟨g a, ?_, by show B (f (g a)); rw [hfg]; exact hB⟩
  show d.K w (f (g a)) cs
  rw [hfg]
  exact hK
end Go.Proofs.Ytlfilhplklifjaa.HO

/- The row of ChooseMajority: for every input the law returns true, and each argument reads as it read before: out of its pure statement (YtlfilhplklifjaaPureChooseMajority) and the printed walk. No condition. -/
namespace Go.Proofs.Ytlfilhplklifjaa.chooseMajority
open Go.ChangeShapes Go.WideShapes Go.ChangeAt Go.RowKit Go.Proofs.Ytlfilhplklifjaa.X Go.Proofs.YtlfilhplklifjaaW.PrintWords
open Go.ChangeMaps (open_string shut_string)
set_option linter.unusedVariables false
theorem own : ownKnob Try.prog.godebug = none := by kernel_rfl
theorem laidOut : laidOutB Try.prog = true := by kernel_rfl
theorem opens3 : HO.Opens Try.prog 3 (Kd.int .i64) WFi64 := HO.opens_int Try.underlying3
theorem opens37 : HO.Opens Try.prog 37 k37 WF37 := HO.opens_struct (d := (Kd.pair (Kd.int .i64) (Kd.pair (Kd.int .i64) (Kd.pair (Kd.int .i64) (Kd.pair (Kd.int .i64) (Kd.int .i64)))))) (B := fun p => WFi64 p.1 ∧ WFi64 p.2.1 ∧ WFi64 p.2.2.1 ∧ WFi64 p.2.2.2.1 ∧ WFi64 p.2.2.2.2) (fun x : S37 => (x.f0, x.f1, x.f2, x.f3, x.f4)) (fun p => (⟨p.1, p.2.1, p.2.2.1, p.2.2.2.1, p.2.2.2.2⟩ : S37)) (fun _ => rfl) (HO.opF_cons (B := WFi64) (B' := (fun p : (Int) × (Int) × (Int) × (Int) => WFi64 p.1 ∧ WFi64 p.2.1 ∧ WFi64 p.2.2.1 ∧ WFi64 p.2.2.2)) opens3 rfl (by kernel_rfl) (HO.opF_cons (B := WFi64) (B' := (fun p : (Int) × (Int) × (Int) => WFi64 p.1 ∧ WFi64 p.2.1 ∧ WFi64 p.2.2)) opens3 rfl (by kernel_rfl) (HO.opF_cons (B := WFi64) (B' := (fun p : (Int) × (Int) => WFi64 p.1 ∧ WFi64 p.2)) opens3 rfl (by kernel_rfl) (HO.opF_cons (B := WFi64) (B' := WFi64) opens3 rfl (by kernel_rfl) (HO.opF_one opens3 rfl (by kernel_rfl)))))) Try.underlying37 (by kernel_rfl)
theorem opens22 : HO.Opens Try.prog 22 (Kd.slice 37 k37) WFL37 := haveI : Inhabited S37 := ⟨z37⟩; HO.opens_slice opens37 Try.underlying22 (by kernel_rfl)
theorem opens29 : HO.Opens Try.prog 29 k29 WF29 := HO.opens_struct (d := (Kd.pair (Kd.int .i64) (Kd.int .i64))) (B := fun p => WFi64 p.1 ∧ WFi64 p.2) (fun x : S29 => (x.f0, x.f1)) (fun p => (⟨p.1, p.2⟩ : S29)) (fun _ => rfl) (HO.opF_cons (B := WFi64) (B' := WFi64) opens3 rfl (by kernel_rfl) (HO.opF_one opens3 rfl (by kernel_rfl))) Try.underlying29 (by kernel_rfl)
set_option maxRecDepth 100000 in
theorem lifted (os : Os) (started : os.Started) (H : Type) (enc : TypeId × Value → H) :
    ReturnsInHanded {} Try.checked os 5 .any (Rows.chooseMajoritySpec.pre6 enc Try.prog Try.f5 Rows.chooseMajorityRow.domain false) (Rows.chooseMajoritySpec.post enc Try.prog Try.f5 false true false false) := by
  refine returnsInHanded_of_change_sized (C := Try.checked) own started (by kernel_rfl) Try.func5
    (ChangeSpec.witness6 (enc := enc) (C := Try.checked) false ⟨#[], #[.slice none 0 0, .agg #[.int .i64 0, .int .i64 0]], []⟩ 8 (by kernel_rfl) (by kernel_rfl) (by kernel_rfl) (by kernel_rfl)) ?_
  intro W base args ds gs before hval0 hW hcnd hsz0 _
  have hval : ∀ (j : Nat) t v, Try.f5.params[j]? = some t → args[j]? = some v → Value.okWide Try.prog W .any base t v := hval0
  have hW' := hW
  obtain ⟨p, q, hA0, hV, rfl, hfz, hnd⟩ := hW
  have hA : DataW.TrodAll enc Try.prog W 0 (fun _ => true) true Try.f5.params.toList args.toList ds p := hA0
  rw [Try.params5] at hA hval
  obtain ⟨v0, vs0, d0, ds0, p0, q0, hargs, rfl, rfl, h0, r0⟩ := trodAll_cons hA
  obtain ⟨v1, vs1, d1, ds1, p1, q1, rfl, rfl, rfl, h1, r1⟩ := trodAll_cons r0
  obtain ⟨rfl, rfl, rfl⟩ := trodAll_nil r1
  obtain rfl : args = #[v0, v1] := by cases args; simp_all
  obtain ⟨rfl, rfl⟩ := trodVars_none hV
  have k0 := h0
  have lt0 : ∀ x ∈ p0, x.block < W.heap.size := by obtain ⟨m, hm⟩ := k0; exact DataW.trod_lt m _ _ _ hm
  obtain ⟨fuel0, hf0⟩ := h0
  obtain ⟨x0, K0, B0⟩ := opens22.out enc W 0 _ true fuel0 _ _ hf0
  obtain ⟨a0, len0, cap0, rfl⟩ := okWide_slice Try.underlying22 (hval 0 22 v0 rfl rfl)
  obtain ⟨A0, c0, e0, hc0, hr0⟩ := K0
  simp only [Value.cells, List.cons.injEq, Value.slice.injEq, and_true] at e0
  obtain ⟨rfl, rfl, rfl⟩ := e0
  have k1 := h1
  have lt1 : ∀ x ∈ p1, x.block < W.heap.size := by obtain ⟨m, hm⟩ := k1; exact DataW.trod_lt m _ _ _ hm
  obtain ⟨fuel1, hf1⟩ := h1
  obtain ⟨x1, K1, B1⟩ := opens29.out enc W 0 _ true fuel1 _ _ hf1
  obtain ⟨cs1, rfl, hs1⟩ := okWide_struct Try.underlying29 (hval 1 29 v1 rfl rfl)
  have e1 := k29_open K1
  obtain ⟨cl1⟩ := cs1
  simp only [Value.cells] at e1
  subst e1
  clear hA0 hval0 hsz0
  obtain ⟨k, hp⟩ := PureChooseMajority.ChooseMajority x0 x1 B0 B1
  refine (timesynclaw24_ChooseMajority.calls k _ _ x0 x1.f0 x1.f1 true W hr0 hc0 hp).mono fun e W' ⟨he, bel0⟩ => ?_
  have bel := bel0
  subst he
  exact ⟨_, rfl, _, _, _, [], _, [], hW', trodAll_mk1 (shut_bool Try.underlying4 _), (trodAll_cons_mk (Below.trod laidOut (by kernel_rfl) (of_decide_eq_true (by kernel_rfl)) k0 bel lt0) (trodAll_cons_mk (Below.trod laidOut (by kernel_rfl) (of_decide_eq_true (by kernel_rfl)) k1 bel lt1) trodAll_mk0)), rfl, bel.frame _, fun h => by cases h⟩
theorem over : Rows.chooseMajorityRow.holds Try.pinned (OpenSpec.ofChange Rows.chooseMajoritySpec) :=
  OpenClaim.holds_of_wide 5 Try.f5 rfl rfl rfl rfl rfl rfl rfl ⟨rfl, rfl, rfl, rfl, rfl⟩ rfl rfl rfl rfl rfl (by kernel_rfl) Try.func5 (by kernel_rfl)
    (of_decide_eq_true (by kernel_rfl)) (by unfold Func.isWrapper; first | (rw [if_pos (by decide +kernel)]; kernel_rfl) | (rw [if_neg (by decide +kernel)]; exact ⟨rfl, rfl⟩))
    (fun os started H enc _ => lifted os started H enc)
#print axioms over
end Go.Proofs.Ytlfilhplklifjaa.chooseMajority
namespace Go.Proofs.Ytlfilhplklifjaa
/-- The row of ChooseMajority. -/
theorem chooseMajority_holds : Rows.ChooseMajoritySaid := chooseMajority.over
end Go.Proofs.Ytlfilhplklifjaa
