/- Ytlfilhplklifjaa: part 4 of 4 of the proof that the law ChooseTruth returns true for every input, its arguments reading as before. No condition. -/
import Derived.Test.YtlfilhplklifjaaMChooseTruth3
import Derived.Test.YtlfilhplklifjaaWMore
import Derived.Deep.Slices
import Derived.DataReads
import Derived.Test.YtlfilhplklifjaaRows
import Derived.WalkKit
import Derived.ProofKit
import Derived.OpenShut
import Derived.ShutString
import Derived.ChangeOld
import Derived.Below
import Derived.SizedLaws
import Derived.WideShapes
/- The pure statement of ChooseTruth: an instant in the intervals of all lies in the selection's interval. -/
namespace Go.Proofs.Ytlfilhplklifjaa.PureChooseTruth
open Go.RowKit Go.Proofs.Ytlfilhplklifjaa.X Go.Proofs.Ytlfilhplklifjaa.PA Go.Proofs.YtlfilhplklifjaaW.PrintWords Go.Proofs.YtlfilhplklifjaaW.PrintLast Go.Proofs.YtlfilhplklifjaaW.PrintMore
theorem wf_i32 {x : Int} (h : WFi32 x) : -2147483648 ≤ x ∧ x ≤ 2147483647 := by
  simpa [WFi32, Lit.wf, IntKind.min, IntKind.max, IntKind.signed, IntKind.bits] using h
theorem wf_u32 {x : Int} (h : WFu32 x) : 0 ≤ x ∧ x ≤ 4294967295 := by
  simpa [WFu32, Lit.wf, IntKind.min, IntKind.max, IntKind.signed, IntKind.bits] using h
theorem rd83 (l : List S83) (i : Nat) : rd_T83 l (i : Int) = l.getD i z83 := by simp [rd_T83]

/-- A candidate around an instant. -/
def Good (t : Int) (j : Nat) (x : S37) : Prop := x.f0 = j ∧ x.f1 - x.f2 ≤ t ∧ t ≤ x.f1 + x.f2 ∧ -8589934592 ≤ x.f1 ∧ x.f1 ≤ 8589934592 ∧ 0 ≤ x.f2 ∧ x.f2 ≤ 8589934592 ∧ x.f3 = 0 ∧ x.f4 = 1 + j
theorem good_new {t a b : Int} {j : Nat} (ht : -2147483648 ≤ t ∧ t ≤ 2147483647) (ha : 0 ≤ a ∧ a ≤ 4294967295) (hb : 0 ≤ b ∧ b ≤ 4294967296) (he : (a + b) % 2 = 0) (hj : j < 12) :
    Good t j ⟨j, wrap64 (t + wrap64 (Int.tdiv (wrap64 (b - a)) 2)), wrap64 (Int.tdiv (wrap64 (a + b)) 2), 0, wrap64 (1 + (j : Int))⟩ := by
  rw [wrap_id (x := b - a) (by omega) (by omega), wrap_id (x := a + b) (by omega) (by omega), wrap_id (x := 1 + (j : Int)) (by omega) (by omega)]
  obtain ⟨u, hu⟩ : ∃ u, a + b = 2 * u := ⟨(a + b) / 2, by omega⟩
  have e1 : Int.tdiv (a + b) 2 = u := by rw [hu]; exact Int.mul_tdiv_cancel_left _ (by omega)
  have e2 : Int.tdiv (b - a) 2 = u - a := by
    rw [show b - a = 2 * (u - a) by omega]; exact Int.mul_tdiv_cancel_left _ (by omega)
  rw [e1, e2, wrap_id (x := u - a) (by omega) (by omega), wrap_id (x := u) (by omega) (by omega), wrap_id (x := t + (u - a)) (by omega) (by omega)]
  refine ⟨rfl, ?_, ?_, ?_, ?_, ?_, ?_, rfl, rfl⟩ <;> simp only <;> omega

theorem around_from (t : Int) (ht : -2147483648 ≤ t ∧ t ≤ 2147483647) (n : List S83) (hn : n.length ≤ 12) (hw : ∀ y ∈ n, WF83 y) : ∀ d i (acc : List S37), i + d = n.length → acc.length = i → (∀ j, j < acc.length → Good t j (acc.getD j z37)) →
    ∃ c, Ev (fun k => timesynclaw24_around.l0 k t acc n n.length i) c ∧ c.length = n.length ∧ ∀ j, j < c.length → Good t j (c.getD j z37) := by
  intro d
  induction d with
  | zero =>
    intro i acc hi ha hg
    refine ⟨acc, ?_, by omega, hg⟩
    refine Ev.step (fun k => by rw [timesynclaw24_around.l0]) ?_
    exact Ev.neg (by omega) (Ev.const rfl)
  | succ d ih =>
    intro i acc hi ha hg
    have hlt : i < n.length := by omega
    obtain ⟨h1, h2⟩ := hw n[i] (List.getElem_mem hlt)
    have ha1 := wf_u32 h1
    have hb1 := wf_u32 h2
    have st : ∀ x : S37, Good t i x → ∃ c, Ev (fun k => timesynclaw24_around.l0 k t (acc ++ [x]) n n.length ((i + 1 : Nat) : Int)) c ∧ c.length = n.length ∧ ∀ j, j < c.length → Good t j (c.getD j z37) := fun x hx => by
      refine ih (i + 1) (acc ++ [x]) (by omega) (by simp; omega) fun j hj => ?_
      rcases Nat.lt_or_ge j acc.length with hj2 | hj2
      · have : (acc ++ [x]).getD j z37 = acc.getD j z37 := by simp [List.getD, List.getElem?_append_left hj2]
        rw [this]; exact hg j hj2
      · have hji : j = i := by simp at hj; omega
        have : (acc ++ [x]).getD j z37 = x := by subst hji; subst ha; simp [List.getD]
        rw [this, hji]; exact hx
    have hgd : n.getD i z83 = n[i] := by simp [List.getD, hlt]
    have wa : wrap64 n[i].f0 = n[i].f0 := wrap_id (by omega) (by omega)
    have wb : wrap64 n[i].f1 = n[i].f1 := wrap_id (by omega) (by omega)
    by_cases he : (n[i].f0 + n[i].f1) % 2 = 0
    · obtain ⟨c, c1, c2⟩ := st _ (good_new (j := i) ht ha1 (b := n[i].f1) (by omega) he (by omega))
      refine ⟨c, ?_, c2⟩
      refine Ev.step (fun k => by rw [timesynclaw24_around.l0]) ?_
      refine Ev.pos (by omega) (Ev.pos (by omega) (Ev.pos (by omega) ?_))
      simp only [rd83]
      rw [hgd, wa, wb, wrap_nat (i := i) (by omega)]
      refine Ev.pos ?_ (Ev.pos (by omega) c1)
      rw [wrap_id (by omega) (by omega), Int.tmod_eq_emod_of_nonneg (by omega)]; exact he
    · obtain ⟨c, c1, c2⟩ := st _ (good_new (j := i) ht ha1 (b := n[i].f1 + 1) (by omega) (by omega) (by omega))
      refine ⟨c, ?_, c2⟩
      refine Ev.step (fun k => by rw [timesynclaw24_around.l0]) ?_
      refine Ev.pos (by omega) (Ev.pos (by omega) (Ev.pos (by omega) ?_))
      simp only [rd83]
      rw [hgd, wa, wb, wrap_nat (i := i) (by omega), wrap_id (x := n[i].f1 + 1) (by omega) (by omega)]
      refine Ev.neg ?_ (Ev.pos (by omega) c1)
      rw [wrap_id (by omega) (by omega), Int.tmod_eq_emod_of_nonneg (by omega)]; exact he
theorem around (t : Int) (ht : -2147483648 ≤ t ∧ t ≤ 2147483647) (l : List S83) (hl : l.length ≤ 9223372036854775807) (hw : ∀ y ∈ l, WF83 y) :
    ∃ c, Ev (fun k => timesynclaw24_around.f k t l) c ∧ c.length ≤ 12 ∧ ∀ j, j < c.length → Good t j (c.getD j z37) := by
  have hm : 0 ≤ mn (l.length : Int) 12 ∧ mn (l.length : Int) 12 ≤ l.length ∧ mn (l.length : Int) 12 ≤ 12 := by unfold mn; split <;> omega
  have hlen : (l.take (mn (l.length : Int) 12).toNat).length ≤ 12 := by rw [List.length_take]; omega
  obtain ⟨c, c1, c2, c3⟩ := around_from t ht (l.take (mn (l.length : Int) 12).toNat) hlen (fun y hy => hw y (List.mem_of_mem_take hy)) _ 0 [] (Nat.zero_add _) rfl (fun j hj => by simp at hj)
  refine ⟨c, ?_, by omega, c3⟩
  unfold timesynclaw24_around.f
  exact Ev.pos hm.1 (Ev.pos hm.2.1 (Ev.some_bind c1))

theorem good_ok {t : Int} {j : Nat} {x : S37} (h : Good t j x) (hj : j < 12) : OkC x := by
  obtain ⟨h0, _, _, h1, h2, h3, h4, h5, h6⟩ := h
  refine ⟨?_, ?_, ?_, ?_, ?_, ?_, ?_, ?_, ?_, ?_⟩ <;> omega
theorem at_mem {c : List S37} {x : S37} (h : x ∈ c) : ∃ j, j < c.length ∧ c.getD j z37 = x := by
  obtain ⟨j, hj, rfl⟩ := List.getElem_of_mem h
  exact ⟨j, hj, by simp [List.getD, hj]⟩
theorem good_chk {t : Int} {c : List S37} (hn : c.length ≤ 12) (hg : ∀ j, j < c.length → Good t j (c.getD j z37)) : chk c = 0 := by
  refine (chk_iff c).2 ⟨hn, fun x hx => ?_, List.pairwise_iff_getElem.2 fun i j hi hj hij => ?_⟩
  · obtain ⟨j, hj, rfl⟩ := at_mem hx
    exact good_ok (hg j hj) (by omega)
  · have h1 := (hg i hi).1
    have h2 := (hg j hj).1
    simp only [List.getD, List.getElem?_eq_getElem hi, List.getElem?_eq_getElem hj, Option.getD_some] at h1 h2
    omega
theorem all_hold {t : Int} {c : List S37} (hg : ∀ j, j < c.length → Good t j (c.getD j z37)) : ∀ s ∈ spans c, holds s t = true := by
  intro s hs
  obtain ⟨j, hj, rfl⟩ := span_at hs
  obtain ⟨_, h1, h2, _⟩ := hg j hj
  exact holds_iff.2 ⟨h1, h2⟩

theorem dec_bool {p : Prop} [Decidable p] {b : Bool} (h : p ↔ b = true) : decide p = b := by
  by_cases hp : p
  · rw [decide_eq_true hp, h.1 hp]
  · rw [decide_eq_false hp]
    cases b with
    | false => rfl
    | true => exact absurd (h.2 rfl) hp
theorem last_loop (c : List S37) (hn : c.length ≤ 12) (lo hi : Int) (hmaj : maj c lo hi = true) : ∀ d i, i + d = c.length →
    Ev (fun k => timesynclaw24_ChooseTruth.l0 k c (idx c (pIn lo hi)) (idx c (pOut lo hi)) c c.length i lo hi) true := by
  intro d
  induction d with
  | zero =>
    intro i hi'
    refine Ev.step (fun k => by rw [timesynclaw24_ChooseTruth.l0]) ?_
    exact Ev.neg (by omega) (Ev.bind' _ (impl_maj c lo hi) (Ev.pos hmaj awake24'))
  | succ d ih =>
    intro i hi'
    have hlt : i < c.length := by omega
    have lp := idx_le c (pIn lo hi)
    have lq := idx_le c (pOut lo hi)
    have j3 : ∀ b, b = pIn lo hi (c.getD i z37) → Ev (fun k => timesynclaw24_ChooseTruth.j3 k c (idx c (pIn lo hi)) (idx c (pOut lo hi)) i b c c.length i lo hi) true := by
      rintro b rfl
      refine Ev.step (fun k => by rw [timesynclaw24_ChooseTruth.j3]) ?_
      refine Ev.bind' _ (contains_ints _ i (by omega)) (Ev.neg ?_ (Ev.bind' _ (contains_ints _ i (by omega)) (Ev.neg ?_ ?_)))
      · have e : decide ((i : Int) ∈ idx c (pIn lo hi)) = pIn lo hi (c.getD i z37) := dec_bool (mem_idx c (pIn lo hi) i hlt)
        rw [e]
        cases pIn lo hi (c.getD i z37) <;> decide
      · have e : decide ((i : Int) ∈ idx c (pOut lo hi)) = !pIn lo hi (c.getD i z37) := dec_bool (mem_idx c (pOut lo hi) i hlt)
        rw [e]
        cases pIn lo hi (c.getD i z37) <;> decide
      · rw [wrap_nat (by omega)]
        exact ih (i + 1) (by omega)
    refine Ev.step (fun k => by rw [timesynclaw24_ChooseTruth.l0]) ?_
    refine Ev.pos (by omega) (Ev.pos (by omega) (Ev.pos (by omega) ?_))
    rw [rd37]
    refine Ev.ite_ (fun h => j3 _ ?_) (fun h => j3 _ ?_)
    · unfold pIn; rw [decide_eq_true h, Bool.true_and]
    · unfold pIn; rw [decide_eq_false h, Bool.false_and]

theorem ChooseTruth : ∀ (a0 : Int) (x1 : List (S83)), WFi32 a0 → WFL83 x1 → ∃ k, timesynclaw24_ChooseTruth.f k a0 x1 = some true := by
  intro t l ht hl
  have ht := wf_i32 ht
  refine Ev.rounds ?_
  obtain ⟨c, c1, hn, hg⟩ := around t ht l hl.1 hl.2
  have h0 := good_chk hn hg
  have hall := all_hold hg
  have wt : wrap64 t = t := wrap_id (by omega) (by omega)
  unfold timesynclaw24_ChooseTruth.f
  rw [wt]
  refine Ev.bind' _ c1 (Ev.bind' _ (impl_select c) (Ev.bind' _ (impl_fals c) ?_))
  rcases sel_cases c with ⟨h1, _⟩ | ⟨_, h1, _⟩ | ⟨p, lo, hi, h1, h2⟩
  · exact absurd h0 h1
  · have ef : fals c = ([], 11) := by unfold fals; rw [h1]; rfl
    rw [ef, h1]
    refine Ev.pos rfl (Ev.neg (by simp) (Ev.pos rfl (Ev.pos (by simp) (Ev.pos (by simp) ?_))))
    refine Ev.step (fun k => by rw [timesynclaw24_ChooseTruth.j0]) ?_
    exact Ev.neg (by decide) (Ev.neg (by simp) awake24')
  · have ef : fals c = (idx c (pOut lo hi), 0) := by unfold fals; rw [h1]; rfl
    rw [ef, h1]
    refine Ev.pos rfl (Ev.pos rfl ?_)
    obtain ⟨a, ha, hs, hp, _⟩ := h2.wit
    have hpos := h2.pos
    subst hpos
    rcases hs with ⟨_, q1, q2, q3, q4⟩ | ⟨hf, _⟩
    · have hc : cnt (spans c) t = c.length := by
        unfold cnt; rw [List.countP_eq_length.2 hall]; simp [spans]
      obtain ⟨hlo, hhi⟩ := q4 t (by omega)
      have hparts := idx_parts c lo hi
      have lp := idx_le c (pIn lo hi)
      have hmaj : maj c lo hi = true := by
        unfold maj
        rw [if_pos h0, if_neg (by omega), idx_all fun x hx => ?_]
        · simp only [decide_eq_true_eq]; omega
        · obtain ⟨j, hj, rfl⟩ := at_mem hx
          obtain ⟨_, g1, g2, _⟩ := hg j hj
          unfold pMeet
          rw [decide_eq_true (by omega), decide_eq_true (by omega)]; rfl
      refine Ev.step (fun k => by rw [timesynclaw24_ChooseTruth.j0]) ?_
      simp only [wt]
      refine Ev.neg (by simp) (Ev.pos (by trivial) (Ev.neg (by omega) (Ev.neg (by omega) (Ev.neg ?_ ?_))))
      · rw [wrap_id (by omega) (by omega)]; omega
      · refine Ev.bind' _ (is_sorted (idx_sorted c _) (by omega)) (Ev.pos rfl (Ev.bind' _ (is_sorted (idx_sorted c _) (by omega)) (Ev.pos rfl ?_)))
        refine Ev.step (fun k => by rw [timesynclaw24_ChooseTruth.j1]) ?_
        refine Ev.neg ?_ (last_loop c hn lo hi hmaj c.length 0 (by omega))
        rw [wrap_id (by omega) (by omega)]
        simp only [bne_iff_ne, ne_eq, Decidable.not_not]
        omega
    · cases hf
end Go.Proofs.Ytlfilhplklifjaa.PureChooseTruth

/- What an argument reads as, in the printed words: a type's reading gives cells of its kind, and bounds on the numbers. -/
namespace Go.Proofs.Ytlfilhplklifjaa.HO
open Go.RowKit Go.Proofs.YtlfilhplklifjaaW.PrintWords Go.Deep

structure Opens {α : Type} (P : Program) (t : TypeId) (d : Kd α) (B : α → Prop) : Prop where
  out : ∀ {H : Type} (enc : TypeId × Value → H) (w : World) (base : Nat) (spare : Nat → Bool) (held : Bool) (fuel : Nat) (cs : List Value) (x : DataW H × List MemPlace),
    DataW.trod enc P w base spare held fuel t cs = some x → ∃ a : α, d.K w a cs ∧ B a

theorem opens_int {P : Program} {t : TypeId} {k : IntKind} (ht : P.underlying t = some (.int k)) : Opens P t (Kd.int k) (fun n => (Lit.int k n).wf = true) := by
  constructor
  intro H enc w base spare held fuel cs x h
  obtain ⟨n, rfl, _, hw⟩ := DataW.trod_int ht h
  exact ⟨n, rfl, hw⟩
theorem opens_slice {α : Type} [Inhabited α] {P : Program} {t e : TypeId} {d : Kd α} {B : α → Prop} (he : Opens P e d B) (ht : P.underlying t = some (.slice e)) (hs : P.cellsOf e = d.sz) :
    Opens P t (Kd.slice e d) (fun xs => xs.length ≤ 9223372036854775807 ∧ ∀ x ∈ xs, B x) := by
  constructor
  intro H enc w base spare held fuel cs x h
  rcases open_slice ht h with ⟨rfl, _⟩ | ⟨a, len, cap, m, n, D, Pl, rfl, _, hl, hm, hmm, _, hx⟩
  · exact ⟨[], ⟨none, 0, rfl, Nat.le_refl _, rfl, by simp, fun h => by simp at h⟩, by simp, by simp⟩
  · have hlm : len ≤ m := by rw [hmm]; split <;> omega
    obtain ⟨X, hX⟩ := choose_lt (α := α) (n := len) (p := fun i x => B x ∧ ∃ c, c.length = d.sz ∧ d.K w x c ∧ ∀ j u, c[j]? = some u → w.cell? (a.add (i * d.sz + j)) = some u) (fun i hi => by
      obtain ⟨cs', h1, h2⟩ := hx i (Nat.lt_of_lt_of_le hi hlm)
      obtain ⟨x, hK, hB⟩ := he.out enc w base spare held n cs' _ h2
      refine ⟨x, hB, cs', d.K_len hK, hK, fun j u hj => ?_⟩
      obtain ⟨_, h4, h5⟩ := World.cells?_some h1
      have hj' : j < cs'.length := (List.getElem?_eq_some_iff.1 hj).1
      have h6 := h5 j (by rw [h4] at hj'; exact hj')
      rw [Go.Deep.add_add, hs] at h6
      rw [h6, hj])
    refine ⟨(List.range len).map X, ⟨some a, cap, by simp, by simpa using hl, by simp, ?_, fun h0 => ⟨a, rfl, fun j p hp => ?_⟩⟩, ?_, ?_⟩
    · have : cap ≤ 9223372036854775807 := by simpa [maxLen] using hm
      simp only [List.length_map, List.length_range]; omega
    · have hj : j < len := by
        have := (List.getElem?_eq_some_iff.1 hp).1
        simpa using this
      have : X j = p := by simpa [hj] using hp
      subst this
      obtain ⟨_, c, h1, h2, h3⟩ := hX j hj
      exact ⟨c, h1, h2, h3⟩
    · have : cap ≤ 9223372036854775807 := by simpa [maxLen] using hm
      simp only [List.length_map, List.length_range]; omega
    · intro x hx
      obtain ⟨j, hj, rfl⟩ := List.mem_map.1 hx
      exact (hX j (List.mem_range.1 hj)).1

/-- The fields from cell 'off' on. -/
structure OpF {α : Type} (P : Program) (off : Nat) (fs : List Field) (d : Kd α) (B : α → Prop) : Prop where
  out : ∀ {H : Type} (enc : TypeId × Value → H) (w : World) (base : Nat) (spare : Nat → Bool) (held : Bool) (n : Nat) (cs : List Value), cs.length = off + d.sz →
    (∀ f ∈ fs, ∃ y, DataW.trod enc P w base spare held n f.type ((cs.drop f.offset).take (P.cellsOf f.type)) = some y) → ∃ a : α, d.K w a (cs.drop off) ∧ B a
theorem opF_one {α : Type} {P : Program} {off : Nat} {f : Field} {d : Kd α} {B : α → Prop} (h : Opens P f.type d B) (ho : f.offset = off) (hs : P.cellsOf f.type = d.sz) : OpF P off [f] d B := by
  constructor
  intro H enc w base spare held n cs hl hf
  obtain ⟨y, hy⟩ := hf f (by simp)
  rw [ho, hs, List.take_of_length_le (by rw [List.length_drop]; omega)] at hy
  exact h.out enc w base spare held n _ _ hy
theorem opF_cons {α β : Type} {P : Program} {off : Nat} {f : Field} {fs : List Field} {d : Kd α} {d' : Kd β} {B : α → Prop} {B' : β → Prop} (h : Opens P f.type d B) (ho : f.offset = off) (hs : P.cellsOf f.type = d.sz) (hr : OpF P (off + d.sz) fs d' B') :
    OpF P off (f :: fs) (Kd.pair d d') (fun p => B p.1 ∧ B' p.2) := by
  constructor
  intro H enc w base spare held n cs hl hf
  obtain ⟨y, hy⟩ := hf f (by simp)
  rw [ho, hs] at hy
  have hl' : cs.length = off + (d.sz + d'.sz) := hl
  obtain ⟨a, hK, hB⟩ := h.out enc w base spare held n _ _ hy
  obtain ⟨b, hK', hB'⟩ := hr.out enc w base spare held n cs (by omega) (fun g hg => hf g (by simp [hg]))
  refine ⟨(a, b), ⟨(cs.drop off).take d.sz, cs.drop (off + d.sz), ?_, hK, hK'⟩, hB, hB'⟩
  rw [← List.drop_drop]
  exact (List.take_append_drop _ _).symm
theorem opens_struct {α β : Type} {P : Program} {t : TypeId} {fs : Array Field} {d : Kd α} {B : α → Prop} (f : β → α) (g : α → β) (hfg : ∀ a, f (g a) = a) (h : OpF P 0 fs.toList d B) (ht : P.underlying t = some (.struct fs)) (hs : P.cellsOf t = d.sz) :
    Opens P t (Kd.iso d f) (fun x => B (f x)) := by
  constructor
  intro H enc w base spare held fuel cs x hx
  obtain ⟨xs, n, _, _, hl, hlen, hf⟩ := DataW.trod_struct ht hx
  obtain ⟨a, hK, hB⟩ := h.out enc w base spare held n cs (by omega) (fun q hq => by
    obtain ⟨i, hi⟩ := List.mem_iff_getElem?.1 hq
    have hi' : fs[i]? = some q := by simpa using hi
    have hlt : i < xs.length := by
      have := (Array.getElem?_eq_some_iff.1 hi').1
      omega
    exact ⟨xs[i], by rw [hf i q hi', List.getElem?_eq_getElem hlt]⟩)
  refine ⟨g a, ?_, by show B (f (g a)); rw [hfg]; exact hB⟩
  show d.K w (f (g a)) cs
  rw [hfg]
  exact hK
end Go.Proofs.Ytlfilhplklifjaa.HO

/- The row of ChooseTruth: for every input the law returns true, and each argument reads as it read before: out of its pure statement (YtlfilhplklifjaaPureChooseTruth) and the printed walk. No condition. -/
namespace Go.Proofs.Ytlfilhplklifjaa.chooseTruth
open Go.ChangeShapes Go.WideShapes Go.ChangeAt Go.RowKit Go.Proofs.Ytlfilhplklifjaa.X Go.Proofs.YtlfilhplklifjaaW.PrintWords
open Go.ChangeMaps (open_string shut_string)
set_option linter.unusedVariables false
theorem own : ownKnob Try.prog.godebug = none := by kernel_rfl
theorem laidOut : laidOutB Try.prog = true := by kernel_rfl
theorem opens81 : HO.Opens Try.prog 81 (Kd.int .u32) WFu32 := HO.opens_int Try.underlying81
theorem opens83 : HO.Opens Try.prog 83 k83 WF83 := HO.opens_struct (d := (Kd.pair (Kd.int .u32) (Kd.int .u32))) (B := fun p => WFu32 p.1 ∧ WFu32 p.2) (fun x : S83 => (x.f0, x.f1)) (fun p => (⟨p.1, p.2⟩ : S83)) (fun _ => rfl) (HO.opF_cons (B := WFu32) (B' := WFu32) opens81 rfl (by kernel_rfl) (HO.opF_one opens81 rfl (by kernel_rfl))) Try.underlying83 (by kernel_rfl)
theorem opens53 : HO.Opens Try.prog 53 (Kd.slice 83 k83) WFL83 := haveI : Inhabited S83 := ⟨z83⟩; HO.opens_slice opens83 Try.underlying53 (by kernel_rfl)
set_option maxRecDepth 100000 in
theorem lifted (os : Os) (started : os.Started) (H : Type) (enc : TypeId × Value → H) :
    ReturnsInHanded {} Try.checked os 10 .any (Rows.chooseTruthSpec.pre6 enc Try.prog Try.f10 Rows.chooseTruthRow.domain false) (Rows.chooseTruthSpec.post enc Try.prog Try.f10 false true false false) := by
  refine returnsInHanded_of_change_sized (C := Try.checked) own started (by kernel_rfl) Try.func10
    (ChangeSpec.witness6 (enc := enc) (C := Try.checked) false ⟨#[], #[.int .i32 0, .slice none 0 0], []⟩ 8 (by kernel_rfl) (by kernel_rfl) (by kernel_rfl) (by kernel_rfl)) ?_
  intro W base args ds gs before hval0 hW hcnd hsz0 _
  have hval : ∀ (j : Nat) t v, Try.f10.params[j]? = some t → args[j]? = some v → Value.okWide Try.prog W .any base t v := hval0
  have hW' := hW
  obtain ⟨p, q, hA0, hV, rfl, hfz, hnd⟩ := hW
  have hA : DataW.TrodAll enc Try.prog W 0 (fun _ => true) true Try.f10.params.toList args.toList ds p := hA0
  rw [Try.params10] at hA hval
  obtain ⟨v0, vs0, d0, ds0, p0, q0, hargs, rfl, rfl, h0, r0⟩ := trodAll_cons hA
  obtain ⟨v1, vs1, d1, ds1, p1, q1, rfl, rfl, rfl, h1, r1⟩ := trodAll_cons r0
  obtain ⟨rfl, rfl, rfl⟩ := trodAll_nil r1
  obtain rfl : args = #[v0, v1] := by cases args; simp_all
  obtain ⟨rfl, rfl⟩ := trodVars_none hV
  obtain ⟨a0, rfl, rfl, rfl, w0⟩ := open_int Try.underlying21 (hval 0 21 v0 rfl rfl) h0
  have k1 := h1
  have lt1 : ∀ x ∈ p1, x.block < W.heap.size := by obtain ⟨m, hm⟩ := k1; exact DataW.trod_lt m _ _ _ hm
  obtain ⟨fuel1, hf1⟩ := h1
  obtain ⟨x1, K1, B1⟩ := opens53.out enc W 0 _ true fuel1 _ _ hf1
  obtain ⟨a1, len1, cap1, rfl⟩ := okWide_slice Try.underlying53 (hval 1 53 v1 rfl rfl)
  obtain ⟨A1, c1, e1, hc1, hr1⟩ := K1
  simp only [Value.cells, List.cons.injEq, Value.slice.injEq, and_true] at e1
  obtain ⟨rfl, rfl, rfl⟩ := e1
  clear hA0 hval0 hsz0
  obtain ⟨k, hp⟩ := PureChooseTruth.ChooseTruth a0 x1 w0 B1
  refine (timesynclaw24_ChooseTruth.calls k a0 _ _ x1 true W hr1 hc1 hp).mono fun e W' ⟨he, bel0⟩ => ?_
  have bel := bel0
  subst he
  exact ⟨_, rfl, _, _, _, [], _, [], hW', trodAll_mk1 (shut_bool Try.underlying4 _), (trodAll_cons_mk (shut_int Try.underlying21 w0) (trodAll_cons_mk (Below.trod laidOut (by kernel_rfl) (of_decide_eq_true (by kernel_rfl)) k1 bel lt1) trodAll_mk0)), rfl, bel.frame _, fun h => by cases h⟩
theorem over : Rows.chooseTruthRow.holds Try.pinned (OpenSpec.ofChange Rows.chooseTruthSpec) :=
  OpenClaim.holds_of_wide 10 Try.f10 rfl rfl rfl rfl rfl rfl rfl ⟨rfl, rfl, rfl, rfl, rfl⟩ rfl rfl rfl rfl rfl (by kernel_rfl) Try.func10 (by kernel_rfl)
    (of_decide_eq_true (by kernel_rfl)) (by unfold Func.isWrapper; first | (rw [if_pos (by decide +kernel)]; kernel_rfl) | (rw [if_neg (by decide +kernel)]; exact ⟨rfl, rfl⟩))
    (fun os started H enc _ => lifted os started H enc)
#print axioms over
end Go.Proofs.Ytlfilhplklifjaa.chooseTruth
namespace Go.Proofs.Ytlfilhplklifjaa
/-- The row of ChooseTruth. -/
theorem chooseTruth_holds : Rows.ChooseTruthSaid := chooseTruth.over
end Go.Proofs.Ytlfilhplklifjaa
